/- SerialSigns holds: where nothing is written as it is, each sign begins a tag. No condition. -/
import Derived.Test.YtohkgmnoamfmgaaMI
import Derived.Shelf.Strings.Count
import Derived.Test.YtohkgmnoamfmgaaRows
import Derived.HandedShaped
import Derived.Shelf.Vars
import Derived.ChangeMaps5
namespace Go.Proofs.Ytohkgmnoamfmgaa
set_option linter.unusedSimpArgs false
set_option linter.unusedVariables false
open Go Go.RowKit
set_option maxRecDepth 100000

inductive ReachT (t : Tr) (k : Int) : Int → Prop
  | refl : ReachT t k k
  | step {y x : Int} : ReachT t k y → 0 ≤ y → y < (t.length : Int) → x ∈ (nodeAt t y).kids → ReachT t k x
theorem ReachT.kid {t : Tr} {i k x : Int} (h : ReachT t k x) (h0 : 0 ≤ i) (h1 : i < (t.length : Int)) (hk : k ∈ (nodeAt t i).kids) : ReachT t i x := by
  induction h with
  | refl => exact .step .refl h0 h1 hk
  | step _ y0 y1 hx ih => exact .step ih y0 y1 hx
structure LocT (t : Tr) (g : Int → List Int → Str × List Int) : Prop where
  mono : ∀ k S x, x ∈ S → x ∈ (g k S).2
  add : ∀ k S x, x ∈ (g k S).2 → x ∈ S ∨ ReachT t k x
  same : ∀ k S1 S2, (∀ x, ReachT t k x → (x ∈ S1 ↔ x ∈ S2)) → (g k S1).1 = (g k S2).1 ∧ ∀ x, ReachT t k x → (x ∈ (g k S1).2 ↔ x ∈ (g k S2).2)
section
variable {t : Tr} {g : Int → List Int → Str × List Int}
theorem LocT.monoK (h : LocT t g) : ∀ (ks : List Int) (S : List Int) (x : Int), x ∈ S → x ∈ (kidsT g ks S).2
  | [], S, x, hx => hx
  | k :: r, S, x, hx => h.monoK r _ x (h.mono k S x hx)
theorem LocT.addK (h : LocT t g) : ∀ (ks : List Int) (S : List Int) (x : Int), x ∈ (kidsT g ks S).2 → x ∈ S ∨ ∃ k, k ∈ ks ∧ ReachT t k x
  | [], S, x, hx => .inl hx
  | k :: r, S, x, hx => by
    rcases h.addK r _ x hx with h1 | ⟨k', h1, h2⟩
    · rcases h.add k S x h1 with h2 | h2
      · exact .inl h2
      · exact .inr ⟨k, by simp, h2⟩
    · exact .inr ⟨k', by simp [h1], h2⟩
theorem LocT.sameK (h : LocT t g) : ∀ (ks : List Int) (S1 S2 : List Int), (∀ k, k ∈ ks → ∀ x, ReachT t k x → (x ∈ S1 ↔ x ∈ S2)) → (kidsT g ks S1).1 = (kidsT g ks S2).1 ∧ ∀ k, k ∈ ks → ∀ x, ReachT t k x → (x ∈ (kidsT g ks S1).2 ↔ x ∈ (kidsT g ks S2).2)
  | [], S1, S2, _ => ⟨rfl, fun k hk => by cases hk⟩
  | k :: r, S1, S2, hs => by
    have hk := h.same k S1 S2 (hs k (by simp))
    have step : ∀ k', k' ∈ k :: r → ∀ x, ReachT t k' x → (x ∈ (g k S1).2 ↔ x ∈ (g k S2).2) := fun k' hk' x hx => by
      by_cases hr : ReachT t k x
      · exact hk.2 x hr
      · have e := hs k' hk' x hx
        constructor
        · intro h1
          rcases h.add k S1 x h1 with h2 | h2
          · exact h.mono k S2 x (e.1 h2)
          · exact absurd h2 hr
        · intro h1
          rcases h.add k S2 x h1 with h2 | h2
          · exact h.mono k S1 x (e.2 h2)
          · exact absurd h2 hr
    have ih := h.sameK r _ _ fun k' hk' => step k' (by simp [hk'])
    refine ⟨by simp only [kidsT, hk.1, ih.1], fun k' hk' x hx => ?_⟩
    simp only [kidsT]
    by_cases hr : ∃ k'', k'' ∈ r ∧ ReachT t k'' x
    · obtain ⟨k'', h1, h2⟩ := hr
      exact ih.2 k'' h1 x h2
    · have e := step k' hk' x hx
      constructor
      · intro h1
        rcases h.addK r _ x h1 with h2 | h2
        · exact h.monoK r _ x (e.1 h2)
        · exact absurd h2 hr
      · intro h1
        rcases h.addK r _ x h1 with h2 | h2
        · exact h.monoK r _ x (e.2 h2)
        · exact absurd h2 hr
/-- disjoint kids: each one's text as if it were alone -/
theorem LocT.join (h : LocT t g) : ∀ (ks : List Int) (S : List Int), ks.Pairwise (fun k k' => ∀ x, ReachT t k x → ¬ ReachT t k' x) → (∀ k, k ∈ ks → ∀ x, ReachT t k x → x ∉ S) → (kidsT g ks S).1 = ks.flatMap fun k => (g k []).1
  | [], S, _, _ => rfl
  | k :: r, S, hp, hs => by
    rw [List.pairwise_cons] at hp
    have e1 := (h.same k S [] fun x hx => by simp [hs k (by simp) x hx]).1
    have ih := h.join r (g k S).2 hp.2 fun k' hk' x hx h1 => by
      rcases h.add k S x h1 with h2 | h2
      · exact hs k' (by simp [hk']) x hx h2
      · exact hp.1 k' hk' x h2 hx
    simp only [kidsT, List.flatMap_cons, e1, ih]
end
theorem txt_loc (void raw : Nd → Bool) (t : Tr) : ∀ f, LocT t (txtF void raw t f)
  | 0 => ⟨fun k S x h => h, fun k S x h => .inl h, fun k S1 S2 h => ⟨rfl, h⟩⟩
  | f + 1 => by
    have ih := txt_loc void raw t f
    have kr : ∀ k, ¬ (k < 0 ∨ (t.length : Int) ≤ k) → ∀ k', k' ∈ (nodeAt t k).kids → ∀ x, ReachT t k' x → ReachT t k x := fun k hk k' hk' x hx => hx.kid (by omega) (by omega) hk'
    refine ⟨fun k S x h => ?_, fun k S x h => ?_, fun k S1 S2 h => ?_⟩
    · have m := ih.monoK (nodeAt t k).kids (S ++ [k]) x (by simp [h])
      simp only [txtF]
      split
      · exact h
      · split
        · exact m
        · split
          · exact m
          · split
            · simp [h]
            · split
              · simp [h]
              · split <;> simp [h]
    · simp only [txtF] at h
      split at h
      · exact .inl h
      · rename_i hc
        have hc' : ¬ (k < 0 ∨ (t.length : Int) ≤ k) := fun e => hc (e.elim .inl fun e => .inr (.inl e))
        have one : x ∈ S ++ [k] → x ∈ S ∨ ReachT t k x := fun h => by
          rcases List.mem_append.1 h with h | h
          · exact .inl h
          · rw [List.mem_singleton] at h; subst h; exact .inr .refl
        have many : x ∈ (kidsT (txtF void raw t f) (nodeAt t k).kids (S ++ [k])).2 → x ∈ S ∨ ReachT t k x := fun h => by
          rcases ih.addK _ _ x h with h | ⟨k', h1, h2⟩
          · exact one h
          · exact .inr (kr k hc' k' h1 x h2)
        split at h
        · exact many h
        · split at h
          · exact many h
          · split at h
            · exact one h
            · split at h
              · exact one h
              · split at h <;> exact one h
    · have hk := h k .refl
      simp only [txtF, hk]
      split
      · exact ⟨rfl, h⟩
      · rename_i hc
        have hc' : ¬ (k < 0 ∨ (t.length : Int) ≤ k) := fun e => hc (e.elim .inl fun e => .inr (.inl e))
        have one : ∀ x, ReachT t k x → (x ∈ S1 ++ [k] ↔ x ∈ S2 ++ [k]) := fun x hx => by
          simp only [List.mem_append, h x hx]
        have sk := ih.sameK (nodeAt t k).kids (S1 ++ [k]) (S2 ++ [k]) fun k' hk' x hx => one x (kr k hc' k' hk' x hx)
        have many : ∀ x, ReachT t k x → (x ∈ (kidsT (txtF void raw t f) (nodeAt t k).kids (S1 ++ [k])).2 ↔ x ∈ (kidsT (txtF void raw t f) (nodeAt t k).kids (S2 ++ [k])).2) := fun x hx => by
          by_cases hr : ∃ k', k' ∈ (nodeAt t k).kids ∧ ReachT t k' x
          · obtain ⟨k', h1, h2⟩ := hr
            exact sk.2 k' h1 x h2
          · constructor
            · intro h1
              rcases ih.addK _ _ x h1 with h2 | h2
              · exact ih.monoK _ _ x ((one x hx).1 h2)
              · exact absurd h2 hr
            · intro h1
              rcases ih.addK _ _ x h1 with h2 | h2
              · exact ih.monoK _ _ x ((one x hx).2 h2)
              · exact absurd h2 hr
        split
        · exact ⟨sk.1, many⟩
        · split
          · exact ⟨by simp only [sk.1], many⟩
          · split
            · exact ⟨rfl, one⟩
            · split
              · exact ⟨rfl, one⟩
              · split <;> exact ⟨rfl, one⟩
end Go.Proofs.Ytohkgmnoamfmgaa
namespace Go.Proofs.Ytohkgmnoamfmgaa
set_option linter.unusedSimpArgs false
set_option linter.unusedVariables false
open Go Go.RowKit
set_option maxRecDepth 100000

theorem right_kid {t : Tr} (h : rightB t = true) {y x : Int} (y0 : 0 ≤ y) (y1 : y < (t.length : Int)) (hx : x ∈ (nodeAt t y).kids) : 0 ≤ x ∧ x < (t.length : Int) ∧ (nodeAt t x).up = y := by
  simp only [rightB, Bool.and_eq_true, List.all_eq_true, decide_eq_true_eq] at h
  obtain ⟨n, rfl⟩ : ∃ n : Nat, y = n := ⟨y.toNat, by omega⟩
  have hn := h.2.2.2.1 n (by simp; omega)
  simp only [okNd, Bool.and_eq_true, Bool.not_eq_true', List.any_eq_false] at hn
  have hb := hn.2.2 x hx
  simp only [badC, Bool.or_eq_true, decide_eq_true_eq, not_or] at hb
  omega
theorem right_up0 {t : Tr} (h : rightB t = true) : (nodeAt t 0).up = -1 := by
  simp only [rightB, Bool.and_eq_true, decide_eq_true_eq] at h
  exact h.2.2.1
theorem right_no0 {t : Tr} (h : rightB t = true) {k : Int} (hk : (nodeAt t k).up = 0) : ¬ ReachT t k 0 := fun hr => by
  have h0 := right_up0 h
  cases hr with
  | refl => omega
  | step _ y0 y1 hx =>
    have := (right_kid h y0 y1 hx).2.2
    omega
theorem right_same {t : Tr} (h : rightB t = true) {k k' : Int} (hk : (nodeAt t k).up = 0) (hk' : (nodeAt t k').up = 0) : ∀ {x : Int}, ReachT t k x → ReachT t k' x → k = k' := by
  intro x hx
  induction hx with
  | refl =>
    intro h2
    cases h2 with
    | refl => rfl
    | step hr y0 y1 hy =>
      have := (right_kid h y0 y1 hy).2.2
      rw [hk] at this
      subst this
      exact absurd hr (right_no0 h hk')
  | step hr y0 y1 hy ih =>
    intro h2
    have e1 := (right_kid h y0 y1 hy).2.2
    cases h2 with
    | refl =>
      rw [hk'] at e1
      subst e1
      exact absurd hr (right_no0 h hk)
    | step hr2 z0 z1 hz =>
      have e2 := (right_kid h z0 z1 hz).2.2
      rw [e1] at e2
      subst e2
      exact ih hr2
theorem txt_fuel (void raw : Nd → Bool) {t : Tr} (hf : t.all fewNd = true) : ∀ (f : Nat) (i : Int) (S : List Int), SOK t S → t.length < f + S.length → txtF void raw t (f + 1) i S = txtF void raw t f i S
  | 0, i, S, h, hl => by
    have := sok_len t h
    omega
  | f + 1, i, S, h, hl => by
    by_cases hc : i < 0 ∨ (t.length : Int) ≤ i ∨ i ∈ S
    · simp only [txtF, hc, if_true]
    · have hS := h.add t (i := i) (by omega) (by omega) fun e => hc (.inr (.inr e))
      have kids : ∀ (ks : List Int) (S' : List Int), SOK t S' → t.length < f + S'.length → kidsT (txtF void raw t (f + 1)) ks S' = kidsT (txtF void raw t f) ks S' := by
        intro ks
        induction ks with
        | nil => intro S' _ _; rfl
        | cons k r ih =>
          intro S' h' hl'
          have e := txt_fuel void raw hf f k S' h' hl'
          have gr := txt_grows void raw t hf f k S' h'
          have hle := gr.le
          simp only [kidsT, e]
          rw [ih _ gr.ok (by omega)]
      have e := kids (nodeAt t i).kids (S ++ [i]) hS (by simp only [List.length_append, List.length_cons, List.length_nil]; omega)
      rw [txtF, txtF]
      simp only [hc, if_false, e]
end Go.Proofs.Ytohkgmnoamfmgaa
namespace Go.Proofs.Ytohkgmnoamfmgaa
set_option linter.unusedSimpArgs false
set_option linter.unusedVariables false
open Go Go.RowKit
set_option maxRecDepth 100000

theorem kids_fuel (void raw : Nd → Bool) {t : Tr} (hf : t.all fewNd = true) {f : Nat} : ∀ (ks : List Int) (S : List Int), SOK t S → t.length < f + S.length → kidsT (txtF void raw t (f + 1)) ks S = kidsT (txtF void raw t f) ks S
  | [], S, _, _ => rfl
  | k :: r, S, h, hl => by
    have e := txt_fuel void raw hf f k S h hl
    have gr := txt_grows void raw t hf f k S h
    have hle := gr.le
    simp only [kidsT, e]
    rw [kids_fuel void raw hf r _ gr.ok (by omega)]
theorem right_nodup {t : Tr} (h : rightB t = true) : (nodeAt t 0).kids.Nodup := by
  have hne : t ≠ [] := (right_root h).2
  have hl : 0 < t.length := List.length_pos_iff.2 hne
  rw [List.nodup_iff_count]
  intro x
  by_cases hx : x ∈ (nodeAt t 0).kids
  · obtain ⟨x0, x1, hu⟩ := right_kid h (Int.le_refl 0) (by omega) hx
    obtain ⟨n, rfl⟩ : ∃ n : Nat, x = n := ⟨x.toNat, by omega⟩
    simp only [rightB, Bool.and_eq_true, List.all_eq_true, decide_eq_true_eq] at h
    have hn := h.2.2.2.1 n (by simp; omega)
    simp only [okNd, Bool.and_eq_true, Bool.not_eq_true', badB, hu, Bool.and_eq_false_iff, Bool.or_eq_false_iff, decide_eq_false_iff_not] at hn
    have h1 : timesB (nodeAt t 0).kids n = 1 := by
      rcases hn.2.1 with h | h
      · omega
      · have := h.2; omega
    have e : (nodeAt t 0).kids.count (n : Int) = timesB (nodeAt t 0).kids n := by
      unfold timesB List.count
      congr 1
    omega
  · rw [List.count_eq_zero_of_not_mem hx]; omega
theorem join_root {t : Tr} (h : rightB t = true) (hf : t.all fewNd = true) : serT t 0 = (nodeAt t 0).kids.flatMap (serT t) := by
  obtain ⟨hk, hne⟩ := right_root h
  have hl : 0 < t.length := List.length_pos_iff.2 hne
  have hS : SOK t [0] := ⟨by simp, fun x hx => by rw [List.mem_singleton] at hx; subst hx; omega⟩
  have e1 : serT t 0 = (kidsT (txtS t t.length) (nodeAt t 0).kids [0]).1 := by
    have hc : ¬ ((0 : Int) < 0 ∨ (t.length : Int) ≤ 0 ∨ (0 : Int) ∈ ([] : List Int)) := by simp; omega
    show (txtF voidN rawB t (t.length + 1) 0 []).1 = _
    rw [txtF]
    simp only [hc, if_false, hk, if_true, List.nil_append]
  have e2 := kids_fuel voidN rawB hf (f := t.length) (nodeAt t 0).kids [0] hS (by simp)
  rw [e1]
  have e3 := (txt_loc voidN rawB t (t.length + 1)).join (nodeAt t 0).kids [0] ?_ ?_
  · rw [e2] at e3
    exact e3
  · refine List.Pairwise.imp_of_mem ?_ (right_nodup h)
    intro k k' m m' hkk x hx hx'
    have u := (right_kid h (Int.le_refl 0) (by omega) m).2.2
    have u' := (right_kid h (Int.le_refl 0) (by omega) m').2.2
    exact hkk (right_same h u u' hx hx')
  · intro k m x hx hm
    rw [List.mem_singleton] at hm
    subst hm
    exact right_no0 h (right_kid h (Int.le_refl 0) (by omega) m).2.2 hx
end Go.Proofs.Ytohkgmnoamfmgaa
namespace Go.Proofs.Ytohkgmnoamfmgaa
set_option linter.unusedSimpArgs false
set_option linter.unusedVariables false
open Go Go.RowKit
set_option maxRecDepth 100000

def lays138_ren : Go.Shelf.Ren := ⟨fun | 138 => 18 | 195 => 32 | 218 => 33 | 143 => 30 | 219 => 52 | 217 => 65 | 225 => 66 | 224 => 67 | 267 => 68 | 266 => 74 | 314 => 75 | n => n, fun | 0 => 0 | 9 => 9 | 3 => 3 | 4 => 4 | 5 => 5 | 46 => 93 | 146 => 95 | 51 => 94 | n => n, fun | 1 => 0 | n => n⟩
theorem lays138 : Go.Proofs.Lays.n138 Try.prog lays138_ren where
  mixed := by kernel_rfl
  f138 := Try.func18.trans (congrArg some (by kernel_rfl))
  f143 := Try.func30.trans (congrArg some (by kernel_rfl))
  f195 := Try.func32.trans (congrArg some (by kernel_rfl))
  f217 := Try.func65.trans (congrArg some (by kernel_rfl))
  f218 := Try.func33.trans (congrArg some (by kernel_rfl))
  f219 := Try.func52.trans (congrArg some (by kernel_rfl))
  f224 := Try.func67.trans (congrArg some (by kernel_rfl))
  f225 := Try.func66.trans (congrArg some (by kernel_rfl))
  f266 := Try.func74.trans (congrArg some (by kernel_rfl))
  f267 := Try.func68.trans (congrArg some (by kernel_rfl))
  f314 := Try.func75.trans (congrArg some (by kernel_rfl))
  t0 := Try.underlying0
  a0 := Try.isAgg0
  z0 := Try.sizeOf0
  v0 := Try.zeroValue0
  t3 := Try.underlying3
  a3 := Try.isAgg3
  z3 := Try.sizeOf3
  v3 := Try.zeroValue3
  t4 := Try.underlying4
  a4 := Try.isAgg4
  z4 := Try.sizeOf4
  v4 := Try.zeroValue4
  t5 := Try.underlying5
  a5 := Try.isAgg5
  z5 := Try.sizeOf5
  v5 := Try.zeroValue5
  t9 := Try.underlying9
  a9 := Try.isAgg9
  z9 := Try.sizeOf9
  v9 := Try.zeroValue9
  t46 := Try.underlying93
  a46 := Try.isAgg93
  z46 := Try.sizeOf93
  v46 := Try.zeroValue93
  t51 := Try.underlying94
  a51 := Try.isAgg94
  z51 := Try.sizeOf94
  v51 := Try.zeroValue94
  t146 := Try.underlying95
  a146 := Try.isAgg95
  z146 := Try.sizeOf95
  v146 := Try.zeroValue95
  g1 := by kernel_rfl
theorem count_at (s : ByteArray) (c : UInt8) (w : World) : Calls Try.prog 18 #[.string s, .string ⟨#[c]⟩] w fun e w' => e = .returned (.int .i64 (Lib.countByte s.data.toList c)) ∧ w' = w := Any.strings_Count_one lays138 s c w
theorem c18 {T : List (Entry Try.prog)} (s : Str) (c : UInt8) : CallAt (ctx T) 18 [.str s, .str [c]] ⟨0, []⟩ (.int .i64 (s.count c : Nat)) ⟨0, []⟩ := by
  intro ρ w xs sm hx
  match xs, hx with
  | [x, y], hx =>
    have h0 := hx.2 0 (by simp) (by simp)
    have h1 := hx.2 1 (by simp) (by simp)
    simp only [List.getElem_cons_zero, List.getElem_cons_succ] at h0 h1
    cases h0; cases h1
    have hrun : (callFunc 18 #[.string ⟨s.toArray⟩, .string ⟨[c].toArray⟩]).run (ctx T).P w = .ok (.enter 18 #[.string ⟨s.toArray⟩, .string ⟨[c].toArray⟩]) w := by
      have hf : (ctx T).P.funcs[18]? = some Try.f18 := Try.func18
      have hn : ¬ Try.f18.name = "runtime.NumGoroutine" := by decide +kernel
      simp [callFunc, hf, hn, Try.f18]
    refine .inr ⟨18, _, hrun, callsIn_wide.2 ((count_at ⟨s.toArray⟩ c w).mono ?_)⟩
    rintro e w' ⟨rfl, rfl⟩
    exact ⟨_, ρ, rfl, .int _ _, sm, Step.refl _ _ _⟩
noncomputable def e18 : Entry Try.prog := mkE 18 [[], []] (fun x : Str × Str => [.str x.1, .str x.2]) (fun x => ∃ c, x.2 = [c]) (fun x => .int .i64 (x.1.count (x.2.headD 0) : Nat)) fun x h => by
  obtain ⟨s, y⟩ := x
  obtain ⟨c, rfl⟩ := h
  exact c18 (T := []) s c
theorem k18 {T : List (Entry Try.prog)} (hT : findE 18 T = some e18.g) (s : Str) (c : UInt8) (H : Heap) : callL (ctx T) (.fn 18) [.str s, .str [c]] H = some (.int .i64 (s.count c : Nat), H) :=
  mkE_scalar hT inj_str2 (s, [c]) ⟨c, rfl⟩ rfl (by simp)
theorem index_one (c : UInt8) : ∀ s : Str, (0 ≤ Lib.index s [c]) ↔ c ∈ s
  | [] => by simp [Lib.index]
  | b :: l => by
    have ih := index_one c l
    have ge := Lib.index_ge l [c]
    by_cases hb : c = b
    · subst hb
      simp [Lib.index, List.isPrefixOf]
    · have hb' : (c == b) = false := by simpa using hb
      simp only [Lib.index, List.isPrefixOf, hb', Bool.false_and, if_neg Bool.false_ne_true, List.mem_cons, hb, false_or]
      split
      · rename_i h
        rw [beq_iff_eq] at h
        rw [← ih, h]
      · rename_i h
        rw [beq_iff_eq] at h
        rw [← ih]
        omega
theorem c16 {T : List (Entry Try.prog)} (hI : findE 30 T = some e30.g) (s : Str) (c : UInt8) (hl : s.length ≤ 1000000) : CallAt (ctx T) 16 [.str s, .str [c]] ⟨0, []⟩ (.bool (decide (c ∈ s))) ⟨0, []⟩ := by
  have hk := fun H => k30 hI (s := s) (t := [c]) hl H
  refine callAt_body (fn := Try.f16) (s0 := ⟨[0, 1, 4], [.str s, .str [c], .undef], [], 9, ⟨0, [[]]⟩⟩) Try.func16 rfl rfl rfl ?_
  (repeat (first
    | (refine wps_seq ?_)
    | (refine wps_block ?_)
    | (refine wps_label ?_; simp only [thenQ, blockQ])
    | ((refine wps_region callOK ?_); simp [ofV, ofV1, mkC_P, writeVar, writeCells, readCells, allSingle, AV.single, getFs, getF, setFs, setF, Heap.get, Heap.set, Heap.new, Heap.kill, killF, pushF, Heap.ready, refs, sliceParts, fillA, replL, hk])
    | (refine wps_cond (t := true) rfl (fun _ => ?_) (fun h => by cases h))
    | (refine wps_cond (t := false) rfl (fun h => by cases h) (fun _ => ?_))
    | ((refine wps_skip ?_); simp only [thenQ, blockQ])
    | ((refine wps_exit ?_); simp [thenQ, blockQ])))
  repeat refine wps_seq ?_
  refine wps_ret ?_
  simp [retVal, Try.f16, oneOr, thenQ, blockQ]
  exact ends_pure rfl (by simp [index_one])
noncomputable def e16 : Entry Try.prog := mkE 16 [[], []] (fun x : Str × Str => [.str x.1, .str x.2]) (fun x => x.1.length ≤ 1000000 ∧ ∃ c, x.2 = [c]) (fun x => .bool (decide (x.2.headD 0 ∈ x.1))) fun x h => by
  obtain ⟨s, y⟩ := x
  obtain ⟨hl, c, rfl⟩ := h
  exact c16 (T := [e30]) rfl s c hl
theorem k16 {T : List (Entry Try.prog)} (hT : findE 16 T = some e16.g) {s : Str} (c : UInt8) (hl : s.length ≤ 1000000) (H : Heap) : callL (ctx T) (.fn 16) [.str s, .str [c]] H = some (.bool (decide (c ∈ s)), H) :=
  mkE_scalar hT inj_str2 (s, [c]) ⟨hl, c, rfl⟩ rfl (by simp)
end Go.Proofs.Ytohkgmnoamfmgaa
namespace Go.Proofs.Ytohkgmnoamfmgaa
set_option linter.unusedSimpArgs false
set_option linter.unusedVariables false
open Go Go.RowKit
set_option maxRecDepth 100000

theorem refOf_no (q : Bool) (c : UInt8) (r : Str) : (60 : UInt8) ∉ (refOf q (c :: r)).1 ∧ (c = 60 → (refOf q (c :: r)).1 ≠ []) := by
  simp only [refOf]
  by_cases h1 : c = 38
  · subst h1; simp
  by_cases h2 : c = 60
  · subst h2; simp
  by_cases h3 : c = 62
  · subst h3; simp
  by_cases h4 : c = 34
  · subst h4; cases q <;> simp
  by_cases h5 : c = 194
  · subst h5
    by_cases h6 : r.head? = some 160 <;> simp [h6]
  · simp [h1, h2, h3, h4, h5]
theorem esc_no (q : Bool) : ∀ (n : Nat) (s : Str), s.length ≤ n → (60 : UInt8) ∉ esc q s
  | n, [], _ => by simp [esc, escF]
  | 0, c :: r, h => by simp at h
  | n + 1, c :: r, h => by
    simp only [List.length_cons] at h
    rw [esc_cons]
    obtain ⟨a, b⟩ := refOf_no q c r
    have h1 := esc_no q n r (by omega)
    have h2 := esc_no q n ((c :: r).drop (refOf q (c :: r)).2) (by
      have := refOf_n q (c :: r)
      simp; omega)
    split
    · rename_i he
      intro hm
      rcases List.mem_cons.1 hm with hm | hm
      · exact b hm.symm he
      · exact h1 hm
    · intro hm
      rcases List.mem_append.1 hm with hm | hm
      · exact a hm
      · exact h2 hm
theorem esc_count (q : Bool) (s : Str) : (esc q s).count 60 = 0 := List.count_eq_zero_of_not_mem (esc_no q _ s (Nat.le_refl _))
def signN (n : Nd) : Bool := decide ((60 : UInt8) ∈ n.name) || n.attrs.any fun a => decide ((60 : UInt8) ∈ a.1)
/-- what the law goes by -/
def oddN (n : Nd) : Bool := decide (2 < n.kind) || (signN n || (rawB n || (decide (n.kind = 1) && (voidN n && decide (0 < n.kids.length)))))
def cN (n : Nd) : Nat := if n.kind = 1 then (if voidN n = true then 1 else 2) else 0
def sumC (t : Tr) (L : List Int) : Nat := (L.map fun x => cN (nodeAt t x)).sum
theorem sumC_app (t : Tr) (L M : List Int) : sumC t (L ++ M) = sumC t L + sumC t M := by simp [sumC]
theorem sumC_one (t : Tr) (x : Int) : sumC t [x] = cN (nodeAt t x) := by simp [sumC]
theorem open_count {n : Nd} (h : signN n = false) : (openT n).count 60 = 1 := by
  simp only [signN, Bool.or_eq_false_iff, decide_eq_false_iff_not, List.any_eq_false, decide_eq_true_eq] at h
  obtain ⟨h1, h2⟩ := h
  have ha : ∀ l : List At1, (∀ a, a ∈ l → (60 : UInt8) ∉ a.1) → (l.flatMap fun a => [32] ++ a.1 ++ [61, 34] ++ esc true a.2 ++ [34]).count (60 : UInt8) = 0 := by
    intro l
    induction l with
    | nil => intro _; rfl
    | cons a r ih =>
      intro h
      have e1 := ih fun b hb => h b (by simp [hb])
      have e2 := List.count_eq_zero_of_not_mem (h a (by simp))
      have e3 := esc_count true a.2
      simp only [List.flatMap_cons, List.count_append, e1, e2, e3]
      rfl
  have e1 := ha n.attrs h2
  have e2 := List.count_eq_zero_of_not_mem h1
  simp only [openT, List.count_append, e1, e2]
  rfl
theorem close_count {n : Nd} (h : signN n = false) : (closeT n).count 60 = 1 := by
  simp only [signN, Bool.or_eq_false_iff, decide_eq_false_iff_not] at h
  have e2 := List.count_eq_zero_of_not_mem h.1
  simp only [closeT, List.count_append, e2]
  rfl
theorem right_nokids {t : Tr} (h : rightB t = true) {i : Int} (i0 : 0 ≤ i) (i1 : i < (t.length : Int)) (hk : 1 < (nodeAt t i).kind) : (nodeAt t i).kids = [] := by
  cases hks : (nodeAt t i).kids with
  | nil => rfl
  | cons k r =>
    exfalso
    obtain ⟨k0, k1, hu⟩ := right_kid h i0 i1 (x := k) (by rw [hks]; simp)
    obtain ⟨n, rfl⟩ : ∃ n : Nat, k = n := ⟨k.toNat, by omega⟩
    simp only [rightB, Bool.and_eq_true, List.all_eq_true, decide_eq_true_eq] at h
    have hn := h.2.2.2.1 n (by simp; omega)
    simp [okNd, badB, hu, i0, hk] at hn
theorem right_kind {t : Tr} (h : rightB t = true) {i : Int} (i0 : 0 ≤ i) (i1 : i < (t.length : Int)) : 0 ≤ (nodeAt t i).kind := by
  obtain ⟨n, rfl⟩ : ∃ n : Nat, i = n := ⟨i.toNat, by omega⟩
  by_cases hz : n = 0
  · subst hz
    have := (right_root h).1
    simp only [Int.natCast_zero] at *
    omega
  · simp only [rightB, Bool.and_eq_true, List.all_eq_true, decide_eq_true_eq] at h
    have hn := h.2.2.2.1 n (by simp; omega)
    simp only [okNd, badA, Bool.and_eq_true, Bool.not_eq_true', Bool.and_eq_false_iff, Bool.or_eq_false_iff, decide_eq_false_iff_not] at hn
    rcases hn.1 with h | h
    · omega
    · omega
def goodT (t : Tr) (x : Int) : Prop := (nodeAt t x).kind = 0 ∨ oddN (nodeAt t x) = false
theorem good_raw {t : Tr} {x : Int} (h : goodT t x) : rawB (nodeAt t x) = false := by
  rcases h with h | h
  · simp [rawB, h]
  · simp only [oddN, Bool.or_eq_false_iff] at h
    exact h.2.2.1
theorem good_kind {t : Tr} {x : Int} (h : goodT t x) : (nodeAt t x).kind ≤ 2 := by
  rcases h with h | h
  · omega
  · simp only [oddN, Bool.or_eq_false_iff, decide_eq_false_iff_not] at h
    omega
theorem good_sign {t : Tr} {x : Int} (h : goodT t x) (hk : (nodeAt t x).kind = 1) : signN (nodeAt t x) = false := by
  rcases h with h | h
  · omega
  · simp only [oddN, Bool.or_eq_false_iff] at h
    exact h.2.1
theorem good_void {t : Tr} {x : Int} (h : goodT t x) (hk : (nodeAt t x).kind = 1) (hv : voidN (nodeAt t x) = true) : (nodeAt t x).kids = [] := by
  rcases h with h | h
  · omega
  · simp only [oddN, Bool.or_eq_false_iff, hk, hv, decide_true, Bool.true_and, decide_eq_false_iff_not, Nat.not_lt, Nat.le_zero_eq] at h
    exact List.length_eq_zero_iff.1 h.2.2.2
def RelT (n : Nat) (w : Wk) (S : List Int) : Prop := w.l = S ∧ ∀ x : Nat, x < n → (w.inn.getD x 0 < 0 ↔ (x : Int) ∉ S)
theorem RelT.into {n : Nat} {w : Wk} {S : List Int} (h : RelT n w S) (hl : w.inn.length = n) (hc : 0 ≤ w.c) {i : Nat} (hi : i < n) : RelT n (into i w) (S ++ [(i : Int)]) := by
  refine ⟨by simp [Go.Proofs.Ytohkgmnoamfmgaa.into, h.1], fun x hx => ?_⟩
  have := h.2 x hx
  simp only [Go.Proofs.Ytohkgmnoamfmgaa.into, List.getD_eq_getElem?_getD, List.getElem?_set, List.mem_append, List.mem_singleton] at this ⊢
  by_cases e : i = x
  · subst e
    simp [hl, hx]
    omega
  · have e' : ¬ (x : Int) = (i : Int) := by omega
    simp only [e, if_false, e', or_false]
    exact this
theorem vis_mono {n f i : Nat} {ks : Nat → List Int} {w : Wk} {x : Int} (hi : i < n) (hn : w.inn.getD i 0 < 0) (h : x ∈ w.l) : x ∈ (vis n ks f i w).l :=
  vis_inv (P := fun w => x ∈ w.l) (fun i w _ _ h => by simp [into, h]) (fun i w h => h) f i w hi hn h
theorem kl_mono {n f : Nat} {ks : Nat → List Int} {w : Wk} {x : Int} (r : List Int) (h : x ∈ w.l) : x ∈ (kl n (vis n ks f) r w).l :=
  kl_inv (P := fun w => x ∈ w.l) (fun i w hi hn h => vis_mono hi hn h) r w h
theorem sign_kids {t : Tr} {G : List Int} {f : Nat}
    (ih : ∀ (i : Nat) (w : Wk) (S : List Int), Low t.length t.length 0 w → RelT t.length w S → i < t.length → w.inn.getD i 0 < 0 → negs w.inn ≤ f → (∀ x, x ∈ (vis t.length (kidsOf t) f i w).l → x ∈ G) → ((nodeAt t i).kind = 2 → rawB (nodeAt t (nodeAt t i).up) = false) →
      ∃ r, (txtS t (f + 1) i S).2 = S ++ r ∧ RelT t.length (vis t.length (kidsOf t) f i w) (S ++ r) ∧ (txtS t (f + 1) i S).1.count 60 = sumC t r) :
    ∀ (ks : List Int) (w : Wk) (S : List Int), Low t.length t.length 0 w → RelT t.length w S → negs w.inn ≤ f → (∀ k, k ∈ ks → 0 ≤ k ∧ k < (t.length : Int) ∧ ((nodeAt t k).kind = 2 → rawB (nodeAt t (nodeAt t k).up) = false)) → (∀ x, x ∈ (kl t.length (vis t.length (kidsOf t) f) ks w).l → x ∈ G) →
      ∃ r, (kidsT (txtS t (f + 1)) ks S).2 = S ++ r ∧ RelT t.length (kl t.length (vis t.length (kidsOf t) f) ks w) (S ++ r) ∧ (kidsT (txtS t (f + 1)) ks S).1.count 60 = sumC t r
  | [], w, S, hl, hr, hf, hk, hG => ⟨[], by simp [kidsT], by simpa [kl] using hr, by simp [kidsT, sumC]⟩
  | k :: r, w, S, hl, hr, hf, hk, hG => by
    obtain ⟨k0, k1, hkr⟩ := hk k (by simp)
    obtain ⟨m, rfl⟩ : ∃ m : Nat, k = m := ⟨k.toNat, by omega⟩
    unfold kl at hG ⊢
    simp only [Int.toNat_natCast] at hG ⊢
    have hm := hr.2 m (by omega)
    by_cases hc : 0 ≤ (m : Int) ∧ (m : Int) < (t.length : Int) ∧ w.inn.getD m 0 < 0
    · simp only [hc, and_self, if_true] at hG ⊢
      obtain ⟨o1, o2⟩ := vis_ok (ks := kidsOf t) f 0 m w (Int.le_refl 0) hl (by omega) hc.2.2 hf
      obtain ⟨r1, e1, e2, e3⟩ := ih m w S hl hr (by omega) hc.2.2 hf (fun x hx => hG x (kl_mono r hx)) hkr
      obtain ⟨r2, a1, a2, a3⟩ := sign_kids ih r _ (S ++ r1) o1 e2 (by omega) (fun k hk' => hk k (by simp [hk'])) hG
      refine ⟨r1 ++ r2, ?_, ?_, ?_⟩
      · simp only [kidsT, e1, a1, List.append_assoc]
      · rw [← List.append_assoc]; exact a2
      · simp only [kidsT, List.count_append, e1, e3, a3, sumC_app]
    · rw [if_neg hc] at hG ⊢
      have hS : (m : Int) ∈ S := Classical.byContradiction fun h => hc ⟨k0, k1, hm.2 h⟩
      have e : txtS t (f + 1) m S = ([], S) := by simp [txtF, hS]
      obtain ⟨r2, a1, a2, a3⟩ := sign_kids ih r w S hl hr hf (fun k hk' => hk k (by simp [hk'])) hG
      exact ⟨r2, by simp only [kidsT, e, a1], a2, by simp only [kidsT, e, List.nil_append, a3]⟩
theorem sign_all {t : Tr} (h : rightB t = true) {G : List Int} (hG : ∀ x, x ∈ G → goodT t x) : ∀ (f i : Nat) (w : Wk) (S : List Int), Low t.length t.length 0 w → RelT t.length w S → i < t.length → w.inn.getD i 0 < 0 → negs w.inn ≤ f → (∀ x, x ∈ (vis t.length (kidsOf t) f i w).l → x ∈ G) → ((nodeAt t i).kind = 2 → rawB (nodeAt t (nodeAt t i).up) = false) →
      ∃ r, (txtS t (f + 1) i S).2 = S ++ r ∧ RelT t.length (vis t.length (kidsOf t) f i w) (S ++ r) ∧ (txtS t (f + 1) i S).1.count 60 = sumC t r
  | 0, i, w, S, hl, hr, hi, hn, hf, hx, hu => by
    have e := negs_set (I := w.inn) (c := 0) (by rw [hl.1.li]; exact hi) hn (Int.le_refl 0)
    omega
  | f + 1, i, w, S, hl, hr, hi, hn, hf, hx, hu => by
    have hS : (i : Int) ∉ S := (hr.2 i hi).1 hn
    have hc : ¬ ((i : Int) < 0 ∨ (t.length : Int) ≤ (i : Int) ∨ (i : Int) ∈ S) := by simp only [hS, or_false]; omega
    obtain ⟨h1, h2, h3⟩ := hl.1.into hi hn
    have hr1 := hr.into hl.1.li hl.1.c0 hi
    have hiG : (i : Int) ∈ G := hx i (by
      unfold vis
      exact kl_mono _ (by simp [into]))
    have gi := hG _ hiG
    have hkk : kidsOf t i = (nodeAt t i).kids := by
      rw [← kidsOf_at hi, nodeAt_get hi]
    have i1 : (i : Int) < (t.length : Int) := by omega
    have kd := right_kind h (i := i) (by omega) i1
    have k2 := good_kind gi
    unfold vis at hx ⊢
    simp only [outof] at hx ⊢
    rw [hkk] at hx ⊢
    have out : ∀ (W : Wk) (S' : List Int), RelT t.length W S' → RelT t.length ⟨W.l, W.inn, W.out.set i W.c, W.c + 1⟩ S' := fun W S' h => h
    have low1 : Low t.length t.length 0 (into i w) := ⟨h1, by omega⟩
    obtain ⟨r, e1, e2, e3⟩ := sign_kids (G := G) (fun i w S a b c d e g j => sign_all h hG f i w S a b c d e g j) (nodeAt t i).kids (into i w) (S ++ [(i : Int)]) low1 hr1 (by omega)
      (fun k hk => by
        obtain ⟨a, b, c⟩ := right_kid h (by omega) i1 hk
        exact ⟨a, b, fun _ => by rw [c]; exact good_raw gi⟩) hx
    have one : ∀ (ks : (nodeAt t i).kids = []), r = [] := fun ks => by
      rw [ks] at e1
      simpa [kidsT] using e1.symm
    rcases (by omega : (nodeAt t i).kind = 0 ∨ (nodeAt t i).kind = 1 ∨ (nodeAt t i).kind = 2) with hk | hk | hk
    · have et : txtS t (f + 2) i S = kidsT (txtS t (f + 1)) (nodeAt t i).kids (S ++ [(i : Int)]) := by
        show txtF voidN rawB t (f + 1 + 1) i S = _
        rw [txtF]
        simp only [hc, if_false, hk, if_true]
      rw [et]
      refine ⟨[(i : Int)] ++ r, by rw [e1, List.append_assoc], out _ _ (by rw [← List.append_assoc]; exact e2), ?_⟩
      rw [e3, sumC_app, sumC_one]
      simp [cN, hk]
    · have hk0 : ¬ (nodeAt t i).kind = 0 := by omega
      have et : txtS t (f + 2) i S = (if voidN (nodeAt t i) = true then openT (nodeAt t i) else openT (nodeAt t i) ++ (kidsT (txtS t (f + 1)) (nodeAt t i).kids (S ++ [(i : Int)])).1 ++ closeT (nodeAt t i), (kidsT (txtS t (f + 1)) (nodeAt t i).kids (S ++ [(i : Int)])).2) := by
        show txtF voidN rawB t (f + 1 + 1) i S = _
        rw [txtF, if_neg hc, if_neg hk0, if_pos hk]
      rw [et]
      have sg := good_sign gi hk
      have oc := open_count sg
      have cc := close_count sg
      refine ⟨[(i : Int)] ++ r, by rw [e1, List.append_assoc], out _ _ (by rw [← List.append_assoc]; exact e2), ?_⟩
      by_cases hv : voidN (nodeAt t i) = true
      · have hr0 := one (good_void gi hk hv)
        subst hr0
        simp [hv, oc, sumC_one, cN, hk]
      · simp only [hv, if_false, List.count_append, oc, cc, e3, sumC_app, sumC_one, cN, hk, if_true]
        simp
        omega
    · have hk0 : ¬ (nodeAt t i).kind = 0 := by omega
      have hk1 : ¬ (nodeAt t i).kind = 1 := by omega
      have hr0 := one (right_nokids h (by omega) i1 (by omega))
      subst hr0
      have et : txtS t (f + 2) i S = (charsT rawB t (nodeAt t i), S ++ [(i : Int)]) := by
        show txtF voidN rawB t (f + 1 + 1) i S = _
        rw [txtF, if_neg hc, if_neg hk0, if_neg hk1, if_pos hk]
      rw [et]
      refine ⟨[(i : Int)], rfl, out _ _ (by simpa using e2), ?_⟩
      have hur := hu hk
      simp [charsT, hur, esc_count, sumC_one, cN, hk]
/-- as many signs as the elements say -/
theorem sign_count {t : Tr} (h : rightB t = true) (hG : ∀ x, x ∈ orderOf t.length (kidsOf t) → goodT t x) : (serT t 0).count 60 = sumC t (orderOf t.length (kidsOf t)) := by
  obtain ⟨hk, hne⟩ := right_root h
  have hl : 0 < t.length := List.length_pos_iff.2 hne
  have hl' : ¬ t.length = 0 := by omega
  have eo : orderOf t.length (kidsOf t) = (vis t.length (kidsOf t) t.length 0 (w0 t.length)).l := by simp only [orderOf, hl', if_false]
  rw [eo] at hG ⊢
  obtain ⟨r, e1, e2, e3⟩ := sign_all h (G := (vis t.length (kidsOf t) t.length 0 (w0 t.length)).l) hG t.length 0 (w0 t.length) [] (w0_ok _) ⟨rfl, fun x hx => by simp [w0, List.getD_eq_getElem?_getD, hx]⟩ hl (by simp [w0, List.getD_eq_getElem?_getD, hl]) (by simp [w0, negs_rep]) (fun x hx => hx) (fun hk2 => by
    simp only [Int.natCast_zero] at hk2
    omega)
  have := e2.1
  rw [this, List.nil_append, ← e3]
  rfl
theorem order_head {n : Nat} {ks : Nat → List Int} (hn : 0 < n) : ∃ r, orderOf n ks = 0 :: r := by
  obtain ⟨m, rfl⟩ : ∃ m, n = m + 1 := ⟨n - 1, by omega⟩
  have hn' : ¬ m + 1 = 0 := by omega
  simp only [orderOf, hn', if_false]
  unfold vis
  exact kl_inv (P := fun w => ∃ r, w.l = 0 :: r) (fun i w hi hn h => vis_inv (P := fun w => ∃ r, w.l = 0 :: r) (fun i w _ _ h => by obtain ⟨r, e⟩ := h; exact ⟨r ++ [(i : Int)], by simp [into, e]⟩) (fun i w h => h) m i w hi hn h) (ks 0) (into 0 (w0 (m + 1))) ⟨[], by simp [into, w0]⟩
end Go.Proofs.Ytohkgmnoamfmgaa
namespace Go.Proofs.Ytohkgmnoamfmgaa
set_option linter.unusedSimpArgs false
set_option linter.unusedVariables false
open Go Go.RowKit
set_option maxRecDepth 100000

theorem cN_le (n : Nd) : cN n ≤ 2 := by
  unfold cN
  split
  · split <;> omega
  · omega
theorem sumC_le (t : Tr) : ∀ L : List Int, sumC t L ≤ 2 * L.length
  | [] => by simp [sumC]
  | x :: r => by
    have h1 := sumC_le t r
    have h2 := cN_le (nodeAt t x)
    simp only [sumC, List.map_cons, List.sum_cons, List.length_cons] at h1 ⊢
    omega
def oddTo (n : Nd) (j : Nat) : Bool := decide ((60 : UInt8) ∈ n.name) || (n.attrs.take j).any fun a => decide ((60 : UInt8) ∈ a.1)
theorem add_two {i : Nat} (h : i ≤ 1000000000) : wr .i64 ((i : Int) + 2) = some ((i + 2 : Nat) : Int) := by
  rw [wr_small (by omega) (by omega)]; simp
theorem sub_one2 {i : Nat} (h : i ≤ 1000000000) : wr .i64 (((i + 2 : Nat) : Int) - 1) = some ((i + 1 : Nat) : Int) := by
  rw [wr_small (by omega) (by omega)]
  congr 1
  omega
theorem sub_one3 {i : Nat} (h : i ≤ 1000000000) : wr .i64 ((i : Int) + 2 - 1) = some ((i + 1 : Nat) : Int) := by
  rw [wr_small (by omega) (by omega)]
  congr 1
  omega
theorem sub_one4 {i : Nat} (h : i ≤ 1000000000) : wr .i64 ((i : Int) + 1) = some ((i + 1 : Nat) : Int) := by
  rw [wr_small (by omega) (by omega)]
  congr 1
theorem c5 {T : List (Entry Try.prog)} (hA : findE 8 T = some e8.g) (hP : findE 6 T = some e6.g) (h1 : findE 9 T = some e9.g) (hO : findE 15 T = some e15.g) (hC : findE 16 T = some e16.g) (hR : findE 14 T = some e14.g) (hV : findE 17 T = some e17.g) (hN : findE 18 T = some e18.g) (t : Tr) :
    CallAt (ctx T) 5 [aTree t] ⟨0, []⟩ (.bool true) ⟨0, []⟩ := by
  have ka := fun H => k8 hA H
  have kp := fun H => k6 hP t (m := 30) (by omega) H
  simp only [aTree] at kp
  cases hf : mayTr t 30 with
  | false =>
    rw [hf] at kp
    refine callAt_body (fn := Try.f5) (s0 := ⟨[0, 1, 2, 3, 4, 5, 6, 7, 9, 15, 16, 17, 31, 32, 33], [aTree t, .undef, .undef, .undef, .undef, .undef, .undef, .undef, .undef, .undef, .undef, .undef, .undef, .undef, .undef], [], 98, ⟨0, [[]]⟩⟩) Try.func5 rfl rfl rfl ?_
    (repeat (first
      | (refine wps_seq ?_)
      | (refine wps_block ?_)
      | (refine wps_label ?_; simp only [thenQ, blockQ])
      | ((refine wps_region callOK ?_); simp [ofV, ofV1, mkC_P, writeVar, writeCells, readCells, allSingle, AV.single, getFs, getF, setFs, setF, Heap.get, Heap.set, Heap.new, Heap.kill, killF, pushF, Heap.ready, refs, sliceParts, fillA, replL, aTree, kp, ka])
      | (refine wps_cond (t := true) rfl (fun _ => ?_) (fun h => by cases h))
      | (refine wps_cond (t := false) rfl (fun h => by cases h) (fun _ => ?_))
      | ((refine wps_skip ?_); simp only [thenQ, blockQ])
      | ((refine wps_exit ?_); simp [thenQ, blockQ])))
    repeat refine wps_seq ?_
    refine wps_ret ?_
    simp [retVal, Try.f5, oneOr, thenQ, blockQ]
    exact ends_pure rfl (by rfl)
  | true =>
    rw [hf] at kp
    simp only [mayTr, Bool.and_eq_true] at hf
    have hs := few_small (by omega) hf.1
    have hfw : t.all fewNd = true := by
      have := hf.1
      simp only [fewTr, Bool.and_eq_true] at this
      exact this.2
    have hne := (right_root hf.2).2
    have hl : 0 < t.length := List.length_pos_iff.2 hne
    have q1 := fun H => k9 h1 hs hfw H
    have ko := fun H => k15 hO hs.2 H
    have kn := fun H => k18 hN (serT t 0) 60 H
    have sc := sign_count hf.2
    have hmem := fun y (h : y ∈ orderOf t.length (kidsOf t)) => order_mem h
    have hlen := order_len (n := t.length) (ks := kidsOf t)
    have hs1 := hs.1
    obtain ⟨Lr, hLr⟩ := order_head (ks := kidsOf t) hl
    have hk0 := (right_root hf.2).1
    have hL0 : ∀ h : 0 < (orderOf t.length (kidsOf t)).length, (orderOf t.length (kidsOf t))[0] = 0 := fun h => by simp [hLr]
    simp only [aTree] at q1 ko
    generalize orderOf t.length (kidsOf t) = L at *
    have g0 : ∀ (m : Nat) (f : List (Nat × Blk)), getF 0 f = some (.cells [aNodes t]) → FitH 0 [(0, 0)] [] ⟨m, [f]⟩ ⟨1, [[(0, .cells [aNodes t])]]⟩ := fun m f hf => .id1 (g := [(0, .cells [aNodes t])]) (by simp) (by simp) (by simp [Heap.get, getFs, hf, pureL])
    refine callAt_body (fn := Try.f5) (s0 := ⟨[0, 1, 2, 3, 4, 5, 6, 7, 9, 15, 16, 17, 31, 32, 33], [aTree t, .undef, .undef, .undef, .undef, .undef, .undef, .undef, .undef, .undef, .undef, .undef, .undef, .undef, .undef], [], 98, ⟨0, [[]]⟩⟩) Try.func5 rfl rfl rfl ?_
    repeat refine wps_seq ?_
    refine wps_region callOK ?_
    simp [ofV, ofV1, mkC_P, writeVar, writeCells, readCells, allSingle, AV.single, getFs, getF, setFs, setF, Heap.get, Heap.set, Heap.new, Heap.kill, killF, pushF, Heap.ready, refs, sliceParts, fillA, replL, aTree]
    repeat refine wps_seq ?_
    refine wps_region callOK ?_
    simp [ofV, ofV1, mkC_P, writeVar, writeCells, readCells, allSingle, AV.single, getFs, getF, setFs, setF, Heap.get, Heap.set, Heap.new, Heap.kill, killF, pushF, Heap.ready, refs, sliceParts, fillA, replL, kp]
    repeat refine wps_seq ?_
    refine wps_cond (t := false) rfl (fun h => by cases h) fun _ => ?_
    repeat refine wps_seq ?_
    refine wps_skip ?_
    simp
    repeat refine wps_seq ?_
    refine wps_region callOK ?_
    simp [ofV, ofV1, mkC_P, writeVar, writeCells, readCells, allSingle, AV.single, getFs, getF, setFs, setF, Heap.get, Heap.set, Heap.new, Heap.kill, killF, pushF, Heap.ready, refs, sliceParts, fillA, replL]
    repeat refine wps_seq ?_
    refine wps_region callOK ?_
    simp [ofV, ofV1, mkC_P, writeVar, writeCells, readCells, allSingle, AV.single, getFs, getF, setFs, setF, Heap.get, Heap.set, Heap.new, Heap.kill, killF, pushF, Heap.ready, refs, sliceParts, fillA, replL, ko, lenI]
    repeat refine wps_seq ?_
    refine wps_block (wps_loop' (fun i : Nat => (⟨[0, 1, 2, 3, 4, 5, 6, 7, 9, 15, 16, 17, 31, 32, 33], [.undef, .ptr 0 0, .undef, .int .i64 (sumC t (L.take i) : Nat), .undef, .undef, .undef, .undef, .undef, aInts L, .int .i64 (L.length : Nat), .int .i64 i, .undef, .undef, .undef], [], 98, ⟨1, [[(0, .cells [aNodes t])]]⟩⟩ : St))
      (fun i => i ≤ L.length ∧ ∀ x, x ∈ L.take i → goodT t x) (fun i => L.length - i) [(0, 0)] [] 0 ⟨Nat.zero_le _, by simp⟩ ⟨rfl, rfl, rfl, by simp [fitL, fitV, lookN, pureV, aInts, sumC], g0 _ _ rfl⟩ ?_)
    rintro i ⟨hi, hgood⟩ B hB
    repeat refine wps_seq ?_
    refine wps_region callOK ?_
    simp [ofV, ofV1, mkC_P, writeVar, writeCells, readCells, allSingle, AV.single, getFs, getF, setFs, setF, Heap.get, Heap.set, Heap.new, Heap.kill, killF, pushF, Heap.ready, refs, sliceParts, fillA, replL]
    repeat refine wps_seq ?_
    refine wps_cond rfl (fun hlt => ?_) fun hlt => ?_
    · simp at hlt
      repeat refine wps_seq ?_
      refine wps_skip ?_
      simp
      repeat refine wps_seq ?_
      refine wps_block ?_
      obtain ⟨y0, y1⟩ := hmem L[i] (List.getElem_mem _)
      have hz : i = 0 → (nodeAt t L[i]).kind = 0 := fun e => by
        subst e
        rw [hL0 hlt, hk0]
      have hsum : sumC t (L.take (i + 1)) = sumC t (L.take i) + cN (nodeAt t L[i]) := by
        rw [List.take_succ_eq_append_getElem hlt, sumC_app, sumC_one]
      have hgood' : goodT t L[i] → ∀ x, x ∈ L.take (i + 1) → goodT t x := fun h x hx => by
        rw [List.take_succ_eq_append_getElem hlt] at hx
        rcases List.mem_append.1 hx with hx | hx
        · exact hgood x hx
        · rw [List.mem_singleton] at hx; subst hx; exact h
      have hle := sumC_le t (L.take i)
      have hle2 : sumC t (L.take i) ≤ 1000 := by
        have : (L.take i).length ≤ L.length := List.length_take_le' _ _
        omega
      have fw := List.all_eq_true.1 hfw _ (nodeAt_mem y0 y1)
      repeat refine wps_seq ?_
      refine wps_region callOK ?_
      simp [ofV, ofV1, mkC_P, writeVar, writeCells, readCells, allSingle, AV.single, getFs, getF, setFs, setF, Heap.get, Heap.set, Heap.new, Heap.kill, killF, pushF, Heap.ready, refs, sliceParts, fillA, replL, atI hlt]
      obtain ⟨y, hy⟩ : ∃ y, y = L[i] := ⟨_, rfl⟩
      rw [← hy] at y0 y1 hz hsum hgood' fw ⊢
      refine wps_seq ?_
      obtain ⟨n, hn⟩ : ∃ n, n = nodeAt t y := ⟨_, rfl⟩
      repeat refine wps_seq ?_
      refine wps_region callOK ?_
      simp [ofV, ofV1, mkC_P, writeVar, writeCells, readCells, allSingle, AV.single, getFs, getF, setFs, setF, Heap.get, Heap.set, Heap.new, Heap.kill, killF, pushF, sliceParts, fillA, replL, atX y0 y1]
      rw [← hn] at hz hsum fw ⊢
      have fw' := fw
      simp only [fewNd, fewAts, Bool.and_eq_true, decide_eq_true_eq, List.all_eq_true] at fw'
      obtain ⟨fn, _, _, fl, fa⟩ := fw'
      have kc := fun H => k16 hC (s := n.name) 60 (by omega) H
      have kr := fun H => k14 hR n H
      have kv := fun H => k17 hV n.space n.name H
      repeat refine wps_seq ?_
      refine wps_region callOK ?_
      simp [ofV, ofV1, mkC_P, writeVar, writeCells, readCells, allSingle, AV.single, getFs, getF, setFs, setF, Heap.get, Heap.set, Heap.new, Heap.kill, killF, pushF, Heap.ready, refs, sliceParts, fillA, replL, kc]
      repeat refine wps_seq ?_
      refine wps_region callOK ?_
      simp [ofV, ofV1, mkC_P, writeVar, writeCells, readCells, allSingle, AV.single, getFs, getF, setFs, setF, Heap.get, Heap.set, Heap.new, Heap.kill, killF, pushF, Heap.ready, refs, sliceParts, fillA, replL, lenA1]
      have g1 : ∀ (m : Nat) (f : List (Nat × Blk)), getF 1 f = some (.cells n.cs) → getF 0 f = some (.cells [aNodes t]) → FitH 0 [(1, 1), (0, 0)] [] ⟨m, [f]⟩ ⟨2, [[(1, .cells n.cs), (0, .cells [aNodes t])]]⟩ := fun m f e1 e0 => .id1 (g := [(1, .cells n.cs), (0, .cells [aNodes t])]) (by simp) (by simp) (by simp [Heap.get, getFs, e1, e0, pureL])
      repeat refine wps_seq ?_
      refine wps_block (wps_loop' (fun j : Nat => (⟨[0, 1, 2, 3, 4, 5, 6, 7, 9, 15, 16, 17, 31, 32, 33], [.undef, .ptr 0 0, .undef, .int .i64 (sumC t (L.take i) : Nat), .int .i64 i, .int .i64 y, .ptr 1 0, .bool (oddTo n j), .undef, aInts L, .int .i64 (L.length : Nat), .int .i64 i, aAttrs n.attrs, .int .i64 (n.attrs.length : Nat), .int .i64 j], [], 98, ⟨2, [[(1, .cells n.cs), (0, .cells [aNodes t])]]⟩⟩ : St))
        (fun j => j ≤ n.attrs.length) (fun j => n.attrs.length - j) [(1, 1), (0, 0)] [] 0 (Nat.zero_le _) ⟨rfl, rfl, rfl, by simp [fitL, fitV, lookN, pureV, aInts, aAttrs, oddTo], g1 _ _ rfl rfl⟩ ?_)
      rintro j hj B2 hB2
      repeat refine wps_seq ?_
      refine wps_region callOK ?_
      simp [ofV, ofV1, mkC_P, writeVar, writeCells, readCells, allSingle, AV.single, getFs, getF, setFs, setF, Heap.get, Heap.set, Heap.new, Heap.kill, killF, pushF, Heap.ready, refs, sliceParts, fillA, replL]
      repeat refine wps_seq ?_
      refine wps_cond rfl (fun h2 => ?_) fun h2 => ?_
      · simp at h2
        repeat refine wps_seq ?_
        refine wps_skip ?_
        simp
        repeat refine wps_seq ?_
        refine wps_block ?_
        have fj := fa _ (List.getElem_mem h2)
        simp only [fewAt, decide_eq_true_eq] at fj
        have kca := fun H => k16 hC (s := n.attrs[j].1) 60 (by omega) H
        have hnx : oddTo n (j + 1) = (oddTo n j || decide ((60 : UInt8) ∈ n.attrs[j].1)) := by
          simp only [oddTo]
          rw [List.take_succ_eq_append_getElem h2, List.any_append]
          simp [Bool.or_assoc]
        generalize hb0 : oddTo n j = b0 at *
        repeat refine wps_seq ?_
        refine wps_region callOK ?_
        simp [ofV, ofV1, mkC_P, writeVar, writeCells, readCells, allSingle, AV.single, getFs, getF, setFs, setF, Heap.get, Heap.set, Heap.new, Heap.kill, killF, pushF, Heap.ready, refs, sliceParts, fillA, replL, atA h2, rdA1]
        cases b0 with
        | true =>
          repeat refine wps_seq ?_
          refine wps_region callOK ?_
          simp [ofV, ofV1, mkC_P, writeVar, writeCells, readCells, allSingle, AV.single, getFs, getF, setFs, setF, Heap.get, Heap.set, Heap.new, Heap.kill, killF, pushF, Heap.ready, refs, sliceParts, fillA, replL]
          repeat refine wps_seq ?_
          refine wps_region callOK ?_
          simp [ofV, ofV1, mkC_P, writeVar, writeCells, readCells, allSingle, AV.single, getFs, getF, setFs, setF, Heap.get, Heap.set, Heap.new, Heap.kill, killF, pushF, Heap.ready, refs, sliceParts, fillA, replL, add_one (show j ≤ 1000000000 by omega)]
          exact hB2 _ (j + 1) (by omega) (by omega) ⟨[(1, 1), (0, 0)], [], rfl, rfl, rfl, by rw [hnx]; simp [fitL, fitV, lookN, pureV, aInts, aAttrs], g1 _ _ rfl rfl⟩
        | false =>
          repeat refine wps_seq ?_
          refine wps_region callOK ?_
          simp [ofV, ofV1, mkC_P, writeVar, writeCells, readCells, allSingle, AV.single, getFs, getF, setFs, setF, Heap.get, Heap.set, Heap.new, Heap.kill, killF, pushF, Heap.ready, refs, sliceParts, fillA, replL, kca]
          repeat refine wps_seq ?_
          refine wps_region callOK ?_
          simp [ofV, ofV1, mkC_P, writeVar, writeCells, readCells, allSingle, AV.single, getFs, getF, setFs, setF, Heap.get, Heap.set, Heap.new, Heap.kill, killF, pushF, Heap.ready, refs, sliceParts, fillA, replL, add_one (show j ≤ 1000000000 by omega)]
          exact hB2 _ (j + 1) (by omega) (by omega) ⟨[(1, 1), (0, 0)], [], rfl, rfl, rfl, by rw [hnx]; simp [fitL, fitV, lookN, pureV, aInts, aAttrs], g1 _ _ rfl rfl⟩
      · simp at h2
        repeat refine wps_seq ?_
        refine wps_exit ?_
        simp
        obtain ⟨sg, hsg⟩ : ∃ sg, sg = signN n := ⟨_, rfl⟩
        rw [show oddTo n j = sg by rw [hsg, oddTo, List.take_of_length_le h2]; rfl]
        refine wps_join (goodT t y) ((⟨[0, 1, 2, 3, 4, 5, 6, 7, 9, 15, 16, 17, 31, 32, 33], [.undef, .ptr 0 0, .undef, .int .i64 (sumC t (L.take i) : Nat), .int .i64 i, .int .i64 y, .ptr 1 0, .bool sg, .undef, aInts L, .int .i64 (L.length : Nat), .int .i64 i, aAttrs n.attrs, .int .i64 (n.attrs.length : Nat), .int .i64 j], [], 98, ⟨2, [[(1, .cells n.cs), (0, .cells [aNodes t])]]⟩⟩ : St)) (fun hgy => ?_) fun hj => ?_
        rotate_left
        · by_cases c0 : 0 < i
          · have c0' : (0 : Int) < (i : Int) := by omega
            have go : oddN n = false → goodT t y := fun h => .inr (hn ▸ h)
            by_cases c1 : 2 < n.kind
            · repeat refine wps_seq ?_
              refine wps_region callOK ?_
              simp [ofV, ofV1, mkC_P, writeVar, writeCells, readCells, allSingle, AV.single, getFs, getF, setFs, setF, Heap.get, Heap.set, Heap.new, Heap.kill, killF, pushF, Heap.ready, refs, sliceParts, fillA, replL, c0, c0', c1]
              repeat refine wps_seq ?_
              refine wps_cond (t := true) rfl (fun _ => ?_) fun h => by cases h
              repeat refine wps_seq ?_
              refine wps_region callOK ?_
              simp [ofV, ofV1, mkC_P, writeVar, writeCells, readCells, allSingle, AV.single, getFs, getF, setFs, setF, Heap.get, Heap.set, Heap.new, Heap.kill, killF, pushF, Heap.ready, refs, sliceParts, fillA, replL, ka]
              repeat refine wps_seq ?_
              refine wps_ret ?_
              simp [retVal, Try.f5, oneOr, thenQ, blockQ]
              exact ends_pure rfl (by rfl)
            cases sg with
            | true =>
              repeat refine wps_seq ?_
              refine wps_region callOK ?_
              simp [ofV, ofV1, mkC_P, writeVar, writeCells, readCells, allSingle, AV.single, getFs, getF, setFs, setF, Heap.get, Heap.set, Heap.new, Heap.kill, killF, pushF, Heap.ready, refs, sliceParts, fillA, replL, c0, c0', c1]
              repeat refine wps_seq ?_
              refine wps_cond (t := true) rfl (fun _ => ?_) fun h => by cases h
              repeat refine wps_seq ?_
              refine wps_region callOK ?_
              simp [ofV, ofV1, mkC_P, writeVar, writeCells, readCells, allSingle, AV.single, getFs, getF, setFs, setF, Heap.get, Heap.set, Heap.new, Heap.kill, killF, pushF, Heap.ready, refs, sliceParts, fillA, replL, ka]
              repeat refine wps_seq ?_
              refine wps_ret ?_
              simp [retVal, Try.f5, oneOr, thenQ, blockQ]
              exact ends_pure rfl (by rfl)
            | false =>
              cases c3 : rawB n with
              | true =>
                rw [c3] at kr
                repeat refine wps_seq ?_
                refine wps_region callOK ?_
                simp [ofV, ofV1, mkC_P, writeVar, writeCells, readCells, allSingle, AV.single, getFs, getF, setFs, setF, Heap.get, Heap.set, Heap.new, Heap.kill, killF, pushF, Heap.ready, refs, sliceParts, fillA, replL, c0, c0', c1, fold_node, kr]
                repeat refine wps_seq ?_
                refine wps_cond (t := true) rfl (fun _ => ?_) fun h => by cases h
                repeat refine wps_seq ?_
                refine wps_region callOK ?_
                simp [ofV, ofV1, mkC_P, writeVar, writeCells, readCells, allSingle, AV.single, getFs, getF, setFs, setF, Heap.get, Heap.set, Heap.new, Heap.kill, killF, pushF, Heap.ready, refs, sliceParts, fillA, replL, ka]
                repeat refine wps_seq ?_
                refine wps_ret ?_
                simp [retVal, Try.f5, oneOr, thenQ, blockQ]
                exact ends_pure rfl (by rfl)
              | false =>
                rw [c3] at kr
                by_cases c4 : n.kind = 1
                · cases c5 : voidW n.space n.name with
                  | true =>
                    rw [c5] at kv
                    by_cases c6 : 0 < n.kids.length
                    · repeat refine wps_seq ?_
                      refine wps_region callOK ?_
                      simp [ofV, ofV1, mkC_P, writeVar, writeCells, readCells, allSingle, AV.single, getFs, getF, setFs, setF, Heap.get, Heap.set, Heap.new, Heap.kill, killF, pushF, Heap.ready, refs, sliceParts, fillA, replL, c0, c0', fold_node, kr, c4, kv, lenI, c6]
                      repeat refine wps_seq ?_
                      refine wps_cond (t := true) rfl (fun _ => ?_) fun h => by cases h
                      repeat refine wps_seq ?_
                      refine wps_region callOK ?_
                      simp [ofV, ofV1, mkC_P, writeVar, writeCells, readCells, allSingle, AV.single, getFs, getF, setFs, setF, Heap.get, Heap.set, Heap.new, Heap.kill, killF, pushF, Heap.ready, refs, sliceParts, fillA, replL, ka]
                      repeat refine wps_seq ?_
                      refine wps_ret ?_
                      simp [retVal, Try.f5, oneOr, thenQ, blockQ]
                      exact ends_pure rfl (by rfl)
                    · repeat refine wps_seq ?_
                      refine wps_region callOK ?_
                      simp [ofV, ofV1, mkC_P, writeVar, writeCells, readCells, allSingle, AV.single, getFs, getF, setFs, setF, Heap.get, Heap.set, Heap.new, Heap.kill, killF, pushF, Heap.ready, refs, sliceParts, fillA, replL, c0, c0', fold_node, kr, c4, kv, lenI, c6]
                      repeat refine wps_seq ?_
                      refine wps_cond (t := false) rfl (fun h => by cases h) fun _ => ?_
                      repeat refine wps_seq ?_
                      refine wps_skip ?_
                      simp
                      exact hj _ (go (by
                        simp only [oddN, ← hsg, c3, c4, voidN, c5, c6, decide_false, decide_true, Bool.false_or, Bool.or_false, Bool.and_false]
                        decide)) rfl
                  | false =>
                    rw [c5] at kv
                    repeat refine wps_seq ?_
                    refine wps_region callOK ?_
                    simp [ofV, ofV1, mkC_P, writeVar, writeCells, readCells, allSingle, AV.single, getFs, getF, setFs, setF, Heap.get, Heap.set, Heap.new, Heap.kill, killF, pushF, Heap.ready, refs, sliceParts, fillA, replL, c0, c0', fold_node, kr, c4, kv]
                    repeat refine wps_seq ?_
                    refine wps_cond (t := false) rfl (fun h => by cases h) fun _ => ?_
                    repeat refine wps_seq ?_
                    refine wps_skip ?_
                    simp
                    exact hj _ (go (by
                      simp only [oddN, ← hsg, c3, c4, voidN, c5, decide_true, Bool.false_or, Bool.or_false, Bool.and_false, Bool.false_and]
                      decide)) rfl
                · repeat refine wps_seq ?_
                  refine wps_region callOK ?_
                  simp [ofV, ofV1, mkC_P, writeVar, writeCells, readCells, allSingle, AV.single, getFs, getF, setFs, setF, Heap.get, Heap.set, Heap.new, Heap.kill, killF, pushF, Heap.ready, refs, sliceParts, fillA, replL, c0, c0', c1, fold_node, kr, c4]
                  repeat refine wps_seq ?_
                  refine wps_cond (t := false) rfl (fun h => by cases h) fun _ => ?_
                  repeat refine wps_seq ?_
                  refine wps_skip ?_
                  simp
                  exact hj _ (go (by
                    simp only [oddN, ← hsg, c3, c4, c1, decide_false, Bool.false_or, Bool.or_false, Bool.and_false, Bool.false_and])) rfl
          · have c0' : ¬ (0 : Int) < (i : Int) := by omega
            repeat refine wps_seq ?_
            refine wps_region callOK ?_
            simp [ofV, ofV1, mkC_P, writeVar, writeCells, readCells, allSingle, AV.single, getFs, getF, setFs, setF, Heap.get, Heap.set, Heap.new, Heap.kill, killF, pushF, Heap.ready, refs, sliceParts, fillA, replL, c0, c0']
            repeat refine wps_seq ?_
            refine wps_cond (t := false) rfl (fun h => by cases h) fun _ => ?_
            repeat refine wps_seq ?_
            refine wps_skip ?_
            simp
            exact hj _ (.inl (hn ▸ hz (by omega))) rfl
        have hg2 := hgood' hgy
        by_cases c4 : n.kind = 1
        · repeat refine wps_seq ?_
          refine wps_region callOK ?_
          simp [ofV, ofV1, mkC_P, writeVar, writeCells, readCells, allSingle, AV.single, getFs, getF, setFs, setF, Heap.get, Heap.set, Heap.new, Heap.kill, killF, pushF, Heap.ready, refs, sliceParts, fillA, replL, c4]
          repeat refine wps_seq ?_
          refine wps_cond (t := true) rfl (fun _ => ?_) fun h => by cases h
          repeat refine wps_seq ?_
          refine wps_region callOK ?_
          simp [ofV, ofV1, mkC_P, writeVar, writeCells, readCells, allSingle, AV.single, getFs, getF, setFs, setF, Heap.get, Heap.set, Heap.new, Heap.kill, killF, pushF, Heap.ready, refs, sliceParts, fillA, replL, add_two (show sumC t (L.take i) ≤ 1000000000 by omega)]
          cases c5 : voidW n.space n.name with
          | true =>
            rw [c5] at kv
            repeat refine wps_seq ?_
            refine wps_region callOK ?_
            simp [ofV, ofV1, mkC_P, writeVar, writeCells, readCells, allSingle, AV.single, getFs, getF, setFs, setF, Heap.get, Heap.set, Heap.new, Heap.kill, killF, pushF, Heap.ready, refs, sliceParts, fillA, replL, kv]
            repeat refine wps_seq ?_
            refine wps_cond (t := true) rfl (fun _ => ?_) fun h => by cases h
            repeat refine wps_seq ?_
            refine wps_region callOK ?_
            simp [ofV, ofV1, mkC_P, writeVar, writeCells, readCells, allSingle, AV.single, getFs, getF, setFs, setF, Heap.get, Heap.set, Heap.new, Heap.kill, killF, pushF, Heap.ready, refs, sliceParts, fillA, replL, sub_one2 (show sumC t (L.take i) ≤ 1000000000 by omega), sub_one3 (show sumC t (L.take i) ≤ 1000000000 by omega), sub_one4 (show sumC t (L.take i) ≤ 1000000000 by omega)]
            repeat refine wps_seq ?_
            refine wps_region callOK ?_
            simp [ofV, ofV1, mkC_P, writeVar, writeCells, readCells, allSingle, AV.single, getFs, getF, setFs, setF, Heap.get, Heap.set, Heap.new, Heap.kill, killF, pushF, Heap.ready, refs, sliceParts, fillA, replL, add_one (show i ≤ 1000000000 by omega)]
            have hcn : cN n = 1 := by simp [cN, c4, voidN, c5]
            exact hB _ (i + 1) (by omega) ⟨by omega, hg2⟩ ⟨[(0, 0)], [], rfl, rfl, rfl, by rw [hsum, hcn]; simp [fitL, fitV, lookN, pureV, aInts], g0 _ _ rfl⟩
          | false =>
            rw [c5] at kv
            repeat refine wps_seq ?_
            refine wps_region callOK ?_
            simp [ofV, ofV1, mkC_P, writeVar, writeCells, readCells, allSingle, AV.single, getFs, getF, setFs, setF, Heap.get, Heap.set, Heap.new, Heap.kill, killF, pushF, Heap.ready, refs, sliceParts, fillA, replL, kv]
            repeat refine wps_seq ?_
            refine wps_cond (t := false) rfl (fun h => by cases h) fun _ => ?_
            repeat refine wps_seq ?_
            refine wps_skip ?_
            simp
            repeat refine wps_seq ?_
            refine wps_region callOK ?_
            simp [ofV, ofV1, mkC_P, writeVar, writeCells, readCells, allSingle, AV.single, getFs, getF, setFs, setF, Heap.get, Heap.set, Heap.new, Heap.kill, killF, pushF, Heap.ready, refs, sliceParts, fillA, replL, add_one (show i ≤ 1000000000 by omega)]
            have hcn : cN n = 2 := by simp [cN, c4, voidN, c5]
            exact hB _ (i + 1) (by omega) ⟨by omega, hg2⟩ ⟨[(0, 0)], [], rfl, rfl, rfl, by rw [hsum, hcn]; simp [fitL, fitV, lookN, pureV, aInts], g0 _ _ rfl⟩
        · repeat refine wps_seq ?_
          refine wps_region callOK ?_
          simp [ofV, ofV1, mkC_P, writeVar, writeCells, readCells, allSingle, AV.single, getFs, getF, setFs, setF, Heap.get, Heap.set, Heap.new, Heap.kill, killF, pushF, Heap.ready, refs, sliceParts, fillA, replL, c4]
          repeat refine wps_seq ?_
          refine wps_cond (t := false) rfl (fun h => by cases h) fun _ => ?_
          repeat refine wps_seq ?_
          refine wps_skip ?_
          simp
          repeat refine wps_seq ?_
          refine wps_region callOK ?_
          simp [ofV, ofV1, mkC_P, writeVar, writeCells, readCells, allSingle, AV.single, getFs, getF, setFs, setF, Heap.get, Heap.set, Heap.new, Heap.kill, killF, pushF, Heap.ready, refs, sliceParts, fillA, replL, add_one (show i ≤ 1000000000 by omega)]
          have hcn : cN n = 0 := by simp [cN, c4]
          exact hB _ (i + 1) (by omega) ⟨by omega, hg2⟩ ⟨[(0, 0)], [], rfl, rfl, rfl, by rw [hsum, hcn]; simp [fitL, fitV, lookN, pureV, aInts], g0 _ _ rfl⟩
    · simp at hlt
      repeat refine wps_seq ?_
      refine wps_exit ?_
      simp
      rw [List.take_of_length_le hlt] at hgood ⊢
      have hc := sc hgood
      rw [hc] at kn
      repeat refine wps_seq ?_
      refine wps_region callOK ?_
      simp [ofV, ofV1, mkC_P, writeVar, writeCells, readCells, allSingle, AV.single, getFs, getF, setFs, setF, Heap.get, Heap.set, Heap.new, Heap.kill, killF, pushF, Heap.ready, refs, sliceParts, fillA, replL, q1, kn, ka]
      repeat refine wps_seq ?_
      refine wps_ret ?_
      simp [retVal, Try.f5, oneOr, thenQ, blockQ]
      exact ends_pure rfl (by rfl)
end Go.Proofs.Ytohkgmnoamfmgaa
namespace Go.Proofs.Ytohkgmnoamfmgaa
set_option linter.unusedSimpArgs false
set_option linter.unusedVariables false
open Go Go.RowKit Go.ChangeShapes Go.WideShapes Go.ChangeAt
set_option maxRecDepth 100000

theorem own_ : ownKnob Try.prog.godebug = none := by kernel_rfl
theorem laid_ : laidOutB Try.prog = true := by kernel_rfl
theorem hgs (W : World) (hsh : W.ShapedOpen Try.prog) : GlobsIn W := by
  intro g h
  simp [globs] at h
  subst h
  exact cell_of_shapedOpen_int (P := Try.prog) (g := 0) (t := 3) (zero := #[.int .i64 0]) hsh (of_decide_eq_true (by kernel_rfl)) (by kernel_rfl) rfl (by kernel_rfl) (by kernel_rfl) Try.underlying3
noncomputable def TL_ssigns : List (Entry Try.prog) := [e8, e6, e9, e15, e16, e14, e17, e18]
theorem read_ssigns : ∀ t, t ∈ [24] → Try.prog.readableRec t = true ∧ t < Try.prog.types.size := by
  intro t ht
  simp at ht
  subst ht
  exact ⟨by kernel_rfl, by decide +kernel⟩
theorem ssigns_contract (H : Type) (enc : TypeId × Value → H) (W : World) (base : Nat) (args : Array Value) (ds gs : List (DataW H)) (before : List MemPlace)
    (hval : ∀ (j : Nat) t v, Try.f5.params[j]? = some t → args[j]? = some v → Value.okWide Try.prog W .any base t v)
    (hW : DataW.Whole enc Try.prog Try.f5.params.toList Rows.serialSignsSpec.vars false W args.toList ds gs before) (hsh : W.ShapedOpen Try.prog) :
    Calls Try.prog 5 args W fun e W' => ∃ v, e = .returned v ∧ Rows.serialSignsSpec.post enc Try.prog Try.f5 false true false false W args v W' := by
  have hg := hgs W hsh
  have hW' := hW
  obtain ⟨p, q, hA0, hV, rfl, hfz, hnd⟩ := hW
  have hA : DataW.TrodAll enc Try.prog W 0 (fun _ => true) true Try.f5.params.toList args.toList ds p := hA0
  rw [Try.params5] at hA hval
  obtain ⟨v0, vs0, d0, ds0, p0, q0, hargs, rfl, rfl, h0, r0⟩ := trodAll_cons hA
  obtain ⟨rfl, rfl, rfl⟩ := trodAll_nil r0
  obtain rfl : args = #[v0] := by cases args; simp_all
  obtain ⟨rfl, rfl⟩ := trodVars_none hV
  obtain ⟨t, ht⟩ := argTree (hg := hg) h0 (hval 0 24 v0 rfl rfl)
  refine (law_calls (hg := hg) (C := ctx TL_ssigns) Try.func5 rfl rfl (c5 rfl rfl rfl rfl rfl rfl rfl rfl t) (.cons ht .nil)).mono fun e W' ⟨he, hg⟩ => ⟨_, he, ?_⟩
  exact law_post (tb := 4) laid_ (by rw [Try.params5]; exact read_ssigns) Try.underlying4 rfl rfl ⟨rfl, rfl, rfl⟩ hW' hg
theorem ssigns_lifted (os : Os) (started : os.Started) (H : Type) (enc : TypeId × Value → H) :
    ReturnsInHanded {} Try.checked os 5 .any (Rows.serialSignsSpec.pre6 enc Try.prog Try.f5 Rows.serialSignsRow.domain false) (Rows.serialSignsSpec.post enc Try.prog Try.f5 false true false false) := by
  refine returnsInHanded_of_change_shaped (C := Try.checked) own_ started (by kernel_rfl) Try.func5
    (ChangeSpec.witness6 (enc := enc) (C := Try.checked) false ⟨#[], #[.agg #[.slice none 0 0]], []⟩ 8 (by kernel_rfl) (by kernel_rfl) (by kernel_rfl) (by kernel_rfl)) ?_
  intro W base args ds gs before hval hW _ _ hsh _
  exact ssigns_contract H enc W base args ds gs before hval hW hsh
theorem ssigns_holds : Rows.SerialSignsSaid :=
  OpenClaim.holds_of_wide 5 Try.f5 rfl rfl rfl rfl rfl rfl rfl ⟨rfl, rfl, rfl, rfl, rfl⟩ rfl rfl rfl rfl rfl (by kernel_rfl) Try.func5 (by kernel_rfl)
    (of_decide_eq_true (by kernel_rfl)) (by unfold Func.isWrapper; first | (rw [if_pos (by decide +kernel)]; kernel_rfl) | (rw [if_neg (by decide +kernel)]; exact ⟨rfl, rfl⟩))
    (fun os started H enc _ => ssigns_lifted os started H enc)
end Go.Proofs.Ytohkgmnoamfmgaa
