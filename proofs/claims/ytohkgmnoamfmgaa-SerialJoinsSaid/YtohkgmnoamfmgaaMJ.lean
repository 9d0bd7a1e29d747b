/- SerialJoins holds: the text of a tree that may be is that of the kids of its root, one behind the other. No condition. -/
import Derived.Test.YtohkgmnoamfmgaaMI
import Derived.Test.YtohkgmnoamfmgaaRows
import Derived.HandedShaped
import Derived.Shelf.Vars
import Derived.ChangeMaps5
namespace Go.Proofs.Ytohkgmnoamfmgaa
set_option linter.unusedSimpArgs false
set_option linter.unusedVariables false
open Go Go.RowKit
set_option maxRecDepth 100000

inductive ReachT (t : Tr) (k : Int) : Int → Prop
  | refl : ReachT t k k
  | step {y x : Int} : ReachT t k y → 0 ≤ y → y < (t.length : Int) → x ∈ (nodeAt t y).kids → ReachT t k x
theorem ReachT.kid {t : Tr} {i k x : Int} (h : ReachT t k x) (h0 : 0 ≤ i) (h1 : i < (t.length : Int)) (hk : k ∈ (nodeAt t i).kids) : ReachT t i x := by
  induction h with
  | refl => exact .step .refl h0 h1 hk
  | step _ y0 y1 hx ih => exact .step ih y0 y1 hx
structure LocT (t : Tr) (g : Int → List Int → Str × List Int) : Prop where
  mono : ∀ k S x, x ∈ S → x ∈ (g k S).2
  add : ∀ k S x, x ∈ (g k S).2 → x ∈ S ∨ ReachT t k x
  same : ∀ k S1 S2, (∀ x, ReachT t k x → (x ∈ S1 ↔ x ∈ S2)) → (g k S1).1 = (g k S2).1 ∧ ∀ x, ReachT t k x → (x ∈ (g k S1).2 ↔ x ∈ (g k S2).2)
section
variable {t : Tr} {g : Int → List Int → Str × List Int}
theorem LocT.monoK (h : LocT t g) : ∀ (ks : List Int) (S : List Int) (x : Int), x ∈ S → x ∈ (kidsT g ks S).2
  | [], S, x, hx => hx
  | k :: r, S, x, hx => h.monoK r _ x (h.mono k S x hx)
theorem LocT.addK (h : LocT t g) : ∀ (ks : List Int) (S : List Int) (x : Int), x ∈ (kidsT g ks S).2 → x ∈ S ∨ ∃ k, k ∈ ks ∧ ReachT t k x
  | [], S, x, hx => .inl hx
  | k :: r, S, x, hx => by
    rcases h.addK r _ x hx with h1 | ⟨k', h1, h2⟩
    · rcases h.add k S x h1 with h2 | h2
      · exact .inl h2
      · exact .inr ⟨k, by simp, h2⟩
    · exact .inr ⟨k', by simp [h1], h2⟩
theorem LocT.sameK (h : LocT t g) : ∀ (ks : List Int) (S1 S2 : List Int), (∀ k, k ∈ ks → ∀ x, ReachT t k x → (x ∈ S1 ↔ x ∈ S2)) → (kidsT g ks S1).1 = (kidsT g ks S2).1 ∧ ∀ k, k ∈ ks → ∀ x, ReachT t k x → (x ∈ (kidsT g ks S1).2 ↔ x ∈ (kidsT g ks S2).2)
  | [], S1, S2, _ => ⟨rfl, fun k hk => by cases hk⟩
  | k :: r, S1, S2, hs => by
    have hk := h.same k S1 S2 (hs k (by simp))
    have step : ∀ k', k' ∈ k :: r → ∀ x, ReachT t k' x → (x ∈ (g k S1).2 ↔ x ∈ (g k S2).2) := fun k' hk' x hx => by
      by_cases hr : ReachT t k x
      · exact hk.2 x hr
      · have e := hs k' hk' x hx
        constructor
        · intro h1
          rcases h.add k S1 x h1 with h2 | h2
          · exact h.mono k S2 x (e.1 h2)
          · exact absurd h2 hr
        · intro h1
          rcases h.add k S2 x h1 with h2 | h2
          · exact h.mono k S1 x (e.2 h2)
          · exact absurd h2 hr
    have ih := h.sameK r _ _ fun k' hk' => step k' (by simp [hk'])
    refine ⟨by simp only [kidsT, hk.1, ih.1], fun k' hk' x hx => ?_⟩
    simp only [kidsT]
    by_cases hr : ∃ k'', k'' ∈ r ∧ ReachT t k'' x
    · obtain ⟨k'', h1, h2⟩ := hr
      exact ih.2 k'' h1 x h2
    · have e := step k' hk' x hx
      constructor
      · intro h1
        rcases h.addK r _ x h1 with h2 | h2
        · exact h.monoK r _ x (e.1 h2)
        · exact absurd h2 hr
      · intro h1
        rcases h.addK r _ x h1 with h2 | h2
        · exact h.monoK r _ x (e.2 h2)
        · exact absurd h2 hr
/-- disjoint kids: each one's text as if it were alone -/
theorem LocT.join (h : LocT t g) : ∀ (ks : List Int) (S : List Int), ks.Pairwise (fun k k' => ∀ x, ReachT t k x → ¬ ReachT t k' x) → (∀ k, k ∈ ks → ∀ x, ReachT t k x → x ∉ S) → (kidsT g ks S).1 = ks.flatMap fun k => (g k []).1
  | [], S, _, _ => rfl
  | k :: r, S, hp, hs => by
    rw [List.pairwise_cons] at hp
    have e1 := (h.same k S [] fun x hx => by simp [hs k (by simp) x hx]).1
    have ih := h.join r (g k S).2 hp.2 fun k' hk' x hx h1 => by
      rcases h.add k S x h1 with h2 | h2
      · exact hs k' (by simp [hk']) x hx h2
      · exact hp.1 k' hk' x h2 hx
    simp only [kidsT, List.flatMap_cons, e1, ih]
end
theorem txt_loc (void raw : Nd → Bool) (t : Tr) : ∀ f, LocT t (txtF void raw t f)
  | 0 => ⟨fun k S x h => h, fun k S x h => .inl h, fun k S1 S2 h => ⟨rfl, h⟩⟩
  | f + 1 => by
    have ih := txt_loc void raw t f
    have kr : ∀ k, ¬ (k < 0 ∨ (t.length : Int) ≤ k) → ∀ k', k' ∈ (nodeAt t k).kids → ∀ x, ReachT t k' x → ReachT t k x := fun k hk k' hk' x hx => hx.kid (by omega) (by omega) hk'
    refine ⟨fun k S x h => ?_, fun k S x h => ?_, fun k S1 S2 h => ?_⟩
    · have m := ih.monoK (nodeAt t k).kids (S ++ [k]) x (by simp [h])
      simp only [txtF]
      split
      · exact h
      · split
        · exact m
        · split
          · exact m
          · split
            · simp [h]
            · split
              · simp [h]
              · split <;> simp [h]
    · simp only [txtF] at h
      split at h
      · exact .inl h
      · rename_i hc
        have hc' : ¬ (k < 0 ∨ (t.length : Int) ≤ k) := fun e => hc (e.elim .inl fun e => .inr (.inl e))
        have one : x ∈ S ++ [k] → x ∈ S ∨ ReachT t k x := fun h => by
          rcases List.mem_append.1 h with h | h
          · exact .inl h
          · rw [List.mem_singleton] at h; subst h; exact .inr .refl
        have many : x ∈ (kidsT (txtF void raw t f) (nodeAt t k).kids (S ++ [k])).2 → x ∈ S ∨ ReachT t k x := fun h => by
          rcases ih.addK _ _ x h with h | ⟨k', h1, h2⟩
          · exact one h
          · exact .inr (kr k hc' k' h1 x h2)
        split at h
        · exact many h
        · split at h
          · exact many h
          · split at h
            · exact one h
            · split at h
              · exact one h
              · split at h <;> exact one h
    · have hk := h k .refl
      simp only [txtF, hk]
      split
      · exact ⟨rfl, h⟩
      · rename_i hc
        have hc' : ¬ (k < 0 ∨ (t.length : Int) ≤ k) := fun e => hc (e.elim .inl fun e => .inr (.inl e))
        have one : ∀ x, ReachT t k x → (x ∈ S1 ++ [k] ↔ x ∈ S2 ++ [k]) := fun x hx => by
          simp only [List.mem_append, h x hx]
        have sk := ih.sameK (nodeAt t k).kids (S1 ++ [k]) (S2 ++ [k]) fun k' hk' x hx => one x (kr k hc' k' hk' x hx)
        have many : ∀ x, ReachT t k x → (x ∈ (kidsT (txtF void raw t f) (nodeAt t k).kids (S1 ++ [k])).2 ↔ x ∈ (kidsT (txtF void raw t f) (nodeAt t k).kids (S2 ++ [k])).2) := fun x hx => by
          by_cases hr : ∃ k', k' ∈ (nodeAt t k).kids ∧ ReachT t k' x
          · obtain ⟨k', h1, h2⟩ := hr
            exact sk.2 k' h1 x h2
          · constructor
            · intro h1
              rcases ih.addK _ _ x h1 with h2 | h2
              · exact ih.monoK _ _ x ((one x hx).1 h2)
              · exact absurd h2 hr
            · intro h1
              rcases ih.addK _ _ x h1 with h2 | h2
              · exact ih.monoK _ _ x ((one x hx).2 h2)
              · exact absurd h2 hr
        split
        · exact ⟨sk.1, many⟩
        · split
          · exact ⟨by simp only [sk.1], many⟩
          · split
            · exact ⟨rfl, one⟩
            · split
              · exact ⟨rfl, one⟩
              · split <;> exact ⟨rfl, one⟩
end Go.Proofs.Ytohkgmnoamfmgaa
namespace Go.Proofs.Ytohkgmnoamfmgaa
set_option linter.unusedSimpArgs false
set_option linter.unusedVariables false
open Go Go.RowKit
set_option maxRecDepth 100000

theorem right_kid {t : Tr} (h : rightB t = true) {y x : Int} (y0 : 0 ≤ y) (y1 : y < (t.length : Int)) (hx : x ∈ (nodeAt t y).kids) : 0 ≤ x ∧ x < (t.length : Int) ∧ (nodeAt t x).up = y := by
  simp only [rightB, Bool.and_eq_true, List.all_eq_true, decide_eq_true_eq] at h
  obtain ⟨n, rfl⟩ : ∃ n : Nat, y = n := ⟨y.toNat, by omega⟩
  have hn := h.2.2.2.1 n (by simp; omega)
  simp only [okNd, Bool.and_eq_true, Bool.not_eq_true', List.any_eq_false] at hn
  have hb := hn.2.2 x hx
  simp only [badC, Bool.or_eq_true, decide_eq_true_eq, not_or] at hb
  omega
theorem right_up0 {t : Tr} (h : rightB t = true) : (nodeAt t 0).up = -1 := by
  simp only [rightB, Bool.and_eq_true, decide_eq_true_eq] at h
  exact h.2.2.1
theorem right_no0 {t : Tr} (h : rightB t = true) {k : Int} (hk : (nodeAt t k).up = 0) : ¬ ReachT t k 0 := fun hr => by
  have h0 := right_up0 h
  cases hr with
  | refl => omega
  | step _ y0 y1 hx =>
    have := (right_kid h y0 y1 hx).2.2
    omega
theorem right_same {t : Tr} (h : rightB t = true) {k k' : Int} (hk : (nodeAt t k).up = 0) (hk' : (nodeAt t k').up = 0) : ∀ {x : Int}, ReachT t k x → ReachT t k' x → k = k' := by
  intro x hx
  induction hx with
  | refl =>
    intro h2
    cases h2 with
    | refl => rfl
    | step hr y0 y1 hy =>
      have := (right_kid h y0 y1 hy).2.2
      rw [hk] at this
      subst this
      exact absurd hr (right_no0 h hk')
  | step hr y0 y1 hy ih =>
    intro h2
    have e1 := (right_kid h y0 y1 hy).2.2
    cases h2 with
    | refl =>
      rw [hk'] at e1
      subst e1
      exact absurd hr (right_no0 h hk)
    | step hr2 z0 z1 hz =>
      have e2 := (right_kid h z0 z1 hz).2.2
      rw [e1] at e2
      subst e2
      exact ih hr2
theorem txt_fuel (void raw : Nd → Bool) {t : Tr} (hf : t.all fewNd = true) : ∀ (f : Nat) (i : Int) (S : List Int), SOK t S → t.length < f + S.length → txtF void raw t (f + 1) i S = txtF void raw t f i S
  | 0, i, S, h, hl => by
    have := sok_len t h
    omega
  | f + 1, i, S, h, hl => by
    by_cases hc : i < 0 ∨ (t.length : Int) ≤ i ∨ i ∈ S
    · simp only [txtF, hc, if_true]
    · have hS := h.add t (i := i) (by omega) (by omega) fun e => hc (.inr (.inr e))
      have kids : ∀ (ks : List Int) (S' : List Int), SOK t S' → t.length < f + S'.length → kidsT (txtF void raw t (f + 1)) ks S' = kidsT (txtF void raw t f) ks S' := by
        intro ks
        induction ks with
        | nil => intro S' _ _; rfl
        | cons k r ih =>
          intro S' h' hl'
          have e := txt_fuel void raw hf f k S' h' hl'
          have gr := txt_grows void raw t hf f k S' h'
          have hle := gr.le
          simp only [kidsT, e]
          rw [ih _ gr.ok (by omega)]
      have e := kids (nodeAt t i).kids (S ++ [i]) hS (by simp only [List.length_append, List.length_cons, List.length_nil]; omega)
      rw [txtF, txtF]
      simp only [hc, if_false, e]
end Go.Proofs.Ytohkgmnoamfmgaa
namespace Go.Proofs.Ytohkgmnoamfmgaa
set_option linter.unusedSimpArgs false
set_option linter.unusedVariables false
open Go Go.RowKit
set_option maxRecDepth 100000

theorem kids_fuel (void raw : Nd → Bool) {t : Tr} (hf : t.all fewNd = true) {f : Nat} : ∀ (ks : List Int) (S : List Int), SOK t S → t.length < f + S.length → kidsT (txtF void raw t (f + 1)) ks S = kidsT (txtF void raw t f) ks S
  | [], S, _, _ => rfl
  | k :: r, S, h, hl => by
    have e := txt_fuel void raw hf f k S h hl
    have gr := txt_grows void raw t hf f k S h
    have hle := gr.le
    simp only [kidsT, e]
    rw [kids_fuel void raw hf r _ gr.ok (by omega)]
theorem right_nodup {t : Tr} (h : rightB t = true) : (nodeAt t 0).kids.Nodup := by
  have hne : t ≠ [] := (right_root h).2
  have hl : 0 < t.length := List.length_pos_iff.2 hne
  rw [List.nodup_iff_count]
  intro x
  by_cases hx : x ∈ (nodeAt t 0).kids
  · obtain ⟨x0, x1, hu⟩ := right_kid h (Int.le_refl 0) (by omega) hx
    obtain ⟨n, rfl⟩ : ∃ n : Nat, x = n := ⟨x.toNat, by omega⟩
    simp only [rightB, Bool.and_eq_true, List.all_eq_true, decide_eq_true_eq] at h
    have hn := h.2.2.2.1 n (by simp; omega)
    simp only [okNd, Bool.and_eq_true, Bool.not_eq_true', badB, hu, Bool.and_eq_false_iff, Bool.or_eq_false_iff, decide_eq_false_iff_not] at hn
    have h1 : timesB (nodeAt t 0).kids n = 1 := by
      rcases hn.2.1 with h | h
      · omega
      · have := h.2; omega
    have e : (nodeAt t 0).kids.count (n : Int) = timesB (nodeAt t 0).kids n := by
      unfold timesB List.count
      congr 1
    omega
  · rw [List.count_eq_zero_of_not_mem hx]; omega
theorem join_root {t : Tr} (h : rightB t = true) (hf : t.all fewNd = true) : serT t 0 = (nodeAt t 0).kids.flatMap (serT t) := by
  obtain ⟨hk, hne⟩ := right_root h
  have hl : 0 < t.length := List.length_pos_iff.2 hne
  have hS : SOK t [0] := ⟨by simp, fun x hx => by rw [List.mem_singleton] at hx; subst hx; omega⟩
  have e1 : serT t 0 = (kidsT (txtS t t.length) (nodeAt t 0).kids [0]).1 := by
    have hc : ¬ ((0 : Int) < 0 ∨ (t.length : Int) ≤ 0 ∨ (0 : Int) ∈ ([] : List Int)) := by simp; omega
    show (txtF voidN rawB t (t.length + 1) 0 []).1 = _
    rw [txtF]
    simp only [hc, if_false, hk, if_true, List.nil_append]
  have e2 := kids_fuel voidN rawB hf (f := t.length) (nodeAt t 0).kids [0] hS (by simp)
  rw [e1]
  have e3 := (txt_loc voidN rawB t (t.length + 1)).join (nodeAt t 0).kids [0] ?_ ?_
  · rw [e2] at e3
    exact e3
  · refine List.Pairwise.imp_of_mem ?_ (right_nodup h)
    intro k k' m m' hkk x hx hx'
    have u := (right_kid h (Int.le_refl 0) (by omega) m).2.2
    have u' := (right_kid h (Int.le_refl 0) (by omega) m').2.2
    exact hkk (right_same h u u' hx hx')
  · intro k m x hx hm
    rw [List.mem_singleton] at hm
    subst hm
    exact right_no0 h (right_kid h (Int.le_refl 0) (by omega) m).2.2 hx
end Go.Proofs.Ytohkgmnoamfmgaa
namespace Go.Proofs.Ytohkgmnoamfmgaa
set_option linter.unusedSimpArgs false
set_option linter.unusedVariables false
open Go Go.RowKit
set_option maxRecDepth 100000

theorem vis_len {n : Nat} {ks : Nat → List Int} : ∀ (f i : Nat) (w : Wk), w.l.length + (if f = 0 then 0 else 1) ≤ (vis n ks f i w).l.length
  | 0, i, w => by simp [vis]
  | f + 1, i, w => by
    have hk : ∀ (r : List Int) (w : Wk), w.l.length ≤ (kl n (vis n ks f) r w).l.length := by
      intro r
      induction r with
      | nil => intro w; exact Nat.le_refl _
      | cons k r ih =>
        intro w
        unfold kl
        split
        · exact Nat.le_trans (Nat.le_trans (Nat.le_add_right _ _) (vis_len f _ _)) (ih _)
        · exact ih _
    have := hk (ks i) (into i w)
    simp only [into, List.length_append, List.length_singleton] at this
    unfold vis
    simpa [outof, into] using this
theorem kl_len {n f : Nat} {ks : Nat → List Int} : ∀ (r : List Int) (w : Wk), w.l.length ≤ (kl n (vis n ks f) r w).l.length
  | [], w => Nat.le_refl _
  | k :: r, w => by
    unfold kl
    split
    · exact Nat.le_trans (Nat.le_trans (Nat.le_add_right _ _) (vis_len f _ _)) (kl_len r _)
    · exact kl_len r _
theorem order_long {n : Nat} {ks : Nat → List Int} {k : Int} {r : List Int} (hk : ks 0 = k :: r) (h0 : 0 < k) (h1 : k < (n : Int)) : 1 < (orderOf n ks).length := by
  obtain ⟨f, rfl⟩ : ∃ f, n = f + 2 := ⟨n - 2, by omega⟩
  have hn : ¬ f + 2 = 0 := by omega
  obtain ⟨m, rfl⟩ : ∃ m : Nat, k = m := ⟨k.toNat, by omega⟩
  have hg : ((List.replicate (f + 2) (-1 : Int)).set 0 0).getD m 0 < 0 := by
    rw [List.getD_eq_getElem?_getD, List.getElem?_set_ne (by omega), List.getElem?_replicate]
    simp [show m < f + 2 by omega]
  have e : kl (f + 2) (vis (f + 2) ks (f + 1)) (ks 0) (into 0 (w0 (f + 2))) = kl (f + 2) (vis (f + 2) ks (f + 1)) r (vis (f + 2) ks (f + 1) m (into 0 (w0 (f + 2)))) := by
    rw [hk, kl, if_pos]
    · simp
    · exact ⟨by omega, by omega, by simpa [into, w0] using hg⟩
  have a := kl_len (n := f + 2) (f := f + 1) (ks := ks) r (vis (f + 2) ks (f + 1) m (into 0 (w0 (f + 2))))
  have b := vis_len (n := f + 2) (ks := ks) (f + 1) m (into 0 (w0 (f + 2)))
  simp [into, w0] at b
  simp only [orderOf, hn, if_false]
  unfold vis
  simp only [outof]
  rw [e]
  simp [into, w0] at a ⊢
  omega
theorem root_kids {t : Tr} (ht : t ≠ []) : kidsOf t 0 = (nodeAt t 0).kids := by
  have hl : 0 < t.length := List.length_pos_iff.2 ht
  rw [← kidsOf_at hl]
  have := nodeAt_get (t := t) (i := 0) hl
  simp only [Int.ofNat_zero, Int.natCast_zero] at this
  rw [this]
theorem kid_pos {t : Tr} (h : rightB t = true) {x : Int} (hx : x ∈ (nodeAt t 0).kids) : 0 < x ∧ x < (t.length : Int) := by
  have hl : 0 < t.length := List.length_pos_iff.2 (right_root h).2
  obtain ⟨x0, x1, hu⟩ := right_kid h (Int.le_refl 0) (by omega) hx
  have h0 := right_up0 h
  refine ⟨?_, x1⟩
  rcases Int.lt_or_eq_of_le x0 with h | h
  · exact h
  · rw [← h, h0] at hu; omega
/-- a text that is not empty means a node -/
theorem text_node {t : Tr} (h : rightB t = true) (hf : t.all fewNd = true) (hs : serT t 0 ≠ []) : 1 < (orderOf t.length (kidsOf t)).length := by
  rw [join_root h hf] at hs
  cases hk : (nodeAt t 0).kids with
  | nil => rw [hk] at hs; exact absurd rfl hs
  | cons k r =>
    obtain ⟨a, b⟩ := kid_pos h (x := k) (by rw [hk]; simp)
    exact order_long (root_kids (right_root h).2 ▸ hk) a b
theorem c4 {T : List (Entry Try.prog)} (hA : findE 8 T = some e8.g) (hP : findE 6 T = some e6.g) (h1 : findE 9 T = some e9.g) (h3 : findE 11 T = some e11.g) (hO : findE 15 T = some e15.g) (t : Tr) :
    CallAt (ctx T) 4 [aTree t] ⟨0, []⟩ (.bool true) ⟨0, []⟩ := by
  have ka := fun H => k8 hA H
  have kp := fun H => k6 hP t (m := 30) (by omega) H
  simp only [aTree] at kp
  cases hf : mayTr t 30 with
  | false =>
    rw [hf] at kp
    refine callAt_body (fn := Try.f4) (s0 := ⟨[0, 1, 2, 3, 5, 14, 15, 16], [aTree t, .undef, .undef, .undef, .undef, .undef, .undef, .undef], [], 43, ⟨0, [[]]⟩⟩) Try.func4 rfl rfl rfl ?_
    (repeat (first
      | (refine wps_seq ?_)
      | (refine wps_block ?_)
      | (refine wps_label ?_; simp only [thenQ, blockQ])
      | ((refine wps_region callOK ?_); simp [ofV, ofV1, mkC_P, writeVar, writeCells, readCells, allSingle, AV.single, getFs, getF, setFs, setF, Heap.get, Heap.set, Heap.new, Heap.kill, killF, pushF, Heap.ready, refs, sliceParts, fillA, replL, aTree, kp, ka])
      | (refine wps_cond (t := true) rfl (fun _ => ?_) (fun h => by cases h))
      | (refine wps_cond (t := false) rfl (fun h => by cases h) (fun _ => ?_))
      | ((refine wps_skip ?_); simp only [thenQ, blockQ])
      | ((refine wps_exit ?_); simp [thenQ, blockQ])))
    repeat refine wps_seq ?_
    refine wps_ret ?_
    simp [retVal, Try.f4, oneOr, thenQ, blockQ]
    exact ends_pure rfl (by rfl)
  | true =>
    rw [hf] at kp
    simp only [mayTr, Bool.and_eq_true] at hf
    have hs := few_small (by omega) hf.1
    have hfw : t.all fewNd = true := by
      have := hf.1
      simp only [fewTr, Bool.and_eq_true] at this
      exact this.2
    have hne := (right_root hf.2).2
    have hl : 0 < t.length := List.length_pos_iff.2 hne
    have q1 := fun H => k9 h1 hs hfw H
    have q3 := fun i H => k11 h3 hs hfw i H
    have ko := fun H => k15 hO hs.2 H
    have jr := join_root hf.2 hfw
    have tn := text_node hf.2 hfw
    have hlen := fun i => serT_len hs hfw i
    have ax := atX (t := t) (i := 0) (Int.le_refl 0) (by omega)
    have hkl := (hs.2.2 _ (nodeAt_mem (t := t) (i := 0) (Int.le_refl 0) (by omega))).1
    obtain ⟨ks, hks⟩ : ∃ ks, ks = (nodeAt t 0).kids := ⟨_, rfl⟩
    have g6 : getL (nodeAt t 0).cs 6 = some (aInts ks) := by rw [hks]; rfl
    rw [← hks] at jr hkl
    have hjl : ∀ j, ((ks.take j).flatMap (serT t)).length ≤ 5000000 * j := by
      intro j
      induction j with
      | zero => simp
      | succ j ih =>
        by_cases hj : j < ks.length
        · rw [List.take_succ_eq_append_getElem hj, List.flatMap_append]
          have := hlen ks[j]
          simp only [List.flatMap_cons, List.flatMap_nil, List.append_nil, List.length_append]
          omega
        · rw [List.take_of_length_le (by omega)] at ih ⊢
          omega
    simp only [aTree] at q1 q3 ko
    have g0 : ∀ (m : Nat), FitH 0 [(0, 0)] [] ⟨m, [[(0, .cells [aNodes t])]]⟩ ⟨1, [[(0, .cells [aNodes t])]]⟩ := fun m => .id1 (g := [(0, .cells [aNodes t])]) (by simp) (by simp) (by simp [Heap.get, getFs, getF, pureL])
    refine callAt_body (fn := Try.f4) (s0 := ⟨[0, 1, 2, 3, 5, 14, 15, 16], [aTree t, .undef, .undef, .undef, .undef, .undef, .undef, .undef], [], 43, ⟨0, [[]]⟩⟩) Try.func4 rfl rfl rfl ?_
    repeat refine wps_seq ?_
    refine wps_region callOK ?_
    simp [ofV, ofV1, mkC_P, writeVar, writeCells, readCells, allSingle, AV.single, getFs, getF, setFs, setF, Heap.get, Heap.set, Heap.new, Heap.kill, killF, pushF, Heap.ready, refs, sliceParts, fillA, replL, aTree]
    repeat refine wps_seq ?_
    refine wps_region callOK ?_
    simp [ofV, ofV1, mkC_P, writeVar, writeCells, readCells, allSingle, AV.single, getFs, getF, setFs, setF, Heap.get, Heap.set, Heap.new, Heap.kill, killF, pushF, Heap.ready, refs, sliceParts, fillA, replL, kp]
    repeat refine wps_seq ?_
    refine wps_cond (t := false) rfl (fun h => by cases h) fun _ => ?_
    repeat refine wps_seq ?_
    refine wps_skip ?_
    simp
    repeat refine wps_seq ?_
    refine wps_region callOK ?_
    simp [ofV, ofV1, mkC_P, writeVar, writeCells, readCells, allSingle, AV.single, getFs, getF, setFs, setF, Heap.get, Heap.set, Heap.new, Heap.kill, killF, pushF, Heap.ready, refs, sliceParts, fillA, replL]
    repeat refine wps_seq ?_
    refine wps_region callOK ?_
    simp [ofV, ofV1, mkC_P, writeVar, writeCells, readCells, allSingle, AV.single, getFs, getF, setFs, setF, Heap.get, Heap.set, Heap.new, Heap.kill, killF, pushF, Heap.ready, refs, sliceParts, fillA, replL, ax, g6, lenI]
    repeat refine wps_seq ?_
    refine wps_block (wps_loop' (fun j : Nat => (⟨[0, 1, 2, 3, 5, 14, 15, 16], [.undef, .ptr 0 0, .undef, .str ((ks.take j).flatMap (serT t)), .undef, aInts ks, .int .i64 (ks.length : Nat), .int .i64 j], [], 43, ⟨1, [[(0, .cells [aNodes t])]]⟩⟩ : St))
      (fun j => j ≤ ks.length) (fun j => ks.length - j) [(0, 0)] [] 0 (Nat.zero_le _) ⟨rfl, rfl, rfl, by simp [fitL, fitV, lookN, pureV, aInts], g0 _⟩ ?_)
    rintro j hj B hB
    repeat refine wps_seq ?_
    refine wps_region callOK ?_
    simp [ofV, ofV1, mkC_P, writeVar, writeCells, readCells, allSingle, AV.single, getFs, getF, setFs, setF, Heap.get, Heap.set, Heap.new, Heap.kill, killF, pushF, Heap.ready, refs, sliceParts, fillA, replL]
    repeat refine wps_seq ?_
    refine wps_cond rfl (fun hlt => ?_) fun hlt => ?_
    · simp at hlt
      repeat refine wps_seq ?_
      refine wps_skip ?_
      simp
      repeat refine wps_seq ?_
      refine wps_block ?_
      have ek : (ks.take (j + 1)).flatMap (serT t) = (ks.take j).flatMap (serT t) ++ serT t ks[j] := by
        rw [List.take_succ_eq_append_getElem hlt, List.flatMap_append]
        simp
      have l1 := hjl j
      have l2 := hlen ks[j]
      have cs := catStr (x := (ks.take j).flatMap (serT t)) (y := serT t ks[j]) (by omega)
      obtain ⟨x1, hx1⟩ : ∃ x1, x1 = (ks.take j).flatMap (serT t) := ⟨_, rfl⟩
      rw [← hx1] at cs ek ⊢
      repeat refine wps_seq ?_
      refine wps_region callOK ?_
      simp [ofV, ofV1, mkC_P, writeVar, writeCells, readCells, allSingle, AV.single, getFs, getF, setFs, setF, Heap.get, Heap.set, Heap.new, Heap.kill, killF, pushF, Heap.ready, refs, sliceParts, fillA, replL, atI hlt]
      repeat refine wps_seq ?_
      refine wps_region callOK ?_
      simp [ofV, ofV1, mkC_P, writeVar, writeCells, readCells, allSingle, AV.single, getFs, getF, setFs, setF, Heap.get, Heap.set, Heap.new, Heap.kill, killF, pushF, Heap.ready, refs, sliceParts, fillA, replL, q3, cs]
      repeat refine wps_seq ?_
      refine wps_region callOK ?_
      simp [ofV, ofV1, mkC_P, writeVar, writeCells, readCells, allSingle, AV.single, getFs, getF, setFs, setF, Heap.get, Heap.set, Heap.new, Heap.kill, killF, pushF, Heap.ready, refs, sliceParts, fillA, replL, add_one (show j ≤ 1000000000 by omega)]
      exact hB _ (j + 1) (by omega) (by omega) ⟨[(0, 0)], [], rfl, rfl, rfl, by rw [ek]; simp [fitL, fitV, lookN, pureV, aInts], g0 _⟩
    · simp at hlt
      have hje : j = ks.length := by omega
      subst hje
      rw [List.take_of_length_le (Nat.le_refl _)]
      repeat refine wps_seq ?_
      refine wps_exit ?_
      simp
      rw [← jr]
      by_cases hz : serT t 0 = []
      · rw [hz] at q1 ⊢
        repeat refine wps_seq ?_
        refine wps_region callOK ?_
        simp [ofV, ofV1, mkC_P, writeVar, writeCells, readCells, allSingle, AV.single, getFs, getF, setFs, setF, Heap.get, Heap.set, Heap.new, Heap.kill, killF, pushF, Heap.ready, refs, sliceParts, fillA, replL, q1, ka]
        repeat refine wps_seq ?_
        refine wps_ret ?_
        simp [retVal, Try.f4, oneOr, thenQ, blockQ]
        exact ends_pure rfl (by rfl)
      · have ln := tn hz
        have ln' : (1 : Int) < ((orderOf t.length (kidsOf t)).length : Int) := by omega
        repeat refine wps_seq ?_
        refine wps_region callOK ?_
        simp [ofV, ofV1, mkC_P, writeVar, writeCells, readCells, allSingle, AV.single, getFs, getF, setFs, setF, Heap.get, Heap.set, Heap.new, Heap.kill, killF, pushF, Heap.ready, refs, sliceParts, fillA, replL, q1, ko, lenI, hz, ln', ka]
        repeat refine wps_seq ?_
        refine wps_ret ?_
        simp [retVal, Try.f4, oneOr, thenQ, blockQ]
        exact ends_pure rfl (by rfl)
end Go.Proofs.Ytohkgmnoamfmgaa
namespace Go.Proofs.Ytohkgmnoamfmgaa
set_option linter.unusedSimpArgs false
set_option linter.unusedVariables false
open Go Go.RowKit Go.ChangeShapes Go.WideShapes Go.ChangeAt
set_option maxRecDepth 100000

theorem own_ : ownKnob Try.prog.godebug = none := by kernel_rfl
theorem laid_ : laidOutB Try.prog = true := by kernel_rfl
theorem hgs (W : World) (hsh : W.ShapedOpen Try.prog) : GlobsIn W := by
  intro g h
  simp [globs] at h
  subst h
  exact cell_of_shapedOpen_int (P := Try.prog) (g := 0) (t := 3) (zero := #[.int .i64 0]) hsh (of_decide_eq_true (by kernel_rfl)) (by kernel_rfl) rfl (by kernel_rfl) (by kernel_rfl) Try.underlying3
noncomputable def TL_sjoins : List (Entry Try.prog) := [e8, e6, e9, e11, e15]
theorem read_sjoins : ∀ t, t ∈ [24] → Try.prog.readableRec t = true ∧ t < Try.prog.types.size := by
  intro t ht
  simp at ht
  subst ht
  exact ⟨by kernel_rfl, by decide +kernel⟩
theorem sjoins_contract (H : Type) (enc : TypeId × Value → H) (W : World) (base : Nat) (args : Array Value) (ds gs : List (DataW H)) (before : List MemPlace)
    (hval : ∀ (j : Nat) t v, Try.f4.params[j]? = some t → args[j]? = some v → Value.okWide Try.prog W .any base t v)
    (hW : DataW.Whole enc Try.prog Try.f4.params.toList Rows.serialJoinsSpec.vars false W args.toList ds gs before) (hsh : W.ShapedOpen Try.prog) :
    Calls Try.prog 4 args W fun e W' => ∃ v, e = .returned v ∧ Rows.serialJoinsSpec.post enc Try.prog Try.f4 false true false false W args v W' := by
  have hg := hgs W hsh
  have hW' := hW
  obtain ⟨p, q, hA0, hV, rfl, hfz, hnd⟩ := hW
  have hA : DataW.TrodAll enc Try.prog W 0 (fun _ => true) true Try.f4.params.toList args.toList ds p := hA0
  rw [Try.params4] at hA hval
  obtain ⟨v0, vs0, d0, ds0, p0, q0, hargs, rfl, rfl, h0, r0⟩ := trodAll_cons hA
  obtain ⟨rfl, rfl, rfl⟩ := trodAll_nil r0
  obtain rfl : args = #[v0] := by cases args; simp_all
  obtain ⟨rfl, rfl⟩ := trodVars_none hV
  obtain ⟨t, ht⟩ := argTree (hg := hg) h0 (hval 0 24 v0 rfl rfl)
  refine (law_calls (hg := hg) (C := ctx TL_sjoins) Try.func4 rfl rfl (c4 rfl rfl rfl rfl rfl t) (.cons ht .nil)).mono fun e W' ⟨he, hg⟩ => ⟨_, he, ?_⟩
  exact law_post (tb := 4) laid_ (by rw [Try.params4]; exact read_sjoins) Try.underlying4 rfl rfl ⟨rfl, rfl, rfl⟩ hW' hg
theorem sjoins_lifted (os : Os) (started : os.Started) (H : Type) (enc : TypeId × Value → H) :
    ReturnsInHanded {} Try.checked os 4 .any (Rows.serialJoinsSpec.pre6 enc Try.prog Try.f4 Rows.serialJoinsRow.domain false) (Rows.serialJoinsSpec.post enc Try.prog Try.f4 false true false false) := by
  refine returnsInHanded_of_change_shaped (C := Try.checked) own_ started (by kernel_rfl) Try.func4
    (ChangeSpec.witness6 (enc := enc) (C := Try.checked) false ⟨#[], #[.agg #[.slice none 0 0]], []⟩ 8 (by kernel_rfl) (by kernel_rfl) (by kernel_rfl) (by kernel_rfl)) ?_
  intro W base args ds gs before hval hW _ _ hsh _
  exact sjoins_contract H enc W base args ds gs before hval hW hsh
theorem sjoins_holds : Rows.SerialJoinsSaid :=
  OpenClaim.holds_of_wide 4 Try.f4 rfl rfl rfl rfl rfl rfl rfl ⟨rfl, rfl, rfl, rfl, rfl⟩ rfl rfl rfl rfl rfl (by kernel_rfl) Try.func4 (by kernel_rfl)
    (of_decide_eq_true (by kernel_rfl)) (by unfold Func.isWrapper; first | (rw [if_pos (by decide +kernel)]; kernel_rfl) | (rw [if_neg (by decide +kernel)]; exact ⟨rfl, rfl⟩))
    (fun os started H enc _ => sjoins_lifted os started H enc)
end Go.Proofs.Ytohkgmnoamfmgaa
