/- How E's single operations meet the model's: addresses, indexes, slices. No condition. -/
import Derived.Test.YtpkplilgjdbhhaaE5
namespace Go.Proofs.Ytpkplilgjdbhhaa
set_option linter.unusedSimpArgs false
set_option linter.unusedVariables false
open Go Go.RowKit

section
variable {P : Program} {ρ : Place} {H H' : Heap} {w : World}

theorem idx_spec {i : Int} {n j : Nat} (h : idx i n = some j) : i = (j : Int) ∧ j < n := by
  unfold idx at h
  split at h
  · split at h
    · rename_i hb
      simp only [Option.some.injEq] at h
      subst h
      exact ⟨rfl, Nat.le_of_ble_eq_true hb⟩
    · simp at h
  · simp at h

theorem fieldAddr_run {t : TypeId} {x v : AV} {i : Nat} {y : Value} (h : fieldAddrA P t x i = some v) (hx : VR ρ x y) (w : World) :
    ∃ z, (Instr.fieldAt t y i).run P w = .ok z w ∧ VR ρ v z := by
  replace h := Option.bind_eq_some_iff.1 h; obtain ⟨d, hd, h⟩ := h
  cases d with
  | struct fs =>
    replace h := Option.bind_eq_some_iff.1 h; obtain ⟨f, hf, h⟩ := h
    replace h := Option.bind_eq_some_iff.1 h; obtain ⟨n, hn, h⟩ := h
    have hf' : fs[i]? = some f := by have := getL_some hf; simpa using this
    cases n with
    | zero => simp at h
    | succ n =>
      have hs := sizeT_run hn w
      have key : ∀ b o, (Instr.fieldAt t (.pointer (some ⟨b, o, none⟩)) i).run P w = .ok (.pointer (some ⟨b, o + f.offset, none⟩)) w := fun b o => by
        simp [Instr.fieldAt, run_underlying hd, hf', Instr.sureAddr, fieldPlace, hs, add_mk]
      cases hx with
      | ptr b o l hl =>
        simp only [Option.some.injEq] at h
        subst h
        exact ⟨_, key _ _, by rw [Nat.add_assoc]; exact .ptr _ _ l hl⟩
      | fptr cs o cb off vs hB hc hv =>
        simp only [Option.some.injEq] at h
        subst h
        exact ⟨_, key _ _, by rw [Nat.add_assoc]; exact .fptr cs _ cb off vs hB hc hv⟩
      | _ => simp at h
  | _ => simp at h

theorem indexAddr_run {t : TypeId} {x i v : AV} {y z : Value} (h : indexAddrA P t x i = some v) (hx : VR ρ x y) (hi : VR ρ i z) (w : World) :
    ∃ u, (Instr.indexAt t y z).run P w = .ok u w ∧ VR ρ v u := by
  cases hi with
  | int k i =>
    replace h := Option.bind_eq_some_iff.1 h; obtain ⟨d, hd, h⟩ := h
    cases d with
    | slice elem =>
      cases hx with
      | slcE b o len c l hl hc =>
        replace h := Option.bind_eq_some_iff.1 h; obtain ⟨j, hj, h⟩ := h
        replace h := Option.bind_eq_some_iff.1 h; obtain ⟨n, hn, h⟩ := h
        simp only [Option.some.injEq] at h
        subst h
        obtain ⟨rfl, hlt⟩ := idx_spec hj
        exact ⟨_, by simp [Instr.indexAt, asIntOf, run_underlying hd, hlt, sizeT_run hn, add_mk]; rfl, by rw [Nat.add_assoc]; exact .ptr _ _ l hl⟩
      | slcR b o len sz c l hl hc hf =>
        replace h := Option.bind_eq_some_iff.1 h; obtain ⟨j, hj, h⟩ := h
        replace h := Option.bind_eq_some_iff.1 h; obtain ⟨n, hn, h⟩ := h
        simp only [Option.some.injEq] at h
        subst h
        obtain ⟨rfl, hlt⟩ := idx_spec hj
        exact ⟨_, by simp [Instr.indexAt, asIntOf, run_underlying hd, hlt, sizeT_run hn, add_mk]; rfl, by rw [Nat.add_assoc]; exact .ptr _ _ l hl⟩
      | fslc sz es cb off cap vs hB hcap hz hc hv =>
        replace h := Option.bind_eq_some_iff.1 h; obtain ⟨j, hj, h⟩ := h
        replace h := Option.bind_eq_some_iff.1 h; obtain ⟨n, hn, h⟩ := h
        split at h
        · rename_i hb
          have hb := Nat.eq_of_beq_eq_true hb
          subst hb
          replace h := Option.bind_eq_some_iff.1 h; obtain ⟨e, he, h⟩ := h
          simp only [Option.some.injEq] at h
          subst h
          obtain ⟨hlt, rfl⟩ := getL_spec he
          obtain ⟨rfl, _⟩ := idx_spec hj
          refine ⟨_, by simp [Instr.indexAt, asIntOf, run_underlying hd, hlt, sizeT_run hn, add_mk]; rfl, ?_⟩
          have hzj := hz j hlt
          exact .fptr _ 0 cb (off + j * n) (vs j) hB (fun i hi => hc j hlt i (by omega)) (fun i hi => hv j hlt i hi)
        · simp at h
      | fnil sz =>
        replace h := Option.bind_eq_some_iff.1 h; obtain ⟨j, hj, h⟩ := h
        exact absurd (idx_spec hj).2 (Nat.not_lt_zero _)
      | fnone sz a c =>
        replace h := Option.bind_eq_some_iff.1 h; obtain ⟨j, hj, h⟩ := h
        exact absurd (idx_spec hj).2 (Nat.not_lt_zero _)
      | _ => simp at h
    | array len elem =>
      replace h := Option.bind_eq_some_iff.1 h; obtain ⟨j, hj, h⟩ := h
      replace h := Option.bind_eq_some_iff.1 h; obtain ⟨n, hn, h⟩ := h
      obtain ⟨rfl, hlt⟩ := idx_spec hj
      cases hx with
      | ptr b o l hl =>
        simp only [Option.some.injEq] at h
        subst h
        exact ⟨_, by simp [Instr.indexAt, asIntOf, run_underlying hd, hlt, sizeT_run hn, add_mk, Instr.sureAddr]; rfl, by rw [Nat.add_assoc]; exact .ptr _ _ l hl⟩
      | fptr cs o cb off vs hB hc hv =>
        simp only [Option.some.injEq] at h
        subst h
        exact ⟨_, by simp [Instr.indexAt, asIntOf, run_underlying hd, hlt, sizeT_run hn, add_mk, Instr.sureAddr]; rfl, by rw [Nat.add_assoc]; exact .fptr cs _ cb off vs hB hc hv⟩
      | _ => simp at h
    | _ => simp at h
  | _ => simp [indexAddrA] at h

theorem part_run {t : TypeId} {cs : List AV} {c : Array Value} {off : Nat} {v : AV} (h : partA P t cs off = some v) (hv : VRs ρ cs c.toList) (w : World) :
    ∃ u, (part t c off).run P w = .ok u w ∧ VR ρ v u := by
  replace h := Option.bind_eq_some_iff.1 h; obtain ⟨ag, hag, h⟩ := h
  have hlen : c.size = cs.length := by simpa using hv.1
  cases ag with
  | true =>
    replace h := Option.bind_eq_some_iff.1 h; obtain ⟨n, hn, h⟩ := h
    replace h := Option.bind_eq_some_iff.1 h; obtain ⟨r, hr, h⟩ := h
    simp only [Option.some.injEq] at h
    subst h
    obtain ⟨h1, rfl⟩ := subL_spec hr
    refine ⟨_, by simp [part, aggT_run hag, sizeT_run hn]; rfl, .agg _ _ (by simp; omega) fun i h2 h3 => ?_⟩
    simp only [List.getElem_take, List.getElem_drop, Array.getElem_extract]
    simp at h2
    exact hv.2 (off + i) (by omega) (by simp; omega)
  | false =>
    obtain ⟨h1, rfl⟩ := getL_spec h
    refine ⟨c[off]'(by omega), ?_, hv.2 off h1 (by simp; omega)⟩
    simp [part, aggT_run hag, hlen, h1]
theorem agg_vrs {cs : List AV} {vs : Array Value} (hl : vs.size = cs.length) (hv : ∀ i (h : i < cs.length) (h' : i < vs.size), VR ρ cs[i] vs[i]) : VRs ρ cs vs.toList :=
  ⟨by simpa using hl, fun i h1 h2 => hv i h1 (by simpa using h2)⟩
theorem field_run {t : TypeId} {x v : AV} {i : Nat} {y : Value} (h : fieldA P t x i = some v) (hx : VR ρ x y) (w : World) :
    ∃ z, (Instr.field t y i).run P w = .ok z w ∧ VR ρ v z := by
  replace h := Option.bind_eq_some_iff.1 h; obtain ⟨d, hd, h⟩ := h
  cases d with
  | struct fs =>
    replace h := Option.bind_eq_some_iff.1 h; obtain ⟨f, hf, h⟩ := h
    have hf' : fs[i]? = some f := by have := getL_some hf; simpa using this
    cases hx with
    | agg cs vs hl hv =>
      obtain ⟨u, hu, hr⟩ := part_run h (agg_vrs hl hv) w
      exact ⟨u, by simp [Instr.field, run_underlying hd, hf', asAgg, hu], hr⟩
    | _ => simp at h
  | _ => simp at h
theorem index_run {t : TypeId} {x i v : AV} {y z : Value} (h : indexA P t x i = some v) (hx : VR ρ x y) (hi : VR ρ i z) (w : World) :
    ∃ u, (Instr.index t y z).run P w = .ok u w ∧ VR ρ v u := by
  cases hi with
  | int k i =>
    replace h := Option.bind_eq_some_iff.1 h; obtain ⟨d, hd, h⟩ := h
    cases d with
    | array len elem =>
      cases hx with
      | agg cs vs hl hv =>
        replace h := Option.bind_eq_some_iff.1 h; obtain ⟨j, hj, h⟩ := h
        replace h := Option.bind_eq_some_iff.1 h; obtain ⟨n, hn, h⟩ := h
        obtain ⟨rfl, hlt⟩ := idx_spec hj
        obtain ⟨u, hu, hr⟩ := part_run h (agg_vrs hl hv) w
        exact ⟨u, by simp [Instr.index, asIntOf, run_underlying hd, hlt, sizeT_run hn, hu], hr⟩
      | _ => simp at h
    | string =>
      cases hx with
      | str s =>
        replace h := Option.bind_eq_some_iff.1 h; obtain ⟨j, hj, h⟩ := h
        replace h := Option.bind_eq_some_iff.1 h; obtain ⟨c, hc, h⟩ := h
        simp only [Option.some.injEq] at h
        subst h
        obtain ⟨rfl, hlt⟩ := idx_spec hj
        obtain ⟨h1, rfl⟩ := getL_spec hc
        have hsz : (⟨s.toArray⟩ : ByteArray).size = s.length := by simp [ByteArray.size]
        have hget : (⟨s.toArray⟩ : ByteArray)[j]? = some s[j] := by
          have : j < (⟨s.toArray⟩ : ByteArray).size := by omega
          rw [getElem?_pos (⟨s.toArray⟩ : ByteArray) j this]
          simp [ByteArray.getElem_eq_getElem_data]
        refine ⟨.int .u8 s[j].toNat, ?_, .int _ _⟩
        simp [Instr.index, asIntOf, run_underlying hd, hget]
      | _ => simp at h
    | _ => simp at h
  | _ => simp [indexA] at h

/-! ### Slicing -/
theorem bound_none {d m : Nat} : bound none d m = some d := rfl
theorem sb_run {v : AV} {x : Value} {d y y' j : Nat} {code : BoundsCode} (h : bound (some v) d y = some j) (hv : VR ρ v x) (hy : y ≤ y') (w : World) :
    (Instr.sliceBound x y' code).run P w = .ok j w ∧ j ≤ y := by
  cases hv with
  | int k i =>
    obtain ⟨rfl, hlt⟩ := idx_spec (show idx i (Nat.succ y) = some j from h)
    have h1 : (j : Int) ≤ (y' : Int) := by omega
    exact ⟨by simp [Instr.sliceBound, asIntOf]; omega, by omega⟩
  | _ => simp [bound] at h
/-- a value for a bound, or none -/
inductive OptR (ρ : Place) : Option AV → Option Value → Prop
  | none : OptR ρ none none
  | some (v : AV) (x : Value) (h : VR ρ v x) : OptR ρ (some v) (some x)
theorem opndO_run {s : St} {a : Act} (e : EnvR ρ s a) {x : Option Operand} {v : Option AV} (h : opndO s x = some v) : OptR ρ v (x.map a.eval) := by
  cases x with
  | none => simp only [opndO, Option.some.injEq] at h; subst h; exact .none
  | some x =>
    replace h := Option.bind_eq_some_iff.1 h; obtain ⟨v', hv, h⟩ := h
    simp only [Option.some.injEq] at h
    subst h
    exact .some _ _ (opnd_run e hv)
def third {α : Type} (mx : Option α) (m c : Nat) : Nat := match mx with
  | some _ => m
  | none => c
/-- the bounds of a slice: mD: what stands for the third bound if there is none -/
theorem bounds_run {isSlice : Bool} {len c c' mD m l h : Nat} {lo hi mx : Option AV} {lo' hi' mx' : Option Value} (rl : OptR ρ lo lo') (rh : OptR ρ hi hi') (rm : OptR ρ mx mx')
    (ok : hiOK hi mx = true) (hc : c ≤ c') (hm : bound mx mD c = some m) (hh : bound hi len (third mx m c) = some h) (hl : bound lo 0 h = some l) (w : World) :
    (Instr.sliceBounds isSlice len c' lo' hi' mx').run P w = .ok (l, h, third mx m c') w ∧ (hi = none → h = len) ∧ (∀ v, hi = some v → h ≤ third mx m c) ∧ l ≤ h ∧ (∀ v, mx = some v → m ≤ c) := by
  have low : ∀ code, (match lo' with | some v => Instr.sliceBound v h code | none => pure 0 : Sem Nat).run P w = .ok l w ∧ l ≤ h := fun code => by
    cases rl with
    | none => simp only [bound, Option.some.injEq] at hl; subst hl; exact ⟨rfl, Nat.zero_le _⟩
    | some v x hv => exact sb_run hl hv (Nat.le_refl _) w
  cases rm with
  | none =>
    cases rh with
    | none =>
      simp only [bound, Option.some.injEq] at hh
      subst hh
      refine ⟨?_, fun _ => rfl, fun v e => (by cases e), (low .sliceB).2, fun v e => (by cases e)⟩
      have := (low .sliceB).1
      cases rl <;> simp_all [Instr.sliceBounds, third]
    | some v x hv =>
      obtain ⟨h1, h2⟩ := sb_run (P := P) (code := if isSlice then .sliceAcap else .sliceAlen) hh hv hc w
      refine ⟨?_, fun e => (by cases e), fun _ _ => h2, (low .sliceB).2, fun v e => (by cases e)⟩
      have := (low .sliceB).1
      cases rl <;> simp_all [Instr.sliceBounds, third]
  | some v x hv =>
    obtain ⟨h1, h2⟩ := sb_run (P := P) (code := if isSlice then .slice3Acap else .slice3Alen) hm hv hc w
    cases rh with
    | none => simp [hiOK] at ok
    | some u y hu =>
      obtain ⟨h3, h4⟩ := sb_run (P := P) (code := .slice3B) hh hu (Nat.le_refl _) w
      refine ⟨?_, fun e => (by cases e), fun _ _ => h4, (low .slice3C).2, fun _ _ => h2⟩
      have := (low .slice3C).1
      cases rl <;> simp_all [Instr.sliceBounds, third]

/-- the address of a slice, as the model reckons it -/
def baseOf (b o l m sz : Nat) : Addr := if m = l then ⟨b, o, none⟩ else ⟨b, o + l * sz, none⟩
theorem sliceBlk_run (s : Sim ρ H w) {sz b o len : Nat} {cap : Cap} {lo hi mx : Option AV} {lo' hi' mx' : Option Value} {v : AV} {ad : Option Addr} {cap' : Nat} {isSlice : Bool}
    (h : sliceBlk H sz b o len cap lo hi mx = some v) (rl : OptR ρ lo lo') (rh : OptR ρ hi hi') (rm : OptR ρ mx mx') (ok : hiOK hi mx = true)
    (hx : VR ρ (.slc b o len cap) (.slice ad len cap')) :
    ∃ l hh m b' o', ad = some ⟨b', o', none⟩ ∧ (Instr.sliceBounds isSlice len cap' lo' hi' mx').run P w = .ok (l, hh, m) w ∧ VR ρ v (.slice (some (baseOf b' o' l m sz)) (hh - l) (m - l)) := by
  replace h := Option.bind_eq_some_iff.1 h; obtain ⟨kn, hkn, h⟩ := h
  cases hx with
  | slcE _ _ _ c l0 hl0 hlen =>
    replace h := Option.bind_eq_some_iff.1 h; obtain ⟨m, hm, h⟩ := h
    replace h := Option.bind_eq_some_iff.1 h; obtain ⟨hh, hhh, h⟩ := h
    replace h := Option.bind_eq_some_iff.1 h; obtain ⟨l, hl, h⟩ := h
    simp only [Option.some.injEq] at h
    subst h
    have hmm : third mx m cap' = m := by
      cases rm with
      | none => simp only [bound, Option.some.injEq] at hm; exact hm
      | some => rfl
    obtain ⟨h1, h2, h3, h4, h5⟩ := bounds_run (P := P) (isSlice := isSlice) (len := len) (c := cap') (c' := cap') rl rh rm ok (Nat.le_refl _) hm (by rw [hmm]; exact hhh) hl w
    rw [hmm] at h1 h3
    have hle : hh ≤ m := by
      cases rh with
      | none =>
        rw [h2 rfl]
        cases rm with
        | none => simp only [bound, Option.some.injEq] at hm; omega
        | some => simp [hiOK] at ok
      | some u y hu => exact h3 _ rfl
    refine ⟨l, hh, m, _, _, rfl, h1, ?_⟩
    unfold baseOf
    by_cases hml : m = l
    · subst hml
      simp only [if_true, Nat.beq_refl]
      exact .slcE _ _ _ _ l0 hl0 (by omega)
    · simp only [hml, if_false, beqN_ne hml, Nat.add_assoc]
      exact .slcE _ _ _ _ l0 hl0 (by omega)
  | slcR _ _ _ sz' c l0 hl0 hlen hfin =>
    dsimp only at h
    split at h
    · simp at h
    · rename_i hb
      have hb := Nat.eq_of_beq_eq_true hb
      subst hb
      obtain ⟨k, hk, hkl⟩ := Option.bind_eq_some_iff.1 hkn
      cases k with
      | map _ => simp at hkl
      | loop => simp at hkl
      | cells cs =>
        simp only [Option.some.injEq] at hkl
        subst hkl
        obtain ⟨l1, hl1, _, _, hr⟩ := s.block hk
        rw [hl0] at hl1; cases hl1
        have hroom : (cs.length - o) / sz ≤ cap' := by
          rcases Nat.eq_zero_or_pos sz with h0 | h0
          · subst h0; simp
          · have : (cs.length - o) ≤ cap' * sz := by have := hr.1; omega
            exact Nat.div_le_of_le_mul (by rw [Nat.mul_comm]; exact this)
        split at h
        · rename_i v' _
          replace h := Option.bind_eq_some_iff.1 h; obtain ⟨m, hm, h⟩ := h
          replace h := Option.bind_eq_some_iff.1 h; obtain ⟨hh, hhh, h⟩ := h
          replace h := Option.bind_eq_some_iff.1 h; obtain ⟨l, hl, h⟩ := h
          obtain ⟨h1, h2, h3, h4, h5⟩ := bounds_run (P := P) (isSlice := isSlice) (len := len) (c := (cs.length - o) / sz) (c' := cap') rl rh rm ok hroom hm hhh hl w
          have hle : hh ≤ m := by
            cases rh with
            | none => simp [hiOK] at ok
            | some u y hu => exact h3 _ rfl
          refine ⟨l, hh, m, _, _, rfl, h1, ?_⟩
          unfold baseOf
          split at h
          · rename_i hml
            have hml := Nat.eq_of_beq_eq_true hml
            simp only [Option.some.injEq] at h
            subst h; subst hml
            rw [show hh - m = 0 by omega]
            exact .eslc _ _
          · rename_i hml
            have hml : m ≠ l := fun e => by rw [e, Nat.beq_refl] at hml; cases hml
            simp only [Option.some.injEq] at h
            subst h
            simp only [hml, if_false, Nat.add_assoc]
            exact .slcE _ _ _ _ l0 hl0 (by omega)
        · replace h := Option.bind_eq_some_iff.1 h; obtain ⟨hh, hhh, h⟩ := h
          replace h := Option.bind_eq_some_iff.1 h; obtain ⟨l, hl, h⟩ := h
          obtain ⟨h1, h2, h3, h4, h5⟩ := bounds_run (P := P) (isSlice := isSlice) (len := len) (c := (cs.length - o) / sz) (c' := cap') (mD := 0) (m := 0) rl rh rm ok hroom rfl hhh hl w
          have hle : hh ≤ cap' := by
            cases rh with
            | none => rw [h2 rfl]; exact hlen
            | some u y hu => exact Nat.le_trans (h3 _ rfl) hroom
          refine ⟨l, hh, cap', _, _, rfl, h1, ?_⟩
          unfold baseOf
          have main : cap' ≠ l ∨ l = 0 → VR ρ (.slc b (o + l * sz) (hh - l) (.rest sz)) (.slice (some (if cap' = l then ⟨l0.cb, l0.off + o, none⟩ else ⟨l0.cb, l0.off + o + l * sz, none⟩)) (hh - l) (cap' - l)) := fun hor => by
            have e : (if cap' = l then (⟨l0.cb, l0.off + o, none⟩ : Addr) else ⟨l0.cb, l0.off + o + l * sz, none⟩) = ⟨l0.cb, l0.off + (o + l * sz), none⟩ := by
              rcases hor with hne | h0
              · rw [if_neg hne, Nat.add_assoc]
              · subst h0; simp
            rw [e]
            refine .slcR _ _ _ _ _ l0 hl0 (by omega) ?_
            have : (cap' - l) * sz + l * sz = cap' * sz := by rw [← Nat.add_mul]; congr 1; omega
            omega
          split at h
          · rename_i hkle
            cases l with
            | zero =>
              simp only [Option.some.injEq] at h
              subst h
              simpa using main (.inr rfl)
            | succ l =>
              simp only at h
              split at h
              · rename_i hhl
                have hhl := Nat.eq_of_beq_eq_true hhl
                simp only [Option.some.injEq] at h
                subst h
                rw [show hh - (l + 1) = 0 by omega]
                exact .eslc _ _
              · simp at h
          · rename_i hkle
            simp only [Option.some.injEq] at h
            subst h
            refine main (.inl fun e => ?_)
            subst e
            have : Nat.ble (cs.length - o) (cap' * sz) = true := by rw [Nat.ble_eq]; have := hr.1; omega
            rw [this] at hkle; cases hkle
end
end Go.Proofs.Ytpkplilgjdbhhaa
