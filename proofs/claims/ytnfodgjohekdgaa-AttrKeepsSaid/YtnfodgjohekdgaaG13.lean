/- AttrTells and AttrKeeps hold: of any attributes, the program's functions answer as the document's do. No condition. -/
import Derived.Test.YtnfodgjohekdgaaRows
import Derived.Test.YtnfodgjohekdgaaF10
import Derived.Test.YtnfodgjohekdgaaG12
namespace Go.Proofs.Ytnfodgjohekdgaa
set_option linter.unusedSimpArgs false
set_option linter.unusedVariables false
open Go Go.RowKit Go.ChangeShapes Go.WideShapes Go.ChangeAt
set_option maxRecDepth 100000

theorem own_ : ownKnob Try.prog.godebug = none := by kernel_rfl
theorem laid_ : laidOutB Try.prog = true := by kernel_rfl
theorem ok22 : okTy Try.prog 4 22 = true := by kernel_rfl
theorem ok24 : okTy Try.prog 4 24 = true := by kernel_rfl
theorem cells22 : Try.prog.cellsOf 22 = 1 := by kernel_rfl
theorem cells24 : Try.prog.cellsOf 24 = 2 := by kernel_rfl
theorem cells9 : Try.prog.cellsOf 9 = 1 := by kernel_rfl
theorem shape24 {n : Nat} {qs : List AV} (h : ShapeT Try.prog (n + 2) 24 qs) : ∃ a : At1, AV.agg qs = aAttr a := by
  unfold ShapeT at h
  simp only [Try.underlying24] at h
  cases h with
  | cons f r x y h1 h2 =>
    cases h2 with
    | cons f2 r2 x2 y2 h3 h4 =>
      cases h4
      unfold ShapeT at h1 h3
      simp only [Try.underlying9] at h1 h3
      obtain ⟨s1, rfl, _⟩ := h1
      obtain ⟨s2, rfl, _⟩ := h3
      exact ⟨(s1, s2), rfl⟩
theorem shape22 {qs : List AV} (h : ShapeT Try.prog 4 22 qs) : ∃ L : List At1, qs = [aAttrs L] := by
  unfold ShapeT at h
  simp only [Try.underlying22] at h
  obtain ⟨es, rfl, _, hes⟩ := h
  have key : ∀ l : List AV, (∀ x, x ∈ l → ∃ ag cs, aggT Try.prog 24 = some ag ∧ wrapA ag cs = some x ∧ ShapeT Try.prog 3 24 cs) → ∃ L : List At1, l = L.map aAttr := by
    intro l
    induction l with
    | nil => intro _; exact ⟨[], rfl⟩
    | cons x r ih =>
      intro hx
      obtain ⟨ag, cs, h1, h2, h3⟩ := hx x (by simp)
      rw [agT24, Option.some.injEq] at h1
      subst h1
      obtain ⟨a, ha⟩ := shape24 h3
      simp only [wrapA, Option.some.injEq] at h2
      obtain ⟨L, hL⟩ := ih fun y hy => hx y (by simp [hy])
      exact ⟨a :: L, by rw [← h2, ha, hL]; rfl⟩
  obtain ⟨L, rfl⟩ := key es hes
  exact ⟨L, by rw [cells24]; rfl⟩
section
variable {H : Type} {enc : TypeId × Value → H} {W : World}
theorem arg22 {b0 base : Nat} {sp : Nat → Bool} {held : Bool} {v : Value} {d : DataW H} {ps : List MemPlace} (ht : DataW.Trod enc Try.prog W base sp held 22 v d ps) (hv : Value.okWide Try.prog W .any b0 22 v) : ∃ L, VR (start W) (aAttrs L) v := by
  obtain ⟨qs, a, h1, h2, h3⟩ := arg_shape ok22 (ag := false) agT22 (fun _ => cells22) ht hv
  obtain ⟨L, rfl⟩ := shape22 h1
  have : a = aAttrs L := by
    simp only [wrapA, aAttrs, AV.single, Option.some.injEq] at h2
    exact h2.symm
  exact ⟨L, this ▸ h3⟩
theorem arg24 {b0 base : Nat} {sp : Nat → Bool} {held : Bool} {v : Value} {d : DataW H} {ps : List MemPlace} (ht : DataW.Trod enc Try.prog W base sp held 24 v d ps) (hv : Value.okWide Try.prog W .any b0 24 v) : ∃ a, VR (start W) (aAttr a) v := by
  obtain ⟨qs, a, h1, h2, h3⟩ := arg_shape ok24 (ag := true) agT24 (fun h => by cases h) ht hv
  obtain ⟨x, hx⟩ := shape24 h1
  have : a = aAttr x := by
    simp only [wrapA, Option.some.injEq] at h2
    rw [← h2, hx]
  exact ⟨x, this ▸ h3⟩
end
theorem readable_ : ∀ t, t ∈ [22, 22, 24] → Try.prog.readableRec t = true ∧ t < Try.prog.types.size := by
  intro t ht
  simp at ht
  rcases ht with rfl | rfl
  · exact ⟨by kernel_rfl, by decide +kernel⟩
  · exact ⟨by kernel_rfl, by decide +kernel⟩

theorem tells_contract (H : Type) (enc : TypeId × Value → H) (W : World) (base : Nat) (args : Array Value) (ds gs : List (DataW H)) (before : List MemPlace)
    (hval : ∀ (j : Nat) t v, Try.f3.params[j]? = some t → args[j]? = some v → Value.okWide Try.prog W .any base t v)
    (hW : DataW.Whole enc Try.prog Try.f3.params.toList Rows.attrTellsSpec.vars false W args.toList ds gs before) :
    Calls Try.prog 3 args W fun e W' => ∃ v, e = .returned v ∧ Rows.attrTellsSpec.post enc Try.prog Try.f3 false true false false W args v W' := by
  have hW' := hW
  obtain ⟨p, q, hA0, hV, rfl, hfz, hnd⟩ := hW
  have hA : DataW.TrodAll enc Try.prog W 0 (fun _ => true) true Try.f3.params.toList args.toList ds p := hA0
  rw [Try.params3] at hA hval
  obtain ⟨v0, vs0, d0, ds0, p0, q0, hargs, rfl, rfl, h0, r0⟩ := trodAll_cons hA
  obtain ⟨v1, vs1, d1, ds1, p1, q1, rfl, rfl, rfl, h1, r1⟩ := trodAll_cons r0
  obtain ⟨v2, vs2, d2, ds2, p2, q2, rfl, rfl, rfl, h2, r2⟩ := trodAll_cons r1
  obtain ⟨rfl, rfl, rfl⟩ := trodAll_nil r2
  obtain rfl : args = #[v0, v1, v2] := by cases args; simp_all
  obtain ⟨rfl, rfl⟩ := trodVars_none hV
  obtain ⟨L, hL⟩ := arg22 h0 (hval 0 22 v0 rfl rfl)
  obtain ⟨M, hM⟩ := arg22 h1 (hval 1 22 v1 rfl rfl)
  obtain ⟨a, ha⟩ := arg24 h2 (hval 2 24 v2 rfl rfl)
  refine (law_calls (C := ctx TL) Try.func3 rfl rfl (c3 L M a) (.cons hL (.cons hM (.cons ha .nil)))).mono fun e W' ⟨he, hg⟩ => ⟨_, he, ?_⟩
  exact law_post (tb := 4) laid_ (by rw [Try.params3]; exact readable_) Try.underlying4 rfl rfl ⟨rfl, rfl, rfl⟩ hW' hg
theorem keeps_contract (H : Type) (enc : TypeId × Value → H) (W : World) (base : Nat) (args : Array Value) (ds gs : List (DataW H)) (before : List MemPlace)
    (hval : ∀ (j : Nat) t v, Try.f4.params[j]? = some t → args[j]? = some v → Value.okWide Try.prog W .any base t v)
    (hW : DataW.Whole enc Try.prog Try.f4.params.toList Rows.attrKeepsSpec.vars false W args.toList ds gs before) :
    Calls Try.prog 4 args W fun e W' => ∃ v, e = .returned v ∧ Rows.attrKeepsSpec.post enc Try.prog Try.f4 false true false false W args v W' := by
  have hW' := hW
  obtain ⟨p, q, hA0, hV, rfl, hfz, hnd⟩ := hW
  have hA : DataW.TrodAll enc Try.prog W 0 (fun _ => true) true Try.f4.params.toList args.toList ds p := hA0
  rw [Try.params4] at hA hval
  obtain ⟨v0, vs0, d0, ds0, p0, q0, hargs, rfl, rfl, h0, r0⟩ := trodAll_cons hA
  obtain ⟨v1, vs1, d1, ds1, p1, q1, rfl, rfl, rfl, h1, r1⟩ := trodAll_cons r0
  obtain ⟨v2, vs2, d2, ds2, p2, q2, rfl, rfl, rfl, h2, r2⟩ := trodAll_cons r1
  obtain ⟨rfl, rfl, rfl⟩ := trodAll_nil r2
  obtain rfl : args = #[v0, v1, v2] := by cases args; simp_all
  obtain ⟨rfl, rfl⟩ := trodVars_none hV
  obtain ⟨L, hL⟩ := arg22 h0 (hval 0 22 v0 rfl rfl)
  obtain ⟨M, hM⟩ := arg22 h1 (hval 1 22 v1 rfl rfl)
  obtain ⟨a, ha⟩ := arg24 h2 (hval 2 24 v2 rfl rfl)
  refine (law_calls (C := ctx TL) Try.func4 rfl rfl (c4 L M a) (.cons hL (.cons hM (.cons ha .nil)))).mono fun e W' ⟨he, hg⟩ => ⟨_, he, ?_⟩
  exact law_post (tb := 4) laid_ (by rw [Try.params4]; exact readable_) Try.underlying4 rfl rfl ⟨rfl, rfl, rfl⟩ hW' hg

theorem tells_lifted (os : Os) (started : os.Started) (H : Type) (enc : TypeId × Value → H) :
    ReturnsInHanded {} Try.checked os 3 .any (Rows.attrTellsSpec.pre6 enc Try.prog Try.f3 Rows.attrTellsRow.domain false) (Rows.attrTellsSpec.post enc Try.prog Try.f3 false true false false) := by
  refine returnsInHanded_of_change (C := Try.checked) own_ started (by kernel_rfl) Try.func3
    (ChangeSpec.witness6 (enc := enc) (C := Try.checked) false ⟨#[], #[.slice none 0 0, .slice none 0 0, .agg #[.string ByteArray.empty, .string ByteArray.empty]], []⟩ 8 (by kernel_rfl) (by kernel_rfl) (by kernel_rfl) (by kernel_rfl)) ?_
  intro W base args ds gs before hval hW _ _
  exact tells_contract H enc W base args ds gs before hval hW
theorem tells_holds : Rows.AttrTellsSaid :=
  OpenClaim.holds_of_wide 3 Try.f3 rfl rfl rfl rfl rfl rfl rfl ⟨rfl, rfl, rfl, rfl, rfl⟩ rfl rfl rfl rfl rfl (by kernel_rfl) Try.func3 (by kernel_rfl)
    (of_decide_eq_true (by kernel_rfl)) (by unfold Func.isWrapper; first | (rw [if_pos (by decide +kernel)]; kernel_rfl) | (rw [if_neg (by decide +kernel)]; exact ⟨rfl, rfl⟩))
    (fun os started H enc _ => tells_lifted os started H enc)
theorem keeps_lifted (os : Os) (started : os.Started) (H : Type) (enc : TypeId × Value → H) :
    ReturnsInHanded {} Try.checked os 4 .any (Rows.attrKeepsSpec.pre6 enc Try.prog Try.f4 Rows.attrKeepsRow.domain false) (Rows.attrKeepsSpec.post enc Try.prog Try.f4 false true false false) := by
  refine returnsInHanded_of_change (C := Try.checked) own_ started (by kernel_rfl) Try.func4
    (ChangeSpec.witness6 (enc := enc) (C := Try.checked) false ⟨#[], #[.slice none 0 0, .slice none 0 0, .agg #[.string ByteArray.empty, .string ByteArray.empty]], []⟩ 8 (by kernel_rfl) (by kernel_rfl) (by kernel_rfl) (by kernel_rfl)) ?_
  intro W base args ds gs before hval hW _ _
  exact keeps_contract H enc W base args ds gs before hval hW
theorem keeps_holds : Rows.AttrKeepsSaid :=
  OpenClaim.holds_of_wide 4 Try.f4 rfl rfl rfl rfl rfl rfl rfl ⟨rfl, rfl, rfl, rfl, rfl⟩ rfl rfl rfl rfl rfl (by kernel_rfl) Try.func4 (by kernel_rfl)
    (of_decide_eq_true (by kernel_rfl)) (by unfold Func.isWrapper; first | (rw [if_pos (by decide +kernel)]; kernel_rfl) | (rw [if_neg (by decide +kernel)]; exact ⟨rfl, rfl⟩))
    (fun os started H enc _ => keeps_lifted os started H enc)
end Go.Proofs.Ytnfodgjohekdgaa
