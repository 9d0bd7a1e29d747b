/- SerialTells holds: in any tree, at any node, the text is what the document says. No condition. -/
import Derived.Test.YtoaociiglhdpaaaRows
import Derived.Test.YtoaociiglhdpaaaMI
import Derived.HandedShaped
import Derived.Shelf.Vars
import Derived.ChangeMaps5
namespace Go.Proofs.Ytoaociiglhdpaaa
set_option linter.unusedSimpArgs false
set_option linter.unusedVariables false
open Go Go.RowKit Go.ChangeShapes Go.WideShapes Go.ChangeAt
set_option maxRecDepth 100000

theorem own_ : ownKnob Try.prog.godebug = none := by kernel_rfl
theorem laid_ : laidOutB Try.prog = true := by kernel_rfl
theorem hgs (W : World) (hsh : W.ShapedOpen Try.prog) : GlobsIn W := by
  intro g h
  simp [globs] at h
  subst h
  exact cell_of_shapedOpen_int (P := Try.prog) (g := 0) (t := 3) (zero := #[.int .i64 0]) hsh (of_decide_eq_true (by kernel_rfl)) (by kernel_rfl) rfl (by kernel_rfl) (by kernel_rfl) Try.underlying3
theorem okNode : okTy Try.prog 4 28 = true := by kernel_rfl
section
variable {H : Type} {enc : TypeId × Value → H} {W : World} {hg : GlobsIn W}
theorem argNode {b0 base : Nat} {sp : Nat → Bool} {held : Bool} {v : Value} {d : DataW H} {ps : List MemPlace} (ht : DataW.Trod enc Try.prog W base sp held 28 v d ps) (hv : Value.okWide Try.prog W .any b0 28 v) : ∃ n, VR (start W hg) (aNode n) v := by
  obtain ⟨qs, a, h1, h2, h3⟩ := arg_shape (hg := hg) okNode (ag := true) agT28 (fun h => by cases h) ht hv
  obtain ⟨x, hx⟩ := shape_node (n := 0) h1
  have : a = aNode x := by
    simp only [wrapA, Option.some.injEq] at h2
    rw [← h2, hx]
  exact ⟨x, this ▸ h3⟩
end
noncomputable def TL_stells : List (Entry Try.prog) := [e8, e6, e7, e9, e10, e11, e12, e13, e14]
theorem read_stells : ∀ t, t ∈ [24, 3, 28] → Try.prog.readableRec t = true ∧ t < Try.prog.types.size := by
  intro t ht
  simp at ht
  rcases ht with rfl | rfl | rfl
  · exact ⟨by kernel_rfl, by decide +kernel⟩
  · exact ⟨by kernel_rfl, by decide +kernel⟩
  · exact ⟨by kernel_rfl, by decide +kernel⟩
theorem stells_contract (H : Type) (enc : TypeId × Value → H) (W : World) (base : Nat) (args : Array Value) (ds gs : List (DataW H)) (before : List MemPlace)
    (hval : ∀ (j : Nat) t v, Try.f3.params[j]? = some t → args[j]? = some v → Value.okWide Try.prog W .any base t v)
    (hW : DataW.Whole enc Try.prog Try.f3.params.toList Rows.serialTellsSpec.vars false W args.toList ds gs before) (hsh : W.ShapedOpen Try.prog) :
    Calls Try.prog 3 args W fun e W' => ∃ v, e = .returned v ∧ Rows.serialTellsSpec.post enc Try.prog Try.f3 false true false false W args v W' := by
  have hg := hgs W hsh
  have hW' := hW
  obtain ⟨p, q, hA0, hV, rfl, hfz, hnd⟩ := hW
  have hA : DataW.TrodAll enc Try.prog W 0 (fun _ => true) true Try.f3.params.toList args.toList ds p := hA0
  rw [Try.params3] at hA hval
  obtain ⟨v0, vs0, d0, ds0, p0, q0, hargs, rfl, rfl, h0, r0⟩ := trodAll_cons hA
  obtain ⟨v1, vs1, d1, ds1, p1, q1, rfl, rfl, rfl, h1, r1⟩ := trodAll_cons r0
  obtain ⟨v2, vs2, d2, ds2, p2, q2, rfl, rfl, rfl, h2, r2⟩ := trodAll_cons r1
  obtain ⟨rfl, rfl, rfl⟩ := trodAll_nil r2
  obtain rfl : args = #[v0, v1, v2] := by cases args; simp_all
  obtain ⟨rfl, rfl⟩ := trodVars_none hV
  obtain ⟨t, ht⟩ := argTree (hg := hg) h0 (hval 0 24 v0 rfl rfl)
  obtain ⟨i, rfl, rfl, rfl, _⟩ := open_int Try.underlying3 (hval 1 3 v1 rfl rfl) h1
  obtain ⟨n, hn⟩ := argNode (hg := hg) h2 (hval 2 28 v2 rfl rfl)
  refine (law_calls (hg := hg) (C := ctx TL_stells) Try.func3 rfl rfl (c3 rfl rfl rfl rfl rfl rfl rfl rfl rfl t i n) (.cons ht (.cons (.int _ _) (.cons hn .nil)))).mono fun e W' ⟨he, hg⟩ => ⟨_, he, ?_⟩
  exact law_post (tb := 4) laid_ (by rw [Try.params3]; exact read_stells) Try.underlying4 rfl rfl ⟨rfl, rfl, rfl⟩ hW' hg
theorem stells_lifted (os : Os) (started : os.Started) (H : Type) (enc : TypeId × Value → H) :
    ReturnsInHanded {} Try.checked os 3 .any (Rows.serialTellsSpec.pre6 enc Try.prog Try.f3 Rows.serialTellsRow.domain false) (Rows.serialTellsSpec.post enc Try.prog Try.f3 false true false false) := by
  refine returnsInHanded_of_change_shaped (C := Try.checked) own_ started (by kernel_rfl) Try.func3
    (ChangeSpec.witness6 (enc := enc) (C := Try.checked) false ⟨#[], #[.agg #[.slice none 0 0], .int .i64 0, .agg #[.int .i64 0, .int .i64 0, .string ByteArray.empty, .slice none 0 0, .string ByteArray.empty, .int .i64 0, .slice none 0 0]], []⟩ 8 (by kernel_rfl) (by kernel_rfl) (by kernel_rfl) (by kernel_rfl)) ?_
  intro W base args ds gs before hval hW _ _ hsh _
  exact stells_contract H enc W base args ds gs before hval hW hsh
theorem stells_holds : Rows.SerialTellsSaid :=
  OpenClaim.holds_of_wide 3 Try.f3 rfl rfl rfl rfl rfl rfl rfl ⟨rfl, rfl, rfl, rfl, rfl⟩ rfl rfl rfl rfl rfl (by kernel_rfl) Try.func3 (by kernel_rfl)
    (of_decide_eq_true (by kernel_rfl)) (by unfold Func.isWrapper; first | (rw [if_pos (by decide +kernel)]; kernel_rfl) | (rw [if_neg (by decide +kernel)]; exact ⟨rfl, rfl⟩))
    (fun os started H enc _ => stells_lifted os started H enc)
end Go.Proofs.Ytoaociiglhdpaaa
