/- ChooseOnly holds. No condition. -/
import Derived.Test.YtfgdcciaecajpaaGreatRows
import Derived.Test.YtfgdcciaecajpaaGreatMR
import Derived.Test.YtfgdcciaecajpaaGreatMG
import Derived.HandedShaped
import Derived.Shelf.Vars
import Derived.ChangeMaps5
namespace Go.Proofs.YtfgdcciaecajpaaGreat
set_option linter.unusedSimpArgs false
set_option linter.unusedVariables false
open Go Go.RowKit Go.ChangeShapes Go.WideShapes Go.ChangeAt
set_option maxRecDepth 100000
theorem own_ : ownKnob Tryz.prog.godebug = none := by kernel_rfl
theorem laid_ : laidOutB Tryz.prog = true := by kernel_rfl
theorem hgs (W : World) (hsh : W.ShapedOpen Tryz.prog) : GlobsIn W where
 gl := by
  intro g h
  simp [globs] at h
  subst h
  exact cell_of_shapedOpen_int (P := Tryz.prog) (g := 0) (t := 3) (zero := #[.int .i64 0]) hsh (of_decide_eq_true (by kernel_rfl)) (by kernel_rfl) rfl (by kernel_rfl) (by kernel_rfl) Tryz.underlying3
 gi := by
  intro g h
  simp [ivars] at h
 gp := by
  intro g h
  simp [pins] at h
 gx := by
  intro g h
  simp [tabs] at h
theorem cellsO_tok : Tryz.prog.cellsOf 27 = 5 := by kernel_rfl
theorem shape_bool {n : Nat} {qs : List AV} (h : ShapeT Tryz.prog (n + 1) 4 qs) : ∃ s : Bool, qs = [.bool s] := by
 unfold ShapeT at h
 simp only [Tryz.underlying4] at h
 obtain ⟨s, rfl, _⟩ := h
 exact ⟨s, rfl⟩
theorem shape_token {n : Nat} {qs : List AV} (h : ShapeT Tryz.prog (n + 4) 27 qs) : ∃ a : Tk, AV.agg qs = aTok a := by
 unfold ShapeT at h
 simp only [Tryz.underlying27] at h
 obtain _ | ⟨_, _, _, _, h1, h⟩ := h
 obtain _ | ⟨_, _, _, _, h2, h⟩ := h
 obtain _ | ⟨_, _, _, _, h3, h⟩ := h
 obtain _ | ⟨_, _, _, _, h4, h⟩ := h
 obtain _ | ⟨_, _, _, _, h5, h⟩ := h
 cases h
 obtain ⟨x1, rfl⟩ := shape_int h1
 obtain ⟨x2, rfl⟩ := shape_str h2
 obtain ⟨x3, rfl⟩ := shape_attrs (n := n) h3
 obtain ⟨x4, rfl⟩ := shape_bool h4
 obtain ⟨x5, rfl⟩ := shape_str h5
 exact ⟨⟨x1, x2, x3, x4, x5⟩, rfl⟩
theorem okTokens : okTy Tryz.prog 5 22 = true := by kernel_rfl
theorem agTok : aggT Tryz.prog 27 = some true := rfl
theorem agToks : aggT Tryz.prog 22 = some false := rfl
section
variable {H : Type} {enc : TypeId × Value → H} {W : World} {hg : GlobsIn W}
theorem argTokens {b0 base : Nat} {sp : Nat → Bool} {held : Bool} {v : Value} {d : DataW H} {ps : List MemPlace} (ht : DataW.Trod enc Tryz.prog W base sp held 22 v d ps) (hv : Value.okWide Tryz.prog W .any b0 22 v) : ∃ l : List Tk, VR (start W hg) (.fslc 5 (l.map aTok)) v := by
 obtain ⟨qs, a, h1, h2, h3⟩ := arg_shape (hg := hg) okTokens (ag := false) agToks (fun _ => by kernel_rfl) ht hv
 obtain ⟨L, rfl⟩ := shape_slice (n := 4) (enc := aTok) (ag := true) Tryz.underlying22 agTok (fun cs x h hw => by
  simp only [wrapA, Option.some.injEq] at hw
  obtain ⟨a, ha⟩ := shape_token (n := 0) h
  exact ⟨a, by rw [← hw, ha]⟩) h1
 simp only [wrapA, AV.single, Option.some.injEq] at h2
 exact ⟨L, by rw [← cellsO_tok, h2]; exact h3⟩
end
noncomputable def TL_conly : List (Entry Tryz.prog) := [e29, e66G, e30, e31, e34, e15, e16d, e11, e7s, e9, e6, e10h]
theorem read_conly : ∀ t, t ∈ [22] → Tryz.prog.readableRec t = true ∧ t < Tryz.prog.types.size := by
 intro t ht
 simp at ht
 subst ht
 exact ⟨by kernel_rfl, by decide +kernel⟩
theorem conly_contract (H : Type) (enc : TypeId × Value → H) (W : World) (base : Nat) (args : Array Value) (ds gs : List (DataW H)) (before : List MemPlace)
  (hval : ∀ (j : Nat) t v, Tryz.f4.params[j]? = some t → args[j]? = some v → Value.okWide Tryz.prog W .any base t v)
  (hW : DataW.Whole enc Tryz.prog Tryz.f4.params.toList Rows.chooseOnlySpec.vars false W args.toList ds gs before) (hsh : W.ShapedOpen Tryz.prog) :
  Calls Tryz.prog 4 args W fun e W' => ∃ v, e = .returned v ∧ Rows.chooseOnlySpec.post enc Tryz.prog Tryz.f4 false true false false W args v W' := by
 have hg := hgs W hsh
 have hW' := hW
 obtain ⟨p, q, hA0, hV, rfl, hfz, hnd⟩ := hW
 have hA : DataW.TrodAll enc Tryz.prog W 0 (fun _ => true) true Tryz.f4.params.toList args.toList ds p := hA0
 rw [Tryz.params4] at hA hval
 obtain ⟨v0, vs0, d0, ds0, p0, q0, hargs, rfl, rfl, h0, r0⟩ := trodAll_cons hA
 obtain ⟨rfl, rfl, rfl⟩ := trodAll_nil r0
 obtain rfl : args = #[v0] := by cases args; simp_all
 obtain ⟨rfl, rfl⟩ := trodVars_none hV
 obtain ⟨l, hl⟩ := argTokens (hg := hg) h0 (hval 0 22 v0 rfl rfl)
 refine (law_calls (hg := hg) (C := ctx TL_conly) Tryz.func4 rfl rfl (c4 rfl rfl rfl rfl rfl rfl rfl rfl rfl rfl rfl rfl l) (.cons hl .nil)).mono fun e W' ⟨he, hg⟩ => ⟨_, he, ?_⟩
 exact law_post (tb := 4) laid_ (by rw [Tryz.params4]; exact read_conly) Tryz.underlying4 rfl rfl ⟨rfl, rfl, rfl⟩ hW' hg
theorem conly_lifted (os : Os) (started : os.Started) (H : Type) (enc : TypeId × Value → H) :
  ReturnsInHanded {} Tryz.checked os 4 .any (Rows.chooseOnlySpec.pre6 enc Tryz.prog Tryz.f4 Rows.chooseOnlyRow.domain false) (Rows.chooseOnlySpec.post enc Tryz.prog Tryz.f4 false true false false) := by
 refine returnsInHanded_of_change_shaped (C := Tryz.checked) own_ started (by kernel_rfl) Tryz.func4
  (ChangeSpec.witness6 (enc := enc) (C := Tryz.checked) false ⟨#[], #[.slice none 0 0], []⟩ 8 (by kernel_rfl) (by kernel_rfl) (by kernel_rfl) (by kernel_rfl)) ?_
 intro W base args ds gs before hval hW _ _ hsh _
 exact conly_contract H enc W base args ds gs before hval hW hsh
theorem conly_holds : Rows.ChooseOnlySaid :=
 OpenClaim.holds_of_wide 4 Tryz.f4 rfl rfl rfl rfl rfl rfl rfl ⟨rfl, rfl, rfl, rfl, rfl⟩ rfl rfl rfl rfl rfl (by kernel_rfl) Tryz.func4 (by kernel_rfl)
  (of_decide_eq_true (by kernel_rfl)) (by unfold Func.isWrapper; first | (rw [if_pos (by decide +kernel)]; kernel_rfl) | (rw [if_neg (by decide +kernel)]; exact ⟨rfl, rfl⟩))
  (fun os started H enc _ => conly_lifted os started H enc)
end Go.Proofs.YtfgdcciaecajpaaGreat