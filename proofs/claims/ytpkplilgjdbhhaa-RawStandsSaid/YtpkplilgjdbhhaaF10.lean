/- From a contract to a law's statement. No condition. -/
import Derived.Test.YtpkplilgjdbhhaaF9
namespace Go.Proofs.Ytpkplilgjdbhhaa
set_option linter.unusedSimpArgs false
set_option linter.unusedVariables false
open Go Go.RowKit

theorem law_calls {C : Ctx} {f : FuncId} {fn : Func} {body : Code} {args : Array Value} {as : List AV} {W : World} {hg : GlobsIn W} (hf : C.P.funcs[f]? = some fn) (hname : (fn.name == "runtime.NumGoroutine") = false) (hb : fn.body = some body)
    (h : CallAt C f as ⟨0, []⟩ (.bool true) ⟨0, []⟩) (hx : VRs (start W hg) as args.toList) : Calls C.P f args W fun e w' => e = .returned (.bool true) ∧ Below W.heap.size W w' := by
  have hname' : ¬ fn.name = "runtime.NumGoroutine" := fun e => by rw [e] at hname; simp at hname
  have hrun : (callFunc f args).run C.P W = .ok (.enter f args) W := by simp [callFunc, hf, hname', hb]
  rcases h (start W hg) W args.toList (sim_start W hg) hx with ⟨x, ρ', w', h0, _⟩ | ⟨g, ys, h0, h1⟩
  · rw [Array.toArray_toList, hrun] at h0; cases h0
  · rw [Array.toArray_toList, hrun] at h0
    cases h0
    refine (h1.calls fun k => room_wide k).mono ?_
    rintro e w' ⟨x, ρ', rfl, k1, k2, k3⟩
    have hx' : x = .bool true := by cases k1; rfl
    subst hx'
    exact ⟨rfl, Step.grown k2 k3⟩
section
variable {H : Type} {enc : TypeId × Value → H} {P : Program} {W : World} {hg : GlobsIn W}
/-- an argument: of its type's shape, and it stands for the value -/
theorem arg_shape {n : Nat} {r : Reach} {b0 base : Nat} {sp : Nat → Bool} {held : Bool} {t : TypeId} {v : Value} {d : DataW H} {ps : List MemPlace} (hok : okTy P n t = true) {ag : Bool} (hag : aggT P t = some ag) (ha : ag = false → P.cellsOf t = 1)
    (ht : DataW.Trod enc P W base sp held t v d ps) (hv : Value.okWide P W r b0 t v) : ∃ as a, ShapeT P n t as ∧ wrapA ag as = some a ∧ VR (start W hg) a v := by
  have ht' := ht
  obtain ⟨fuel, hf⟩ := ht
  obtain ⟨as, h1, h2⟩ := shape_run hok hf
  obtain ⟨l1, l2⟩ := shape_len hok h2
  have hw : ∃ a, wrapA ag as = some a := by
    cases ag with
    | true => exact ⟨_, rfl⟩
    | false =>
      rw [ha rfl] at l1
      match as, l1, l2 with
      | [a], _, l2 =>
        have hs : a.single = true := by
          cases hx : a.single with
          | true => rfl
          | false => simp [allSingle, hx] at l2
        exact ⟨a, by simp only [wrapA, hs]⟩
  obtain ⟨a, hw⟩ := hw
  have harg : argA P n t d = some a := by
    unfold argA
    simp only [hag, Option.bind_some, h1]
    exact hw
  exact ⟨as, a, h2, hw, argA_run ht' hv harg⟩
end
end Go.Proofs.Ytpkplilgjdbhhaa
