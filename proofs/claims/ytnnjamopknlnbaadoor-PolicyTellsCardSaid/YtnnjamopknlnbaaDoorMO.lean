/- The closed test of layer 30. No condition. -/
import Derived.Test.YtnnjamopknlnbaaDoorMM
import Derived.Test.YtnnjamopknlnbaaDoorMJ
namespace Go.Proofs.YtnnjamopknlnbaaDoor
set_option linter.unusedSimpArgs false
set_option linter.unusedVariables false
open Go Go.RowKit
set_option maxRecDepth 100000
noncomputable def TP2 : List (Entry Tryd.prog) := r70 :: TP
theorem chk1 : litOK (.int .i64 0) (callN (ctx TP2) 100000 (.fn 8) [polU [117, 99]] ⟨0, []⟩) = true := by decide +kernel
theorem chk2 : litOK (.int .i64 2) (callN (ctx TP2) 100000 (.fn 8) [polU [97, 100]] ⟨0, []⟩) = true := by decide +kernel
theorem pol_pure {s : Str} : pureV (polU s) = true := by simp [polU, strsOf, pureV, pureL]
noncomputable def TA30 : List (Entry Tryd.prog) := litsE 15 [([], polU [117, 99])] (fun x hx => by
  simp only [List.mem_singleton] at hx
  subst hx
  exact ⟨rfl, closedLit (T := TP) usual_lit⟩) :: litsE 8 [([polU [117, 99]], .int .i64 0), ([polU [97, 100]], .int .i64 2)] (fun x hx => by
  simp only [List.mem_cons, List.not_mem_nil, or_false] at hx
  rcases hx with rfl | rfl
  · exact ⟨by simp [pureL, pol_pure], closedLit (T := TP2) chk1⟩
  · exact ⟨by simp [pureL, pol_pure], closedLit (T := TP2) chk2⟩) :: TP2
theorem awake30 : isTrueE (callN (ctx TA30) 100000 (.fn 5) [] ⟨0, []⟩) = true := by decide +kernel
noncomputable def e5 : Entry Tryd.prog := mkE 5 [] (fun _ : Unit => []) (fun _ => True) (fun _ => .bool true) fun _ _ => closedCall awake30
theorem k5 {T : List (Entry Tryd.prog)} (hT : findE 5 T = some e5.g) (H : Heap) : callL (ctx T) (.fn 5) [] H = some (.bool true, H) :=
  mkE_scalar hT (fun _ _ _ => rfl) () trivial rfl rfl
end Go.Proofs.YtnnjamopknlnbaaDoor
