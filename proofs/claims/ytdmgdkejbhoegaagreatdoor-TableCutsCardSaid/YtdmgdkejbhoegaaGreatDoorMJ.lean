/- The law's closed test. No condition. -/
import Derived.Test.YtdmgdkejbhoegaaGreatDoorMG
import Derived.Test.YtdmgdkejbhoegaaGreatDoorMI
namespace Go.Proofs.YtdmgdkejbhoegaaGreatDoor
set_option linter.unusedSimpArgs false
set_option linter.unusedVariables false
open Go Go.RowKit
set_option maxRecDepth 100000
theorem awake23 : isTrueE (callN (ctx TB2) 100000 (.fn 4) [] ⟨0, []⟩) = true := by decide +kernel
noncomputable def e4 : Entry Tryz.prog := mkE 4 [] (fun _ : Unit => []) (fun _ => True) (fun _ => .bool true) fun _ _ => closedCall awake23
theorem k4 {T : List (Entry Tryz.prog)} (hT : findE 4 T = some e4.g) (H : Heap) : callL (ctx T) (.fn 4) [] H = some (.bool true, H) :=
  mkE_scalar hT (fun _ _ _ => rfl) () trivial rfl rfl
end Go.Proofs.YtdmgdkejbhoegaaGreatDoor
