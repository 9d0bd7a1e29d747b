/- The usual policy. No condition. -/
import Derived.Test.YtfncefamflainaaGreatDoorML
namespace Go.Proofs.YtfncefamflainaaGreatDoor
set_option linter.unusedSimpArgs false
set_option linter.unusedVariables false
open Go Go.RowKit
set_option maxRecDepth 100000
theorem usual_lit : litOK (polU [117, 99]) (callN (ctx TP) 100000 (.fn 15) [] ⟨0, []⟩) = true := by decide +kernel
noncomputable def e15 : Entry Tryz.prog := mkE 15 [] (fun _ : Unit => []) (fun _ => True) (fun _ => polU [117, 99]) fun _ _ => closedLit (T := TP) usual_lit
theorem k15 {T : List (Entry Tryz.prog)} (hT : findE 15 T = some e15.g) (H : Heap) : callL (ctx T) (.fn 15) [] H = some (polU [117, 99], H) :=
 mkE_pure hT (fun _ _ _ => rfl) () trivial rfl rfl H
end Go.Proofs.YtfncefamflainaaGreatDoor