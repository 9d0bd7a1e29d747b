/- The usual policy. No condition. -/
import Derived.Test.YtlpknhpalcapmaaDoorMI
namespace Go.Proofs.YtlpknhpalcapmaaDoor
set_option linter.unusedSimpArgs false
set_option linter.unusedVariables false
open Go Go.RowKit
set_option maxRecDepth 100000

theorem usual_lit : litOK (polU [117, 99]) (callN (ctx TP) 100000 (.fn 8) [] ⟨0, []⟩) = true := by decide +kernel
noncomputable def e8 : Entry Tryd.prog := mkE 8 [] (fun _ : Unit => []) (fun _ => True) (fun _ => polU [117, 99]) fun _ _ => closedLit (T := TP) usual_lit
theorem k8 {T : List (Entry Tryd.prog)} (hT : findE 8 T = some e8.g) (H : Heap) : callL (ctx T) (.fn 8) [] H = some (polU [117, 99], H) :=
  mkE_pure hT (fun _ _ _ => rfl) () trivial rfl rfl H
end Go.Proofs.YtlpknhpalcapmaaDoor
