/- The closed test of layer 43 holds. No condition. -/
import Derived.Test.YthclkpplpdnffaaGreatDoorRO
namespace Go.Proofs.YthclkpplpdnffaaGreatDoor
set_option linter.unusedSimpArgs false
set_option linter.unusedVariables false
open Go Go.RowKit
set_option maxRecDepth 100000
theorem of43 : litOK (aInts [0, 0, 1, 1, 1, 1]) (callN (ctx TF) 100000 (.fn 52) [aTree t43] ⟨0, []⟩) = true := by decide +kernel
noncomputable def TO43 : List (Entry Tryz.prog) := litsE 52 [([aTree t43], aInts [0, 0, 1, 1, 1, 1])] (fun x hx => by
  simp only [List.mem_singleton] at hx
  subst hx
  exact ⟨by simp [pureL], closedLit (T := TF) of43⟩) :: TF
theorem el43 : litOK (aInts [2, 5]) (callN (ctx TO43) 100000 (.fn 9) [aTree t43, .int .i64 1] ⟨0, []⟩) = true := by decide +kernel
theorem na43 : litOK (aInts [2, 5]) (callN (ctx TO43) 100000 (.fn 13) [aTree t43, .int .i64 1, .str [97]] ⟨0, []⟩) = true := by decide +kernel
theorem nb43 : litOK (aInts [4]) (callN (ctx TO43) 100000 (.fn 13) [aTree t43, .int .i64 1, .str [98]] ⟨0, []⟩) = true := by decide +kernel
noncomputable def T43 : List (Entry Tryz.prog) := litsE 9 [([aTree t43, .int .i64 1], aInts [2, 5])] (fun x hx => by
  simp only [List.mem_singleton] at hx
  subst hx
  exact ⟨by simp [pureL, pureV], closedLit (T := TO43) el43⟩) :: litsE 13 [([aTree t43, .int .i64 1, .str [97]], aInts [2, 5]), ([aTree t43, .int .i64 1, .str [98]], aInts [4])] (fun x hx => by
  simp only [List.mem_cons, List.not_mem_nil, or_false] at hx
  rcases hx with rfl | rfl
  · exact ⟨by simp [pureL, pureV], closedLit (T := TO43) na43⟩
  · exact ⟨by simp [pureL, pureV], closedLit (T := TO43) nb43⟩) :: r43 :: TF
theorem awake43 : isTrueE (callN (ctx T43) 100000 (.fn 7) [] ⟨0, []⟩) = true := by decide +kernel
noncomputable def e7 : Entry Tryz.prog := mkE 7 [] (fun _ : Unit => []) (fun _ => True) (fun _ => .bool true) fun _ _ => closedCall awake43
theorem k7 {T : List (Entry Tryz.prog)} (hT : findE 7 T = some e7.g) (H : Heap) : callL (ctx T) (.fn 7) [] H = some (.bool true, H) :=
  mkE_scalar hT (fun _ _ _ => rfl) () trivial rfl rfl
end Go.Proofs.YthclkpplpdnffaaGreatDoor
