/- The closed test of layer 44 holds. No condition. -/
import Derived.Test.YthclkpplpdnffaaGreatDoorRS
namespace Go.Proofs.YthclkpplpdnffaaGreatDoor
set_option linter.unusedSimpArgs false
set_option linter.unusedVariables false
open Go Go.RowKit
set_option maxRecDepth 100000
theorem of44 : litOK (aInts [0, 0, 1, 0, 0]) (callN (ctx TF) 100000 (.fn 52) [aTree t44] ⟨0, []⟩) = true := by decide +kernel
noncomputable def TO44 : List (Entry Tryz.prog) := litsE 52 [([aTree t44], aInts [0, 0, 1, 0, 0])] (fun x hx => by
  simp only [List.mem_singleton] at hx
  subst hx
  exact ⟨by simp [pureL], closedLit (T := TF) of44⟩) :: TF
theorem fi44 : litOK (aInts [2]) (callN (ctx TO44) 100000 (.fn 13) [aTree t44, .int .i64 1, .str [105]] ⟨0, []⟩) = true := by decide +kernel
theorem wf44 : litOK (aInts [1]) (callN (ctx TF) 100000 (.fn 61) [aTree t44, .str [102]] ⟨0, []⟩) = true := by decide +kernel
theorem wx44 : litOK (aInts [3, 4]) (callN (ctx TF) 100000 (.fn 61) [aTree t44, .str [120]] ⟨0, []⟩) = true := by decide +kernel
theorem df44 : litOK (aInts []) (callN (ctx TF) 100000 (.fn 62) [aTree t44, .str [102]] ⟨0, []⟩) = true := by decide +kernel
noncomputable def T44 : List (Entry Tryz.prog) := litsE 13 [([aTree t44, .int .i64 1, .str [105]], aInts [2])] (fun x hx => by
  simp only [List.mem_singleton] at hx
  subst hx
  exact ⟨by simp [pureL, pureV], closedLit (T := TO44) fi44⟩) :: litsE 61 [([aTree t44, .str [102]], aInts [1]), ([aTree t44, .str [120]], aInts [3, 4])] (fun x hx => by
  simp only [List.mem_cons, List.not_mem_nil, or_false] at hx
  rcases hx with rfl | rfl
  · exact ⟨by simp [pureL, pureV], closedLit (T := TF) wf44⟩
  · exact ⟨by simp [pureL, pureV], closedLit (T := TF) wx44⟩) :: litsE 62 [([aTree t44, .str [102]], aInts [])] (fun x hx => by
  simp only [List.mem_singleton] at hx
  subst hx
  exact ⟨by simp [pureL, pureV], closedLit (T := TF) df44⟩) :: r44 :: TF
theorem awake44 : isTrueE (callN (ctx T44) 100000 (.fn 16) [] ⟨0, []⟩) = true := by decide +kernel
noncomputable def e16 : Entry Tryz.prog := mkE 16 [] (fun _ : Unit => []) (fun _ => True) (fun _ => .bool true) fun _ _ => closedCall awake44
theorem k16 {T : List (Entry Tryz.prog)} (hT : findE 16 T = some e16.g) (H : Heap) : callL (ctx T) (.fn 16) [] H = some (.bool true, H) :=
  mkE_scalar hT (fun _ _ _ => rfl) () trivial rfl rfl
end Go.Proofs.YthclkpplpdnffaaGreatDoor
