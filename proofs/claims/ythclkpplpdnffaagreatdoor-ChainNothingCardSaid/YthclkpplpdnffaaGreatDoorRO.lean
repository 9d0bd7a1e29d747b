/- What the reference's parser makes of the text of layer 43's test. No condition. -/
import Derived.Test.YthclkpplpdnffaaGreatDoorRN
namespace Go.Proofs.YthclkpplpdnffaaGreatDoor
set_option linter.unusedSimpArgs false
set_option linter.unusedVariables false
open Go Go.RowKit
set_option maxRecDepth 100000
def s43 : Str := [60, 102, 111, 114, 109, 62, 60, 105, 110, 112, 117, 116, 32, 110, 97, 109, 101, 61, 97, 62, 60, 105, 110, 112, 117, 116, 32, 116, 121, 112, 101, 61, 73, 77, 65, 71, 69, 32, 110, 97, 109, 101, 61, 97, 62, 60, 105, 109, 103, 32, 105, 100, 61, 98, 62, 60, 115, 101, 108, 101, 99, 116, 32, 105, 100, 61, 97, 62, 60, 47, 115, 101, 108, 101, 99, 116, 62, 60, 47, 102, 111, 114, 109, 62]
def d43 : Str := [100, 105, 118]
def t43 : Tr := [⟨0, 0, [], [], [], (-1), [1]⟩, ⟨1, 0, [102, 111, 114, 109], [], [], 0, [2, 3, 4, 5]⟩, ⟨1, 0, [105, 110, 112, 117, 116], [([110, 97, 109, 101], [97])], [], 1, []⟩, ⟨1, 0, [105, 110, 112, 117, 116], [([116, 121, 112, 101], [73, 77, 65, 71, 69]), ([110, 97, 109, 101], [97])], [], 1, []⟩, ⟨1, 0, [105, 109, 103], [([105, 100], [98])], [], 1, []⟩, ⟨1, 0, [115, 101, 108, 101, 99, 116], [([105, 100], [97])], [], 1, []⟩]
theorem frag43 : litOK (aTree t43) (callN (ctx TF) 100000 (.fn 23) [.str s43, .str d43] ⟨0, []⟩) = true := by decide +kernel
noncomputable def r43 : Entry Tryz.prog := ⟨23, fun args H => match args with
  | [.str s, .str d] => match eqN s s43 && eqN d d43 with
    | true => some (aTree t43, H)
    | false => none
  | _ => none, fun args H v H' h => by
    split at h
    · rename_i s d
      split at h
      · rename_i hl
        simp only [Bool.and_eq_true, eqN_eq, decide_eq_true_eq] at hl
        obtain ⟨rfl, rfl⟩ := hl
        simp only [Option.some.injEq, Prod.mk.injEq] at h
        obtain ⟨rfl, rfl⟩ := h
        exact (closedLit (T := TF) frag43).lift (by simp [pureL, pureV]) H
      · cases h
    · cases h⟩
end Go.Proofs.YthclkpplpdnffaaGreatDoor
