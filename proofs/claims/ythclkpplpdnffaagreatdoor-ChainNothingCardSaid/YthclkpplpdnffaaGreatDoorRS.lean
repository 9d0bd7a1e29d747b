/- What the reference's parser makes of the text of layer 44's test. No condition. -/
import Derived.Test.YthclkpplpdnffaaGreatDoorRN
namespace Go.Proofs.YthclkpplpdnffaaGreatDoor
set_option linter.unusedSimpArgs false
set_option linter.unusedVariables false
open Go Go.RowKit
set_option maxRecDepth 100000
def s44 : Str := [60, 102, 111, 114, 109, 32, 105, 100, 61, 102, 62, 60, 105, 110, 112, 117, 116, 32, 110, 97, 109, 101, 61, 105, 62, 60, 47, 102, 111, 114, 109, 62, 60, 97, 32, 105, 100, 61, 120, 62, 60, 47, 97, 62, 60, 97, 32, 105, 100, 61, 120, 32, 110, 97, 109, 101, 61, 121, 62, 60, 47, 97, 62]
def d44 : Str := [100, 105, 118]
def t44 : Tr := [⟨0, 0, [], [], [], (-1), [1, 3, 4]⟩, ⟨1, 0, [102, 111, 114, 109], [([105, 100], [102])], [], 0, [2]⟩, ⟨1, 0, [105, 110, 112, 117, 116], [([110, 97, 109, 101], [105])], [], 1, []⟩, ⟨1, 0, [97], [([105, 100], [120])], [], 0, []⟩, ⟨1, 0, [97], [([105, 100], [120]), ([110, 97, 109, 101], [121])], [], 0, []⟩]
theorem frag44 : litOK (aTree t44) (callN (ctx TF) 100000 (.fn 23) [.str s44, .str d44] ⟨0, []⟩) = true := by decide +kernel
noncomputable def r44 : Entry Tryz.prog := ⟨23, fun args H => match args with
  | [.str s, .str d] => match eqN s s44 && eqN d d44 with
    | true => some (aTree t44, H)
    | false => none
  | _ => none, fun args H v H' h => by
    split at h
    · rename_i s d
      split at h
      · rename_i hl
        simp only [Bool.and_eq_true, eqN_eq, decide_eq_true_eq] at hl
        obtain ⟨rfl, rfl⟩ := hl
        simp only [Option.some.injEq, Prod.mk.injEq] at h
        obtain ⟨rfl, rfl⟩ := h
        exact (closedLit (T := TF) frag44).lift (by simp [pureL, pureV]) H
      · cases h
    · cases h⟩
end Go.Proofs.YthclkpplpdnffaaGreatDoor
