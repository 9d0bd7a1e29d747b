/- page.Bytes of a page: a closed run. No condition. -/
import Derived.Test.YtlgdgolobnbefaaGreatDoorMN
namespace Go.Proofs.YtlgdgolobnbefaaGreatDoor
set_option linter.unusedSimpArgs false
set_option linter.unusedVariables false
open Go Go.RowKit
set_option maxRecDepth 100000
noncomputable def r56 : Entry Tryz.prog := ⟨56, fun args H => match args with
  | [.int .i64 sp, .str nm] => match Nat.ble nm.length 1000 with
    | true => some (.bool (voidW sp nm), H)
    | false => none
  | _ => none, fun args H v H' h => by
    split at h
    · rename_i sp nm
      split at h
      · rename_i hl
        simp only [Option.some.injEq, Prod.mk.injEq] at h
        obtain ⟨rfl, rfl⟩ := h
        exact (c56 (T := []) sp nm (by have := Nat.le_of_ble_eq_true hl; omega)).lift (by simp [pureL, pureV]) H
      · cases h
    · cases h⟩
noncomputable def TB45 : List (Entry Tryz.prog) := [e86, r56]
abbrev sOut : Str := [60, 98, 62, 60, 47, 98, 62]
abbrev sText : Str := [60, 33, 68, 79, 67, 84, 89, 80, 69, 32, 104, 116, 109, 108, 62, 60, 104, 116, 109, 108, 62, 60, 104, 101, 97, 100, 62, 60, 116, 105, 116, 108, 101, 62, 60, 47, 116, 105, 116, 108, 101, 62, 60, 47, 104, 101, 97, 100, 62, 60, 98, 111, 100, 121, 62, 60, 112, 32, 105, 100, 61, 34, 97, 34, 62, 116, 60, 47, 112, 62, 60, 109, 97, 105, 110, 62, 60, 100, 105, 118, 62, 60, 98, 62, 60, 47, 98, 62, 60, 47, 100, 105, 118, 62, 60, 47, 109, 97, 105, 110, 62, 60, 47, 98, 111, 100, 121, 62, 60, 47, 104, 116, 109, 108, 62]
def pg45 : Pg := ⟨[], [⟨[112], [97], [], [], [116], []⟩], [[109, 97, 105, 110]], []⟩
theorem bytes45 : litOK (.str sText) (callN (ctx TB45) 100000 (.fn 20) [aPg pg45, .str sOut] ⟨0, []⟩) = true := by decide +kernel
end Go.Proofs.YtlgdgolobnbefaaGreatDoor
