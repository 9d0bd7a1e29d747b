/- words.In for closed runs; law 24's closed test. No condition. -/
import Derived.Test.YtfgdcciaecajpaaGreatDoorMR
import Derived.Test.YtfgdcciaecajpaaGreatDoorMK
namespace Go.Proofs.YtfgdcciaecajpaaGreatDoor
noncomputable section
set_option linter.unusedSimpArgs false
set_option linter.unusedVariables false
open Go Go.RowKit
set_option maxRecDepth 100000
def ascW : Str → Bool
 | [] => true
 | c :: r => match Nat.blt c.toNat 128 with
  | true => ascW r
  | false => false
theorem ascW_ok : ∀ {W : Str}, ascW W = true → asciiB W
 | [], _ => fun c hc => by cases hc
 | c :: r, h => by
  unfold ascW at h
  split at h
  ·rename_i hb
   intro d hd
   rcases List.mem_cons.1 hd with rfl | hd
   ·simpa using hb
   ·exact ascW_ok h d hd
  ·cases h
def r49 : Entry Tryz.prog := ⟨49, fun args H => match args with
 | [.str W, .str x] => match ascW W && Nat.ble W.length 100000 && Nat.ble x.length 1000 with
  | true => some (.bool (inB W x), H)
  | false => none
 | _ => none, fun args H v H' h => by
  split at h
  ·rename_i W x
   split at h
   ·rename_i hl
    rw [Bool.and_eq_true, Bool.and_eq_true] at hl
    simp only [Option.some.injEq, Prod.mk.injEq] at h
    obtain ⟨rfl, rfl⟩ := h
    rw [inB_eq]
    exact (c49a (T := []) W x (ascW_ok hl.1.1) (Nat.le_of_ble_eq_true hl.1.2) (by have := Nat.le_of_ble_eq_true hl.2; omega)).lift (by simp [pureL, pureV]) H
   ·cases h
  ·cases h⟩
def TW : List (Entry Tryz.prog) := [r49]
theorem awake25 : isTrueE (callN (ctx TW) 100000 (.fn 7) [] ⟨0, []⟩) = true := by decide +kernel
def e7 : Entry Tryz.prog := mkE 7 [] (fun _ : Unit => []) (fun _ => True) (fun _ => .bool true) fun _ _ => closedCall awake25
theorem k7 {T : List (Entry Tryz.prog)} (hT : findE 7 T = some e7.g) (H : Heap) : callL (ctx T) (.fn 7) [] H = some (.bool true, H) :=
 mkE_scalar hT (fun _ _ _ => rfl) () trivial rfl rfl
end
end Go.Proofs.YtfgdcciaecajpaaGreatDoor