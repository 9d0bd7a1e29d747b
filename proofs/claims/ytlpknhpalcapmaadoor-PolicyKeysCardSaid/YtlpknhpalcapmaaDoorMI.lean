/- words.In of the policy's lists; the usual policy; the closed test of layer 30. No condition. -/
import Derived.Test.YtlpknhpalcapmaaDoorMG
import Derived.Test.YtlpknhpalcapmaaDoorMH
namespace Go.Proofs.YtlpknhpalcapmaaDoor
set_option linter.unusedSimpArgs false
set_option linter.unusedVariables false
open Go Go.RowKit
set_option maxRecDepth 100000

abbrev lkAttr : Str := [97, 108, 116, 32, 97, 114, 105, 97, 45, 97, 99, 116, 105, 118, 101, 100, 101, 115, 99, 101, 110, 100, 97, 110, 116, 32, 97, 114, 105, 97, 45, 99, 111, 110, 116, 114, 111, 108, 115, 32, 97, 114, 105, 97, 45, 100, 101, 115, 99, 114, 105, 98, 101, 100, 98, 121, 32, 97, 114, 105, 97, 45, 104, 105, 100, 100, 101, 110, 32, 97, 114, 105, 97, 45, 108, 97, 98, 101, 108, 32, 97, 114, 105, 97, 45, 108, 97, 98, 101, 108, 108, 101, 100, 98, 121, 32, 97, 114, 105, 97, 45, 111, 119, 110, 115, 32, 99, 104, 101, 99, 107, 101, 100, 32, 99, 105, 116, 101, 32, 99, 108, 97, 115, 115, 32, 99, 111, 108, 111, 114, 32, 99, 111, 108, 115, 112, 97, 110, 32, 99, 120, 32, 99, 121, 32, 100, 32, 100, 97, 116, 101, 116, 105, 109, 101, 32, 100, 105, 114, 32, 100, 105, 115, 97, 98, 108, 101, 100, 32, 101, 110, 99, 111, 100, 105, 110, 103, 32, 102, 97, 99, 101, 32, 102, 105, 108, 108, 32, 102, 111, 114, 32, 102, 111, 114, 109, 32, 104, 101, 97, 100, 101, 114, 115, 32, 104, 101, 105, 103, 104, 116, 32, 104, 105, 100, 100, 101, 110, 32, 104, 114, 101, 102, 32, 105, 100, 32, 108, 97, 98, 101, 108, 32, 108, 97, 110, 103, 32, 108, 105, 115, 116, 32, 109, 97, 120, 108, 101, 110, 103, 116, 104, 32, 109, 117, 108, 116, 105, 112, 108, 101, 32, 110, 97, 109, 101, 32, 111, 112, 101, 110, 32, 112, 108, 97, 99, 101, 104, 111, 108, 100, 101, 114, 32, 112, 114, 101, 115, 101, 114, 118, 101, 65, 115, 112, 101, 99, 116, 82, 97, 116, 105, 111, 32, 114, 32, 114, 101, 97, 100, 111, 110, 108, 121, 32, 114, 101, 113, 117, 105, 114, 101, 100, 32, 114, 101, 118, 101, 114, 115, 101, 100, 32, 114, 111, 108, 101, 32, 114, 111, 119, 115, 112, 97, 110, 32, 115, 99, 111, 112, 101, 32, 115, 101, 108, 101, 99, 116, 101, 100, 32, 115, 105, 122, 101, 32, 115, 112, 97, 110, 32, 115, 114, 99, 32, 115, 116, 97, 114, 116, 32, 115, 116, 114, 111, 107, 101, 32, 116, 97, 98, 105, 110, 100, 101, 120, 32, 116, 105, 116, 108, 101, 32, 116, 114, 97, 110, 115, 102, 111, 114, 109, 32, 116, 121, 112, 101, 32, 117, 115, 101, 109, 97, 112, 32, 118, 97, 108, 117, 101, 32, 118, 105, 101, 119, 66, 111, 120, 32, 119, 105, 100, 116, 104, 32, 120, 32, 121]
abbrev listsP : List Str := [lkHtml, lkSvg, lkMath, lkAttr]
theorem c14p {T : List (Entry Tryd.prog)} {W : Str} (hW : W ∈ listsP) : CallAt (ctx T) 14 [.str W] ⟨0, []⟩ (aStrs (wsplit W)) ⟨0, []⟩ ∧ W.length ≤ 100000 ∧ (wsplit W).length ≤ 1000000 := by
  simp only [List.mem_cons, List.not_mem_nil, or_false] at hW
  rcases hW with rfl | rfl | rfl | rfl
  · exact ⟨c14 _ (by unfold asciiB; decide +kernel) (by decide), by decide, by decide +kernel⟩
  · exact ⟨c14 _ (by unfold asciiB; decide +kernel) (by decide), by decide, by decide +kernel⟩
  · exact ⟨c14 _ (by unfold asciiB; decide +kernel) (by decide), by decide, by decide +kernel⟩
  · exact ⟨c14 _ (by unfold asciiB; decide +kernel) (by decide), by decide, by decide +kernel⟩
theorem c25p {T : List (Entry Tryd.prog)} (W x : Str) (hW : W ∈ listsP) (hx : x.length ≤ 1000000000) : CallAt (ctx T) 25 [.str W, .str x] ⟨0, []⟩ (.bool (inW W x)) ⟨0, []⟩ := by
  have key := c14p (T := []) hW
  exact c25 (T := [e41, e31]) rfl rfl W x key.2.1 hx key.1 (c42 (T := [e49]) rfl _ x key.2.2)
theorem eqN_true {x y : Str} (h : eqN x y = true) : x = y := by rw [eqN_eq] at h; exact of_decide_eq_true h
def inP (W : Str) : Bool := eqN W lkHtml || (eqN W lkSvg || (eqN W lkMath || eqN W lkAttr))
theorem inP_mem {W : Str} (h : inP W = true) : W ∈ listsP := by
  simp only [inP, Bool.or_eq_true] at h
  rcases h with h | h | h | h <;> rw [eqN_true h] <;> simp
noncomputable def r25 : Entry Tryd.prog := ⟨25, fun args H => match args with
  | [.str W, .str x] => match inP W && Nat.ble x.length 1000 with
    | true => some (.bool (inB W x), H)
    | false => none
  | _ => none, fun args H v H' h => by
    split at h
    · rename_i W x
      split at h
      · rename_i hl
        rw [Bool.and_eq_true] at hl
        simp only [Option.some.injEq, Prod.mk.injEq] at h
        obtain ⟨rfl, rfl⟩ := h
        rw [inB_eq]
        exact (c25p (T := []) W x (inP_mem hl.1) (by have := Nat.le_of_ble_eq_true hl.2; omega)).lift (by simp [pureL, pureV]) H
      · cases h
    · cases h⟩
noncomputable def r14 : Entry Tryd.prog := ⟨14, fun args H => match args with
  | [.str W] => match inP W with
    | true => some (aStrs (wsplit W), H)
    | false => none
  | _ => none, fun args H v H' h => by
    split at h
    · rename_i W
      split at h
      · rename_i hl
        simp only [Option.some.injEq, Prod.mk.injEq] at h
        obtain ⟨rfl, rfl⟩ := h
        exact (c14p (T := []) (inP_mem hl)).1.lift (by simp [pureL, pureV]) H
      · cases h
    · cases h⟩
noncomputable def TP : List (Entry Tryd.prog) := [r11, r25, r14]
def strsOf (l : List Str) : AV := .fslc 1 (l.map .str)
def wConfig : Str := [99, 111, 110, 102, 105, 103]
def wAdmin : Str := [97, 100, 109, 105, 110]
def wLocation : Str := [108, 111, 99, 97, 116, 105, 111, 110]
def wHttp : Str := [104, 116, 116, 112]
def wHttps : Str := [104, 116, 116, 112, 115]
def wMailto : Str := [109, 97, 105, 108, 116, 111]
def elemsU : List Str := wsplit lkHtml ++ ((wsplit lkSvg).map (pSvg ++ ·) ++ (wsplit lkMath).map (pMath ++ ·))
def polU (pre : Str) : AV := .agg [.str pre, strsOf [wConfig, wAdmin, wLocation], strsOf elemsU, strsOf (wsplit lkAttr), strsOf [wHttp, wHttps, wMailto], .int .i64 65536, .int .i64 4096, .int .i64 256, .int .i64 50, .int .i64 3, .bool false]
end Go.Proofs.YtlpknhpalcapmaaDoor
