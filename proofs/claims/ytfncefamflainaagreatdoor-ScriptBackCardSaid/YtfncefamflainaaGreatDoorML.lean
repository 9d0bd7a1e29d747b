/- The reference's Check. No condition. -/
import Derived.Test.YtfncefamflainaaGreatDoorMI
import Derived.Test.YtfncefamflainaaGreatDoorMK
import Derived.Test.YtfncefamflainaaGreatDoorMJ
namespace Go.Proofs.YtfncefamflainaaGreatDoor
set_option linter.unusedSimpArgs false
set_option linter.unusedVariables false
open Go Go.RowKit
set_option maxRecDepth 100000
abbrev lkAttr : Str := [97, 108, 116, 32, 97, 114, 105, 97, 45, 97, 99, 116, 105, 118, 101, 100, 101, 115, 99, 101, 110, 100, 97, 110, 116, 32, 97, 114, 105, 97, 45, 99, 111, 110, 116, 114, 111, 108, 115, 32, 97, 114, 105, 97, 45, 100, 101, 115, 99, 114, 105, 98, 101, 100, 98, 121, 32, 97, 114, 105, 97, 45, 104, 105, 100, 100, 101, 110, 32, 97, 114, 105, 97, 45, 108, 97, 98, 101, 108, 32, 97, 114, 105, 97, 45, 108, 97, 98, 101, 108, 108, 101, 100, 98, 121, 32, 97, 114, 105, 97, 45, 111, 119, 110, 115, 32, 99, 104, 101, 99, 107, 101, 100, 32, 99, 105, 116, 101, 32, 99, 108, 97, 115, 115, 32, 99, 111, 108, 111, 114, 32, 99, 111, 108, 115, 112, 97, 110, 32, 99, 120, 32, 99, 121, 32, 100, 32, 100, 97, 116, 101, 116, 105, 109, 101, 32, 100, 105, 114, 32, 100, 105, 115, 97, 98, 108, 101, 100, 32, 101, 110, 99, 111, 100, 105, 110, 103, 32, 102, 97, 99, 101, 32, 102, 105, 108, 108, 32, 102, 111, 114, 32, 102, 111, 114, 109, 32, 104, 101, 97, 100, 101, 114, 115, 32, 104, 101, 105, 103, 104, 116, 32, 104, 105, 100, 100, 101, 110, 32, 104, 114, 101, 102, 32, 105, 100, 32, 108, 97, 98, 101, 108, 32, 108, 97, 110, 103, 32, 108, 105, 115, 116, 32, 109, 97, 120, 108, 101, 110, 103, 116, 104, 32, 109, 117, 108, 116, 105, 112, 108, 101, 32, 110, 97, 109, 101, 32, 111, 112, 101, 110, 32, 112, 108, 97, 99, 101, 104, 111, 108, 100, 101, 114, 32, 112, 114, 101, 115, 101, 114, 118, 101, 65, 115, 112, 101, 99, 116, 82, 97, 116, 105, 111, 32, 114, 32, 114, 101, 97, 100, 111, 110, 108, 121, 32, 114, 101, 113, 117, 105, 114, 101, 100, 32, 114, 101, 118, 101, 114, 115, 101, 100, 32, 114, 111, 108, 101, 32, 114, 111, 119, 115, 112, 97, 110, 32, 115, 99, 111, 112, 101, 32, 115, 101, 108, 101, 99, 116, 101, 100, 32, 115, 105, 122, 101, 32, 115, 112, 97, 110, 32, 115, 114, 99, 32, 115, 116, 97, 114, 116, 32, 115, 116, 114, 111, 107, 101, 32, 116, 97, 98, 105, 110, 100, 101, 120, 32, 116, 105, 116, 108, 101, 32, 116, 114, 97, 110, 115, 102, 111, 114, 109, 32, 116, 121, 112, 101, 32, 117, 115, 101, 109, 97, 112, 32, 118, 97, 108, 117, 101, 32, 118, 105, 101, 119, 66, 111, 120, 32, 119, 105, 100, 116, 104, 32, 120, 32, 121]
abbrev listsP : List Str := [lkHtml, lkSvg, lkMath, lkAttr]
theorem c37p {T : List (Entry Tryz.prog)} {W : Str} (hW : W ∈ listsP) : CallAt (ctx T) 37 [.str W] ⟨0, []⟩ (aStrs (wsplit W)) ⟨0, []⟩ ∧ W.length ≤ 100000 ∧ (wsplit W).length ≤ 1000000 := by
 simp only [List.mem_cons, List.not_mem_nil, or_false] at hW
 rcases hW with rfl | rfl | rfl | rfl
 ·exact ⟨c37 _ (by unfold asciiB; decide +kernel) (by decide), by decide, by decide +kernel⟩
 ·exact ⟨c37 _ (by unfold asciiB; decide +kernel) (by decide), by decide, by decide +kernel⟩
 ·exact ⟨c37 _ (by unfold asciiB; decide +kernel) (by decide), by decide, by decide +kernel⟩
 ·exact ⟨c37 _ (by unfold asciiB; decide +kernel) (by decide), by decide, by decide +kernel⟩
theorem c81p {T : List (Entry Tryz.prog)} (W x : Str) (hW : W ∈ listsP) (hx : x.length ≤ 1000000000) : CallAt (ctx T) 81 [.str W, .str x] ⟨0, []⟩ (.bool (inW W x)) ⟨0, []⟩ := by
 have key := c37p (T := []) hW
 exact c81 (T := [e101, e67]) rfl rfl W x key.2.1 hx key.1 (c102 (T := [e45]) rfl _ x key.2.2)
theorem eqN_true {x y : Str} (h : eqN x y = true) : x = y := by rw [eqN_eq] at h; exact of_decide_eq_true h
def inP (W : Str) : Bool := eqN W lkHtml || (eqN W lkSvg || (eqN W lkMath || eqN W lkAttr))
theorem inP_mem {W : Str} (h : inP W = true) : W ∈ listsP := by
 simp only [inP, Bool.or_eq_true] at h
 rcases h with h | h | h | h <;> rw [eqN_true h] <;> simp
noncomputable def r81 : Entry Tryz.prog := ⟨81, fun args H => match args with
 | [.str W, .str x] => match inP W && Nat.ble x.length 1000 with
  | true => some (.bool (inB W x), H)
  | false => none
 | _ => none, fun args H v H' h => by
  split at h
  ·rename_i W x
   split at h
   ·rename_i hl
    rw [Bool.and_eq_true] at hl
    simp only [Option.some.injEq, Prod.mk.injEq] at h
    obtain ⟨rfl, rfl⟩ := h
    rw [inB_eq]
    exact (c81p (T := []) W x (inP_mem hl.1) (by have := Nat.le_of_ble_eq_true hl.2; omega)).lift (by simp [pureL, pureV]) H
   ·cases h
  ·cases h⟩
noncomputable def r37 : Entry Tryz.prog := ⟨37, fun args H => match args with
 | [.str W] => match inP W with
  | true => some (aStrs (wsplit W), H)
  | false => none
 | _ => none, fun args H v H' h => by
  split at h
  ·rename_i W
   split at h
   ·rename_i hl
    simp only [Option.some.injEq, Prod.mk.injEq] at h
    obtain ⟨rfl, rfl⟩ := h
    exact (c37p (T := []) (inP_mem hl)).1.lift (by simp [pureL, pureV]) H
   ·cases h
  ·cases h⟩
noncomputable def TP : List (Entry Tryz.prog) := [r86, r81, r37]
def strsOf (l : List Str) : AV := .fslc 1 (l.map .str)
def wConfig : Str := [99, 111, 110, 102, 105, 103]
def wAdmin : Str := [97, 100, 109, 105, 110]
def wLocation : Str := [108, 111, 99, 97, 116, 105, 111, 110]
def wHttp : Str := [104, 116, 116, 112]
def wHttps : Str := [104, 116, 116, 112, 115]
def wMailto : Str := [109, 97, 105, 108, 116, 111]
def elemsU : List Str := wsplit lkHtml ++ ((wsplit lkSvg).map (pSvg ++ ·) ++ (wsplit lkMath).map (pMath ++ ·))
def polU (pre : Str) : AV := .agg [.str pre, strsOf [wConfig, wAdmin, wLocation], strsOf elemsU, strsOf (wsplit lkAttr), strsOf [wHttp, wHttps, wMailto], .int .i64 65536, .int .i64 4096, .int .i64 256, .int .i64 50, .int .i64 3, .bool false]
def withB (n a b : Int) : Bool := decide (a ≤ n) && decide (n ≤ b)
theorem c51 {T : List (Entry Tryz.prog)} (n a b : Int) : CallAt (ctx T) 51 [.int .i64 n, .int .i64 a, .int .i64 b] ⟨0, []⟩ (.bool (withB n a b)) ⟨0, []⟩ := by
 by_cases h : a ≤ n
 ·refine callAt_body (fn := Tryz.f51) (s0 := ⟨[0, 1, 2, 6], [.int .i64 n, .int .i64 a, .int .i64 b, .undef], [], 15, ⟨0, [[]]⟩⟩) Tryz.func51 rfl rfl rfl ?_
  (repeat (first
   | (refine wps_seq ?_)
   | (refine wps_block ?_)
   | (refine wps_label ?_; simp only [thenQ, blockQ])
   | ((refine wps_region callOK ?_); simp [zS, h])
   | (refine wps_ct rfl ?_)
   | (refine wps_cf rfl ?_)
   | ((refine wps_skip ?_); simp only [thenQ, blockQ])
   | ((refine wps_exit ?_); simp [thenQ, blockQ])))
  repeat apply wq
  refine wps_ret ?_
  simp [retVal, Tryz.f51, oneOr, thenQ, blockQ]
  exact ends_pure rfl (by simp [withB, h])
 ·refine callAt_body (fn := Tryz.f51) (s0 := ⟨[0, 1, 2, 6], [.int .i64 n, .int .i64 a, .int .i64 b, .undef], [], 15, ⟨0, [[]]⟩⟩) Tryz.func51 rfl rfl rfl ?_
  (repeat (first
   | (refine wps_seq ?_)
   | (refine wps_block ?_)
   | (refine wps_label ?_; simp only [thenQ, blockQ])
   | ((refine wps_region callOK ?_); simp [zS, h])
   | (refine wps_ct rfl ?_)
   | (refine wps_cf rfl ?_)
   | ((refine wps_skip ?_); simp only [thenQ, blockQ])
   | ((refine wps_exit ?_); simp [thenQ, blockQ])))
  repeat apply wq
  refine wps_ret ?_
  simp [retVal, Tryz.f51, oneOr, thenQ, blockQ]
  exact ends_pure rfl (by simp [withB, h])
theorem inj_i3 (x y : Int × Int × Int) (h : [AV.int .i64 x.1, AV.int .i64 x.2.1, AV.int .i64 x.2.2] = [AV.int .i64 y.1, AV.int .i64 y.2.1, AV.int .i64 y.2.2]) : x = y := by
 simp at h
 exact Prod.ext h.1 (Prod.ext h.2.1 h.2.2)
noncomputable def e51 : Entry Tryz.prog := mkE 51 [[], [], []] (fun x : Int × Int × Int => [.int .i64 x.1, .int .i64 x.2.1, .int .i64 x.2.2]) (fun _ => True) (fun x => .bool (withB x.1 x.2.1 x.2.2)) fun x _ => c51 (T := []) x.1 x.2.1 x.2.2
theorem k51 {T : List (Entry Tryz.prog)} (hT : findE 51 T = some e51.g) (n a b : Int) (H : Heap) : callL (ctx T) (.fn 51) [.int .i64 n, .int .i64 a, .int .i64 b] H = some (.bool (withB n a b), H) :=
 mkE_scalar hT inj_i3 (n, a, b) trivial rfl (by simp)
def letN (n : Nat) : Bool := decide (65 ≤ n) && decide (n ≤ 90) || decide (97 ≤ n) && decide (n ≤ 122)
theorem let_all : ∀ n : Fin 256, litOK (.bool (letN n.val)) (callN (ctx []) 100000 (.fn 76) [.int .u8 (n.val : Int)] ⟨0, []⟩) = true := by decide +kernel
theorem letR_all : ∀ n : Fin 256, litOK (.bool (letN n.val)) (callN (ctx []) 100000 (.fn 35) [.int .u8 (n.val : Int)] ⟨0, []⟩) = true := by decide +kernel
noncomputable def e76 : Entry Tryz.prog := mkE 76 [[]] (fun x : UInt8 => [.int .u8 x.toNat]) (fun _ => True) (fun x => .bool (letN x.toNat)) fun x _ => closedLit (T := []) (let_all ⟨x.toNat, x.toNat_lt⟩)
theorem k76 {T : List (Entry Tryz.prog)} (hT : findE 76 T = some e76.g) (c : UInt8) (H : Heap) : callL (ctx T) (.fn 76) [.int .u8 c.toNat] H = some (.bool (letN c.toNat), H) :=
 mkE_scalar hT inj_u8 c trivial rfl (by simp)
noncomputable def e35 : Entry Tryz.prog := mkE 35 [[]] (fun x : UInt8 => [.int .u8 x.toNat]) (fun _ => True) (fun x => .bool (letN x.toNat)) fun x _ => closedLit (T := []) (letR_all ⟨x.toNat, x.toNat_lt⟩)
theorem k35 {T : List (Entry Tryz.prog)} (hT : findE 35 T = some e35.g) (c : UInt8) (H : Heap) : callL (ctx T) (.fn 35) [.int .u8 c.toNat] H = some (.bool (letN c.toNat), H) :=
 mkE_scalar hT inj_u8 c trivial rfl (by simp)
def lettersB (s : Str) : Bool := s.all fun c => letN c.toNat
def prefixB (s : Str) : Bool := lettersB s && withB (s.length : Nat) 1 20
theorem all_at {α : Type} {p : α → Bool} {L : List α} {i : Nat} (h : i < L.length) : (L.drop i).all p = (p L[i] && (L.drop (i + 1)).all p) := by
 rw [List.drop_eq_getElem_cons h, List.all_cons]
theorem fit_b0 {n : Nat} {s : Str} : FitH 0 [(0, 0)] [] (bytesH n s) (bytesH 1 s) := fitBytes rfl
theorem c53 {T : List (Entry Tryz.prog)} (hL : findE 76 T = some e76.g) (hW : findE 51 T = some e51.g) (s : Str) (hl : s.length ≤ 1000000) : CallAt (ctx T) 53 [.str s] ⟨0, []⟩ (.bool (prefixB s)) ⟨0, []⟩ := by
 have kw := fun H => k51 hW (s.length : Nat) 1 20 H
 refine callAt_body (fn := Tryz.f53) (s0 := ⟨[0, 2, 4, 6, 7, 8], [.str s, .undef, .undef, .undef, .undef, .undef], [], 19, ⟨0, [[]]⟩⟩) Tryz.func53 rfl rfl rfl ?_
 repeat apply wq
 refine wps_region callOK ?_
 simp [zS]
 repeat apply wq
 refine wps_region callOK ?_
 simp [zS, conv1 hl, len52]
 repeat apply wq
 refine wps_block (wps_loop' (fun i : Nat => (⟨[0, 2, 4, 6, 7, 8], [.str s, .bool false, .undef, .slc 0 0 s.length (.rest 1), .int .i64 s.length, .int .i64 i], [], 19, bytesH 1 s⟩ : St))
  (fun i => i ≤ s.length ∧ (s.drop i).all (fun c => letN c.toNat) = lettersB s) (fun i => s.length - i) [(0, 0)] [] 0 ⟨Nat.zero_le _, rfl⟩ ⟨rfl, rfl, rfl, by simp [fitL, fitV, fitSlc, lookN, pureV], fit_b0⟩ ?_)
 rintro i ⟨hi, ha⟩ B hB
 repeat apply wq
 refine wps_region callOK ?_
 simp [zS]
 repeat apply wq
 refine wps_cond rfl (fun h => ?_) fun h => ?_
 ·simp at h
  rw [all_at h] at ha
  repeat apply wq
  refine wps_skip ?_
  simp
  repeat apply wq
  refine wps_block ?_
  repeat apply wq
  refine wps_region callOK ?_
  simp [zS, bytesH, ix52 h, getL_bytes h]
  rcases Bool.eq_false_or_eq_true (letN s[i].toNat) with hc | hc
  ·repeat apply wq
   refine wps_region callOK ?_
   simp [zS, k76 hL, hc]
   repeat apply wq
   refine wps_cf rfl ?_
   repeat apply wq
   refine wps_skip ?_
   simp
   repeat apply wq
   refine wps_region callOK ?_
   simp [zS, add_one (show i ≤ 1000000000 by omega)]
   exact hB _ (i + 1) (by omega) ⟨by omega, by rw [← ha, hc, Bool.true_and]⟩ ⟨[(0, 0)], [], rfl, rfl, rfl, by simp [fitL, fitV, fitSlc, lookN, pureV], fit_b0⟩
  ·repeat apply wq
   refine wps_region callOK ?_
   simp [zS, k76 hL, hc]
   repeat apply wq
   refine wps_ct rfl ?_
   repeat apply wq
   refine wps_region callOK ?_
   simp [zS]
   repeat apply wq
   refine wps_ret ?_
   simp [retVal, Tryz.f53, oneOr, thenQ, blockQ]
   exact ends_pure rfl (by simp [prefixB, ← ha, hc])
 ·simp at h
  rw [List.drop_eq_nil_of_le h] at ha
  repeat apply wq
  refine wps_exit ?_
  simp
  repeat apply wq
  refine wps_region callOK ?_
  simp [zS, kw]
  repeat apply wq
  refine wps_ret ?_
  simp [retVal, Tryz.f53, oneOr, thenQ, blockQ]
  exact ends_pure rfl (by simp [prefixB, ← ha])
noncomputable def e53 : Entry Tryz.prog := mkE 53 [[]] (fun x : Str => [.str x]) (fun x => x.length ≤ 1000000) (fun x => .bool (prefixB x)) fun x h => c53 (T := [e76, e51]) rfl rfl x h
theorem k53 {T : List (Entry Tryz.prog)} (hT : findE 53 T = some e53.g) {s : Str} (h1 : s.length ≤ 1000000) (H : Heap) : callL (ctx T) (.fn 53) [.str s] H = some (.bool (prefixB s), H) :=
 mkE_scalar hT inj_str s h1 rfl (by simp)
abbrev schC : Str := [48, 49, 50, 51, 52, 53, 54, 55, 56, 57, 43, 45, 46]
def smallN (n : Nat) : Bool := decide (97 ≤ n) && decide (n ≤ 122)
def schN (n : Nat) : Bool := decide (48 ≤ n) && decide (n ≤ 57) || (decide (n = 43) || (decide (n = 45) || decide (n = 46)))
theorem sch_all : ∀ n : Fin 256, decide (Lib.indexByte schC (UInt8.ofNat n.val) < 0) = !schN n.val := by decide +kernel
theorem sch_idx (c : UInt8) : Lib.indexByte schC c < 0 ↔ schN c.toNat = false := by
 have := sch_all ⟨c.toNat, c.toNat_lt⟩
 simp only [UInt8.ofNat_toNat] at this
 constructor
 ·intro h; simpa [h] using this
 ·intro h; rw [h] at this; simpa using this
def schGo (s : Str) : Nat → Nat → Bool
 | 0, _ => true
 | k + 1, i => (smallN (cN s i) || (decide (i ≠ 0) && schN (cN s i))) && schGo s k (i + 1)
def schemeB (s : Str) : Bool := schGo s s.length 0 && decide (s ≠ [])
theorem c57 {T : List (Entry Tryz.prog)} (hB : findE 42 T = some e42.g) (s : Str) (hl : s.length ≤ 1000000) : CallAt (ctx T) 57 [.str s] ⟨0, []⟩ (.bool (schemeB s)) ⟨0, []⟩ := by
 refine callAt_body (fn := Tryz.f57) (s0 := ⟨[0, 2, 3, 4, 5, 7, 8, 9], [.str s, .undef, .undef, .undef, .undef, .undef, .undef, .undef], [], 34, ⟨0, [[]]⟩⟩) Tryz.func57 rfl rfl rfl ?_
 repeat apply wq
 refine wps_region callOK ?_
 simp [zS]
 repeat apply wq
 refine wps_region callOK ?_
 simp [zS, conv1 hl, len52]
 repeat apply wq
 refine wps_block (wps_loop' (fun i : Nat => (⟨[0, 2, 3, 4, 5, 7, 8, 9], [.str s, .bool false, .undef, .undef, .undef, .slc 0 0 s.length (.rest 1), .int .i64 s.length, .int .i64 i], [], 34, bytesH 1 s⟩ : St))
  (fun i => i ≤ s.length ∧ schGo s (s.length - i) i = schGo s s.length 0) (fun i => s.length - i) [(0, 0)] [] 0 ⟨Nat.zero_le _, rfl⟩ ⟨rfl, rfl, rfl, by simp [fitL, fitV, fitSlc, lookN, pureV], fit_b0⟩ ?_)
 rintro i ⟨hi, ha⟩ B hB'
 repeat apply wq
 refine wps_region callOK ?_
 simp [zS]
 repeat apply wq
 refine wps_cond rfl (fun h => ?_) fun h => ?_
 ·simp at h
  obtain ⟨k, hk⟩ : ∃ k, s.length - i = k + 1 := ⟨s.length - i - 1, by omega⟩
  rw [hk] at ha
  simp only [schGo] at ha
  repeat apply wq
  refine wps_skip ?_
  simp
  repeat apply wq
  refine wps_block ?_
  have kb := fun H => k42 hB schC s[i] H
  have hx := sch_idx s[i]
  have hcn := cN_get h
  rw [← hcn] at ha
  have next : (smallN s[i].toNat || (decide (i ≠ 0) && schN s[i].toNat)) = true → schGo s (s.length - (i + 1)) (i + 1) = schGo s s.length 0 := fun e => by
   rw [← ha, e, Bool.true_and, show s.length - (i + 1) = k by omega]
  have no : (smallN s[i].toNat || (decide (i ≠ 0) && schN s[i].toNat)) = false → schGo s s.length 0 = false := fun e => by rw [← ha, e, Bool.false_and]
  generalize Lib.indexByte schC s[i] = v at *
  repeat apply wq
  refine wps_region callOK ?_
  simp [zS, bytesH, ix52 h, getL_bytes h]
  by_cases h1 : (97 : Int) ≤ (s[i].toNat : Int)
  ·by_cases h2 : (s[i].toNat : Int) ≤ 122
   ·have hs : smallN s[i].toNat = true := by simp [smallN]; omega
    repeat apply wq
    refine wps_region callOK ?_
    simp [zS, h1, h2]
    repeat apply wq
    refine wps_region callOK ?_
    simp [zS]
    repeat apply wq
    refine wps_cf rfl ?_
    repeat apply wq
    refine wps_skip ?_
    simp
    repeat apply wq
    refine wps_region callOK ?_
    simp [zS, add_one (show i ≤ 1000000000 by omega)]
    exact hB' _ (i + 1) (by omega) ⟨by omega, next (by simp [hs])⟩ ⟨[(0, 0)], [], rfl, rfl, rfl, by simp [fitL, fitV, fitSlc, lookN, pureV], fit_b0⟩
   ·have hs : smallN s[i].toNat = false := by simp [smallN]; omega
    repeat apply wq
    refine wps_region callOK ?_
    simp [zS, h1, h2]
    by_cases h3 : i = 0
    ·have h3' : (i : Int) = 0 := by omega
     repeat apply wq
     refine wps_region callOK ?_
     simp [zS, h3, h3']
     repeat apply wq
     refine wps_ct rfl ?_
     repeat apply wq
     refine wps_region callOK ?_
     simp [zS]
     repeat apply wq
     refine wps_ret ?_
     simp [retVal, Tryz.f57, oneOr, thenQ, blockQ]
     exact ends_pure rfl (by simp [schemeB, no (by rw [hs]; simp [h3])])
    ·have h3' : ¬ (i : Int) = 0 := by omega
     by_cases h4 : v < 0
     ·repeat apply wq
      refine wps_region callOK ?_
      simp [zS, h3, h3', kb, h4]
      repeat apply wq
      refine wps_ct rfl ?_
      repeat apply wq
      refine wps_region callOK ?_
      simp [zS]
      repeat apply wq
      refine wps_ret ?_
      simp [retVal, Tryz.f57, oneOr, thenQ, blockQ]
      exact ends_pure rfl (by simp [schemeB, no (by rw [hs, hx.1 h4]; simp)])
     ·have h5 : schN s[i].toNat = true := by cases hq : schN s[i].toNat with | true => rfl | false => exact absurd (hx.2 hq) h4
      repeat apply wq
      refine wps_region callOK ?_
      simp [zS, h3, h3', kb, h4]
      repeat apply wq
      refine wps_cf rfl ?_
      repeat apply wq
      refine wps_skip ?_
      simp
      repeat apply wq
      refine wps_region callOK ?_
      simp [zS, add_one (show i ≤ 1000000000 by omega)]
      exact hB' _ (i + 1) (by omega) ⟨by omega, next (by rw [hs, h5]; simp [h3])⟩ ⟨[(0, 0)], [], rfl, rfl, rfl, by simp [fitL, fitV, fitSlc, lookN, pureV], fit_b0⟩
  ·have hs : smallN s[i].toNat = false := by simp [smallN]; omega
   repeat apply wq
   refine wps_region callOK ?_
   simp [zS, h1]
   by_cases h3 : i = 0
   ·have h3' : (i : Int) = 0 := by omega
    repeat apply wq
    refine wps_region callOK ?_
    simp [zS, h3, h3']
    repeat apply wq
    refine wps_ct rfl ?_
    repeat apply wq
    refine wps_region callOK ?_
    simp [zS]
    repeat apply wq
    refine wps_ret ?_
    simp [retVal, Tryz.f57, oneOr, thenQ, blockQ]
    exact ends_pure rfl (by simp [schemeB, no (by rw [hs]; simp [h3])])
   ·have h3' : ¬ (i : Int) = 0 := by omega
    by_cases h4 : v < 0
    ·repeat apply wq
     refine wps_region callOK ?_
     simp [zS, h3, h3', kb, h4]
     repeat apply wq
     refine wps_ct rfl ?_
     repeat apply wq
     refine wps_region callOK ?_
     simp [zS]
     repeat apply wq
     refine wps_ret ?_
     simp [retVal, Tryz.f57, oneOr, thenQ, blockQ]
     exact ends_pure rfl (by simp [schemeB, no (by rw [hs, hx.1 h4]; simp)])
    ·have h5 : schN s[i].toNat = true := by cases hq : schN s[i].toNat with | true => rfl | false => exact absurd (hx.2 hq) h4
     repeat apply wq
     refine wps_region callOK ?_
     simp [zS, h3, h3', kb, h4]
     repeat apply wq
     refine wps_cf rfl ?_
     repeat apply wq
     refine wps_skip ?_
     simp
     repeat apply wq
     refine wps_region callOK ?_
     simp [zS, add_one (show i ≤ 1000000000 by omega)]
     exact hB' _ (i + 1) (by omega) ⟨by omega, next (by rw [hs, h5]; simp [h3])⟩ ⟨[(0, 0)], [], rfl, rfl, rfl, by simp [fitL, fitV, fitSlc, lookN, pureV], fit_b0⟩
 ·simp at h
  have : s.length - i = 0 := by omega
  rw [this] at ha
  simp only [schGo] at ha
  repeat apply wq
  refine wps_exit ?_
  simp
  repeat apply wq
  refine wps_region callOK ?_
  simp [zS]
  repeat apply wq
  refine wps_ret ?_
  simp [retVal, Tryz.f57, oneOr, thenQ, blockQ]
  exact ends_pure rfl (by simp [schemeB, ← ha])
@[simp] theorem szT71 : sizeT Tryz.prog 71 = some 1 := rfl
@[simp] theorem agT71 : aggT Tryz.prog 71 = some false := rfl
@[simp] theorem byT71 : bytesT Tryz.prog 71 = some 8 := rfl
@[simp] theorem alT71 (H : Heap) : alV Tryz.prog H 71 = some (.ptr H.n 0, H.new (.cells [.nilF])) := rfl
@[simp] theorem zeT71 : zeroOf Tryz.prog 71 = some (.nilF) := rfl
attribute [simp] Tryz.underlying71
@[simp 500] theorem rvF71 (H : Heap) (cs : List AV) (o : Nat) : readVar Tryz.prog H 71 (.fptr cs o) = getL cs o := rfl
@[simp 500] theorem rvP71 (H : Heap) (b o : Nat) : readVar Tryz.prog H 71 (.ptr b o) = (H.get b).bind fun k => k.rd.bind fun cs => getL cs o := rfl
theorem c99 {T : List (Entry Tryz.prog)} (L : List Str) (hl : L.length ≤ 1000000) (f : FuncId) (cap : List AV) (hc : pureL cap = true) (p : Str → Bool) (hp : ∀ s, s ∈ L → CallAt (ctx T) f (.str s :: cap) ⟨0, []⟩ (.bool (p s)) ⟨0, []⟩) :
  CallAt (ctx T) 99 [aStrs L, .func (.func f) [] cap] ⟨0, []⟩ (.int .i64 (idxFrom p L 0)) ⟨0, []⟩ := by
 refine callAt_body (fn := Tryz.f99) (s0 := ⟨[0, 1, 4, 5, 7, 8], [aStrs L, .func (.func f) [] cap, .undef, .undef, .undef, .undef], [], 19, ⟨0, [[]]⟩⟩) Tryz.func99 rfl rfl rfl ?_
 repeat apply wq
 refine wps_region callOK ?_
 simp [zS]
 repeat apply wq
 refine wps_region callOK ?_
 simp [zS, lenS]
 repeat apply wq
 refine wps_block (wps_loop' (fun i : Nat => (⟨[0, 1, 4, 5, 7, 8], [aStrs L, .func (.func f) [] cap, .int .i64 0, .undef, .int .i64 (L.length : Nat), .int .i64 i], [], 19, ⟨0, [[]]⟩⟩ : St))
  (fun i => i ≤ L.length ∧ idxFrom p L 0 = idxFrom p (L.drop i) i) (fun i => L.length - i) [] [] 0 ⟨Nat.zero_le _, rfl⟩ ⟨rfl, rfl, rfl, by simp [fitL, fitV, pureV, pureL, aStrs, hc], FitH.nothing⟩ ?_)
 rintro i ⟨hi, hx⟩ B hB
 repeat apply wq
 refine wps_region callOK ?_
 simp [zS]
 repeat apply wq
 refine wps_cond rfl (fun h => ?_) fun h => ?_
 ·simp at h
  rw [idxFrom_at h] at hx
  repeat apply wq
  refine wps_skip ?_
  simp
  repeat apply wq
  refine wps_block ?_
  repeat apply wq
  refine wps_region callOK ?_
  simp [zS]
  have hcall := (hp L[i] (List.getElem_mem h)).lift (by simp [pureL, pureV, hc]) ⟨0, [[]]⟩
  rcases Bool.eq_false_or_eq_true (p L[i]) with hb | hb
  ·rw [hb] at hcall hx
   repeat apply wq
   refine wps_region (callOKF [⟨f, _, _, _, _, hcall⟩]) ?_
   simp [zS, atS h, callF]
   repeat apply wq
   refine wps_ct rfl ?_
   repeat apply wq
   refine wps_region callOK ?_
   simp [zS]
   repeat apply wq
   refine wps_ret ?_
   simp [retVal, Tryz.f99, oneOr, thenQ, blockQ]
   exact ends_pure rfl (by rw [hx, if_pos rfl])
  ·rw [hb] at hcall hx
   repeat apply wq
   refine wps_region (callOKF [⟨f, _, _, _, _, hcall⟩]) ?_
   simp [zS, atS h, callF]
   repeat apply wq
   refine wps_cf rfl ?_
   repeat apply wq
   refine wps_skip ?_
   simp
   repeat apply wq
   refine wps_region callOK ?_
   simp [zS, add_one (show i ≤ 1000000000 by omega)]
   exact hB _ (i + 1) (by omega) ⟨by omega, by rw [hx, if_neg (by decide)]⟩ ⟨[], [], ⟨rfl, rfl, rfl, by simp [fitL, fitV, pureV, pureL, aStrs, hc], FitH.nothing⟩⟩
 ·simp at h
  repeat apply wq
  refine wps_exit ?_
  simp
  repeat apply wq
  refine wps_region callOK ?_
  simp [zS]
  repeat apply wq
  refine wps_ret ?_
  simp [retVal, Tryz.f99, oneOr, thenQ, blockQ]
  exact ends_pure rfl (by rw [hx, List.drop_eq_nil_of_le h]; rfl)
theorem idx_any {α : Type} {p : α → Bool} : ∀ (L : List α) (k : Nat), (0 ≤ idxFrom p L k) ↔ L.any p = true
 | [], k => by simp [idxFrom]
 | y :: r, k => by
  unfold idxFrom
  by_cases h : p y = true
  ·simp [h]
  ·rw [if_neg h, idx_any r (k + 1)]
   simp [h]
theorem c77 {T : List (Entry Tryz.prog)} (L : List Str) (hl : L.length ≤ 1000000) (f : FuncId) (cap : List AV) (hc : pureL cap = true) (p : Str → Bool) (hp : ∀ s, s ∈ L → CallAt (ctx T) f (.str s :: cap) ⟨0, []⟩ (.bool (p s)) ⟨0, []⟩) :
  CallAt (ctx T) 77 [aStrs L, .func (.func f) [] cap] ⟨0, []⟩ (.bool (L.any p)) ⟨0, []⟩ := by
 have hk := (c99 (T := T) L hl f cap hc p hp).lift (by simp [pureL, pureV, hc]) ⟨0, [[]]⟩
 have hd : decide (0 ≤ idxFrom p L 0) = L.any p := by rw [Bool.eq_iff_iff, decide_eq_true_iff]; exact idx_any L 0
 generalize idxFrom p L 0 = v at *
 refine callAt_body (fn := Tryz.f77) (s0 := ⟨[0, 1, 4], [aStrs L, .func (.func f) [] cap, .undef], [], 9, ⟨0, [[]]⟩⟩) Tryz.func77 rfl rfl rfl ?_
 repeat apply wq
 refine wps_region callOK ?_
 simp [zS]
 repeat apply wq
 refine wps_region (callOKF [⟨99, _, _, _, _, hk⟩]) ?_
 simp [zS, callF]
 repeat apply wq
 refine wps_ret ?_
 simp [retVal, Tryz.f77, oneOr, thenQ, blockQ]
 exact ends_pure rfl (by rw [hd])
theorem c78 {T : List (Entry Tryz.prog)} (s : Str) (f : FuncId) (cap : List AV) (hc : pureL cap = true) (b : Bool) (hm : CallAt (ctx T) f (.str s :: cap) ⟨0, []⟩ (.bool b) ⟨0, []⟩) :
  CallAt (ctx T) 78 [.str s, .fptr [.func (.func f) [] cap] 0] ⟨0, []⟩ (.bool !b) ⟨0, []⟩ := by
 have hcall := hm.lift (by simp [pureL, pureV, hc]) ⟨0, [[]]⟩
 refine callAt_body (fn := Tryz.f78) (s0 := ⟨[0, 1, 3], [.str s, .fptr [.func (.func f) [] cap] 0, .undef], [], 8, ⟨0, [[]]⟩⟩) Tryz.func78 rfl rfl rfl ?_
 repeat apply wq
 refine wps_region callOK ?_
 simp [zS]
 repeat apply wq
 refine wps_region (callOKF [⟨f, _, _, _, _, hcall⟩]) ?_
 simp [zS, callF]
 repeat apply wq
 refine wps_ret ?_
 simp [retVal, Tryz.f78, oneOr, thenQ, blockQ]
 exact ends_pure rfl (by rfl)
def allB (p : Str → Bool) (L : List Str) : Bool := decide (L.length ≤ 200) && L.all p
theorem c54 {T : List (Entry Tryz.prog)} (L : List Str) (hl : L.length ≤ 1000000) (f : FuncId) (cap : List AV) (hc : pureL cap = true) (p : Str → Bool) (hp : ∀ s, s ∈ L → CallAt (ctx T) f (.str s :: cap) ⟨0, []⟩ (.bool (p s)) ⟨0, []⟩) :
  CallAt (ctx T) 54 [aStrs L, .func (.func f) [] cap] ⟨0, []⟩ (.bool (allB p L)) ⟨0, []⟩ := by
 have hk := c77 (T := T) L hl 78 [.fptr [.func (.func f) [] cap] 0] (by simp [pureL, pureV]) (fun s => !p s) (fun s hs => c78 s f cap hc (p s) (hp s hs))
 have hcl := thawA_clo (H := ⟨1, [[(0, .cells [.func (.func f) [] cap])]]⟩) (ss := []) (f := 78) (b := 0) (o := 0) (cs := [.func (.func f) [] cap]) (by simp [Heap.get, getFs, getF]) (by simp [pureL, pureV, hc])
 have hk2 := hk.thaw rfl [[1], []] (H := ⟨1, [[(0, .cells [.func (.func f) [] cap])]]⟩) (args := [aStrs L, .func (.func 78) [] [.ptr 0 0]]) (by simp [hcl])
 have hany : (L.any fun s => !p s) = !L.all p := by rw [List.all_eq_not_any_not, Bool.not_not]
 rw [hany] at hk2
 generalize hall : L.all p = v at *
 by_cases h : L.length ≤ 200
 ·have h' : (L.length : Int) ≤ 200 := by omega
  refine callAt_body (fn := Tryz.f54) (s0 := ⟨[0, 1, 3, 4], [aStrs L, .func (.func f) [] cap, .undef, .undef], [], 14, ⟨0, [[]]⟩⟩) Tryz.func54 rfl rfl rfl ?_
  repeat apply wq
  refine wps_region callOK ?_
  simp [zS]
  repeat apply wq
  refine wps_region (callOKF [⟨77, _, _, _, _, hk2⟩]) ?_
  simp [zS, callF, lenS, h, h']
  repeat apply wq
  refine wps_ret ?_
  simp [retVal, Tryz.f54, oneOr, thenQ, blockQ]
  exact ends_pure rfl (by simp [allB, h, hall])
 ·have h' : ¬ (L.length : Int) ≤ 200 := by omega
  refine callAt_body (fn := Tryz.f54) (s0 := ⟨[0, 1, 3, 4], [aStrs L, .func (.func f) [] cap, .undef, .undef], [], 14, ⟨0, [[]]⟩⟩) Tryz.func54 rfl rfl rfl ?_
  repeat apply wq
  refine wps_region callOK ?_
  simp [zS]
  repeat apply wq
  refine wps_region callOK ?_
  simp [zS, lenS, h, h']
  repeat apply wq
  refine wps_ret ?_
  simp [retVal, Tryz.f54, oneOr, thenQ, blockQ]
  exact ends_pure rfl (by simp [allB, h])
noncomputable def i81 : Entry Tryz.prog := mkE 81 [[], []] (fun x : Str × Str => [.str x.1, .str x.2]) (fun x => x.1 ∈ listsP ∧ x.2.length ≤ 1000000) (fun x => .bool (inW x.1 x.2)) fun x h => c81p (T := []) x.1 x.2 h.1 (by have := h.2; omega)
theorem kp81 {T : List (Entry Tryz.prog)} (hT : findE 81 T = some i81.g) {W x : Str} (h1 : W ∈ listsP) (h2 : x.length ≤ 1000000) (H : Heap) : callL (ctx T) (.fn 81) [.str W, .str x] H = some (.bool (inW W x), H) :=
 mkE_scalar hT inj_str2 (W, x) ⟨h1, h2⟩ rfl (by simp)
theorem c56 {T : List (Entry Tryz.prog)} (hI : findE 81 T = some i81.g) (x : Str) (hx : x.length ≤ 1000000) : CallAt (ctx T) 56 [.str x] ⟨0, []⟩ (.bool (inW lkAttr x)) ⟨0, []⟩ := by
 have hk := fun H => kp81 hI (W := lkAttr) (x := x) (by simp [listsP]) hx H
 generalize inW lkAttr x = v at *
 refine callAt_body (fn := Tryz.f56) (s0 := ⟨[0, 2], [.str x, .undef], [], 5, ⟨0, [[]]⟩⟩) Tryz.func56 rfl rfl rfl ?_
 (repeat (first
  | (refine wps_seq ?_)
  | (refine wps_block ?_)
  | (refine wps_label ?_; simp only [thenQ, blockQ])
  | ((refine wps_region callOK ?_); simp [zS, hk])
  | (refine wps_ct rfl ?_)
  | (refine wps_cf rfl ?_)
  | ((refine wps_skip ?_); simp only [thenQ, blockQ])
  | ((refine wps_exit ?_); simp [thenQ, blockQ])))
 repeat apply wq
 refine wps_ret ?_
 simp [retVal, Tryz.f56, oneOr, thenQ, blockQ]
 exact ends_pure rfl (by rfl)
theorem c80 {T : List (Entry Tryz.prog)} (hI : findE 81 T = some i81.g) (space : Int) (x : Str) (hx : x.length ≤ 1000000) : CallAt (ctx T) 80 [.int .i64 space, .str x] ⟨0, []⟩ (.bool (knownB space x)) ⟨0, []⟩ := by
 have k0 := fun H => kp81 hI (W := lkHtml) (x := x) (by simp [listsP]) hx H
 have k1 := fun H => kp81 hI (W := lkSvg) (x := x) (by simp [listsP]) hx H
 have k2 := fun H => kp81 hI (W := lkMath) (x := x) (by simp [listsP]) hx H
 have e : knownB space x = if space = 0 then inW lkHtml x else if space = 1 then inW lkSvg x else if space = 2 then inW lkMath x else false := rfl
 rw [e]
 generalize inW lkHtml x = v0 at *
 generalize inW lkSvg x = v1 at *
 generalize inW lkMath x = v2 at *
 by_cases h0 : space = 0
 ·subst h0
  refine callAt_body (fn := Tryz.f80) (s0 := ⟨[0, 1, 4, 5], [.int .i64 0, .str x, .undef, .undef], [], 18, ⟨0, [[]]⟩⟩) Tryz.func80 rfl rfl rfl ?_
  (repeat (first
   | (refine wps_seq ?_)
   | (refine wps_block ?_)
   | (refine wps_label ?_; simp only [thenQ, blockQ])
   | ((refine wps_region callOK ?_); simp [zS, k0])
   | (refine wps_ct rfl ?_)
   | (refine wps_cf rfl ?_)
   | ((refine wps_skip ?_); simp only [thenQ, blockQ])
   | ((refine wps_exit ?_); simp [thenQ, blockQ])))
  repeat apply wq
  refine wps_ret ?_
  simp [retVal, Tryz.f80, oneOr, thenQ, blockQ]
  exact ends_pure rfl (by simp)
 ·by_cases h1 : space = 1
  ·subst h1
   refine callAt_body (fn := Tryz.f80) (s0 := ⟨[0, 1, 4, 5], [.int .i64 1, .str x, .undef, .undef], [], 18, ⟨0, [[]]⟩⟩) Tryz.func80 rfl rfl rfl ?_
   (repeat (first
    | (refine wps_seq ?_)
    | (refine wps_block ?_)
    | (refine wps_label ?_; simp only [thenQ, blockQ])
    | ((refine wps_region callOK ?_); simp [zS, k1])
    | (refine wps_ct rfl ?_)
    | (refine wps_cf rfl ?_)
    | ((refine wps_skip ?_); simp only [thenQ, blockQ])
    | ((refine wps_exit ?_); simp [thenQ, blockQ])))
   repeat apply wq
   refine wps_ret ?_
   simp [retVal, Tryz.f80, oneOr, thenQ, blockQ]
   exact ends_pure rfl (by simp)
  ·by_cases h2 : space = 2
   ·subst h2
    refine callAt_body (fn := Tryz.f80) (s0 := ⟨[0, 1, 4, 5], [.int .i64 2, .str x, .undef, .undef], [], 18, ⟨0, [[]]⟩⟩) Tryz.func80 rfl rfl rfl ?_
    (repeat (first
     | (refine wps_seq ?_)
     | (refine wps_block ?_)
     | (refine wps_label ?_; simp only [thenQ, blockQ])
     | ((refine wps_region callOK ?_); simp [zS, k2])
     | (refine wps_ct rfl ?_)
     | (refine wps_cf rfl ?_)
     | ((refine wps_skip ?_); simp only [thenQ, blockQ])
     | ((refine wps_exit ?_); simp [thenQ, blockQ])))
    repeat apply wq
    refine wps_ret ?_
    simp [retVal, Tryz.f80, oneOr, thenQ, blockQ]
    exact ends_pure rfl (by simp)
   ·refine callAt_body (fn := Tryz.f80) (s0 := ⟨[0, 1, 4, 5], [.int .i64 space, .str x, .undef, .undef], [], 18, ⟨0, [[]]⟩⟩) Tryz.func80 rfl rfl rfl ?_
    (repeat (first
     | (refine wps_seq ?_)
     | (refine wps_block ?_)
     | (refine wps_label ?_; simp only [thenQ, blockQ])
     | ((refine wps_region callOK ?_); simp [zS, h0, h1, h2])
     | (refine wps_ct rfl ?_)
     | (refine wps_cf rfl ?_)
     | ((refine wps_skip ?_); simp only [thenQ, blockQ])
     | ((refine wps_exit ?_); simp [thenQ, blockQ])))
    repeat apply wq
    refine wps_ret ?_
    simp [retVal, Tryz.f80, oneOr, thenQ, blockQ]
    exact ends_pure rfl (by simp [h0, h1, h2])
noncomputable def e80 : Entry Tryz.prog := mkE 80 [[], []] (fun x : Int × Str => [.int .i64 x.1, .str x.2]) (fun x => x.2.length ≤ 1000000) (fun x => .bool (knownB x.1 x.2)) fun x h => c80 (T := [i81]) rfl x.1 x.2 h
theorem k80 {T : List (Entry Tryz.prog)} (hT : findE 80 T = some e80.g) (space : Int) {name : Str} (hn : name.length ≤ 1000000) (H : Heap) : callL (ctx T) (.fn 80) [.int .i64 space, .str name] H = some (.bool (knownB space name), H) :=
 mkE_scalar hT injIS (space, name) hn rfl (by simp)
def knownK (key : Str) : Bool := knownB (splitV key).1 (splitV key).2
theorem split_len (key : Str) : (splitV key).2.length ≤ key.length := by unfold splitV; (repeat' split) <;> simp
theorem c55 {T : List (Entry Tryz.prog)} (hS : findE 79 T = some e79.g) (hK : findE 80 T = some e80.g) (s : Str) (hl : s.length ≤ 1000000) : CallAt (ctx T) 55 [.str s] ⟨0, []⟩ (.bool (knownK s)) ⟨0, []⟩ := by
 have hsl := split_len s
 have ks := fun H => k79 hS s H
 have kk := fun H => k80 hK (splitV s).1 (name := (splitV s).2) (by omega) H
 have e : knownK s = knownB (splitV s).1 (splitV s).2 := rfl
 rw [e]
 generalize splitV s = d at *
 obtain ⟨a, b⟩ := d
 simp only at ks kk ⊢
 generalize knownB a b = v at *
 refine callAt_body (fn := Tryz.f55) (s0 := ⟨[0, 2, 3, 4], [.str s, .undef, .undef, .undef], [], 13, ⟨0, [[]]⟩⟩) Tryz.func55 rfl rfl rfl ?_
 repeat apply wq
 refine wps_region callOK ?_
 simp [zS]
 repeat apply wq
 refine wps_region callOK ?_
 simp [zS, ks, splitA]
 repeat apply wq
 refine wps_region callOK ?_
 simp [zS, kk]
 repeat apply wq
 refine wps_ret ?_
 simp [retVal, Tryz.f55, oneOr, thenQ, blockQ]
 exact ends_pure rfl (by rfl)
structure PolR where
 pre : Str
 res : List Str
 els : List Str
 ats : List Str
 sch : List Str
 byt : Int
 nod : Int
 dep : Int
 per : Int
 loo : Int
 unc : Bool
def polC (p : PolR) : List AV := [.str p.pre, aStrs p.res, aStrs p.els, aStrs p.ats, aStrs p.sch, .int .i64 p.byt, .int .i64 p.nod, .int .i64 p.dep, .int .i64 p.per, .int .i64 p.loo, .bool p.unc]
def polA (p : PolR) : AV := .agg (polC p)
theorem pol_pureC (p : PolR) : pureL (polC p) = true := by simp [polC, pureL, pureV]
def lowN (r : Nat) : Bool := decide (r < 33)
def reservedB (pre s : Str) : Bool := withB (s.length : Nat) 1 60 && (validR s && (!hasB lowN s && !begB s pre))
theorem c50 {T : List (Entry Tryz.prog)} (r : Nat) : CallAt (ctx T) 50 [.int .i32 (r : Int)] ⟨0, []⟩ (.bool (lowN r)) ⟨0, []⟩ := by
 refine callAt_body (fn := Tryz.f50) (s0 := ⟨[0, 2], [.int .i32 (r : Int), .undef], [], 5, ⟨0, [[]]⟩⟩) Tryz.func50 rfl rfl rfl ?_
 repeat apply wq
 refine wps_region callOK ?_
 simp [zS]
 repeat apply wq
 refine wps_region callOK ?_
 simp [zS]
 repeat apply wq
 refine wps_ret ?_
 simp [retVal, Tryz.f50, oneOr, thenQ, blockQ]
 exact ends_pure rfl (by simp [lowN]; omega)
theorem c16 {T : List (Entry Tryz.prog)} (hI : findE 39 T = some e39.g) (s t : Str) : CallAt (ctx T) 16 [.str s, .str t] ⟨0, []⟩ (.bool (begB s t)) ⟨0, []⟩ := by
 have hk := fun H => k39 hI s t H
 generalize begB s t = v at *
 refine callAt_body (fn := Tryz.f16) (s0 := ⟨[0, 1, 4], [.str s, .str t, .undef], [], 8, ⟨0, [[]]⟩⟩) Tryz.func16 rfl rfl rfl ?_
 (repeat (first
  | (refine wps_seq ?_)
  | (refine wps_block ?_)
  | (refine wps_label ?_; simp only [thenQ, blockQ])
  | ((refine wps_region callOK ?_); simp [zS, hk])
  | (refine wps_ct rfl ?_)
  | (refine wps_cf rfl ?_)
  | ((refine wps_skip ?_); simp only [thenQ, blockQ])
  | ((refine wps_exit ?_); simp [thenQ, blockQ])))
 repeat apply wq
 refine wps_ret ?_
 simp [retVal, Tryz.f16, oneOr, thenQ, blockQ]
 exact ends_pure rfl (by rfl)
noncomputable def e16 : Entry Tryz.prog := mkE 16 [[], []] (fun x : Str × Str => [.str x.1, .str x.2]) (fun _ => True) (fun x => .bool (begB x.1 x.2)) fun x _ => c16 (T := [e39]) rfl x.1 x.2
theorem k16 {T : List (Entry Tryz.prog)} (hT : findE 16 T = some e16.g) (s t : Str) (H : Heap) : callL (ctx T) (.fn 16) [.str s, .str t] H = some (.bool (begB s t), H) :=
 mkE_scalar hT inj_str2 (s, t) trivial rfl (by simp)
theorem low_idx (s : Str) : 0 ≤ rIdx lowN s.length s 0 ↔ hasB lowN s = true := rIdx_low (fun r h => by simp [lowN] at h; omega) _ _ _ (Nat.le_refl _)
theorem c48 {T : List (Entry Tryz.prog)} (hW : findE 51 T = some e51.g) (hV : findE 52 T = some e52.g) (hP : findE 16 T = some e16.g) (p : PolR) (s : Str) (hl : s.length ≤ 900000) :
  CallAt (ctx T) 48 [.str s, .fptr (polC p) 0] ⟨0, []⟩ (.bool (reservedB p.pre s)) ⟨0, []⟩ := by
 have hk := (c49 (T := T) s hl 50 lowN (fun r _ => c50 r)).lift (by simp [pureL, pureV]) ⟨0, [[]]⟩
 have kw := fun H => k51 hW (s.length : Nat) 1 60 H
 have kv := fun H => k52 hV (s := s) hl H
 have kp := fun H => k16 hP s p.pre H
 have hlo := low_idx s
 have e : reservedB p.pre s = (withB (s.length : Nat) 1 60 && (validR s && (!hasB lowN s && !begB s p.pre))) := rfl
 rw [e]
 have hg : getL (polC p) 0 = some (.str p.pre) := rfl
 generalize rIdx lowN s.length s 0 = v at *
 have hvl : (0 ≤ v) = (hasB lowN s = true) := propext hlo
 refine callAt_body (fn := Tryz.f48) (s0 := ⟨[0, 1, 3, 4], [.str s, .fptr (polC p) 0, .undef, .undef], [], 26, ⟨0, [[]]⟩⟩) Tryz.func48 rfl rfl rfl ?_
 repeat apply wq
 refine wps_region callOK ?_
 simp [zS]
 repeat apply wq
 refine wps_region (callOKF [⟨49, _, _, _, _, hk⟩]) ?_
 simp [zS, callF, hvl]
 rcases Bool.eq_false_or_eq_true (withB (s.length : Nat) 1 60) with c1 | c1
 rotate_left
 ·repeat apply wq
  refine wps_region callOK ?_
  simp [zS, kw, kv, kp, hg, c1]
  repeat apply wq
  refine wps_ret ?_
  simp [retVal, Tryz.f48, oneOr, thenQ, blockQ]
  exact ends_pure rfl (by simp [c1])
 ·rcases Bool.eq_false_or_eq_true (validR s) with c2 | c2
  rotate_left
  ·repeat apply wq
   refine wps_region callOK ?_
   simp [zS, kw, kv, kp, hg, c1, c2]
   repeat apply wq
   refine wps_ret ?_
   simp [retVal, Tryz.f48, oneOr, thenQ, blockQ]
   exact ends_pure rfl (by simp [c1, c2])
  ·rcases (Bool.eq_false_or_eq_true (hasB lowN s)).symm with c3 | c3
   rotate_left
   ·repeat apply wq
    refine wps_region callOK ?_
    simp [zS, kw, kv, kp, hg, c1, c2, c3]
    repeat apply wq
    refine wps_ret ?_
    simp [retVal, Tryz.f48, oneOr, thenQ, blockQ]
    exact ends_pure rfl (by simp [c1, c2, c3])
   ·rcases (Bool.eq_false_or_eq_true (begB s p.pre)).symm with c4 | c4
    rotate_left
    ·repeat apply wq
     refine wps_region callOK ?_
     simp [zS, kw, kv, kp, hg, c1, c2, c3, c4]
     repeat apply wq
     refine wps_ret ?_
     simp [retVal, Tryz.f48, oneOr, thenQ, blockQ]
     exact ends_pure rfl (by simp [c1, c2, c3, c4])
    ·repeat apply wq
     refine wps_region callOK ?_
     simp [zS, kw, kv, kp, hg, c1, c2, c3, c4]
     repeat apply wq
     refine wps_ret ?_
     simp [retVal, Tryz.f48, oneOr, thenQ, blockQ]
     exact ends_pure rfl (by simp [c1, c2, c3, c4])
structure PolOk (p : PolR) : Prop where
 pre : p.pre.length ≤ 200000
 few : p.res.length ≤ 200000 ∧ p.els.length ≤ 200000 ∧ p.ats.length ≤ 200000 ∧ p.sch.length ≤ 200000
 short : (∀ s, s ∈ p.res → s.length ≤ 200000) ∧ (∀ s, s ∈ p.els → s.length ≤ 200000) ∧ (∀ s, s ∈ p.ats → s.length ≤ 200000) ∧ (∀ s, s ∈ p.sch → s.length ≤ 200000)
def numB (p : PolR) : Bool := withB p.byt 0 1048576 && (withB p.nod 1 65536 && (withB p.dep 1 1024 && (withB p.per 0 100 && withB p.loo 1 8)))
def listsB (p : PolR) : Bool := allB (reservedB p.pre) p.res && (allB knownK p.els && (allB (inW lkAttr) p.ats && allB schemeB p.sch))
def checkB (p : PolR) : Bool := numB p && (prefixB p.pre && listsB p)
def checkV (p : PolR) : AV := .int .i64 (if checkB p = true then 0 else 2)
theorem c23 {T : List (Entry Tryz.prog)} (hW : findE 51 T = some e51.g) (hP : findE 53 T = some e53.g) (p : PolR) (ok : PolOk p) :
  CallAt (ctx T) 23 [polA p] ⟨0, []⟩ (checkV p) ⟨0, []⟩ := by
 have kw := fun n a b H => k51 hW n a b H
 have kp := fun H => k53 hP (s := p.pre) (by have := ok.pre; omega) H
 obtain ⟨f1, f2, f3, f4⟩ := ok.few
 obtain ⟨g1, g2, g3, g4⟩ := ok.short
 have a1 := (c54 (T := T) p.res (by omega) 48 [.fptr (polC p) 0] (by simp [pureL, pureV]) (reservedB p.pre) (fun s hs => c48 (T := [e51, e52, e16]) rfl rfl rfl p s (by have := g1 s hs; omega))).thaw rfl [[1], []]
  (H := ⟨1, [[(0, .cells (polC p))]]⟩) (args := [aStrs p.res, .func (.func 48) [] [.ptr 0 0]])
  (by simp [thawA_clo (H := ⟨1, [[(0, .cells (polC p))]]⟩) (ss := []) (f := 48) (b := 0) (o := 0) (cs := polC p) (by simp [Heap.get, getFs, getF]) (pol_pureC p)])
 have a2 := (c54 (T := T) p.els (by omega) 55 [] rfl knownK (fun s hs => c55 (T := [e79, e80]) rfl rfl s (by have := g2 s hs; omega))).lift (by simp [pureL, pureV]) ⟨1, [[(0, .cells (polC p))]]⟩
 have a3 := (c54 (T := T) p.ats (by omega) 56 [] rfl (inW lkAttr) (fun s hs => c56 (T := [i81]) rfl s (by have := g3 s hs; omega))).lift (by simp [pureL, pureV]) ⟨1, [[(0, .cells (polC p))]]⟩
 have a4 := (c54 (T := T) p.sch (by omega) 57 [] rfl schemeB (fun s hs => c57 (T := [e42]) rfl s (by have := g4 s hs; omega))).lift (by simp [pureL, pureV]) ⟨1, [[(0, .cells (polC p))]]⟩
 have e : checkB p = (numB p && (prefixB p.pre && listsB p)) := rfl
 have e1 : numB p = (withB p.byt 0 1048576 && (withB p.nod 1 65536 && (withB p.dep 1 1024 && (withB p.per 0 100 && withB p.loo 1 8)))) := rfl
 have e2 : listsB p = (allB (reservedB p.pre) p.res && (allB knownK p.els && (allB (inW lkAttr) p.ats && allB schemeB p.sch))) := rfl
 unfold checkV
 rw [e, e1, e2]
 clear e e1 e2
 have o0 : getL (polC p) 0 = some (.str p.pre) := rfl
 have o1 : getL (polC p) 1 = some (aStrs p.res) := rfl
 have o2 : getL (polC p) 2 = some (aStrs p.els) := rfl
 have o3 : getL (polC p) 3 = some (aStrs p.ats) := rfl
 have o4 : getL (polC p) 4 = some (aStrs p.sch) := rfl
 have o5 : getL (polC p) 5 = some (.int .i64 p.byt) := rfl
 have o6 : getL (polC p) 6 = some (.int .i64 p.nod) := rfl
 have o7 : getL (polC p) 7 = some (.int .i64 p.dep) := rfl
 have o8 : getL (polC p) 8 = some (.int .i64 p.per) := rfl
 have o9 : getL (polC p) 9 = some (.int .i64 p.loo) := rfl
 have hsg : allSingle (polC p) = true := by simp [polC, allSingle, AV.single]
 simp only [polA]
 generalize polC p = C at *
 generalize allB (reservedB p.pre) p.res = b1 at *
 generalize allB knownK p.els = b2 at *
 generalize allB (inW lkAttr) p.ats = b3 at *
 generalize allB schemeB p.sch = b4 at *
 refine callAt_body (fn := Tryz.f23) (s0 := ⟨[0, 1, 2, 3, 4], [.agg C, .undef, .undef, .undef, .undef], [], 62, ⟨0, [[]]⟩⟩) Tryz.func23 rfl rfl rfl ?_
 repeat apply wq
 refine wps_region callOK ?_
 simp [zS, hsg]
 repeat apply wq
 refine wps_region callOK ?_
 simp [zS]
 rcases Bool.eq_false_or_eq_true (withB p.byt 0 1048576) with c1 | c1
 rotate_left
 ·repeat apply wq
  refine wps_region callOK ?_
  simp [zS, o5, o6, o7, o8, o9, kw, c1]
  repeat apply wq
  refine wps_region callOK ?_
  simp [zS]
  repeat apply wq
  refine wps_ct rfl ?_
  repeat apply wq
  refine wps_region callOK ?_
  simp [zS]
  repeat apply wq
  refine wps_ret ?_
  simp [retVal, Tryz.f23, oneOr, thenQ, blockQ]
  exact ends_pure rfl (by simp [c1])
 ·rcases Bool.eq_false_or_eq_true (withB p.nod 1 65536) with c2 | c2
  rotate_left
  ·repeat apply wq
   refine wps_region callOK ?_
   simp [zS, o5, o6, o7, o8, o9, kw, c1, c2]
   repeat apply wq
   refine wps_region callOK ?_
   simp [zS]
   repeat apply wq
   refine wps_ct rfl ?_
   repeat apply wq
   refine wps_region callOK ?_
   simp [zS]
   repeat apply wq
   refine wps_ret ?_
   simp [retVal, Tryz.f23, oneOr, thenQ, blockQ]
   exact ends_pure rfl (by simp [c1, c2])
  ·rcases Bool.eq_false_or_eq_true (withB p.dep 1 1024) with c3 | c3
   rotate_left
   ·repeat apply wq
    refine wps_region callOK ?_
    simp [zS, o5, o6, o7, o8, o9, kw, c1, c2, c3]
    repeat apply wq
    refine wps_region callOK ?_
    simp [zS]
    repeat apply wq
    refine wps_ct rfl ?_
    repeat apply wq
    refine wps_region callOK ?_
    simp [zS]
    repeat apply wq
    refine wps_ret ?_
    simp [retVal, Tryz.f23, oneOr, thenQ, blockQ]
    exact ends_pure rfl (by simp [c1, c2, c3])
   ·rcases Bool.eq_false_or_eq_true (withB p.per 0 100) with c4 | c4
    rotate_left
    ·repeat apply wq
     refine wps_region callOK ?_
     simp [zS, o5, o6, o7, o8, o9, kw, c1, c2, c3, c4]
     repeat apply wq
     refine wps_region callOK ?_
     simp [zS]
     repeat apply wq
     refine wps_ct rfl ?_
     repeat apply wq
     refine wps_region callOK ?_
     simp [zS]
     repeat apply wq
     refine wps_ret ?_
     simp [retVal, Tryz.f23, oneOr, thenQ, blockQ]
     exact ends_pure rfl (by simp [c1, c2, c3, c4])
    ·rcases Bool.eq_false_or_eq_true (withB p.loo 1 8) with c5 | c5
     rotate_left
     ·repeat apply wq
      refine wps_region callOK ?_
      simp [zS, o5, o6, o7, o8, o9, kw, c1, c2, c3, c4, c5]
      repeat apply wq
      refine wps_region callOK ?_
      simp [zS]
      repeat apply wq
      refine wps_ct rfl ?_
      repeat apply wq
      refine wps_region callOK ?_
      simp [zS]
      repeat apply wq
      refine wps_ret ?_
      simp [retVal, Tryz.f23, oneOr, thenQ, blockQ]
      exact ends_pure rfl (by simp [c1, c2, c3, c4, c5])
     ·repeat apply wq
      refine wps_region callOK ?_
      simp [zS, o5, o6, o7, o8, o9, kw, c1, c2, c3, c4, c5]
      rcases Bool.eq_false_or_eq_true (prefixB p.pre) with c6 | c6
      rotate_left
      ·repeat apply wq
       refine wps_region (callOKF [⟨54, _, _, _, _, a1⟩, ⟨54, _, _, _, _, a2⟩, ⟨54, _, _, _, _, a3⟩, ⟨54, _, _, _, _, a4⟩]) ?_
       simp [zS, callF, o0, o1, o2, o3, o4, kp, c6]
       repeat apply wq
       refine wps_ct rfl ?_
       repeat apply wq
       refine wps_region callOK ?_
       simp [zS]
       repeat apply wq
       refine wps_ret ?_
       simp [retVal, Tryz.f23, oneOr, thenQ, blockQ]
       exact ends_pure rfl (by simp [c6])
      ·rcases Bool.eq_false_or_eq_true (b1) with c7 | c7
       rotate_left
       ·repeat apply wq
        refine wps_region (callOKF [⟨54, _, _, _, _, a1⟩, ⟨54, _, _, _, _, a2⟩, ⟨54, _, _, _, _, a3⟩, ⟨54, _, _, _, _, a4⟩]) ?_
        simp [zS, callF, o0, o1, o2, o3, o4, kp, c6, c7]
        repeat apply wq
        refine wps_ct rfl ?_
        repeat apply wq
        refine wps_region callOK ?_
        simp [zS]
        repeat apply wq
        refine wps_ret ?_
        simp [retVal, Tryz.f23, oneOr, thenQ, blockQ]
        exact ends_pure rfl (by simp [c6, c7])
       ·rcases Bool.eq_false_or_eq_true (b2) with c8 | c8
        rotate_left
        ·repeat apply wq
         refine wps_region (callOKF [⟨54, _, _, _, _, a1⟩, ⟨54, _, _, _, _, a2⟩, ⟨54, _, _, _, _, a3⟩, ⟨54, _, _, _, _, a4⟩]) ?_
         simp [zS, callF, o0, o1, o2, o3, o4, kp, c6, c7, c8]
         repeat apply wq
         refine wps_ct rfl ?_
         repeat apply wq
         refine wps_region callOK ?_
         simp [zS]
         repeat apply wq
         refine wps_ret ?_
         simp [retVal, Tryz.f23, oneOr, thenQ, blockQ]
         exact ends_pure rfl (by simp [c6, c7, c8])
        ·rcases Bool.eq_false_or_eq_true (b3) with c9 | c9
         rotate_left
         ·repeat apply wq
          refine wps_region (callOKF [⟨54, _, _, _, _, a1⟩, ⟨54, _, _, _, _, a2⟩, ⟨54, _, _, _, _, a3⟩, ⟨54, _, _, _, _, a4⟩]) ?_
          simp [zS, callF, o0, o1, o2, o3, o4, kp, c6, c7, c8, c9]
          repeat apply wq
          refine wps_ct rfl ?_
          repeat apply wq
          refine wps_region callOK ?_
          simp [zS]
          repeat apply wq
          refine wps_ret ?_
          simp [retVal, Tryz.f23, oneOr, thenQ, blockQ]
          exact ends_pure rfl (by simp [c6, c7, c8, c9])
         ·rcases Bool.eq_false_or_eq_true (b4) with c10 | c10
          rotate_left
          ·repeat apply wq
           refine wps_region (callOKF [⟨54, _, _, _, _, a1⟩, ⟨54, _, _, _, _, a2⟩, ⟨54, _, _, _, _, a3⟩, ⟨54, _, _, _, _, a4⟩]) ?_
           simp [zS, callF, o0, o1, o2, o3, o4, kp, c6, c7, c8, c9, c10]
           repeat apply wq
           refine wps_ct rfl ?_
           repeat apply wq
           refine wps_region callOK ?_
           simp [zS]
           repeat apply wq
           refine wps_ret ?_
           simp [retVal, Tryz.f23, oneOr, thenQ, blockQ]
           exact ends_pure rfl (by simp [c6, c7, c8, c9, c10])
          ·repeat apply wq
           refine wps_region (callOKF [⟨54, _, _, _, _, a1⟩, ⟨54, _, _, _, _, a2⟩, ⟨54, _, _, _, _, a3⟩, ⟨54, _, _, _, _, a4⟩]) ?_
           simp [zS, callF, o0, o1, o2, o3, o4, kp, c6, c7, c8, c9, c10]
           repeat apply wq
           refine wps_cf rfl ?_
           repeat apply wq
           refine wps_skip ?_
           simp
           repeat apply wq
           refine wps_region callOK ?_
           simp [zS]
           repeat apply wq
           refine wps_ret ?_
           simp [retVal, Tryz.f23, oneOr, thenQ, blockQ]
           exact ends_pure rfl (by simp [c1, c2, c3, c4, c5, c6, c7, c8, c9, c10])
theorem c85 {T : List (Entry Tryz.prog)} (s t : Str) : CallAt (ctx T) 85 [.str s, .str t] ⟨0, []⟩ (.bool (begB s t)) ⟨0, []⟩ := by
 refine callAt_body (fn := Tryz.f85) (s0 := ⟨[0, 1, 4], [.str s, .str t, .undef], [], 18, ⟨0, [[]]⟩⟩) Tryz.func85 rfl rfl rfl ?_
 repeat apply wq
 refine wps_region callOK ?_
 simp [zS]
 by_cases h : t.length ≤ s.length
 ·repeat apply wq
  refine wps_region callOK ?_
  simp [zS, h, slStrTo h]
  repeat apply wq
  refine wps_ret ?_
  simp [retVal, Tryz.f85, oneOr, thenQ, blockQ]
  exact ends_pure rfl (by simp [begB, h])
 ·repeat apply wq
  refine wps_region callOK ?_
  simp [zS, h]
  repeat apply wq
  refine wps_ret ?_
  simp [retVal, Tryz.f85, oneOr, thenQ, blockQ]
  exact ends_pure rfl (by simp [begB, h])
noncomputable def e85 : Entry Tryz.prog := mkE 85 [[], []] (fun x : Str × Str => [.str x.1, .str x.2]) (fun _ => True) (fun x => .bool (begB x.1 x.2)) fun x _ => c85 (T := []) x.1 x.2
theorem k85 {T : List (Entry Tryz.prog)} (hT : findE 85 T = some e85.g) (s t : Str) (H : Heap) : callL (ctx T) (.fn 85) [.str s, .str t] H = some (.bool (begB s t), H) :=
 mkE_scalar hT inj_str2 (s, t) trivial rfl (by simp)
theorem c60 {T : List (Entry Tryz.prog)} (hV : findE 84 T = some e84.g) (hB : findE 85 T = some e85.g) (p : PolR) (s : Str) (hl : s.length ≤ 900000) :
  CallAt (ctx T) 60 [polA p, .str s] ⟨0, []⟩ (.bool (reservedB p.pre s)) ⟨0, []⟩ := by
 have kv := fun H => k84 hV (s := s) (by omega) H
 have kb := fun H => k85 hB s p.pre H
 have o0 : getL (polC p) 0 = some (.str p.pre) := rfl
 have hsg : allSingle (polC p) = true := by simp [polC, allSingle, AV.single]
 have hpC := pol_pureC p
 have e : reservedB p.pre s = (withB (s.length : Nat) 1 60 && (validR s && (!hasB lowN s && !begB s p.pre))) := rfl
 rw [e]
 simp only [polA]
 generalize polC p = C at *
 by_cases h1 : s = []
 ·subst h1
  refine callAt_body (fn := Tryz.f60) (s0 := ⟨[0, 1, 2, 4, 5], [.agg C, .str [], .undef, .undef, .undef], [], 34, ⟨0, [[]]⟩⟩) Tryz.func60 rfl rfl rfl ?_
  repeat apply wq
  refine wps_region callOK ?_
  simp [zS, hsg]
  repeat apply wq
  refine wps_region callOK ?_
  simp [zS]
  repeat apply wq
  refine wps_ct rfl ?_
  repeat apply wq
  refine wps_region callOK ?_
  simp [zS]
  repeat apply wq
  refine wps_ret ?_
  simp [retVal, Tryz.f60, oneOr, thenQ, blockQ]
  exact ends_pure rfl (by simp [withB])
 have hs1 : 0 < s.length := List.length_pos_iff.2 h1
 by_cases h2 : s.length ≤ 60
 ·have h2' : ¬ (60 : Int) < (s.length : Int) := by omega
  have h2'' : ¬ 60 < s.length := by omega
  have hw : withB (s.length : Nat) 1 60 = true := by simp [withB]; omega
  rw [hw]
  refine callAt_body (fn := Tryz.f60) (s0 := ⟨[0, 1, 2, 4, 5], [.agg C, .str s, .undef, .undef, .undef], [], 34, ⟨0, [[]]⟩⟩) Tryz.func60 rfl rfl rfl ?_
  repeat apply wq
  refine wps_region callOK ?_
  simp [zS, hsg]
  rcases Bool.eq_false_or_eq_true (validR s) with c1 | c1
  rotate_left
  ·repeat apply wq
   refine wps_region callOK ?_
   simp [zS, h1, h2', h2'', kv, kb, o0, c1]
   repeat apply wq
   refine wps_ct rfl ?_
   repeat apply wq
   refine wps_region callOK ?_
   simp [zS]
   repeat apply wq
   refine wps_ret ?_
   simp [retVal, Tryz.f60, oneOr, thenQ, blockQ]
   exact ends_pure rfl (by simp [c1])
  ·rcases (Bool.eq_false_or_eq_true (begB s p.pre)).symm with c2 | c2
   rotate_left
   ·repeat apply wq
    refine wps_region callOK ?_
    simp [zS, h1, h2', h2'', kv, kb, o0, c1, c2]
    repeat apply wq
    refine wps_ct rfl ?_
    repeat apply wq
    refine wps_region callOK ?_
    simp [zS]
    repeat apply wq
    refine wps_ret ?_
    simp [retVal, Tryz.f60, oneOr, thenQ, blockQ]
    exact ends_pure rfl (by simp [c1, c2])
   ·repeat apply wq
    refine wps_region callOK ?_
    simp [zS, h1, h2', h2'', kv, kb, o0, c1, c2]
    repeat apply wq
    refine wps_cf rfl ?_
    repeat apply wq
    refine wps_skip ?_
    simp
    repeat apply wq
    refine wps_region callOK ?_
    simp [zS]
    repeat apply wq
    refine wps_block (wps_loop' (fun i : Nat => (⟨[0, 1, 2, 4, 5], [.agg C, .str s, .undef, .bool false, .int .i64 i], [], 34, ⟨0, [[]]⟩⟩ : St))
     (fun i => i ≤ s.length ∧ hasB lowN (s.drop i) = hasB lowN s) (fun i => s.length - i) [] [] 0 ⟨Nat.zero_le _, rfl⟩ ⟨rfl, rfl, rfl, by simp [fitL, fitV, pureV, pureL, hpC], FitH.nothing⟩ ?_)
    rintro i ⟨hi, ha⟩ B hB
    repeat apply wq
    refine wps_region callOK ?_
    simp [zS]
    repeat apply wq
    refine wps_cond rfl (fun h => ?_) fun h => ?_
    ·simp at h
     have hd : hasB lowN (s.drop i) = (lowN s[i].toNat || hasB lowN (s.drop (i + 1))) := by
      conv => lhs; rw [List.drop_eq_getElem_cons h]
      simp only [hasB, List.any_cons]
     rw [hd] at ha
     repeat apply wq
     refine wps_skip ?_
     simp
     repeat apply wq
     refine wps_block ?_
     by_cases h3 : s[i].toNat < 33
     ·have h3' : (s[i].toNat : Int) < 33 := by omega
      repeat apply wq
      refine wps_region callOK ?_
      simp [zS, ixStr h, h3, h3']
      repeat apply wq
      refine wps_ct rfl ?_
      repeat apply wq
      refine wps_region callOK ?_
      simp [zS]
      repeat apply wq
      refine wps_ret ?_
      simp [retVal, Tryz.f60, oneOr, thenQ, blockQ]
      exact ends_pure rfl (by rw [← ha]; simp [lowN, h3])
     ·have h3' : ¬ (s[i].toNat : Int) < 33 := by omega
      repeat apply wq
      refine wps_region callOK ?_
      simp [zS, ixStr h, h3, h3']
      repeat apply wq
      refine wps_cf rfl ?_
      repeat apply wq
      refine wps_skip ?_
      simp
      repeat apply wq
      refine wps_region callOK ?_
      simp [zS, add_one (show i ≤ 1000000000 by omega)]
      exact hB _ (i + 1) (by omega) ⟨by omega, by rw [← ha]; simp [lowN, h3]⟩ ⟨[], [], ⟨rfl, rfl, rfl, by simp [fitL, fitV, pureV, pureL, hpC], FitH.nothing⟩⟩
    ·simp at h
     rw [List.drop_eq_nil_of_le h] at ha
     repeat apply wq
     refine wps_exit ?_
     simp
     repeat apply wq
     refine wps_region callOK ?_
     simp [zS]
     repeat apply wq
     refine wps_ret ?_
     simp [retVal, Tryz.f60, oneOr, thenQ, blockQ]
     exact ends_pure rfl (by rw [← ha]; simp [hasB, c1, c2])
 ·have h2' : (60 : Int) < (s.length : Int) := by omega
  have h2'' : 60 < s.length := by omega
  have hw : withB (s.length : Nat) 1 60 = false := by simp [withB]; omega
  refine callAt_body (fn := Tryz.f60) (s0 := ⟨[0, 1, 2, 4, 5], [.agg C, .str s, .undef, .undef, .undef], [], 34, ⟨0, [[]]⟩⟩) Tryz.func60 rfl rfl rfl ?_
  repeat apply wq
  refine wps_region callOK ?_
  simp [zS, hsg]
  repeat apply wq
  refine wps_region callOK ?_
  simp [zS, h1, h2', h2'']
  repeat apply wq
  refine wps_ct rfl ?_
  repeat apply wq
  refine wps_region callOK ?_
  simp [zS]
  repeat apply wq
  refine wps_ret ?_
  simp [retVal, Tryz.f60, oneOr, thenQ, blockQ]
  exact ends_pure rfl (by simp [hw])
theorem inj_polA {p q : PolR} (h : polA p = polA q) : p = q := by
 simp only [polA, polC, AV.agg.injEq, List.cons.injEq, AV.str.injEq, AV.int.injEq, AV.bool.injEq, true_and, and_true] at h
 obtain ⟨h0, h1, h2, h3, h4, h5, h6, h7, h8, h9, h10⟩ := h
 cases p; cases q
 simp only at *
 rw [h0, inj_strs h1, inj_strs h2, inj_strs h3, inj_strs h4, h5, h6, h7, h8, h9, h10]
theorem inj_polS (x y : PolR × Str) (h : [polA x.1, AV.str x.2] = [polA y.1, AV.str y.2]) : x = y := by
 simp only [List.cons.injEq, AV.str.injEq, and_true] at h
 exact Prod.ext (inj_polA h.1) h.2
theorem inj_pol1 (x y : PolR) (h : [polA x] = [polA y]) : x = y := inj_polA (by simpa using h)
theorem thawA_pol {H : Heap} {ss : List Nat} (p : PolR) : thawA H ss (polA p) = some (polA p) := thawA_ok (by simp [polA, polC, okV, pureL, pureV])
noncomputable def e60 : Entry Tryz.prog := mkE 60 [[], []] (fun x : PolR × Str => [polA x.1, .str x.2]) (fun x => x.2.length ≤ 900000) (fun x => .bool (reservedB x.1.pre x.2)) fun x h => c60 (T := [e84, e85]) rfl rfl x.1 x.2 h
theorem k60 {T : List (Entry Tryz.prog)} (hT : findE 60 T = some e60.g) (p : PolR) {s : Str} (hl : s.length ≤ 900000) (H : Heap) : callL (ctx T) (.fn 60) [polA p, .str s] H = some (.bool (reservedB p.pre s), H) :=
 mkE_scalar hT inj_polS (p, s) hl rfl (by simp [thawA_pol])
theorem c64 {T : List (Entry Tryz.prog)} (s : Str) (hl : s.length ≤ 1000000) : CallAt (ctx T) 64 [.str s] ⟨0, []⟩ (.bool (schemeB s)) ⟨0, []⟩ := by
 refine callAt_body (fn := Tryz.f64) (s0 := ⟨[0, 2, 3, 4], [.str s, .undef, .undef, .undef], [], 46, ⟨0, [[]]⟩⟩) Tryz.func64 rfl rfl rfl ?_
 repeat apply wq
 refine wps_region callOK ?_
 simp [zS]
 repeat apply wq
 refine wps_region callOK ?_
 simp [zS]
 repeat apply wq
 refine wps_block (wps_loop' (fun i : Nat => (⟨[0, 2, 3, 4], [.str s, .bool false, .int .i64 i, .undef], [], 46, ⟨0, [[]]⟩⟩ : St))
  (fun i => i ≤ s.length ∧ schGo s (s.length - i) i = schGo s s.length 0) (fun i => s.length - i) [] [] 0 ⟨Nat.zero_le _, rfl⟩ ⟨rfl, rfl, rfl, by simp [fitL, fitV, pureV, pureL], FitH.nothing⟩ ?_)
 rintro i ⟨hi, ha⟩ B hB'
 repeat apply wq
 refine wps_region callOK ?_
 simp [zS]
 repeat apply wq
 refine wps_cond rfl (fun h => ?_) fun h => ?_
 ·simp at h
  obtain ⟨k, hk⟩ : ∃ k, s.length - i = k + 1 := ⟨s.length - i - 1, by omega⟩
  rw [hk] at ha
  simp only [schGo] at ha
  repeat apply wq
  refine wps_skip ?_
  simp
  repeat apply wq
  refine wps_block ?_
  have hcn := cN_get h
  rw [← hcn] at ha
  have hix := ixStr h
  obtain ⟨c, hc⟩ : ∃ c, c = s[i].toNat := ⟨_, rfl⟩
  rw [← hc] at ha hix
  have next : (smallN c || (decide (i ≠ 0) && schN c)) = true → schGo s (s.length - (i + 1)) (i + 1) = schGo s s.length 0 := fun e => by
   rw [← ha, e, Bool.true_and, show s.length - (i + 1) = k by omega]
  have no : (smallN c || (decide (i ≠ 0) && schN c)) = false → schGo s s.length 0 = false := fun e => by rw [← ha, e, Bool.false_and]
  repeat apply wq
  refine wps_region callOK ?_
  simp [zS, hix]
  have cls : (97 ≤ c ∧ c ≤ 122) ∨ (i = 0 ∧ (c < 97)) ∨ (i = 0 ∧ (122 < c)) ∨ (¬ i = 0 ∧ (c = 43)) ∨ (¬ i = 0 ∧ (c = 45)) ∨ (¬ i = 0 ∧ (c = 46)) ∨ (¬ i = 0 ∧ (48 ≤ c ∧ c ≤ 57)) ∨ (¬ i = 0 ∧ (c < 48 ∧ c ≠ 43 ∧ c ≠ 45 ∧ c ≠ 46)) ∨ (¬ i = 0 ∧ (58 ≤ c ∧ c ≤ 96)) ∨ (¬ i = 0 ∧ (122 < c)) := by omega
  rcases cls with q | q | q | q | q | q | q | q | q | q
  ·-- 97 ≤ c ∧ c ≤ 122
   have lt97i : ¬ (c : Int) < 97 := by omega
   have g122i : ¬ (122 : Int) < c := by omega
   have e43i : ¬ (c : Int) = 43 := by omega
   have e45i : ¬ (c : Int) = 45 := by omega
   have e46i : ¬ (c : Int) = 46 := by omega
   have lt48i : ¬ (c : Int) < 48 := by omega
   have g57i : (57 : Int) < c := by omega
   repeat apply wq
   refine wps_region callOK ?_
   simp [zS, lt97i, g122i, e43i, e45i, e46i, lt48i, g57i]
   repeat apply wq
   refine wps_cf rfl ?_
   repeat apply wq
   refine wps_skip ?_
   simp
   repeat apply wq
   refine wps_region callOK ?_
   simp [zS, add_one (show i ≤ 1000000000 by omega)]
   exact hB' _ (i + 1) (by omega) ⟨by omega, next (by simp [smallN, schN]; omega)⟩ ⟨[], [], ⟨rfl, rfl, rfl, by simp [fitL, fitV, pureV, pureL], FitH.nothing⟩⟩
  ·-- c < 97
   have lt97i : (c : Int) < 97 := by omega
   have g122i : ¬ (122 : Int) < c := by omega
   have i0 : (i : Int) = 0 := by omega
   have i0' := q.1
   repeat apply wq
   refine wps_region callOK ?_
   simp [zS, lt97i, g122i, i0, i0']
   repeat apply wq
   refine wps_ct rfl ?_
   repeat apply wq
   refine wps_region callOK ?_
   simp [zS]
   repeat apply wq
   refine wps_ret ?_
   simp [retVal, Tryz.f64, oneOr, thenQ, blockQ]
   exact ends_pure rfl (by rw [schemeB, no (by simp [smallN, schN]; omega)]; simp)
  ·-- 122 < c
   have lt97i : ¬ (c : Int) < 97 := by omega
   have g122i : (122 : Int) < c := by omega
   have i0 : (i : Int) = 0 := by omega
   have i0' := q.1
   repeat apply wq
   refine wps_region callOK ?_
   simp [zS, lt97i, g122i, i0, i0']
   repeat apply wq
   refine wps_ct rfl ?_
   repeat apply wq
   refine wps_region callOK ?_
   simp [zS]
   repeat apply wq
   refine wps_ret ?_
   simp [retVal, Tryz.f64, oneOr, thenQ, blockQ]
   exact ends_pure rfl (by rw [schemeB, no (by simp [smallN, schN]; omega)]; simp)
  ·-- c = 43
   have lt97i : (c : Int) < 97 := by omega
   have g122i : ¬ (122 : Int) < c := by omega
   have e43i : (c : Int) = 43 := by omega
   have e45i : ¬ (c : Int) = 45 := by omega
   have e46i : ¬ (c : Int) = 46 := by omega
   have lt48i : (c : Int) < 48 := by omega
   have g57i : ¬ (57 : Int) < c := by omega
   have i0 : ¬ (i : Int) = 0 := by omega
   have i0' := q.1
   repeat apply wq
   refine wps_region callOK ?_
   simp [zS, lt97i, g122i, e43i, e45i, e46i, lt48i, g57i, i0, i0']
   repeat apply wq
   refine wps_cf rfl ?_
   repeat apply wq
   refine wps_skip ?_
   simp
   repeat apply wq
   refine wps_region callOK ?_
   simp [zS, add_one (show i ≤ 1000000000 by omega)]
   exact hB' _ (i + 1) (by omega) ⟨by omega, next (by simp [smallN, schN]; omega)⟩ ⟨[], [], ⟨rfl, rfl, rfl, by simp [fitL, fitV, pureV, pureL], FitH.nothing⟩⟩
  ·-- c = 45
   have lt97i : (c : Int) < 97 := by omega
   have g122i : ¬ (122 : Int) < c := by omega
   have e43i : ¬ (c : Int) = 43 := by omega
   have e45i : (c : Int) = 45 := by omega
   have e46i : ¬ (c : Int) = 46 := by omega
   have lt48i : (c : Int) < 48 := by omega
   have g57i : ¬ (57 : Int) < c := by omega
   have i0 : ¬ (i : Int) = 0 := by omega
   have i0' := q.1
   repeat apply wq
   refine wps_region callOK ?_
   simp [zS, lt97i, g122i, e43i, e45i, e46i, lt48i, g57i, i0, i0']
   repeat apply wq
   refine wps_cf rfl ?_
   repeat apply wq
   refine wps_skip ?_
   simp
   repeat apply wq
   refine wps_region callOK ?_
   simp [zS, add_one (show i ≤ 1000000000 by omega)]
   exact hB' _ (i + 1) (by omega) ⟨by omega, next (by simp [smallN, schN]; omega)⟩ ⟨[], [], ⟨rfl, rfl, rfl, by simp [fitL, fitV, pureV, pureL], FitH.nothing⟩⟩
  ·-- c = 46
   have lt97i : (c : Int) < 97 := by omega
   have g122i : ¬ (122 : Int) < c := by omega
   have e43i : ¬ (c : Int) = 43 := by omega
   have e45i : ¬ (c : Int) = 45 := by omega
   have e46i : (c : Int) = 46 := by omega
   have lt48i : (c : Int) < 48 := by omega
   have g57i : ¬ (57 : Int) < c := by omega
   have i0 : ¬ (i : Int) = 0 := by omega
   have i0' := q.1
   repeat apply wq
   refine wps_region callOK ?_
   simp [zS, lt97i, g122i, e43i, e45i, e46i, lt48i, g57i, i0, i0']
   repeat apply wq
   refine wps_cf rfl ?_
   repeat apply wq
   refine wps_skip ?_
   simp
   repeat apply wq
   refine wps_region callOK ?_
   simp [zS, add_one (show i ≤ 1000000000 by omega)]
   exact hB' _ (i + 1) (by omega) ⟨by omega, next (by simp [smallN, schN]; omega)⟩ ⟨[], [], ⟨rfl, rfl, rfl, by simp [fitL, fitV, pureV, pureL], FitH.nothing⟩⟩
  ·-- 48 ≤ c ∧ c ≤ 57
   have lt97i : (c : Int) < 97 := by omega
   have g122i : ¬ (122 : Int) < c := by omega
   have e43i : ¬ (c : Int) = 43 := by omega
   have e45i : ¬ (c : Int) = 45 := by omega
   have e46i : ¬ (c : Int) = 46 := by omega
   have lt48i : ¬ (c : Int) < 48 := by omega
   have g57i : ¬ (57 : Int) < c := by omega
   have i0 : ¬ (i : Int) = 0 := by omega
   have i0' := q.1
   repeat apply wq
   refine wps_region callOK ?_
   simp [zS, lt97i, g122i, e43i, e45i, e46i, lt48i, g57i, i0, i0']
   repeat apply wq
   refine wps_cf rfl ?_
   repeat apply wq
   refine wps_skip ?_
   simp
   repeat apply wq
   refine wps_region callOK ?_
   simp [zS, add_one (show i ≤ 1000000000 by omega)]
   exact hB' _ (i + 1) (by omega) ⟨by omega, next (by simp [smallN, schN]; omega)⟩ ⟨[], [], ⟨rfl, rfl, rfl, by simp [fitL, fitV, pureV, pureL], FitH.nothing⟩⟩
  ·-- c < 48 ∧ c ≠ 43 ∧ c ≠ 45 ∧ c ≠ 46
   have lt97i : (c : Int) < 97 := by omega
   have g122i : ¬ (122 : Int) < c := by omega
   have e43i : ¬ (c : Int) = 43 := by omega
   have e45i : ¬ (c : Int) = 45 := by omega
   have e46i : ¬ (c : Int) = 46 := by omega
   have lt48i : (c : Int) < 48 := by omega
   have g57i : ¬ (57 : Int) < c := by omega
   have i0 : ¬ (i : Int) = 0 := by omega
   have i0' := q.1
   repeat apply wq
   refine wps_region callOK ?_
   simp [zS, lt97i, g122i, e43i, e45i, e46i, lt48i, g57i, i0, i0']
   repeat apply wq
   refine wps_ct rfl ?_
   repeat apply wq
   refine wps_region callOK ?_
   simp [zS]
   repeat apply wq
   refine wps_ret ?_
   simp [retVal, Tryz.f64, oneOr, thenQ, blockQ]
   exact ends_pure rfl (by rw [schemeB, no (by simp [smallN, schN]; omega)]; simp)
  ·-- 58 ≤ c ∧ c ≤ 96
   have lt97i : (c : Int) < 97 := by omega
   have g122i : ¬ (122 : Int) < c := by omega
   have e43i : ¬ (c : Int) = 43 := by omega
   have e45i : ¬ (c : Int) = 45 := by omega
   have e46i : ¬ (c : Int) = 46 := by omega
   have lt48i : ¬ (c : Int) < 48 := by omega
   have g57i : (57 : Int) < c := by omega
   have i0 : ¬ (i : Int) = 0 := by omega
   have i0' := q.1
   repeat apply wq
   refine wps_region callOK ?_
   simp [zS, lt97i, g122i, e43i, e45i, e46i, lt48i, g57i, i0, i0']
   repeat apply wq
   refine wps_ct rfl ?_
   repeat apply wq
   refine wps_region callOK ?_
   simp [zS]
   repeat apply wq
   refine wps_ret ?_
   simp [retVal, Tryz.f64, oneOr, thenQ, blockQ]
   exact ends_pure rfl (by rw [schemeB, no (by simp [smallN, schN]; omega)]; simp)
  ·-- 122 < c
   have lt97i : ¬ (c : Int) < 97 := by omega
   have g122i : (122 : Int) < c := by omega
   have e43i : ¬ (c : Int) = 43 := by omega
   have e45i : ¬ (c : Int) = 45 := by omega
   have e46i : ¬ (c : Int) = 46 := by omega
   have lt48i : ¬ (c : Int) < 48 := by omega
   have g57i : (57 : Int) < c := by omega
   have i0 : ¬ (i : Int) = 0 := by omega
   have i0' := q.1
   repeat apply wq
   refine wps_region callOK ?_
   simp [zS, lt97i, g122i, e43i, e45i, e46i, lt48i, g57i, i0, i0']
   repeat apply wq
   refine wps_ct rfl ?_
   repeat apply wq
   refine wps_region callOK ?_
   simp [zS]
   repeat apply wq
   refine wps_ret ?_
   simp [retVal, Tryz.f64, oneOr, thenQ, blockQ]
   exact ends_pure rfl (by rw [schemeB, no (by simp [smallN, schN]; omega)]; simp)
 ·simp at h
  have : s.length - i = 0 := by omega
  rw [this] at ha
  simp only [schGo] at ha
  repeat apply wq
  refine wps_exit ?_
  simp
  repeat apply wq
  refine wps_region callOK ?_
  simp [zS]
  repeat apply wq
  refine wps_ret ?_
  simp [retVal, Tryz.f64, oneOr, thenQ, blockQ]
  exact ends_pure rfl (by simp [schemeB, ← ha])
noncomputable def e64 : Entry Tryz.prog := mkE 64 [[]] (fun x : Str => [.str x]) (fun x => x.length ≤ 1000000) (fun x => .bool (schemeB x)) fun x h => c64 (T := []) x h
theorem k64 {T : List (Entry Tryz.prog)} (hT : findE 64 T = some e64.g) {s : Str} (h1 : s.length ≤ 1000000) (H : Heap) : callL (ctx T) (.fn 64) [.str s] H = some (.bool (schemeB s), H) :=
 mkE_scalar hT inj_str s h1 rfl (by simp)
theorem c61 {T : List (Entry Tryz.prog)} (key : Str) : CallAt (ctx T) 61 [.str key] ⟨0, []⟩ (splitA (splitV key)) ⟨0, []⟩ := by
 have beg : ∀ t : Str, begB key t = (decide (t.length ≤ key.length) && decide (key.take t.length = t)) := fun t => rfl
 by_cases h1 : 4 ≤ key.length
 ·have h1' : (4 : Int) ≤ (key.length : Int) := by omega
  have s4 := fun H => slStrTo (H := H) (s := key) (j := 4) h1
  have d4 := fun H => slStr (H := H) (s := key) (i := 4) h1
  simp only [Int.cast_ofNat_Int] at s4 d4
  by_cases e1 : key.take 4 = pSvg
  ·have hb : begB key pSvg = true := by rw [beg]; simp [e1, h1]
   refine callAt_body (fn := Tryz.f61) (s0 := ⟨[0, 2, 3], [.str key, .undef, .undef], [], 25, ⟨0, [[]]⟩⟩) Tryz.func61 rfl rfl rfl ?_
   repeat apply wq
   refine wps_region callOK ?_
   simp [zS]
   repeat apply wq
   refine wps_region callOK ?_
   simp [zS, h1, h1', s4, e1]
   repeat apply wq
   refine wps_ct rfl ?_
   repeat apply wq
   refine wps_drawK mixed callOK (by decide +kernel) (by decide +kernel) ?_
   simp [zS, evalK_c, evalK_nil, thenK_some, d4]
   repeat apply wq
   refine wps_ret ?_
   simp [retVal, Tryz.f61, oneOr, thenQ, blockQ]
   exact ends_pure rfl (by simp [splitV, hb, splitA])
  ·have hb : begB key pSvg = false := by rw [beg]; simp [e1]
   by_cases h2 : 5 ≤ key.length
   ·have h2' : (5 : Int) ≤ (key.length : Int) := by omega
    have s5 := fun H => slStrTo (H := H) (s := key) (j := 5) h2
    have d5 := fun H => slStr (H := H) (s := key) (i := 5) h2
    simp only [Int.cast_ofNat_Int] at s5 d5
    by_cases e2 : key.take 5 = pMath
    ·have hb2 : begB key pMath = true := by rw [beg]; simp [e2, h2]
     refine callAt_body (fn := Tryz.f61) (s0 := ⟨[0, 2, 3], [.str key, .undef, .undef], [], 25, ⟨0, [[]]⟩⟩) Tryz.func61 rfl rfl rfl ?_
     repeat apply wq
     refine wps_region callOK ?_
     simp [zS]
     repeat apply wq
     refine wps_region callOK ?_
     simp [zS, h1, h1', s4, e1]
     repeat apply wq
     refine wps_cf rfl ?_
     repeat apply wq
     refine wps_skip ?_
     simp
     repeat apply wq
     refine wps_region callOK ?_
     simp [zS, h2, h2', s5, e2]
     repeat apply wq
     refine wps_ct rfl ?_
     repeat apply wq
     refine wps_drawK mixed callOK (by decide +kernel) (by decide +kernel) ?_
     simp [zS, evalK_c, evalK_nil, thenK_some, d5]
     repeat apply wq
     refine wps_ret ?_
     simp [retVal, Tryz.f61, oneOr, thenQ, blockQ]
     exact ends_pure rfl (by simp [splitV, hb, hb2, splitA])
    ·have hb2 : begB key pMath = false := by rw [beg]; simp [e2]
     refine callAt_body (fn := Tryz.f61) (s0 := ⟨[0, 2, 3], [.str key, .undef, .undef], [], 25, ⟨0, [[]]⟩⟩) Tryz.func61 rfl rfl rfl ?_
     repeat apply wq
     refine wps_region callOK ?_
     simp [zS]
     repeat apply wq
     refine wps_region callOK ?_
     simp [zS, h1, h1', s4, e1]
     repeat apply wq
     refine wps_cf rfl ?_
     repeat apply wq
     refine wps_skip ?_
     simp
     repeat apply wq
     refine wps_region callOK ?_
     simp [zS, h2, h2', s5, e2]
     repeat apply wq
     refine wps_cf rfl ?_
     repeat apply wq
     refine wps_skip ?_
     simp
     repeat apply wq
     refine wps_region callOK ?_
     simp [zS]
     repeat apply wq
     refine wps_ret ?_
     simp [retVal, Tryz.f61, oneOr, thenQ, blockQ]
     exact ends_pure rfl (by simp [splitV, hb, hb2, splitA])
   ·have h2' : ¬ (5 : Int) ≤ (key.length : Int) := by omega
    have hb2 : begB key pMath = false := by rw [beg]; simp [h2]
    refine callAt_body (fn := Tryz.f61) (s0 := ⟨[0, 2, 3], [.str key, .undef, .undef], [], 25, ⟨0, [[]]⟩⟩) Tryz.func61 rfl rfl rfl ?_
    repeat apply wq
    refine wps_region callOK ?_
    simp [zS]
    repeat apply wq
    refine wps_region callOK ?_
    simp [zS, h1, h1', s4, e1]
    repeat apply wq
    refine wps_cf rfl ?_
    repeat apply wq
    refine wps_skip ?_
    simp
    repeat apply wq
    refine wps_region callOK ?_
    simp [zS, h2, h2']
    repeat apply wq
    refine wps_cf rfl ?_
    repeat apply wq
    refine wps_skip ?_
    simp
    repeat apply wq
    refine wps_region callOK ?_
    simp [zS]
    repeat apply wq
    refine wps_ret ?_
    simp [retVal, Tryz.f61, oneOr, thenQ, blockQ]
    exact ends_pure rfl (by simp [splitV, hb, hb2, splitA])
 ·have h1' : ¬ (4 : Int) ≤ (key.length : Int) := by omega
  have h2 : ¬ 5 ≤ key.length := by omega
  have h2' : ¬ (5 : Int) ≤ (key.length : Int) := by omega
  have hb : begB key pSvg = false := by rw [beg]; simp [h1]
  have hb2 : begB key pMath = false := by rw [beg]; simp [h2]
  refine callAt_body (fn := Tryz.f61) (s0 := ⟨[0, 2, 3], [.str key, .undef, .undef], [], 25, ⟨0, [[]]⟩⟩) Tryz.func61 rfl rfl rfl ?_
  repeat apply wq
  refine wps_region callOK ?_
  simp [zS]
  repeat apply wq
  refine wps_region callOK ?_
  simp [zS, h1, h1']
  repeat apply wq
  refine wps_cf rfl ?_
  repeat apply wq
  refine wps_skip ?_
  simp
  repeat apply wq
  refine wps_region callOK ?_
  simp [zS, h2, h2']
  repeat apply wq
  refine wps_cf rfl ?_
  repeat apply wq
  refine wps_skip ?_
  simp
  repeat apply wq
  refine wps_region callOK ?_
  simp [zS]
  repeat apply wq
  refine wps_ret ?_
  simp [retVal, Tryz.f61, oneOr, thenQ, blockQ]
  exact ends_pure rfl (by simp [splitV, hb, hb2, splitA])
noncomputable def e61 : Entry Tryz.prog := mkE 61 [[]] (fun x : Str => [.str x]) (fun _ => True) (fun x => splitA (splitV x)) fun x _ => c61 (T := []) x
theorem k61 {T : List (Entry Tryz.prog)} (hT : findE 61 T = some e61.g) (s : Str) (H : Heap) : callL (ctx T) (.fn 61) [.str s] H = some (splitA (splitV s), H) :=
 mkE_scalar hT inj_str s trivial rfl (by simp)
theorem c87 {T : List (Entry Tryz.prog)} : CallAt (ctx T) 87 [] ⟨0, []⟩ (.str lkAttr) ⟨0, []⟩ := by
 refine callAt_body (fn := Tryz.f87) (s0 := ⟨[0], [.undef], [], 1, ⟨0, [[]]⟩⟩) Tryz.func87 rfl rfl rfl ?_
 (repeat (first
  | (refine wps_seq ?_)
  | (refine wps_block ?_)
  | (refine wps_label ?_; simp only [thenQ, blockQ])
  | ((refine wps_region callOK ?_); simp [zS])
  | (refine wps_ct rfl ?_)
  | (refine wps_cf rfl ?_)
  | ((refine wps_skip ?_); simp only [thenQ, blockQ])
  | ((refine wps_exit ?_); simp [thenQ, blockQ])))
 repeat apply wq
 refine wps_ret ?_
 simp [retVal, Tryz.f87, oneOr, thenQ, blockQ]
 exact ends_pure rfl (by rfl)
noncomputable def e87 : Entry Tryz.prog := mkE 87 [] (fun _ : Unit => []) (fun _ => True) (fun _ => .str lkAttr) fun _ _ => c87 (T := [])
theorem k87 {T : List (Entry Tryz.prog)} (hT : findE 87 T = some e87.g) (H : Heap) : callL (ctx T) (.fn 87) [] H = some (.str lkAttr, H) :=
 mkE_pure hT (fun _ _ _ => rfl) () trivial rfl rfl H
theorem c63 {T : List (Entry Tryz.prog)} (hA : findE 87 T = some e87.g) (hI : findE 86 T = some e86.g) (x : Str) : CallAt (ctx T) 63 [.str x] ⟨0, []⟩ (.bool (inW lkAttr x)) ⟨0, []⟩ := by
 have ka := fun H => k87 hA H
 have ki := fun H => k86 hI (w := lkAttr) x (by decide) H
 generalize inW lkAttr x = v at *
 generalize lkAttr = A at *
 refine callAt_body (fn := Tryz.f63) (s0 := ⟨[0, 2], [.str x, .undef], [], 6, ⟨0, [[]]⟩⟩) Tryz.func63 rfl rfl rfl ?_
 (repeat (first
  | (refine wps_seq ?_)
  | (refine wps_block ?_)
  | (refine wps_label ?_; simp only [thenQ, blockQ])
  | ((refine wps_region callOK ?_); simp [zS, ka, ki])
  | (refine wps_ct rfl ?_)
  | (refine wps_cf rfl ?_)
  | ((refine wps_skip ?_); simp only [thenQ, blockQ])
  | ((refine wps_exit ?_); simp [thenQ, blockQ])))
 repeat apply wq
 refine wps_ret ?_
 simp [retVal, Tryz.f63, oneOr, thenQ, blockQ]
 exact ends_pure rfl (by rfl)
noncomputable def e63 : Entry Tryz.prog := mkE 63 [[]] (fun x : Str => [.str x]) (fun _ => True) (fun x => .bool (inW lkAttr x)) fun x _ => c63 (T := [e87, e86]) rfl rfl x
theorem k63 {T : List (Entry Tryz.prog)} (hT : findE 63 T = some e63.g) (s : Str) (H : Heap) : callL (ctx T) (.fn 63) [.str s] H = some (.bool (inW lkAttr s), H) :=
 mkE_scalar hT inj_str s trivial rfl (by simp)
theorem c36 {T : List (Entry Tryz.prog)} (hR : findE 60 T = some e60.g) (hS : findE 61 T = some e61.g) (hK : findE 62 T = some e62.g) (hA : findE 63 T = some e63.g) (hC : findE 64 T = some e64.g) (p : PolR) (ok : PolOk p) :
  CallAt (ctx T) 36 [polA p] ⟨0, []⟩ (.bool (listsB p)) ⟨0, []⟩ := by
 obtain ⟨f1, f2, f3, f4⟩ := ok.few
 obtain ⟨g1, g2, g3, g4⟩ := ok.short
 have kr := fun (s : Str) (hs : s.length ≤ 900000) H => k60 hR p hs H
 have e2 : listsB p = (allB (reservedB p.pre) p.res && (allB knownK p.els && (allB (inW lkAttr) p.ats && allB schemeB p.sch))) := rfl
 rw [e2]
 clear e2
 unfold allB
 have o1 : getL (polC p) 1 = some (aStrs p.res) := rfl
 have o2 : getL (polC p) 2 = some (aStrs p.els) := rfl
 have o3 : getL (polC p) 3 = some (aStrs p.ats) := rfl
 have o4 : getL (polC p) 4 = some (aStrs p.sch) := rfl
 have hsub : subL 0 11 (polC p) = some (polC p) := rfl
 have hsg : allSingle (polC p) = true := by simp [polC, allSingle, AV.single]
 have hpC := pol_pureC p
 simp only [polA] at kr ⊢
 generalize polC p = C at *
 have rd : ∀ n, readVar Tryz.prog ⟨n, [[(0, .cells C)]]⟩ 24 (.ptr 0 0) = some (.agg C) := fun n => by simp [readCells, Heap.get, getFs, getF, hsub]
 have kp : ∀ n, FitH 0 [(0, 0)] [] ⟨n, [[(0, .cells C)]]⟩ ⟨1, [[(0, .cells C)]]⟩ := fun n => .keep1 (by simp [Heap.get, getFs, getF]) hpC rfl
 refine callAt_body (fn := Tryz.f36) (s0 := ⟨[0, 1, 2, 3, 4, 5, 6, 7, 8], [.agg C, .undef, .undef, .undef, .undef, .undef, .undef, .undef, .undef], [], 94, ⟨0, [[]]⟩⟩) Tryz.func36 rfl rfl rfl ?_
 repeat apply wq
 refine wps_region callOK ?_
 simp [zS, hsg]
 by_cases c1 : (200 : Int) < (p.res.length : Int)
 ·repeat apply wq
  refine wps_region callOK ?_
  simp [zS, o1, o2, o3, o4, lenS, c1]
  repeat apply wq
  refine wps_ct rfl ?_
  repeat apply wq
  refine wps_region callOK ?_
  simp [zS]
  repeat apply wq
  refine wps_ret ?_
  simp [retVal, Tryz.f36, oneOr, thenQ, blockQ]
  exact ends_pure rfl (by first | (rw [decide_eq_false (show ¬ p.res.length ≤ 200 by omega)]; simp) | (rw [decide_eq_false (show ¬ p.els.length ≤ 200 by omega)]; simp) | (rw [decide_eq_false (show ¬ p.ats.length ≤ 200 by omega)]; simp) | (rw [decide_eq_false (show ¬ p.sch.length ≤ 200 by omega)]; simp))
 ·by_cases c2 : (200 : Int) < (p.els.length : Int)
  ·repeat apply wq
   refine wps_region callOK ?_
   simp [zS, o1, o2, o3, o4, lenS, c1, c2]
   repeat apply wq
   refine wps_ct rfl ?_
   repeat apply wq
   refine wps_region callOK ?_
   simp [zS]
   repeat apply wq
   refine wps_ret ?_
   simp [retVal, Tryz.f36, oneOr, thenQ, blockQ]
   exact ends_pure rfl (by first | (rw [decide_eq_false (show ¬ p.res.length ≤ 200 by omega)]; simp) | (rw [decide_eq_false (show ¬ p.els.length ≤ 200 by omega)]; simp) | (rw [decide_eq_false (show ¬ p.ats.length ≤ 200 by omega)]; simp) | (rw [decide_eq_false (show ¬ p.sch.length ≤ 200 by omega)]; simp))
  ·by_cases c3 : (200 : Int) < (p.ats.length : Int)
   ·repeat apply wq
    refine wps_region callOK ?_
    simp [zS, o1, o2, o3, o4, lenS, c1, c2, c3]
    repeat apply wq
    refine wps_ct rfl ?_
    repeat apply wq
    refine wps_region callOK ?_
    simp [zS]
    repeat apply wq
    refine wps_ret ?_
    simp [retVal, Tryz.f36, oneOr, thenQ, blockQ]
    exact ends_pure rfl (by first | (rw [decide_eq_false (show ¬ p.res.length ≤ 200 by omega)]; simp) | (rw [decide_eq_false (show ¬ p.els.length ≤ 200 by omega)]; simp) | (rw [decide_eq_false (show ¬ p.ats.length ≤ 200 by omega)]; simp) | (rw [decide_eq_false (show ¬ p.sch.length ≤ 200 by omega)]; simp))
   ·by_cases c4 : (200 : Int) < (p.sch.length : Int)
    ·repeat apply wq
     refine wps_region callOK ?_
     simp [zS, o1, o2, o3, o4, lenS, c1, c2, c3, c4]
     repeat apply wq
     refine wps_ct rfl ?_
     repeat apply wq
     refine wps_region callOK ?_
     simp [zS]
     repeat apply wq
     refine wps_ret ?_
     simp [retVal, Tryz.f36, oneOr, thenQ, blockQ]
     exact ends_pure rfl (by first | (rw [decide_eq_false (show ¬ p.res.length ≤ 200 by omega)]; simp) | (rw [decide_eq_false (show ¬ p.els.length ≤ 200 by omega)]; simp) | (rw [decide_eq_false (show ¬ p.ats.length ≤ 200 by omega)]; simp) | (rw [decide_eq_false (show ¬ p.sch.length ≤ 200 by omega)]; simp))
    ·repeat apply wq
     refine wps_region callOK ?_
     simp [zS, o1, o2, o3, o4, lenS, c1, c2, c3, c4]
     repeat apply wq
     refine wps_cf rfl ?_
     repeat apply wq
     refine wps_skip ?_
     simp
     have d1 : decide (p.res.length ≤ 200) = true := by simp; omega
     have d2 : decide (p.els.length ≤ 200) = true := by simp; omega
     have d3 : decide (p.ats.length ≤ 200) = true := by simp; omega
     have d4 : decide (p.sch.length ≤ 200) = true := by simp; omega
     rw [d1, d2, d3, d4]
     simp only [Bool.true_and]
     repeat apply wq
     refine wps_region callOK ?_
     simp [zS]
     repeat apply wq
     refine wps_block (wps_loop' (fun i : Nat => (⟨[0, 1, 2, 3, 4, 5, 6, 7, 8], [.agg C, .ptr 0 0, .bool false, .int .i64 i, .undef, .undef, .undef, .undef, .undef], [], 94, ⟨1, [[(0, .cells C)]]⟩⟩ : St))
      (fun i => i ≤ p.res.length ∧ (p.res.drop i).all (reservedB p.pre) = p.res.all (reservedB p.pre)) (fun i => p.res.length - i) [(0, 0)] [] 0 ⟨Nat.zero_le _, rfl⟩ ⟨rfl, rfl, rfl, by simp [fitL, fitV, lookN, pureV, hpC], kp _⟩ ?_)
     rintro i ⟨hi, ha⟩ B hB
     repeat apply wq
     refine wps_region callOK ?_
     simp [zS, o1, lenS]
     repeat apply wq
     refine wps_cond rfl (fun h => ?_) fun h => ?_
     ·simp at h
      rw [all_at h] at ha
      repeat apply wq
      refine wps_skip ?_
      simp
      repeat apply wq
      refine wps_block ?_
      have hm := List.getElem_mem h
      have hat := atS h
      have kc := fun H => kr p.res[i] (by have := g1 _ hm; omega) H
      rcases Bool.eq_false_or_eq_true ((reservedB p.pre) p.res[i]) with hb | hb
      ·rw [hb] at ha
       repeat apply wq
       refine wps_drawK mixed callOK (by decide +kernel) (by decide +kernel) ?_
       simp [zS, evalK_c, evalK_nil, thenK_some, o1, hat, rd, kc, hb]
       repeat apply wq
       refine wps_cf rfl ?_
       repeat apply wq
       refine wps_skip ?_
       simp
       repeat apply wq
       refine wps_region callOK ?_
       simp [zS, add_one (show i ≤ 1000000000 by omega)]
       exact hB _ (i + 1) (by omega) ⟨by omega, by rw [← ha, Bool.true_and]⟩ ⟨[(0, 0)], [], rfl, rfl, rfl, by simp [fitL, fitV, lookN, pureV, hpC], kp _⟩
      ·rw [hb] at ha
       repeat apply wq
       refine wps_drawK mixed callOK (by decide +kernel) (by decide +kernel) ?_
       simp [zS, evalK_c, evalK_nil, thenK_some, o1, hat, rd, kc, hb]
       repeat apply wq
       refine wps_ct rfl ?_
       repeat apply wq
       refine wps_region callOK ?_
       simp [zS]
       repeat apply wq
       refine wps_ret ?_
       simp [retVal, Tryz.f36, oneOr, thenQ, blockQ]
       exact ends_pure rfl (by rw [← ha]; simp)
     ·simp at h
      rw [List.drop_eq_nil_of_le h] at ha
      have a1 : p.res.all (reservedB p.pre) = true := by rw [← ha]; rfl
      clear ha hB
      repeat apply wq
      refine wps_exit ?_
      simp
      repeat apply wq
      refine wps_region callOK ?_
      simp [zS]
      repeat apply wq
      refine wps_block (wps_loop' (fun i : Nat => (⟨[0, 1, 2, 3, 4, 5, 6, 7, 8], [.agg C, .ptr 0 0, .bool false, .undef, .int .i64 i, .undef, .undef, .undef, .undef], [], 94, ⟨1, [[(0, .cells C)]]⟩⟩ : St))
       (fun i => i ≤ p.els.length ∧ (p.els.drop i).all (knownK) = p.els.all (knownK)) (fun i => p.els.length - i) [(0, 0)] [] 0 ⟨Nat.zero_le _, rfl⟩ ⟨rfl, rfl, rfl, by simp [fitL, fitV, lookN, pureV, hpC], kp _⟩ ?_)
      rintro i ⟨hi, ha⟩ B hB
      repeat apply wq
      refine wps_region callOK ?_
      simp [zS, o2, lenS]
      repeat apply wq
      refine wps_cond rfl (fun h => ?_) fun h => ?_
      ·simp at h
       rw [all_at h] at ha
       repeat apply wq
       refine wps_skip ?_
       simp
       repeat apply wq
       refine wps_block ?_
       have hm := List.getElem_mem h
       have hat := atS h
       have ks := fun H => k61 hS p.els[i] H
       have kk := fun H => k62 hK (splitV p.els[i]).1 (splitV p.els[i]).2 H
       have hkd : knownK p.els[i] = knownB (splitV p.els[i]).1 (splitV p.els[i]).2 := rfl
       simp only [splitA] at ks
       rcases Bool.eq_false_or_eq_true ((knownK) p.els[i]) with hb | hb
       ·rw [hb] at ha
        rw [hkd] at hb
        repeat apply wq
        refine wps_region callOK ?_
        simp [zS, o2, hat, ks]
        repeat apply wq
        refine wps_region callOK ?_
        simp [zS, kk, hb]
        repeat apply wq
        refine wps_cf rfl ?_
        repeat apply wq
        refine wps_skip ?_
        simp
        repeat apply wq
        refine wps_region callOK ?_
        simp [zS, add_one (show i ≤ 1000000000 by omega)]
        exact hB _ (i + 1) (by omega) ⟨by omega, by rw [← ha, Bool.true_and]⟩ ⟨[(0, 0)], [], rfl, rfl, rfl, by simp [fitL, fitV, lookN, pureV, hpC], kp _⟩
       ·rw [hb] at ha
        rw [hkd] at hb
        repeat apply wq
        refine wps_region callOK ?_
        simp [zS, o2, hat, ks]
        repeat apply wq
        refine wps_region callOK ?_
        simp [zS, kk, hb]
        repeat apply wq
        refine wps_ct rfl ?_
        repeat apply wq
        refine wps_region callOK ?_
        simp [zS]
        repeat apply wq
        refine wps_ret ?_
        simp [retVal, Tryz.f36, oneOr, thenQ, blockQ]
        exact ends_pure rfl (by rw [← ha, a1]; simp)
      ·simp at h
       rw [List.drop_eq_nil_of_le h] at ha
       have a2 : p.els.all (knownK) = true := by rw [← ha]; rfl
       clear ha hB
       repeat apply wq
       refine wps_exit ?_
       simp
       repeat apply wq
       refine wps_region callOK ?_
       simp [zS]
       repeat apply wq
       refine wps_block (wps_loop' (fun i : Nat => (⟨[0, 1, 2, 3, 4, 5, 6, 7, 8], [.agg C, .ptr 0 0, .bool false, .undef, .undef, .undef, .undef, .int .i64 i, .undef], [], 94, ⟨1, [[(0, .cells C)]]⟩⟩ : St))
        (fun i => i ≤ p.ats.length ∧ (p.ats.drop i).all (inW lkAttr) = p.ats.all (inW lkAttr)) (fun i => p.ats.length - i) [(0, 0)] [] 0 ⟨Nat.zero_le _, rfl⟩ ⟨rfl, rfl, rfl, by simp [fitL, fitV, lookN, pureV, hpC], kp _⟩ ?_)
       rintro i ⟨hi, ha⟩ B hB
       repeat apply wq
       refine wps_region callOK ?_
       simp [zS, o3, lenS]
       repeat apply wq
       refine wps_cond rfl (fun h => ?_) fun h => ?_
       ·simp at h
        rw [all_at h] at ha
        repeat apply wq
        refine wps_skip ?_
        simp
        repeat apply wq
        refine wps_block ?_
        have hm := List.getElem_mem h
        have hat := atS h
        have kc := fun H => k63 hA p.ats[i] H
        rcases Bool.eq_false_or_eq_true ((inW lkAttr) p.ats[i]) with hb | hb
        ·rw [hb] at ha
         repeat apply wq
         refine wps_region callOK ?_
         simp [zS, o3, hat, kc, hb]
         repeat apply wq
         refine wps_cf rfl ?_
         repeat apply wq
         refine wps_skip ?_
         simp
         repeat apply wq
         refine wps_region callOK ?_
         simp [zS, add_one (show i ≤ 1000000000 by omega)]
         exact hB _ (i + 1) (by omega) ⟨by omega, by rw [← ha, Bool.true_and]⟩ ⟨[(0, 0)], [], rfl, rfl, rfl, by simp [fitL, fitV, lookN, pureV, hpC], kp _⟩
        ·rw [hb] at ha
         repeat apply wq
         refine wps_region callOK ?_
         simp [zS, o3, hat, kc, hb]
         repeat apply wq
         refine wps_ct rfl ?_
         repeat apply wq
         refine wps_region callOK ?_
         simp [zS]
         repeat apply wq
         refine wps_ret ?_
         simp [retVal, Tryz.f36, oneOr, thenQ, blockQ]
         exact ends_pure rfl (by rw [← ha, a1, a2]; simp)
       ·simp at h
        rw [List.drop_eq_nil_of_le h] at ha
        have a3 : p.ats.all (inW lkAttr) = true := by rw [← ha]; rfl
        clear ha hB
        repeat apply wq
        refine wps_exit ?_
        simp
        repeat apply wq
        refine wps_region callOK ?_
        simp [zS]
        repeat apply wq
        refine wps_block (wps_loop' (fun i : Nat => (⟨[0, 1, 2, 3, 4, 5, 6, 7, 8], [.agg C, .ptr 0 0, .bool false, .undef, .undef, .undef, .undef, .undef, .int .i64 i], [], 94, ⟨1, [[(0, .cells C)]]⟩⟩ : St))
         (fun i => i ≤ p.sch.length ∧ (p.sch.drop i).all (schemeB) = p.sch.all (schemeB)) (fun i => p.sch.length - i) [(0, 0)] [] 0 ⟨Nat.zero_le _, rfl⟩ ⟨rfl, rfl, rfl, by simp [fitL, fitV, lookN, pureV, hpC], kp _⟩ ?_)
        rintro i ⟨hi, ha⟩ B hB
        repeat apply wq
        refine wps_region callOK ?_
        simp [zS, o4, lenS]
        repeat apply wq
        refine wps_cond rfl (fun h => ?_) fun h => ?_
        ·simp at h
         rw [all_at h] at ha
         repeat apply wq
         refine wps_skip ?_
         simp
         repeat apply wq
         refine wps_block ?_
         have hm := List.getElem_mem h
         have hat := atS h
         have kc := fun H => k64 hC (s := p.sch[i]) (by have := g4 _ hm; omega) H
         rcases Bool.eq_false_or_eq_true ((schemeB) p.sch[i]) with hb | hb
         ·rw [hb] at ha
          repeat apply wq
          refine wps_region callOK ?_
          simp [zS, o4, hat, kc, hb]
          repeat apply wq
          refine wps_cf rfl ?_
          repeat apply wq
          refine wps_skip ?_
          simp
          repeat apply wq
          refine wps_region callOK ?_
          simp [zS, add_one (show i ≤ 1000000000 by omega)]
          exact hB _ (i + 1) (by omega) ⟨by omega, by rw [← ha, Bool.true_and]⟩ ⟨[(0, 0)], [], rfl, rfl, rfl, by simp [fitL, fitV, lookN, pureV, hpC], kp _⟩
         ·rw [hb] at ha
          repeat apply wq
          refine wps_region callOK ?_
          simp [zS, o4, hat, kc, hb]
          repeat apply wq
          refine wps_ct rfl ?_
          repeat apply wq
          refine wps_region callOK ?_
          simp [zS]
          repeat apply wq
          refine wps_ret ?_
          simp [retVal, Tryz.f36, oneOr, thenQ, blockQ]
          exact ends_pure rfl (by rw [← ha, a1, a2, a3]; simp)
        ·simp at h
         rw [List.drop_eq_nil_of_le h] at ha
         have a4 : p.sch.all (schemeB) = true := by rw [← ha]; rfl
         clear ha hB
         repeat apply wq
         refine wps_exit ?_
         simp
         repeat apply wq
         refine wps_region callOK ?_
         simp [zS]
         repeat apply wq
         refine wps_ret ?_
         simp [retVal, Tryz.f36, oneOr, thenQ, blockQ]
         exact ends_pure rfl (by simp [a1, a2, a3, a4])
noncomputable def e36 : Entry Tryz.prog := mkE 36 [[]] (fun x : PolR => [polA x]) (fun x => PolOk x) (fun x => .bool (listsB x)) fun x h => c36 (T := [e60, e61, e62, e63, e64]) rfl rfl rfl rfl rfl x h
theorem k36 {T : List (Entry Tryz.prog)} (hT : findE 36 T = some e36.g) {p : PolR} (ok : PolOk p) (H : Heap) : callL (ctx T) (.fn 36) [polA p] H = some (.bool (listsB p), H) :=
 mkE_scalar hT inj_pol1 p ok rfl (by simp [thawA_pol])
theorem c13 {T : List (Entry Tryz.prog)} (hL : findE 36 T = some e36.g) (hE : findE 35 T = some e35.g) (p : PolR) (ok : PolOk p) : CallAt (ctx T) 13 [polA p] ⟨0, []⟩ (checkV p) ⟨0, []⟩ := by
 have kl := fun H => k36 hL ok H
 have hpl := ok.pre
 have e : checkB p = (numB p && (prefixB p.pre && listsB p)) := rfl
 have e1 : numB p = (withB p.byt 0 1048576 && (withB p.nod 1 65536 && (withB p.dep 1 1024 && (withB p.per 0 100 && withB p.loo 1 8)))) := rfl
 have e3 : prefixB p.pre = (lettersB p.pre && withB (p.pre.length : Nat) 1 20) := rfl
 unfold checkV
 rw [e, e1, e3]
 clear e e1 e3
 have o0 : getL (polC p) 0 = some (.str p.pre) := rfl
 have o5 : getL (polC p) 5 = some (.int .i64 p.byt) := rfl
 have o6 : getL (polC p) 6 = some (.int .i64 p.nod) := rfl
 have o7 : getL (polC p) 7 = some (.int .i64 p.dep) := rfl
 have o8 : getL (polC p) 8 = some (.int .i64 p.per) := rfl
 have o9 : getL (polC p) 9 = some (.int .i64 p.loo) := rfl
 have hsub : subL 0 11 (polC p) = some (polC p) := rfl
 have hsg : allSingle (polC p) = true := by simp [polC, allSingle, AV.single]
 have hpC := pol_pureC p
 simp only [polA] at kl ⊢
 generalize polC p = C at *
 generalize listsB p = lb at *
 have rd : ∀ n, readVar Tryz.prog ⟨n, [[(0, .cells C)]]⟩ 24 (.ptr 0 0) = some (.agg C) := fun n => by simp [readCells, Heap.get, getFs, getF, hsub]
 have kp : ∀ n, FitH 0 [(0, 0)] [] ⟨n, [[(0, .cells C)]]⟩ ⟨1, [[(0, .cells C)]]⟩ := fun n => .keep1 (by simp [Heap.get, getFs, getF]) hpC rfl
 refine callAt_body (fn := Tryz.f13) (s0 := ⟨[0, 1, 2, 3], [.agg C, .undef, .undef, .undef], [], 77, ⟨0, [[]]⟩⟩) Tryz.func13 rfl rfl rfl ?_
 repeat apply wq
 refine wps_region callOK ?_
 simp [zS, hsg]
 by_cases c1 : p.pre = []
 ·repeat apply wq
  refine wps_region callOK ?_
  simp [zS, o0, c1]
  repeat apply wq
  refine wps_ct rfl ?_
  repeat apply wq
  refine wps_region callOK ?_
  simp [zS]
  repeat apply wq
  refine wps_ret ?_
  simp [retVal, Tryz.f13, oneOr, thenQ, blockQ]
  exact ends_pure rfl (by have n : withB (p.pre.length : Nat) 1 20 = false := (by simp [withB, c1] <;> omega); simp [n, show withB 0 1 20 = false by decide])
 ·by_cases c2 : (20 : Int) < (p.pre.length : Int)
  ·repeat apply wq
   refine wps_region callOK ?_
   simp [zS, o0, c1, c2]
   repeat apply wq
   refine wps_ct rfl ?_
   repeat apply wq
   refine wps_region callOK ?_
   simp [zS]
   repeat apply wq
   refine wps_ret ?_
   simp [retVal, Tryz.f13, oneOr, thenQ, blockQ]
   exact ends_pure rfl (by have n : withB (p.pre.length : Nat) 1 20 = false := (by simp [withB, c1, c2] <;> omega); simp [n, show withB 0 1 20 = false by decide])
  ·have hw : withB (p.pre.length : Nat) 1 20 = true := by
    have : 0 < p.pre.length := List.length_pos_iff.2 c1
    simp [withB]; omega
   rw [hw]
   repeat apply wq
   refine wps_region callOK ?_
   simp [zS, o0, c1, c2]
   repeat apply wq
   refine wps_cf rfl ?_
   repeat apply wq
   refine wps_skip ?_
   simp
   repeat apply wq
   refine wps_region callOK ?_
   simp [zS]
   repeat apply wq
   refine wps_block (wps_loop' (fun i : Nat => (⟨[0, 1, 2, 3], [.agg C, .ptr 0 0, .int .i64 0, .int .i64 i], [], 77, ⟨1, [[(0, .cells C)]]⟩⟩ : St))
    (fun i => i ≤ p.pre.length ∧ (p.pre.drop i).all (fun c => letN c.toNat) = lettersB p.pre) (fun i => p.pre.length - i) [(0, 0)] [] 0 ⟨Nat.zero_le _, rfl⟩ ⟨rfl, rfl, rfl, by simp [fitL, fitV, lookN, pureV, hpC], kp _⟩ ?_)
   rintro i ⟨hi, ha⟩ B hB
   repeat apply wq
   refine wps_region callOK ?_
   simp [zS, o0]
   repeat apply wq
   refine wps_cond rfl (fun h => ?_) fun h => ?_
   ·simp at h
    rw [all_at h] at ha
    repeat apply wq
    refine wps_skip ?_
    simp
    repeat apply wq
    refine wps_block ?_
    have hat := ixStr h
    have kc := fun H => k35 hE p.pre[i] H
    rcases Bool.eq_false_or_eq_true (letN p.pre[i].toNat) with hb | hb
    ·rw [hb] at ha
     repeat apply wq
     refine wps_region callOK ?_
     simp [zS, o0, hat, kc, hb]
     repeat apply wq
     refine wps_cf rfl ?_
     repeat apply wq
     refine wps_skip ?_
     simp
     repeat apply wq
     refine wps_region callOK ?_
     simp [zS, add_one (show i ≤ 1000000000 by omega)]
     exact hB _ (i + 1) (by omega) ⟨by omega, by rw [← ha, Bool.true_and]⟩ ⟨[(0, 0)], [], rfl, rfl, rfl, by simp [fitL, fitV, lookN, pureV, hpC], kp _⟩
    ·rw [hb] at ha
     repeat apply wq
     refine wps_region callOK ?_
     simp [zS, o0, hat, kc, hb]
     repeat apply wq
     refine wps_ct rfl ?_
     repeat apply wq
     refine wps_region callOK ?_
     simp [zS]
     repeat apply wq
     refine wps_ret ?_
     simp [retVal, Tryz.f13, oneOr, thenQ, blockQ]
     exact ends_pure rfl (by rw [← ha]; simp)
   ·simp at h
    rw [List.drop_eq_nil_of_le h] at ha
    have hlet : lettersB p.pre = true := by rw [← ha]; rfl
    rw [hlet]
    clear ha hB
    repeat apply wq
    refine wps_exit ?_
    simp
    cases lb with
    | false =>
     repeat apply wq
     refine wps_region callOK ?_
     simp [zS, rd, kl]
     repeat apply wq
     refine wps_ct rfl ?_
     repeat apply wq
     refine wps_region callOK ?_
     simp [zS]
     repeat apply wq
     refine wps_ret ?_
     simp [retVal, Tryz.f13, oneOr, thenQ, blockQ]
     exact ends_pure rfl (by simp)
    | true =>
     by_cases q1 : p.byt < 0
     ·repeat apply wq
      refine wps_region callOK ?_
      simp [zS, rd, kl, o5, o6, o7, q1]
      repeat apply wq
      refine wps_ct rfl ?_
      repeat apply wq
      refine wps_region callOK ?_
      simp [zS]
      repeat apply wq
      refine wps_ret ?_
      simp [retVal, Tryz.f13, oneOr, thenQ, blockQ]
      exact ends_pure rfl (by simp [withB]; omega)
     ·by_cases q2 : 1048576 < p.byt
      ·repeat apply wq
       refine wps_region callOK ?_
       simp [zS, rd, kl, o5, o6, o7, q1, q2]
       repeat apply wq
       refine wps_ct rfl ?_
       repeat apply wq
       refine wps_region callOK ?_
       simp [zS]
       repeat apply wq
       refine wps_ret ?_
       simp [retVal, Tryz.f13, oneOr, thenQ, blockQ]
       exact ends_pure rfl (by simp [withB]; omega)
      ·by_cases q3 : p.nod < 1
       ·repeat apply wq
        refine wps_region callOK ?_
        simp [zS, rd, kl, o5, o6, o7, q1, q2, q3]
        repeat apply wq
        refine wps_ct rfl ?_
        repeat apply wq
        refine wps_region callOK ?_
        simp [zS]
        repeat apply wq
        refine wps_ret ?_
        simp [retVal, Tryz.f13, oneOr, thenQ, blockQ]
        exact ends_pure rfl (by simp [withB]; omega)
       ·by_cases q4 : 65536 < p.nod
        ·repeat apply wq
         refine wps_region callOK ?_
         simp [zS, rd, kl, o5, o6, o7, q1, q2, q3, q4]
         repeat apply wq
         refine wps_ct rfl ?_
         repeat apply wq
         refine wps_region callOK ?_
         simp [zS]
         repeat apply wq
         refine wps_ret ?_
         simp [retVal, Tryz.f13, oneOr, thenQ, blockQ]
         exact ends_pure rfl (by simp [withB]; omega)
        ·by_cases q5 : p.dep < 1
         ·repeat apply wq
          refine wps_region callOK ?_
          simp [zS, rd, kl, o5, o6, o7, q1, q2, q3, q4, q5]
          repeat apply wq
          refine wps_ct rfl ?_
          repeat apply wq
          refine wps_region callOK ?_
          simp [zS]
          repeat apply wq
          refine wps_ret ?_
          simp [retVal, Tryz.f13, oneOr, thenQ, blockQ]
          exact ends_pure rfl (by simp [withB]; omega)
         ·by_cases q6 : 1024 < p.dep
          ·repeat apply wq
           refine wps_region callOK ?_
           simp [zS, rd, kl, o5, o6, o7, q1, q2, q3, q4, q5, q6]
           repeat apply wq
           refine wps_ct rfl ?_
           repeat apply wq
           refine wps_region callOK ?_
           simp [zS]
           repeat apply wq
           refine wps_ret ?_
           simp [retVal, Tryz.f13, oneOr, thenQ, blockQ]
           exact ends_pure rfl (by simp [withB]; omega)
          ·repeat apply wq
           refine wps_region callOK ?_
           simp [zS, rd, kl, o5, o6, o7, q1, q2, q3, q4, q5, q6]
           repeat apply wq
           refine wps_cf rfl ?_
           repeat apply wq
           refine wps_skip ?_
           simp
           by_cases r1 : p.per < 0
           ·repeat apply wq
            refine wps_region callOK ?_
            simp [zS, o8, o9, r1]
            repeat apply wq
            refine wps_ct rfl ?_
            repeat apply wq
            refine wps_region callOK ?_
            simp [zS]
            repeat apply wq
            refine wps_ret ?_
            simp [retVal, Tryz.f13, oneOr, thenQ, blockQ]
            exact ends_pure rfl (by simp [withB]; omega)
           ·by_cases r2 : 100 < p.per
            ·repeat apply wq
             refine wps_region callOK ?_
             simp [zS, o8, o9, r1, r2]
             repeat apply wq
             refine wps_ct rfl ?_
             repeat apply wq
             refine wps_region callOK ?_
             simp [zS]
             repeat apply wq
             refine wps_ret ?_
             simp [retVal, Tryz.f13, oneOr, thenQ, blockQ]
             exact ends_pure rfl (by simp [withB]; omega)
            ·by_cases r3 : p.loo < 1
             ·repeat apply wq
              refine wps_region callOK ?_
              simp [zS, o8, o9, r1, r2, r3]
              repeat apply wq
              refine wps_ct rfl ?_
              repeat apply wq
              refine wps_region callOK ?_
              simp [zS]
              repeat apply wq
              refine wps_ret ?_
              simp [retVal, Tryz.f13, oneOr, thenQ, blockQ]
              exact ends_pure rfl (by simp [withB]; omega)
             ·by_cases r4 : 8 < p.loo
              ·repeat apply wq
               refine wps_region callOK ?_
               simp [zS, o8, o9, r1, r2, r3, r4]
               repeat apply wq
               refine wps_ct rfl ?_
               repeat apply wq
               refine wps_region callOK ?_
               simp [zS]
               repeat apply wq
               refine wps_ret ?_
               simp [retVal, Tryz.f13, oneOr, thenQ, blockQ]
               exact ends_pure rfl (by simp [withB]; omega)
              ·repeat apply wq
               refine wps_region callOK ?_
               simp [zS, o8, o9, r1, r2, r3, r4]
               repeat apply wq
               refine wps_cf rfl ?_
               repeat apply wq
               refine wps_skip ?_
               simp
               repeat apply wq
               refine wps_region callOK ?_
               simp [zS]
               repeat apply wq
               refine wps_ret ?_
               simp [retVal, Tryz.f13, oneOr, thenQ, blockQ]
               exact ends_pure rfl (by simp [withB]; omega)
end Go.Proofs.YtfncefamflainaaGreatDoor