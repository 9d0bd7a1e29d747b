/- words.Split of any text of single bytes. No condition. -/
import Derived.Test.YtfncefamflainaaGreatDoorMI
import Derived.Test.YtfncefamflainaaGreatDoorMJ
namespace Go.Proofs.YtfncefamflainaaGreatDoor
set_option linter.unusedSimpArgs false
set_option linter.unusedVariables false
open Go Go.RowKit
set_option maxRecDepth 100000
@[simp] theorem szT24 : sizeT Tryz.prog 24 = some 11 := rfl
@[simp] theorem agT24 : aggT Tryz.prog 24 = some true := rfl
@[simp] theorem byT24 : bytesT Tryz.prog 24 = some 160 := rfl
@[simp] theorem alT24 (H : Heap) : alV Tryz.prog H 24 = some (.ptr H.n 0, H.new (.cells [.str [], .nilS, .nilS, .nilS, .nilS, .int .i64 0, .int .i64 0, .int .i64 0, .int .i64 0, .int .i64 0, .bool false])) := rfl
@[simp] theorem zeT24 : zeroOf Tryz.prog 24 = some (.agg [.str [], .nilS, .nilS, .nilS, .nilS, .int .i64 0, .int .i64 0, .int .i64 0, .int .i64 0, .int .i64 0, .bool false]) := rfl
attribute [simp] Tryz.underlying24
@[simp 500] theorem rvF24 (H : Heap) (cs : List AV) (o : Nat) : readVar Tryz.prog H 24 (.fptr cs o) = (subL o 11 cs).bind fun cs => some (.agg cs) := rfl
@[simp 500] theorem rvP24 (H : Heap) (b o : Nat) : readVar Tryz.prog H 24 (.ptr b o) = (readCells H b o 11).bind fun cs => some (.agg cs) := rfl
@[simp] theorem fa24_0 (x : AV) : fieldAddrA Tryz.prog 24 x 0 = (match x with | .ptr b o => some (.ptr b (o + 0)) | .fptr cs o => some (.fptr cs (o + 0)) | _ => none) := rfl
@[simp] theorem fd24_0 (cs : List AV) : fieldA Tryz.prog 24 (.agg cs) 0 = getL cs 0 := rfl
@[simp] theorem fa24_1 (x : AV) : fieldAddrA Tryz.prog 24 x 1 = (match x with | .ptr b o => some (.ptr b (o + 1)) | .fptr cs o => some (.fptr cs (o + 1)) | _ => none) := rfl
@[simp] theorem fd24_1 (cs : List AV) : fieldA Tryz.prog 24 (.agg cs) 1 = getL cs 1 := rfl
@[simp] theorem fa24_2 (x : AV) : fieldAddrA Tryz.prog 24 x 2 = (match x with | .ptr b o => some (.ptr b (o + 2)) | .fptr cs o => some (.fptr cs (o + 2)) | _ => none) := rfl
@[simp] theorem fd24_2 (cs : List AV) : fieldA Tryz.prog 24 (.agg cs) 2 = getL cs 2 := rfl
@[simp] theorem fa24_3 (x : AV) : fieldAddrA Tryz.prog 24 x 3 = (match x with | .ptr b o => some (.ptr b (o + 3)) | .fptr cs o => some (.fptr cs (o + 3)) | _ => none) := rfl
@[simp] theorem fd24_3 (cs : List AV) : fieldA Tryz.prog 24 (.agg cs) 3 = getL cs 3 := rfl
@[simp] theorem fa24_4 (x : AV) : fieldAddrA Tryz.prog 24 x 4 = (match x with | .ptr b o => some (.ptr b (o + 4)) | .fptr cs o => some (.fptr cs (o + 4)) | _ => none) := rfl
@[simp] theorem fd24_4 (cs : List AV) : fieldA Tryz.prog 24 (.agg cs) 4 = getL cs 4 := rfl
@[simp] theorem fa24_5 (x : AV) : fieldAddrA Tryz.prog 24 x 5 = (match x with | .ptr b o => some (.ptr b (o + 5)) | .fptr cs o => some (.fptr cs (o + 5)) | _ => none) := rfl
@[simp] theorem fd24_5 (cs : List AV) : fieldA Tryz.prog 24 (.agg cs) 5 = getL cs 5 := rfl
@[simp] theorem fa24_6 (x : AV) : fieldAddrA Tryz.prog 24 x 6 = (match x with | .ptr b o => some (.ptr b (o + 6)) | .fptr cs o => some (.fptr cs (o + 6)) | _ => none) := rfl
@[simp] theorem fd24_6 (cs : List AV) : fieldA Tryz.prog 24 (.agg cs) 6 = getL cs 6 := rfl
@[simp] theorem fa24_7 (x : AV) : fieldAddrA Tryz.prog 24 x 7 = (match x with | .ptr b o => some (.ptr b (o + 7)) | .fptr cs o => some (.fptr cs (o + 7)) | _ => none) := rfl
@[simp] theorem fd24_7 (cs : List AV) : fieldA Tryz.prog 24 (.agg cs) 7 = getL cs 7 := rfl
@[simp] theorem fa24_8 (x : AV) : fieldAddrA Tryz.prog 24 x 8 = (match x with | .ptr b o => some (.ptr b (o + 8)) | .fptr cs o => some (.fptr cs (o + 8)) | _ => none) := rfl
@[simp] theorem fd24_8 (cs : List AV) : fieldA Tryz.prog 24 (.agg cs) 8 = getL cs 8 := rfl
@[simp] theorem fa24_9 (x : AV) : fieldAddrA Tryz.prog 24 x 9 = (match x with | .ptr b o => some (.ptr b (o + 9)) | .fptr cs o => some (.fptr cs (o + 9)) | _ => none) := rfl
@[simp] theorem fd24_9 (cs : List AV) : fieldA Tryz.prog 24 (.agg cs) 9 = getL cs 9 := rfl
@[simp] theorem fa24_10 (x : AV) : fieldAddrA Tryz.prog 24 x 10 = (match x with | .ptr b o => some (.ptr b (o + 10)) | .fptr cs o => some (.fptr cs (o + 10)) | _ => none) := rfl
@[simp] theorem fd24_10 (cs : List AV) : fieldA Tryz.prog 24 (.agg cs) 10 = getL cs 10 := rfl
@[simp] theorem szT84 : sizeT Tryz.prog 84 = some 3 := rfl
@[simp] theorem agT84 : aggT Tryz.prog 84 = some true := rfl
@[simp] theorem byT84 : bytesT Tryz.prog 84 = some 48 := rfl
@[simp] theorem alT84 (H : Heap) : alV Tryz.prog H 84 = some (.ptr H.n 0, H.new (.cells [.str [], .str [], .str []])) := rfl
@[simp] theorem zeT84 : zeroOf Tryz.prog 84 = some (.agg [.str [], .str [], .str []]) := rfl
attribute [simp] Tryz.underlying84
@[simp 500] theorem rvF84 (H : Heap) (cs : List AV) (o : Nat) : readVar Tryz.prog H 84 (.fptr cs o) = (subL o 3 cs).bind fun cs => some (.agg cs) := rfl
@[simp 500] theorem rvP84 (H : Heap) (b o : Nat) : readVar Tryz.prog H 84 (.ptr b o) = (readCells H b o 3).bind fun cs => some (.agg cs) := rfl
abbrev lkHtml : Str := [97, 32, 97, 98, 98, 114, 32, 97, 100, 100, 114, 101, 115, 115, 32, 97, 114, 101, 97, 32, 97, 114, 116, 105, 99, 108, 101, 32, 97, 115, 105, 100, 101, 32, 98, 32, 98, 100, 105, 32, 98, 100, 111, 32, 98, 105, 103, 32, 98, 108, 111, 99, 107, 113, 117, 111, 116, 101, 32, 98, 114, 32, 98, 117, 116, 116, 111, 110, 32, 99, 97, 112, 116, 105, 111, 110, 32, 99, 101, 110, 116, 101, 114, 32, 99, 105, 116, 101, 32, 99, 111, 100, 101, 32, 99, 111, 108, 32, 99, 111, 108, 103, 114, 111, 117, 112, 32, 100, 97, 116, 97, 32, 100, 97, 116, 97, 108, 105, 115, 116, 32, 100, 100, 32, 100, 101, 108, 32, 100, 101, 116, 97, 105, 108, 115, 32, 100, 102, 110, 32, 100, 105, 97, 108, 111, 103, 32, 100, 105, 118, 32, 100, 108, 32, 100, 116, 32, 101, 109, 32, 102, 105, 101, 108, 100, 115, 101, 116, 32, 102, 105, 103, 99, 97, 112, 116, 105, 111, 110, 32, 102, 105, 103, 117, 114, 101, 32, 102, 111, 110, 116, 32, 102, 111, 111, 116, 101, 114, 32, 102, 111, 114, 109, 32, 104, 49, 32, 104, 50, 32, 104, 51, 32, 104, 52, 32, 104, 53, 32, 104, 54, 32, 104, 101, 97, 100, 101, 114, 32, 104, 103, 114, 111, 117, 112, 32, 104, 114, 32, 105, 32, 105, 109, 103, 32, 105, 110, 112, 117, 116, 32, 105, 110, 115, 32, 107, 98, 100, 32, 108, 97, 98, 101, 108, 32, 108, 101, 103, 101, 110, 100, 32, 108, 105, 32, 109, 97, 105, 110, 32, 109, 97, 112, 32, 109, 97, 114, 107, 32, 109, 101, 110, 117, 32, 109, 101, 116, 101, 114, 32, 110, 97, 118, 32, 110, 111, 98, 114, 32, 111, 108, 32, 111, 112, 116, 103, 114, 111, 117, 112, 32, 111, 112, 116, 105, 111, 110, 32, 111, 117, 116, 112, 117, 116, 32, 112, 32, 112, 114, 101, 32, 112, 114, 111, 103, 114, 101, 115, 115, 32, 113, 32, 115, 32, 115, 97, 109, 112, 32, 115, 101, 97, 114, 99, 104, 32, 115, 101, 99, 116, 105, 111, 110, 32, 115, 101, 108, 101, 99, 116, 32, 115, 109, 97, 108, 108, 32, 115, 112, 97, 110, 32, 115, 116, 114, 105, 107, 101, 32, 115, 116, 114, 111, 110, 103, 32, 115, 117, 98, 32, 115, 117, 109, 109, 97, 114, 121, 32, 115, 117, 112, 32, 116, 97, 98, 108, 101, 32, 116, 98, 111, 100, 121, 32, 116, 100, 32, 116, 101, 120, 116, 97, 114, 101, 97, 32, 116, 102, 111, 111, 116, 32, 116, 104, 32, 116, 104, 101, 97, 100, 32, 116, 105, 109, 101, 32, 116, 114, 32, 116, 116, 32, 117, 32, 117, 108, 32, 118, 97, 114, 32, 119, 98, 114]
abbrev lkSvg : Str := [99, 105, 114, 99, 108, 101, 32, 100, 101, 115, 99, 32, 102, 111, 114, 101, 105, 103, 110, 79, 98, 106, 101, 99, 116, 32, 103, 32, 112, 97, 116, 104, 32, 114, 101, 99, 116, 32, 115, 118, 103, 32, 116, 101, 120, 116, 32, 116, 105, 116, 108, 101]
abbrev lkMath : Str := [97, 110, 110, 111, 116, 97, 116, 105, 111, 110, 45, 120, 109, 108, 32, 109, 97, 116, 104, 32, 109, 102, 114, 97, 99, 32, 109, 105, 32, 109, 110, 32, 109, 111, 32, 109, 114, 111, 119, 32, 109, 115, 32, 109, 116, 101, 120, 116]
abbrev pSvg : Str := [115, 118, 103, 58]
abbrev pMath : Str := [109, 97, 116, 104, 58]
def knownB (space : Int) (name : Str) : Bool := if space = 0 then inW lkHtml name else if space = 1 then inW lkSvg name else if space = 2 then inW lkMath name else false
theorem c62 {T : List (Entry Tryz.prog)} (hI : findE 86 T = some e86.g) (space : Int) (name : Str) : CallAt (ctx T) 62 [.int .i64 space, .str name] ⟨0, []⟩ (.bool (knownB space name)) ⟨0, []⟩ := by
 have k1 := fun H => k86 hI (w := lkHtml) name (by decide) H
 have k2 := fun H => k86 hI (w := lkSvg) name (by decide) H
 have k3 := fun H => k86 hI (w := lkMath) name (by decide) H
 by_cases h0 : space = 0
 ·subst h0
  have e : knownB 0 name = inW lkHtml name := by simp [knownB]
  rw [e]
  generalize inW lkHtml name = v at *
  refine callAt_body (fn := Tryz.f62) (s0 := ⟨[0, 1, 4], [.int .i64 0, .str name, .undef], [], 19, ⟨0, [[]]⟩⟩) Tryz.func62 rfl rfl rfl ?_
  (repeat (first
   | (refine wps_seq ?_)
   | (refine wps_block ?_)
   | (refine wps_label ?_; simp only [thenQ, blockQ])
   | ((refine wps_region callOK ?_); simp [zS, k1])
   | (refine wps_ct rfl ?_)
   | (refine wps_cf rfl ?_)
   | ((refine wps_skip ?_); simp only [thenQ, blockQ])
   | ((refine wps_exit ?_); simp [thenQ, blockQ])))
  repeat apply wq
  refine wps_ret ?_
  simp [retVal, Tryz.f62, oneOr, thenQ, blockQ]
  exact ends_pure rfl (by rfl)
 ·by_cases h1 : space = 1
  ·subst h1
   have e : knownB 1 name = inW lkSvg name := by simp [knownB]
   rw [e]
   generalize inW lkSvg name = v at *
   refine callAt_body (fn := Tryz.f62) (s0 := ⟨[0, 1, 4], [.int .i64 1, .str name, .undef], [], 19, ⟨0, [[]]⟩⟩) Tryz.func62 rfl rfl rfl ?_
   (repeat (first
    | (refine wps_seq ?_)
    | (refine wps_block ?_)
    | (refine wps_label ?_; simp only [thenQ, blockQ])
    | ((refine wps_region callOK ?_); simp [zS, k2])
    | (refine wps_ct rfl ?_)
    | (refine wps_cf rfl ?_)
    | ((refine wps_skip ?_); simp only [thenQ, blockQ])
    | ((refine wps_exit ?_); simp [thenQ, blockQ])))
   repeat apply wq
   refine wps_ret ?_
   simp [retVal, Tryz.f62, oneOr, thenQ, blockQ]
   exact ends_pure rfl (by rfl)
  ·by_cases h2 : space = 2
   ·subst h2
    have e : knownB 2 name = inW lkMath name := by simp [knownB]
    rw [e]
    generalize inW lkMath name = v at *
    refine callAt_body (fn := Tryz.f62) (s0 := ⟨[0, 1, 4], [.int .i64 2, .str name, .undef], [], 19, ⟨0, [[]]⟩⟩) Tryz.func62 rfl rfl rfl ?_
    (repeat (first
     | (refine wps_seq ?_)
     | (refine wps_block ?_)
     | (refine wps_label ?_; simp only [thenQ, blockQ])
     | ((refine wps_region callOK ?_); simp [zS, k3])
     | (refine wps_ct rfl ?_)
     | (refine wps_cf rfl ?_)
     | ((refine wps_skip ?_); simp only [thenQ, blockQ])
     | ((refine wps_exit ?_); simp [thenQ, blockQ])))
    repeat apply wq
    refine wps_ret ?_
    simp [retVal, Tryz.f62, oneOr, thenQ, blockQ]
    exact ends_pure rfl (by rfl)
   ·have e : knownB space name = false := by simp [knownB, h0, h1, h2]
    rw [e]
    refine callAt_body (fn := Tryz.f62) (s0 := ⟨[0, 1, 4], [.int .i64 space, .str name, .undef], [], 19, ⟨0, [[]]⟩⟩) Tryz.func62 rfl rfl rfl ?_
    (repeat (first
     | (refine wps_seq ?_)
     | (refine wps_block ?_)
     | (refine wps_label ?_; simp only [thenQ, blockQ])
     | ((refine wps_region callOK ?_); simp [zS, h0, h1, h2])
     | (refine wps_ct rfl ?_)
     | (refine wps_cf rfl ?_)
     | ((refine wps_skip ?_); simp only [thenQ, blockQ])
     | ((refine wps_exit ?_); simp [thenQ, blockQ])))
    repeat apply wq
    refine wps_ret ?_
    simp [retVal, Tryz.f62, oneOr, thenQ, blockQ]
    exact ends_pure rfl (by rfl)
theorem injIS (x y : Int × Str) (h : [AV.int .i64 x.1, AV.str x.2] = [AV.int .i64 y.1, AV.str y.2]) : x = y := by
 simp at h; exact Prod.ext h.1 h.2
noncomputable def e62 : Entry Tryz.prog := mkE 62 [[], []] (fun x : Int × Str => [.int .i64 x.1, .str x.2]) (fun _ => True) (fun x => .bool (knownB x.1 x.2)) fun x _ => c62 (T := [e86]) rfl x.1 x.2
theorem k62 {T : List (Entry Tryz.prog)} (hT : findE 62 T = some e62.g) (space : Int) (name : Str) (H : Heap) : callL (ctx T) (.fn 62) [.int .i64 space, .str name] H = some (.bool (knownB space name), H) :=
 mkE_scalar hT injIS (space, name) trivial rfl (by simp)
theorem prefixes_lit : litOK (.agg [.str [], .str pSvg, .str pMath]) (callN (ctx []) 100000 (.fn 68) [] ⟨0, []⟩) = true := by decide +kernel
theorem c68 {T : List (Entry Tryz.prog)} : CallAt (ctx T) 68 [] ⟨0, []⟩ (.agg [.str [], .str pSvg, .str pMath]) ⟨0, []⟩ := closedLit (T := []) prefixes_lit
noncomputable def e68 : Entry Tryz.prog := mkE 68 [] (fun _ : Unit => []) (fun _ => True) (fun _ => .agg [.str [], .str pSvg, .str pMath]) fun _ _ => c68 (T := [])
theorem k68 {T : List (Entry Tryz.prog)} (hT : findE 68 T = some e68.g) (H : Heap) : callL (ctx T) (.fn 68) [] H = some (.agg [.str [], .str pSvg, .str pMath], H) :=
 mkE_pure hT (fun _ _ _ => rfl) () trivial rfl rfl H
theorem ixP0 : indexA Tryz.prog 84 (.agg [.str [], .str pSvg, .str pMath]) (.int .i64 0) = some (.str []) := rfl
theorem ixP1 : indexA Tryz.prog 84 (.agg [.str [], .str pSvg, .str pMath]) (.int .i64 1) = some (.str pSvg) := rfl
theorem ixP2 : indexA Tryz.prog 84 (.agg [.str [], .str pSvg, .str pMath]) (.int .i64 2) = some (.str pMath) := rfl
def begB (s t : Str) : Bool := decide (t.length ≤ s.length) && decide (s.take t.length = t)
theorem c39 {T : List (Entry Tryz.prog)} (s t : Str) : CallAt (ctx T) 39 [.str s, .str t] ⟨0, []⟩ (.bool (begB s t)) ⟨0, []⟩ := by
 refine callAt_body (fn := Tryz.f39) (s0 := ⟨[0, 1, 4], [.str s, .str t, .undef], [], 18, ⟨0, [[]]⟩⟩) Tryz.func39 rfl rfl rfl ?_
 repeat apply wq
 refine wps_region callOK ?_
 simp [zS]
 by_cases h : t.length ≤ s.length
 ·repeat apply wq
  refine wps_region callOK ?_
  simp [zS, h, slStrTo h]
  repeat apply wq
  refine wps_ret ?_
  simp [retVal, Tryz.f39, oneOr, thenQ, blockQ]
  exact ends_pure rfl (by simp [begB, h])
 ·repeat apply wq
  refine wps_region callOK ?_
  simp [zS, h]
  repeat apply wq
  refine wps_ret ?_
  simp [retVal, Tryz.f39, oneOr, thenQ, blockQ]
  exact ends_pure rfl (by simp [begB, h])
noncomputable def e39 : Entry Tryz.prog := mkE 39 [[], []] (fun x : Str × Str => [.str x.1, .str x.2]) (fun _ => True) (fun x => .bool (begB x.1 x.2)) fun x _ => c39 (T := []) x.1 x.2
theorem k39 {T : List (Entry Tryz.prog)} (hT : findE 39 T = some e39.g) (s t : Str) (H : Heap) : callL (ctx T) (.fn 39) [.str s, .str t] H = some (.bool (begB s t), H) :=
 mkE_scalar hT inj_str2 (s, t) trivial rfl (by simp)
def cutV (s t : Str) : AV := if begB s t = true then .tup [.str (s.drop t.length), .bool true] else .tup [.str s, .bool false]
theorem cut_no {s t : Str} (h : begB s t = false) : cutV s t = .tup [.str s, .bool false] := by unfold cutV; rw [if_neg (by rw [h]; decide)]
theorem cut_yes {s t : Str} (h : begB s t = true) : cutV s t = .tup [.str (s.drop t.length), .bool true] := by unfold cutV; rw [if_pos h]
theorem c118 {T : List (Entry Tryz.prog)} (hI : findE 39 T = some e39.g) (s t : Str) : CallAt (ctx T) 118 [.str s, .str t] ⟨0, []⟩ (cutV s t) ⟨0, []⟩ := by
 have hk := fun H => k39 hI s t H
 cases hb : begB s t with
 | false =>
  rw [hb] at hk
  refine callAt_body (fn := Tryz.f118) (s0 := ⟨[0, 1, 4, 5], [.str s, .str t, .undef, .undef], [], 15, ⟨0, [[]]⟩⟩) Tryz.func118 rfl rfl rfl ?_
  (repeat (first
   | (refine wps_seq ?_)
   | (refine wps_block ?_)
   | (refine wps_label ?_; simp only [thenQ, blockQ])
   | ((refine wps_region callOK ?_); simp [zS, hk])
   | (refine wps_ct rfl ?_)
   | (refine wps_cf rfl ?_)
   | ((refine wps_skip ?_); simp only [thenQ, blockQ])
   | ((refine wps_exit ?_); simp [thenQ, blockQ])))
  repeat apply wq
  refine wps_ret ?_
  simp [retVal, Tryz.f118, oneOr, thenQ, blockQ]
  exact ends_pure rfl (by simp [cutV, hb])
 | true =>
  rw [hb] at hk
  have hl : t.length ≤ s.length := by
   simp only [begB, Bool.and_eq_true, decide_eq_true_eq] at hb
   exact hb.1
  refine callAt_body (fn := Tryz.f118) (s0 := ⟨[0, 1, 4, 5], [.str s, .str t, .undef, .undef], [], 15, ⟨0, [[]]⟩⟩) Tryz.func118 rfl rfl rfl ?_
  (repeat (first
   | (refine wps_seq ?_)
   | (refine wps_block ?_)
   | (refine wps_label ?_; simp only [thenQ, blockQ])
   | ((refine wps_region callOK ?_); simp [zS, hk, slStr hl])
   | (refine wps_ct rfl ?_)
   | (refine wps_cf rfl ?_)
   | ((refine wps_skip ?_); simp only [thenQ, blockQ])
   | ((refine wps_exit ?_); simp [thenQ, blockQ])))
  repeat apply wq
  refine wps_ret ?_
  simp [retVal, Tryz.f118, oneOr, thenQ, blockQ]
  exact ends_pure rfl (by simp [cutV, hb])
theorem cut_scalar {s t : Str} : scalarV (cutV s t) = true := by unfold cutV; split <;> rfl
noncomputable def e118 : Entry Tryz.prog := mkE 118 [[], []] (fun x : Str × Str => [.str x.1, .str x.2]) (fun _ => True) (fun x => cutV x.1 x.2) fun x _ => c118 (T := [e39]) rfl x.1 x.2
theorem k118 {T : List (Entry Tryz.prog)} (hT : findE 118 T = some e118.g) (s t : Str) (H : Heap) : callL (ctx T) (.fn 118) [.str s, .str t] H = some (cutV s t, H) :=
 mkE_scalar hT inj_str2 (s, t) trivial cut_scalar (by simp)
theorem c100 {T : List (Entry Tryz.prog)} (hI : findE 118 T = some e118.g) (s t : Str) : CallAt (ctx T) 100 [.str s, .str t] ⟨0, []⟩ (cutV s t) ⟨0, []⟩ := by
 have hk := fun H => k118 hI s t H
 cases hb : begB s t with
 | true =>
  rw [cut_yes hb] at hk ⊢
  refine callAt_body (fn := Tryz.f100) (s0 := ⟨[0, 1, 4, 5], [.str s, .str t, .undef, .undef], [], 11, ⟨0, [[]]⟩⟩) Tryz.func100 rfl rfl rfl ?_
  (repeat (first
   | (refine wps_seq ?_)
   | (refine wps_block ?_)
   | (refine wps_label ?_; simp only [thenQ, blockQ])
   | ((refine wps_region callOK ?_); simp [zS, hk])
   | (refine wps_ct rfl ?_)
   | (refine wps_cf rfl ?_)
   | ((refine wps_skip ?_); simp only [thenQ, blockQ])
   | ((refine wps_exit ?_); simp [thenQ, blockQ])))
  repeat apply wq
  refine wps_ret ?_
  simp [retVal, Tryz.f100, oneOr, thenQ, blockQ]
  exact ends_pure rfl (by rfl)
 | false =>
  rw [cut_no hb] at hk ⊢
  refine callAt_body (fn := Tryz.f100) (s0 := ⟨[0, 1, 4, 5], [.str s, .str t, .undef, .undef], [], 11, ⟨0, [[]]⟩⟩) Tryz.func100 rfl rfl rfl ?_
  (repeat (first
   | (refine wps_seq ?_)
   | (refine wps_block ?_)
   | (refine wps_label ?_; simp only [thenQ, blockQ])
   | ((refine wps_region callOK ?_); simp [zS, hk])
   | (refine wps_ct rfl ?_)
   | (refine wps_cf rfl ?_)
   | ((refine wps_skip ?_); simp only [thenQ, blockQ])
   | ((refine wps_exit ?_); simp [thenQ, blockQ])))
  repeat apply wq
  refine wps_ret ?_
  simp [retVal, Tryz.f100, oneOr, thenQ, blockQ]
  exact ends_pure rfl (by rfl)
noncomputable def e100 : Entry Tryz.prog := mkE 100 [[], []] (fun x : Str × Str => [.str x.1, .str x.2]) (fun _ => True) (fun x => cutV x.1 x.2) fun x _ => c100 (T := [e118]) rfl x.1 x.2
theorem k100 {T : List (Entry Tryz.prog)} (hT : findE 100 T = some e100.g) (s t : Str) (H : Heap) : callL (ctx T) (.fn 100) [.str s, .str t] H = some (cutV s t, H) :=
 mkE_scalar hT inj_str2 (s, t) trivial cut_scalar (by simp)
def splitV (key : Str) : Int × Str := if begB key pSvg = true then (1, key.drop 4) else if begB key pMath = true then (2, key.drop 5) else (0, key)
def splitA (x : Int × Str) : AV := .tup [.int .i64 x.1, .str x.2]
theorem beg_nil {s : Str} : begB s [] = true := by simp [begB]
theorem c79 {T : List (Entry Tryz.prog)} (hP : findE 68 T = some e68.g) (hC : findE 100 T = some e100.g) (key : Str) : CallAt (ctx T) 79 [.str key] ⟨0, []⟩ (splitA (splitV key)) ⟨0, []⟩ := by
 have kp := fun H => k68 hP H
 have k0 := fun H => k100 hC key [] H
 have k1 := fun H => k100 hC key pSvg H
 have k2 := fun H => k100 hC key pMath H
 rw [cut_yes beg_nil] at k0
 have w1 : wr .i64 1 = some 1 := rfl
 have w2 : wr .i64 2 = some 2 := rfl
 have w3 : wr .i64 3 = some 3 := rfl
 refine callAt_body (fn := Tryz.f79) (s0 := ⟨[0, 2, 3, 4, 5, 6, 7, 8, 9], [.str key, .undef, .undef, .undef, .undef, .undef, .undef, .undef, .undef], [], 28, ⟨0, [[]]⟩⟩) Tryz.func79 rfl rfl rfl ?_
 repeat apply wq
 refine wps_region callOK ?_
 simp [zS]
 repeat apply wq
 refine wps_region callOK ?_
 simp [zS, kp]
 repeat apply wq
 refine wps_block (wps_loop' (fun i : Nat => (⟨[0, 2, 3, 4, 5, 6, 7, 8, 9], [.str key, .int .i64 0, .str [], .undef, .undef, .undef, .undef, .agg [.str [], .str pSvg, .str pMath], .int .i64 i], [], 28, ⟨0, [[]]⟩⟩ : St))
  (fun i => i ≤ 3 ∧ (2 ≤ i → begB key pSvg = false) ∧ (3 ≤ i → begB key pMath = false)) (fun i => 3 - i) [] [] 0 ⟨by omega, by omega, by omega⟩ ⟨rfl, rfl, rfl, by simp [fitL, fitV, pureV, pureL], FitH.nothing⟩ ?_)
 rintro i ⟨hi, h1, h2⟩ B hB
 by_cases i0 : i = 0
 ·subst i0
  repeat apply wq
  refine wps_region callOK ?_
  simp [zS]
  repeat apply wq
  refine wps_ct rfl ?_
  repeat apply wq
  refine wps_skip ?_
  simp
  repeat apply wq
  refine wps_block ?_
  repeat apply wq
  refine wps_region callOK ?_
  simp [zS, ixP0]
  repeat apply wq
  refine wps_region callOK ?_
  simp [zS, k0]
  repeat apply wq
  refine wps_region callOK ?_
  simp [zS]
  repeat apply wq
  refine wps_cf rfl ?_
  repeat apply wq
  refine wps_skip ?_
  simp
  repeat apply wq
  refine wps_region callOK ?_
  simp [zS, w1]
  exact hB _ 1 (by omega) ⟨by omega, by omega, by omega⟩ ⟨[], [], ⟨rfl, rfl, rfl, by simp [fitL, fitV, pureV, pureL], FitH.nothing⟩⟩
 ·by_cases i1 : i = 1
  ·subst i1
   cases hb : begB key pSvg with
   | true =>
    rw [cut_yes hb] at k1
    repeat apply wq
    refine wps_region callOK ?_
    simp [zS]
    repeat apply wq
    refine wps_ct rfl ?_
    repeat apply wq
    refine wps_skip ?_
    simp
    repeat apply wq
    refine wps_block ?_
    repeat apply wq
    refine wps_region callOK ?_
    simp [zS, ixP1]
    repeat apply wq
    refine wps_region callOK ?_
    simp [zS, k1]
    repeat apply wq
    refine wps_region callOK ?_
    simp [zS]
    repeat apply wq
    refine wps_ct rfl ?_
    repeat apply wq
    refine wps_region callOK ?_
    simp [zS]
    repeat apply wq
    refine wps_ret ?_
    simp [retVal, Tryz.f79, oneOr, thenQ, blockQ]
    exact ends_pure rfl (by simp [splitA, splitV, hb])
   | false =>
    rw [cut_no hb] at k1
    repeat apply wq
    refine wps_region callOK ?_
    simp [zS]
    repeat apply wq
    refine wps_ct rfl ?_
    repeat apply wq
    refine wps_skip ?_
    simp
    repeat apply wq
    refine wps_block ?_
    repeat apply wq
    refine wps_region callOK ?_
    simp [zS, ixP1]
    repeat apply wq
    refine wps_region callOK ?_
    simp [zS, k1]
    repeat apply wq
    refine wps_region callOK ?_
    simp [zS]
    repeat apply wq
    refine wps_cf rfl ?_
    repeat apply wq
    refine wps_skip ?_
    simp
    repeat apply wq
    refine wps_region callOK ?_
    simp [zS, w2]
    exact hB _ 2 (by omega) ⟨by omega, fun _ => hb, by omega⟩ ⟨[], [], ⟨rfl, rfl, rfl, by simp [fitL, fitV, pureV, pureL], FitH.nothing⟩⟩
  ·by_cases i2 : i = 2
   ·subst i2
    have n1 := h1 (by omega)
    cases hb : begB key pMath with
    | true =>
     rw [cut_yes hb] at k2
     repeat apply wq
     refine wps_region callOK ?_
     simp [zS]
     repeat apply wq
     refine wps_ct rfl ?_
     repeat apply wq
     refine wps_skip ?_
     simp
     repeat apply wq
     refine wps_block ?_
     repeat apply wq
     refine wps_region callOK ?_
     simp [zS, ixP2]
     repeat apply wq
     refine wps_region callOK ?_
     simp [zS, k2]
     repeat apply wq
     refine wps_region callOK ?_
     simp [zS]
     repeat apply wq
     refine wps_ct rfl ?_
     repeat apply wq
     refine wps_region callOK ?_
     simp [zS]
     repeat apply wq
     refine wps_ret ?_
     simp [retVal, Tryz.f79, oneOr, thenQ, blockQ]
     exact ends_pure rfl (by simp [splitA, splitV, n1, hb])
    | false =>
     rw [cut_no hb] at k2
     repeat apply wq
     refine wps_region callOK ?_
     simp [zS]
     repeat apply wq
     refine wps_ct rfl ?_
     repeat apply wq
     refine wps_skip ?_
     simp
     repeat apply wq
     refine wps_block ?_
     repeat apply wq
     refine wps_region callOK ?_
     simp [zS, ixP2]
     repeat apply wq
     refine wps_region callOK ?_
     simp [zS, k2]
     repeat apply wq
     refine wps_region callOK ?_
     simp [zS]
     repeat apply wq
     refine wps_cf rfl ?_
     repeat apply wq
     refine wps_skip ?_
     simp
     repeat apply wq
     refine wps_region callOK ?_
     simp [zS, w3]
     exact hB _ 3 (by omega) ⟨by omega, fun _ => n1, fun _ => hb⟩ ⟨[], [], ⟨rfl, rfl, rfl, by simp [fitL, fitV, pureV, pureL], FitH.nothing⟩⟩
   ·have i3 : i = 3 := by omega
    subst i3
    have n1 := h1 (by omega)
    have n2 := h2 (by omega)
    repeat apply wq
    refine wps_region callOK ?_
    simp [zS]
    repeat apply wq
    refine wps_cf rfl ?_
    repeat apply wq
    refine wps_exit ?_
    simp
    repeat apply wq
    refine wps_region callOK ?_
    simp [zS]
    repeat apply wq
    refine wps_ret ?_
    simp [retVal, Tryz.f79, oneOr, thenQ, blockQ]
    exact ends_pure rfl (by simp [splitA, splitV, n1, n2])
noncomputable def e79 : Entry Tryz.prog := mkE 79 [[]] (fun x : Str => [.str x]) (fun _ => True) (fun x => splitA (splitV x)) fun x _ => c79 (T := [e68, e100]) rfl rfl x
theorem k79 {T : List (Entry Tryz.prog)} (hT : findE 79 T = some e79.g) (key : Str) (H : Heap) : callL (ctx T) (.fn 79) [.str key] H = some (splitA (splitV key), H) :=
 mkE_scalar hT inj_str key trivial rfl (by simp)
theorem occ_iff {s x : Str} {i : Nat} : Lib.occAt s x i = true ↔ (s.drop i).take x.length = x := by
 unfold Lib.occAt
 rw [List.isPrefixOf_iff_prefix, List.prefix_iff_eq_take]
 exact eq_comm
theorem c81 {T : List (Entry Tryz.prog)} (hI : findE 101 T = some e101.g) (hS : findE 67 T = some e67.g) (W x : Str) (hl : W.length ≤ 100000) (hx1 : x.length ≤ 1000000000)
  (hsp : CallAt (ctx T) 37 [.str W] ⟨0, []⟩ (aStrs (wsplit W)) ⟨0, []⟩) (hco : CallAt (ctx T) 102 [aStrs (wsplit W), .str x] ⟨0, []⟩ (.bool (decide (x ∈ wsplit W))) ⟨0, []⟩) :
  CallAt (ctx T) 81 [.str W, .str x] ⟨0, []⟩ (.bool (inW W x)) ⟨0, []⟩ := by
 have h1 := hsp.lift (by simp [pureL, pureV]) ⟨0, [[]]⟩
 have h2 := hco.lift (by simp [aStrs, pureL, pureV]) ⟨0, [[]]⟩
 refine callAt_body (fn := Tryz.f81) (s0 := ⟨[0, 1, 4, 5, 6, 7, 8], [.str W, .str x, .undef, .undef, .undef, .undef, .undef], [], 52, ⟨0, [[]]⟩⟩) Tryz.func81 rfl rfl rfl ?_
 repeat apply wq
 refine wps_region callOK ?_
 simp [zS]
 by_cases hx : x = []
 ·repeat apply wq
  refine wps_region callOK ?_
  simp [zS, hx]
  repeat apply wq
  refine wps_ct rfl ?_
  repeat apply wq
  refine wps_region callOK ?_
  simp [zS]
  repeat apply wq
  refine wps_ret ?_
  simp [retVal, Tryz.f81, oneOr, thenQ, blockQ]
  exact ends_pure rfl (by simp only [inW]; symm; simp; intro h; exact word_ne h rfl)
 repeat apply wq
 refine wps_region callOK ?_
 simp [zS, hx]
 repeat apply wq
 refine wps_cf rfl ?_
 repeat apply wq
 refine wps_skip ?_
 simp
 have hx0 : 0 < x.length := List.length_pos_iff.2 hx
 repeat apply wq
 refine wps_region callOK ?_
 simp [zS]
 repeat apply wq
 refine wps_block (wps_loop' (fun i : Nat => (⟨[0, 1, 4, 5, 6, 7, 8], [.str W, .str x, .undef, .int .i64 i, .undef, .undef, .undef], [], 52, ⟨0, [[]]⟩⟩ : St))
  (fun i => i ≤ W.length ∧ (x ∈ wsplit W → ∃ p, i ≤ p ∧ WordAt W x p)) (fun i => W.length + 1 - i) [] [] 0 ⟨Nat.zero_le _, fun h => let ⟨p, hp⟩ := word_at h; ⟨p, Nat.zero_le _, hp⟩⟩ ⟨rfl, rfl, rfl, by simp [fitL, fitV, pureV, pureL], FitH.nothing⟩ ?_)
 rintro i ⟨hi, hw⟩ B hB
 have hd : (W.drop i).length ≤ 1000000 := by simp; omega
 repeat apply wq
 refine wps_block ?_
 rcases Lib.index_spec (W.drop i) x with ⟨h0, hn⟩ | ⟨k, h0, hk, ho, hno⟩
 ·have hnot : ¬ x ∈ wsplit W := fun h => by
   obtain ⟨p, hp, hwa⟩ := hw h
   have hr := hwa.room
   have := hn (p - i) (by simp; omega)
   have h3 : Lib.occAt (W.drop i) x (p - i) = true := occ_iff.2 (by rw [List.drop_drop, show i + (p - i) = p by omega]; exact hwa.occ)
   rw [h3] at this
   cases this
  repeat apply wq
  refine wps_region callOK ?_
  simp [zS, slStr hi, k101 hI hd, h0]
  repeat apply wq
  refine wps_region callOK ?_
  simp [zS]
  repeat apply wq
  refine wps_ct rfl ?_
  repeat apply wq
  refine wps_region callOK ?_
  simp [zS]
  repeat apply wq
  refine wps_ret ?_
  simp [retVal, Tryz.f81, oneOr, thenQ, blockQ]
  exact ends_pure rfl (by simp [inW, hnot])
 ·have hk0 : ¬ (k : Int) < 0 := by omega
  obtain ⟨j, hj⟩ : ∃ j, j = i + k := ⟨_, rfl⟩
  have ho' := occ_iff.1 ho
  rw [List.drop_drop, ← hj] at ho'
  have hroom : j + x.length ≤ W.length := by
   have := congrArg List.length ho'
   simp at this
   simp at hk
   omega
  have a1 : wr .i64 ((i : Int) + (k : Int)) = some (j : Int) := by rw [wr_small (by omega) (by omega), hj]; simp
  obtain ⟨q, hq⟩ : ∃ q, q = j + x.length := ⟨_, rfl⟩
  have a2 : wr .i64 ((j : Int) + (x.length : Int)) = some (q : Int) := by rw [wr_small (by omega) (by omega), hq]; simp
  have nxt : ∀ s', ¬ WordAt W x j → (∃ σ Φ, Fit 0 σ Φ s' (⟨[0, 1, 4, 5, 6, 7, 8], [.str W, .str x, .undef, .int .i64 ((j + 1 : Nat) : Int), .undef, .undef, .undef], [], 52, ⟨0, [[]]⟩⟩ : St)) → B s' := fun s' hno2 hf =>
   hB s' (j + 1) (by omega) ⟨by omega, fun h => by
    obtain ⟨p, hp, hwa⟩ := hw h
    refine ⟨p, ?_, hwa⟩
    have hr := hwa.room
    apply Decidable.byContradiction
    intro hlt
    rcases Nat.lt_or_ge p j with hpj | hpj
    ·have h3 := hno (p - i) (by omega)
     have h4 : Lib.occAt (W.drop i) x (p - i) = true := occ_iff.2 (by rw [List.drop_drop, show i + (p - i) = p by omega]; exact hwa.occ)
     rw [h4] at h3
     cases h3
    ·have : p = j := by omega
     subst this
     exact hno2 hwa⟩ hf
  repeat apply wq
  refine wps_region callOK ?_
  simp [zS, slStr hi, k101 hI hd, h0]
  repeat apply wq
  refine wps_region callOK ?_
  simp [zS, hk0]
  repeat apply wq
  refine wps_cf rfl ?_
  repeat apply wq
  refine wps_skip ?_
  simp
  repeat apply wq
  refine wps_region callOK ?_
  simp [zS, a1]
  repeat apply wq
  refine wps_region callOK ?_
  simp [zS, a2]
  have kS := fun c H => k67 hS c H
  by_cases c0 : j = 0
  ·have a4 : wr .i64 1 = some ((j + 1 : Nat) : Int) := by rw [c0]; rfl
   by_cases d0 : q = W.length
   ·repeat apply wq
    refine wps_region callOK ?_
    simp [zS, c0, d0]
    repeat apply wq
    refine wps_ct rfl ?_
    repeat apply wq
    refine wps_region (callOKF [⟨37, _, _, _, _, h1⟩, ⟨102, _, _, _, _, h2⟩]) ?_
    simp [zS, callF, aStrs]
    repeat apply wq
    refine wps_ret ?_
    simp [retVal, Tryz.f81, oneOr, thenQ, blockQ]
    exact ends_pure rfl (by simp [inW])
   ·have hql : q < W.length := by omega
    have d0i : ¬ (q : Int) = (W.length : Int) := by omega
    rcases Bool.eq_false_or_eq_true (sp W[q]) with d1 | d1
    ·repeat apply wq
     refine wps_region callOK ?_
     simp [zS, c0, d0i, ixStr hql, kS, d1]
     repeat apply wq
     refine wps_ct rfl ?_
     repeat apply wq
     refine wps_region (callOKF [⟨37, _, _, _, _, h1⟩, ⟨102, _, _, _, _, h2⟩]) ?_
     simp [zS, callF, aStrs]
     repeat apply wq
     refine wps_ret ?_
     simp [retVal, Tryz.f81, oneOr, thenQ, blockQ]
     exact ends_pure rfl (by simp [inW])
    ·repeat apply wq
     refine wps_region callOK ?_
     simp [zS, c0, d0i, ixStr hql, kS, d1]
     repeat apply wq
     refine wps_cf rfl ?_
     repeat apply wq
     refine wps_skip ?_
     simp
     repeat apply wq
     refine wps_region callOK ?_
     simp [zS, a4]
     exact nxt _ (fun hwa => by have := hwa.post _ (by rw [← hq]; exact List.getElem?_eq_getElem hql); rw [d1] at this; cases this) ⟨[], [], ⟨rfl, rfl, rfl, by simp [fitL, fitV, pureV, pureL], FitH.nothing⟩⟩
  ·obtain ⟨q1, hq1⟩ : ∃ q1, q1 + 1 = j := ⟨j - 1, by omega⟩
   have hq1l : q1 < W.length := by omega
   have a3 : wr .i64 ((j : Int) - 1) = some (q1 : Int) := by rw [wr_small (by omega) (by omega)]; congr 1; omega
   rcases Bool.eq_false_or_eq_true (sp W[q1]) with c1 | c1
   ·skip
    by_cases d0 : q = W.length
    ·repeat apply wq
     refine wps_region callOK ?_
     simp [zS, c0, a3, ixStr hq1l, kS, c1, d0]
     repeat apply wq
     refine wps_ct rfl ?_
     repeat apply wq
     refine wps_region (callOKF [⟨37, _, _, _, _, h1⟩, ⟨102, _, _, _, _, h2⟩]) ?_
     simp [zS, callF, aStrs]
     repeat apply wq
     refine wps_ret ?_
     simp [retVal, Tryz.f81, oneOr, thenQ, blockQ]
     exact ends_pure rfl (by simp [inW])
    ·have hql : q < W.length := by omega
     have d0i : ¬ (q : Int) = (W.length : Int) := by omega
     rcases Bool.eq_false_or_eq_true (sp W[q]) with d1 | d1
     ·repeat apply wq
      refine wps_region callOK ?_
      simp [zS, c0, a3, ixStr hq1l, kS, c1, d0i, ixStr hql, kS, d1]
      repeat apply wq
      refine wps_ct rfl ?_
      repeat apply wq
      refine wps_region (callOKF [⟨37, _, _, _, _, h1⟩, ⟨102, _, _, _, _, h2⟩]) ?_
      simp [zS, callF, aStrs]
      repeat apply wq
      refine wps_ret ?_
      simp [retVal, Tryz.f81, oneOr, thenQ, blockQ]
      exact ends_pure rfl (by simp [inW])
     ·repeat apply wq
      refine wps_region callOK ?_
      simp [zS, c0, a3, ixStr hq1l, kS, c1, d0i, ixStr hql, kS, d1]
      repeat apply wq
      refine wps_cf rfl ?_
      repeat apply wq
      refine wps_skip ?_
      simp
      repeat apply wq
      refine wps_region callOK ?_
      simp [zS, add_one (show j ≤ 1000000000 by omega)]
      exact nxt _ (fun hwa => by have := hwa.post _ (by rw [← hq]; exact List.getElem?_eq_getElem hql); rw [d1] at this; cases this) ⟨[], [], ⟨rfl, rfl, rfl, by simp [fitL, fitV, pureV, pureL], FitH.nothing⟩⟩
   ·repeat apply wq
    refine wps_region callOK ?_
    simp [zS, c0, a3, ixStr hq1l, kS, c1]
    repeat apply wq
    refine wps_cf rfl ?_
    repeat apply wq
    refine wps_skip ?_
    simp
    repeat apply wq
    refine wps_region callOK ?_
    simp [zS, add_one (show j ≤ 1000000000 by omega)]
    exact nxt _ (fun hwa => by have := hwa.pre _ (by omega) (by rw [← hq1, Nat.add_sub_cancel]; exact List.getElem?_eq_getElem hq1l); rw [c1] at this; cases this) ⟨[], [], ⟨rfl, rfl, rfl, by simp [fitL, fitV, pureV, pureL], FitH.nothing⟩⟩
def idxFrom {α : Type} (p : α → Bool) : List α → Nat → Int
 | [], _ => -1
 | a :: r, k => if p a = true then k else idxFrom p r (k + 1)
theorem idxFrom_at {α : Type} {p : α → Bool} {L : List α} {i : Nat} (h : i < L.length) : idxFrom p (L.drop i) i = if p L[i] = true then (i : Int) else idxFrom p (L.drop (i + 1)) (i + 1) := by
 rw [List.drop_eq_getElem_cons h]; rfl
theorem c45 {T : List (Entry Tryz.prog)} (L : List Str) (x : Str) (hl : L.length ≤ 1000000) : CallAt (ctx T) 45 [aStrs L, .str x] ⟨0, []⟩ (.int .i64 (idxFrom (fun y => decide (x = y)) L 0)) ⟨0, []⟩ := by
 refine callAt_body (fn := Tryz.f45) (s0 := ⟨[0, 1, 4, 5, 7, 8], [aStrs L, .str x, .undef, .undef, .undef, .undef], [], 19, ⟨0, [[]]⟩⟩) Tryz.func45 rfl rfl rfl ?_
 repeat apply wq
 refine wps_region callOK ?_
 simp [zS]
 repeat apply wq
 refine wps_region callOK ?_
 simp [zS, lenS]
 repeat apply wq
 refine wps_block (wps_loop' (fun i : Nat => (⟨[0, 1, 4, 5, 7, 8], [aStrs L, .str x, .undef, .undef, .int .i64 (L.length : Nat), .int .i64 i], [], 19, ⟨0, [[]]⟩⟩ : St))
  (fun i => i ≤ L.length ∧ idxFrom (fun y => decide (x = y)) L 0 = idxFrom (fun y => decide (x = y)) (L.drop i) i) (fun i => L.length - i) [] [] 0 ⟨Nat.zero_le _, rfl⟩ ⟨rfl, rfl, rfl, by simp [fitL, fitV, pureV, pureL, aStrs], FitH.nothing⟩ ?_)
 rintro i ⟨hi, hx⟩ B hB
 repeat apply wq
 refine wps_region callOK ?_
 simp [zS]
 repeat apply wq
 refine wps_cond rfl (fun h => ?_) fun h => ?_
 ·simp at h
  rw [idxFrom_at h] at hx
  repeat apply wq
  refine wps_skip ?_
  simp
  repeat apply wq
  refine wps_block ?_
  repeat apply wq
  refine wps_region callOK ?_
  simp [zS]
  by_cases h2 : L[i] = x
  ·repeat apply wq
   refine wps_region callOK ?_
   simp [zS, atS h, h2]
   repeat apply wq
   refine wps_ct rfl ?_
   repeat apply wq
   refine wps_region callOK ?_
   simp [zS]
   repeat apply wq
   refine wps_ret ?_
   simp [retVal, Tryz.f45, oneOr, thenQ, blockQ]
   exact ends_pure rfl (by rw [hx, if_pos (by simp [h2])])
  ·have h2' : ¬ x = L[i] := fun e => h2 e.symm
   repeat apply wq
   refine wps_region callOK ?_
   simp [zS, atS h, h2']
   repeat apply wq
   refine wps_cf rfl ?_
   repeat apply wq
   refine wps_skip ?_
   simp
   repeat apply wq
   refine wps_region callOK ?_
   simp [zS, add_one (show i ≤ 1000000000 by omega)]
   exact hB _ (i + 1) (by omega) ⟨by omega, by rw [hx, if_neg (by simp [h2'])]⟩ ⟨[], [], ⟨rfl, rfl, rfl, by simp [fitL, fitV, pureV, pureL, aStrs], FitH.nothing⟩⟩
 ·simp at h
  repeat apply wq
  refine wps_exit ?_
  simp
  repeat apply wq
  refine wps_region callOK ?_
  simp [zS]
  repeat apply wq
  refine wps_ret ?_
  simp [retVal, Tryz.f45, oneOr, thenQ, blockQ]
  exact ends_pure rfl (by rw [hx, List.drop_eq_nil_of_le h]; rfl)
noncomputable def e45 : Entry Tryz.prog := mkE 45 [[1], []] (fun x : List Str × Str => [aStrs x.1, .str x.2]) (fun x => x.1.length ≤ 1000000) (fun x => .int .i64 (idxFrom (fun y => decide (x.2 = y)) x.1 0)) fun x hx => c45 (T := []) x.1 x.2 hx
theorem injSS (x y : List Str × Str) (h : [aStrs x.1, .str x.2] = [aStrs y.1, .str y.2]) : x = y := by
 simp at h; exact Prod.ext (inj_strs (by simpa [aStrs] using h.1)) h.2
theorem k45 {T : List (Entry Tryz.prog)} (hT : findE 45 T = some e45.g) {L : List Str} (x : Str) (hl : L.length ≤ 1000000) (H : Heap) : callL (ctx T) (.fn 45) [aStrs L, .str x] H = some (.int .i64 (idxFrom (fun y => decide (x = y)) L 0), H) :=
 mkE_scalar hT injSS (L, x) hl rfl (by simp [aStrs])
theorem idx_mem {x : Str} : ∀ (L : List Str) (k : Nat), (0 ≤ idxFrom (fun y => decide (x = y)) L k) ↔ x ∈ L
 | [], k => by simp [idxFrom]
 | y :: r, k => by
  unfold idxFrom
  by_cases h : x = y
  ·simp [h]
  ·simp only [h, decide_false, Bool.false_eq_true, if_false, List.mem_cons, false_or]
   exact idx_mem r (k + 1)
theorem c102 {T : List (Entry Tryz.prog)} (hI : findE 45 T = some e45.g) (L : List Str) (x : Str) (hl : L.length ≤ 1000000) : CallAt (ctx T) 102 [aStrs L, .str x] ⟨0, []⟩ (.bool (decide (x ∈ L))) ⟨0, []⟩ := by
 have hk := fun H => k45 hI x hl H
 have hm := idx_mem (x := x) L 0
 generalize idxFrom (fun y => decide (x = y)) L 0 = v at *
 simp only [aStrs] at hk
 refine callAt_body (fn := Tryz.f102) (s0 := ⟨[0, 1, 4], [aStrs L, .str x, .undef], [], 9, ⟨0, [[]]⟩⟩) Tryz.func102 rfl rfl rfl ?_
 (repeat (first
  | (refine wps_seq ?_)
  | (refine wps_block ?_)
  | (refine wps_label ?_; simp only [thenQ, blockQ])
  | ((refine wps_region callOK ?_); simp [zS, aStrs, hk])
  | (refine wps_ct rfl ?_)
  | (refine wps_cf rfl ?_)
  | ((refine wps_skip ?_); simp only [thenQ, blockQ])
  | ((refine wps_exit ?_); simp [thenQ, blockQ])))
 repeat apply wq
 refine wps_ret ?_
 simp [retVal, Tryz.f102, oneOr, thenQ, blockQ]
 exact ends_pure rfl (by simp [hm])
def wordAt (s : Str) (p : Nat × Nat) : Str := (s.drop p.1).take (p.2 - p.1)
structure SpOk (s : Str) (i : Nat) (L : List (Nat × Nat)) (st : Int) : Prop where
 le : i ≤ s.length
 few : L.length ≤ i
 done : L.map (wordAt s) = (wst (s.take i)).1
 rng : ∀ p, p ∈ L → p.1 ≤ p.2 ∧ p.2 ≤ s.length
 lo : -1000001 ≤ st
 cur : (st < 0 ∧ (wst (s.take i)).2 = []) ∨ ∃ a : Nat, st = a ∧ a < i ∧ (wst (s.take i)).2 = wordAt s (a, i)
theorem fit_sp {H : Heap} {b j : Nat} {s : Str} {cs : List AV} (hb : b ≠ 1) (h1 : H.get 1 = some (.iter s j)) (h2 : H.get b = some (.cells cs)) (hp : pureL cs = true) : FitH 0 [(1, 1), (b, 0)] [] H ⟨2, [[(1, .iter s j), (0, .cells cs)]]⟩ where
 nd1 := by simp; omega
 nd2 := by simp
 nd3 := by simp [Heap.ents]
 lt := fun x hx => by simp at hx; rcases hx with rfl | rfl <;> simp
 idn := fun x hx h => by rcases h with h | h <;> exact absurd h (Nat.not_lt_zero _)
 num := Nat.zero_le _
 src := fun e he => by
  simp [Heap.ents] at he
  rcases he with rfl | rfl
  ·exact ⟨1, _, by simp, h1, by simp [fitB]⟩
  ·exact ⟨b, _, by simp, h2, fitL_pure hp⟩
 frz := fun x hx => by cases hx
theorem word_one {s : Str} {i : Nat} (h : i < s.length) : wordAt s (i, i + 1) = [s[i]] := by
 unfold wordAt
 simp only
 rw [List.drop_eq_getElem_cons h, show i + 1 - i = 1 by omega]
 rfl
theorem word_more {s : Str} {a i : Nat} (h : i < s.length) (ha : a ≤ i) : wordAt s (a, i + 1) = wordAt s (a, i) ++ [s[i]] := by
 unfold wordAt
 simp only
 rw [show i + 1 - a = (i - a) + 1 by omega, List.take_succ_eq_append_getElem (by simp; omega)]
 congr 2
 rw [List.getElem_drop]
 congr 1
 omega
theorem sp_space0 {s : Str} {i : Nat} {L : List (Nat × Nat)} {st : Int} (h : i < s.length) (k : SpOk s i L st) (hs : sp s[i] = true) (h0 : st < 0) : SpOk s (i + 1) L st := by
 have he : (wst (s.take i)).2 = [] := by
  rcases k.cur with ⟨_, h⟩ | ⟨a, ha, _⟩
  ·exact h
  ·omega
 refine ⟨by omega, by have := k.few; omega, ?_, k.rng, k.lo, .inl ⟨h0, ?_⟩⟩
 ·rw [wst_at h]; simp only [wstep, hs, if_true, he, k.done]
 ·rw [wst_at h]; simp only [wstep, hs, if_true]
theorem sp_space1 {s : Str} {i a : Nat} {L : List (Nat × Nat)} (h : i < s.length) (k : SpOk s i L (a : Int)) (hs : sp s[i] = true) (hl : s.length ≤ 1000000) : SpOk s (i + 1) (L ++ [(a, i)]) (-(a : Int) - 1) := by
 obtain ⟨hai, hc⟩ : a < i ∧ (wst (s.take i)).2 = wordAt s (a, i) := by
  rcases k.cur with ⟨h, _⟩ | ⟨b, hb, h1, h2⟩
  ·omega
  ·have : a = b := by omega
   subst this; exact ⟨h1, h2⟩
 have hne : ¬ wordAt s (a, i) = [] := by
  intro e
  have := congrArg List.length e
  simp [wordAt] at this
  omega
 refine ⟨by omega, by have := k.few; simp; omega, ?_, fun p hp => ?_, by omega, .inl ⟨by omega, ?_⟩⟩
 ·rw [wst_at h]; simp only [wstep, hs, if_true, hc, hne, if_false, List.map_append, k.done]; rfl
 ·rcases List.mem_append.1 hp with hp | hp
  ·exact k.rng p hp
  ·simp at hp; subst hp; exact ⟨by simp only; omega, by simp only; omega⟩
 ·rw [wst_at h]; simp only [wstep, hs, if_true]
theorem sp_char0 {s : Str} {i : Nat} {L : List (Nat × Nat)} {st : Int} (h : i < s.length) (k : SpOk s i L st) (hs : sp s[i] = false) (h0 : st < 0) : SpOk s (i + 1) L (i : Int) := by
 have he : (wst (s.take i)).2 = [] := by
  rcases k.cur with ⟨_, h⟩ | ⟨a, ha, _⟩
  ·exact h
  ·omega
 refine ⟨by omega, by have := k.few; omega, ?_, k.rng, by omega, .inr ⟨i, rfl, by omega, ?_⟩⟩
 ·rw [wst_at h]; simp [wstep, hs, k.done]
 ·rw [wst_at h, word_one h]; simp [wstep, hs, he]
theorem sp_char1 {s : Str} {i a : Nat} {L : List (Nat × Nat)} (h : i < s.length) (k : SpOk s i L (a : Int)) (hs : sp s[i] = false) : SpOk s (i + 1) L (a : Int) := by
 obtain ⟨hai, hc⟩ : a < i ∧ (wst (s.take i)).2 = wordAt s (a, i) := by
  rcases k.cur with ⟨h, _⟩ | ⟨b, hb, h1, h2⟩
  ·omega
  ·have : a = b := by omega
   subst this; exact ⟨h1, h2⟩
 refine ⟨by omega, by have := k.few; omega, ?_, k.rng, by omega, .inr ⟨a, rfl, by omega, ?_⟩⟩
 ·rw [wst_at h]; simp [wstep, hs, k.done]
 ·rw [wst_at h, word_more h (by omega)]; simp [wstep, hs, hc]
theorem sp_begin (s : Str) : SpOk s 0 [] (-1) := ⟨Nat.zero_le _, by simp, by simp [wst], by simp, by omega, .inl ⟨by omega, by simp [wst]⟩⟩
theorem sp_end0 {s : Str} {L : List (Nat × Nat)} {st : Int} (k : SpOk s s.length L st) (h0 : st < 0) : L.map (wordAt s) = wsplit s := by
 have he : (wst (s.take s.length)).2 = [] := by
  rcases k.cur with ⟨_, h⟩ | ⟨a, ha, _⟩
  ·exact h
  ·omega
 have hd := k.done
 rw [List.take_of_length_le (Nat.le_refl _)] at hd he
 rw [hd, wsplit, wfin, if_pos he]
theorem sp_end1 {s : Str} {a : Nat} {L : List (Nat × Nat)} (k : SpOk s s.length L (a : Int)) : (L ++ [(a, s.length)]).map (wordAt s) = wsplit s ∧ a < s.length := by
 obtain ⟨hai, hc⟩ : a < s.length ∧ (wst (s.take s.length)).2 = wordAt s (a, s.length) := by
  rcases k.cur with ⟨h, _⟩ | ⟨b, hb, h1, h2⟩
  ·omega
  ·have : a = b := by omega
   subst this; exact ⟨h1, h2⟩
 have hne : ¬ wordAt s (a, s.length) = [] := by
  intro e
  have := congrArg List.length e
  simp [wordAt] at this
  omega
 have hd := k.done
 rw [List.take_of_length_le (Nat.le_refl _)] at hd hc
 refine ⟨?_, hai⟩
 rw [List.map_append, hd, wsplit, wfin, hc, if_neg hne]
 rfl
theorem xor_not {a : Nat} (h : a ≤ 1000000) : unA .xor (.int .i64 (a : Int)) = some (.int .i64 (-(a : Int) - 1)) := by
 have h1 : (BitVec.ofInt 64 (-1) ^^^ BitVec.ofInt 64 (a : Int)).toNat = 18446744073709551615 - a := by
  have e1 : BitVec.ofInt 64 (-1) = BitVec.allOnes 64 := by decide
  have e2 : BitVec.ofInt 64 (a : Int) = BitVec.ofNat 64 a := by simp
  rw [e1, e2, BitVec.allOnes_xor, BitVec.toNat_not, BitVec.toNat_ofNat]
  omega
 show some (AV.int .i64 (IntKind.i64.wrap ((BitVec.ofInt 64 (-1) ^^^ BitVec.ofInt 64 (a : Int)).toNat : Int))) = _
 rw [h1]
 have h2 : IntKind.i64.wrap ((18446744073709551615 - a : Nat) : Int) = -(a : Int) - 1 := by
  have h3 : ((18446744073709551615 - a : Nat) : Int) = 18446744073709551615 - (a : Int) := by omega
  rw [h3]
  simp [IntKind.wrap, IntKind.signed, IntKind.bits]
  omega
 rw [h2]
@[simp] theorem fr_range {d : Option Tmp} {t : TypeId} {l : Operand} {ty : TypeId} {pos : String} {af : Array Edge} {g : Option (Nat × Bool)} {s : St} : freshen s ⟨d, .range t l, ty, pos, af, g⟩ = s := rfl
@[simp] theorem fr_next {d : Option Tmp} {b : Bool} {l : Operand} {ty : TypeId} {pos : String} {af : Array Edge} {g : Option (Nat × Bool)} {s : St} : freshen s ⟨d, .next l b, ty, pos, af, g⟩ = s := rfl
def bls (n : Nat) : List AV := List.replicate n (.str [])
def sts (L : List Str) : List AV := L.map .str
theorem bls_pure (n : Nat) : pureL (bls n) = true := by
 induction n with
 | zero => rfl
 | succ n ih => simp only [bls, List.replicate_succ] at ih ⊢; simp [pureL, pureV, ih]
theorem sts_pure (L : List Str) : pureL (sts L) = true := by
 induction L with
 | nil => rfl
 | cons a r ih => simp only [sts, List.map_cons] at ih ⊢; simp [pureL, pureV, ih]
theorem sts_set {X : List Str} {k : Nat} {w : Str} : (sts X ++ bls (k + 1)).set X.length (.str w) = sts (X ++ [w]) ++ bls k := by
 rw [List.set_append_right _ _ (by simp [sts])]
 simp [sts, bls, List.replicate_succ]
theorem mkStrs {H : Heap} {n : Nat} (h : n ≤ 1000000) : makeSliceA Tryz.prog H 22 (.int .i64 (n : Int)) (.int .i64 (n : Int)) = some (.slc H.n 0 n (.ex n), H.new (.cells (bls n))) := by
 have hr : ∀ n, replL [AV.str []] n = bls n := fun n => by
  induction n with
  | zero => rfl
  | succ n ih => simp [replL, ih, bls, List.replicate_succ]
 have h1 : idx (n : Int) 17592186044416 = some n := idx_nat (by omega)
 have h2 : idx (n : Int) (Nat.succ n) = some n := idx_nat (by omega)
 have h3 : roomOK n 16 = true := by unfold roomOK; rw [Nat.ble_eq]; omega
 unfold makeSliceA msB
 simp [h1, h2, h3, hr]
theorem mkSp {H : Heap} : makeSliceA Tryz.prog H 92 (.int .i64 0) (.int .i64 32) = some (.slc H.n 0 0 (.ex 32), H.new (.cells (zeros 64))) := rfl
theorem ixS {b n i : Nat} {c : Cap} (h : i < n) : indexAddrA Tryz.prog 22 (.slc b 0 n c) (.int .i64 (i : Int)) = some (.ptr b i) := by
 simp [indexAddrA, idx_nat h]
theorem layS {v : AV} : ∀ {cs : List AV} {i : Nat}, i < cs.length → layL [v] i cs = some (cs.set i v)
 | [], _, h => absurd h (Nat.not_lt_zero _)
 | x :: r, 0, _ => by simp [layL, overL]
 | x :: r, i + 1, h => by
  simp only [layL, layS (cs := r) (i := i) (by simpa using h)]
  rfl
def aSp (L : List (Nat × Nat)) : AV := .fslc 2 (L.map spn)
theorem atSp {L : List (Nat × Nat)} {i : Nat} (h : i < L.length) : indexAddrA Tryz.prog 92 (aSp L) (.int .i64 (i : Int)) = some (.fptr [.int .i64 ((L[i]).1 : Int), .int .i64 ((L[i]).2 : Int)] 0) := by
 simp [indexAddrA, aSp, idx_nat h, getL_map h]
 simp [spn]
theorem lenSp {H : Heap} {L : List (Nat × Nat)} : lenA Tryz.prog H 92 (aSp L) = some L.length := by simp [lenA, aSp]
theorem slW {H : Heap} {s : Str} {a b : Nat} (h1 : a ≤ b) (h2 : b ≤ s.length) : sliceA Tryz.prog H 9 (.str s) (some (.int .i64 (a : Int))) (some (.int .i64 (b : Int))) none = some (.str (wordAt s (a, b))) := by
 have i1 : idx (b : Int) (Nat.succ s.length) = some b := idx_nat (by omega)
 have i2 : idx (a : Int) (Nat.succ b) = some a := idx_nat (by omega)
 simp [sliceA, hiOK, bound, i1, i2, wordAt, List.drop_take]
theorem nx_yes {m i : Nat} {s : Str} {B : Blk} (h : i < s.length) (hc : s[i].toNat < 128) : nextA ⟨m, [[(1, .iter s i), (0, B)]]⟩ 1 = some (.tup [.bool true, .int .i64 i, .int .i32 (s[i].toNat : Int)], ⟨m, [[(1, .iter s (i + 1)), (0, B)]]⟩) := by
 have hb : Nat.blt i s.length = true := by simpa using h
 simp [nextA, Heap.get, getFs, getF, hb, dec_ascii h hc, Heap.set, setFs, setF]
theorem nx_no {m i : Nat} {s : Str} {B : Blk} (h : ¬ i < s.length) : nextA ⟨m, [[(1, .iter s i), (0, B)]]⟩ 1 = some (.tup [.bool false], ⟨m, [[(1, .iter s i), (0, B)]]⟩) := by
 have hb : Nat.blt i s.length = false := by
  cases hq : Nat.blt i s.length with
  | false => rfl
  | true => exact absurd (by simpa using hq) h
 simp [nextA, Heap.get, getFs, getF, hb]
theorem spV_yes (n : Nat) (b : Nat) : ∃ c, (if n ≤ 32 then AV.slc b 0 n (.ex 32) else AV.slc b 0 n (.rest 2)) = .slc b 0 n c ∧ spV n = .slc 0 0 n c := by
 unfold spV
 split
 ·exact ⟨_, rfl, rfl⟩
 ·exact ⟨_, rfl, rfl⟩
theorem fit_spV {L : List (Nat × Nat)} {σ : List (Nat × Nat)} {Φ : List (Nat × List AV)} (h : lookC 0 Φ = some (spB L)) : fitV σ Φ (spV L.length) (aSp L) := by
 obtain ⟨c, _, hc⟩ := spV_yes L.length 0
 rw [hc]
 simp only [aSp, fitV]
 refine .inl ⟨_, h, ?_, by simp, (el_spn L).size⟩
 rw [flat_spn, sub_spB]
theorem fit_all {H : Heap} {b : Nat} {cs : List AV} (h : H.get b = some (.cells cs)) (hp : pureL cs = true) : FitH 0 [] [(b, cs)] H ⟨0, [[]]⟩ := by
 refine ⟨by simp, by simp, by simp [Heap.ents], fun x h => (by cases h), fun x h => (by cases h), Nat.le_refl _, fun e h => (by simp [Heap.ents] at h), fun x hx => ?_⟩
 rw [List.mem_singleton] at hx
 subst hx
 exact ⟨_, h, fitL_pure hp, hp⟩
theorem fit_spVV {n : Nat} : fitV [(1, 1), (0, 0)] [] (spV n) (spV n) := by
 obtain ⟨c, _, hc⟩ := spV_yes n 0
 rw [hc]
 simp [fitV, lookN]
def sbC : List Nat → Code → Code
 | [], c => c
 | d :: r, c => match c with
  | .seq a b => match d with
   | 0 => sbC r a
   | _ => sbC r b
  | c => c
def bdO (f : Func) : Code := match f.body with
 | some c => c
 | none => .skip
theorem flat_sts : ∀ (L : List Str), flatAV (L.map AV.str) = sts L
 | [] => rfl
 | a :: r => by simp only [List.map_cons, flatAV, flat_sts r]; rfl
noncomputable def cdFF : Code := sbC [1, 1, 1, 1, 1] (bdO Tryz.f65)
theorem ff_rest {T : List (Entry Tryz.prog)} (s : Str) (L : List (Nat × Nat)) (hL : L.length ≤ 1000000) (hr : ∀ p, p ∈ L → p.1 ≤ p.2 ∧ p.2 ≤ s.length) (W : List Str) (hW : L.map (wordAt s) = W) :
  WpSr (ctx T) 0 none cdFF ((⟨[0, 1, 4, 5, 6, 7, 8, 9, 10, 11, 14, 15, 47, 48, 49], [.str s, .undef, .nilS, aSp L, .undef, .undef, .undef, .undef, .undef, .undef, .undef, .undef, .undef, .undef, .undef], [], 65, ⟨0, [[]]⟩⟩ : St)) (fun x s => (x = .normal ∨ x = .ret) ∧ ∃ vs, retVal (ctx T) s [.tmp 4] = some vs ∧ ∃ σ Φ, fitV σ Φ (oneOr vs) (aStrs W) ∧ FitH 0 σ Φ s.H ⟨0, []⟩) := by
 simp only [cdFF, sbC, bdO, Tryz.f65]
 have hm := fun H => mkStrs (H := H) (n := L.length) hL
 repeat apply wq
 refine wps_region callOK ?_
 simp [zS, lenSp, hm]
 repeat apply wq
 refine wps_region callOK ?_
 simp [zS, lenSp]
 obtain ⟨F, hF⟩ : ∃ F : Nat → List Str, F = fun i => (L.take i).map (wordAt s) := ⟨_, rfl⟩
 have hF0 : F 0 = [] := by rw [hF]; simp
 have hFl : ∀ i, i ≤ L.length → (F i).length = i := fun i hi => by rw [hF]; simp; omega
 have hFs : ∀ (i : Nat) (h : i < L.length), F (i + 1) = F i ++ [wordAt s L[i]] := fun i h => by
  rw [hF]
  show (L.take (i + 1)).map (wordAt s) = _
  rw [List.take_succ_eq_append_getElem h, List.map_append]; rfl
 have hFn : F L.length = W := by rw [hF, ← hW]; simp
 repeat apply wq
 refine wps_block (wps_loop' (fun i : Nat => (⟨[0, 1, 4, 5, 6, 7, 8, 9, 10, 11, 14, 15, 47, 48, 49], [.str s, .undef, .nilS, .undef, .undef, .undef, .undef, .slc 0 0 L.length (.ex L.length), .undef, .undef, .undef, .undef, aSp L, .int .i64 (L.length : Nat), .int .i64 i], [], 65, ⟨1, [[(0, .cells (sts (F i) ++ bls (L.length - i)))]]⟩⟩ : St))
  (fun i => i ≤ L.length) (fun i => L.length - i) [(0, 0)] [] 0 (Nat.zero_le _)
  ⟨rfl, rfl, rfl, by simp [fitL, fitV, lookN, pureV, aSp], .keep1 (b := 0) (by rw [hF0]; simp [Heap.get, getFs, getF, sts]) (by rw [pureL_append, sts_pure, bls_pure]; rfl) rfl⟩ ?_)
 rintro i hi B hB
 repeat apply wq
 refine wps_region callOK ?_
 simp [zS]
 repeat apply wq
 refine wps_cond rfl (fun h => ?_) fun h => ?_
 ·simp at h
  repeat apply wq
  refine wps_skip ?_
  simp
  repeat apply wq
  refine wps_block ?_
  obtain ⟨r1, r2⟩ := hr L[i] (List.getElem_mem _)
  have hw := fun H => slW (H := H) r1 r2
  have hlen : i < (sts (F i) ++ bls (L.length - i)).length := by simp [sts, bls, hFl i hi]; omega
  have hset : (sts (F i) ++ bls (L.length - i)).set i (.str (wordAt s ((L[i]).1, (L[i]).2))) = sts (F (i + 1)) ++ bls (L.length - (i + 1)) := by
   have := sts_set (X := F i) (k := L.length - (i + 1)) (w := wordAt s L[i])
   rw [hFl i hi, ← hFs i h] at this
   rw [show L.length - i = L.length - (i + 1) + 1 by omega]
   exact this
  have hla := layS (v := .str (wordAt s ((L[i]).1, (L[i]).2))) hlen
  rw [hset] at hla
  generalize sts (F i) ++ bls (L.length - i) = C0 at *
  generalize hC1 : sts (F (i + 1)) ++ bls (L.length - (i + 1)) = C1 at *
  repeat apply wq
  refine wps_region callOK ?_
  simp [zS, atSp h]
  repeat apply wq
  refine wps_region callOK ?_
  simp [zS, hw, ixS h, hla]
  repeat apply wq
  refine wps_region callOK ?_
  simp [zS, add_one (show i ≤ 1000000000 by omega)]
  refine hB _ (i + 1) (by omega) (by omega) ⟨[(0, 0)], [], rfl, rfl, rfl, by simp [fitL, fitV, lookN, pureV, aSp], ?_⟩
  rw [hC1]
  exact .keep1 (b := 0) (by simp [Heap.get, getFs, getF]) (by rw [← hC1, pureL_append, sts_pure, bls_pure]; rfl) rfl
 ·simp at h
  have hie : i = L.length := by omega
  subst hie
  have hz : sts (F L.length) ++ bls (L.length - L.length) = sts W := by rw [Nat.sub_self, hFn]; simp [bls]
  have hlW : W.length = L.length := by rw [← hW]; simp
  rw [hz, ← hlW]
  repeat apply wq
  refine wps_exit ?_
  simp
  repeat apply wq
  refine wps_region callOK ?_
  simp [zS]
  repeat apply wq
  refine wps_ret ?_
  simp [retVal, oneOr]
  refine ⟨[], [(0, sts W)], ?_, .froze (by simp) fun y hy => ?_⟩
  ·have hf := flat_sts W
   simp only [fitV]
   refine .inl ⟨sts W, by simp [lookC], ?_, by simp, (el_str W).size⟩
   rw [hf, subL_front (by simp [sts]), List.drop_zero, List.take_of_length_le (by simp [sts])]
  ·rw [List.mem_singleton] at hy
   subst hy
   exact ⟨_, by simp [Heap.get, getFs, getF], fitL_pure (sts_pure W), sts_pure W⟩
theorem c65 {T : List (Entry Tryz.prog)} (s : Str) (hs : asciiB s) (hl : s.length ≤ 900000) (clo : FuncId) (hp : ∀ c : UInt8, c.toNat < 128 → CallAt (ctx T) clo [.int .i32 (c.toNat : Int)] ⟨0, []⟩ (.bool (sp c)) ⟨0, []⟩) :
  CallAt (ctx T) 65 [.str s, .func (.func clo) [] []] ⟨0, []⟩ (aStrs (wsplit s)) ⟨0, []⟩ := by
 have hm1 : wr .i64 (0 - 1) = some (-1) := rfl
 refine callAt_body (fn := Tryz.f65) (s0 := ⟨[0, 1, 4, 5, 6, 7, 8, 9, 10, 11, 14, 15, 47, 48, 49], [.str s, .func (.func clo) [] [], .undef, .undef, .undef, .undef, .undef, .undef, .undef, .undef, .undef, .undef, .undef, .undef, .undef], [], 65, ⟨0, [[]]⟩⟩) Tryz.func65 rfl rfl rfl ?_
 repeat apply wq
 refine wps_region callOK ?_
 simp [zS]
 repeat apply wq
 refine wps_region callOK ?_
 simp [zS, mkSp]
 repeat apply wq
 refine wps_region callOK ?_
 simp [zS]
 repeat apply wq
 refine wps_region callOK ?_
 simp [zS, rgV]
 repeat apply wq
 refine wps_block (wps_loop' (fun x : Nat × List (Nat × Nat) × Int => (⟨[0, 1, 4, 5, 6, 7, 8, 9, 10, 11, 14, 15, 47, 48, 49], [.str s, .func (.func clo) [] [], .nilS, spV x.2.1.length, .int .i64 x.2.2, .undef, .undef, .undef, .undef, .undef, .ptr 1 0, .undef, .undef, .undef, .undef], [], 65, ⟨2, [[(1, .iter s x.1), (0, .cells (spB x.2.1))]]⟩⟩ : St))
  (fun x => SpOk s x.1 x.2.1 x.2.2) (fun x => s.length - x.1) [(1, 1), (0, 0)] [] (0, [], -1) (sp_begin s)
  ⟨rfl, rfl, rfl, by simp [fitL, fitV, lookN, pureV, pureL, spV], fit_sp (by omega) (by simp [Heap.get, getFs, getF]) (by simp [Heap.get, getFs, getF, spB, spnC]) (spB_pure _)⟩ ?_)
 rintro ⟨i, L, st⟩ hk B hB
 have hi := hk.le
 have hfew := hk.few
 have hlo := hk.lo
 simp only at hi hfew hlo hk
 by_cases h : i < s.length
 ·have hc : s[i].toNat < 128 := hs _ (List.getElem_mem _)
  have hbu : ∀ a : Nat, buildA Tryz.prog 94 [(0, .int .i64 (a : Int)), (1, .int .i64 (i : Int))] = some (.agg [.int .i64 (a : Int), .int .i64 (i : Int)]) := fun a => rfl
  have hcall := (hp s[i] hc).lift (by simp [pureL, pureV]) ⟨2, [[(1, .iter s (i + 1)), (0, .cells (spB L))]]⟩
  have stay : ∀ (st' : Int) (σ0 : Unit), SpOk s (i + 1) L st' → ∀ s' : St, Fit 0 [(1, 1), (0, 0)] [] s' ((⟨[0, 1, 4, 5, 6, 7, 8, 9, 10, 11, 14, 15, 47, 48, 49], [.str s, .func (.func clo) [] [], .nilS, spV L.length, .int .i64 st', .undef, .undef, .undef, .undef, .undef, .ptr 1 0, .undef, .undef, .undef, .undef], [], 65, ⟨2, [[(1, .iter s (i + 1)), (0, .cells (spB L))]]⟩⟩ : St)) → B s' := fun st' _ hok s' hf => hB s' (i + 1, L, st') (by simp only; omega) hok ⟨_, _, hf⟩
  repeat apply wq
  refine wps_region callOK ?_
  simp [zS, nxV, nx_yes h hc]
  repeat apply wq
  refine wps_ct rfl ?_
  repeat apply wq
  refine wps_skip ?_
  simp
  repeat apply wq
  refine wps_block ?_
  rcases Bool.eq_false_or_eq_true (sp s[i]) with hsp | hsp
  ·rw [hsp] at hcall
   repeat apply wq
   refine wps_region callOK ?_
   simp [zS]
   repeat apply wq
   refine wps_region (callOKF [⟨clo, _, _, _, _, hcall⟩]) ?_
   simp [zS, callF]
   repeat apply wq
   refine wps_ct rfl ?_
   rcases hk.cur with ⟨h0, _⟩ | ⟨a, ha, hai, _⟩
   ·have hge : ¬ (0 : Int) ≤ st := by omega
    repeat apply wq
    refine wps_region callOK ?_
    simp [zS, hge]
    repeat apply wq
    refine wps_cf rfl ?_
    repeat apply wq
    refine wps_skip ?_
    simp
    exact stay st () (sp_space0 h hk hsp h0) _ ⟨rfl, rfl, rfl, by simp [fitL, fitV, lookN, pureV, pureL, fit_spVV], fit_sp (by omega) (by simp [Heap.get, getFs, getF]) (by simp [Heap.get, getFs, getF]) (spB_pure _)⟩
   ·subst ha
    have hge : (0 : Int) ≤ (a : Int) := by omega
    obtain ⟨b, m, f, hb1, happ, hg1, hg2⟩ := app_sp (L := L) (p := (a, i)) (I := .iter s (i + 1)) (by omega)
    have hxo := xor_not (a := a) (by omega)
    obtain ⟨c, e1, e2⟩ := spV_yes (L.length + 1) b
    simp only [e1] at happ
    repeat apply wq
    refine wps_region callOK ?_
    simp [zS, hge]
    repeat apply wq
    refine wps_ct (by simp [opnd, St.get]) ?_
    repeat apply wq
    refine wps_region callOK ?_
    simp [zS, hbu, happ]
    repeat apply wq
    refine wps_region callOK ?_
    simp [zS, hxo]
    refine hB _ (i + 1, L ++ [(a, i)], -(a : Int) - 1) (by simp only; omega) (sp_space1 h hk hsp (by omega)) ⟨[(1, 1), (b, 0)], [], rfl, rfl, rfl, ?_, fit_sp hb1 hg1 hg2 (spB_pure _)⟩
    simp only [List.length_append, List.length_cons, List.length_nil, Nat.zero_add, e2]
    simp [fitL, fitV, lookN, pureV, pureL]
    omega
  ·rw [hsp] at hcall
   repeat apply wq
   refine wps_region callOK ?_
   simp [zS]
   repeat apply wq
   refine wps_region (callOKF [⟨clo, _, _, _, _, hcall⟩]) ?_
   simp [zS, callF]
   repeat apply wq
   refine wps_cf rfl ?_
   rcases hk.cur with ⟨h0, _⟩ | ⟨a, ha, hai, _⟩
   ·repeat apply wq
    refine wps_region callOK ?_
    simp [zS, h0]
    repeat apply wq
    refine wps_ct rfl ?_
    repeat apply wq
    refine wps_region callOK ?_
    simp [zS]
    exact stay i () (sp_char0 h hk hsp h0) _ ⟨rfl, rfl, rfl, by simp [fitL, fitV, lookN, pureV, pureL, fit_spVV], fit_sp (by omega) (by simp [Heap.get, getFs, getF]) (by simp [Heap.get, getFs, getF]) (spB_pure _)⟩
   ·subst ha
    have hge : ¬ (a : Int) < 0 := by omega
    repeat apply wq
    refine wps_region callOK ?_
    simp [zS, hge]
    repeat apply wq
    refine wps_cf (by simp [opnd, St.get, hge]) ?_
    repeat apply wq
    refine wps_skip ?_
    simp
    exact stay a () (sp_char1 h hk hsp) _ ⟨rfl, rfl, rfl, by simp [fitL, fitV, lookN, pureV, pureL, fit_spVV], fit_sp (by omega) (by simp [Heap.get, getFs, getF]) (by simp [Heap.get, getFs, getF]) (spB_pure _)⟩
 ·have hie : i = s.length := by omega
  subst hie
  have hbu : ∀ a : Nat, buildA Tryz.prog 94 [(0, .int .i64 (a : Int)), (1, .int .i64 (s.length : Int))] = some (.agg [.int .i64 (a : Int), .int .i64 (s.length : Int)]) := fun a => rfl
  repeat apply wq
  refine wps_region callOK ?_
  simp [zS, nxV, nx_no h]
  repeat apply wq
  refine wps_cf rfl ?_
  repeat apply wq
  refine wps_exit ?_
  simp
  rcases hk.cur with ⟨h0, _⟩ | ⟨a, ha, hai, _⟩
  ·have hge : ¬ (0 : Int) ≤ st := by omega
   repeat apply wq
   refine wps_region callOK ?_
   simp [zS, hge]
   repeat apply wq
   refine wps_cf (by simp [opnd, St.get, hge]) ?_
   repeat apply wq
   refine wps_skip ?_
   simp only [thenQ]
   refine WpSr.fit [] [(0, spB L)] (s' := (⟨[0, 1, 4, 5, 6, 7, 8, 9, 10, 11, 14, 15, 47, 48, 49], [.str s, .undef, .nilS, aSp L, .undef, .undef, .undef, .undef, .undef, .undef, .undef, .undef, .undef, .undef, .undef], [], 65, ⟨0, [[]]⟩⟩ : St)) ⟨rfl, rfl, rfl, by simp [fitL, fitV, pureV]; exact fit_spV (by simp [lookC]), ?_⟩ (ff_rest s L (by omega) hk.rng _ (sp_end0 hk h0))
   exact fit_all (by simp [Heap.get, getFs, getF]) (spB_pure _)
  ·subst ha
   obtain ⟨hw, hal⟩ := sp_end1 hk
   have hge : (0 : Int) ≤ (a : Int) := by omega
   obtain ⟨b, m, f, hb1, happ, hg1, hg2⟩ := app_sp (L := L) (p := (a, s.length)) (I := .iter s s.length) (by omega)
   obtain ⟨c, e1, e2⟩ := spV_yes (L.length + 1) b
   simp only [e1] at happ
   repeat apply wq
   refine wps_region callOK ?_
   simp [zS, hge]
   repeat apply wq
   refine wps_ct (by simp [opnd, St.get]) ?_
   repeat apply wq
   refine wps_region callOK ?_
   simp [zS, hbu, happ]
   have hfv : fitV [] [(b, spB (L ++ [(a, s.length)]))] (.slc b 0 (L.length + 1) c) (aSp (L ++ [(a, s.length)])) := by
    simp only [aSp, fitV]
    refine .inl ⟨_, by simp [lookC]; rfl, ?_, by simp, (el_spn _).size⟩
    have := sub_spB (L ++ [(a, s.length)])
    rw [flat_spn]
    simpa using this
   refine WpSr.fit [] [(b, spB (L ++ [(a, s.length)]))] (s' := (⟨[0, 1, 4, 5, 6, 7, 8, 9, 10, 11, 14, 15, 47, 48, 49], [.str s, .undef, .nilS, aSp (L ++ [(a, s.length)]), .undef, .undef, .undef, .undef, .undef, .undef, .undef, .undef, .undef, .undef, .undef], [], 65, ⟨0, [[]]⟩⟩ : St)) ⟨rfl, rfl, rfl, by simp [fitL, fitV, pureV] at hfv ⊢; exact hfv, ?_⟩ (ff_rest s (L ++ [(a, s.length)]) (by simp; omega) (fun p hp => ?_) _ hw)
   ·exact fit_all hg2 (spB_pure _)
   ·rcases List.mem_append.1 hp with hp | hp
    ·exact hk.rng p hp
    ·simp at hp; subst hp; exact ⟨by simp only; omega, by simp only; omega⟩
theorem c37 {T : List (Entry Tryz.prog)} (s : Str) (hs : asciiB s) (hl : s.length ≤ 900000) : CallAt (ctx T) 37 [.str s] ⟨0, []⟩ (aStrs (wsplit s)) ⟨0, []⟩ := by
 have hc := (c65 (T := T) s hs hl 66 fun c h => c66 (T := [e67]) rfl c h).lift (by simp [pureL, pureV]) ⟨0, [[]]⟩
 generalize wsplit s = W at *
 refine callAt_body (fn := Tryz.f37) (s0 := ⟨[0, 2], [.str s, .undef], [], 5, ⟨0, [[]]⟩⟩) Tryz.func37 rfl rfl rfl ?_
 repeat apply wq
 refine wps_region callOK ?_
 simp [zS]
 repeat apply wq
 refine wps_region (callOKF [⟨65, _, _, _, _, hc⟩]) ?_
 simp [zS, callF]
 repeat apply wq
 refine wps_ret ?_
 simp [retVal, Tryz.f37, oneOr, thenQ, blockQ]
 first | exact ⟨[], [], FitH.empty⟩ | exact ends_pure rfl (by rfl)
end Go.Proofs.YtfncefamflainaaGreatDoor