/- A variable that holds a slice, at any place, in any heap. No condition. -/
import Derived.Test.YtgpjifeeneeiaaaGreatDoorNI
import Derived.Lib.Builder
import Derived.Test.YtgpjifeeneeiaaaGreatDoorNG
import Derived.Test.YtgpjifeeneeiaaaGreatDoorNH
namespace Go.Proofs.YtgpjifeeneeiaaaGreatDoor
set_option linter.unusedSimpArgs false
set_option linter.unusedVariables false
open Go Go.RowKit
set_option maxRecDepth 100000
abbrev wVoid : Str := [97, 114, 101, 97, 32, 98, 97, 115, 101, 32, 98, 97, 115, 101, 102, 111, 110, 116, 32, 98, 103, 115, 111, 117, 110, 100, 32, 98, 114, 32, 99, 111, 108, 32, 101, 109, 98, 101, 100, 32, 102, 114, 97, 109, 101, 32, 104, 114, 32, 105, 109, 103, 32, 105, 110, 112, 117, 116, 32, 107, 101, 121, 103, 101, 110, 32, 108, 105, 110, 107, 32, 109, 101, 116, 97, 32, 112, 97, 114, 97, 109, 32, 115, 111, 117, 114, 99, 101, 32, 116, 114, 97, 99, 107, 32, 119, 98, 114]
theorem split_void : splitOK (wsplit wVoid) (callN (ctx []) 100000 (.fn 80) [.str wVoid] ⟨0, []⟩) = true := by decide +kernel
theorem c80v {T : List (Entry Tryz.prog)} : CallAt (ctx T) 80 [.str wVoid] ⟨0, []⟩ (aStrs (wsplit wVoid)) ⟨0, []⟩ := closedSplit (T := []) split_void
theorem c116 {T : List (Entry Tryz.prog)} (L : List Str) (x : Str) (hl : L.length ≤ 1000000) : CallAt (ctx T) 116 [aStrs L, .str x] ⟨0, []⟩ (.int .i64 (idxFrom (fun y => decide (x = y)) L 0)) ⟨0, []⟩ := by
 refine callAt_body (fn := Tryz.f116) (s0 := ⟨[0, 1, 4, 5, 7, 8], [aStrs L, .str x, .undef, .undef, .undef, .undef], [], 19, ⟨0, [[]]⟩⟩) Tryz.func116 rfl rfl rfl ?_
 repeat apply wq
 refine wps_region callOK ?_
 simp [zS]
 repeat apply wq
 refine wps_region callOK ?_
 simp [zS, lenS]
 repeat apply wq
 refine wps_block (wps_loop' (fun i : Nat => (⟨[0, 1, 4, 5, 7, 8], [aStrs L, .str x, .undef, .undef, .int .i64 (L.length : Nat), .int .i64 i], [], 19, ⟨0, [[]]⟩⟩ : St))
  (fun i => i ≤ L.length ∧ idxFrom (fun y => decide (x = y)) L 0 = idxFrom (fun y => decide (x = y)) (L.drop i) i) (fun i => L.length - i) [] [] 0 ⟨Nat.zero_le _, rfl⟩ ⟨rfl, rfl, rfl, by simp [fitL, fitV, pureV, pureL, aStrs], FitH.nothing⟩ ?_)
 rintro i ⟨hi, hx⟩ B hB
 repeat apply wq
 refine wps_region callOK ?_
 simp [zS]
 repeat apply wq
 refine wps_cond rfl (fun h => ?_) fun h => ?_
 ·simp at h
  rw [idxFrom_at h] at hx
  repeat apply wq
  refine wps_skip ?_
  simp
  repeat apply wq
  refine wps_block ?_
  repeat apply wq
  refine wps_region callOK ?_
  simp [zS]
  by_cases h2 : L[i] = x
  ·repeat apply wq
   refine wps_region callOK ?_
   simp [zS, atS h, h2]
   repeat apply wq
   refine wps_ct rfl ?_
   repeat apply wq
   refine wps_region callOK ?_
   simp [zS]
   repeat apply wq
   refine wps_ret ?_
   simp [retVal, Tryz.f116, oneOr, thenQ, blockQ]
   exact ends_pure rfl (by rw [hx, if_pos (by simp [h2])])
  ·have h2' : ¬ x = L[i] := fun e => h2 e.symm
   repeat apply wq
   refine wps_region callOK ?_
   simp [zS, atS h, h2']
   repeat apply wq
   refine wps_cf rfl ?_
   repeat apply wq
   refine wps_skip ?_
   simp
   repeat apply wq
   refine wps_region callOK ?_
   simp [zS, add_one (show i ≤ 1000000000 by omega)]
   exact hB _ (i + 1) (by omega) ⟨by omega, by rw [hx, if_neg (by simp [h2'])]⟩ ⟨[], [], ⟨rfl, rfl, rfl, by simp [fitL, fitV, pureV, pureL, aStrs], FitH.nothing⟩⟩
 ·simp at h
  repeat apply wq
  refine wps_exit ?_
  simp
  repeat apply wq
  refine wps_region callOK ?_
  simp [zS]
  repeat apply wq
  refine wps_ret ?_
  simp [retVal, Tryz.f116, oneOr, thenQ, blockQ]
  exact ends_pure rfl (by rw [hx, List.drop_eq_nil_of_le h]; rfl)
noncomputable def e116 : Entry Tryz.prog := mkE 116 [[1], []] (fun x : List Str × Str => [aStrs x.1, .str x.2]) (fun x => x.1.length ≤ 1000000) (fun x => .int .i64 (idxFrom (fun y => decide (x.2 = y)) x.1 0)) fun x hx => c116 (T := []) x.1 x.2 hx
theorem injSS (x y : List Str × Str) (h : [aStrs x.1, .str x.2] = [aStrs y.1, .str y.2]) : x = y := by
 simp at h; exact Prod.ext (inj_strs (by simpa [aStrs] using h.1)) h.2
theorem k116 {T : List (Entry Tryz.prog)} (hT : findE 116 T = some e116.g) {L : List Str} (x : Str) (hl : L.length ≤ 1000000) (H : Heap) : callL (ctx T) (.fn 116) [aStrs L, .str x] H = some (.int .i64 (idxFrom (fun y => decide (x = y)) L 0), H) :=
 mkE_scalar hT injSS (L, x) hl rfl (by simp [aStrs])
theorem idx_mem {x : Str} : ∀ (L : List Str) (k : Nat), (0 ≤ idxFrom (fun y => decide (x = y)) L k) ↔ x ∈ L
 | [], k => by simp [idxFrom]
 | y :: r, k => by
  unfold idxFrom
  by_cases h : x = y
  ·simp [h]
  ·simp only [h, decide_false, Bool.false_eq_true, if_false, List.mem_cons, false_or]
   exact idx_mem r (k + 1)
theorem c79 {T : List (Entry Tryz.prog)} (hI : findE 116 T = some e116.g) (L : List Str) (x : Str) (hl : L.length ≤ 1000000) : CallAt (ctx T) 79 [aStrs L, .str x] ⟨0, []⟩ (.bool (decide (x ∈ L))) ⟨0, []⟩ := by
 have hk := fun H => k116 hI x hl H
 have hm := idx_mem (x := x) L 0
 generalize idxFrom (fun y => decide (x = y)) L 0 = v at *
 simp only [aStrs] at hk
 refine callAt_body (fn := Tryz.f79) (s0 := ⟨[0, 1, 4], [aStrs L, .str x, .undef], [], 9, ⟨0, [[]]⟩⟩) Tryz.func79 rfl rfl rfl ?_
 (repeat (first
  | (refine wps_seq ?_)
  | (refine wps_block ?_)
  | (refine wps_label ?_; simp only [thenQ, blockQ])
  | ((refine wps_region callOK ?_); simp [zS, aStrs, hk])
  | (refine wps_ct rfl ?_)
  | (refine wps_cf rfl ?_)
  | ((refine wps_skip ?_); simp only [thenQ, blockQ])
  | ((refine wps_exit ?_); simp [thenQ, blockQ])))
 repeat apply wq
 refine wps_ret ?_
 simp [retVal, Tryz.f79, oneOr, thenQ, blockQ]
 exact ends_pure rfl (by simp [hm])
theorem wl_void : (wsplit wVoid).length ≤ 1000000 := by decide +kernel
def voidW (space : Int) (name : Str) : Bool := decide (space = 0) && inW wVoid name
theorem c44v {T : List (Entry Tryz.prog)} (x : Str) (hx : x.length ≤ 1000000000) : CallAt (ctx T) 44 [.str wVoid, .str x] ⟨0, []⟩ (.bool (inW wVoid x)) ⟨0, []⟩ :=
 c44 (T := [e77, e78]) rfl rfl wVoid x (by decide) hx (c80v (T := [])) (c79 (T := [e116]) rfl _ x wl_void)
theorem c46 {T : List (Entry Tryz.prog)} (space : Int) (name : Str) (hx : name.length ≤ 1000000000) : CallAt (ctx T) 46 [.int .i64 space, .str name] ⟨0, []⟩ (.bool (voidW space name)) ⟨0, []⟩ := by
 have h := (c44v (T := T) name hx).lift (by simp [pureL, pureV]) ⟨0, [[]]⟩
 refine callAt_body (fn := Tryz.f46) (s0 := ⟨[0, 1, 4], [.int .i64 space, .str name, .undef], [], 11, ⟨0, [[]]⟩⟩) Tryz.func46 rfl rfl rfl ?_
 by_cases hs : space = 0
 ·repeat apply wq
  refine wps_region callOK ?_
  simp [zS]
  repeat apply wq
  refine wps_region (callOKF [⟨44, _, _, _, _, h⟩]) ?_
  simp [zS, callF, hs]
  repeat apply wq
  refine wps_ret ?_
  simp [retVal, Tryz.f46, oneOr, thenQ, blockQ]
  exact ends_pure rfl (by simp [voidW, hs])
 ·repeat apply wq
  refine wps_region callOK ?_
  simp [zS]
  repeat apply wq
  refine wps_region callOK ?_
  simp [zS, hs]
  repeat apply wq
  refine wps_ret ?_
  simp [retVal, Tryz.f46, oneOr, thenQ, blockQ]
  exact ends_pure rfl (by simp [voidW, hs])
theorem injIS (x y : Int × Str) (h : [AV.int .i64 x.1, AV.str x.2] = [AV.int .i64 y.1, AV.str y.2]) : x = y := by
 simp at h; exact Prod.ext h.1 h.2
noncomputable def e46 : Entry Tryz.prog := mkE 46 [[], []] (fun x : Int × Str => [.int .i64 x.1, .str x.2]) (fun x => x.2.length ≤ 1000000000) (fun x => .bool (voidW x.1 x.2)) fun x hx => c46 (T := []) x.1 x.2 hx
theorem k46 {T : List (Entry Tryz.prog)} (hT : findE 46 T = some e46.g) (space : Int) {name : Str} (hx : name.length ≤ 1000000000) (H : Heap) : callL (ctx T) (.fn 46) [.int .i64 space, .str name] H = some (.bool (voidW space name), H) :=
 mkE_scalar hT injIS (space, name) hx rfl (by simp)
@[simp] theorem szT21 : sizeT Tryz.prog 21 = some 1 := rfl
@[simp] theorem agT21 : aggT Tryz.prog 21 = some false := rfl
@[simp] theorem byT21 : bytesT Tryz.prog 21 = some 4 := rfl
@[simp] theorem alT21 (H : Heap) : alV Tryz.prog H 21 = some (.ptr H.n 0, H.new (.cells [.int .i32 0])) := rfl
@[simp] theorem zeT21 : zeroOf Tryz.prog 21 = some (.int .i32 0) := rfl
attribute [simp] Tryz.underlying21
@[simp 500] theorem rvF21 (H : Heap) (cs : List AV) (o : Nat) : readVar Tryz.prog H 21 (.fptr cs o) = getL cs o := rfl
@[simp 500] theorem rvP21 (H : Heap) (b o : Nat) : readVar Tryz.prog H 21 (.ptr b o) = (H.get b).bind fun k => k.rd.bind fun cs => getL cs o := rfl
@[simp] theorem szT126 : sizeT Tryz.prog 126 = some 1 := rfl
@[simp] theorem agT126 : aggT Tryz.prog 126 = some false := rfl
@[simp] theorem byT126 : bytesT Tryz.prog 126 = some 24 := rfl
@[simp] theorem alT126 (H : Heap) : alV Tryz.prog H 126 = some (.ptr H.n 0, H.new (.cells [.nilS])) := rfl
@[simp] theorem zeT126 : zeroOf Tryz.prog 126 = some (.nilS) := rfl
attribute [simp] Tryz.underlying126
@[simp 500] theorem rvF126 (H : Heap) (cs : List AV) (o : Nat) : readVar Tryz.prog H 126 (.fptr cs o) = getL cs o := rfl
@[simp 500] theorem rvP126 (H : Heap) (b o : Nat) : readVar Tryz.prog H 126 (.ptr b o) = (H.get b).bind fun k => k.rd.bind fun cs => getL cs o := rfl
@[simp] theorem slz126 (sz : Nat) (e : AV) (r : List AV) : binA Tryz.prog .eql 126 (.fslc sz (e :: r)) .nilS = some (.bool false) := rfl
@[simp] theorem sln126 (sz : Nat) (e : AV) (r : List AV) : binA Tryz.prog .neq 126 (.fslc sz (e :: r)) .nilS = some (.bool true) := rfl
@[simp] theorem slze126 : binA Tryz.prog .eql 126 .eslc .nilS = some (.bool false) := rfl
@[simp] theorem slzz126 : binA Tryz.prog .eql 126 .nilS .nilS = some (.bool true) := rfl
@[simp] theorem szT128 : sizeT Tryz.prog 128 = some 2 := rfl
@[simp] theorem agT128 : aggT Tryz.prog 128 = some true := rfl
@[simp] theorem byT128 : bytesT Tryz.prog 128 = some 16 := rfl
@[simp] theorem alT128 (H : Heap) : alV Tryz.prog H 128 = some (.ptr H.n 0, H.new (.cells [.int .i64 0, .int .i64 0])) := rfl
@[simp] theorem zeT128 : zeroOf Tryz.prog 128 = some (.agg [.int .i64 0, .int .i64 0]) := rfl
attribute [simp] Tryz.underlying128
@[simp 500] theorem rvF128 (H : Heap) (cs : List AV) (o : Nat) : readVar Tryz.prog H 128 (.fptr cs o) = (subL o 2 cs).bind fun cs => some (.agg cs) := rfl
@[simp 500] theorem rvP128 (H : Heap) (b o : Nat) : readVar Tryz.prog H 128 (.ptr b o) = (readCells H b o 2).bind fun cs => some (.agg cs) := rfl
@[simp] theorem fa128_0 (x : AV) : fieldAddrA Tryz.prog 128 x 0 = (match x with | .ptr b o => some (.ptr b (o + 0)) | .fptr cs o => some (.fptr cs (o + 0)) | _ => none) := rfl
@[simp] theorem fd128_0 (cs : List AV) : fieldA Tryz.prog 128 (.agg cs) 0 = getL cs 0 := rfl
@[simp] theorem fa128_1 (x : AV) : fieldAddrA Tryz.prog 128 x 1 = (match x with | .ptr b o => some (.ptr b (o + 1)) | .fptr cs o => some (.fptr cs (o + 1)) | _ => none) := rfl
@[simp] theorem fd128_1 (cs : List AV) : fieldA Tryz.prog 128 (.agg cs) 1 = getL cs 1 := rfl
theorem c118 {T : List (Entry Tryz.prog)} (hS : findE 78 T = some e78.g) (c : UInt8) (hc : c.toNat < 128) : CallAt (ctx T) 118 [.int .i32 (c.toNat : Int)] ⟨0, []⟩ (.bool (sp c)) ⟨0, []⟩ := by
 have ks := fun H => k78 hS c H
 have h1 : (c.toNat : Int) < 128 := by omega
 have hw : IntKind.u8.wrap (c.toNat : Int) = (c.toNat : Int) := by
  simp [IntKind.wrap, IntKind.signed, IntKind.bits]
  omega
 have hcv : ∀ H, convA Tryz.prog H 21 5 (.int .i32 (c.toNat : Int)) = some (.int .u8 (c.toNat : Int), H) := fun H => by simp [convA, hw]
 refine callAt_body (fn := Tryz.f118) (s0 := ⟨[0, 2], [.int .i32 (c.toNat : Int), .undef], [], 10, ⟨0, [[]]⟩⟩) Tryz.func118 rfl rfl rfl ?_
 repeat apply wq
 refine wps_region callOK ?_
 simp [zS]
 repeat apply wq
 refine wps_region callOK ?_
 simp [zS, h1, hcv, ks]
 repeat apply wq
 refine wps_ret ?_
 simp [retVal, Tryz.f118, oneOr, thenQ, blockQ]
 exact ends_pure rfl (by rfl)
def asciiB (s : Str) : Prop := ∀ c, c ∈ s → c.toNat < 128
theorem dec_ascii {s : Str} {i : Nat} (h : i < s.length) (hc : s[i].toNat < 128) : Utf8.decode ⟨s.toArray⟩ i = (s[i].toNat, 1) := by
 have h0 : (ByteArray.get! ⟨s.toArray⟩ (i + 0)).toNat = s[i].toNat := by
  show (s.toArray[i + 0]!).toNat = _
  simp [h]
 unfold Utf8.decode
 simp only [h0, hc, if_true]
def spnC (L : List (Nat × Nat)) : List AV := L.flatMap fun p => [.int .i64 (p.1 : Int), .int .i64 (p.2 : Int)]
def spn (p : Nat × Nat) : AV := .agg [.int .i64 (p.1 : Int), .int .i64 (p.2 : Int)]
def zeros (n : Nat) : List AV := List.replicate n (.int .i64 0)
def spV (n : Nat) : AV := if n ≤ 32 then .slc 0 0 n (.ex 32) else .slc 0 0 n (.rest 2)
def spB (L : List (Nat × Nat)) : List AV := if L.length ≤ 32 then spnC L ++ zeros (64 - 2 * L.length) else spnC L
theorem spnC_len (L : List (Nat × Nat)) : (spnC L).length = 2 * L.length := by
 induction L with
 | nil => rfl
 | cons a r ih => simp only [spnC, List.flatMap_cons, List.length_append, List.length_cons, List.length_nil] at ih ⊢; omega
theorem spnC_app (L : List (Nat × Nat)) (p : Nat × Nat) : spnC (L ++ [p]) = spnC L ++ [.int .i64 (p.1 : Int), .int .i64 (p.2 : Int)] := by simp [spnC]
theorem spnC_pure (L : List (Nat × Nat)) : pureL (spnC L) = true := by
 induction L with
 | nil => rfl
 | cons a r ih =>
  have : spnC (a :: r) = [.int .i64 (a.1 : Int), .int .i64 (a.2 : Int)] ++ spnC r := rfl
  rw [this, pureL_append, ih]; rfl
theorem zeros_pure (n : Nat) : pureL (zeros n) = true := by
 induction n with
 | zero => rfl
 | succ n ih => simp only [zeros, List.replicate_succ] at ih ⊢; simp [pureL, pureV, ih]
theorem spB_pure (L : List (Nat × Nat)) : pureL (spB L) = true := by
 unfold spB
 split
 ·rw [pureL_append, spnC_pure, zeros_pure]; rfl
 ·exact spnC_pure L
theorem flat_spn (L : List (Nat × Nat)) : flatAV (L.map spn) = spnC L := by
 induction L with
 | nil => rfl
 | cons a r ih => simp only [List.map_cons, flatAV, ih]; rfl
theorem el_spn (L : List (Nat × Nat)) : Elems 2 (L.map spn) := .map (sz := 2) (f := spn) (by decide) (fun x => ⟨rfl, rfl, fun h => absurd h (by decide), fun _ => ⟨_, rfl⟩⟩) L
theorem sub_spB (L : List (Nat × Nat)) : subL 0 (L.length * 2) (spB L) = some (spnC L) := by
 have h : (spnC L).length = L.length * 2 := by rw [spnC_len]; omega
 unfold spB
 split
 ·rw [subL_front (by simp; omega), List.drop_zero, List.take_append_of_le_length (by omega), List.take_of_length_le (by omega)]
 ·rw [subL_front (by omega), List.drop_zero, List.take_of_length_le (by omega)]
theorem app_sp {L : List (Nat × Nat)} {p : Nat × Nat} {I : Blk} (hl : L.length ≤ 1000000) :
  ∃ b m f, b ≠ 1 ∧ appendA Tryz.prog ⟨3, [[(2, .cells [.int .i64 (p.1 : Int), .int .i64 (p.2 : Int)]), (1, I), (0, .cells (spB L))]]⟩ 128 (spV L.length) (.slc 2 0 1 (.ex 1)) =
   some ((if L.length + 1 ≤ 32 then .slc b 0 (L.length + 1) (.ex 32) else .slc b 0 (L.length + 1) (.rest 2)), ⟨m, f⟩) ∧ Heap.get ⟨m, f⟩ 1 = some I ∧ Heap.get ⟨m, f⟩ b = some (.cells (spB (L ++ [p]))) := by
 have hcs : ∀ H : Heap, Heap.get H 2 = some (.cells [.int .i64 (p.1 : Int), .int .i64 (p.2 : Int)]) → srcCells H 2 1 (.slc 2 0 1 (.ex 1)) = some [.int .i64 (p.1 : Int), .int .i64 (p.2 : Int)] := fun H h => by
  simp [srcCells, readCells, h]
 have g0 : Heap.get ⟨3, [[(2, .cells [.int .i64 (p.1 : Int), .int .i64 (p.2 : Int)]), (1, I), (0, .cells (spB L))]]⟩ 0 = some (.cells (spB L)) := by simp [Heap.get, getFs, getF]
 have hsrc := hcs ⟨3, [[(2, .cells [.int .i64 (p.1 : Int), .int .i64 (p.2 : Int)]), (1, I), (0, .cells (spB L))]]⟩ (by simp [Heap.get, getFs, getF])
 have hroom : roomOK (L.length + 1) 16 = true := by unfold roomOK; rw [Nat.ble_eq]; omega
 have hrow : ∀ cs, rowA Tryz.prog 128 cs = .cells cs := fun cs => rfl
 have h64 : (spnC L).length = 2 * L.length := spnC_len L
 have hlen1 : (L ++ [p]).length = L.length + 1 := by simp
 by_cases h1 : L.length + 1 ≤ 32
 ·have hv : spV L.length = .slc 0 0 L.length (.ex 32) := by unfold spV; rw [if_pos (by omega)]
  have hb : Nat.ble (L.length + 1) 32 = true := by rw [Nat.ble_eq]; exact h1
  have hB : spB L = spnC L ++ zeros 2 ++ zeros (62 - 2 * L.length) := by
   unfold spB
   rw [if_pos (by omega), List.append_assoc]
   congr 1
   simp only [zeros]; rw [List.replicate_append_replicate]; congr 1; omega
  have hB2 : spB (L ++ [p]) = spnC L ++ [.int .i64 (p.1 : Int), .int .i64 (p.2 : Int)] ++ zeros (62 - 2 * L.length) := by
   unfold spB
   rw [hlen1, if_pos h1, spnC_app]
   congr 2
   omega
  have hlay : layL [.int .i64 (p.1 : Int), .int .i64 (p.2 : Int)] (0 + L.length * 2) (spB L) = some (spB (L ++ [p])) := by
   have := layL_app (a := spnC L) (b := zeros 2) (b' := [.int .i64 (p.1 : Int), .int .i64 (p.2 : Int)]) (c := zeros (62 - 2 * L.length)) rfl
   rw [h64] at this
   rw [hB, hB2, show 0 + L.length * 2 = 2 * L.length by omega, this]
  refine ⟨0, 3, [[(2, .cells [.int .i64 (p.1 : Int), .int .i64 (p.2 : Int)]), (1, I), (0, .cells (spB (L ++ [p])))]], by omega, ?_, by simp [Heap.get, getFs, getF], by simp [Heap.get, getFs, getF]⟩
  rw [if_pos h1, hv]
  unfold appendA
  simp only [szT128, byT128, zeT128, Option.bind_some, srcLen, hsrc, hroom, hb]
  simp only [writeCells, g0, Option.bind_some, Blk.wt, hlay, Blk.re]
  simp [Heap.ready, refs, Heap.set, setFs, setF, allSingle, AV.single]
  rfl
 ·have hB2 : spB (L ++ [p]) = spnC L ++ [.int .i64 (p.1 : Int), .int .i64 (p.2 : Int)] := by
   unfold spB
   rw [hlen1, if_neg h1, spnC_app]
  have hread : readCells ⟨3, [[(2, .cells [.int .i64 (p.1 : Int), .int .i64 (p.2 : Int)]), (1, I), (0, .cells (spB L))]]⟩ 0 0 (L.length * 2) = some (spnC L) := by
   unfold readCells
   simp only [g0, Option.bind_some, rd_cells]
   exact sub_spB L
  by_cases h2 : L.length = 32
  ·have hv : spV L.length = .slc 0 0 L.length (.ex 32) := by unfold spV; rw [if_pos (by omega)]
   have hb : Nat.ble (L.length + 1) 32 = false := by rw [← Bool.not_eq_true, Nat.ble_eq]; exact h1
   refine ⟨3, 4, [[(3, .cells (spB (L ++ [p]))), (2, .cells [.int .i64 (p.1 : Int), .int .i64 (p.2 : Int)]), (1, I), (0, .cells (spB L))]], by omega, ?_, by simp [Heap.get, getFs, getF], by simp [Heap.get, getFs, getF]⟩
   rw [if_neg h1, hv, hB2]
   unfold appendA
   simp only [szT128, byT128, zeT128, Option.bind_some, srcLen, hsrc, hroom, hb, hread, hrow]
   simp [Heap.new, pushF, allSingle, AV.single]
   rfl
  ·have hv : spV L.length = .slc 0 0 L.length (.rest 2) := by unfold spV; rw [if_neg (by omega)]
   have hB : spB L = spnC L := by unfold spB; rw [if_neg (by omega)]
   have hk : knownCells ⟨3, [[(2, .cells [.int .i64 (p.1 : Int), .int .i64 (p.2 : Int)]), (1, I), (0, .cells (spB L))]]⟩ 0 = some (2 * L.length) := by
    rw [knownCells, g0, hB]; simp [h64]
   have hb1 : Nat.ble (0 + (L.length + 1) * 2) (2 * L.length) = false := by rw [← Bool.not_eq_true, Nat.ble_eq]; omega
   have hb2 : Nat.beq (0 + L.length * 2) (2 * L.length) = true := by rw [show 0 + L.length * 2 = 2 * L.length by omega]; exact Nat.beq_refl _
   refine ⟨3, 4, [[(3, .cells (spB (L ++ [p]))), (2, .cells [.int .i64 (p.1 : Int), .int .i64 (p.2 : Int)]), (1, I)]], by omega, ?_, by simp [Heap.get, getFs, getF], by simp [Heap.get, getFs, getF]⟩
   rw [if_neg h1, hv, hB2]
   unfold appendA
   simp only [szT128, byT128, zeT128, Option.bind_some, srcLen, hsrc, hroom, hk, hb1, hb2, hread, g0, goOn_cells]
   simp [Heap.new, pushF, allSingle, AV.single, Heap.drop, killFs, getF, killF]
   rfl
def wordAt (s : Str) (p : Nat × Nat) : Str := (s.drop p.1).take (p.2 - p.1)
structure SpOk (s : Str) (i : Nat) (L : List (Nat × Nat)) (st : Int) : Prop where
 le : i ≤ s.length
 few : L.length ≤ i
 done : L.map (wordAt s) = (wst (s.take i)).1
 rng : ∀ p, p ∈ L → p.1 ≤ p.2 ∧ p.2 ≤ s.length
 lo : -1000001 ≤ st
 cur : (st < 0 ∧ (wst (s.take i)).2 = []) ∨ ∃ a : Nat, st = a ∧ a < i ∧ (wst (s.take i)).2 = wordAt s (a, i)
theorem fit_sp {H : Heap} {b j : Nat} {s : Str} {cs : List AV} (hb : b ≠ 1) (h1 : H.get 1 = some (.iter s j)) (h2 : H.get b = some (.cells cs)) (hp : pureL cs = true) : FitH 0 [(1, 1), (b, 0)] [] H ⟨2, [[(1, .iter s j), (0, .cells cs)]]⟩ where
 nd1 := by simp; omega
 nd2 := by simp
 nd3 := by simp [Heap.ents]
 lt := fun x hx => by simp at hx; rcases hx with rfl | rfl <;> simp
 idn := fun x hx h => by rcases h with h | h <;> exact absurd h (Nat.not_lt_zero _)
 num := Nat.zero_le _
 src := fun e he => by
  simp [Heap.ents] at he
  rcases he with rfl | rfl
  ·exact ⟨1, _, by simp, h1, by simp [fitB]⟩
  ·exact ⟨b, _, by simp, h2, fitL_pure hp⟩
 frz := fun x hx => by cases hx
theorem word_one {s : Str} {i : Nat} (h : i < s.length) : wordAt s (i, i + 1) = [s[i]] := by
 unfold wordAt
 simp only
 rw [List.drop_eq_getElem_cons h, show i + 1 - i = 1 by omega]
 rfl
theorem word_more {s : Str} {a i : Nat} (h : i < s.length) (ha : a ≤ i) : wordAt s (a, i + 1) = wordAt s (a, i) ++ [s[i]] := by
 unfold wordAt
 simp only
 rw [show i + 1 - a = (i - a) + 1 by omega, List.take_succ_eq_append_getElem (by simp; omega)]
 congr 2
 rw [List.getElem_drop]
 congr 1
 omega
theorem sp_space0 {s : Str} {i : Nat} {L : List (Nat × Nat)} {st : Int} (h : i < s.length) (k : SpOk s i L st) (hs : sp s[i] = true) (h0 : st < 0) : SpOk s (i + 1) L st := by
 have he : (wst (s.take i)).2 = [] := by
  rcases k.cur with ⟨_, h⟩ | ⟨a, ha, _⟩
  ·exact h
  ·omega
 refine ⟨by omega, by have := k.few; omega, ?_, k.rng, k.lo, .inl ⟨h0, ?_⟩⟩
 ·rw [wst_at h]; simp only [wstep, hs, if_true, he, k.done]
 ·rw [wst_at h]; simp only [wstep, hs, if_true]
theorem sp_space1 {s : Str} {i a : Nat} {L : List (Nat × Nat)} (h : i < s.length) (k : SpOk s i L (a : Int)) (hs : sp s[i] = true) (hl : s.length ≤ 1000000) : SpOk s (i + 1) (L ++ [(a, i)]) (-(a : Int) - 1) := by
 obtain ⟨hai, hc⟩ : a < i ∧ (wst (s.take i)).2 = wordAt s (a, i) := by
  rcases k.cur with ⟨h, _⟩ | ⟨b, hb, h1, h2⟩
  ·omega
  ·have : a = b := by omega
   subst this; exact ⟨h1, h2⟩
 have hne : ¬ wordAt s (a, i) = [] := by
  intro e
  have := congrArg List.length e
  simp [wordAt] at this
  omega
 refine ⟨by omega, by have := k.few; simp; omega, ?_, fun p hp => ?_, by omega, .inl ⟨by omega, ?_⟩⟩
 ·rw [wst_at h]; simp only [wstep, hs, if_true, hc, hne, if_false, List.map_append, k.done]; rfl
 ·rcases List.mem_append.1 hp with hp | hp
  ·exact k.rng p hp
  ·simp at hp; subst hp; exact ⟨by simp only; omega, by simp only; omega⟩
 ·rw [wst_at h]; simp only [wstep, hs, if_true]
theorem sp_char0 {s : Str} {i : Nat} {L : List (Nat × Nat)} {st : Int} (h : i < s.length) (k : SpOk s i L st) (hs : sp s[i] = false) (h0 : st < 0) : SpOk s (i + 1) L (i : Int) := by
 have he : (wst (s.take i)).2 = [] := by
  rcases k.cur with ⟨_, h⟩ | ⟨a, ha, _⟩
  ·exact h
  ·omega
 refine ⟨by omega, by have := k.few; omega, ?_, k.rng, by omega, .inr ⟨i, rfl, by omega, ?_⟩⟩
 ·rw [wst_at h]; simp [wstep, hs, k.done]
 ·rw [wst_at h, word_one h]; simp [wstep, hs, he]
theorem sp_char1 {s : Str} {i a : Nat} {L : List (Nat × Nat)} (h : i < s.length) (k : SpOk s i L (a : Int)) (hs : sp s[i] = false) : SpOk s (i + 1) L (a : Int) := by
 obtain ⟨hai, hc⟩ : a < i ∧ (wst (s.take i)).2 = wordAt s (a, i) := by
  rcases k.cur with ⟨h, _⟩ | ⟨b, hb, h1, h2⟩
  ·omega
  ·have : a = b := by omega
   subst this; exact ⟨h1, h2⟩
 refine ⟨by omega, by have := k.few; omega, ?_, k.rng, by omega, .inr ⟨a, rfl, by omega, ?_⟩⟩
 ·rw [wst_at h]; simp [wstep, hs, k.done]
 ·rw [wst_at h, word_more h (by omega)]; simp [wstep, hs, hc]
theorem sp_begin (s : Str) : SpOk s 0 [] (-1) := ⟨Nat.zero_le _, by simp, by simp [wst], by simp, by omega, .inl ⟨by omega, by simp [wst]⟩⟩
theorem sp_end0 {s : Str} {L : List (Nat × Nat)} {st : Int} (k : SpOk s s.length L st) (h0 : st < 0) : L.map (wordAt s) = wsplit s := by
 have he : (wst (s.take s.length)).2 = [] := by
  rcases k.cur with ⟨_, h⟩ | ⟨a, ha, _⟩
  ·exact h
  ·omega
 have hd := k.done
 rw [List.take_of_length_le (Nat.le_refl _)] at hd he
 rw [hd, wsplit, wfin, if_pos he]
theorem sp_end1 {s : Str} {a : Nat} {L : List (Nat × Nat)} (k : SpOk s s.length L (a : Int)) : (L ++ [(a, s.length)]).map (wordAt s) = wsplit s ∧ a < s.length := by
 obtain ⟨hai, hc⟩ : a < s.length ∧ (wst (s.take s.length)).2 = wordAt s (a, s.length) := by
  rcases k.cur with ⟨h, _⟩ | ⟨b, hb, h1, h2⟩
  ·omega
  ·have : a = b := by omega
   subst this; exact ⟨h1, h2⟩
 have hne : ¬ wordAt s (a, s.length) = [] := by
  intro e
  have := congrArg List.length e
  simp [wordAt] at this
  omega
 have hd := k.done
 rw [List.take_of_length_le (Nat.le_refl _)] at hd hc
 refine ⟨?_, hai⟩
 rw [List.map_append, hd, wsplit, wfin, hc, if_neg hne]
 rfl
theorem xor_not {a : Nat} (h : a ≤ 1000000) : unA .xor (.int .i64 (a : Int)) = some (.int .i64 (-(a : Int) - 1)) := by
 have h1 : (BitVec.ofInt 64 (-1) ^^^ BitVec.ofInt 64 (a : Int)).toNat = 18446744073709551615 - a := by
  have e1 : BitVec.ofInt 64 (-1) = BitVec.allOnes 64 := by decide
  have e2 : BitVec.ofInt 64 (a : Int) = BitVec.ofNat 64 a := by simp
  rw [e1, e2, BitVec.allOnes_xor, BitVec.toNat_not, BitVec.toNat_ofNat]
  omega
 show some (AV.int .i64 (IntKind.i64.wrap ((BitVec.ofInt 64 (-1) ^^^ BitVec.ofInt 64 (a : Int)).toNat : Int))) = _
 rw [h1]
 have h2 : IntKind.i64.wrap ((18446744073709551615 - a : Nat) : Int) = -(a : Int) - 1 := by
  have h3 : ((18446744073709551615 - a : Nat) : Int) = 18446744073709551615 - (a : Int) := by omega
  rw [h3]
  simp [IntKind.wrap, IntKind.signed, IntKind.bits]
  omega
 rw [h2]
@[simp] theorem fr_range {d : Option Tmp} {t : TypeId} {l : Operand} {ty : TypeId} {pos : String} {af : Array Edge} {g : Option (Nat × Bool)} {s : St} : freshen s ⟨d, .range t l, ty, pos, af, g⟩ = s := rfl
@[simp] theorem fr_next {d : Option Tmp} {b : Bool} {l : Operand} {ty : TypeId} {pos : String} {af : Array Edge} {g : Option (Nat × Bool)} {s : St} : freshen s ⟨d, .next l b, ty, pos, af, g⟩ = s := rfl
def bl5 (n : Nat) : List AV := List.replicate n (.str [])
def sts (L : List Str) : List AV := L.map .str
theorem bl5_pure (n : Nat) : pureL (bl5 n) = true := by
 induction n with
 | zero => rfl
 | succ n ih => simp only [bl5, List.replicate_succ] at ih ⊢; simp [pureL, pureV, ih]
theorem sts_pure (L : List Str) : pureL (sts L) = true := by
 induction L with
 | nil => rfl
 | cons a r ih => simp only [sts, List.map_cons] at ih ⊢; simp [pureL, pureV, ih]
theorem sts_set {X : List Str} {k : Nat} {w : Str} : (sts X ++ bl5 (k + 1)).set X.length (.str w) = sts (X ++ [w]) ++ bl5 k := by
 rw [List.set_append_right _ _ (by simp [sts])]
 simp [sts, bl5, List.replicate_succ]
theorem mkStrs {H : Heap} {n : Nat} (h : n ≤ 1000000) : makeSliceA Tryz.prog H 92 (.int .i64 (n : Int)) (.int .i64 (n : Int)) = some (.slc H.n 0 n (.ex n), H.new (.cells (bl5 n))) := by
 have hr : ∀ n, replL [AV.str []] n = bl5 n := fun n => by
  induction n with
  | zero => rfl
  | succ n ih => simp [replL, ih, bl5, List.replicate_succ]
 have h1 : idx (n : Int) 17592186044416 = some n := idx_nat (by omega)
 have h2 : idx (n : Int) (Nat.succ n) = some n := idx_nat (by omega)
 have h3 : roomOK n 16 = true := by unfold roomOK; rw [Nat.ble_eq]; omega
 unfold makeSliceA msB
 simp [h1, h2, h3, hr]
theorem mkSp {H : Heap} : makeSliceA Tryz.prog H 126 (.int .i64 0) (.int .i64 32) = some (.slc H.n 0 0 (.ex 32), H.new (.cells (zeros 64))) := rfl
theorem ixS {b n i : Nat} {c : Cap} (h : i < n) : indexAddrA Tryz.prog 92 (.slc b 0 n c) (.int .i64 (i : Int)) = some (.ptr b i) := by
 simp [indexAddrA, idx_nat h]
theorem layS {v : AV} : ∀ {cs : List AV} {i : Nat}, i < cs.length → layL [v] i cs = some (cs.set i v)
 | [], _, h => absurd h (Nat.not_lt_zero _)
 | x :: r, 0, _ => by simp [layL, overL]
 | x :: r, i + 1, h => by
  simp only [layL, layS (cs := r) (i := i) (by simpa using h)]
  rfl
def aSp (L : List (Nat × Nat)) : AV := .fslc 2 (L.map spn)
theorem atSp {L : List (Nat × Nat)} {i : Nat} (h : i < L.length) : indexAddrA Tryz.prog 126 (aSp L) (.int .i64 (i : Int)) = some (.fptr [.int .i64 ((L[i]).1 : Int), .int .i64 ((L[i]).2 : Int)] 0) := by
 simp [indexAddrA, aSp, idx_nat h, getL_map h]
 simp [spn]
theorem lenSp {H : Heap} {L : List (Nat × Nat)} : lenA Tryz.prog H 126 (aSp L) = some L.length := by simp [lenA, aSp]
theorem slW {H : Heap} {s : Str} {a b : Nat} (h1 : a ≤ b) (h2 : b ≤ s.length) : sliceA Tryz.prog H 9 (.str s) (some (.int .i64 (a : Int))) (some (.int .i64 (b : Int))) none = some (.str (wordAt s (a, b))) := by
 have i1 : idx (b : Int) (Nat.succ s.length) = some b := idx_nat (by omega)
 have i2 : idx (a : Int) (Nat.succ b) = some a := idx_nat (by omega)
 simp [sliceA, hiOK, bound, i1, i2, wordAt, List.drop_take]
theorem nx_yes {m i : Nat} {s : Str} {B : Blk} (h : i < s.length) (hc : s[i].toNat < 128) : nextA ⟨m, [[(1, .iter s i), (0, B)]]⟩ 1 = some (.tup [.bool true, .int .i64 i, .int .i32 (s[i].toNat : Int)], ⟨m, [[(1, .iter s (i + 1)), (0, B)]]⟩) := by
 have hb : Nat.blt i s.length = true := by simpa using h
 simp [nextA, Heap.get, getFs, getF, hb, dec_ascii h hc, Heap.set, setFs, setF]
theorem nx_no {m i : Nat} {s : Str} {B : Blk} (h : ¬ i < s.length) : nextA ⟨m, [[(1, .iter s i), (0, B)]]⟩ 1 = some (.tup [.bool false], ⟨m, [[(1, .iter s i), (0, B)]]⟩) := by
 have hb : Nat.blt i s.length = false := by
  cases hq : Nat.blt i s.length with
  | false => rfl
  | true => exact absurd (by simpa using hq) h
 simp [nextA, Heap.get, getFs, getF, hb]
theorem spV_yes (n : Nat) (b : Nat) : ∃ c, (if n ≤ 32 then AV.slc b 0 n (.ex 32) else AV.slc b 0 n (.rest 2)) = .slc b 0 n c ∧ spV n = .slc 0 0 n c := by
 unfold spV
 split
 ·exact ⟨_, rfl, rfl⟩
 ·exact ⟨_, rfl, rfl⟩
theorem fit_spV {L : List (Nat × Nat)} {σ : List (Nat × Nat)} {Φ : List (Nat × List AV)} (h : lookC 0 Φ = some (spB L)) : fitV σ Φ (spV L.length) (aSp L) := by
 obtain ⟨c, _, hc⟩ := spV_yes L.length 0
 rw [hc]
 simp only [aSp, fitV]
 refine .inl ⟨_, h, ?_, by simp, (el_spn L).size⟩
 rw [flat_spn, sub_spB]
theorem fit_all {H : Heap} {b : Nat} {cs : List AV} (h : H.get b = some (.cells cs)) (hp : pureL cs = true) : FitH 0 [] [(b, cs)] H ⟨0, [[]]⟩ := by
 refine ⟨by simp, by simp, by simp [Heap.ents], fun x h => (by cases h), fun x h => (by cases h), Nat.le_refl _, fun e h => (by simp [Heap.ents] at h), fun x hx => ?_⟩
 rw [List.mem_singleton] at hx
 subst hx
 exact ⟨_, h, fitL_pure hp, hp⟩
theorem fit_spVV {n : Nat} : fitV [(1, 1), (0, 0)] [] (spV n) (spV n) := by
 obtain ⟨c, _, hc⟩ := spV_yes n 0
 rw [hc]
 simp [fitV, lookN]
def sbC : List Nat → Code → Code
 | [], c => c
 | d :: r, c => match c with
  | .seq a b => match d with
   | 0 => sbC r a
   | _ => sbC r b
  | c => c
def bdO (f : Func) : Code := match f.body with
 | some c => c
 | none => .skip
theorem flat_sts : ∀ (L : List Str), flatAV (L.map AV.str) = sts L
 | [] => rfl
 | a :: r => by simp only [List.map_cons, flatAV, flat_sts r]; rfl
noncomputable def cdFF : Code := sbC [1, 1, 1, 1, 1] (bdO Tryz.f117)
theorem ff_rest {T : List (Entry Tryz.prog)} (s : Str) (L : List (Nat × Nat)) (hL : L.length ≤ 1000000) (hr : ∀ p, p ∈ L → p.1 ≤ p.2 ∧ p.2 ≤ s.length) (W : List Str) (hW : L.map (wordAt s) = W) :
  WpSr (ctx T) 0 none cdFF ((⟨[0, 1, 4, 5, 6, 7, 8, 9, 10, 11, 14, 15, 47, 48, 49], [.str s, .undef, .nilS, aSp L, .undef, .undef, .undef, .undef, .undef, .undef, .undef, .undef, .undef, .undef, .undef], [], 65, ⟨0, [[]]⟩⟩ : St)) (fun x s => (x = .normal ∨ x = .ret) ∧ ∃ vs, retVal (ctx T) s [.tmp 4] = some vs ∧ ∃ σ Φ, fitV σ Φ (oneOr vs) (aStrs W) ∧ FitH 0 σ Φ s.H ⟨0, []⟩) := by
 simp only [cdFF, sbC, bdO, Tryz.f117]
 have hm := fun H => mkStrs (H := H) (n := L.length) hL
 repeat apply wq
 refine wps_region callOK ?_
 simp [zS, lenSp, hm]
 repeat apply wq
 refine wps_region callOK ?_
 simp [zS, lenSp]
 obtain ⟨F, hF⟩ : ∃ F : Nat → List Str, F = fun i => (L.take i).map (wordAt s) := ⟨_, rfl⟩
 have hF0 : F 0 = [] := by rw [hF]; simp
 have hFl : ∀ i, i ≤ L.length → (F i).length = i := fun i hi => by rw [hF]; simp; omega
 have hFs : ∀ (i : Nat) (h : i < L.length), F (i + 1) = F i ++ [wordAt s L[i]] := fun i h => by
  rw [hF]
  show (L.take (i + 1)).map (wordAt s) = _
  rw [List.take_succ_eq_append_getElem h, List.map_append]; rfl
 have hFn : F L.length = W := by rw [hF, ← hW]; simp
 repeat apply wq
 refine wps_block (wps_loop' (fun i : Nat => (⟨[0, 1, 4, 5, 6, 7, 8, 9, 10, 11, 14, 15, 47, 48, 49], [.str s, .undef, .nilS, .undef, .undef, .undef, .undef, .slc 0 0 L.length (.ex L.length), .undef, .undef, .undef, .undef, aSp L, .int .i64 (L.length : Nat), .int .i64 i], [], 65, ⟨1, [[(0, .cells (sts (F i) ++ bl5 (L.length - i)))]]⟩⟩ : St))
  (fun i => i ≤ L.length) (fun i => L.length - i) [(0, 0)] [] 0 (Nat.zero_le _)
  ⟨rfl, rfl, rfl, by simp [fitL, fitV, lookN, pureV, aSp], .keep1 (b := 0) (by rw [hF0]; simp [Heap.get, getFs, getF, sts]) (by rw [pureL_append, sts_pure, bl5_pure]; rfl) rfl⟩ ?_)
 rintro i hi B hB
 repeat apply wq
 refine wps_region callOK ?_
 simp [zS]
 repeat apply wq
 refine wps_cond rfl (fun h => ?_) fun h => ?_
 ·simp at h
  repeat apply wq
  refine wps_skip ?_
  simp
  repeat apply wq
  refine wps_block ?_
  obtain ⟨r1, r2⟩ := hr L[i] (List.getElem_mem _)
  have hw := fun H => slW (H := H) r1 r2
  have hlen : i < (sts (F i) ++ bl5 (L.length - i)).length := by simp [sts, bl5, hFl i hi]; omega
  have hset : (sts (F i) ++ bl5 (L.length - i)).set i (.str (wordAt s ((L[i]).1, (L[i]).2))) = sts (F (i + 1)) ++ bl5 (L.length - (i + 1)) := by
   have := sts_set (X := F i) (k := L.length - (i + 1)) (w := wordAt s L[i])
   rw [hFl i hi, ← hFs i h] at this
   rw [show L.length - i = L.length - (i + 1) + 1 by omega]
   exact this
  have hla := layS (v := .str (wordAt s ((L[i]).1, (L[i]).2))) hlen
  rw [hset] at hla
  generalize sts (F i) ++ bl5 (L.length - i) = C0 at *
  generalize hC1 : sts (F (i + 1)) ++ bl5 (L.length - (i + 1)) = C1 at *
  repeat apply wq
  refine wps_region callOK ?_
  simp [zS, atSp h]
  repeat apply wq
  refine wps_region callOK ?_
  simp [zS, hw, ixS h, hla]
  repeat apply wq
  refine wps_region callOK ?_
  simp [zS, add_one (show i ≤ 1000000000 by omega)]
  refine hB _ (i + 1) (by omega) (by omega) ⟨[(0, 0)], [], rfl, rfl, rfl, by simp [fitL, fitV, lookN, pureV, aSp], ?_⟩
  rw [hC1]
  exact .keep1 (b := 0) (by simp [Heap.get, getFs, getF]) (by rw [← hC1, pureL_append, sts_pure, bl5_pure]; rfl) rfl
 ·simp at h
  have hie : i = L.length := by omega
  subst hie
  have hz : sts (F L.length) ++ bl5 (L.length - L.length) = sts W := by rw [Nat.sub_self, hFn]; simp [bl5]
  have hlW : W.length = L.length := by rw [← hW]; simp
  rw [hz, ← hlW]
  repeat apply wq
  refine wps_exit ?_
  simp
  repeat apply wq
  refine wps_region callOK ?_
  simp [zS]
  repeat apply wq
  refine wps_ret ?_
  simp [retVal, oneOr]
  refine ⟨[], [(0, sts W)], ?_, .froze (by simp) fun y hy => ?_⟩
  ·have hf := flat_sts W
   simp only [fitV]
   refine .inl ⟨sts W, by simp [lookC], ?_, by simp, (el_str W).size⟩
   rw [hf, subL_front (by simp [sts]), List.drop_zero, List.take_of_length_le (by simp [sts])]
  ·rw [List.mem_singleton] at hy
   subst hy
   exact ⟨_, by simp [Heap.get, getFs, getF], fitL_pure (sts_pure W), sts_pure W⟩
theorem c117 {T : List (Entry Tryz.prog)} (s : Str) (hs : asciiB s) (hl : s.length ≤ 900000) (clo : FuncId) (hp : ∀ c : UInt8, c.toNat < 128 → CallAt (ctx T) clo [.int .i32 (c.toNat : Int)] ⟨0, []⟩ (.bool (sp c)) ⟨0, []⟩) :
  CallAt (ctx T) 117 [.str s, .func (.func clo) [] []] ⟨0, []⟩ (aStrs (wsplit s)) ⟨0, []⟩ := by
 have hm1 : wr .i64 (0 - 1) = some (-1) := rfl
 refine callAt_body (fn := Tryz.f117) (s0 := ⟨[0, 1, 4, 5, 6, 7, 8, 9, 10, 11, 14, 15, 47, 48, 49], [.str s, .func (.func clo) [] [], .undef, .undef, .undef, .undef, .undef, .undef, .undef, .undef, .undef, .undef, .undef, .undef, .undef], [], 65, ⟨0, [[]]⟩⟩) Tryz.func117 rfl rfl rfl ?_
 repeat apply wq
 refine wps_region callOK ?_
 simp [zS]
 repeat apply wq
 refine wps_region callOK ?_
 simp [zS, mkSp]
 repeat apply wq
 refine wps_region callOK ?_
 simp [zS]
 repeat apply wq
 refine wps_region callOK ?_
 simp [zS, rgV]
 repeat apply wq
 refine wps_block (wps_loop' (fun x : Nat × List (Nat × Nat) × Int => (⟨[0, 1, 4, 5, 6, 7, 8, 9, 10, 11, 14, 15, 47, 48, 49], [.str s, .func (.func clo) [] [], .nilS, spV x.2.1.length, .int .i64 x.2.2, .undef, .undef, .undef, .undef, .undef, .ptr 1 0, .undef, .undef, .undef, .undef], [], 65, ⟨2, [[(1, .iter s x.1), (0, .cells (spB x.2.1))]]⟩⟩ : St))
  (fun x => SpOk s x.1 x.2.1 x.2.2) (fun x => s.length - x.1) [(1, 1), (0, 0)] [] (0, [], -1) (sp_begin s)
  ⟨rfl, rfl, rfl, by simp [fitL, fitV, lookN, pureV, pureL, spV], fit_sp (by omega) (by simp [Heap.get, getFs, getF]) (by simp [Heap.get, getFs, getF, spB, spnC]) (spB_pure _)⟩ ?_)
 rintro ⟨i, L, st⟩ hk B hB
 have hi := hk.le
 have hfew := hk.few
 have hlo := hk.lo
 simp only at hi hfew hlo hk
 by_cases h : i < s.length
 ·have hc : s[i].toNat < 128 := hs _ (List.getElem_mem _)
  have hbu : ∀ a : Nat, buildA Tryz.prog 128 [(0, .int .i64 (a : Int)), (1, .int .i64 (i : Int))] = some (.agg [.int .i64 (a : Int), .int .i64 (i : Int)]) := fun a => rfl
  have hcall := (hp s[i] hc).lift (by simp [pureL, pureV]) ⟨2, [[(1, .iter s (i + 1)), (0, .cells (spB L))]]⟩
  have stay : ∀ (st' : Int) (σ0 : Unit), SpOk s (i + 1) L st' → ∀ s' : St, Fit 0 [(1, 1), (0, 0)] [] s' ((⟨[0, 1, 4, 5, 6, 7, 8, 9, 10, 11, 14, 15, 47, 48, 49], [.str s, .func (.func clo) [] [], .nilS, spV L.length, .int .i64 st', .undef, .undef, .undef, .undef, .undef, .ptr 1 0, .undef, .undef, .undef, .undef], [], 65, ⟨2, [[(1, .iter s (i + 1)), (0, .cells (spB L))]]⟩⟩ : St)) → B s' := fun st' _ hok s' hf => hB s' (i + 1, L, st') (by simp only; omega) hok ⟨_, _, hf⟩
  repeat apply wq
  refine wps_region callOK ?_
  simp [zS, nxV, nx_yes h hc]
  repeat apply wq
  refine wps_ct rfl ?_
  repeat apply wq
  refine wps_skip ?_
  simp
  repeat apply wq
  refine wps_block ?_
  rcases Bool.eq_false_or_eq_true (sp s[i]) with hsp | hsp
  ·rw [hsp] at hcall
   repeat apply wq
   refine wps_region callOK ?_
   simp [zS]
   repeat apply wq
   refine wps_region (callOKF [⟨clo, _, _, _, _, hcall⟩]) ?_
   simp [zS, callF]
   repeat apply wq
   refine wps_ct rfl ?_
   rcases hk.cur with ⟨h0, _⟩ | ⟨a, ha, hai, _⟩
   ·have hge : ¬ (0 : Int) ≤ st := by omega
    repeat apply wq
    refine wps_region callOK ?_
    simp [zS, hge]
    repeat apply wq
    refine wps_cf rfl ?_
    repeat apply wq
    refine wps_skip ?_
    simp
    exact stay st () (sp_space0 h hk hsp h0) _ ⟨rfl, rfl, rfl, by simp [fitL, fitV, lookN, pureV, pureL, fit_spVV], fit_sp (by omega) (by simp [Heap.get, getFs, getF]) (by simp [Heap.get, getFs, getF]) (spB_pure _)⟩
   ·subst ha
    have hge : (0 : Int) ≤ (a : Int) := by omega
    obtain ⟨b, m, f, hb1, happ, hg1, hg2⟩ := app_sp (L := L) (p := (a, i)) (I := .iter s (i + 1)) (by omega)
    have hxo := xor_not (a := a) (by omega)
    obtain ⟨c, e1, e2⟩ := spV_yes (L.length + 1) b
    simp only [e1] at happ
    repeat apply wq
    refine wps_region callOK ?_
    simp [zS, hge]
    repeat apply wq
    refine wps_ct (by simp [opnd, St.get]) ?_
    repeat apply wq
    refine wps_region callOK ?_
    simp [zS, hbu, happ]
    repeat apply wq
    refine wps_region callOK ?_
    simp [zS, hxo]
    refine hB _ (i + 1, L ++ [(a, i)], -(a : Int) - 1) (by simp only; omega) (sp_space1 h hk hsp (by omega)) ⟨[(1, 1), (b, 0)], [], rfl, rfl, rfl, ?_, fit_sp hb1 hg1 hg2 (spB_pure _)⟩
    simp only [List.length_append, List.length_cons, List.length_nil, Nat.zero_add, e2]
    simp [fitL, fitV, lookN, pureV, pureL]
    omega
  ·rw [hsp] at hcall
   repeat apply wq
   refine wps_region callOK ?_
   simp [zS]
   repeat apply wq
   refine wps_region (callOKF [⟨clo, _, _, _, _, hcall⟩]) ?_
   simp [zS, callF]
   repeat apply wq
   refine wps_cf rfl ?_
   rcases hk.cur with ⟨h0, _⟩ | ⟨a, ha, hai, _⟩
   ·repeat apply wq
    refine wps_region callOK ?_
    simp [zS, h0]
    repeat apply wq
    refine wps_ct rfl ?_
    repeat apply wq
    refine wps_region callOK ?_
    simp [zS]
    exact stay i () (sp_char0 h hk hsp h0) _ ⟨rfl, rfl, rfl, by simp [fitL, fitV, lookN, pureV, pureL, fit_spVV], fit_sp (by omega) (by simp [Heap.get, getFs, getF]) (by simp [Heap.get, getFs, getF]) (spB_pure _)⟩
   ·subst ha
    have hge : ¬ (a : Int) < 0 := by omega
    repeat apply wq
    refine wps_region callOK ?_
    simp [zS, hge]
    repeat apply wq
    refine wps_cf (by simp [opnd, St.get, hge]) ?_
    repeat apply wq
    refine wps_skip ?_
    simp
    exact stay a () (sp_char1 h hk hsp) _ ⟨rfl, rfl, rfl, by simp [fitL, fitV, lookN, pureV, pureL, fit_spVV], fit_sp (by omega) (by simp [Heap.get, getFs, getF]) (by simp [Heap.get, getFs, getF]) (spB_pure _)⟩
 ·have hie : i = s.length := by omega
  subst hie
  have hbu : ∀ a : Nat, buildA Tryz.prog 128 [(0, .int .i64 (a : Int)), (1, .int .i64 (s.length : Int))] = some (.agg [.int .i64 (a : Int), .int .i64 (s.length : Int)]) := fun a => rfl
  repeat apply wq
  refine wps_region callOK ?_
  simp [zS, nxV, nx_no h]
  repeat apply wq
  refine wps_cf rfl ?_
  repeat apply wq
  refine wps_exit ?_
  simp
  rcases hk.cur with ⟨h0, _⟩ | ⟨a, ha, hai, _⟩
  ·have hge : ¬ (0 : Int) ≤ st := by omega
   repeat apply wq
   refine wps_region callOK ?_
   simp [zS, hge]
   repeat apply wq
   refine wps_cf (by simp [opnd, St.get, hge]) ?_
   repeat apply wq
   refine wps_skip ?_
   simp only [thenQ]
   refine WpSr.fit [] [(0, spB L)] (s' := (⟨[0, 1, 4, 5, 6, 7, 8, 9, 10, 11, 14, 15, 47, 48, 49], [.str s, .undef, .nilS, aSp L, .undef, .undef, .undef, .undef, .undef, .undef, .undef, .undef, .undef, .undef, .undef], [], 65, ⟨0, [[]]⟩⟩ : St)) ⟨rfl, rfl, rfl, by simp [fitL, fitV, pureV]; exact fit_spV (by simp [lookC]), ?_⟩ (ff_rest s L (by omega) hk.rng _ (sp_end0 hk h0))
   exact fit_all (by simp [Heap.get, getFs, getF]) (spB_pure _)
  ·subst ha
   obtain ⟨hw, hal⟩ := sp_end1 hk
   have hge : (0 : Int) ≤ (a : Int) := by omega
   obtain ⟨b, m, f, hb1, happ, hg1, hg2⟩ := app_sp (L := L) (p := (a, s.length)) (I := .iter s s.length) (by omega)
   obtain ⟨c, e1, e2⟩ := spV_yes (L.length + 1) b
   simp only [e1] at happ
   repeat apply wq
   refine wps_region callOK ?_
   simp [zS, hge]
   repeat apply wq
   refine wps_ct (by simp [opnd, St.get]) ?_
   repeat apply wq
   refine wps_region callOK ?_
   simp [zS, hbu, happ]
   have hfv : fitV [] [(b, spB (L ++ [(a, s.length)]))] (.slc b 0 (L.length + 1) c) (aSp (L ++ [(a, s.length)])) := by
    simp only [aSp, fitV]
    refine .inl ⟨_, by simp [lookC]; rfl, ?_, by simp, (el_spn _).size⟩
    have := sub_spB (L ++ [(a, s.length)])
    rw [flat_spn]
    simpa using this
   refine WpSr.fit [] [(b, spB (L ++ [(a, s.length)]))] (s' := (⟨[0, 1, 4, 5, 6, 7, 8, 9, 10, 11, 14, 15, 47, 48, 49], [.str s, .undef, .nilS, aSp (L ++ [(a, s.length)]), .undef, .undef, .undef, .undef, .undef, .undef, .undef, .undef, .undef, .undef, .undef], [], 65, ⟨0, [[]]⟩⟩ : St)) ⟨rfl, rfl, rfl, by simp [fitL, fitV, pureV] at hfv ⊢; exact hfv, ?_⟩ (ff_rest s (L ++ [(a, s.length)]) (by simp; omega) (fun p hp => ?_) _ hw)
   ·exact fit_all hg2 (spB_pure _)
   ·rcases List.mem_append.1 hp with hp | hp
    ·exact hk.rng p hp
    ·simp at hp; subst hp; exact ⟨by simp only; omega, by simp only; omega⟩
theorem c80 {T : List (Entry Tryz.prog)} (s : Str) (hs : asciiB s) (hl : s.length ≤ 900000) : CallAt (ctx T) 80 [.str s] ⟨0, []⟩ (aStrs (wsplit s)) ⟨0, []⟩ := by
 have hc := (c117 (T := T) s hs hl 118 fun c h => c118 (T := [e78]) rfl c h).lift (by simp [pureL, pureV]) ⟨0, [[]]⟩
 generalize wsplit s = W at *
 refine callAt_body (fn := Tryz.f80) (s0 := ⟨[0, 2], [.str s, .undef], [], 5, ⟨0, [[]]⟩⟩) Tryz.func80 rfl rfl rfl ?_
 repeat apply wq
 refine wps_region callOK ?_
 simp [zS]
 repeat apply wq
 refine wps_region (callOKF [⟨117, _, _, _, _, hc⟩]) ?_
 simp [zS, callF]
 repeat apply wq
 refine wps_ret ?_
 simp [retVal, Tryz.f80, oneOr, thenQ, blockQ]
 first | exact ⟨[], [], FitH.empty⟩ | exact ends_pure rfl (by rfl)
theorem c44a {T : List (Entry Tryz.prog)} (W x : Str) (hW : asciiB W) (hl : W.length ≤ 100000) (hx : x.length ≤ 1000000000) : CallAt (ctx T) 44 [.str W, .str x] ⟨0, []⟩ (.bool (inW W x)) ⟨0, []⟩ :=
 c44 (T := [e77, e78]) rfl rfl W x hl hx (c80 (T := []) W hW (by omega)) (c79 (T := [e116]) rfl _ x (by have := wsplit_len W; omega))
theorem inj_wInA (x y : Str × Str) (h : [AV.str x.1, AV.str x.2] = [AV.str y.1, AV.str y.2]) : x = y := by
 simp at h; exact Prod.ext h.1 h.2
noncomputable def e44a : Entry Tryz.prog := mkE 44 [[], []] (fun x : Str × Str => [.str x.1, .str x.2]) (fun x => asciiB x.1 ∧ x.1.length ≤ 100000 ∧ x.2.length ≤ 1000000000) (fun x => .bool (inW x.1 x.2)) fun x hx => c44a (T := []) x.1 x.2 hx.1 hx.2.1 hx.2.2
theorem k44a {T : List (Entry Tryz.prog)} (hT : findE 44 T = some e44a.g) {W x : Str} (hW : asciiB W) (hl : W.length ≤ 100000) (hx : x.length ≤ 1000000000) (H : Heap) : callL (ctx T) (.fn 44) [.str W, .str x] H = some (.bool (inW W x), H) :=
 mkE_scalar hT inj_wInA (W, x) ⟨hW, hl, hx⟩ rfl (by simp)
section
variable {ρ ρ' : Place} {H H' : Heap} {w w' : World} {b : Nat} {k k' : Blk}
end
theorem fitL_app {σ : List (Nat × Nat)} {Φ : List (Nat × List AV)} : ∀ {a a' b b' : List AV}, fitL σ Φ a a' → fitL σ Φ b b' → fitL σ Φ (a ++ b) (a' ++ b')
 | [], [], _, _, _, h => h
 | x :: a, y :: a', b, b', h, k => by
  simp only [List.cons_append, fitL] at h ⊢
  exact ⟨h.1, fitL_app h.2 k⟩
 | [], _ :: _, _, _, h, _ => by simp [fitL] at h
 | _ :: _, [], _, _, h, _ => by simp [fitL] at h
section
variable {C : Ctx} {f : FuncId} {args : List AV} {v : AV} {H : Heap} {bt nb n n' : Nat} {cap cap' : Cap} {pre post cs cs' : List AV}
end
end Go.Proofs.YtgpjifeeneeiaaaGreatDoor