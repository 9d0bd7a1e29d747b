/- Rows of bytes. No condition. -/
import Derived.Test.YtfncefamflainaaGreatDoorMF
import Derived.Test.YtfncefamflainaaGreatDoorChecked
namespace Go.Proofs.YtfncefamflainaaGreatDoor
set_option linter.unusedSimpArgs false
set_option linter.unusedVariables false
open Go Go.RowKit
set_option maxRecDepth 100000
def keepTbl : List (List Nat) := [[], [], [], [0, 1, 2, 3, 4, 6, 7, 8, 9, 10], [0, 1, 2, 4, 5, 6, 7, 8, 9], [0, 1, 2], [0, 1, 2, 3, 4, 6], [0, 2, 3, 4, 5, 6, 7, 10, 11], [0, 2, 3, 4, 5, 6, 7, 8], [0, 1, 2, 3, 4, 5, 6, 7, 8, 10, 11, 12, 13, 14, 27, 28, 29, 36, 37, 38, 55, 56, 57], [0, 1, 2, 3], [0, 1, 2, 3, 4], [0, 1, 2, 3, 4, 5, 7, 9, 10, 12, 14, 24, 25, 52, 53], [0, 1, 2, 3], [0, 1, 4, 6, 11, 12, 13], [0, 1, 2, 3, 5, 10, 11, 12, 18, 19, 20], [0, 1, 4], [0, 1, 4], [0, 1, 2], [0, 1, 4, 5, 6], [0, 1, 4], [0, 1, 2, 6, 7, 8, 9, 10, 11], [0, 1, 2], [0, 1, 2, 3, 4], [0, 1, 2], [0, 1, 4, 5], [0, 1, 4], [0, 2, 3], [0, 2, 3], [0, 2], [0, 2], [0, 1, 4, 5, 6], [0, 2], [0, 1, 4, 5], [0, 1, 4, 5, 12, 13], [0, 2], [0, 1, 2, 3, 4, 5, 6, 7, 8], [0, 2], [0, 1, 4], [0, 1, 4], [0, 1, 4], [0, 1, 3, 4], [0, 1, 4], [0, 1, 4, 5, 6, 7], [0, 1, 4], [0, 1, 4, 5, 7, 8], [0, 2, 3, 4, 5], [0, 2, 3, 4], [0, 1, 3, 4], [0, 1, 4], [0, 2], [0, 1, 2, 6], [0, 2], [0, 2, 4, 6, 7, 8], [0, 1, 3, 4], [0, 2, 3, 4], [0, 2], [0, 2, 3, 4, 5, 7, 8, 9], [0], [0, 2], [0, 1, 2, 4, 5], [0, 2, 3], [0, 1, 4], [0, 2], [0, 2, 3, 4], [0, 1, 4, 5, 6, 7, 8, 9, 10, 11, 14, 15, 47, 48, 49], [0, 2], [0, 2, 3, 4], [0], [0, 1, 4], [0, 1, 4, 5, 6, 7, 8, 9, 10, 11, 12, 13], [0, 2, 3, 4, 5, 6, 8, 9, 10, 47, 48, 49], [0, 1, 2, 3, 4, 10, 11], [0, 1, 2, 6, 7, 8, 10, 11], [0, 2, 3, 4, 5, 6, 75], [0, 1, 4], [0, 2], [0, 1, 4], [0, 1, 3], [0, 2, 3, 4, 5, 6, 7, 8, 9], [0, 1, 4, 5], [0, 1, 4, 5, 6, 7, 8], [], [0, 1, 4, 5, 6, 7, 9], [0, 2], [0, 1, 4], [0, 1, 4], [0], [], [], [0, 2], [0, 1, 4, 5, 6, 7, 8, 9, 10], [0, 1, 2, 6, 7, 8, 9, 10, 11, 16], [0, 1, 4], [0, 1, 4], [0, 1, 2, 6], [0, 1, 2, 6], [0, 2], [0, 1, 4, 5, 6, 7, 8, 9, 10, 45, 46], [0, 1, 4, 5, 7, 8], [0, 1, 4, 5], [0, 1, 4], [0, 1, 4], [0, 2], [0, 2, 3], [0, 1, 4, 5, 6, 7, 8, 9, 10, 11, 12, 13, 14, 15, 16], [0, 1, 2, 3, 4, 10, 11, 12, 13, 14, 15, 16, 17, 18], [0, 2, 3, 4, 5, 6], [0, 1, 4, 5], [0, 2, 3, 4, 5], [0, 2, 3, 4, 5, 6, 7, 8], [0, 1, 2, 6, 7, 8, 9, 10, 11, 12, 13, 15, 16, 17, 85, 99, 100, 101], [0, 2, 3], [0, 2], [0, 1, 4, 5, 6, 7, 8, 9, 10, 11, 12, 13, 14, 15, 16, 175, 176], [0, 2], [0, 2, 3, 4, 5], [0, 1, 4], [0, 1, 4, 5], [0, 2], [0, 2], [0, 2], [0, 2], [0, 2], [0, 2, 3, 4, 5, 6, 7, 8], [0, 2], [0, 2], [0, 2], [0, 2, 3, 4, 5], [0, 2], [0, 2], [0, 2], [], [], [], [], [], [], [], [], [], [], [], [], [], [], [], [], [], [], [], [], [], [], [], [], [], [], [], [], [], []]
@[simp] theorem szT4 : sizeT Tryz.prog 4 = some 1 := rfl
@[simp] theorem agT4 : aggT Tryz.prog 4 = some false := rfl
@[simp] theorem byT4 : bytesT Tryz.prog 4 = some 1 := rfl
@[simp] theorem alT4 (H : Heap) : alV Tryz.prog H 4 = some (.ptr H.n 0, H.new (.cells [.bool false])) := rfl
@[simp] theorem zeT4 : zeroOf Tryz.prog 4 = some (.bool false) := rfl
attribute [simp] Tryz.underlying4
@[simp 500] theorem rvF4 (H : Heap) (cs : List AV) (o : Nat) : readVar Tryz.prog H 4 (.fptr cs o) = getL cs o := rfl
@[simp 500] theorem rvP4 (H : Heap) (b o : Nat) : readVar Tryz.prog H 4 (.ptr b o) = (H.get b).bind fun k => k.rd.bind fun cs => getL cs o := rfl
@[simp] theorem beq4 (a b : Bool) : binA Tryz.prog .eql 4 (.bool a) (.bool b) = some (.bool (a == b)) := rfl
@[simp] theorem bne4 (a b : Bool) : binA Tryz.prog .neq 4 (.bool a) (.bool b) = some (.bool !(a == b)) := rfl
@[simp] theorem szT5 : sizeT Tryz.prog 5 = some 1 := rfl
@[simp] theorem agT5 : aggT Tryz.prog 5 = some false := rfl
@[simp] theorem byT5 : bytesT Tryz.prog 5 = some 1 := rfl
@[simp] theorem alT5 (H : Heap) : alV Tryz.prog H 5 = some (.ptr H.n 0, H.new (.cells [.int .u8 0])) := rfl
@[simp] theorem zeT5 : zeroOf Tryz.prog 5 = some (.int .u8 0) := rfl
attribute [simp] Tryz.underlying5
@[simp 500] theorem rvF5 (H : Heap) (cs : List AV) (o : Nat) : readVar Tryz.prog H 5 (.fptr cs o) = getL cs o := rfl
@[simp 500] theorem rvP5 (H : Heap) (b o : Nat) : readVar Tryz.prog H 5 (.ptr b o) = (H.get b).bind fun k => k.rd.bind fun cs => getL cs o := rfl
@[simp] theorem szT9 : sizeT Tryz.prog 9 = some 1 := rfl
@[simp] theorem agT9 : aggT Tryz.prog 9 = some false := rfl
@[simp] theorem byT9 : bytesT Tryz.prog 9 = some 16 := rfl
@[simp] theorem alT9 (H : Heap) : alV Tryz.prog H 9 = some (.ptr H.n 0, H.new (.cells [.str []])) := rfl
@[simp] theorem zeT9 : zeroOf Tryz.prog 9 = some (.str []) := rfl
attribute [simp] Tryz.underlying9
@[simp 500] theorem rvF9 (H : Heap) (cs : List AV) (o : Nat) : readVar Tryz.prog H 9 (.fptr cs o) = getL cs o := rfl
@[simp 500] theorem rvP9 (H : Heap) (b o : Nat) : readVar Tryz.prog H 9 (.ptr b o) = (H.get b).bind fun k => k.rd.bind fun cs => getL cs o := rfl
@[simp] theorem szT22 : sizeT Tryz.prog 22 = some 1 := rfl
@[simp] theorem agT22 : aggT Tryz.prog 22 = some false := rfl
@[simp] theorem byT22 : bytesT Tryz.prog 22 = some 24 := rfl
@[simp] theorem alT22 (H : Heap) : alV Tryz.prog H 22 = some (.ptr H.n 0, H.new (.cells [.nilS])) := rfl
@[simp] theorem zeT22 : zeroOf Tryz.prog 22 = some (.nilS) := rfl
attribute [simp] Tryz.underlying22
@[simp 500] theorem rvF22 (H : Heap) (cs : List AV) (o : Nat) : readVar Tryz.prog H 22 (.fptr cs o) = getL cs o := rfl
@[simp 500] theorem rvP22 (H : Heap) (b o : Nat) : readVar Tryz.prog H 22 (.ptr b o) = (H.get b).bind fun k => k.rd.bind fun cs => getL cs o := rfl
@[simp] theorem slz22 (sz : Nat) (e : AV) (r : List AV) : binA Tryz.prog .eql 22 (.fslc sz (e :: r)) .nilS = some (.bool false) := rfl
@[simp] theorem sln22 (sz : Nat) (e : AV) (r : List AV) : binA Tryz.prog .neq 22 (.fslc sz (e :: r)) .nilS = some (.bool true) := rfl
@[simp] theorem slze22 : binA Tryz.prog .eql 22 .eslc .nilS = some (.bool false) := rfl
@[simp] theorem slzz22 : binA Tryz.prog .eql 22 .nilS .nilS = some (.bool true) := rfl
attribute [simp] opndO_s
noncomputable def ctx (T : List (Entry Tryz.prog)) : Ctx := mkC Tryz.prog (fun f => (getL keepTbl f).getD []) T
@[simp] theorem mkC_P (T : List (Entry Tryz.prog)) : (ctx T).P = Tryz.prog := rfl
theorem mixed : Tryz.prog.follows .mixedOrders = true := by decide +kernel
theorem callOK {T : List (Entry Tryz.prog)} : CallOK (ctx T) (callL (ctx T)) := mkC_call _ _ T mixed
theorem callOKF {T : List (Entry Tryz.prog)} (l : List (Fact (ctx T))) : CallOK (ctx T) (callF l (callL (ctx T))) := callF_ok callOK l
abbrev Str := List UInt8
@[simp] theorem lenStr (H : Heap) (s : Str) : lenA Tryz.prog H 9 (.str s) = some s.length := by simp [lenA]
theorem ixStr {s : Str} {i : Nat} (h : i < s.length) : indexA Tryz.prog 9 (.str s) (.int .i64 (i : Int)) = some (.int .u8 (s[i]'h).toNat) := by
 simp [indexA, idx_nat h, getL_get h]
theorem slStr {H : Heap} {s : Str} {i : Nat} (h : i ≤ s.length) : sliceA Tryz.prog H 9 (.str s) (some (.int .i64 (i : Int))) none none = some (.str (s.drop i)) := by
 simp [sliceA, hiOK, bound, idx_nat (Nat.lt_succ_of_le h)]
theorem slStrTo {H : Heap} {s : Str} {j : Nat} (h : j ≤ s.length) : sliceA Tryz.prog H 9 (.str s) none (some (.int .i64 (j : Int))) none = some (.str (s.take j)) := by
 simp [sliceA, hiOK, bound, idx_nat (Nat.lt_succ_of_le h)]
theorem slStrOf {H : Heap} {s : Str} {i j : Nat} (hj : j ≤ s.length) (hi : i ≤ j) : sliceA Tryz.prog H 9 (.str s) (some (.int .i64 (i : Int))) (some (.int .i64 (j : Int))) none = some (.str ((s.take j).drop i)) := by
 simp [sliceA, hiOK, bound, idx_nat (Nat.lt_succ_of_le hj), idx_nat (Nat.lt_succ_of_le hi)]
theorem sl1 {s : Str} {i : Nat} (h : i < s.length) : (s.take (i + 1)).drop i = [s[i]] := by
 rw [List.take_succ_eq_append_getElem h, List.drop_append_of_le_length (by simp; omega), List.drop_of_length_le (by simp; omega), List.nil_append]
theorem slStr1 {H : Heap} {s : Str} {i : Nat} (h : i < s.length) : sliceA Tryz.prog H 9 (.str s) (some (.int .i64 (i : Int))) (some (.int .i64 ((i : Int) + 1))) none = some (.str [s[i]]) := by
 have := slStrOf (H := H) (s := s) (i := i) (j := i + 1) (by omega) (by omega)
 rw [sl1 h] at this
 simpa using this
theorem catStr {x y : Str} (h : x.length + y.length ≤ 1000000000000) : binA Tryz.prog .add 9 (.str x) (.str y) = some (.str (x ++ y)) := by
 simp [binA, strOp]; omega
@[simp] theorem eqStr (x y : Str) : binA Tryz.prog .eql 9 (.str x) (.str y) = some (.bool (decide (x = y))) := by simp [binA, strOp, eqB_eq]
@[simp] theorem neStr (x y : Str) : binA Tryz.prog .neq 9 (.str x) (.str y) = some (.bool !(decide (x = y))) := by simp [binA, strOp, eqB_eq]
abbrev aStrs (L : List Str) : AV := .fslc 1 (L.map .str)
theorem el_str (L : List Str) : Elems 1 (L.map AV.str) := .map (sz := 1) (f := AV.str) (by decide) (fun x => ⟨rfl, rfl, fun _ => rfl, fun h => absurd rfl h⟩) L
theorem atS {L : List Str} {i : Nat} (h : i < L.length) : indexAddrA Tryz.prog 22 (aStrs L) (.int .i64 (i : Int)) = some (.fptr [.str L[i]] 0) := by
 simp [indexAddrA, aStrs, idx_nat h, getL_map h, AV.cells]
theorem lenS {H : Heap} {L : List Str} : lenA Tryz.prog H 22 (aStrs L) = some L.length := by simp [lenA, aStrs]
theorem inj_str (x y : Str) (h : [AV.str x] = [AV.str y]) : x = y := by simp at h; exact h
theorem inj_str2 (x y : Str × Str) (h : [AV.str x.1, AV.str x.2] = [AV.str y.1, AV.str y.2]) : x = y := by
 simp at h; exact Prod.ext h.1 h.2
theorem inj_strs {L M : List Str} (h : aStrs L = aStrs M) : L = M := by
 simp only [aStrs, AV.fslc.injEq, true_and] at h
 exact List.map_inj_right (fun _ _ h => by simpa using h) |>.1 h
theorem inj_u8 (x y : UInt8) (h : [AV.int .u8 (x.toNat : Int)] = [AV.int .u8 (y.toNat : Int)]) : x = y := by
 simp only [List.cons.injEq, AV.int.injEq, true_and, and_true] at h
 exact UInt8.toNat_inj.1 (by omega)
def sp (c : UInt8) : Bool := decide ((c.toNat : Int) = 9) || (decide ((c.toNat : Int) = 10) || (decide ((c.toNat : Int) = 12) || (decide ((c.toNat : Int) = 13) || decide ((c.toNat : Int) = 32))))
theorem c126 {T : List (Entry Tryz.prog)} (c : UInt8) : CallAt (ctx T) 126 [.int .u8 c.toNat] ⟨0, []⟩ (.bool (sp c)) ⟨0, []⟩ := by
 refine callAt_body (fn := Tryz.f126) (s0 := ⟨[0, 2], [.int .u8 c.toNat, .undef], [], 21, ⟨0, [[]]⟩⟩) Tryz.func126 rfl rfl rfl ?_
 repeat apply wq
 refine wps_region callOK ?_
 simp [zS]
 by_cases h1 : (c.toNat : Int) = 9 <;> by_cases h2 : (c.toNat : Int) = 10 <;> by_cases h3 : (c.toNat : Int) = 12 <;> by_cases h4 : (c.toNat : Int) = 13 <;> by_cases h5 : (c.toNat : Int) = 32
 all_goals first
  | (exfalso; omega)
  | (repeat apply wq
     repeat apply wq
     refine wps_region callOK ?_
     simp [zS, h1, h2, h3, h4, h5]
     repeat apply wq
     repeat apply wq
     refine wps_ret ?_
     simp [retVal, Tryz.f126, oneOr]
     exact ends_pure rfl (by simp [sp, h1, h2, h3, h4, h5]))
noncomputable def e126 : Entry Tryz.prog := mkE 126 [[]] (fun x : UInt8 => [.int .u8 x.toNat]) (fun _ => True) (fun x => .bool (sp x)) fun x _ => c126 (T := []) x
theorem k126 {T : List (Entry Tryz.prog)} (hT : findE 126 T = some e126.g) (c : UInt8) (H : Heap) : callL (ctx T) (.fn 126) [.int .u8 c.toNat] H = some (.bool (sp c), H) :=
 mkE_scalar hT inj_u8 c trivial rfl (by simp)
def wstep (st : List Str × Str) (c : UInt8) : List Str × Str := if sp c = true then (if st.2 = [] then st.1 else st.1 ++ [st.2], []) else (st.1, st.2 ++ [c])
def wst (s : Str) : List Str × Str := s.foldl wstep ([], [])
def wfin (st : List Str × Str) : List Str := if st.2 = [] then st.1 else st.1 ++ [st.2]
def wsplit (s : Str) : List Str := wfin (wst s)
theorem wst_at {s : Str} {i : Nat} (h : i < s.length) : wst (s.take (i + 1)) = wstep (wst (s.take i)) s[i] := by
 rw [List.take_succ_eq_append_getElem h]
 simp only [wst, List.foldl_append, List.foldl_cons, List.foldl_nil]
theorem wst_len (s : Str) : (wst s).2.length ≤ s.length ∧ (wst s).1.length ≤ s.length := by
 have key : ∀ (s : Str) (st : List Str × Str), (s.foldl wstep st).2.length ≤ st.2.length + s.length ∧ (s.foldl wstep st).1.length ≤ st.1.length + s.length := by
  intro s
  induction s with
  | nil => intro st; simp
  | cons c r ih =>
   intro st
   have := ih (wstep st c)
   simp only [List.foldl_cons, List.length_cons]
   have h1 : (wstep st c).2.length ≤ st.2.length + 1 ∧ (wstep st c).1.length ≤ st.1.length + 1 := by
    unfold wstep
    split
    ·split <;> simp
    ·simp
   omega
 have := key s ([], [])
 simp only [wst]
 simp at this
 exact this
theorem c109 {T : List (Entry Tryz.prog)} (hS : findE 126 T = some e126.g) (s : Str) (hl : s.length ≤ 1000000) : CallAt (ctx T) 109 [.str s] ⟨0, []⟩ (ownV 0 1 ((wsplit s).map .str)) ⟨1, [ownF 0 ((wsplit s).map .str)]⟩ := by
 refine callAt_body (fn := Tryz.f109) (s0 := ⟨[0, 2, 3, 4, 5], [.str s, .undef, .undef, .undef, .undef], [], 37, ⟨0, [[]]⟩⟩) Tryz.func109 rfl rfl rfl ?_
 repeat apply wq
 refine wps_region callOK ?_
 simp [zS]
 repeat apply wq
 refine wps_region callOK ?_
 simp [zS]
 repeat apply wq
 refine wps_region callOK ?_
 simp [zS]
 repeat apply wq
 refine wps_region callOK ?_
 simp [zS]
 repeat apply wq
 refine wps_block (wps_loop' (fun i : Nat => (⟨[0, 2, 3, 4, 5], [.str s, .undef, ownV 0 1 ((wst (s.take i)).1.map .str), .str (wst (s.take i)).2, .int .i64 i], [], 37, ⟨1, [ownF 0 ((wst (s.take i)).1.map .str)]⟩⟩ : St))
  (fun i => i ≤ s.length) (fun i => s.length - i) [] [] 0 (Nat.zero_le _)
  ⟨rfl, rfl, rfl, by simp [fitL, fitV, pureV, wst, ownV], .keep0 (by simp [wst, ownF])⟩ ?_)
 rintro i hi B hB
 have hlen := wst_len (s.take i)
 simp only [List.length_take] at hlen
 have same : ∀ (L : List Str), FitH 0 [(0, 0)] [] ⟨1, [ownF 0 (L.map AV.str)]⟩ ⟨1, [ownF 0 (L.map AV.str)]⟩ := fun L => by
  refine .same (by simp) (by simp) (by simp) (by simp) ?_ ?_
  ·cases L.map AV.str <;> simp [Heap.ents, ownF]
  ·cases he : L.map AV.str with
   | nil => intro e he; simp [Heap.ents, ownF] at he
   | cons x r =>
    intro e hx
    simp [Heap.ents, ownF] at hx
    subst hx
    exact ⟨by simp, by simp [ownF, Heap.get, getFs, getF], fitL_pure (by rw [← he]; exact (el_str _).pure)⟩
 repeat apply wq
 refine wps_region callOK ?_
 simp [zS]
 repeat apply wq
 refine wps_cond rfl (fun h => ?_) fun h => ?_
 ·simp at h
  repeat apply wq
  refine wps_skip ?_
  simp
  repeat apply wq
  refine wps_block ?_
  have hstep := wst_at h
  cases hsp : sp s[i] with
  | false =>
   have hn : wst (s.take (i + 1)) = ((wst (s.take i)).1, (wst (s.take i)).2 ++ [s[i]]) := by rw [hstep]; simp [wstep, hsp]
   repeat apply wq
   refine wps_region callOK ?_
   simp [zS, ixStr h, k126 hS, hsp]
   repeat apply wq
   refine wps_ct rfl ?_
   repeat apply wq
   refine wps_region callOK ?_
   simp [zS, add_one (show i ≤ 1000000000 by omega), slStr1 h, catStr (show (wst (s.take i)).2.length + [s[i]].length ≤ 1000000000000 by simp; omega)]
   repeat apply wq
   refine wps_exit ?_
   simp
   repeat apply wq
   refine wps_region callOK ?_
   simp [zS, add_one (show i ≤ 1000000000 by omega)]
   exact hB _ (i + 1) (by omega) (by omega) ⟨[(0, 0)], [], rfl, rfl, rfl, by rw [hn]; simp [fitL, fitV, lookN, fitV_own, pureV], by rw [hn]; exact same _⟩
  | true =>
   repeat apply wq
   refine wps_region callOK ?_
   simp [zS, ixStr h, k126 hS, hsp]
   repeat apply wq
   refine wps_cf rfl ?_
   repeat apply wq
   refine wps_skip ?_
   simp
   by_cases hc : (wst (s.take i)).2 = []
   ·have hn : wst (s.take (i + 1)) = ((wst (s.take i)).1, []) := by rw [hstep]; simp [wstep, hsp, hc]
    repeat apply wq
    refine wps_region callOK ?_
    simp [zS, hc]
    repeat apply wq
    refine wps_cf rfl ?_
    repeat apply wq
    refine wps_skip ?_
    simp
    repeat apply wq
    refine wps_region callOK ?_
    simp [zS]
    repeat apply wq
    refine wps_region callOK ?_
    simp [zS, add_one (show i ≤ 1000000000 by omega)]
    exact hB _ (i + 1) (by omega) (by omega) ⟨[(0, 0)], [], rfl, rfl, rfl, by rw [hn]; simp [fitL, fitV, lookN, fitV_own, pureV], by rw [hn]; exact same _⟩
   ·have hn : wst (s.take (i + 1)) = ((wst (s.take i)).1 ++ [(wst (s.take i)).2], []) := by rw [hstep]; simp [wstep, hsp, hc]
    have happ := own_app1 (P := Tryz.prog) (elem := 9) (b := 0) (t := 1) (m := 2) (es := (wst (s.take i)).1.map .str) (cs := [.str (wst (s.take i)).2]) (g := []) (fs := []) szT9 byT9 zeT9 rfl (by omega) (by omega) rfl rfl (el_str _) (by simp; omega) (by omega) (by simp) (by simp)
    rw [List.append_nil] at happ
    repeat apply wq
    refine wps_region callOK ?_
    simp [zS, hc]
    repeat apply wq
    refine wps_ct rfl ?_
    repeat apply wq
    refine wps_region callOK ?_
    simp [zS, happ]
    repeat apply wq
    refine wps_region callOK ?_
    simp [zS]
    repeat apply wq
    refine wps_region callOK ?_
    simp [zS, add_one (show i ≤ 1000000000 by omega)]
    have hne : (wst (s.take (i + 1))).1.map AV.str ≠ [] := by rw [hn]; simp
    refine hB _ (i + 1) (by omega) (by omega) ⟨[(2, 0)], [], rfl, rfl, rfl, ?_, .grown (el_str _) hne ?_⟩
    ·rw [ownV_ne hne, hn]; simp [fitL, fitV, lookN, pureV]
    ·rw [hn, List.map_append, flat_append]; simp [Heap.get, getFs, getF, flatAV]
 ·simp at h
  repeat apply wq
  refine wps_exit ?_
  simp
  have hs : s.take i = s := List.take_of_length_le h
  rw [hs] at hlen ⊢
  by_cases hc : (wst s).2 = []
  ·have hv : wsplit s = (wst s).1 := by simp [wsplit, wfin, hc]
   repeat apply wq
   refine wps_region callOK ?_
   simp [zS, hc]
   repeat apply wq
   refine wps_cf rfl ?_
   repeat apply wq
   refine wps_skip ?_
   simp
   repeat apply wq
   refine wps_region callOK ?_
   simp [zS]
   repeat apply wq
   refine wps_ret ?_
   simp [retVal, Tryz.f109, oneOr]
   rw [hv]
   exact ⟨[(0, 0)], [], fitV_own (by simp [lookN]), same _⟩
  ·have hv : wsplit s = (wst s).1 ++ [(wst s).2] := by simp [wsplit, wfin, hc]
   have happ := own_app1 (P := Tryz.prog) (elem := 9) (b := 0) (t := 1) (m := 2) (es := (wst s).1.map .str) (cs := [.str (wst s).2]) (g := []) (fs := []) szT9 byT9 zeT9 rfl (by omega) (by omega) rfl rfl (el_str _) (by simp; omega) (by omega) (by simp) (by simp)
   rw [List.append_nil] at happ
   repeat apply wq
   refine wps_region callOK ?_
   simp [zS, hc]
   repeat apply wq
   refine wps_ct rfl ?_
   repeat apply wq
   refine wps_region callOK ?_
   simp [zS, happ]
   repeat apply wq
   refine wps_region callOK ?_
   simp [zS]
   repeat apply wq
   refine wps_ret ?_
   simp [retVal, Tryz.f109, oneOr]
   have hne : (wsplit s).map AV.str ≠ [] := by rw [hv]; simp
   refine ⟨[(2, 0)], [], ?_, .grown (el_str _) hne ?_⟩
   ·rw [ownV_ne hne, hv]; simp [fitL, fitV, lookN, pureV]
   ·rw [hv, List.map_append, flat_append]; simp [Heap.get, getFs, getF, flatAV]
theorem c108 {T : List (Entry Tryz.prog)} (L : List Str) (x : Str) (hl : L.length ≤ 1000000) : CallAt (ctx T) 108 [aStrs L, .str x] ⟨0, []⟩ (.bool (decide (x ∈ L))) ⟨0, []⟩ := by
 refine callAt_body (fn := Tryz.f108) (s0 := ⟨[0, 1, 4, 5], [aStrs L, .str x, .undef, .undef], [], 18, ⟨0, [[]]⟩⟩) Tryz.func108 rfl rfl rfl ?_
 repeat apply wq
 refine wps_region callOK ?_
 simp [zS]
 repeat apply wq
 refine wps_region callOK ?_
 simp [zS]
 repeat apply wq
 refine wps_block (wps_loop' (fun i : Nat => (⟨[0, 1, 4, 5], [aStrs L, .str x, .undef, .int .i64 i], [], 18, ⟨0, [[]]⟩⟩ : St))
  (fun i => i ≤ L.length ∧ decide (x ∈ L) = decide (x ∈ L.drop i)) (fun i => L.length - i) [] [] 0 ⟨Nat.zero_le _, by simp⟩ ⟨rfl, rfl, rfl, by simp [fitL, fitV, pureV, pureL, aStrs], FitH.nothing⟩ ?_)
 rintro i ⟨hi, hx⟩ B hB
 repeat apply wq
 refine wps_region callOK ?_
 simp [zS, lenS]
 repeat apply wq
 refine wps_cond rfl (fun h => ?_) fun h => ?_
 ·simp at h
  repeat apply wq
  refine wps_skip ?_
  simp
  repeat apply wq
  refine wps_block ?_
  repeat apply wq
  refine wps_region callOK ?_
  simp [zS, atS h]
  repeat apply wq
  refine wps_cond rfl (fun h2 => ?_) fun h2 => ?_
  ·simp at h2
   repeat apply wq
   refine wps_region callOK ?_
   simp [zS]
   repeat apply wq
   refine wps_ret ?_
   simp [retVal, Tryz.f108, oneOr, thenQ, blockQ]
   exact ends_pure rfl (by rw [hx, List.drop_eq_getElem_cons h]; simp [h2])
  ·simp at h2
   repeat apply wq
   refine wps_skip ?_
   simp
   repeat apply wq
   refine wps_region callOK ?_
   simp [zS, add_one (show i ≤ 1000000000 by omega)]
   exact hB _ (i + 1) (by omega) ⟨by omega, by rw [hx, List.drop_eq_getElem_cons h]; simp only [List.mem_cons, show ¬ x = L[i] from fun e => h2 e.symm, false_or]⟩ ⟨[], [], ⟨rfl, rfl, rfl, by simp [fitL, fitV, pureV, pureL, aStrs], FitH.nothing⟩⟩
 ·simp at h
  repeat apply wq
  refine wps_exit ?_
  simp
  repeat apply wq
  refine wps_region callOK ?_
  simp [zS]
  repeat apply wq
  refine wps_ret ?_
  simp [retVal, Tryz.f108, oneOr, thenQ, blockQ]
  exact ends_pure rfl (by rw [hx, List.drop_eq_nil_of_le h]; simp)
noncomputable def e109 : Entry Tryz.prog := mkE 109 [[]] (fun x : Str => [.str x]) (fun x => x.length ≤ 1000000) (fun x => aStrs (wsplit x)) fun x h => (c109 (T := [e126]) rfl x h).froze (el_str _)
theorem k109 {T : List (Entry Tryz.prog)} (hT : findE 109 T = some e109.g) {s : Str} (hl : s.length ≤ 1000000) (H : Heap) : callL (ctx T) (.fn 109) [.str s] H = some (aStrs (wsplit s), H) :=
 mkE_pure hT inj_str s hl (by simp [pureL, pureV]) (by simp) H
noncomputable def e108 : Entry Tryz.prog := mkE 108 [[1], []] (fun x : List Str × Str => [aStrs x.1, .str x.2]) (fun x => x.1.length ≤ 1000000) (fun x => .bool (decide (x.2 ∈ x.1))) fun x h => c108 (T := []) x.1 x.2 h
theorem k108 {T : List (Entry Tryz.prog)} (hT : findE 108 T = some e108.g) {L : List Str} (x : Str) (hl : L.length ≤ 1000000) (H : Heap) : callL (ctx T) (.fn 108) [aStrs L, .str x] H = some (.bool (decide (x ∈ L)), H) :=
 mkE_scalar hT (fun x y h => by simp at h; exact Prod.ext (inj_strs (by simpa [aStrs] using h.1)) h.2) (L, x) hl rfl (by simp)
def inW (w x : Str) : Bool := decide (x ∈ wsplit w)
theorem wsplit_len (s : Str) : (wsplit s).length ≤ s.length + 1 := by
 have := wst_len s
 unfold wsplit wfin
 split <;> simp <;> omega
theorem c86 {T : List (Entry Tryz.prog)} (h1 : findE 109 T = some e109.g) (h2 : findE 108 T = some e108.g) (w x : Str) (hl : w.length ≤ 900000) : CallAt (ctx T) 86 [.str w, .str x] ⟨0, []⟩ (.bool (inW w x)) ⟨0, []⟩ := by
 refine callAt_body (fn := Tryz.f86) (s0 := ⟨[0, 1, 4], [.str w, .str x, .undef], [], 9, ⟨0, [[]]⟩⟩) Tryz.func86 rfl rfl rfl ?_
 repeat apply wq
 refine wps_region callOK ?_
 simp [zS]
 have hs := wsplit_len w
 repeat apply wq
 refine wps_region callOK ?_
 simp [zS, k109 h1 (show w.length ≤ 1000000 by omega), k108 h2 x (show (wsplit w).length ≤ 1000000 by omega)]
 repeat apply wq
 refine wps_ret ?_
 simp [retVal, Tryz.f86, oneOr, thenQ, blockQ]
 exact ends_pure rfl (by simp [inW])
noncomputable def e86 : Entry Tryz.prog := mkE 86 [[], []] (fun x : Str × Str => [.str x.1, .str x.2]) (fun x => x.1.length ≤ 900000) (fun x => .bool (inW x.1 x.2)) fun x h => c86 (T := [e109, e108]) rfl rfl x.1 x.2 h
theorem k86 {T : List (Entry Tryz.prog)} (hT : findE 86 T = some e86.g) {w : Str} (x : Str) (hl : w.length ≤ 900000) (H : Heap) : callL (ctx T) (.fn 86) [.str w, .str x] H = some (.bool (inW w x), H) :=
 mkE_scalar hT inj_str2 (w, x) hl rfl (by simp)
@[simp] theorem szT47 : sizeT Tryz.prog 47 = some 1 := rfl
@[simp] theorem agT47 : aggT Tryz.prog 47 = some false := rfl
@[simp] theorem byT47 : bytesT Tryz.prog 47 = some 24 := rfl
@[simp] theorem alT47 (H : Heap) : alV Tryz.prog H 47 = some (.ptr H.n 0, H.new (.cells [.nilS])) := rfl
@[simp] theorem zeT47 : zeroOf Tryz.prog 47 = some (.nilS) := rfl
attribute [simp] Tryz.underlying47
@[simp 500] theorem rvF47 (H : Heap) (cs : List AV) (o : Nat) : readVar Tryz.prog H 47 (.fptr cs o) = getL cs o := rfl
@[simp 500] theorem rvP47 (H : Heap) (b o : Nat) : readVar Tryz.prog H 47 (.ptr b o) = (H.get b).bind fun k => k.rd.bind fun cs => getL cs o := rfl
@[simp] theorem slz47 (sz : Nat) (e : AV) (r : List AV) : binA Tryz.prog .eql 47 (.fslc sz (e :: r)) .nilS = some (.bool false) := rfl
@[simp] theorem sln47 (sz : Nat) (e : AV) (r : List AV) : binA Tryz.prog .neq 47 (.fslc sz (e :: r)) .nilS = some (.bool true) := rfl
@[simp] theorem slze47 : binA Tryz.prog .eql 47 .eslc .nilS = some (.bool false) := rfl
@[simp] theorem slzz47 : binA Tryz.prog .eql 47 .nilS .nilS = some (.bool true) := rfl
theorem getL_bytes : ∀ {s : Str} {i : Nat} (h : i < s.length), getL (bytesAV s) i = some (.int .u8 (s[i].toNat : Int))
 | [], i, h => absurd h (Nat.not_lt_zero i)
 | c :: r, 0, _ => rfl
 | c :: r, i + 1, h => by
  have := getL_bytes (s := r) (i := i) (by simpa using h)
  simpa [bytesAV] using this
theorem bytesOf_bytes : ∀ (s : Str), bytesOf (bytesAV s) = some s
 | [] => rfl
 | c :: r => by simp [bytesAV, bytesOf, byteOf1, bytesOf_bytes r]
theorem pure_bytes : ∀ (s : Str), pureL (bytesAV s) = true
 | [] => by simp [bytesAV, pureL]
 | c :: r => by simp [bytesAV, pureL, pureV, pure_bytes r]
theorem sub_bytes {s : Str} : subL 0 s.length (bytesAV s) = some (bytesAV s) := by
 have := takeL_front (n := s.length) (l := bytesAV s) (by rw [bytesAV_length]; omega)
 rw [subL_front (by rw [bytesAV_length]; omega)]
 simp [List.take_of_length_le, bytesAV_length]
def bytesH (n : Nat) (s : Str) : Heap := ⟨n, [[(0, .cells (bytesAV s))]]⟩
theorem conv1 {s : Str} (h : s.length ≤ 1000000) : convA Tryz.prog ⟨0, [[]]⟩ 9 47 (.str s) = some (.slc 0 0 s.length (.rest 1), bytesH 1 s) := by
 have : roomOK s.length 1 = true := by simp [roomOK]; omega
 simp [convA, this, bytesH, Heap.new, pushF]
theorem ix52 {b o len i : Nat} {cap : Cap} (h : i < len) : indexAddrA Tryz.prog 47 (.slc b o len cap) (.int .i64 (i : Int)) = some (.ptr b (o + i)) := by simp [indexAddrA, idx_nat h]
theorem len52 {H : Heap} {b o n : Nat} {cap : Cap} : lenA Tryz.prog H 47 (.slc b o n cap) = some n := by simp [lenA]
theorem fitBytes {n : Nat} {s t : Str} (e : s = t) : FitH 0 [(0, 0)] [] (bytesH n s) (bytesH 1 t) := by
 subst e
 have hb : fitB [(0, 0)] [] (.cells (bytesAV s)) (.cells (bytesAV s)) := by
  show fitL _ _ _ _
  exact fitL_pure (pure_bytes s)
 refine ⟨by simp, by simp, by simp [bytesH, Heap.ents], by simp [bytesH], by simp, Nat.zero_le _, ?_, by simp⟩
 intro e he
 simp [bytesH, Heap.ents] at he
 subst he
 exact ⟨0, _, by simp, by simp [bytesH, Heap.get, getFs, getF], hb⟩
theorem fitSlc {len : Nat} {cap : Cap} : fitV [(0, 0)] [] (.slc 0 0 len cap) (.slc 0 0 len cap) := by simp [fitV, lookN]
theorem bytes_map : ∀ (s : Str), bytesAV s = s.map fun c => AV.int .u8 (c.toNat : Int)
 | [] => rfl
 | c :: r => by simp [bytesAV, bytes_map r]
theorem el_bytes (s : Str) : Elems 1 (bytesAV s) := by
 rw [bytes_map]
 exact .map (sz := 1) (f := fun c : UInt8 => AV.int .u8 (c.toNat : Int)) (by decide) (fun x => ⟨rfl, rfl, fun _ => rfl, fun h => absurd rfl h⟩) s
theorem flat_bytes : ∀ (s : Str), flatAV (bytesAV s) = bytesAV s
 | [] => rfl
 | c :: r => by simp [bytesAV, flatAV, flat_bytes r]
theorem single_bytes : ∀ (s : Str), allSingle (bytesAV s) = true
 | [] => rfl
 | c :: r => by simp [bytesAV, allSingle, AV.single, single_bytes r]
theorem take_bytes (s : Str) (n : Nat) : (bytesAV s).take n = bytesAV (s.take n) := by rw [bytes_map, bytes_map, List.map_take]
theorem drop_bytes (s : Str) (n : Nat) : (bytesAV s).drop n = bytesAV (s.drop n) := by rw [bytes_map, bytes_map, List.map_drop]
theorem app_bytes (s t : Str) : bytesAV s ++ bytesAV t = bytesAV (s ++ t) := by rw [bytes_map, bytes_map, bytes_map, List.map_append]
def aB (s : Str) : AV := .fslc 1 (bytesAV s)
theorem atB {s : Str} {i : Nat} (h : i < s.length) : indexAddrA Tryz.prog 47 (aB s) (.int .i64 (i : Int)) = some (.fptr [.int .u8 (s[i].toNat : Int)] 0) := by
 simp [indexAddrA, aB, idx_nat (show i < (bytesAV s).length by rw [bytesAV_length]; exact h), getL_bytes h, AV.cells]
theorem lenB {H : Heap} {s : Str} : lenA Tryz.prog H 47 (aB s) = some s.length := by simp [lenA, aB, bytesAV_length]
theorem slB {H : Heap} {s : Str} {i : Nat} (h : i ≤ s.length) : sliceA Tryz.prog H 47 (aB s) (some (.int .i64 (i : Int))) none none = some (aB (s.drop i)) := by
 have h2 : idx (i : Int) (Nat.succ (bytesAV s).length) = some i := idx_nat (by rw [bytesAV_length]; omega)
 rw [bytesAV_length] at h2
 simp [sliceA, hiOK, aB, bound, bytesAV_length]
 rw [h2]
 simp
 rw [List.take_of_length_le (by rw [bytesAV_length]; omega), drop_bytes]
theorem slB2 {H : Heap} {s : Str} {i j : Nat} (h : i ≤ j) (hj : j ≤ s.length) : sliceA Tryz.prog H 47 (aB s) (some (.int .i64 (i : Int))) (some (.int .i64 (j : Int))) none = some (aB ((s.take j).drop i)) := by
 have h1 : idx (j : Int) (Nat.succ (bytesAV s).length) = some j := idx_nat (by rw [bytesAV_length]; omega)
 have h2 : idx (i : Int) (Nat.succ j) = some i := idx_nat (by omega)
 simp [sliceA, hiOK, aB, bound, h1, h2, take_bytes, drop_bytes]
theorem inj_aB {s t : Str} (h : aB s = aB t) : s = t := by
 simp only [aB, AV.fslc.injEq, true_and, bytes_map] at h
 exact List.map_inj_right (fun x y h => by simp at h; exact UInt8.toNat_inj.1 (by omega)) |>.1 h
theorem inj_b1 (x y : Str) (h : [aB x] = [aB y]) : x = y := inj_aB (by simpa using h)
def gV (b : Nat) (s : Str) : AV := match s with
 | [] => .nilS
 | _ :: _ => .slc b 0 s.length (.rest 1)
def gF (b : Nat) (s : Str) : List (Nat × Blk) := match s with
 | [] => []
 | _ :: _ => [(b, .buf 5 0 (bytesAV s))]
theorem gV_ne {b : Nat} {s : Str} (h : s ≠ []) : gV b s = .slc b 0 s.length (.rest 1) := by cases s <;> first | exact absurd rfl h | rfl
theorem gF_ne {b : Nat} {s : Str} (h : s ≠ []) : gF b s = [(b, .buf 5 0 (bytesAV s))] := by cases s <;> first | exact absurd rfl h | rfl
theorem byte_len (s : Str) : (bytesAV s).length = s.length := bytesAV_length s
theorem app_g {m : Nat} {s t : Str} {x : AV} {g : List (Nat × Blk)} (hx : srcLen x = some t.length) (hc : srcCells ⟨m, [g ++ gF 0 s]⟩ 1 t.length x = some (bytesAV t)) (hg : getF 0 g = none) (ht : 0 < t.length) (hl : s.length + t.length ≤ 1000000000) :
  appendA Tryz.prog ⟨m, [g ++ gF 0 s]⟩ 5 (gV 0 s) x = some (.slc m 0 (s.length + t.length) (.rest 1), ⟨m + 1, [(m, .buf 5 0 (bytesAV (s ++ t))) :: g]⟩) := by
 have hrow : ∀ cs, rowA Tryz.prog 5 cs = .buf 5 0 cs := fun cs => rfl
 have get0 : ∀ (g : List (Nat × Blk)) (k : Blk), getF 0 g = none → getF 0 (g ++ [(0, k)]) = some k := by
  intro g k
  induction g with
  | nil => intro _; simp [getF]
  | cons e r ih =>
   intro h
   unfold getF at h
   simp only [List.cons_append]
   unfold getF
   split at h
   ·cases h
   ·rename_i hb
    first | exact ih h | (rw [hb]; exact ih h)
 have kill0 : ∀ (g : List (Nat × Blk)) (k : Blk), getF 0 g = none → killF 0 (g ++ [(0, k)]) = g := by
  intro g k
  induction g with
  | nil => intro _; simp [killF]
  | cons e r ih =>
   intro h
   unfold getF at h
   simp only [List.cons_append]
   unfold killF
   split at h
   ·cases h
   ·rename_i hb
    first | rw [ih h] | (rw [hb]; simp only; rw [ih h])
 have e2 : Nat.blt 0 1 = true := rfl
 have e3 : Nat.beq 1 0 = false := rfl
 obtain ⟨n, hn⟩ : ∃ n, t.length = n + 1 := ⟨t.length - 1, by omega⟩
 have hbl : Nat.beq (bytesAV t).length (t.length * 1) = true := by rw [byte_len, Nat.mul_one]; exact Nat.beq_refl _
 have hbl' : Nat.beq (bytesAV t).length t.length = true := by rw [byte_len]; exact Nat.beq_refl _
 cases s with
 | nil =>
  have hr : roomOK t.length 1 = true := by unfold roomOK; rw [Nat.ble_eq]; omega
  unfold appendA
  simp only [szT5, byT5, zeT5, Option.bind_some, gV, hx, hc]
  rw [hn] at hr hbl hbl' ⊢
  simp [hr, hbl, hbl', e2, e3, hrow, Heap.new, pushF, gF, hn]
 | cons c r =>
  have hr : roomOK ((c :: r).length + t.length) 1 = true := by unfold roomOK; rw [Nat.ble_eq]; omega
  have gt : Heap.get ⟨m, [g ++ gF 0 (c :: r)]⟩ 0 = some (.buf 5 0 (bytesAV (c :: r))) := by
   simp only [Heap.get, getFs, gF, get0 g _ hg]
  have hk : knownCells ⟨m, [g ++ gF 0 (c :: r)]⟩ 0 = some (c :: r).length := by
   unfold knownCells
   simp only [gt, Option.bind_some, rd_buf, byte_len]
  have hrd : readCells ⟨m, [g ++ gF 0 (c :: r)]⟩ 0 0 ((c :: r).length * 1) = some (bytesAV (c :: r)) := by
   unfold readCells
   simp only [gt, Option.bind_some, rd_buf, Nat.mul_one]
   exact sub_bytes
  have b1 : Nat.ble (0 + ((c :: r).length + t.length) * 1) (c :: r).length = false := by rw [← Bool.not_eq_true, Nat.ble_eq]; omega
  have b2 : Nat.beq (0 + (c :: r).length * 1) (c :: r).length = true := by rw [Nat.mul_one, Nat.zero_add]; exact Nat.beq_refl _
  have hgo : goOn (.buf 5 0 (bytesAV (c :: r))) 5 0 (bytesAV (c :: r) ++ bytesAV t) = some (.buf 5 0 (bytesAV (c :: r) ++ bytesAV t)) := rfl
  unfold appendA
  simp only [szT5, byT5, zeT5, Option.bind_some, gV, hx, hc, hr, single_bytes, Nat.beq_refl, hk, b1, b2, hbl, hrd, gt, hgo]
  simp [e2, e3, Heap.drop, killFs, gF, get0 g _ hg, kill0 g _ hg, Heap.new, pushF, app_bytes, Nat.beq]
theorem fit_g {H : Heap} {b : Nat} {s : Str} (hs : s ≠ []) (h : H.get b = some (.buf 5 0 (bytesAV s))) : FitH 0 [(b, 0)] [] H ⟨1, [gF 0 s]⟩ where
 nd1 := by simp
 nd2 := by simp
 nd3 := by simp [Heap.ents, gF_ne hs]
 lt := fun x hx => by simp at hx; subst hx; exact Nat.zero_lt_one
 idn := fun x hx h => by rcases h with h | h <;> exact absurd h (Nat.not_lt_zero _)
 num := Nat.zero_le _
 src := fun e he => by
  simp [Heap.ents, gF_ne hs] at he
  subst he
  exact ⟨b, _, by simp, h, rfl, Nat.le_refl _, Nat.zero_le _, fitL_pure (pure_bytes s)⟩
 frz := fun x hx => by cases hx
theorem fitV_g {σ : List (Nat × Nat)} {Φ : List (Nat × List AV)} {b : Nat} {s : Str} (h : lookN b σ = some 0) (hs : s ≠ []) : fitV σ Φ (.slc b 0 s.length (.rest 1)) (gV 0 s) := by
 rw [gV_ne hs]; simp [fitV, h]
theorem conv_g {s : Str} : convA Tryz.prog ⟨1, [gF 0 s]⟩ 47 9 (gV 0 s) = some (.str s, ⟨1, [gF 0 s]⟩) := by
 cases s with
 | nil => simp [convA, gV, srcLen, srcCells, bytesOf]
 | cons c r =>
  have := sub_bytes (s := c :: r)
  have h2 := bytesOf_bytes (c :: r)
  simp only [List.length_cons] at this
  simp [convA, gV, gF, srcLen, srcCells, readCells, Heap.get, getFs, getF, this, h2]
end Go.Proofs.YtfncefamflainaaGreatDoor