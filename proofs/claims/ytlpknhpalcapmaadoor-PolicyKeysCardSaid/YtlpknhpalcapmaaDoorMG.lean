/- Keys cut apart. No condition. -/
import Derived.Test.YtlpknhpalcapmaaDoorMF
import Derived.Test.YtlpknhpalcapmaaDoorChecked
import Derived.Shelf.Strings.Search3
import Derived.Lib.IndexMore
import Derived.Test.YtlpknhpalcapmaaDoorProg
namespace Go.Proofs.YtlpknhpalcapmaaDoor
set_option linter.unusedSimpArgs false
set_option linter.unusedVariables false
open Go Go.RowKit
set_option maxRecDepth 100000

def keepTbl : List (List Nat) := [[], [], [], [0, 1, 4, 5, 6, 8, 26, 27, 28], [0, 1, 2, 3, 4], [0, 1, 4], [0, 2, 3, 4, 5, 6, 7, 8, 9], [0, 1, 4], [0, 1, 2, 3, 5, 10, 11, 12, 18, 19, 20], [0, 1, 2, 3, 4], [0, 2], [0, 1, 4], [0], [0, 1, 4, 5], [0, 2], [0, 1, 3, 4], [0, 1, 4], [0, 2], [0, 1, 2, 6], [0, 2], [0, 1, 4], [0, 2, 4, 6, 7, 8], [0, 1, 3, 4], [0, 2, 3, 4], [0, 2, 3, 4, 5, 7, 8, 9], [0, 1, 4, 5, 6, 7, 8], [0, 1, 4, 5], [0, 2, 3, 4, 5], [0, 1, 4, 5], [0, 1, 4, 5, 6, 7, 8, 9, 10, 11, 14, 15, 47, 48, 49], [0, 2], [0, 2, 3, 4], [0, 1, 2, 6, 7, 8, 10, 11], [0, 2, 3, 4, 5, 6, 75], [0, 1, 4], [0, 1, 4], [0, 2], [0, 1, 4], [0, 1, 3], [0, 1, 4, 5], [0, 1, 4], [0, 1, 4], [0, 1, 4], [0, 2], [0, 2], [0, 1, 4, 5, 6, 7, 8, 9, 10, 45, 46], [0, 1, 4, 5, 7, 8], [0, 1, 4], [0, 1, 4, 5, 6, 7, 8, 9, 10, 11, 12, 13], [0, 1, 4, 5, 7, 8], [0, 1, 4, 5, 6, 7, 8, 9, 10, 11, 12, 13, 14, 15, 16, 175, 176], [0, 2], [0, 2, 3, 4, 5], [0, 1, 4], [], [], [0, 2], [0, 1, 4, 5, 6, 7, 8, 9, 10], [0, 2], [0, 2, 3, 4, 5, 6, 7, 8], [], [], [], [], [], [], [], [], [], [], [], [], [], [], [], [], [], [], [], [], []]
@[simp] theorem szT4 : sizeT Tryd.prog 4 = some 1 := rfl
@[simp] theorem agT4 : aggT Tryd.prog 4 = some false := rfl
@[simp] theorem byT4 : bytesT Tryd.prog 4 = some 1 := rfl
@[simp] theorem alT4 (H : Heap) : alV Tryd.prog H 4 = some (.ptr H.n 0, H.new (.cells [.bool false])) := rfl
@[simp] theorem zeT4 : zeroOf Tryd.prog 4 = some (.bool false) := rfl
attribute [simp] Tryd.underlying4
@[simp 500] theorem rvF4 (H : Heap) (cs : List AV) (o : Nat) : readVar Tryd.prog H 4 (.fptr cs o) = getL cs o := rfl
@[simp 500] theorem rvP4 (H : Heap) (b o : Nat) : readVar Tryd.prog H 4 (.ptr b o) = (H.get b).bind fun k => k.rd.bind fun cs => getL cs o := rfl
@[simp] theorem beq4 (a b : Bool) : binA Tryd.prog .eql 4 (.bool a) (.bool b) = some (.bool (a == b)) := rfl
@[simp] theorem bne4 (a b : Bool) : binA Tryd.prog .neq 4 (.bool a) (.bool b) = some (.bool !(a == b)) := rfl
@[simp] theorem szT5 : sizeT Tryd.prog 5 = some 1 := rfl
@[simp] theorem agT5 : aggT Tryd.prog 5 = some false := rfl
@[simp] theorem byT5 : bytesT Tryd.prog 5 = some 1 := rfl
@[simp] theorem alT5 (H : Heap) : alV Tryd.prog H 5 = some (.ptr H.n 0, H.new (.cells [.int .u8 0])) := rfl
@[simp] theorem zeT5 : zeroOf Tryd.prog 5 = some (.int .u8 0) := rfl
attribute [simp] Tryd.underlying5
@[simp 500] theorem rvF5 (H : Heap) (cs : List AV) (o : Nat) : readVar Tryd.prog H 5 (.fptr cs o) = getL cs o := rfl
@[simp 500] theorem rvP5 (H : Heap) (b o : Nat) : readVar Tryd.prog H 5 (.ptr b o) = (H.get b).bind fun k => k.rd.bind fun cs => getL cs o := rfl
@[simp] theorem szT9 : sizeT Tryd.prog 9 = some 1 := rfl
@[simp] theorem agT9 : aggT Tryd.prog 9 = some false := rfl
@[simp] theorem byT9 : bytesT Tryd.prog 9 = some 16 := rfl
@[simp] theorem alT9 (H : Heap) : alV Tryd.prog H 9 = some (.ptr H.n 0, H.new (.cells [.str []])) := rfl
@[simp] theorem zeT9 : zeroOf Tryd.prog 9 = some (.str []) := rfl
attribute [simp] Tryd.underlying9
@[simp 500] theorem rvF9 (H : Heap) (cs : List AV) (o : Nat) : readVar Tryd.prog H 9 (.fptr cs o) = getL cs o := rfl
@[simp 500] theorem rvP9 (H : Heap) (b o : Nat) : readVar Tryd.prog H 9 (.ptr b o) = (H.get b).bind fun k => k.rd.bind fun cs => getL cs o := rfl
@[simp] theorem szT27 : sizeT Tryd.prog 27 = some 1 := rfl
@[simp] theorem agT27 : aggT Tryd.prog 27 = some false := rfl
@[simp] theorem byT27 : bytesT Tryd.prog 27 = some 24 := rfl
@[simp] theorem alT27 (H : Heap) : alV Tryd.prog H 27 = some (.ptr H.n 0, H.new (.cells [.nilS])) := rfl
@[simp] theorem zeT27 : zeroOf Tryd.prog 27 = some (.nilS) := rfl
attribute [simp] Tryd.underlying27
@[simp 500] theorem rvF27 (H : Heap) (cs : List AV) (o : Nat) : readVar Tryd.prog H 27 (.fptr cs o) = getL cs o := rfl
@[simp 500] theorem rvP27 (H : Heap) (b o : Nat) : readVar Tryd.prog H 27 (.ptr b o) = (H.get b).bind fun k => k.rd.bind fun cs => getL cs o := rfl
@[simp] theorem slz27 (sz : Nat) (e : AV) (r : List AV) : binA Tryd.prog .eql 27 (.fslc sz (e :: r)) .nilS = some (.bool false) := rfl
@[simp] theorem sln27 (sz : Nat) (e : AV) (r : List AV) : binA Tryd.prog .neq 27 (.fslc sz (e :: r)) .nilS = some (.bool true) := rfl
@[simp] theorem slze27 : binA Tryd.prog .eql 27 .eslc .nilS = some (.bool false) := rfl
@[simp] theorem slzz27 : binA Tryd.prog .eql 27 .nilS .nilS = some (.bool true) := rfl
attribute [simp] opndO_s
noncomputable def ctx (T : List (Entry Tryd.prog)) : Ctx := mkC Tryd.prog (fun f => (getL keepTbl f).getD []) T
@[simp] theorem mkC_P (T : List (Entry Tryd.prog)) : (ctx T).P = Tryd.prog := rfl
theorem mixed : Tryd.prog.follows .mixedOrders = true := by decide +kernel
theorem callOK {T : List (Entry Tryd.prog)} : CallOK (ctx T) (callL (ctx T)) := mkC_call _ _ T mixed
theorem callOKF {T : List (Entry Tryd.prog)} (l : List (Fact (ctx T))) : CallOK (ctx T) (callF l (callL (ctx T))) := callF_ok callOK l
abbrev Str := List UInt8
@[simp] theorem lenStr (H : Heap) (s : Str) : lenA Tryd.prog H 9 (.str s) = some s.length := by simp [lenA]
theorem ixStr {s : Str} {i : Nat} (h : i < s.length) : indexA Tryd.prog 9 (.str s) (.int .i64 (i : Int)) = some (.int .u8 (s[i]'h).toNat) := by
  simp [indexA, idx_nat h, getL_get h]
theorem slStr {H : Heap} {s : Str} {i : Nat} (h : i ≤ s.length) : sliceA Tryd.prog H 9 (.str s) (some (.int .i64 (i : Int))) none none = some (.str (s.drop i)) := by
  simp [sliceA, hiOK, bound, idx_nat (Nat.lt_succ_of_le h)]
theorem slStrTo {H : Heap} {s : Str} {j : Nat} (h : j ≤ s.length) : sliceA Tryd.prog H 9 (.str s) none (some (.int .i64 (j : Int))) none = some (.str (s.take j)) := by
  simp [sliceA, hiOK, bound, idx_nat (Nat.lt_succ_of_le h)]
theorem slStrOf {H : Heap} {s : Str} {i j : Nat} (hj : j ≤ s.length) (hi : i ≤ j) : sliceA Tryd.prog H 9 (.str s) (some (.int .i64 (i : Int))) (some (.int .i64 (j : Int))) none = some (.str ((s.take j).drop i)) := by
  simp [sliceA, hiOK, bound, idx_nat (Nat.lt_succ_of_le hj), idx_nat (Nat.lt_succ_of_le hi)]
theorem sl1 {s : Str} {i : Nat} (h : i < s.length) : (s.take (i + 1)).drop i = [s[i]] := by
  rw [List.take_succ_eq_append_getElem h, List.drop_append_of_le_length (by simp; omega), List.drop_of_length_le (by simp; omega), List.nil_append]
theorem slStr1 {H : Heap} {s : Str} {i : Nat} (h : i < s.length) : sliceA Tryd.prog H 9 (.str s) (some (.int .i64 (i : Int))) (some (.int .i64 ((i : Int) + 1))) none = some (.str [s[i]]) := by
  have := slStrOf (H := H) (s := s) (i := i) (j := i + 1) (by omega) (by omega)
  rw [sl1 h] at this
  simpa using this
theorem catStr {x y : Str} (h : x.length + y.length ≤ 1000000000000) : binA Tryd.prog .add 9 (.str x) (.str y) = some (.str (x ++ y)) := by
  simp [binA, strOp]; omega
@[simp] theorem eqStr (x y : Str) : binA Tryd.prog .eql 9 (.str x) (.str y) = some (.bool (decide (x = y))) := by simp [binA, strOp, eqB_eq]
@[simp] theorem neStr (x y : Str) : binA Tryd.prog .neq 9 (.str x) (.str y) = some (.bool !(decide (x = y))) := by simp [binA, strOp, eqB_eq]

/-! ### Lists of texts -/
abbrev aStrs (L : List Str) : AV := .fslc 1 (L.map .str)
theorem el_str (L : List Str) : Elems 1 (L.map AV.str) := .map (sz := 1) (f := AV.str) (by decide) (fun x => ⟨rfl, rfl, fun _ => rfl, fun h => absurd rfl h⟩) L
theorem single_str : ∀ (L : List Str), allSingle (flatAV (L.map AV.str)) = true
  | [] => rfl
  | a :: r => by simp only [List.map_cons, flatAV, allSingle_append, single_str r]; rfl
theorem atS {L : List Str} {i : Nat} (h : i < L.length) : indexAddrA Tryd.prog 27 (aStrs L) (.int .i64 (i : Int)) = some (.fptr [.str L[i]] 0) := by
  simp [indexAddrA, aStrs, idx_nat h, getL_map h, AV.cells]
theorem lenS {H : Heap} {L : List Str} : lenA Tryd.prog H 27 (aStrs L) = some L.length := by simp [lenA, aStrs]
theorem inj_str (x y : Str) (h : [AV.str x] = [AV.str y]) : x = y := by simp at h; exact h
theorem inj_str2 (x y : Str × Str) (h : [AV.str x.1, AV.str x.2] = [AV.str y.1, AV.str y.2]) : x = y := by
  simp at h; exact Prod.ext h.1 h.2
theorem inj_strs {L M : List Str} (h : aStrs L = aStrs M) : L = M := by
  simp only [aStrs, AV.fslc.injEq, true_and] at h
  exact List.map_inj_right (fun _ _ h => by simpa using h) |>.1 h
theorem inj_u8 (x y : UInt8) (h : [AV.int .u8 (x.toNat : Int)] = [AV.int .u8 (y.toNat : Int)]) : x = y := by
  simp only [List.cons.injEq, AV.int.injEq, true_and, and_true] at h
  exact UInt8.toNat_inj.1 (by omega)

/-! ### Words, by the reference -/
/-- a blank -/
def sp (c : UInt8) : Bool := decide ((c.toNat : Int) = 9) || (decide ((c.toNat : Int) = 10) || (decide ((c.toNat : Int) = 12) || (decide ((c.toNat : Int) = 13) || decide ((c.toNat : Int) = 32))))
theorem c43 {T : List (Entry Tryd.prog)} (c : UInt8) : CallAt (ctx T) 43 [.int .u8 c.toNat] ⟨0, []⟩ (.bool (sp c)) ⟨0, []⟩ := by
  refine callAt_body (fn := Tryd.f43) (s0 := ⟨[0, 2], [.int .u8 c.toNat, .undef], [], 21, ⟨0, [[]]⟩⟩) Tryd.func43 rfl rfl rfl ?_
  repeat refine wps_seq ?_
  refine wps_region callOK ?_
  simp [zS]
  by_cases h1 : (c.toNat : Int) = 9 <;> by_cases h2 : (c.toNat : Int) = 10 <;> by_cases h3 : (c.toNat : Int) = 12 <;> by_cases h4 : (c.toNat : Int) = 13 <;> by_cases h5 : (c.toNat : Int) = 32
  all_goals first
    | (exfalso; omega)
    | (repeat refine wps_seq ?_
       repeat refine wps_seq ?_
       refine wps_region callOK ?_
       simp [zS, h1, h2, h3, h4, h5]
       repeat refine wps_seq ?_
       repeat refine wps_seq ?_
       refine wps_ret ?_
       simp [retVal, Tryd.f43, oneOr]
       exact ends_pure rfl (by simp [sp, h1, h2, h3, h4, h5]))
noncomputable def e43 : Entry Tryd.prog := mkE 43 [[]] (fun x : UInt8 => [.int .u8 x.toNat]) (fun _ => True) (fun x => .bool (sp x)) fun x _ => c43 (T := []) x
theorem k43 {T : List (Entry Tryd.prog)} (hT : findE 43 T = some e43.g) (c : UInt8) (H : Heap) : callL (ctx T) (.fn 43) [.int .u8 c.toNat] H = some (.bool (sp c), H) :=
  mkE_scalar hT inj_u8 c trivial rfl (by simp)
/-- the words so far, the word that is being read -/
def wstep (st : List Str × Str) (c : UInt8) : List Str × Str := if sp c = true then (if st.2 = [] then st.1 else st.1 ++ [st.2], []) else (st.1, st.2 ++ [c])
def wst (s : Str) : List Str × Str := s.foldl wstep ([], [])
def wfin (st : List Str × Str) : List Str := if st.2 = [] then st.1 else st.1 ++ [st.2]
def wsplit (s : Str) : List Str := wfin (wst s)
theorem wst_at {s : Str} {i : Nat} (h : i < s.length) : wst (s.take (i + 1)) = wstep (wst (s.take i)) s[i] := by
  rw [List.take_succ_eq_append_getElem h]
  simp only [wst, List.foldl_append, List.foldl_cons, List.foldl_nil]
theorem wst_len (s : Str) : (wst s).2.length ≤ s.length ∧ (wst s).1.length ≤ s.length := by
  have key : ∀ (s : Str) (st : List Str × Str), (s.foldl wstep st).2.length ≤ st.2.length + s.length ∧ (s.foldl wstep st).1.length ≤ st.1.length + s.length := by
    intro s
    induction s with
    | nil => intro st; simp
    | cons c r ih =>
      intro st
      have := ih (wstep st c)
      simp only [List.foldl_cons, List.length_cons]
      have h1 : (wstep st c).2.length ≤ st.2.length + 1 ∧ (wstep st c).1.length ≤ st.1.length + 1 := by
        unfold wstep
        split
        · split <;> simp
        · simp
      omega
  have := key s ([], [])
  simp only [wst]
  simp at this
  exact this
theorem c27 {T : List (Entry Tryd.prog)} (hS : findE 43 T = some e43.g) (s : Str) (hl : s.length ≤ 1000000) : CallAt (ctx T) 27 [.str s] ⟨0, []⟩ (ownV 0 1 ((wsplit s).map .str)) ⟨1, [ownF 0 ((wsplit s).map .str)]⟩ := by
  refine callAt_body (fn := Tryd.f27) (s0 := ⟨[0, 2, 3, 4, 5], [.str s, .undef, .undef, .undef, .undef], [], 37, ⟨0, [[]]⟩⟩) Tryd.func27 rfl rfl rfl ?_
  repeat refine wps_seq ?_
  refine wps_region callOK ?_
  simp [zS]
  repeat refine wps_seq ?_
  refine wps_region callOK ?_
  simp [zS]
  repeat refine wps_seq ?_
  refine wps_region callOK ?_
  simp [zS]
  repeat refine wps_seq ?_
  refine wps_region callOK ?_
  simp [zS]
  repeat refine wps_seq ?_
  refine wps_block (wps_loop' (fun i : Nat => (⟨[0, 2, 3, 4, 5], [.str s, .undef, ownV 0 1 ((wst (s.take i)).1.map .str), .str (wst (s.take i)).2, .int .i64 i], [], 37, ⟨1, [ownF 0 ((wst (s.take i)).1.map .str)]⟩⟩ : St))
    (fun i => i ≤ s.length) (fun i => s.length - i) [] [] 0 (Nat.zero_le _)
    ⟨rfl, rfl, rfl, by simp [fitL, fitV, pureV, wst, ownV], .keep0 (by simp [wst, ownF])⟩ ?_)
  rintro i hi B hB
  have hlen := wst_len (s.take i)
  simp only [List.length_take] at hlen
  have same : ∀ (L : List Str), FitH 0 [(0, 0)] [] ⟨1, [ownF 0 (L.map AV.str)]⟩ ⟨1, [ownF 0 (L.map AV.str)]⟩ := fun L => by
    refine .same (by simp) (by simp) (by simp) (by simp) ?_ ?_
    · cases L.map AV.str <;> simp [Heap.ents, ownF]
    · cases he : L.map AV.str with
      | nil => intro e he; simp [Heap.ents, ownF] at he
      | cons x r =>
        intro e hx
        simp [Heap.ents, ownF] at hx
        subst hx
        exact ⟨by simp, by simp [ownF, Heap.get, getFs, getF], fitL_pure (by rw [← he]; exact (el_str _).pure)⟩
  repeat refine wps_seq ?_
  refine wps_region callOK ?_
  simp [zS]
  repeat refine wps_seq ?_
  refine wps_cond rfl (fun h => ?_) fun h => ?_
  · simp at h
    repeat refine wps_seq ?_
    refine wps_skip ?_
    simp
    repeat refine wps_seq ?_
    refine wps_block ?_
    have hstep := wst_at h
    cases hsp : sp s[i] with
    | false =>
      have hn : wst (s.take (i + 1)) = ((wst (s.take i)).1, (wst (s.take i)).2 ++ [s[i]]) := by rw [hstep]; simp [wstep, hsp]
      repeat refine wps_seq ?_
      refine wps_region callOK ?_
      simp [zS, ixStr h, k43 hS, hsp]
      repeat refine wps_seq ?_
      refine wps_cond (t := true) rfl (fun _ => ?_) fun h => by cases h
      repeat refine wps_seq ?_
      refine wps_region callOK ?_
      simp [zS, add_one (show i ≤ 1000000000 by omega), slStr1 h, catStr (show (wst (s.take i)).2.length + [s[i]].length ≤ 1000000000000 by simp; omega)]
      repeat refine wps_seq ?_
      refine wps_exit ?_
      simp
      repeat refine wps_seq ?_
      refine wps_region callOK ?_
      simp [zS, add_one (show i ≤ 1000000000 by omega)]
      exact hB _ (i + 1) (by omega) (by omega) ⟨[(0, 0)], [], rfl, rfl, rfl, by rw [hn]; simp [fitL, fitV, lookN, fitV_own, pureV], by rw [hn]; exact same _⟩
    | true =>
      repeat refine wps_seq ?_
      refine wps_region callOK ?_
      simp [zS, ixStr h, k43 hS, hsp]
      repeat refine wps_seq ?_
      refine wps_cond (t := false) rfl (fun h => by cases h) fun _ => ?_
      repeat refine wps_seq ?_
      refine wps_skip ?_
      simp
      by_cases hc : (wst (s.take i)).2 = []
      · have hn : wst (s.take (i + 1)) = ((wst (s.take i)).1, []) := by rw [hstep]; simp [wstep, hsp, hc]
        repeat refine wps_seq ?_
        refine wps_region callOK ?_
        simp [zS, hc]
        repeat refine wps_seq ?_
        refine wps_cond (t := false) rfl (fun h => by cases h) fun _ => ?_
        repeat refine wps_seq ?_
        refine wps_skip ?_
        simp
        repeat refine wps_seq ?_
        refine wps_region callOK ?_
        simp [zS]
        repeat refine wps_seq ?_
        refine wps_region callOK ?_
        simp [zS, add_one (show i ≤ 1000000000 by omega)]
        exact hB _ (i + 1) (by omega) (by omega) ⟨[(0, 0)], [], rfl, rfl, rfl, by rw [hn]; simp [fitL, fitV, lookN, fitV_own, pureV], by rw [hn]; exact same _⟩
      · have hn : wst (s.take (i + 1)) = ((wst (s.take i)).1 ++ [(wst (s.take i)).2], []) := by rw [hstep]; simp [wstep, hsp, hc]
        have happ := own_app1 (P := Tryd.prog) (elem := 9) (b := 0) (t := 1) (m := 2) (es := (wst (s.take i)).1.map .str) (cs := [.str (wst (s.take i)).2]) (g := []) (fs := []) szT9 byT9 zeT9 rfl (by omega) (by omega) rfl rfl (el_str _) (by simp; omega) (by omega) (by simp) (by simp)
        rw [List.append_nil] at happ
        repeat refine wps_seq ?_
        refine wps_region callOK ?_
        simp [zS, hc]
        repeat refine wps_seq ?_
        refine wps_cond (t := true) rfl (fun _ => ?_) fun h => by cases h
        repeat refine wps_seq ?_
        refine wps_region callOK ?_
        simp [zS, happ]
        repeat refine wps_seq ?_
        refine wps_region callOK ?_
        simp [zS]
        repeat refine wps_seq ?_
        refine wps_region callOK ?_
        simp [zS, add_one (show i ≤ 1000000000 by omega)]
        have hne : (wst (s.take (i + 1))).1.map AV.str ≠ [] := by rw [hn]; simp
        refine hB _ (i + 1) (by omega) (by omega) ⟨[(2, 0)], [], rfl, rfl, rfl, ?_, .grown (el_str _) hne ?_⟩
        · rw [ownV_ne hne, hn]; simp [fitL, fitV, lookN, pureV]
        · rw [hn, List.map_append, flat_append]; simp [Heap.get, getFs, getF, flatAV]
  · simp at h
    repeat refine wps_seq ?_
    refine wps_exit ?_
    simp
    have hs : s.take i = s := List.take_of_length_le h
    rw [hs] at hlen ⊢
    by_cases hc : (wst s).2 = []
    · have hv : wsplit s = (wst s).1 := by simp [wsplit, wfin, hc]
      repeat refine wps_seq ?_
      refine wps_region callOK ?_
      simp [zS, hc]
      repeat refine wps_seq ?_
      refine wps_cond (t := false) rfl (fun h => by cases h) fun _ => ?_
      repeat refine wps_seq ?_
      refine wps_skip ?_
      simp
      repeat refine wps_seq ?_
      refine wps_region callOK ?_
      simp [zS]
      repeat refine wps_seq ?_
      refine wps_ret ?_
      simp [retVal, Tryd.f27, oneOr]
      rw [hv]
      exact ⟨[(0, 0)], [], fitV_own (by simp [lookN]), same _⟩
    · have hv : wsplit s = (wst s).1 ++ [(wst s).2] := by simp [wsplit, wfin, hc]
      have happ := own_app1 (P := Tryd.prog) (elem := 9) (b := 0) (t := 1) (m := 2) (es := (wst s).1.map .str) (cs := [.str (wst s).2]) (g := []) (fs := []) szT9 byT9 zeT9 rfl (by omega) (by omega) rfl rfl (el_str _) (by simp; omega) (by omega) (by simp) (by simp)
      rw [List.append_nil] at happ
      repeat refine wps_seq ?_
      refine wps_region callOK ?_
      simp [zS, hc]
      repeat refine wps_seq ?_
      refine wps_cond (t := true) rfl (fun _ => ?_) fun h => by cases h
      repeat refine wps_seq ?_
      refine wps_region callOK ?_
      simp [zS, happ]
      repeat refine wps_seq ?_
      refine wps_region callOK ?_
      simp [zS]
      repeat refine wps_seq ?_
      refine wps_ret ?_
      simp [retVal, Tryd.f27, oneOr]
      have hne : (wsplit s).map AV.str ≠ [] := by rw [hv]; simp
      refine ⟨[(2, 0)], [], ?_, .grown (el_str _) hne ?_⟩
      · rw [ownV_ne hne, hv]; simp [fitL, fitV, lookN, pureV]
      · rw [hv, List.map_append, flat_append]; simp [Heap.get, getFs, getF, flatAV]
theorem c26 {T : List (Entry Tryd.prog)} (L : List Str) (x : Str) (hl : L.length ≤ 1000000) : CallAt (ctx T) 26 [aStrs L, .str x] ⟨0, []⟩ (.bool (decide (x ∈ L))) ⟨0, []⟩ := by
  refine callAt_body (fn := Tryd.f26) (s0 := ⟨[0, 1, 4, 5], [aStrs L, .str x, .undef, .undef], [], 18, ⟨0, [[]]⟩⟩) Tryd.func26 rfl rfl rfl ?_
  repeat refine wps_seq ?_
  refine wps_region callOK ?_
  simp [zS]
  repeat refine wps_seq ?_
  refine wps_region callOK ?_
  simp [zS]
  repeat refine wps_seq ?_
  refine wps_block (wps_loop' (fun i : Nat => (⟨[0, 1, 4, 5], [aStrs L, .str x, .undef, .int .i64 i], [], 18, ⟨0, [[]]⟩⟩ : St))
    (fun i => i ≤ L.length ∧ decide (x ∈ L) = decide (x ∈ L.drop i)) (fun i => L.length - i) [] [] 0 ⟨Nat.zero_le _, by simp⟩ ⟨rfl, rfl, rfl, by simp [fitL, fitV, pureV, pureL, aStrs], FitH.nothing⟩ ?_)
  rintro i ⟨hi, hx⟩ B hB
  repeat refine wps_seq ?_
  refine wps_region callOK ?_
  simp [zS, lenS]
  repeat refine wps_seq ?_
  refine wps_cond rfl (fun h => ?_) fun h => ?_
  · simp at h
    repeat refine wps_seq ?_
    refine wps_skip ?_
    simp
    repeat refine wps_seq ?_
    refine wps_block ?_
    repeat refine wps_seq ?_
    refine wps_region callOK ?_
    simp [zS, atS h]
    repeat refine wps_seq ?_
    refine wps_cond rfl (fun h2 => ?_) fun h2 => ?_
    · simp at h2
      repeat refine wps_seq ?_
      refine wps_region callOK ?_
      simp [zS]
      repeat refine wps_seq ?_
      refine wps_ret ?_
      simp [retVal, Tryd.f26, oneOr, thenQ, blockQ]
      exact ends_pure rfl (by rw [hx, List.drop_eq_getElem_cons h]; simp [h2])
    · simp at h2
      repeat refine wps_seq ?_
      refine wps_skip ?_
      simp
      repeat refine wps_seq ?_
      refine wps_region callOK ?_
      simp [zS, add_one (show i ≤ 1000000000 by omega)]
      exact hB _ (i + 1) (by omega) ⟨by omega, by rw [hx, List.drop_eq_getElem_cons h]; simp only [List.mem_cons, show ¬ x = L[i] from fun e => h2 e.symm, false_or]⟩ ⟨[], [], ⟨rfl, rfl, rfl, by simp [fitL, fitV, pureV, pureL, aStrs], FitH.nothing⟩⟩
  · simp at h
    repeat refine wps_seq ?_
    refine wps_exit ?_
    simp
    repeat refine wps_seq ?_
    refine wps_region callOK ?_
    simp [zS]
    repeat refine wps_seq ?_
    refine wps_ret ?_
    simp [retVal, Tryd.f26, oneOr, thenQ, blockQ]
    exact ends_pure rfl (by rw [hx, List.drop_eq_nil_of_le h]; simp)
noncomputable def e27 : Entry Tryd.prog := mkE 27 [[]] (fun x : Str => [.str x]) (fun x => x.length ≤ 1000000) (fun x => aStrs (wsplit x)) fun x h => (c27 (T := [e43]) rfl x h).froze (el_str _)
theorem k27 {T : List (Entry Tryd.prog)} (hT : findE 27 T = some e27.g) {s : Str} (hl : s.length ≤ 1000000) (H : Heap) : callL (ctx T) (.fn 27) [.str s] H = some (aStrs (wsplit s), H) :=
  mkE_pure hT inj_str s hl (by simp [pureL, pureV]) (by simp) H
noncomputable def e26 : Entry Tryd.prog := mkE 26 [[1], []] (fun x : List Str × Str => [aStrs x.1, .str x.2]) (fun x => x.1.length ≤ 1000000) (fun x => .bool (decide (x.2 ∈ x.1))) fun x h => c26 (T := []) x.1 x.2 h
theorem k26 {T : List (Entry Tryd.prog)} (hT : findE 26 T = some e26.g) {L : List Str} (x : Str) (hl : L.length ≤ 1000000) (H : Heap) : callL (ctx T) (.fn 26) [aStrs L, .str x] H = some (.bool (decide (x ∈ L)), H) :=
  mkE_scalar hT (fun x y h => by simp at h; exact Prod.ext (inj_strs (by simpa [aStrs] using h.1)) h.2) (L, x) hl rfl (by simp)
/-- one of the words -/
def inW (w x : Str) : Bool := decide (x ∈ wsplit w)
theorem wsplit_len (s : Str) : (wsplit s).length ≤ s.length + 1 := by
  have := wst_len s
  unfold wsplit wfin
  split <;> simp <;> omega
theorem c11 {T : List (Entry Tryd.prog)} (h1 : findE 27 T = some e27.g) (h2 : findE 26 T = some e26.g) (w x : Str) (hl : w.length ≤ 900000) : CallAt (ctx T) 11 [.str w, .str x] ⟨0, []⟩ (.bool (inW w x)) ⟨0, []⟩ := by
  refine callAt_body (fn := Tryd.f11) (s0 := ⟨[0, 1, 4], [.str w, .str x, .undef], [], 9, ⟨0, [[]]⟩⟩) Tryd.func11 rfl rfl rfl ?_
  repeat refine wps_seq ?_
  refine wps_region callOK ?_
  simp [zS]
  have hs := wsplit_len w
  repeat refine wps_seq ?_
  refine wps_region callOK ?_
  simp [zS, k27 h1 (show w.length ≤ 1000000 by omega), k26 h2 x (show (wsplit w).length ≤ 1000000 by omega)]
  repeat refine wps_seq ?_
  refine wps_ret ?_
  simp [retVal, Tryd.f11, oneOr, thenQ, blockQ]
  exact ends_pure rfl (by simp [inW])
noncomputable def e11 : Entry Tryd.prog := mkE 11 [[], []] (fun x : Str × Str => [.str x.1, .str x.2]) (fun x => x.1.length ≤ 900000) (fun x => .bool (inW x.1 x.2)) fun x h => c11 (T := [e27, e26]) rfl rfl x.1 x.2 h
theorem k11 {T : List (Entry Tryd.prog)} (hT : findE 11 T = some e11.g) {w : Str} (x : Str) (hl : w.length ≤ 900000) (H : Heap) : callL (ctx T) (.fn 11) [.str w, .str x] H = some (.bool (inW w x), H) :=
  mkE_scalar hT inj_str2 (w, x) hl rfl (by simp)
end Go.Proofs.YtlpknhpalcapmaaDoor
namespace Go.Proofs.YtlpknhpalcapmaaDoor
set_option linter.unusedSimpArgs false
set_option linter.unusedVariables false
open Go Go.RowKit
set_option maxRecDepth 100000

/-- x stands in s at p, with blanks, or nothing, at both sides -/
structure WordAt (s x : Str) (p : Nat) : Prop where
  room : p + x.length ≤ s.length
  occ : (s.drop p).take x.length = x
  pre : ∀ c, 0 < p → s[p - 1]? = some c → sp c = true
  post : ∀ c, s[p + x.length]? = some c → sp c = true
structure WInv (s : Str) (i : Nat) (st : List Str × Str) : Prop where
  le : i ≤ s.length
  words : ∀ w, w ∈ st.1 → ∃ p, WordAt s w p
  len : st.2.length ≤ i
  cur : (s.take i).drop (i - st.2.length) = st.2
  pre : ∀ c, 0 < i - st.2.length → s[i - st.2.length - 1]? = some c → sp c = true
theorem winv {s : Str} : ∀ (i : Nat), i ≤ s.length → WInv s i (wst (s.take i))
  | 0, _ => by
    have e : wst (s.take 0) = ([], []) := by simp [wst]
    rw [e]
    exact ⟨Nat.zero_le _, fun w h => (by cases h), Nat.le_refl _, rfl, fun c h => absurd h (Nat.lt_irrefl 0)⟩
  | i + 1, hi => by
    have ih := winv (s := s) i (by omega)
    have hlt : i < s.length := by omega
    rw [wst_at hlt]
    generalize wst (s.take i) = st at ih
    obtain ⟨W, c⟩ := st
    have ihl := ih.len
    have ihc := ih.cur
    have ihp := ih.pre
    simp only at ihl ihc ihp
    unfold wstep
    by_cases hs : sp s[i] = true
    · rw [if_pos hs]
      refine ⟨hi, ?_, Nat.zero_le _, ?_, ?_⟩
      · intro w hw
        simp only at hw
        by_cases hc : c = []
        · rw [if_pos hc] at hw
          exact ih.words w hw
        · rw [if_neg hc] at hw
          rcases List.mem_append.1 hw with hw | hw
          · exact ih.words w hw
          · rw [List.mem_singleton] at hw
            subst hw
            refine ⟨i - w.length, by omega, ?_, fun d h1 h2 => ihp d h1 h2, fun d h => ?_⟩
            · rw [List.drop_take, show i - (i - w.length) = w.length by omega] at ihc
              exact ihc
            · rw [show i - w.length + w.length = i by omega, List.getElem?_eq_getElem hlt, Option.some.injEq] at h
              rw [← h]; exact hs
      · simp
      · intro d _ h
        simp only [List.length_nil, Nat.sub_zero, Nat.add_sub_cancel] at h
        rw [List.getElem?_eq_getElem hlt, Option.some.injEq] at h
        rw [← h]; exact hs
    · rw [if_neg hs]
      refine ⟨hi, ih.words, by simp; omega, ?_, ?_⟩
      · simp only [List.length_append, List.length_singleton]
        rw [show i + 1 - (c.length + 1) = i - c.length by omega, List.take_succ_eq_append_getElem hlt, List.drop_append_of_le_length (by simp; omega), ihc]
      · simp only [List.length_append, List.length_singleton]
        rw [show i + 1 - (c.length + 1) = i - c.length by omega]
        exact ihp
theorem word_at {s x : Str} (h : x ∈ wsplit s) : ∃ p, WordAt s x p := by
  have inv := winv (s := s) s.length (Nat.le_refl _)
  rw [List.take_of_length_le (Nat.le_refl _)] at inv
  unfold wsplit wfin at h
  generalize wst s = st at *
  obtain ⟨W, c⟩ := st
  have il := inv.len
  have ic := inv.cur
  have ip := inv.pre
  simp only at il ic ip h
  by_cases hc : c = []
  · rw [if_pos hc] at h
    exact inv.words x h
  · rw [if_neg hc] at h
    rcases List.mem_append.1 h with h | h
    · exact inv.words x h
    · rw [List.mem_singleton] at h
      subst h
      refine ⟨s.length - x.length, by omega, ?_, ip, fun d h => ?_⟩
      · rw [List.take_of_length_le (Nat.le_refl _)] at ic
        rw [ic, List.take_of_length_le (Nat.le_refl _)]
      · rw [show s.length - x.length + x.length = s.length by omega, List.getElem?_eq_none (Nat.le_refl _)] at h
        cases h
theorem word_ne {s x : Str} (h : x ∈ wsplit s) : x ≠ [] := by
  have key : ∀ (l : Str) (st : List Str × Str), (∀ w, w ∈ st.1 → w ≠ []) → ∀ w, w ∈ (l.foldl wstep st).1 → w ≠ [] := by
    intro l
    induction l with
    | nil => intro st h; exact h
    | cons c r ih =>
      intro st h
      rw [List.foldl_cons]
      refine ih _ ?_
      intro w hw
      unfold wstep at hw
      split at hw
      · simp only at hw
        split at hw
        · exact h w hw
        · rename_i hn
          rcases List.mem_append.1 hw with hw | hw
          · exact h w hw
          · rw [List.mem_singleton] at hw; rw [hw]; exact hn
      · exact h w hw
  unfold wsplit wfin at h
  split at h
  · exact key s ([], []) (fun w h => by cases h) x h
  · rename_i hn
    rcases List.mem_append.1 h with h | h
    · exact key s ([], []) (fun w h => by cases h) x h
    · rw [List.mem_singleton] at h; rw [h]; exact hn
end Go.Proofs.YtlpknhpalcapmaaDoor
namespace Go.Proofs.YtlpknhpalcapmaaDoor
set_option linter.unusedSimpArgs false
set_option linter.unusedVariables false
open Go Go.RowKit
set_option maxRecDepth 100000

def lays143_ren : Go.Shelf.Ren := ⟨fun | 143 => 41 | 219 => 48 | 217 => 47 | 225 => 55 | 224 => 56 | 267 => 57 | 266 => 54 | 314 => 59 | n => n, fun | 9 => 9 | 3 => 3 | 4 => 4 | 5 => 5 | 46 => 59 | 146 => 72 | 51 => 71 | n => n, fun | 1 => 2 | n => n⟩
theorem lays143 : Go.Proofs.Lays.n143 Tryd.prog lays143_ren where
  mixed := by kernel_rfl
  f143 := Tryd.func41.trans (congrArg some (by kernel_rfl))
  f217 := Tryd.func47.trans (congrArg some (by kernel_rfl))
  f219 := Tryd.func48.trans (congrArg some (by kernel_rfl))
  f224 := Tryd.func56.trans (congrArg some (by kernel_rfl))
  f225 := Tryd.func55.trans (congrArg some (by kernel_rfl))
  f266 := Tryd.func54.trans (congrArg some (by kernel_rfl))
  f267 := Tryd.func57.trans (congrArg some (by kernel_rfl))
  f314 := Tryd.func59.trans (congrArg some (by kernel_rfl))
  t3 := Tryd.underlying3
  a3 := Tryd.isAgg3
  z3 := Tryd.sizeOf3
  v3 := Tryd.zeroValue3
  t4 := Tryd.underlying4
  a4 := Tryd.isAgg4
  z4 := Tryd.sizeOf4
  v4 := Tryd.zeroValue4
  t5 := Tryd.underlying5
  a5 := Tryd.isAgg5
  z5 := Tryd.sizeOf5
  v5 := Tryd.zeroValue5
  t9 := Tryd.underlying9
  a9 := Tryd.isAgg9
  z9 := Tryd.sizeOf9
  v9 := Tryd.zeroValue9
  t46 := Tryd.underlying59
  a46 := Tryd.isAgg59
  z46 := Tryd.sizeOf59
  v46 := Tryd.zeroValue59
  t51 := Tryd.underlying71
  a51 := Tryd.isAgg71
  z51 := Tryd.sizeOf71
  v51 := Tryd.zeroValue71
  t146 := Tryd.underlying72
  a146 := Tryd.isAgg72
  z146 := Tryd.sizeOf72
  v146 := Tryd.zeroValue72
  g1 := by kernel_rfl
theorem index_at (s sub : ByteArray) (m : Int) (w : World) (hs : s.size < 4294967281) (hm : w.cell? ⟨2, 0, none⟩ = some (.int .i64 m)) :
    Calls Tryd.prog 41 #[.string s, .string sub] w fun e w' => e = .returned (.int .i64 (Lib.index s.data.toList sub.data.toList)) ∧ w' = w := Any.strings_Index lays143 s sub m w hs hm
theorem c41 {T : List (Entry Tryd.prog)} (s t : Str) (hl : s.length ≤ 1000000) : CallAt (ctx T) 41 [.str s, .str t] ⟨0, []⟩ (.int .i64 (Lib.index s t)) ⟨0, []⟩ := by
  intro ρ w xs sm hx
  match xs, hx with
  | [x, y], hx =>
    have h0 := hx.2 0 (by simp) (by simp)
    have h1 := hx.2 1 (by simp) (by simp)
    simp only [List.getElem_cons_zero, List.getElem_cons_succ] at h0 h1
    cases h0; cases h1
    obtain ⟨hB, m, hm⟩ := ρ.gl 2 (by simp [globs])
    have hc : w.cell? ⟨2, 0, none⟩ = some (.int .i64 m) := by rw [World.cell?, sm.below 2 hB]; exact hm
    have hrun : (callFunc 41 #[.string ⟨s.toArray⟩, .string ⟨t.toArray⟩]).run (ctx T).P w = .ok (.enter 41 #[.string ⟨s.toArray⟩, .string ⟨t.toArray⟩]) w := by
      have hf : (ctx T).P.funcs[41]? = some Tryd.f41 := Tryd.func41
      have hn : ¬ Tryd.f41.name = "runtime.NumGoroutine" := by decide +kernel
      simp [callFunc, hf, hn, Tryd.f41]
    refine .inr ⟨41, _, hrun, callsIn_wide.2 ((index_at ⟨s.toArray⟩ ⟨t.toArray⟩ m w ?_ hc).mono ?_)⟩
    · show s.toArray.size < _
      simp; omega
    · rintro e w' ⟨rfl, rfl⟩
      exact ⟨_, ρ, rfl, .int _ _, sm, Step.refl _ _ _⟩
noncomputable def e41 : Entry Tryd.prog := mkE 41 [[], []] (fun x : Str × Str => [.str x.1, .str x.2]) (fun x => x.1.length ≤ 1000000) (fun x => .int .i64 (Lib.index x.1 x.2)) fun x h => c41 (T := []) x.1 x.2 h
theorem k41 {T : List (Entry Tryd.prog)} (hT : findE 41 T = some e41.g) {s t : Str} (h1 : s.length ≤ 1000000) (H : Heap) : callL (ctx T) (.fn 41) [.str s, .str t] H = some (.int .i64 (Lib.index s t), H) :=
  mkE_scalar hT inj_str2 (s, t) h1 rfl (by simp)
theorem c31 {T : List (Entry Tryd.prog)} (c : UInt8) : CallAt (ctx T) 31 [.int .u8 c.toNat] ⟨0, []⟩ (.bool (sp c)) ⟨0, []⟩ := by
  refine callAt_body (fn := Tryd.f31) (s0 := ⟨[0, 2, 3, 4], [.int .u8 c.toNat, .undef, .undef, .undef], [], 10, ⟨0, [[]]⟩⟩) Tryd.func31 rfl rfl rfl ?_
  repeat refine wps_seq ?_
  refine wps_region callOK ?_
  simp [zS]
  repeat refine wps_seq ?_
  refine wps_region callOK ?_
  simp [zS]
  repeat refine wps_seq ?_
  refine wps_block ?_
  by_cases h1 : (c.toNat : Int) = 9
  · (repeat (first
      | (refine wps_seq ?_)
      | (refine wps_block ?_)
      | (refine wps_label ?_; simp only [thenQ, blockQ])
      | ((refine wps_region callOK ?_); simp [zS, h1])
      | (refine wps_cond (t := true) rfl (fun _ => ?_) (fun h => by cases h))
      | (refine wps_cond (t := false) rfl (fun h => by cases h) (fun _ => ?_))
      | ((refine wps_skip ?_); simp only [thenQ, blockQ])
      | ((refine wps_exit ?_); simp [thenQ, blockQ])))
    repeat refine wps_seq ?_
    refine wps_ret ?_
    simp [retVal, Tryd.f31, oneOr, thenQ, blockQ]
    exact ends_pure rfl (by simp [sp, h1])
  by_cases h2 : (c.toNat : Int) = 10
  · (repeat (first
      | (refine wps_seq ?_)
      | (refine wps_block ?_)
      | (refine wps_label ?_; simp only [thenQ, blockQ])
      | ((refine wps_region callOK ?_); simp [zS, h1, h2])
      | (refine wps_cond (t := true) rfl (fun _ => ?_) (fun h => by cases h))
      | (refine wps_cond (t := false) rfl (fun h => by cases h) (fun _ => ?_))
      | ((refine wps_skip ?_); simp only [thenQ, blockQ])
      | ((refine wps_exit ?_); simp [thenQ, blockQ])))
    repeat refine wps_seq ?_
    refine wps_ret ?_
    simp [retVal, Tryd.f31, oneOr, thenQ, blockQ]
    exact ends_pure rfl (by simp [sp, h2])
  by_cases h3 : (c.toNat : Int) = 12
  · (repeat (first
      | (refine wps_seq ?_)
      | (refine wps_block ?_)
      | (refine wps_label ?_; simp only [thenQ, blockQ])
      | ((refine wps_region callOK ?_); simp [zS, h1, h2, h3])
      | (refine wps_cond (t := true) rfl (fun _ => ?_) (fun h => by cases h))
      | (refine wps_cond (t := false) rfl (fun h => by cases h) (fun _ => ?_))
      | ((refine wps_skip ?_); simp only [thenQ, blockQ])
      | ((refine wps_exit ?_); simp [thenQ, blockQ])))
    repeat refine wps_seq ?_
    refine wps_ret ?_
    simp [retVal, Tryd.f31, oneOr, thenQ, blockQ]
    exact ends_pure rfl (by simp [sp, h3])
  by_cases h4 : (c.toNat : Int) = 13
  · (repeat (first
      | (refine wps_seq ?_)
      | (refine wps_block ?_)
      | (refine wps_label ?_; simp only [thenQ, blockQ])
      | ((refine wps_region callOK ?_); simp [zS, h1, h2, h3, h4])
      | (refine wps_cond (t := true) rfl (fun _ => ?_) (fun h => by cases h))
      | (refine wps_cond (t := false) rfl (fun h => by cases h) (fun _ => ?_))
      | ((refine wps_skip ?_); simp only [thenQ, blockQ])
      | ((refine wps_exit ?_); simp [thenQ, blockQ])))
    repeat refine wps_seq ?_
    refine wps_ret ?_
    simp [retVal, Tryd.f31, oneOr, thenQ, blockQ]
    exact ends_pure rfl (by simp [sp, h4])
  by_cases h5 : (c.toNat : Int) = 32
  · (repeat (first
      | (refine wps_seq ?_)
      | (refine wps_block ?_)
      | (refine wps_label ?_; simp only [thenQ, blockQ])
      | ((refine wps_region callOK ?_); simp [zS, h1, h2, h3, h4, h5])
      | (refine wps_cond (t := true) rfl (fun _ => ?_) (fun h => by cases h))
      | (refine wps_cond (t := false) rfl (fun h => by cases h) (fun _ => ?_))
      | ((refine wps_skip ?_); simp only [thenQ, blockQ])
      | ((refine wps_exit ?_); simp [thenQ, blockQ])))
    repeat refine wps_seq ?_
    refine wps_ret ?_
    simp [retVal, Tryd.f31, oneOr, thenQ, blockQ]
    exact ends_pure rfl (by simp [sp, h5])
  · (repeat (first
      | (refine wps_seq ?_)
      | (refine wps_block ?_)
      | (refine wps_label ?_; simp only [thenQ, blockQ])
      | ((refine wps_region callOK ?_); simp [zS, h1, h2, h3, h4, h5])
      | (refine wps_cond (t := true) rfl (fun _ => ?_) (fun h => by cases h))
      | (refine wps_cond (t := false) rfl (fun h => by cases h) (fun _ => ?_))
      | ((refine wps_skip ?_); simp only [thenQ, blockQ])
      | ((refine wps_exit ?_); simp [thenQ, blockQ])))
    repeat refine wps_seq ?_
    refine wps_ret ?_
    simp [retVal, Tryd.f31, oneOr, thenQ, blockQ]
    exact ends_pure rfl (by simp [sp, h1, h2, h3, h4, h5])
noncomputable def e31 : Entry Tryd.prog := mkE 31 [[]] (fun x : UInt8 => [.int .u8 x.toNat]) (fun _ => True) (fun x => .bool (sp x)) fun x _ => c31 (T := []) x
theorem k31 {T : List (Entry Tryd.prog)} (hT : findE 31 T = some e31.g) (c : UInt8) (H : Heap) : callL (ctx T) (.fn 31) [.int .u8 c.toNat] H = some (.bool (sp c), H) :=
  mkE_scalar hT inj_u8 c trivial rfl (by simp)
end Go.Proofs.YtlpknhpalcapmaaDoor
namespace Go.Proofs.YtlpknhpalcapmaaDoor
set_option linter.unusedSimpArgs false
set_option linter.unusedVariables false
open Go Go.RowKit
set_option maxRecDepth 100000

def isTrueE : Option (AV × Heap) → Bool
  | some (.bool b, _) => b
  | _ => false
/-! ### A word among words, to run -/
def eqN : Str → Str → Bool
  | [], l => match l with | [] => true | _ :: _ => false
  | a :: x, l => match l with
    | [] => false
    | b :: y => match Nat.beq a.toNat b.toNat with
      | true => eqN x y
      | false => false
theorem eqN_eq : ∀ (x y : Str), eqN x y = decide (x = y)
  | [], [] => rfl
  | [], _ :: _ => by simp [eqN]
  | _ :: _, [] => by simp [eqN]
  | a :: x, b :: y => by
    unfold eqN
    simp only
    split
    · rename_i h
      have := UInt8.toNat_inj.1 (Nat.eq_of_beq_eq_true h)
      subst this
      rw [eqN_eq]; simp
    · rename_i h
      have : ¬ a = b := fun e => by subst e; rw [Nat.beq_refl] at h; cases h
      simp [this]
def spN (n : Nat) : Bool := match Nat.beq n 32 with
  | true => true
  | false => match Nat.beq n 9 with
    | true => true
    | false => match Nat.beq n 10 with
      | true => true
      | false => match Nat.beq n 12 with
        | true => true
        | false => Nat.beq n 13
theorem spN_eq (c : UInt8) : spN c.toNat = sp c := by
  have k : ∀ m : Nat, Nat.beq c.toNat m = decide ((c.toNat : Int) = (m : Int)) := fun m => by
    by_cases h : c.toNat = m
    · subst h; simp
    · rw [beqN_ne h]; simp; omega
  unfold spN sp
  rw [k 32, k 9, k 10, k 12, k 13]
  simp only [Int.cast_ofNat_Int]
  by_cases h1 : (c.toNat : Int) = 9 <;> by_cases h2 : (c.toNat : Int) = 10 <;> by_cases h3 : (c.toNat : Int) = 12 <;> by_cases h4 : (c.toNat : Int) = 13 <;> by_cases h5 : (c.toNat : Int) = 32 <;> simp [h1, h2, h3, h4, h5]
/-- the rest of a text, against a word: still the same so far (its rest), or no longer -/
def inN (x : Str) : Str → Option Str → Bool → Bool
  | [], w, some' => match some' with
    | true => match w with
      | some r => match r with | [] => true | _ :: _ => false
      | none => false
    | false => false
  | c :: r, w, some' => match spN c.toNat with
    | true => match some' with
      | true => match w with
        | some q => match q with
          | [] => true
          | _ :: _ => inN x r (some x) false
        | none => inN x r (some x) false
      | false => inN x r (some x) false
    | false => match w with
      | some q => match q with
        | [] => inN x r none true
        | d :: q => match Nat.beq d.toNat c.toNat with
          | true => inN x r (some q) true
          | false => inN x r none true
      | none => inN x r none true
/-- what is left of x behind cur, where x begins so -/
def leftOf : Str → Str → Option Str
  | [], x => some x
  | a :: c, x => match x with
    | [] => none
    | b :: x => if b = a then leftOf c x else none
theorem leftOf_snoc : ∀ (cur x : Str) (c : UInt8), leftOf (cur ++ [c]) x = match leftOf cur x with
    | some q => (match q with | [] => none | d :: q => if d = c then some q else none)
    | none => none
  | [], x, c => by cases x <;> simp [leftOf]
  | a :: r, [], c => by simp [leftOf]
  | a :: r, b :: x, c => by
    simp only [List.cons_append, leftOf]
    by_cases h : b = a
    · simp only [h, if_true]; exact leftOf_snoc r x c
    · simp [h]
theorem leftOf_nil : ∀ (cur x : Str), leftOf cur x = some [] ↔ x = cur
  | [], x => by simp [leftOf]
  | a :: r, [] => by simp [leftOf]
  | a :: r, b :: x => by
    simp only [leftOf]
    by_cases h : b = a
    · simp [h, leftOf_nil r x]
    · simp [h]
theorem inN_eq (x : Str) (hx : x ≠ []) : ∀ (r : Str) (st : List Str × Str), x ∉ st.1 → inN x r (leftOf st.2 x) (!decide (st.2 = [])) = decide (x ∈ wfin (r.foldl wstep st))
  | [], st, hn => by
    simp only [List.foldl_nil, wfin]
    unfold inN
    by_cases h : st.2 = []
    · simp [h, hn]
    · simp only [h, decide_false, Bool.not_false, if_false]
      cases hl : leftOf st.2 x with
      | none =>
        have : ¬ x = st.2 := fun e => by rw [(leftOf_nil st.2 x).2 e] at hl; cases hl
        simp [hn, this]
      | some q =>
        cases q with
        | nil =>
          have := (leftOf_nil st.2 x).1 hl
          simp [this]
        | cons d q =>
          have : ¬ x = st.2 := fun e => by rw [(leftOf_nil st.2 x).2 e] at hl; cases hl
          simp [hn, this]
  | c :: r, st, hn => by
    show inN x (c :: r) _ _ = decide (x ∈ wfin (r.foldl wstep (wstep st c)))
    have grow : ∀ (r : Str) (st : List Str × Str), x ∈ st.1 → x ∈ (r.foldl wstep st).1 := by
      intro r
      induction r with
      | nil => exact fun _ h => h
      | cons c r ih =>
        intro st h
        refine ih _ ?_
        unfold wstep
        split
        · split
          · exact h
          · exact List.mem_append_left _ h
        · exact h
    rw [show inN x (c :: r) (leftOf st.2 x) (!decide (st.2 = [])) = (match spN c.toNat with
    | true => match (!decide (st.2 = [])) with
      | true => match leftOf st.2 x with
        | some q => match q with
          | [] => true
          | _ :: _ => inN x r (some x) false
        | none => inN x r (some x) false
      | false => inN x r (some x) false
    | false => match leftOf st.2 x with
      | some q => match q with
        | [] => inN x r none true
        | d :: q => match Nat.beq d.toNat c.toNat with
          | true => inN x r (some q) true
          | false => inN x r none true
      | none => inN x r none true) from rfl, spN_eq]
    cases hs : sp c with
    | true =>
      simp only
      by_cases h : st.2 = []
      · have e : wstep st c = (st.1, []) := by simp [wstep, hs, h]
        rw [e]
        have ih := inN_eq x hx r (st.1, []) hn
        simp only [h, decide_true, Bool.not_true]
        simpa [leftOf] using ih
      · have e : wstep st c = (st.1 ++ [st.2], []) := by simp [wstep, hs, h]
        rw [e]
        simp only [h, decide_false, Bool.not_false]
        by_cases hq : x = st.2
        · rw [(leftOf_nil st.2 x).2 hq]
          simp only
          have hm := grow r (st.1 ++ [st.2], []) (by rw [hq]; simp)
          unfold wfin
          split
          · simp [hm]
          · simp [hm]
        · have hn' : x ∉ st.1 ++ [st.2] := by simp [hn, hq]
          have ih := inN_eq x hx r (st.1 ++ [st.2], []) hn'
          simp only [leftOf, decide_true, Bool.not_true] at ih
          cases hl : leftOf st.2 x with
          | none => exact ih
          | some q =>
            cases q with
            | nil => exact absurd ((leftOf_nil st.2 x).1 hl) hq
            | cons d q => exact ih
    | false =>
      simp only
      have e : wstep st c = (st.1, st.2 ++ [c]) := by simp [wstep, hs]
      rw [e]
      have ih := inN_eq x hx r (st.1, st.2 ++ [c]) hn
      simp only [List.append_eq_nil_iff, List.cons_ne_nil, and_false, decide_false, Bool.not_false] at ih
      rw [leftOf_snoc] at ih
      cases hl : leftOf st.2 x with
      | none => rw [hl] at ih; exact ih
      | some q =>
        rw [hl] at ih
        cases q with
        | nil => exact ih
        | cons d q =>
          simp only at ih ⊢
          by_cases hd : d = c
          · rw [if_pos hd] at ih
            rw [hd, Nat.beq_refl]; exact ih
          · rw [if_neg hd] at ih
            rw [beqN_ne (fun e => hd (UInt8.toNat_inj.1 e))]; exact ih
theorem words_ne (s : Str) : [] ∉ wsplit s := by
  have key : ∀ (r : Str) (st : List Str × Str), [] ∉ st.1 → [] ∉ (r.foldl wstep st).1 := by
    intro r
    induction r with
    | nil => exact fun _ h => h
    | cons c r ih =>
      intro st h
      refine ih _ ?_
      unfold wstep
      split
      · split
        · exact h
        · rename_i h2
          simp only [List.mem_append, List.mem_singleton, not_or]
          exact ⟨h, fun e => h2 e.symm⟩
      · exact h
  have := key s ([], []) (by simp)
  unfold wsplit wfin wst
  split
  · exact this
  · rename_i h2
    simp only [List.mem_append, List.mem_singleton, not_or]
    exact ⟨this, fun e => h2 e.symm⟩
def inB (w x : Str) : Bool := match x with
  | [] => false
  | _ :: _ => inN x w (some x) false
theorem inB_eq (w x : Str) : inB w x = inW w x := by
  unfold inB
  split
  · simp [inW, words_ne]
  · rename_i a r
    have := inN_eq (a :: r) (by simp) w ([], []) (by simp)
    exact (show inN (a :: r) w (some (a :: r)) false = _ from this).trans (decide_eq_decide.2 Iff.rfl)
/-- In, to run -/
def runIn : List AV → Heap → Option (AV × Heap) := fun args H => match args with
  | [.str w, .str x] => match Nat.ble w.length 900000 with
    | true => some (.bool (inB w x), H)
    | false => none
  | _ => none
def r11 : Entry Tryd.prog := ⟨11, runIn, fun args H v H' h => by
  unfold runIn at h
  split at h
  · rename_i w x
    split at h
    · rename_i hl
      simp only [Option.some.injEq, Prod.mk.injEq] at h
      obtain ⟨rfl, rfl⟩ := h
      rw [inB_eq]
      exact (c11 (T := [e27, e26]) rfl rfl w x (Nat.le_of_ble_eq_true hl)).lift (by simp [pureL, pureV]) H
    · cases h
  · cases h⟩
def TR : List (Entry Tryd.prog) := [r11]
end Go.Proofs.YtlpknhpalcapmaaDoor
namespace Go.Proofs.YtlpknhpalcapmaaDoor
set_option linter.unusedSimpArgs false
set_option linter.unusedVariables false
open Go Go.RowKit
set_option maxRecDepth 100000

noncomputable def r41 : Entry Tryd.prog := ⟨41, fun args H => match args with
  | [.str s, .str t] => match Nat.ble s.length 1000 with
    | true => some (.int .i64 (Lib.index s t), H)
    | false => none
  | _ => none, fun args H v H' h => by
    split at h
    · rename_i s t
      split at h
      · rename_i hl
        simp only [Option.some.injEq, Prod.mk.injEq] at h
        obtain ⟨rfl, rfl⟩ := h
        exact (c41 (T := []) s t (by have := Nat.le_of_ble_eq_true hl; omega)).lift (by simp [pureL, pureV]) H
      · cases h
    · cases h⟩
theorem closedCall {T : List (Entry Tryd.prog)} {f : FuncId} (h : isTrueE (callN (ctx T) 100000 (.fn f) [] ⟨0, []⟩) = true) : CallAt (ctx T) f [] ⟨0, []⟩ (.bool true) ⟨0, []⟩ := by
  revert h
  cases hr : callN (ctx T) 100000 (.fn f) [] ⟨0, []⟩ with
  | none => intro h; cases h
  | some r =>
    obtain ⟨v, H'⟩ := r
    intro h
    cases v <;> simp only [isTrueE] at h <;> first | (cases h; done) | skip
    subst h
    exact ((call_ok mixed (mkC_ok _ _ _) 100000).fn f [] ⟨0, []⟩ _ _ hr).freeze (Φ := []) (by simp [fitV, pureV]) FitH.empty

def noneL : List AV → Bool
  | [] => true
  | _ :: _ => false
mutual
def fitVb (Φ : List (Nat × List AV)) : AV → AV → Bool
  | .slc b o len cap, v' => match v' with
    | .undef => true
    | .fslc sz es => (match lookC b Φ with
      | some cs => (match subL o (len * sz) cs with
        | some x => AV.beqL x (flatAV es) && Nat.beq es.length len && allSize sz es
        | none => false)
      | none => false) || (Nat.beq len 0 && noneL es)
    | _ => false
  | .ptr b o, v' => match v' with
    | .undef => true
    | .fptr cs o' => (match lookC b Φ with
      | some c => AV.beqL c cs
      | none => false) && Nat.beq o' o
    | _ => false
  | .nilS, v' => match v' with
    | .undef => true
    | .nilS => true
    | .fslc _ es => noneL es
    | _ => false
  | .fslc sz es, v' => match v' with
    | .undef => true
    | .fslc sz' es' => Nat.beq sz sz' && AV.beqL es es'
    | _ => false
  | .agg cs, v' => match v' with
    | .undef => true
    | .agg cs' => fitLb Φ cs cs'
    | _ => false
  | .tup cs, v' => match v' with
    | .undef => true
    | .tup cs' => fitLb Φ cs cs'
    | _ => false
  | .int k n, v' => match v' with
    | .undef => true
    | .int k' n' => decide (k' = k) && decide (n' = n)
    | _ => false
  | .str s, v' => match v' with
    | .undef => true
    | .str s' => eqN s' s
    | _ => false
  | .bool s, v' => match v' with
    | .undef => true
    | .bool s' => s' == s
    | _ => false
  | _, v' => match v' with
    | .undef => true
    | _ => false
def fitLb (Φ : List (Nat × List AV)) : List AV → List AV → Bool
  | [], l' => noneL l'
  | a :: r, l' => match l' with
    | [] => false
    | a' :: r' => fitVb Φ a a' && fitLb Φ r r'
end
theorem noneL_eq {l : List AV} (h : noneL l = true) : l = [] := by cases l <;> first | rfl | cases h
mutual
theorem fitVb_ok {Φ : List (Nat × List AV)} : ∀ {v v' : AV}, fitVb Φ v v' = true → fitV [] Φ v v' := by
  intro v v' h
  cases v with
  | slc b o len cap =>
    unfold fitVb at h
    unfold fitV
    cases v' <;> simp only [Bool.false_eq_true] at h ⊢
    rename_i sz es
    simp only [Bool.or_eq_true, Bool.and_eq_true] at h
    rcases h with h | h
    · left
      cases hl : lookC b Φ with
      | none => rw [hl] at h; cases h
      | some cs =>
        rw [hl] at h
        simp only at h
        cases hs : subL o (len * sz) cs with
        | none => rw [hs] at h; cases h
        | some x =>
          rw [hs] at h
          simp only [Bool.and_eq_true] at h
          exact ⟨cs, rfl, by rw [hs, AV.eqL_of_beq _ _ h.1.1], Nat.eq_of_beq_eq_true h.1.2, h.2⟩
    · exact .inr ⟨Nat.eq_of_beq_eq_true h.1, noneL_eq h.2⟩
  | fslc sz es =>
    cases v' with
    | undef => simp [fitV]
    | fslc sz' es' =>
      unfold fitVb at h
      simp only [Bool.and_eq_true] at h
      have h1 := Nat.eq_of_beq_eq_true h.1
      have h2 := AV.eqL_of_beq _ _ h.2
      subst h1; subst h2
      exact fitV_pure rfl
    | _ => simp [fitVb] at h
  | ptr b o =>
    unfold fitVb at h
    unfold fitV
    cases v' <;> simp only [Bool.false_eq_true] at h ⊢
    simp only [Bool.and_eq_true] at h
    cases hl : lookC b Φ with
    | none => rw [hl] at h; cases h.1
    | some cs =>
      rw [hl] at h
      exact ⟨by rw [AV.eqL_of_beq _ _ h.1], Nat.eq_of_beq_eq_true h.2⟩
  | nilS =>
    unfold fitVb at h
    unfold fitV
    cases v' <;> simp only [Bool.false_eq_true] at h ⊢
    exact noneL_eq h
  | agg cs =>
    unfold fitVb at h
    unfold fitV
    cases v' <;> simp only [Bool.false_eq_true] at h ⊢
    exact .inl (fitLb_ok h)
  | tup cs =>
    unfold fitVb at h
    unfold fitV
    cases v' <;> simp only [Bool.false_eq_true] at h ⊢
    exact .inl (fitLb_ok h)
  | int k n =>
    unfold fitVb at h
    unfold fitV
    cases v' <;> simp only [Bool.false_eq_true] at h ⊢
    · simp
    · simp only [Bool.and_eq_true, decide_eq_true_eq] at h
      obtain ⟨rfl, rfl⟩ := h
      exact .inr ⟨rfl, rfl⟩
  | str s =>
    unfold fitVb at h
    unfold fitV
    cases v' <;> simp only [Bool.false_eq_true] at h ⊢
    · simp
    · rw [eqN_eq, decide_eq_true_eq] at h
      subst h
      exact .inr ⟨rfl, rfl⟩
  | bool s =>
    unfold fitVb at h
    unfold fitV
    cases v' <;> simp only [Bool.false_eq_true] at h ⊢
    · simp
    · simp only [beq_iff_eq] at h
      subst h
      exact .inr ⟨rfl, rfl⟩
  | _ =>
    unfold fitVb at h
    cases v' <;> simp only [Bool.false_eq_true] at h
    simp [fitV]
theorem fitLb_ok {Φ : List (Nat × List AV)} : ∀ {l l' : List AV}, fitLb Φ l l' = true → fitL [] Φ l l' := by
  intro l l' h
  cases l with
  | nil =>
    unfold fitLb at h
    unfold fitL
    exact noneL_eq h
  | cons a r =>
    unfold fitLb at h
    unfold fitL
    cases l' with
    | nil => cases h
    | cons a' r' =>
      simp only [Bool.and_eq_true] at h
      exact ⟨fitVb_ok h.1, fitLb_ok h.2⟩
end
def undefL : Nat → List AV → List AV
  | 0, _ => []
  | _ + 1, [] => []
  | n + 1, _ :: r => .undef :: undefL n r
def undefA : List AV → List AV
  | [] => []
  | _ :: r => .undef :: undefA r
def pairsL : List AV → List AV → List (AV × AV) → List (AV × AV)
  | a :: r, b :: s, acc => (a, b) :: pairsL r s acc
  | _, _, acc => acc
/-- which blocks are to be frozen, as what -/
def coll (H : Heap) : Nat → List (AV × AV) → List (Nat × List AV) → Option (List (Nat × List AV))
  | 0, _, _ => none
  | n + 1, todo, Φ => match todo with
    | [] => some Φ
    | x :: r => match x.1, x.2 with
      | .agg xs, .agg ys => coll H n (pairsL xs ys r) Φ
      | .tup xs, .tup ys => coll H n (pairsL xs ys r) Φ
      | .slc b o len _, .fslc sz es => match len with
        | 0 => coll H n r Φ
        | Nat.succ _ => match lookC b Φ with
          | some _ => coll H n r Φ
          | none => match H.get b with
            | some (.cells cs) => coll H n (pairsL (cs.drop o) (flatAV es) r) ((b, undefL o cs ++ flatAV es ++ undefA (cs.drop (o + len * sz))) :: Φ)
            | _ => none
      | .ptr b _, .fptr ys _ => match lookC b Φ with
        | some _ => coll H n r Φ
        | none => match H.get b with
          | some (.cells cs) => coll H n (pairsL cs ys r) ((b, ys) :: Φ)
          | _ => none
      | _, _ => coll H n r Φ
def nodupB : List Nat → Bool
  | [] => true
  | x :: r => match memT x r with
    | true => false
    | false => nodupB r
theorem memT_mem {n : Nat} : ∀ {l : List Nat}, memT n l = false → n ∉ l
  | [], _ => by simp
  | m :: r, h => by
    unfold memT at h
    split at h
    · cases h
    · rename_i hb
      have : n ≠ m := fun e => by rw [e, Nat.beq_refl] at hb; cases hb
      simp [this, memT_mem h]
theorem nodupB_ok : ∀ {l : List Nat}, nodupB l = true → l.Nodup
  | [], _ => List.nodup_nil
  | x :: r, h => by
    unfold nodupB at h
    split at h
    · cases h
    · rename_i hm
      exact List.nodup_cons.2 ⟨memT_mem hm, nodupB_ok h⟩
def frzOK (H : Heap) (Φ : List (Nat × List AV)) : List (Nat × List AV) → Bool
  | [] => true
  | x :: r => (match H.get x.1 with
    | some (.cells cs) => fitLb Φ cs x.2 && pureL x.2
    | _ => false) && frzOK H Φ r
theorem frzOK_ok {H : Heap} {Φ : List (Nat × List AV)} : ∀ {l : List (Nat × List AV)}, frzOK H Φ l = true → ∀ x, x ∈ l → ∃ cs, H.get x.1 = some (.cells cs) ∧ fitL [] Φ cs x.2 ∧ pureL x.2 = true
  | [], _, x, hx => by cases hx
  | y :: r, h, x, hx => by
    unfold frzOK at h
    simp only [Bool.and_eq_true] at h
    rcases List.mem_cons.1 hx with rfl | hx
    · have h1 := h.1
      split at h1
      · rename_i cs hg
        simp only [Bool.and_eq_true] at h1
        exact ⟨cs, hg, fitLb_ok h1.1, h1.2⟩
      · cases h1
    · exact frzOK_ok h.2 x hx
/-- does a run answer what is written out? -/
def litOK (lit : AV) : Option (AV × Heap) → Bool
  | some (v, H) => match coll H 100000 [(v, lit)] [] with
    | some Φ => nodupB (Φ.map (·.1)) && frzOK H Φ Φ && fitVb Φ v lit
    | none => false
  | none => false
theorem closedLit {T : List (Entry Tryd.prog)} {f : FuncId} {args : List AV} {lit : AV} (h : litOK lit (callN (ctx T) 100000 (.fn f) args ⟨0, []⟩) = true) : CallAt (ctx T) f args ⟨0, []⟩ lit ⟨0, []⟩ := by
  revert h
  cases hr : callN (ctx T) 100000 (.fn f) args ⟨0, []⟩ with
  | none => intro h; cases h
  | some r =>
    obtain ⟨v, H'⟩ := r
    intro h
    unfold litOK at h
    simp only at h
    cases hc : coll H' 100000 [(v, lit)] [] with
    | none => rw [hc] at h; cases h
    | some Φ =>
      rw [hc] at h
      simp only [Bool.and_eq_true] at h
      exact ((call_ok mixed (mkC_ok _ _ _) 100000).fn f args ⟨0, []⟩ _ _ hr).freeze (fitVb_ok h.2) (FitH.froze (nodupB_ok h.1.1) (frzOK_ok h.1.2))
/-- answers written out, at arguments written out -/
def litsG : List (List AV × AV) → List AV → Option AV
  | [], _ => none
  | x :: r, args => match AV.beqL args x.1 with
    | true => some x.2
    | false => litsG r args
theorem litsG_mem : ∀ {l : List (List AV × AV)} {args : List AV} {v : AV}, litsG l args = some v → (args, v) ∈ l
  | [], args, v, h => by cases h
  | x :: r, args, v, h => by
    unfold litsG at h
    split at h
    · rename_i hb
      simp only [Option.some.injEq] at h
      subst h
      rw [AV.eqL_of_beq _ _ hb]
      exact List.mem_cons_self
    · exact List.mem_cons_of_mem _ (litsG_mem h)
noncomputable def litsE (f : FuncId) (l : List (List AV × AV)) (h : ∀ x, x ∈ l → pureL x.1 = true ∧ CallAt ⟨Tryd.prog, fun _ => [], fun _ => none⟩ f x.1 ⟨0, []⟩ x.2 ⟨0, []⟩) : Entry Tryd.prog := ⟨f, fun args H => match litsG l args with
  | some v => some (v, H)
  | none => none, fun args H v H' hr => by
    split at hr
    · rename_i w hw
      simp only [Option.some.injEq, Prod.mk.injEq] at hr
      obtain ⟨rfl, rfl⟩ := hr
      obtain ⟨h1, h2⟩ := h _ (litsG_mem hw)
      exact h2.lift h1 H
    · cases hr⟩
end Go.Proofs.YtlpknhpalcapmaaDoor
namespace Go.Proofs.YtlpknhpalcapmaaDoor
set_option linter.unusedSimpArgs false
set_option linter.unusedVariables false
open Go Go.RowKit
set_option maxRecDepth 100000

@[simp] theorem szT29 : sizeT Tryd.prog 29 = some 11 := rfl
@[simp] theorem agT29 : aggT Tryd.prog 29 = some true := rfl
@[simp] theorem byT29 : bytesT Tryd.prog 29 = some 160 := rfl
@[simp] theorem alT29 (H : Heap) : alV Tryd.prog H 29 = some (.ptr H.n 0, H.new (.cells [.str [], .nilS, .nilS, .nilS, .nilS, .int .i64 0, .int .i64 0, .int .i64 0, .int .i64 0, .int .i64 0, .bool false])) := rfl
@[simp] theorem zeT29 : zeroOf Tryd.prog 29 = some (.agg [.str [], .nilS, .nilS, .nilS, .nilS, .int .i64 0, .int .i64 0, .int .i64 0, .int .i64 0, .int .i64 0, .bool false]) := rfl
attribute [simp] Tryd.underlying29
@[simp 500] theorem rvF29 (H : Heap) (cs : List AV) (o : Nat) : readVar Tryd.prog H 29 (.fptr cs o) = (subL o 11 cs).bind fun cs => some (.agg cs) := rfl
@[simp 500] theorem rvP29 (H : Heap) (b o : Nat) : readVar Tryd.prog H 29 (.ptr b o) = (readCells H b o 11).bind fun cs => some (.agg cs) := rfl
@[simp] theorem fa29_0 (x : AV) : fieldAddrA Tryd.prog 29 x 0 = (match x with | .ptr b o => some (.ptr b (o + 0)) | .fptr cs o => some (.fptr cs (o + 0)) | _ => none) := rfl
@[simp] theorem fd29_0 (cs : List AV) : fieldA Tryd.prog 29 (.agg cs) 0 = getL cs 0 := rfl
@[simp] theorem fa29_1 (x : AV) : fieldAddrA Tryd.prog 29 x 1 = (match x with | .ptr b o => some (.ptr b (o + 1)) | .fptr cs o => some (.fptr cs (o + 1)) | _ => none) := rfl
@[simp] theorem fd29_1 (cs : List AV) : fieldA Tryd.prog 29 (.agg cs) 1 = getL cs 1 := rfl
@[simp] theorem fa29_2 (x : AV) : fieldAddrA Tryd.prog 29 x 2 = (match x with | .ptr b o => some (.ptr b (o + 2)) | .fptr cs o => some (.fptr cs (o + 2)) | _ => none) := rfl
@[simp] theorem fd29_2 (cs : List AV) : fieldA Tryd.prog 29 (.agg cs) 2 = getL cs 2 := rfl
@[simp] theorem fa29_3 (x : AV) : fieldAddrA Tryd.prog 29 x 3 = (match x with | .ptr b o => some (.ptr b (o + 3)) | .fptr cs o => some (.fptr cs (o + 3)) | _ => none) := rfl
@[simp] theorem fd29_3 (cs : List AV) : fieldA Tryd.prog 29 (.agg cs) 3 = getL cs 3 := rfl
@[simp] theorem fa29_4 (x : AV) : fieldAddrA Tryd.prog 29 x 4 = (match x with | .ptr b o => some (.ptr b (o + 4)) | .fptr cs o => some (.fptr cs (o + 4)) | _ => none) := rfl
@[simp] theorem fd29_4 (cs : List AV) : fieldA Tryd.prog 29 (.agg cs) 4 = getL cs 4 := rfl
@[simp] theorem fa29_5 (x : AV) : fieldAddrA Tryd.prog 29 x 5 = (match x with | .ptr b o => some (.ptr b (o + 5)) | .fptr cs o => some (.fptr cs (o + 5)) | _ => none) := rfl
@[simp] theorem fd29_5 (cs : List AV) : fieldA Tryd.prog 29 (.agg cs) 5 = getL cs 5 := rfl
@[simp] theorem fa29_6 (x : AV) : fieldAddrA Tryd.prog 29 x 6 = (match x with | .ptr b o => some (.ptr b (o + 6)) | .fptr cs o => some (.fptr cs (o + 6)) | _ => none) := rfl
@[simp] theorem fd29_6 (cs : List AV) : fieldA Tryd.prog 29 (.agg cs) 6 = getL cs 6 := rfl
@[simp] theorem fa29_7 (x : AV) : fieldAddrA Tryd.prog 29 x 7 = (match x with | .ptr b o => some (.ptr b (o + 7)) | .fptr cs o => some (.fptr cs (o + 7)) | _ => none) := rfl
@[simp] theorem fd29_7 (cs : List AV) : fieldA Tryd.prog 29 (.agg cs) 7 = getL cs 7 := rfl
@[simp] theorem fa29_8 (x : AV) : fieldAddrA Tryd.prog 29 x 8 = (match x with | .ptr b o => some (.ptr b (o + 8)) | .fptr cs o => some (.fptr cs (o + 8)) | _ => none) := rfl
@[simp] theorem fd29_8 (cs : List AV) : fieldA Tryd.prog 29 (.agg cs) 8 = getL cs 8 := rfl
@[simp] theorem fa29_9 (x : AV) : fieldAddrA Tryd.prog 29 x 9 = (match x with | .ptr b o => some (.ptr b (o + 9)) | .fptr cs o => some (.fptr cs (o + 9)) | _ => none) := rfl
@[simp] theorem fd29_9 (cs : List AV) : fieldA Tryd.prog 29 (.agg cs) 9 = getL cs 9 := rfl
@[simp] theorem fa29_10 (x : AV) : fieldAddrA Tryd.prog 29 x 10 = (match x with | .ptr b o => some (.ptr b (o + 10)) | .fptr cs o => some (.fptr cs (o + 10)) | _ => none) := rfl
@[simp] theorem fd29_10 (cs : List AV) : fieldA Tryd.prog 29 (.agg cs) 10 = getL cs 10 := rfl
@[simp] theorem szT35 : sizeT Tryd.prog 35 = some 3 := rfl
@[simp] theorem agT35 : aggT Tryd.prog 35 = some true := rfl
@[simp] theorem byT35 : bytesT Tryd.prog 35 = some 48 := rfl
@[simp] theorem alT35 (H : Heap) : alV Tryd.prog H 35 = some (.ptr H.n 0, H.new (.cells [.str [], .str [], .str []])) := rfl
@[simp] theorem zeT35 : zeroOf Tryd.prog 35 = some (.agg [.str [], .str [], .str []]) := rfl
attribute [simp] Tryd.underlying35
@[simp 500] theorem rvF35 (H : Heap) (cs : List AV) (o : Nat) : readVar Tryd.prog H 35 (.fptr cs o) = (subL o 3 cs).bind fun cs => some (.agg cs) := rfl
@[simp 500] theorem rvP35 (H : Heap) (b o : Nat) : readVar Tryd.prog H 35 (.ptr b o) = (readCells H b o 3).bind fun cs => some (.agg cs) := rfl
abbrev lkHtml : Str := [97, 32, 97, 98, 98, 114, 32, 97, 100, 100, 114, 101, 115, 115, 32, 97, 114, 101, 97, 32, 97, 114, 116, 105, 99, 108, 101, 32, 97, 115, 105, 100, 101, 32, 98, 32, 98, 100, 105, 32, 98, 100, 111, 32, 98, 105, 103, 32, 98, 108, 111, 99, 107, 113, 117, 111, 116, 101, 32, 98, 114, 32, 98, 117, 116, 116, 111, 110, 32, 99, 97, 112, 116, 105, 111, 110, 32, 99, 101, 110, 116, 101, 114, 32, 99, 105, 116, 101, 32, 99, 111, 100, 101, 32, 99, 111, 108, 32, 99, 111, 108, 103, 114, 111, 117, 112, 32, 100, 97, 116, 97, 32, 100, 97, 116, 97, 108, 105, 115, 116, 32, 100, 100, 32, 100, 101, 108, 32, 100, 101, 116, 97, 105, 108, 115, 32, 100, 102, 110, 32, 100, 105, 97, 108, 111, 103, 32, 100, 105, 118, 32, 100, 108, 32, 100, 116, 32, 101, 109, 32, 102, 105, 101, 108, 100, 115, 101, 116, 32, 102, 105, 103, 99, 97, 112, 116, 105, 111, 110, 32, 102, 105, 103, 117, 114, 101, 32, 102, 111, 110, 116, 32, 102, 111, 111, 116, 101, 114, 32, 102, 111, 114, 109, 32, 104, 49, 32, 104, 50, 32, 104, 51, 32, 104, 52, 32, 104, 53, 32, 104, 54, 32, 104, 101, 97, 100, 101, 114, 32, 104, 103, 114, 111, 117, 112, 32, 104, 114, 32, 105, 32, 105, 109, 103, 32, 105, 110, 112, 117, 116, 32, 105, 110, 115, 32, 107, 98, 100, 32, 108, 97, 98, 101, 108, 32, 108, 101, 103, 101, 110, 100, 32, 108, 105, 32, 109, 97, 105, 110, 32, 109, 97, 112, 32, 109, 97, 114, 107, 32, 109, 101, 110, 117, 32, 109, 101, 116, 101, 114, 32, 110, 97, 118, 32, 110, 111, 98, 114, 32, 111, 108, 32, 111, 112, 116, 103, 114, 111, 117, 112, 32, 111, 112, 116, 105, 111, 110, 32, 111, 117, 116, 112, 117, 116, 32, 112, 32, 112, 114, 101, 32, 112, 114, 111, 103, 114, 101, 115, 115, 32, 113, 32, 115, 32, 115, 97, 109, 112, 32, 115, 101, 97, 114, 99, 104, 32, 115, 101, 99, 116, 105, 111, 110, 32, 115, 101, 108, 101, 99, 116, 32, 115, 109, 97, 108, 108, 32, 115, 112, 97, 110, 32, 115, 116, 114, 105, 107, 101, 32, 115, 116, 114, 111, 110, 103, 32, 115, 117, 98, 32, 115, 117, 109, 109, 97, 114, 121, 32, 115, 117, 112, 32, 116, 97, 98, 108, 101, 32, 116, 98, 111, 100, 121, 32, 116, 100, 32, 116, 101, 120, 116, 97, 114, 101, 97, 32, 116, 102, 111, 111, 116, 32, 116, 104, 32, 116, 104, 101, 97, 100, 32, 116, 105, 109, 101, 32, 116, 114, 32, 116, 116, 32, 117, 32, 117, 108, 32, 118, 97, 114, 32, 119, 98, 114]
abbrev lkSvg : Str := [99, 105, 114, 99, 108, 101, 32, 100, 101, 115, 99, 32, 102, 111, 114, 101, 105, 103, 110, 79, 98, 106, 101, 99, 116, 32, 103, 32, 112, 97, 116, 104, 32, 114, 101, 99, 116, 32, 115, 118, 103, 32, 116, 101, 120, 116, 32, 116, 105, 116, 108, 101]
abbrev lkMath : Str := [97, 110, 110, 111, 116, 97, 116, 105, 111, 110, 45, 120, 109, 108, 32, 109, 97, 116, 104, 32, 109, 102, 114, 97, 99, 32, 109, 105, 32, 109, 110, 32, 109, 111, 32, 109, 114, 111, 119, 32, 109, 115, 32, 109, 116, 101, 120, 116]
abbrev pSvg : Str := [115, 118, 103, 58]
abbrev pMath : Str := [109, 97, 116, 104, 58]
def knownB (space : Int) (name : Str) : Bool := if space = 0 then inW lkHtml name else if space = 1 then inW lkSvg name else if space = 2 then inW lkMath name else false
theorem c5 {T : List (Entry Tryd.prog)} (hI : findE 11 T = some e11.g) (space : Int) (name : Str) : CallAt (ctx T) 5 [.int .i64 space, .str name] ⟨0, []⟩ (.bool (knownB space name)) ⟨0, []⟩ := by
  have k1 := fun H => k11 hI (w := lkHtml) name (by decide) H
  have k2 := fun H => k11 hI (w := lkSvg) name (by decide) H
  have k3 := fun H => k11 hI (w := lkMath) name (by decide) H
  by_cases h0 : space = 0
  · subst h0
    have e : knownB 0 name = inW lkHtml name := by simp [knownB]
    rw [e]
    generalize inW lkHtml name = v at *
    refine callAt_body (fn := Tryd.f5) (s0 := ⟨[0, 1, 4], [.int .i64 0, .str name, .undef], [], 19, ⟨0, [[]]⟩⟩) Tryd.func5 rfl rfl rfl ?_
    (repeat (first
      | (refine wps_seq ?_)
      | (refine wps_block ?_)
      | (refine wps_label ?_; simp only [thenQ, blockQ])
      | ((refine wps_region callOK ?_); simp [zS, k1])
      | (refine wps_cond (t := true) rfl (fun _ => ?_) (fun h => by cases h))
      | (refine wps_cond (t := false) rfl (fun h => by cases h) (fun _ => ?_))
      | ((refine wps_skip ?_); simp only [thenQ, blockQ])
      | ((refine wps_exit ?_); simp [thenQ, blockQ])))
    repeat refine wps_seq ?_
    refine wps_ret ?_
    simp [retVal, Tryd.f5, oneOr, thenQ, blockQ]
    exact ends_pure rfl (by rfl)
  · by_cases h1 : space = 1
    · subst h1
      have e : knownB 1 name = inW lkSvg name := by simp [knownB]
      rw [e]
      generalize inW lkSvg name = v at *
      refine callAt_body (fn := Tryd.f5) (s0 := ⟨[0, 1, 4], [.int .i64 1, .str name, .undef], [], 19, ⟨0, [[]]⟩⟩) Tryd.func5 rfl rfl rfl ?_
      (repeat (first
        | (refine wps_seq ?_)
        | (refine wps_block ?_)
        | (refine wps_label ?_; simp only [thenQ, blockQ])
        | ((refine wps_region callOK ?_); simp [zS, k2])
        | (refine wps_cond (t := true) rfl (fun _ => ?_) (fun h => by cases h))
        | (refine wps_cond (t := false) rfl (fun h => by cases h) (fun _ => ?_))
        | ((refine wps_skip ?_); simp only [thenQ, blockQ])
        | ((refine wps_exit ?_); simp [thenQ, blockQ])))
      repeat refine wps_seq ?_
      refine wps_ret ?_
      simp [retVal, Tryd.f5, oneOr, thenQ, blockQ]
      exact ends_pure rfl (by rfl)
    · by_cases h2 : space = 2
      · subst h2
        have e : knownB 2 name = inW lkMath name := by simp [knownB]
        rw [e]
        generalize inW lkMath name = v at *
        refine callAt_body (fn := Tryd.f5) (s0 := ⟨[0, 1, 4], [.int .i64 2, .str name, .undef], [], 19, ⟨0, [[]]⟩⟩) Tryd.func5 rfl rfl rfl ?_
        (repeat (first
          | (refine wps_seq ?_)
          | (refine wps_block ?_)
          | (refine wps_label ?_; simp only [thenQ, blockQ])
          | ((refine wps_region callOK ?_); simp [zS, k3])
          | (refine wps_cond (t := true) rfl (fun _ => ?_) (fun h => by cases h))
          | (refine wps_cond (t := false) rfl (fun h => by cases h) (fun _ => ?_))
          | ((refine wps_skip ?_); simp only [thenQ, blockQ])
          | ((refine wps_exit ?_); simp [thenQ, blockQ])))
        repeat refine wps_seq ?_
        refine wps_ret ?_
        simp [retVal, Tryd.f5, oneOr, thenQ, blockQ]
        exact ends_pure rfl (by rfl)
      · have e : knownB space name = false := by simp [knownB, h0, h1, h2]
        rw [e]
        refine callAt_body (fn := Tryd.f5) (s0 := ⟨[0, 1, 4], [.int .i64 space, .str name, .undef], [], 19, ⟨0, [[]]⟩⟩) Tryd.func5 rfl rfl rfl ?_
        (repeat (first
          | (refine wps_seq ?_)
          | (refine wps_block ?_)
          | (refine wps_label ?_; simp only [thenQ, blockQ])
          | ((refine wps_region callOK ?_); simp [zS, h0, h1, h2])
          | (refine wps_cond (t := true) rfl (fun _ => ?_) (fun h => by cases h))
          | (refine wps_cond (t := false) rfl (fun h => by cases h) (fun _ => ?_))
          | ((refine wps_skip ?_); simp only [thenQ, blockQ])
          | ((refine wps_exit ?_); simp [thenQ, blockQ])))
        repeat refine wps_seq ?_
        refine wps_ret ?_
        simp [retVal, Tryd.f5, oneOr, thenQ, blockQ]
        exact ends_pure rfl (by rfl)
theorem injIS (x y : Int × Str) (h : [AV.int .i64 x.1, AV.str x.2] = [AV.int .i64 y.1, AV.str y.2]) : x = y := by
  simp at h; exact Prod.ext h.1 h.2
noncomputable def e5 : Entry Tryd.prog := mkE 5 [[], []] (fun x : Int × Str => [.int .i64 x.1, .str x.2]) (fun _ => True) (fun x => .bool (knownB x.1 x.2)) fun x _ => c5 (T := [e11]) rfl x.1 x.2
theorem k5 {T : List (Entry Tryd.prog)} (hT : findE 5 T = some e5.g) (space : Int) (name : Str) (H : Heap) : callL (ctx T) (.fn 5) [.int .i64 space, .str name] H = some (.bool (knownB space name), H) :=
  mkE_scalar hT injIS (space, name) trivial rfl (by simp)
/-! ### Keys -/
theorem prefixes_lit : litOK (.agg [.str [], .str pSvg, .str pMath]) (callN (ctx []) 100000 (.fn 12) [] ⟨0, []⟩) = true := by decide +kernel
theorem c12 {T : List (Entry Tryd.prog)} : CallAt (ctx T) 12 [] ⟨0, []⟩ (.agg [.str [], .str pSvg, .str pMath]) ⟨0, []⟩ := closedLit (T := []) prefixes_lit
noncomputable def e12 : Entry Tryd.prog := mkE 12 [] (fun _ : Unit => []) (fun _ => True) (fun _ => .agg [.str [], .str pSvg, .str pMath]) fun _ _ => c12 (T := [])
theorem k12 {T : List (Entry Tryd.prog)} (hT : findE 12 T = some e12.g) (H : Heap) : callL (ctx T) (.fn 12) [] H = some (.agg [.str [], .str pSvg, .str pMath], H) :=
  mkE_pure hT (fun _ _ _ => rfl) () trivial rfl rfl H
theorem ixP0 : indexA Tryd.prog 35 (.agg [.str [], .str pSvg, .str pMath]) (.int .i64 0) = some (.str []) := rfl
theorem ixP1 : indexA Tryd.prog 35 (.agg [.str [], .str pSvg, .str pMath]) (.int .i64 1) = some (.str pSvg) := rfl
theorem ixP2 : indexA Tryd.prog 35 (.agg [.str [], .str pSvg, .str pMath]) (.int .i64 2) = some (.str pMath) := rfl
def keyV (space : Int) (name : Str) : Str := if space = 0 then name else if space = 1 then pSvg ++ name else if space = 2 then pMath ++ name else []
theorem c7 {T : List (Entry Tryd.prog)} (hP : findE 12 T = some e12.g) (space : Int) (name : Str) (hn : name.length ≤ 1000000) : CallAt (ctx T) 7 [.int .i64 space, .str name] ⟨0, []⟩ (.str (keyV space name)) ⟨0, []⟩ := by
  have kp := fun H => k12 hP H
  have c0 := catStr (x := []) (y := name) (by simp; omega)
  have c1 := catStr (x := pSvg) (y := name) (by simp; omega)
  have c2 := catStr (x := pMath) (y := name) (by simp; omega)
  by_cases h0 : space = 0
  · subst h0
    refine callAt_body (fn := Tryd.f7) (s0 := ⟨[0, 1, 4], [.int .i64 0, .str name, .undef], [], 16, ⟨0, [[]]⟩⟩) Tryd.func7 rfl rfl rfl ?_
    (repeat (first
      | (refine wps_seq ?_)
      | (refine wps_block ?_)
      | (refine wps_label ?_; simp only [thenQ, blockQ])
      | ((refine wps_region callOK ?_); simp [zS, kp, ixP0, c0])
      | (refine wps_cond (t := true) rfl (fun _ => ?_) (fun h => by cases h))
      | (refine wps_cond (t := false) rfl (fun h => by cases h) (fun _ => ?_))
      | ((refine wps_skip ?_); simp only [thenQ, blockQ])
      | ((refine wps_exit ?_); simp [thenQ, blockQ])))
    repeat refine wps_seq ?_
    refine wps_ret ?_
    simp [retVal, Tryd.f7, oneOr, thenQ, blockQ]
    exact ends_pure rfl (by simp [keyV])
  · by_cases h1 : space = 1
    · subst h1
      refine callAt_body (fn := Tryd.f7) (s0 := ⟨[0, 1, 4], [.int .i64 1, .str name, .undef], [], 16, ⟨0, [[]]⟩⟩) Tryd.func7 rfl rfl rfl ?_
      (repeat (first
        | (refine wps_seq ?_)
        | (refine wps_block ?_)
        | (refine wps_label ?_; simp only [thenQ, blockQ])
        | ((refine wps_region callOK ?_); simp [zS, kp, ixP1, c1])
        | (refine wps_cond (t := true) rfl (fun _ => ?_) (fun h => by cases h))
        | (refine wps_cond (t := false) rfl (fun h => by cases h) (fun _ => ?_))
        | ((refine wps_skip ?_); simp only [thenQ, blockQ])
        | ((refine wps_exit ?_); simp [thenQ, blockQ])))
      repeat refine wps_seq ?_
      refine wps_ret ?_
      simp [retVal, Tryd.f7, oneOr, thenQ, blockQ]
      exact ends_pure rfl (by simp [keyV])
    · by_cases h2 : space = 2
      · subst h2
        refine callAt_body (fn := Tryd.f7) (s0 := ⟨[0, 1, 4], [.int .i64 2, .str name, .undef], [], 16, ⟨0, [[]]⟩⟩) Tryd.func7 rfl rfl rfl ?_
        (repeat (first
          | (refine wps_seq ?_)
          | (refine wps_block ?_)
          | (refine wps_label ?_; simp only [thenQ, blockQ])
          | ((refine wps_region callOK ?_); simp [zS, kp, ixP2, c2])
          | (refine wps_cond (t := true) rfl (fun _ => ?_) (fun h => by cases h))
          | (refine wps_cond (t := false) rfl (fun h => by cases h) (fun _ => ?_))
          | ((refine wps_skip ?_); simp only [thenQ, blockQ])
          | ((refine wps_exit ?_); simp [thenQ, blockQ])))
        repeat refine wps_seq ?_
        refine wps_ret ?_
        simp [retVal, Tryd.f7, oneOr, thenQ, blockQ]
        exact ends_pure rfl (by simp [keyV])
      · by_cases h3 : space < 0
        · refine callAt_body (fn := Tryd.f7) (s0 := ⟨[0, 1, 4], [.int .i64 space, .str name, .undef], [], 16, ⟨0, [[]]⟩⟩) Tryd.func7 rfl rfl rfl ?_
          (repeat (first
            | (refine wps_seq ?_)
            | (refine wps_block ?_)
            | (refine wps_label ?_; simp only [thenQ, blockQ])
            | ((refine wps_region callOK ?_); simp [zS, h3])
            | (refine wps_cond (t := true) rfl (fun _ => ?_) (fun h => by cases h))
            | (refine wps_cond (t := false) rfl (fun h => by cases h) (fun _ => ?_))
            | ((refine wps_skip ?_); simp only [thenQ, blockQ])
            | ((refine wps_exit ?_); simp [thenQ, blockQ])))
          repeat refine wps_seq ?_
          refine wps_ret ?_
          simp [retVal, Tryd.f7, oneOr, thenQ, blockQ]
          exact ends_pure rfl (by simp [keyV, h0, h1, h2])
        · have h4 : (2 : Int) < space := by omega
          refine callAt_body (fn := Tryd.f7) (s0 := ⟨[0, 1, 4], [.int .i64 space, .str name, .undef], [], 16, ⟨0, [[]]⟩⟩) Tryd.func7 rfl rfl rfl ?_
          (repeat (first
            | (refine wps_seq ?_)
            | (refine wps_block ?_)
            | (refine wps_label ?_; simp only [thenQ, blockQ])
            | ((refine wps_region callOK ?_); simp [zS, h3, h4])
            | (refine wps_cond (t := true) rfl (fun _ => ?_) (fun h => by cases h))
            | (refine wps_cond (t := false) rfl (fun h => by cases h) (fun _ => ?_))
            | ((refine wps_skip ?_); simp only [thenQ, blockQ])
            | ((refine wps_exit ?_); simp [thenQ, blockQ])))
          repeat refine wps_seq ?_
          refine wps_ret ?_
          simp [retVal, Tryd.f7, oneOr, thenQ, blockQ]
          exact ends_pure rfl (by simp [keyV, h0, h1, h2])
noncomputable def e7 : Entry Tryd.prog := mkE 7 [[], []] (fun x : Int × Str => [.int .i64 x.1, .str x.2]) (fun x => x.2.length ≤ 1000000) (fun x => .str (keyV x.1 x.2)) fun x h => c7 (T := [e12]) rfl x.1 x.2 h
theorem k7 {T : List (Entry Tryd.prog)} (hT : findE 7 T = some e7.g) (space : Int) {name : Str} (hn : name.length ≤ 1000000) (H : Heap) : callL (ctx T) (.fn 7) [.int .i64 space, .str name] H = some (.str (keyV space name), H) :=
  mkE_scalar hT injIS (space, name) hn rfl (by simp)
end Go.Proofs.YtlpknhpalcapmaaDoor
namespace Go.Proofs.YtlpknhpalcapmaaDoor
set_option linter.unusedSimpArgs false
set_option linter.unusedVariables false
open Go Go.RowKit
set_option maxRecDepth 100000

/-- a text begins so -/
def begB (s t : Str) : Bool := decide (t.length ≤ s.length) && decide (s.take t.length = t)
theorem c35 {T : List (Entry Tryd.prog)} (s t : Str) : CallAt (ctx T) 35 [.str s, .str t] ⟨0, []⟩ (.bool (begB s t)) ⟨0, []⟩ := by
  refine callAt_body (fn := Tryd.f35) (s0 := ⟨[0, 1, 4], [.str s, .str t, .undef], [], 18, ⟨0, [[]]⟩⟩) Tryd.func35 rfl rfl rfl ?_
  repeat refine wps_seq ?_
  refine wps_region callOK ?_
  simp [zS]
  by_cases h : t.length ≤ s.length
  · repeat refine wps_seq ?_
    refine wps_region callOK ?_
    simp [zS, h, slStrTo h]
    repeat refine wps_seq ?_
    refine wps_ret ?_
    simp [retVal, Tryd.f35, oneOr, thenQ, blockQ]
    exact ends_pure rfl (by simp [begB, h])
  · repeat refine wps_seq ?_
    refine wps_region callOK ?_
    simp [zS, h]
    repeat refine wps_seq ?_
    refine wps_ret ?_
    simp [retVal, Tryd.f35, oneOr, thenQ, blockQ]
    exact ends_pure rfl (by simp [begB, h])
noncomputable def e35 : Entry Tryd.prog := mkE 35 [[], []] (fun x : Str × Str => [.str x.1, .str x.2]) (fun _ => True) (fun x => .bool (begB x.1 x.2)) fun x _ => c35 (T := []) x.1 x.2
theorem k35 {T : List (Entry Tryd.prog)} (hT : findE 35 T = some e35.g) (s t : Str) (H : Heap) : callL (ctx T) (.fn 35) [.str s, .str t] H = some (.bool (begB s t), H) :=
  mkE_scalar hT inj_str2 (s, t) trivial rfl (by simp)
def cutV (s t : Str) : AV := if begB s t = true then .tup [.str (s.drop t.length), .bool true] else .tup [.str s, .bool false]
theorem cut_no {s t : Str} (h : begB s t = false) : cutV s t = .tup [.str s, .bool false] := by unfold cutV; rw [if_neg (by rw [h]; decide)]
theorem cut_yes {s t : Str} (h : begB s t = true) : cutV s t = .tup [.str (s.drop t.length), .bool true] := by unfold cutV; rw [if_pos h]
theorem c28 {T : List (Entry Tryd.prog)} (hI : findE 35 T = some e35.g) (s t : Str) : CallAt (ctx T) 28 [.str s, .str t] ⟨0, []⟩ (cutV s t) ⟨0, []⟩ := by
  have hk := fun H => k35 hI s t H
  cases hb : begB s t with
  | false =>
    rw [hb] at hk
    refine callAt_body (fn := Tryd.f28) (s0 := ⟨[0, 1, 4, 5], [.str s, .str t, .undef, .undef], [], 15, ⟨0, [[]]⟩⟩) Tryd.func28 rfl rfl rfl ?_
    (repeat (first
      | (refine wps_seq ?_)
      | (refine wps_block ?_)
      | (refine wps_label ?_; simp only [thenQ, blockQ])
      | ((refine wps_region callOK ?_); simp [zS, hk])
      | (refine wps_cond (t := true) rfl (fun _ => ?_) (fun h => by cases h))
      | (refine wps_cond (t := false) rfl (fun h => by cases h) (fun _ => ?_))
      | ((refine wps_skip ?_); simp only [thenQ, blockQ])
      | ((refine wps_exit ?_); simp [thenQ, blockQ])))
    repeat refine wps_seq ?_
    refine wps_ret ?_
    simp [retVal, Tryd.f28, oneOr, thenQ, blockQ]
    exact ends_pure rfl (by simp [cutV, hb])
  | true =>
    rw [hb] at hk
    have hl : t.length ≤ s.length := by
      simp only [begB, Bool.and_eq_true, decide_eq_true_eq] at hb
      exact hb.1
    refine callAt_body (fn := Tryd.f28) (s0 := ⟨[0, 1, 4, 5], [.str s, .str t, .undef, .undef], [], 15, ⟨0, [[]]⟩⟩) Tryd.func28 rfl rfl rfl ?_
    (repeat (first
      | (refine wps_seq ?_)
      | (refine wps_block ?_)
      | (refine wps_label ?_; simp only [thenQ, blockQ])
      | ((refine wps_region callOK ?_); simp [zS, hk, slStr hl])
      | (refine wps_cond (t := true) rfl (fun _ => ?_) (fun h => by cases h))
      | (refine wps_cond (t := false) rfl (fun h => by cases h) (fun _ => ?_))
      | ((refine wps_skip ?_); simp only [thenQ, blockQ])
      | ((refine wps_exit ?_); simp [thenQ, blockQ])))
    repeat refine wps_seq ?_
    refine wps_ret ?_
    simp [retVal, Tryd.f28, oneOr, thenQ, blockQ]
    exact ends_pure rfl (by simp [cutV, hb])
theorem cut_pure {s t : Str} : pureV (cutV s t) = true := by unfold cutV; split <;> rfl
theorem cut_scalar {s t : Str} : scalarV (cutV s t) = true := by unfold cutV; split <;> rfl
noncomputable def e28 : Entry Tryd.prog := mkE 28 [[], []] (fun x : Str × Str => [.str x.1, .str x.2]) (fun _ => True) (fun x => cutV x.1 x.2) fun x _ => c28 (T := [e35]) rfl x.1 x.2
theorem k28 {T : List (Entry Tryd.prog)} (hT : findE 28 T = some e28.g) (s t : Str) (H : Heap) : callL (ctx T) (.fn 28) [.str s, .str t] H = some (cutV s t, H) :=
  mkE_scalar hT inj_str2 (s, t) trivial cut_scalar (by simp)
theorem c13 {T : List (Entry Tryd.prog)} (hI : findE 28 T = some e28.g) (s t : Str) : CallAt (ctx T) 13 [.str s, .str t] ⟨0, []⟩ (cutV s t) ⟨0, []⟩ := by
  have hk := fun H => k28 hI s t H
  cases hb : begB s t with
  | true =>
    rw [cut_yes hb] at hk ⊢
    refine callAt_body (fn := Tryd.f13) (s0 := ⟨[0, 1, 4, 5], [.str s, .str t, .undef, .undef], [], 11, ⟨0, [[]]⟩⟩) Tryd.func13 rfl rfl rfl ?_
    (repeat (first
      | (refine wps_seq ?_)
      | (refine wps_block ?_)
      | (refine wps_label ?_; simp only [thenQ, blockQ])
      | ((refine wps_region callOK ?_); simp [zS, hk])
      | (refine wps_cond (t := true) rfl (fun _ => ?_) (fun h => by cases h))
      | (refine wps_cond (t := false) rfl (fun h => by cases h) (fun _ => ?_))
      | ((refine wps_skip ?_); simp only [thenQ, blockQ])
      | ((refine wps_exit ?_); simp [thenQ, blockQ])))
    repeat refine wps_seq ?_
    refine wps_ret ?_
    simp [retVal, Tryd.f13, oneOr, thenQ, blockQ]
    exact ends_pure rfl (by rfl)
  | false =>
    rw [cut_no hb] at hk ⊢
    refine callAt_body (fn := Tryd.f13) (s0 := ⟨[0, 1, 4, 5], [.str s, .str t, .undef, .undef], [], 11, ⟨0, [[]]⟩⟩) Tryd.func13 rfl rfl rfl ?_
    (repeat (first
      | (refine wps_seq ?_)
      | (refine wps_block ?_)
      | (refine wps_label ?_; simp only [thenQ, blockQ])
      | ((refine wps_region callOK ?_); simp [zS, hk])
      | (refine wps_cond (t := true) rfl (fun _ => ?_) (fun h => by cases h))
      | (refine wps_cond (t := false) rfl (fun h => by cases h) (fun _ => ?_))
      | ((refine wps_skip ?_); simp only [thenQ, blockQ])
      | ((refine wps_exit ?_); simp [thenQ, blockQ])))
    repeat refine wps_seq ?_
    refine wps_ret ?_
    simp [retVal, Tryd.f13, oneOr, thenQ, blockQ]
    exact ends_pure rfl (by rfl)
noncomputable def e13 : Entry Tryd.prog := mkE 13 [[], []] (fun x : Str × Str => [.str x.1, .str x.2]) (fun _ => True) (fun x => cutV x.1 x.2) fun x _ => c13 (T := [e28]) rfl x.1 x.2
theorem k13 {T : List (Entry Tryd.prog)} (hT : findE 13 T = some e13.g) (s t : Str) (H : Heap) : callL (ctx T) (.fn 13) [.str s, .str t] H = some (cutV s t, H) :=
  mkE_scalar hT inj_str2 (s, t) trivial cut_scalar (by simp)
def splitV (key : Str) : Int × Str := if begB key pSvg = true then (1, key.drop 4) else if begB key pMath = true then (2, key.drop 5) else (0, key)
def splitA (x : Int × Str) : AV := .tup [.int .i64 x.1, .str x.2]
theorem beg_nil {s : Str} : begB s [] = true := by simp [begB]
theorem c6 {T : List (Entry Tryd.prog)} (hP : findE 12 T = some e12.g) (hC : findE 13 T = some e13.g) (key : Str) : CallAt (ctx T) 6 [.str key] ⟨0, []⟩ (splitA (splitV key)) ⟨0, []⟩ := by
  have kp := fun H => k12 hP H
  have k0 := fun H => k13 hC key [] H
  have k1 := fun H => k13 hC key pSvg H
  have k2 := fun H => k13 hC key pMath H
  rw [cut_yes beg_nil] at k0
  have w1 : wr .i64 1 = some 1 := rfl
  have w2 : wr .i64 2 = some 2 := rfl
  have w3 : wr .i64 3 = some 3 := rfl
  refine callAt_body (fn := Tryd.f6) (s0 := ⟨[0, 2, 3, 4, 5, 6, 7, 8, 9], [.str key, .undef, .undef, .undef, .undef, .undef, .undef, .undef, .undef], [], 28, ⟨0, [[]]⟩⟩) Tryd.func6 rfl rfl rfl ?_
  repeat refine wps_seq ?_
  refine wps_region callOK ?_
  simp [zS]
  repeat refine wps_seq ?_
  refine wps_region callOK ?_
  simp [zS, kp]
  repeat refine wps_seq ?_
  refine wps_block (wps_loop' (fun i : Nat => (⟨[0, 2, 3, 4, 5, 6, 7, 8, 9], [.str key, .int .i64 0, .str [], .undef, .undef, .undef, .undef, .agg [.str [], .str pSvg, .str pMath], .int .i64 i], [], 28, ⟨0, [[]]⟩⟩ : St))
    (fun i => i ≤ 3 ∧ (2 ≤ i → begB key pSvg = false) ∧ (3 ≤ i → begB key pMath = false)) (fun i => 3 - i) [] [] 0 ⟨by omega, by omega, by omega⟩ ⟨rfl, rfl, rfl, by simp [fitL, fitV, pureV, pureL], FitH.nothing⟩ ?_)
  rintro i ⟨hi, h1, h2⟩ B hB
  by_cases i0 : i = 0
  · subst i0
    repeat refine wps_seq ?_
    refine wps_region callOK ?_
    simp [zS]
    repeat refine wps_seq ?_
    refine wps_cond (t := true) rfl (fun _ => ?_) fun h => by cases h
    repeat refine wps_seq ?_
    refine wps_skip ?_
    simp
    repeat refine wps_seq ?_
    refine wps_block ?_
    repeat refine wps_seq ?_
    refine wps_region callOK ?_
    simp [zS, ixP0]
    repeat refine wps_seq ?_
    refine wps_region callOK ?_
    simp [zS, k0]
    repeat refine wps_seq ?_
    refine wps_region callOK ?_
    simp [zS]
    repeat refine wps_seq ?_
    refine wps_cond (t := false) rfl (fun h => by cases h) fun _ => ?_
    repeat refine wps_seq ?_
    refine wps_skip ?_
    simp
    repeat refine wps_seq ?_
    refine wps_region callOK ?_
    simp [zS, w1]
    exact hB _ 1 (by omega) ⟨by omega, by omega, by omega⟩ ⟨[], [], ⟨rfl, rfl, rfl, by simp [fitL, fitV, pureV, pureL], FitH.nothing⟩⟩
  · by_cases i1 : i = 1
    · subst i1
      cases hb : begB key pSvg with
      | true =>
        rw [cut_yes hb] at k1
        repeat refine wps_seq ?_
        refine wps_region callOK ?_
        simp [zS]
        repeat refine wps_seq ?_
        refine wps_cond (t := true) rfl (fun _ => ?_) fun h => by cases h
        repeat refine wps_seq ?_
        refine wps_skip ?_
        simp
        repeat refine wps_seq ?_
        refine wps_block ?_
        repeat refine wps_seq ?_
        refine wps_region callOK ?_
        simp [zS, ixP1]
        repeat refine wps_seq ?_
        refine wps_region callOK ?_
        simp [zS, k1]
        repeat refine wps_seq ?_
        refine wps_region callOK ?_
        simp [zS]
        repeat refine wps_seq ?_
        refine wps_cond (t := true) rfl (fun _ => ?_) fun h => by cases h
        repeat refine wps_seq ?_
        refine wps_region callOK ?_
        simp [zS]
        repeat refine wps_seq ?_
        refine wps_ret ?_
        simp [retVal, Tryd.f6, oneOr, thenQ, blockQ]
        exact ends_pure rfl (by simp [splitA, splitV, hb])
      | false =>
        rw [cut_no hb] at k1
        repeat refine wps_seq ?_
        refine wps_region callOK ?_
        simp [zS]
        repeat refine wps_seq ?_
        refine wps_cond (t := true) rfl (fun _ => ?_) fun h => by cases h
        repeat refine wps_seq ?_
        refine wps_skip ?_
        simp
        repeat refine wps_seq ?_
        refine wps_block ?_
        repeat refine wps_seq ?_
        refine wps_region callOK ?_
        simp [zS, ixP1]
        repeat refine wps_seq ?_
        refine wps_region callOK ?_
        simp [zS, k1]
        repeat refine wps_seq ?_
        refine wps_region callOK ?_
        simp [zS]
        repeat refine wps_seq ?_
        refine wps_cond (t := false) rfl (fun h => by cases h) fun _ => ?_
        repeat refine wps_seq ?_
        refine wps_skip ?_
        simp
        repeat refine wps_seq ?_
        refine wps_region callOK ?_
        simp [zS, w2]
        exact hB _ 2 (by omega) ⟨by omega, fun _ => hb, by omega⟩ ⟨[], [], ⟨rfl, rfl, rfl, by simp [fitL, fitV, pureV, pureL], FitH.nothing⟩⟩
    · by_cases i2 : i = 2
      · subst i2
        have n1 := h1 (by omega)
        cases hb : begB key pMath with
        | true =>
          rw [cut_yes hb] at k2
          repeat refine wps_seq ?_
          refine wps_region callOK ?_
          simp [zS]
          repeat refine wps_seq ?_
          refine wps_cond (t := true) rfl (fun _ => ?_) fun h => by cases h
          repeat refine wps_seq ?_
          refine wps_skip ?_
          simp
          repeat refine wps_seq ?_
          refine wps_block ?_
          repeat refine wps_seq ?_
          refine wps_region callOK ?_
          simp [zS, ixP2]
          repeat refine wps_seq ?_
          refine wps_region callOK ?_
          simp [zS, k2]
          repeat refine wps_seq ?_
          refine wps_region callOK ?_
          simp [zS]
          repeat refine wps_seq ?_
          refine wps_cond (t := true) rfl (fun _ => ?_) fun h => by cases h
          repeat refine wps_seq ?_
          refine wps_region callOK ?_
          simp [zS]
          repeat refine wps_seq ?_
          refine wps_ret ?_
          simp [retVal, Tryd.f6, oneOr, thenQ, blockQ]
          exact ends_pure rfl (by simp [splitA, splitV, n1, hb])
        | false =>
          rw [cut_no hb] at k2
          repeat refine wps_seq ?_
          refine wps_region callOK ?_
          simp [zS]
          repeat refine wps_seq ?_
          refine wps_cond (t := true) rfl (fun _ => ?_) fun h => by cases h
          repeat refine wps_seq ?_
          refine wps_skip ?_
          simp
          repeat refine wps_seq ?_
          refine wps_block ?_
          repeat refine wps_seq ?_
          refine wps_region callOK ?_
          simp [zS, ixP2]
          repeat refine wps_seq ?_
          refine wps_region callOK ?_
          simp [zS, k2]
          repeat refine wps_seq ?_
          refine wps_region callOK ?_
          simp [zS]
          repeat refine wps_seq ?_
          refine wps_cond (t := false) rfl (fun h => by cases h) fun _ => ?_
          repeat refine wps_seq ?_
          refine wps_skip ?_
          simp
          repeat refine wps_seq ?_
          refine wps_region callOK ?_
          simp [zS, w3]
          exact hB _ 3 (by omega) ⟨by omega, fun _ => n1, fun _ => hb⟩ ⟨[], [], ⟨rfl, rfl, rfl, by simp [fitL, fitV, pureV, pureL], FitH.nothing⟩⟩
      · have i3 : i = 3 := by omega
        subst i3
        have n1 := h1 (by omega)
        have n2 := h2 (by omega)
        repeat refine wps_seq ?_
        refine wps_region callOK ?_
        simp [zS]
        repeat refine wps_seq ?_
        refine wps_cond (t := false) rfl (fun h => by cases h) fun _ => ?_
        repeat refine wps_seq ?_
        refine wps_exit ?_
        simp
        repeat refine wps_seq ?_
        refine wps_region callOK ?_
        simp [zS]
        repeat refine wps_seq ?_
        refine wps_ret ?_
        simp [retVal, Tryd.f6, oneOr, thenQ, blockQ]
        exact ends_pure rfl (by simp [splitA, splitV, n1, n2])
noncomputable def e6 : Entry Tryd.prog := mkE 6 [[]] (fun x : Str => [.str x]) (fun _ => True) (fun x => splitA (splitV x)) fun x _ => c6 (T := [e12, e13]) rfl rfl x
theorem k6 {T : List (Entry Tryd.prog)} (hT : findE 6 T = some e6.g) (key : Str) (H : Heap) : callL (ctx T) (.fn 6) [.str key] H = some (splitA (splitV key), H) :=
  mkE_scalar hT inj_str key trivial rfl (by simp)
end Go.Proofs.YtlpknhpalcapmaaDoor
