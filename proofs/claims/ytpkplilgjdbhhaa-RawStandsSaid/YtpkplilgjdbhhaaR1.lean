/- Texts and bytes: the types; a blank; small letters. No condition. -/
import Derived.Test.YtpkplilgjdbhhaaF10
import Derived.Test.YtpkplilgjdbhhaaChecked
namespace Go.Proofs.Ytpkplilgjdbhhaa
set_option linter.unusedSimpArgs false
set_option linter.unusedVariables false
open Go Go.RowKit
set_option maxRecDepth 100000

def keepTbl : List (List Nat) := [[], [], [], [0, 1, 2, 6], [0, 1, 2, 6, 7], [0, 1, 2, 3, 5, 6], [0, 1, 2, 3, 5, 14, 15, 16], [0, 1, 2, 3, 4, 5, 6, 7, 9, 15, 16, 17, 31, 32, 33], [0], [0, 1, 2, 6, 7, 10], [0, 1, 2, 6, 7], [0, 1, 4, 5], [0, 1, 2, 4], [0, 1, 2], [0, 1, 2], [0, 1, 2], [0, 1, 2], [0, 1, 2, 4, 5], [0, 1, 2, 4], [0, 1, 2, 4, 5], [0, 1, 2], [0, 1, 2, 3], [0, 1, 4], [0, 1, 4], [0, 1, 4, 5, 6], [0, 1, 4, 5, 6], [0, 1, 4, 5], [0, 1, 4, 5, 6, 7], [0, 1, 4], [0, 2], [0, 1, 2, 4, 6, 13, 14, 15], [0, 1, 2, 3, 4, 5, 6], [0, 2, 4, 8, 9, 10], [0], [0, 1, 3, 4], [0, 1, 2, 3, 8], [0, 1, 4, 40], [0, 2], [0, 1, 2, 3, 6, 7], [0, 1, 4], [0, 1, 2, 3, 4, 5, 6, 7, 8], [0, 1, 4], [0, 1, 2, 6], [0, 2, 4], [], [0, 1, 4, 5], [0, 1, 4], [0, 2, 3], [0, 1, 4], [0, 2], [0, 2, 3, 4], [0, 1, 4, 5, 6], [0, 1, 2, 4, 5], [0, 2], [0, 1, 2, 4], [0, 1, 2, 3, 6, 14, 15], [0, 1, 4, 5], [0, 1, 2, 6, 7, 8, 9], [0, 2], [0, 1, 5, 14, 15, 16], [0, 1, 2, 5, 7, 8, 15, 16, 17], [0, 1, 3], [0, 1, 5, 6, 7, 8], [0, 1, 2, 3, 6, 7, 8], [0, 1, 2, 3, 4], [0, 2], [0, 1, 4, 5], [0, 2, 3, 4, 5], [0, 1, 2, 3, 4, 5, 6, 12, 13, 14, 15], [0, 1, 4, 5, 6, 7, 8, 9, 10, 11, 12, 13], [0, 1, 4], [0, 2, 3, 4], [0, 1, 4], [0, 1, 2, 4], [0, 1, 2, 6, 7], [], [0, 1], [0, 2], [0, 1, 4], [0], [0, 2], [0, 1, 4, 5], [0, 2], [0, 1, 4, 5, 6], [0, 1, 4], [], [0, 2], [0, 1, 4, 5, 6, 7, 8, 9, 10], [0, 2, 3, 4, 5, 8, 9, 10], [0, 1, 4, 5, 7, 8], [0, 1], [0, 1, 4, 5, 6, 7, 8, 9, 20], [0, 1, 4, 5, 6, 7, 8], [0], [], [0, 2, 3, 4, 5, 6, 7, 8], [0, 2, 3], [0, 1, 2], [0, 1, 4], [0, 2], [], [0, 1, 4, 5, 7, 8], [0, 1, 4, 5, 6, 7, 8, 9, 10, 11, 14, 15, 47, 48, 49], [0, 2], [], [], [], [], [], [], [], [], [], [], [], [], [], [], [], []]
@[simp] theorem szT3 : sizeT Try.prog 3 = some 1 := rfl
@[simp] theorem agT3 : aggT Try.prog 3 = some false := rfl
@[simp] theorem byT3 : bytesT Try.prog 3 = some 8 := rfl
@[simp] theorem alT3 (H : Heap) : alV Try.prog H 3 = some (.ptr H.n 0, H.new (.cells [.int .i64 0])) := rfl
@[simp] theorem zeT3 : zeroOf Try.prog 3 = some (.int .i64 0) := rfl
attribute [simp] Try.underlying3
@[simp 500] theorem rvF3 (H : Heap) (cs : List AV) (o : Nat) : readVar Try.prog H 3 (.fptr cs o) = getL cs o := rfl
@[simp 500] theorem rvP3 (H : Heap) (b o : Nat) : readVar Try.prog H 3 (.ptr b o) = (H.get b).bind fun k => (match k with | .cells cs => getL cs o | _ => none) := rfl
@[simp] theorem szT4 : sizeT Try.prog 4 = some 1 := rfl
@[simp] theorem agT4 : aggT Try.prog 4 = some false := rfl
@[simp] theorem byT4 : bytesT Try.prog 4 = some 1 := rfl
@[simp] theorem alT4 (H : Heap) : alV Try.prog H 4 = some (.ptr H.n 0, H.new (.cells [.bool false])) := rfl
@[simp] theorem zeT4 : zeroOf Try.prog 4 = some (.bool false) := rfl
attribute [simp] Try.underlying4
@[simp 500] theorem rvF4 (H : Heap) (cs : List AV) (o : Nat) : readVar Try.prog H 4 (.fptr cs o) = getL cs o := rfl
@[simp 500] theorem rvP4 (H : Heap) (b o : Nat) : readVar Try.prog H 4 (.ptr b o) = (H.get b).bind fun k => (match k with | .cells cs => getL cs o | _ => none) := rfl
@[simp] theorem beq4 (a b : Bool) : binA Try.prog .eql 4 (.bool a) (.bool b) = some (.bool (a == b)) := rfl
@[simp] theorem bne4 (a b : Bool) : binA Try.prog .neq 4 (.bool a) (.bool b) = some (.bool !(a == b)) := rfl
@[simp] theorem szT5 : sizeT Try.prog 5 = some 1 := rfl
@[simp] theorem agT5 : aggT Try.prog 5 = some false := rfl
@[simp] theorem byT5 : bytesT Try.prog 5 = some 1 := rfl
@[simp] theorem alT5 (H : Heap) : alV Try.prog H 5 = some (.ptr H.n 0, H.new (.cells [.int .u8 0])) := rfl
@[simp] theorem zeT5 : zeroOf Try.prog 5 = some (.int .u8 0) := rfl
attribute [simp] Try.underlying5
@[simp 500] theorem rvF5 (H : Heap) (cs : List AV) (o : Nat) : readVar Try.prog H 5 (.fptr cs o) = getL cs o := rfl
@[simp 500] theorem rvP5 (H : Heap) (b o : Nat) : readVar Try.prog H 5 (.ptr b o) = (H.get b).bind fun k => (match k with | .cells cs => getL cs o | _ => none) := rfl
@[simp] theorem szT52 : sizeT Try.prog 52 = some 1 := rfl
@[simp] theorem agT52 : aggT Try.prog 52 = some false := rfl
@[simp] theorem byT52 : bytesT Try.prog 52 = some 24 := rfl
@[simp] theorem alT52 (H : Heap) : alV Try.prog H 52 = some (.ptr H.n 0, H.new (.cells [.nilS])) := rfl
@[simp] theorem zeT52 : zeroOf Try.prog 52 = some (.nilS) := rfl
attribute [simp] Try.underlying52
@[simp 500] theorem rvF52 (H : Heap) (cs : List AV) (o : Nat) : readVar Try.prog H 52 (.fptr cs o) = getL cs o := rfl
@[simp 500] theorem rvP52 (H : Heap) (b o : Nat) : readVar Try.prog H 52 (.ptr b o) = (H.get b).bind fun k => (match k with | .cells cs => getL cs o | _ => none) := rfl
@[simp] theorem slz52 (sz : Nat) (e : AV) (r : List AV) : binA Try.prog .eql 52 (.fslc sz (e :: r)) .nilS = some (.bool false) := rfl
@[simp] theorem sln52 (sz : Nat) (e : AV) (r : List AV) : binA Try.prog .neq 52 (.fslc sz (e :: r)) .nilS = some (.bool true) := rfl
@[simp] theorem slze52 : binA Try.prog .eql 52 .eslc .nilS = some (.bool false) := rfl
@[simp] theorem slzz52 : binA Try.prog .eql 52 .nilS .nilS = some (.bool true) := rfl
attribute [simp] Try.underlying9 opndO_s
@[simp] theorem szT9 : sizeT Try.prog 9 = some 1 := rfl
noncomputable def ctx (T : List (Entry Try.prog)) : Ctx := mkC Try.prog (fun f => (getL keepTbl f).getD []) T
@[simp] theorem mkC_P (T : List (Entry Try.prog)) : (ctx T).P = Try.prog := rfl
theorem mixed : Try.prog.follows .mixedOrders = true := by decide +kernel
theorem callOK {T : List (Entry Try.prog)} : CallOK (ctx T) (callL (ctx T)) := mkC_call _ _ T mixed
theorem callOKF {T : List (Entry Try.prog)} (l : List (Fact (ctx T))) : CallOK (ctx T) (callF l (callL (ctx T))) := callF_ok callOK l
abbrev Str := List UInt8

@[simp] theorem lenStr (H : Heap) (s : Str) : lenA Try.prog H 9 (.str s) = some s.length := by simp [lenA]
theorem ixStr {s : Str} {i : Nat} (h : i < s.length) : indexA Try.prog 9 (.str s) (.int .i64 (i : Int)) = some (.int .u8 (s[i]'h).toNat) := by
  simp [indexA, idx_nat h, getL_get h]
theorem slStr {H : Heap} {s : Str} {i : Nat} (h : i ≤ s.length) : sliceA Try.prog H 9 (.str s) (some (.int .i64 (i : Int))) none none = some (.str (s.drop i)) := by
  simp [sliceA, hiOK, bound, idx_nat (Nat.lt_succ_of_le h)]
theorem slStrTo {H : Heap} {s : Str} {j : Nat} (h : j ≤ s.length) : sliceA Try.prog H 9 (.str s) none (some (.int .i64 (j : Int))) none = some (.str (s.take j)) := by
  simp [sliceA, hiOK, bound, idx_nat (Nat.lt_succ_of_le h)]
theorem slStrOf {H : Heap} {s : Str} {i j : Nat} (hj : j ≤ s.length) (hi : i ≤ j) : sliceA Try.prog H 9 (.str s) (some (.int .i64 (i : Int))) (some (.int .i64 (j : Int))) none = some (.str ((s.take j).drop i)) := by
  simp [sliceA, hiOK, bound, idx_nat (Nat.lt_succ_of_le hj), idx_nat (Nat.lt_succ_of_le hi)]

/-- a blank -/
def sp (c : UInt8) : Bool := decide ((c.toNat : Int) = 9) || (decide ((c.toNat : Int) = 10) || (decide ((c.toNat : Int) = 12) || (decide ((c.toNat : Int) = 13) || decide ((c.toNat : Int) = 32))))
theorem c29 {T : List (Entry Try.prog)} (c : UInt8) : CallAt (ctx T) 29 [.int .u8 c.toNat] ⟨0, []⟩ (.bool (sp c)) ⟨0, []⟩ := by
  refine callAt_body (fn := Try.f29) (s0 := ⟨[0, 2], [.int .u8 c.toNat, .undef], [], 21, ⟨0, [[]]⟩⟩) Try.func29 rfl rfl rfl ?_
  repeat refine wps_seq ?_
  refine wps_region callOK ?_
  simp [ofV, ofV1, mkC_P, writeVar, writeCells, readCells, allSingle, AV.single, getFs, getF, setFs, setF, Heap.get, Heap.set, Heap.new, Heap.kill, killF, pushF, Heap.ready, refs, sliceParts, fillA, replL]
  by_cases h1 : (c.toNat : Int) = 9 <;> by_cases h2 : (c.toNat : Int) = 10 <;> by_cases h3 : (c.toNat : Int) = 12 <;> by_cases h4 : (c.toNat : Int) = 13 <;> by_cases h5 : (c.toNat : Int) = 32
  all_goals first
    | (exfalso; omega)
    | (repeat refine wps_seq ?_
       repeat refine wps_seq ?_
       refine wps_region callOK ?_
       simp [ofV, ofV1, mkC_P, writeVar, writeCells, readCells, allSingle, AV.single, getFs, getF, setFs, setF, Heap.get, Heap.set, Heap.new, Heap.kill, killF, pushF, Heap.ready, refs, sliceParts, fillA, replL, h1, h2, h3, h4, h5]
       repeat refine wps_seq ?_
       repeat refine wps_seq ?_
       refine wps_ret ?_
       simp [retVal, Try.f29, oneOr]
       exact ends_pure rfl (by simp [sp, h1, h2, h3, h4, h5]))
theorem c71 {T : List (Entry Try.prog)} (c : UInt8) : CallAt (ctx T) 71 [.int .u8 c.toNat] ⟨0, []⟩ (.bool (sp c)) ⟨0, []⟩ := by
  refine callAt_body (fn := Try.f71) (s0 := ⟨[0, 2, 3, 4], [.int .u8 c.toNat, .undef, .undef, .undef], [], 10, ⟨0, [[]]⟩⟩) Try.func71 rfl rfl rfl ?_
  have key : ∀ v : Bool, sp c = v → ∃ σ Φ, fitV σ Φ (.bool v) (.bool (sp c)) ∧ FitH 0 σ Φ (⟨0, [[]]⟩ : Heap) ⟨0, []⟩ := fun v h => ends_pure rfl (by rw [h])
  by_cases h1 : (c.toNat : Int) = 9 <;> by_cases h2 : (c.toNat : Int) = 10 <;> by_cases h3 : (c.toNat : Int) = 12 <;> by_cases h4 : (c.toNat : Int) = 13 <;> by_cases h5 : (c.toNat : Int) = 32
  all_goals first
    | (exfalso; omega)
    | ((have hs := key _ (by simp only [sp, h1, h2, h3, h4, h5]; rfl))
       clear key
       repeat (first
         | (refine wps_seq ?_)
         | (refine wps_block ?_)
         | ((refine wps_region callOK ?_); simp [ofV, ofV1, mkC_P, writeVar, writeCells, readCells, allSingle, AV.single, getFs, getF, setFs, setF, Heap.get, Heap.set, Heap.new, Heap.kill, killF, pushF, Heap.ready, refs, sliceParts, fillA, replL, h1, h2, h3, h4, h5])
         | ((refine wps_cond (t := true) rfl (fun _ => ?_) (fun h => by cases h)))
         | ((refine wps_cond (t := false) rfl (fun h => by cases h) (fun _ => ?_)))
         | ((refine wps_skip ?_); simp only [thenQ, blockQ])
         | ((refine wps_ret ?_); simp [retVal, Try.f71, oneOr, thenQ, blockQ]))
       exact hs)
end Go.Proofs.Ytpkplilgjdbhhaa
