/- The attributes' types; the closures that ask for a name. No condition. -/
import Derived.Test.YtnfodgjohekdgaaF5
import Derived.Test.YtnfodgjohekdgaaChecked
namespace Go.Proofs.Ytnfodgjohekdgaa
set_option linter.unusedSimpArgs false
set_option linter.unusedVariables false
open Go Go.RowKit
set_option maxRecDepth 100000

def keepTbl : List (List Nat) := [[], [], [], [0, 1, 2, 5, 6, 7, 8, 9, 10, 11], [0, 1, 2, 5, 6, 7, 8, 10], [0, 2, 4, 8, 9, 10], [0, 1, 2, 3], [0, 1, 4, 5, 6], [0, 1, 4, 5, 6], [0, 1, 4], [0, 1, 4, 5], [0, 1, 4, 5, 7, 9, 11, 18, 19, 20, 27, 28, 29, 38, 39, 40], [0, 1, 4], [0, 1, 3, 4, 5], [0, 1, 3, 4, 5, 7], [0, 1, 3, 4, 5], [0, 1, 3, 4, 5, 6], [0, 1, 3, 4], [0, 1, 4, 5, 6], [0, 1, 3, 4], [0, 1, 4, 5, 12, 13], [0, 1, 4, 5, 6, 7], [0, 2], [0, 1, 4, 5, 6, 7], [0, 1, 2, 3], [0, 1, 4, 5, 7, 8], [0, 1, 2, 3], [], [], [], [], [], [], [], [], [], [], [], [], [], [], [], []]
@[simp] theorem szT3 : sizeT Try.prog 3 = some 1 := rfl
@[simp] theorem agT3 : aggT Try.prog 3 = some false := rfl
@[simp] theorem byT3 : bytesT Try.prog 3 = some 8 := rfl
@[simp] theorem alT3 (H : Heap) : alV Try.prog H 3 = some (.ptr H.n 0, H.new (.cells [.int .i64 0])) := rfl
@[simp] theorem zeT3 : zeroOf Try.prog 3 = some (.int .i64 0) := rfl
attribute [simp] Try.underlying3
@[simp 500] theorem rvF3 (H : Heap) (cs : List AV) (o : Nat) : readVar Try.prog H 3 (.fptr cs o) = getL cs o := rfl
@[simp 500] theorem rvP3 (H : Heap) (b o : Nat) : readVar Try.prog H 3 (.ptr b o) = (H.get b).bind fun k => (match k with | .cells cs => getL cs o | _ => none) := rfl
@[simp] theorem szT4 : sizeT Try.prog 4 = some 1 := rfl
@[simp] theorem agT4 : aggT Try.prog 4 = some false := rfl
@[simp] theorem byT4 : bytesT Try.prog 4 = some 1 := rfl
@[simp] theorem alT4 (H : Heap) : alV Try.prog H 4 = some (.ptr H.n 0, H.new (.cells [.bool false])) := rfl
@[simp] theorem zeT4 : zeroOf Try.prog 4 = some (.bool false) := rfl
attribute [simp] Try.underlying4
@[simp 500] theorem rvF4 (H : Heap) (cs : List AV) (o : Nat) : readVar Try.prog H 4 (.fptr cs o) = getL cs o := rfl
@[simp 500] theorem rvP4 (H : Heap) (b o : Nat) : readVar Try.prog H 4 (.ptr b o) = (H.get b).bind fun k => (match k with | .cells cs => getL cs o | _ => none) := rfl
@[simp] theorem beq4 (a b : Bool) : binA Try.prog .eql 4 (.bool a) (.bool b) = some (.bool (a == b)) := rfl
@[simp] theorem bne4 (a b : Bool) : binA Try.prog .neq 4 (.bool a) (.bool b) = some (.bool !(a == b)) := rfl
@[simp] theorem szT9 : sizeT Try.prog 9 = some 1 := rfl
@[simp] theorem agT9 : aggT Try.prog 9 = some false := rfl
@[simp] theorem byT9 : bytesT Try.prog 9 = some 16 := rfl
@[simp] theorem alT9 (H : Heap) : alV Try.prog H 9 = some (.ptr H.n 0, H.new (.cells [.str []])) := rfl
@[simp] theorem zeT9 : zeroOf Try.prog 9 = some (.str []) := rfl
attribute [simp] Try.underlying9
@[simp 500] theorem rvF9 (H : Heap) (cs : List AV) (o : Nat) : readVar Try.prog H 9 (.fptr cs o) = getL cs o := rfl
@[simp 500] theorem rvP9 (H : Heap) (b o : Nat) : readVar Try.prog H 9 (.ptr b o) = (H.get b).bind fun k => (match k with | .cells cs => getL cs o | _ => none) := rfl
@[simp] theorem szT22 : sizeT Try.prog 22 = some 1 := rfl
@[simp] theorem agT22 : aggT Try.prog 22 = some false := rfl
@[simp] theorem byT22 : bytesT Try.prog 22 = some 24 := rfl
@[simp] theorem alT22 (H : Heap) : alV Try.prog H 22 = some (.ptr H.n 0, H.new (.cells [.nilS])) := rfl
@[simp] theorem zeT22 : zeroOf Try.prog 22 = some (.nilS) := rfl
attribute [simp] Try.underlying22
@[simp 500] theorem rvF22 (H : Heap) (cs : List AV) (o : Nat) : readVar Try.prog H 22 (.fptr cs o) = getL cs o := rfl
@[simp 500] theorem rvP22 (H : Heap) (b o : Nat) : readVar Try.prog H 22 (.ptr b o) = (H.get b).bind fun k => (match k with | .cells cs => getL cs o | _ => none) := rfl
@[simp] theorem slz22 (sz : Nat) (e : AV) (r : List AV) : binA Try.prog .eql 22 (.fslc sz (e :: r)) .nilS = some (.bool false) := rfl
@[simp] theorem sln22 (sz : Nat) (e : AV) (r : List AV) : binA Try.prog .neq 22 (.fslc sz (e :: r)) .nilS = some (.bool true) := rfl
@[simp] theorem slze22 : binA Try.prog .eql 22 .eslc .nilS = some (.bool false) := rfl
@[simp] theorem slzz22 : binA Try.prog .eql 22 .nilS .nilS = some (.bool true) := rfl
@[simp] theorem szT24 : sizeT Try.prog 24 = some 2 := rfl
@[simp] theorem agT24 : aggT Try.prog 24 = some true := rfl
@[simp] theorem byT24 : bytesT Try.prog 24 = some 32 := rfl
@[simp] theorem alT24 (H : Heap) : alV Try.prog H 24 = some (.ptr H.n 0, H.new (.cells [.str [], .str []])) := rfl
@[simp] theorem zeT24 : zeroOf Try.prog 24 = some (.agg [.str [], .str []]) := rfl
attribute [simp] Try.underlying24
@[simp 500] theorem rvF24 (H : Heap) (cs : List AV) (o : Nat) : readVar Try.prog H 24 (.fptr cs o) = (subL o 2 cs).bind fun cs => some (.agg cs) := rfl
@[simp 500] theorem rvP24 (H : Heap) (b o : Nat) : readVar Try.prog H 24 (.ptr b o) = (readCells H b o 2).bind fun cs => some (.agg cs) := rfl
@[simp] theorem fa24_0 (x : AV) : fieldAddrA Try.prog 24 x 0 = (match x with | .ptr b o => some (.ptr b (o + 0)) | .fptr cs o => some (.fptr cs (o + 0)) | _ => none) := rfl
@[simp] theorem fd24_0 (cs : List AV) : fieldA Try.prog 24 (.agg cs) 0 = getL cs 0 := rfl
@[simp] theorem fa24_1 (x : AV) : fieldAddrA Try.prog 24 x 1 = (match x with | .ptr b o => some (.ptr b (o + 1)) | .fptr cs o => some (.fptr cs (o + 1)) | _ => none) := rfl
@[simp] theorem fd24_1 (cs : List AV) : fieldA Try.prog 24 (.agg cs) 1 = getL cs 1 := rfl
@[simp] theorem szT34 : sizeT Try.prog 34 = some 1 := rfl
@[simp] theorem agT34 : aggT Try.prog 34 = some false := rfl
@[simp] theorem byT34 : bytesT Try.prog 34 = some 8 := rfl
@[simp] theorem alT34 (H : Heap) : alV Try.prog H 34 = some (.ptr H.n 0, H.new (.cells [.nilM])) := rfl
@[simp] theorem zeT34 : zeroOf Try.prog 34 = some (.nilM) := rfl
attribute [simp] Try.underlying34
@[simp 500] theorem rvF34 (H : Heap) (cs : List AV) (o : Nat) : readVar Try.prog H 34 (.fptr cs o) = getL cs o := rfl
@[simp 500] theorem rvP34 (H : Heap) (b o : Nat) : readVar Try.prog H 34 (.ptr b o) = (H.get b).bind fun k => (match k with | .cells cs => getL cs o | _ => none) := rfl
noncomputable def ctx (T : List (Entry Try.prog)) : Ctx := mkC Try.prog (fun f => (getL keepTbl f).getD []) T
@[simp] theorem mkC_P (T : List (Entry Try.prog)) : (ctx T).P = Try.prog := rfl
theorem mixed : Try.prog.follows .mixedOrders = true := by decide +kernel
theorem callOK {T : List (Entry Try.prog)} : CallOK (ctx T) (callL (ctx T)) := mkC_call _ _ T mixed

theorem callOKF {T : List (Entry Try.prog)} (l : List (Fact (ctx T))) : CallOK (ctx T) (callF l (callL (ctx T))) := callF_ok callOK l
abbrev Str := List UInt8
/-- an attribute: its name, its value -/
abbrev At1 := Str × Str
def aAttr (a : At1) : AV := .agg [.str a.1, .str a.2]
def aAttrs (L : List At1) : AV := .fslc 2 (L.map aAttr)
@[simp] theorem cells_aAttr (a : At1) : (aAttr a).cells = [.str a.1, .str a.2] := rfl
@[simp] theorem pure_aAttr (a : At1) : pureV (aAttr a) = true := by simp [aAttr, pureV, pureL]
@[simp] theorem pure_aAttrs (L : List At1) : pureV (aAttrs L) = true := by simp [aAttrs, pureV]

@[simp] theorem ok_aAttr (a : At1) : okV (aAttr a) = true := by simp [aAttr, okV, pureV, pureL]
@[simp] theorem ok_aAttrs (L : List At1) : okV (aAttrs L) = true := by simp [aAttrs, okV, pureV]
theorem th_aAttrs (H : Heap) (L : List At1) : thawA H [2] (aAttrs L) = some (aAttrs L) := thawA_ok (by simp)
theorem inj_aAttr {a b : At1} (h : aAttr a = aAttr b) : a = b := by
  simp [aAttr] at h; exact Prod.ext h.1 h.2
theorem inj_aAttrs {L M : List At1} (h : aAttrs L = aAttrs M) : L = M := by
  simp only [aAttrs, AV.fslc.injEq, true_and] at h
  exact List.map_inj_right (fun _ _ => inj_aAttr) |>.1 h
theorem c26 {T : List (Entry Try.prog)} (a : At1) (nm : Str) : CallAt (ctx T) 26 [aAttr a, .fptr [.str nm] 0] ⟨0, []⟩ (.bool (decide (a.1 = nm))) ⟨0, []⟩ := by
  refine callAt_body (fn := Try.f26) (s0 := ⟨[0, 1, 2, 3], [aAttr a, .fptr [.str nm] 0, .undef, .undef], [], 8, ⟨0, [[]]⟩⟩) Try.func26 rfl rfl rfl ?_
  repeat refine wps_seq ?_
  refine wps_region callOK ?_
  simp [ofV, ofV1, mkC_P, writeVar, writeCells, readCells, allSingle, AV.single, getFs, getF, setFs, setF, Heap.get, Heap.set, Heap.new, Heap.kill, killF, pushF, Heap.ready, refs, sliceParts, fillA, replL, aAttr]
  repeat refine wps_seq ?_
  refine wps_region callOK ?_
  simp [ofV, ofV1, mkC_P, writeVar, writeCells, readCells, allSingle, AV.single, getFs, getF, setFs, setF, Heap.get, Heap.set, Heap.new, Heap.kill, killF, pushF, Heap.ready, refs, sliceParts, fillA, replL]
  repeat refine wps_seq ?_
  refine wps_ret ?_
  simp [retVal, Try.f26, oneOr]
  exact ⟨[], [], fitV_pure rfl, FitH.empty⟩
end Go.Proofs.Ytnfodgjohekdgaa
