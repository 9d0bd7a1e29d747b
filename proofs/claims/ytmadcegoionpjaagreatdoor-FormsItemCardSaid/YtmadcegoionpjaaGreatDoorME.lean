/- Nodes, trees; whom a document tells, in both codes. No condition. -/
import Derived.Test.YtmadcegoionpjaaGreatDoorMD
import Derived.Test.YtmadcegoionpjaaGreatDoorChecked
namespace Go.Proofs.YtmadcegoionpjaaGreatDoor
set_option linter.unusedSimpArgs false
set_option linter.unusedVariables false
open Go Go.RowKit
set_option maxRecDepth 100000

def keepTbl : List (List Nat) := [[], [], [], [0, 1, 2, 3, 6, 7], [0, 1, 2, 4, 5, 7, 9, 10, 20, 21, 22, 57, 58, 59], [0, 1, 2, 3, 4, 8, 9], [0, 1, 2, 3, 4, 8], [0, 1, 2, 4, 6, 13, 14, 15], [0, 2], [0, 1], [0, 1, 2, 3, 6, 7, 8, 10, 39, 40, 41], [0, 1, 4], [0, 1, 2, 4], [0, 1, 2, 3, 4], [0, 1, 2, 4], [0, 1, 2], [0, 1, 2, 4, 5, 7, 9, 10, 11], [0, 1, 2, 3, 5, 6, 7, 8, 9], [0, 1, 4, 6, 11, 12, 13], [0, 1], [0, 1, 2, 3, 4, 6, 7, 8, 9, 10, 12, 21, 22, 23, 39, 40, 41], [0, 1, 4, 5, 12, 13], [0, 2], [0, 1, 2, 3, 6], [0, 2, 3, 5, 6, 8, 9, 10, 11, 25, 26, 27], [0, 1, 2], [0, 1, 4, 5], [0, 2, 3, 4, 5], [0, 2], [0, 1, 2, 3, 6, 7, 8, 10], [0, 1, 4, 5, 7, 8], [0, 1, 2, 3, 4, 5, 6], [0, 1, 2, 4, 5, 6, 7, 8, 9, 10], [0, 1, 2, 3, 4, 5, 6, 7], [0, 1, 2], [0, 1, 2], [0, 1, 2, 3], [0, 1, 2, 4], [0, 1, 2, 4], [0, 1, 4, 5, 6, 7], [0, 1, 2], [0, 1, 2, 3, 6, 7], [0, 1, 2, 4], [1, 2, 3, 5], [0, 1, 2, 4], [0, 1, 4], [0, 2, 4, 8, 9, 10], [0, 2, 3, 4], [0, 1, 4, 5, 6, 7], [0, 1, 2, 4, 5, 7, 8, 9, 10], [0, 2, 3, 4, 5, 6, 8, 9, 10, 47, 48, 49], [0, 1, 2, 3, 4, 10, 11], [0, 2], [0, 1, 4, 5, 6], [0, 1, 4, 5, 6], [0, 1, 2, 4, 5], [0, 1, 4, 5, 6], [0, 1, 2, 4], [0, 1, 2, 4, 5, 6, 7, 8, 9], [0, 1, 2, 3, 4, 5, 7, 8, 9, 10, 11, 12, 13, 21, 22, 23, 83, 84, 85], [0, 1, 2, 3, 4, 6, 7], [0, 1, 2, 3, 4, 6], [0, 1, 2, 4], [0, 1, 4], [0, 1, 4], [0, 1, 4, 5, 7, 8], [0, 1, 2, 4, 5, 7, 8, 13, 14, 15, 33], [0, 1, 2, 4, 5, 7, 9, 10, 11], [0], [0, 1, 3, 4], [0, 1, 2, 3, 8], [0, 2, 3, 4, 5], [0, 2], [0, 1, 4, 5], [0, 1, 4], [0, 1, 2, 3, 5, 6], [0, 1, 2], [0, 1, 2, 3], [0, 1, 2, 3, 4, 5, 8, 10, 11, 12, 13, 14], [0, 1, 2, 6, 7, 8, 9, 10, 11, 16], [0, 1, 4], [0, 1, 4], [0, 1, 2, 6], [0, 1, 2, 6], [0, 1, 4, 5, 6, 7, 9], [0, 1, 3, 4], [0, 1, 2, 3, 4, 8, 9, 10, 11], [0, 1, 2, 3, 4, 5, 6, 7, 8], [0, 1, 2, 3, 4, 5, 11, 12, 20, 21], [0, 1, 4, 5], [0, 1, 2, 3, 4], [0, 1, 2], [0, 1, 4, 5, 6, 7, 8], [0, 2, 3, 4, 5, 8, 9, 10], [0, 1, 4, 5], [0, 2, 3, 4, 5], [0, 1, 2, 3, 6, 7, 8], [0, 1, 2, 4, 5, 7, 30, 31], [0, 1, 2, 4], [0, 1, 2, 3, 6, 7], [0, 1, 4, 5, 6, 7], [0, 1, 2, 6, 7, 8], [0, 1, 2, 3, 8, 9, 10, 11], [0, 2], [0, 1, 2, 3, 8, 9, 10, 11, 12, 14, 16], [0, 2, 3], [0, 1, 3, 4, 5], [0, 1, 4, 5, 6], [0, 1, 4], [0, 1, 4], [0, 1, 4], [0, 1, 4], [0, 1, 2, 6, 7, 8, 9, 10, 11, 12, 13, 15, 16, 17, 85, 99, 100, 101], [0, 2, 3], [0, 2], [0, 2], [0, 2, 3], [0, 1, 4, 5, 6, 7, 8, 9, 10, 11, 12, 13, 14, 15, 16], [0, 1, 2, 3, 4, 10, 11, 12, 13, 14, 15, 16, 17, 18], [0, 1, 4, 5, 7, 8], [0, 1, 2, 3], [0, 1, 2, 3, 6, 7], [0, 1, 2, 3, 4, 5, 6, 12, 13, 14, 15], [0, 1, 2, 3, 4, 5, 6, 8, 9, 10], [0, 1, 2, 3], [0, 1, 2, 3, 6, 7], [0, 1, 3, 4, 5, 6, 7, 8, 9], [0, 1, 4], [0, 2, 3, 4], [0, 1, 4], [0, 2], [0, 2], [0, 1, 2, 4, 5, 6], [0, 1, 4, 5], [0, 1, 2, 6, 7, 8, 9, 10], [0, 1, 4, 5, 6, 7, 8, 9], [0, 1, 4, 5, 6, 7, 8], [0, 1, 2], [0, 1, 2, 3, 4], [0, 1, 4, 5, 6], [0, 1, 2, 6], [0, 1, 2, 4, 6, 8], [0, 1, 4, 5, 6], [0, 1, 2, 4, 6, 7, 8, 9], [0, 1, 2, 4, 5, 6, 7], [0, 2, 3, 4], [0, 1, 4, 5], [0, 1, 4], [0, 1, 4], [0, 1, 4, 5, 6, 7], [0, 1, 4], [0, 1, 4], [0, 1, 4, 5, 6], [0, 1, 4], [0, 1, 4, 5], [0, 1, 4, 5], [0, 1, 4], [0, 1, 4], [0, 1, 4, 5, 6], [0, 1, 4, 5], [0, 1, 4], [0, 1, 4, 5], [0, 1, 2, 6], [0, 1], [0, 1, 4], [0, 1, 4], [0, 1, 4, 6, 7], [0, 1, 4, 6], [0, 1, 4, 6, 7, 8], [0, 1, 4, 5, 6, 7, 8], [0, 1, 4, 5, 6, 7, 8], [0, 1, 4], [0, 1, 4, 5, 6, 7], [0, 2], [0, 2, 3, 4, 5], [0, 2], [0, 2], [0, 2], [0, 2], [0, 2], [0, 1, 2], [0, 1, 4, 5, 6, 7, 8, 9, 10, 11, 12, 13], [0, 1, 4, 5, 7, 8], [0, 1, 4, 5, 6, 7, 8, 9, 10, 11, 14, 15, 47, 48, 49], [0, 2], [0, 1, 2, 3, 6, 7], [0, 1, 2, 6, 7], [0, 2, 3, 4, 5, 6, 7, 8, 9, 10], [0, 1, 4, 5, 6, 7], [0, 1, 4, 5, 6, 7, 8], [0, 1, 4], [0, 1, 4, 5, 6, 7, 8], [0, 2], [0, 2, 3, 4], [0, 1, 4, 5], [0, 1, 4], [0, 1, 2], [0, 1, 2, 6, 7, 8], [0, 2], [0, 1, 2, 3, 8], [0, 2], [0], [0, 1, 4], [0], [0, 1, 4, 5, 6, 7, 8, 9, 10, 11, 12, 13, 14, 15, 16], [0, 1, 4, 5, 6], [0, 2], [0, 1, 2, 6], [0, 1], [0, 1], [0], [0, 1, 4], [0], [0, 1], [0, 1, 4], [0, 1, 2, 6], [0, 1, 2, 3, 6, 7], [0, 1, 4, 5, 6], [0, 1, 4, 5, 6], [0, 1, 2, 3, 6, 7, 8, 9, 10, 11], [0, 1, 4], [0, 2, 3], [0, 1, 4], [0, 1, 4], [0], [0, 1, 4], [0, 2], [0, 1, 4], [0, 2, 3, 4], [0], [0, 1, 4, 5], [0, 2, 3, 4], [0, 1], [0, 1, 2, 4], [0, 1, 2, 3, 8], [0], [0, 1], [0, 1, 2, 3, 4, 8, 9, 10], [0, 1, 2, 3, 6, 7], [0, 1], [0, 2], [0, 2, 3, 4, 5], [0, 1, 4], [0, 1, 4], [0, 1, 4, 5], [0], [0], [0, 2], [0, 2], [0, 1, 4, 5, 7, 8, 9], [0, 1, 4], [], [0, 2], [0, 1, 4, 5, 6, 7, 8, 9, 10], [0, 1, 2, 4], [0, 1, 4, 5, 6, 7], [0, 1, 4, 5], [0, 2], [0, 1, 4], [0, 1, 4, 5, 6, 7, 8, 9, 10, 11], [0, 1, 3, 4, 5, 7], [0, 1, 4], [0, 2, 3, 4, 5, 6, 7], [0, 2, 3, 4, 5, 6, 7], [0, 1, 2, 6, 7], [0, 1, 4, 5, 6, 7], [0, 2, 3, 4, 5, 6, 7, 8], [0, 2, 3, 4, 5, 6, 7], [0, 2], [0, 1, 2, 3, 6, 7], [0, 1, 4, 5], [0, 1, 4, 5, 6], [0, 1, 4, 5, 6], [0, 1, 4, 5, 6], [0, 1, 2, 3, 8, 9, 10, 11, 12, 13, 14, 15], [0, 1, 4, 5], [0, 1, 2, 6, 7], [0, 1, 2], [0, 1, 2, 6], [0, 2, 3], [0, 1, 2, 3, 6, 7], [0, 1, 4], [0, 1, 2, 4], [0, 1, 2, 3, 6, 7, 8], [0, 1, 2, 3, 6], [0, 1, 2, 6, 7], [], [0, 2, 3, 4, 5, 6, 7, 8], [0, 1, 4], [0, 2], [0, 1, 4, 5, 6, 7, 8], [0, 2], [0, 2], [0, 2, 3, 4, 5], [0, 1], [0, 2], [0, 1, 4], [0, 1, 4], [0, 1, 4, 5, 6, 7], [], [], [], [], [], [], [], [], [], [], [], [], [], [], [], [], [], [], [], [], [], [], [], [], [], [], []]
@[simp] theorem szT3 : sizeT Tryz.prog 3 = some 1 := rfl
@[simp] theorem agT3 : aggT Tryz.prog 3 = some false := rfl
@[simp] theorem byT3 : bytesT Tryz.prog 3 = some 8 := rfl
@[simp] theorem alT3 (H : Heap) : alV Tryz.prog H 3 = some (.ptr H.n 0, H.new (.cells [.int .i64 0])) := rfl
@[simp] theorem zeT3 : zeroOf Tryz.prog 3 = some (.int .i64 0) := rfl
attribute [simp] Tryz.underlying3
@[simp 500] theorem rvF3 (H : Heap) (cs : List AV) (o : Nat) : readVar Tryz.prog H 3 (.fptr cs o) = getL cs o := rfl
@[simp 500] theorem rvP3 (H : Heap) (b o : Nat) : readVar Tryz.prog H 3 (.ptr b o) = (H.get b).bind fun k => k.rd.bind fun cs => getL cs o := rfl
@[simp] theorem szT4 : sizeT Tryz.prog 4 = some 1 := rfl
@[simp] theorem agT4 : aggT Tryz.prog 4 = some false := rfl
@[simp] theorem byT4 : bytesT Tryz.prog 4 = some 1 := rfl
@[simp] theorem alT4 (H : Heap) : alV Tryz.prog H 4 = some (.ptr H.n 0, H.new (.cells [.bool false])) := rfl
@[simp] theorem zeT4 : zeroOf Tryz.prog 4 = some (.bool false) := rfl
attribute [simp] Tryz.underlying4
@[simp 500] theorem rvF4 (H : Heap) (cs : List AV) (o : Nat) : readVar Tryz.prog H 4 (.fptr cs o) = getL cs o := rfl
@[simp 500] theorem rvP4 (H : Heap) (b o : Nat) : readVar Tryz.prog H 4 (.ptr b o) = (H.get b).bind fun k => k.rd.bind fun cs => getL cs o := rfl
@[simp] theorem beq4 (a b : Bool) : binA Tryz.prog .eql 4 (.bool a) (.bool b) = some (.bool (a == b)) := rfl
@[simp] theorem bne4 (a b : Bool) : binA Tryz.prog .neq 4 (.bool a) (.bool b) = some (.bool !(a == b)) := rfl
@[simp] theorem szT5 : sizeT Tryz.prog 5 = some 1 := rfl
@[simp] theorem agT5 : aggT Tryz.prog 5 = some false := rfl
@[simp] theorem byT5 : bytesT Tryz.prog 5 = some 1 := rfl
@[simp] theorem alT5 (H : Heap) : alV Tryz.prog H 5 = some (.ptr H.n 0, H.new (.cells [.int .u8 0])) := rfl
@[simp] theorem zeT5 : zeroOf Tryz.prog 5 = some (.int .u8 0) := rfl
attribute [simp] Tryz.underlying5
@[simp 500] theorem rvF5 (H : Heap) (cs : List AV) (o : Nat) : readVar Tryz.prog H 5 (.fptr cs o) = getL cs o := rfl
@[simp 500] theorem rvP5 (H : Heap) (b o : Nat) : readVar Tryz.prog H 5 (.ptr b o) = (H.get b).bind fun k => k.rd.bind fun cs => getL cs o := rfl
@[simp] theorem szT9 : sizeT Tryz.prog 9 = some 1 := rfl
@[simp] theorem agT9 : aggT Tryz.prog 9 = some false := rfl
@[simp] theorem byT9 : bytesT Tryz.prog 9 = some 16 := rfl
@[simp] theorem alT9 (H : Heap) : alV Tryz.prog H 9 = some (.ptr H.n 0, H.new (.cells [.str []])) := rfl
@[simp] theorem zeT9 : zeroOf Tryz.prog 9 = some (.str []) := rfl
attribute [simp] Tryz.underlying9
@[simp 500] theorem rvF9 (H : Heap) (cs : List AV) (o : Nat) : readVar Tryz.prog H 9 (.fptr cs o) = getL cs o := rfl
@[simp 500] theorem rvP9 (H : Heap) (b o : Nat) : readVar Tryz.prog H 9 (.ptr b o) = (H.get b).bind fun k => k.rd.bind fun cs => getL cs o := rfl
@[simp] theorem szT22 : sizeT Tryz.prog 22 = some 1 := rfl
@[simp] theorem agT22 : aggT Tryz.prog 22 = some false := rfl
@[simp] theorem byT22 : bytesT Tryz.prog 22 = some 24 := rfl
@[simp] theorem alT22 (H : Heap) : alV Tryz.prog H 22 = some (.ptr H.n 0, H.new (.cells [.nilS])) := rfl
@[simp] theorem zeT22 : zeroOf Tryz.prog 22 = some (.nilS) := rfl
attribute [simp] Tryz.underlying22
@[simp 500] theorem rvF22 (H : Heap) (cs : List AV) (o : Nat) : readVar Tryz.prog H 22 (.fptr cs o) = getL cs o := rfl
@[simp 500] theorem rvP22 (H : Heap) (b o : Nat) : readVar Tryz.prog H 22 (.ptr b o) = (H.get b).bind fun k => k.rd.bind fun cs => getL cs o := rfl
@[simp] theorem slz22 (sz : Nat) (e : AV) (r : List AV) : binA Tryz.prog .eql 22 (.fslc sz (e :: r)) .nilS = some (.bool false) := rfl
@[simp] theorem sln22 (sz : Nat) (e : AV) (r : List AV) : binA Tryz.prog .neq 22 (.fslc sz (e :: r)) .nilS = some (.bool true) := rfl
@[simp] theorem slze22 : binA Tryz.prog .eql 22 .eslc .nilS = some (.bool false) := rfl
@[simp] theorem slzz22 : binA Tryz.prog .eql 22 .nilS .nilS = some (.bool true) := rfl
@[simp] theorem szT24 : sizeT Tryz.prog 24 = some 1 := rfl
@[simp] theorem agT24 : aggT Tryz.prog 24 = some true := rfl
@[simp] theorem byT24 : bytesT Tryz.prog 24 = some 24 := rfl
@[simp] theorem alT24 (H : Heap) : alV Tryz.prog H 24 = some (.ptr H.n 0, H.new (.cells [.nilS])) := rfl
@[simp] theorem zeT24 : zeroOf Tryz.prog 24 = some (.agg [.nilS]) := rfl
attribute [simp] Tryz.underlying24
@[simp 500] theorem rvF24 (H : Heap) (cs : List AV) (o : Nat) : readVar Tryz.prog H 24 (.fptr cs o) = (subL o 1 cs).bind fun cs => some (.agg cs) := rfl
@[simp 500] theorem rvP24 (H : Heap) (b o : Nat) : readVar Tryz.prog H 24 (.ptr b o) = (readCells H b o 1).bind fun cs => some (.agg cs) := rfl
@[simp] theorem fa24_0 (x : AV) : fieldAddrA Tryz.prog 24 x 0 = (match x with | .ptr b o => some (.ptr b (o + 0)) | .fptr cs o => some (.fptr cs (o + 0)) | _ => none) := rfl
@[simp] theorem fd24_0 (cs : List AV) : fieldA Tryz.prog 24 (.agg cs) 0 = getL cs 0 := rfl
@[simp] theorem szT25 : sizeT Tryz.prog 25 = some 1 := rfl
@[simp] theorem agT25 : aggT Tryz.prog 25 = some false := rfl
@[simp] theorem byT25 : bytesT Tryz.prog 25 = some 24 := rfl
@[simp] theorem alT25 (H : Heap) : alV Tryz.prog H 25 = some (.ptr H.n 0, H.new (.cells [.nilS])) := rfl
@[simp] theorem zeT25 : zeroOf Tryz.prog 25 = some (.nilS) := rfl
attribute [simp] Tryz.underlying25
@[simp 500] theorem rvF25 (H : Heap) (cs : List AV) (o : Nat) : readVar Tryz.prog H 25 (.fptr cs o) = getL cs o := rfl
@[simp 500] theorem rvP25 (H : Heap) (b o : Nat) : readVar Tryz.prog H 25 (.ptr b o) = (H.get b).bind fun k => k.rd.bind fun cs => getL cs o := rfl
@[simp] theorem slz25 (sz : Nat) (e : AV) (r : List AV) : binA Tryz.prog .eql 25 (.fslc sz (e :: r)) .nilS = some (.bool false) := rfl
@[simp] theorem sln25 (sz : Nat) (e : AV) (r : List AV) : binA Tryz.prog .neq 25 (.fslc sz (e :: r)) .nilS = some (.bool true) := rfl
@[simp] theorem slze25 : binA Tryz.prog .eql 25 .eslc .nilS = some (.bool false) := rfl
@[simp] theorem slzz25 : binA Tryz.prog .eql 25 .nilS .nilS = some (.bool true) := rfl
@[simp] theorem szT35 : sizeT Tryz.prog 35 = some 1 := rfl
@[simp] theorem agT35 : aggT Tryz.prog 35 = some false := rfl
@[simp] theorem byT35 : bytesT Tryz.prog 35 = some 24 := rfl
@[simp] theorem alT35 (H : Heap) : alV Tryz.prog H 35 = some (.ptr H.n 0, H.new (.cells [.nilS])) := rfl
@[simp] theorem zeT35 : zeroOf Tryz.prog 35 = some (.nilS) := rfl
attribute [simp] Tryz.underlying35
@[simp 500] theorem rvF35 (H : Heap) (cs : List AV) (o : Nat) : readVar Tryz.prog H 35 (.fptr cs o) = getL cs o := rfl
@[simp 500] theorem rvP35 (H : Heap) (b o : Nat) : readVar Tryz.prog H 35 (.ptr b o) = (H.get b).bind fun k => k.rd.bind fun cs => getL cs o := rfl
@[simp] theorem slz35 (sz : Nat) (e : AV) (r : List AV) : binA Tryz.prog .eql 35 (.fslc sz (e :: r)) .nilS = some (.bool false) := rfl
@[simp] theorem sln35 (sz : Nat) (e : AV) (r : List AV) : binA Tryz.prog .neq 35 (.fslc sz (e :: r)) .nilS = some (.bool true) := rfl
@[simp] theorem slze35 : binA Tryz.prog .eql 35 .eslc .nilS = some (.bool false) := rfl
@[simp] theorem slzz35 : binA Tryz.prog .eql 35 .nilS .nilS = some (.bool true) := rfl
@[simp] theorem szT37 : sizeT Tryz.prog 37 = some 7 := rfl
@[simp] theorem agT37 : aggT Tryz.prog 37 = some true := rfl
@[simp] theorem byT37 : bytesT Tryz.prog 37 = some 104 := rfl
@[simp] theorem alT37 (H : Heap) : alV Tryz.prog H 37 = some (.ptr H.n 0, H.new (.cells [.int .i64 0, .int .i64 0, .str [], .nilS, .str [], .int .i64 0, .nilS])) := rfl
@[simp] theorem zeT37 : zeroOf Tryz.prog 37 = some (.agg [.int .i64 0, .int .i64 0, .str [], .nilS, .str [], .int .i64 0, .nilS]) := rfl
attribute [simp] Tryz.underlying37
@[simp 500] theorem rvF37 (H : Heap) (cs : List AV) (o : Nat) : readVar Tryz.prog H 37 (.fptr cs o) = (subL o 7 cs).bind fun cs => some (.agg cs) := rfl
@[simp 500] theorem rvP37 (H : Heap) (b o : Nat) : readVar Tryz.prog H 37 (.ptr b o) = (readCells H b o 7).bind fun cs => some (.agg cs) := rfl
@[simp] theorem fa37_0 (x : AV) : fieldAddrA Tryz.prog 37 x 0 = (match x with | .ptr b o => some (.ptr b (o + 0)) | .fptr cs o => some (.fptr cs (o + 0)) | _ => none) := rfl
@[simp] theorem fd37_0 (cs : List AV) : fieldA Tryz.prog 37 (.agg cs) 0 = getL cs 0 := rfl
@[simp] theorem fa37_1 (x : AV) : fieldAddrA Tryz.prog 37 x 1 = (match x with | .ptr b o => some (.ptr b (o + 1)) | .fptr cs o => some (.fptr cs (o + 1)) | _ => none) := rfl
@[simp] theorem fd37_1 (cs : List AV) : fieldA Tryz.prog 37 (.agg cs) 1 = getL cs 1 := rfl
@[simp] theorem fa37_2 (x : AV) : fieldAddrA Tryz.prog 37 x 2 = (match x with | .ptr b o => some (.ptr b (o + 2)) | .fptr cs o => some (.fptr cs (o + 2)) | _ => none) := rfl
@[simp] theorem fd37_2 (cs : List AV) : fieldA Tryz.prog 37 (.agg cs) 2 = getL cs 2 := rfl
@[simp] theorem fa37_3 (x : AV) : fieldAddrA Tryz.prog 37 x 3 = (match x with | .ptr b o => some (.ptr b (o + 3)) | .fptr cs o => some (.fptr cs (o + 3)) | _ => none) := rfl
@[simp] theorem fd37_3 (cs : List AV) : fieldA Tryz.prog 37 (.agg cs) 3 = getL cs 3 := rfl
@[simp] theorem fa37_4 (x : AV) : fieldAddrA Tryz.prog 37 x 4 = (match x with | .ptr b o => some (.ptr b (o + 4)) | .fptr cs o => some (.fptr cs (o + 4)) | _ => none) := rfl
@[simp] theorem fd37_4 (cs : List AV) : fieldA Tryz.prog 37 (.agg cs) 4 = getL cs 4 := rfl
@[simp] theorem fa37_5 (x : AV) : fieldAddrA Tryz.prog 37 x 5 = (match x with | .ptr b o => some (.ptr b (o + 5)) | .fptr cs o => some (.fptr cs (o + 5)) | _ => none) := rfl
@[simp] theorem fd37_5 (cs : List AV) : fieldA Tryz.prog 37 (.agg cs) 5 = getL cs 5 := rfl
@[simp] theorem fa37_6 (x : AV) : fieldAddrA Tryz.prog 37 x 6 = (match x with | .ptr b o => some (.ptr b (o + 6)) | .fptr cs o => some (.fptr cs (o + 6)) | _ => none) := rfl
@[simp] theorem fd37_6 (cs : List AV) : fieldA Tryz.prog 37 (.agg cs) 6 = getL cs 6 := rfl
@[simp] theorem szT39 : sizeT Tryz.prog 39 = some 2 := rfl
@[simp] theorem agT39 : aggT Tryz.prog 39 = some true := rfl
@[simp] theorem byT39 : bytesT Tryz.prog 39 = some 32 := rfl
@[simp] theorem alT39 (H : Heap) : alV Tryz.prog H 39 = some (.ptr H.n 0, H.new (.cells [.str [], .str []])) := rfl
@[simp] theorem zeT39 : zeroOf Tryz.prog 39 = some (.agg [.str [], .str []]) := rfl
attribute [simp] Tryz.underlying39
@[simp 500] theorem rvF39 (H : Heap) (cs : List AV) (o : Nat) : readVar Tryz.prog H 39 (.fptr cs o) = (subL o 2 cs).bind fun cs => some (.agg cs) := rfl
@[simp 500] theorem rvP39 (H : Heap) (b o : Nat) : readVar Tryz.prog H 39 (.ptr b o) = (readCells H b o 2).bind fun cs => some (.agg cs) := rfl
@[simp] theorem fa39_0 (x : AV) : fieldAddrA Tryz.prog 39 x 0 = (match x with | .ptr b o => some (.ptr b (o + 0)) | .fptr cs o => some (.fptr cs (o + 0)) | _ => none) := rfl
@[simp] theorem fd39_0 (cs : List AV) : fieldA Tryz.prog 39 (.agg cs) 0 = getL cs 0 := rfl
@[simp] theorem fa39_1 (x : AV) : fieldAddrA Tryz.prog 39 x 1 = (match x with | .ptr b o => some (.ptr b (o + 1)) | .fptr cs o => some (.fptr cs (o + 1)) | _ => none) := rfl
@[simp] theorem fd39_1 (cs : List AV) : fieldA Tryz.prog 39 (.agg cs) 1 = getL cs 1 := rfl
@[simp] theorem szT43 : sizeT Tryz.prog 43 = some 1 := rfl
@[simp] theorem agT43 : aggT Tryz.prog 43 = some false := rfl
@[simp] theorem byT43 : bytesT Tryz.prog 43 = some 24 := rfl
@[simp] theorem alT43 (H : Heap) : alV Tryz.prog H 43 = some (.ptr H.n 0, H.new (.cells [.nilS])) := rfl
@[simp] theorem zeT43 : zeroOf Tryz.prog 43 = some (.nilS) := rfl
attribute [simp] Tryz.underlying43
@[simp 500] theorem rvF43 (H : Heap) (cs : List AV) (o : Nat) : readVar Tryz.prog H 43 (.fptr cs o) = getL cs o := rfl
@[simp 500] theorem rvP43 (H : Heap) (b o : Nat) : readVar Tryz.prog H 43 (.ptr b o) = (H.get b).bind fun k => k.rd.bind fun cs => getL cs o := rfl
@[simp] theorem slz43 (sz : Nat) (e : AV) (r : List AV) : binA Tryz.prog .eql 43 (.fslc sz (e :: r)) .nilS = some (.bool false) := rfl
@[simp] theorem sln43 (sz : Nat) (e : AV) (r : List AV) : binA Tryz.prog .neq 43 (.fslc sz (e :: r)) .nilS = some (.bool true) := rfl
@[simp] theorem slze43 : binA Tryz.prog .eql 43 .eslc .nilS = some (.bool false) := rfl
@[simp] theorem slzz43 : binA Tryz.prog .eql 43 .nilS .nilS = some (.bool true) := rfl
@[simp] theorem szT100 : sizeT Tryz.prog 100 = some 1 := rfl
@[simp] theorem agT100 : aggT Tryz.prog 100 = some false := rfl
@[simp] theorem byT100 : bytesT Tryz.prog 100 = some 24 := rfl
@[simp] theorem alT100 (H : Heap) : alV Tryz.prog H 100 = some (.ptr H.n 0, H.new (.cells [.nilS])) := rfl
@[simp] theorem zeT100 : zeroOf Tryz.prog 100 = some (.nilS) := rfl
attribute [simp] Tryz.underlying100
@[simp 500] theorem rvF100 (H : Heap) (cs : List AV) (o : Nat) : readVar Tryz.prog H 100 (.fptr cs o) = getL cs o := rfl
@[simp 500] theorem rvP100 (H : Heap) (b o : Nat) : readVar Tryz.prog H 100 (.ptr b o) = (H.get b).bind fun k => k.rd.bind fun cs => getL cs o := rfl
@[simp] theorem slz100 (sz : Nat) (e : AV) (r : List AV) : binA Tryz.prog .eql 100 (.fslc sz (e :: r)) .nilS = some (.bool false) := rfl
@[simp] theorem sln100 (sz : Nat) (e : AV) (r : List AV) : binA Tryz.prog .neq 100 (.fslc sz (e :: r)) .nilS = some (.bool true) := rfl
@[simp] theorem slze100 : binA Tryz.prog .eql 100 .eslc .nilS = some (.bool false) := rfl
@[simp] theorem slzz100 : binA Tryz.prog .eql 100 .nilS .nilS = some (.bool true) := rfl
@[simp] theorem szT120 : sizeT Tryz.prog 120 = some 1 := rfl
@[simp] theorem agT120 : aggT Tryz.prog 120 = some false := rfl
@[simp] theorem byT120 : bytesT Tryz.prog 120 = some 8 := rfl
attribute [simp] Tryz.underlying120
@[simp 500] theorem rvF120 (H : Heap) (cs : List AV) (o : Nat) : readVar Tryz.prog H 120 (.fptr cs o) = getL cs o := rfl
@[simp 500] theorem rvP120 (H : Heap) (b o : Nat) : readVar Tryz.prog H 120 (.ptr b o) = (H.get b).bind fun k => k.rd.bind fun cs => getL cs o := rfl
@[simp] theorem szT122 : sizeT Tryz.prog 122 = some 4 := rfl
@[simp] theorem agT122 : aggT Tryz.prog 122 = some true := rfl
@[simp] theorem byT122 : bytesT Tryz.prog 122 = some 32 := rfl
attribute [simp] Tryz.underlying122
@[simp 500] theorem rvF122 (H : Heap) (cs : List AV) (o : Nat) : readVar Tryz.prog H 122 (.fptr cs o) = (subL o 4 cs).bind fun cs => some (.agg cs) := rfl
@[simp 500] theorem rvP122 (H : Heap) (b o : Nat) : readVar Tryz.prog H 122 (.ptr b o) = (readCells H b o 4).bind fun cs => some (.agg cs) := rfl
@[simp] theorem fa122_0 (x : AV) : fieldAddrA Tryz.prog 122 x 0 = (match x with | .ptr b o => some (.ptr b (o + 0)) | .fptr cs o => some (.fptr cs (o + 0)) | _ => none) := rfl
@[simp] theorem fd122_0 (cs : List AV) : fieldA Tryz.prog 122 (.agg cs) 0 = getL cs 0 := rfl
@[simp] theorem fa122_1 (x : AV) : fieldAddrA Tryz.prog 122 x 1 = (match x with | .ptr b o => some (.ptr b (o + 1)) | .fptr cs o => some (.fptr cs (o + 1)) | _ => none) := rfl
@[simp] theorem fd122_1 (cs : List AV) : fieldA Tryz.prog 122 (.agg cs) 1 = getL cs 1 := rfl
@[simp] theorem fa122_2 (x : AV) : fieldAddrA Tryz.prog 122 x 2 = (match x with | .ptr b o => some (.ptr b (o + 2)) | .fptr cs o => some (.fptr cs (o + 2)) | _ => none) := rfl
@[simp] theorem fd122_2 (cs : List AV) : fieldA Tryz.prog 122 (.agg cs) 2 = getL cs 2 := rfl
@[simp] theorem fa122_3 (x : AV) : fieldAddrA Tryz.prog 122 x 3 = (match x with | .ptr b o => some (.ptr b (o + 3)) | .fptr cs o => some (.fptr cs (o + 3)) | _ => none) := rfl
@[simp] theorem fd122_3 (cs : List AV) : fieldA Tryz.prog 122 (.agg cs) 3 = getL cs 3 := rfl
@[simp] theorem szT155 : sizeT Tryz.prog 155 = some 2 := rfl
@[simp] theorem agT155 : aggT Tryz.prog 155 = some true := rfl
@[simp] theorem byT155 : bytesT Tryz.prog 155 = some 16 := rfl
@[simp] theorem alT155 (H : Heap) : alV Tryz.prog H 155 = some (.ptr H.n 0, H.new (.cells [.int .i64 0, .int .i64 0])) := rfl
@[simp] theorem zeT155 : zeroOf Tryz.prog 155 = some (.agg [.int .i64 0, .int .i64 0]) := rfl
attribute [simp] Tryz.underlying155
@[simp 500] theorem rvF155 (H : Heap) (cs : List AV) (o : Nat) : readVar Tryz.prog H 155 (.fptr cs o) = (subL o 2 cs).bind fun cs => some (.agg cs) := rfl
@[simp 500] theorem rvP155 (H : Heap) (b o : Nat) : readVar Tryz.prog H 155 (.ptr b o) = (readCells H b o 2).bind fun cs => some (.agg cs) := rfl
@[simp] theorem fa155_0 (x : AV) : fieldAddrA Tryz.prog 155 x 0 = (match x with | .ptr b o => some (.ptr b (o + 0)) | .fptr cs o => some (.fptr cs (o + 0)) | _ => none) := rfl
@[simp] theorem fd155_0 (cs : List AV) : fieldA Tryz.prog 155 (.agg cs) 0 = getL cs 0 := rfl
@[simp] theorem fa155_1 (x : AV) : fieldAddrA Tryz.prog 155 x 1 = (match x with | .ptr b o => some (.ptr b (o + 1)) | .fptr cs o => some (.fptr cs (o + 1)) | _ => none) := rfl
@[simp] theorem fd155_1 (cs : List AV) : fieldA Tryz.prog 155 (.agg cs) 1 = getL cs 1 := rfl
@[simp] theorem szT156 : sizeT Tryz.prog 156 = some 1 := rfl
@[simp] theorem agT156 : aggT Tryz.prog 156 = some false := rfl
@[simp] theorem byT156 : bytesT Tryz.prog 156 = some 24 := rfl
@[simp] theorem alT156 (H : Heap) : alV Tryz.prog H 156 = some (.ptr H.n 0, H.new (.cells [.nilS])) := rfl
@[simp] theorem zeT156 : zeroOf Tryz.prog 156 = some (.nilS) := rfl
attribute [simp] Tryz.underlying156
@[simp 500] theorem rvF156 (H : Heap) (cs : List AV) (o : Nat) : readVar Tryz.prog H 156 (.fptr cs o) = getL cs o := rfl
@[simp 500] theorem rvP156 (H : Heap) (b o : Nat) : readVar Tryz.prog H 156 (.ptr b o) = (H.get b).bind fun k => k.rd.bind fun cs => getL cs o := rfl
@[simp] theorem slz156 (sz : Nat) (e : AV) (r : List AV) : binA Tryz.prog .eql 156 (.fslc sz (e :: r)) .nilS = some (.bool false) := rfl
@[simp] theorem sln156 (sz : Nat) (e : AV) (r : List AV) : binA Tryz.prog .neq 156 (.fslc sz (e :: r)) .nilS = some (.bool true) := rfl
@[simp] theorem slze156 : binA Tryz.prog .eql 156 .eslc .nilS = some (.bool false) := rfl
@[simp] theorem slzz156 : binA Tryz.prog .eql 156 .nilS .nilS = some (.bool true) := rfl
attribute [simp] opndO_s
noncomputable def ctx (T : List (Entry Tryz.prog)) : Ctx := mkC Tryz.prog (fun f => (getL keepTbl f).getD []) T
@[simp] theorem mkC_P (T : List (Entry Tryz.prog)) : (ctx T).P = Tryz.prog := rfl
theorem mixed : Tryz.prog.follows .mixedOrders = true := by decide +kernel
theorem callOK {T : List (Entry Tryz.prog)} : CallOK (ctx T) (callL (ctx T)) := mkC_call _ _ T mixed
theorem callOKF {T : List (Entry Tryz.prog)} (l : List (Fact (ctx T))) : CallOK (ctx T) (callF l (callL (ctx T))) := callF_ok callOK l
abbrev Str := List UInt8
@[simp] theorem lenStr (H : Heap) (s : Str) : lenA Tryz.prog H 9 (.str s) = some s.length := by simp [lenA]
theorem ixStr {s : Str} {i : Nat} (h : i < s.length) : indexA Tryz.prog 9 (.str s) (.int .i64 (i : Int)) = some (.int .u8 (s[i]'h).toNat) := by
  simp [indexA, idx_nat h, getL_get h]
theorem slStr {H : Heap} {s : Str} {i : Nat} (h : i ≤ s.length) : sliceA Tryz.prog H 9 (.str s) (some (.int .i64 (i : Int))) none none = some (.str (s.drop i)) := by
  simp [sliceA, hiOK, bound, idx_nat (Nat.lt_succ_of_le h)]
theorem slStrTo {H : Heap} {s : Str} {j : Nat} (h : j ≤ s.length) : sliceA Tryz.prog H 9 (.str s) none (some (.int .i64 (j : Int))) none = some (.str (s.take j)) := by
  simp [sliceA, hiOK, bound, idx_nat (Nat.lt_succ_of_le h)]
theorem slStrOf {H : Heap} {s : Str} {i j : Nat} (hj : j ≤ s.length) (hi : i ≤ j) : sliceA Tryz.prog H 9 (.str s) (some (.int .i64 (i : Int))) (some (.int .i64 (j : Int))) none = some (.str ((s.take j).drop i)) := by
  simp [sliceA, hiOK, bound, idx_nat (Nat.lt_succ_of_le hj), idx_nat (Nat.lt_succ_of_le hi)]
theorem sl1 {s : Str} {i : Nat} (h : i < s.length) : (s.take (i + 1)).drop i = [s[i]] := by
  rw [List.take_succ_eq_append_getElem h, List.drop_append_of_le_length (by simp; omega), List.drop_of_length_le (by simp; omega), List.nil_append]
theorem slStr1 {H : Heap} {s : Str} {i : Nat} (h : i < s.length) : sliceA Tryz.prog H 9 (.str s) (some (.int .i64 (i : Int))) (some (.int .i64 ((i : Int) + 1))) none = some (.str [s[i]]) := by
  have := slStrOf (H := H) (s := s) (i := i) (j := i + 1) (by omega) (by omega)
  rw [sl1 h] at this
  simpa using this
theorem catStr {x y : Str} (h : x.length + y.length ≤ 1000000000000) : binA Tryz.prog .add 9 (.str x) (.str y) = some (.str (x ++ y)) := by
  simp [binA, strOp]; omega
@[simp] theorem eqStr (x y : Str) : binA Tryz.prog .eql 9 (.str x) (.str y) = some (.bool (decide (x = y))) := by simp [binA, strOp, eqB_eq]
@[simp] theorem neStr (x y : Str) : binA Tryz.prog .neq 9 (.str x) (.str y) = some (.bool !(decide (x = y))) := by simp [binA, strOp, eqB_eq]

/-! ### Lists of texts -/
abbrev aStrs (L : List Str) : AV := .fslc 1 (L.map .str)
theorem el_str (L : List Str) : Elems 1 (L.map AV.str) := .map (sz := 1) (f := AV.str) (by decide) (fun x => ⟨rfl, rfl, fun _ => rfl, fun h => absurd rfl h⟩) L
theorem single_str : ∀ (L : List Str), allSingle (flatAV (L.map AV.str)) = true
  | [] => rfl
  | a :: r => by simp only [List.map_cons, flatAV, allSingle_append, single_str r]; rfl
theorem atS {L : List Str} {i : Nat} (h : i < L.length) : indexAddrA Tryz.prog 43 (aStrs L) (.int .i64 (i : Int)) = some (.fptr [.str L[i]] 0) := by
  simp [indexAddrA, aStrs, idx_nat h, getL_map h, AV.cells]
theorem lenS {H : Heap} {L : List Str} : lenA Tryz.prog H 43 (aStrs L) = some L.length := by simp [lenA, aStrs]
theorem inj_str (x y : Str) (h : [AV.str x] = [AV.str y]) : x = y := by simp at h; exact h
theorem inj_str2 (x y : Str × Str) (h : [AV.str x.1, AV.str x.2] = [AV.str y.1, AV.str y.2]) : x = y := by
  simp at h; exact Prod.ext h.1 h.2
theorem inj_strs {L M : List Str} (h : aStrs L = aStrs M) : L = M := by
  simp only [aStrs, AV.fslc.injEq, true_and] at h
  exact List.map_inj_right (fun _ _ h => by simpa using h) |>.1 h
theorem inj_u8 (x y : UInt8) (h : [AV.int .u8 (x.toNat : Int)] = [AV.int .u8 (y.toNat : Int)]) : x = y := by
  simp only [List.cons.injEq, AV.int.injEq, true_and, and_true] at h
  exact UInt8.toNat_inj.1 (by omega)

/-! ### Words, by the reference -/
/-- a blank -/
def sp (c : UInt8) : Bool := decide ((c.toNat : Int) = 9) || (decide ((c.toNat : Int) = 10) || (decide ((c.toNat : Int) = 12) || (decide ((c.toNat : Int) = 13) || decide ((c.toNat : Int) = 32))))
theorem c131 {T : List (Entry Tryz.prog)} (c : UInt8) : CallAt (ctx T) 131 [.int .u8 c.toNat] ⟨0, []⟩ (.bool (sp c)) ⟨0, []⟩ := by
  refine callAt_body (fn := Tryz.f131) (s0 := ⟨[0, 2], [.int .u8 c.toNat, .undef], [], 21, ⟨0, [[]]⟩⟩) Tryz.func131 rfl rfl rfl ?_
  repeat refine wps_seq ?_
  refine wps_region callOK ?_
  simp [ofV, ofV1, mkC_P, writeVar, writeCells, readCells, allSingle, AV.single, getFs, getF, setFs, setF, Heap.get, Heap.set, Heap.new, Heap.kill, killF, pushF, Heap.ready, refs, sliceParts, fillA, replL]
  by_cases h1 : (c.toNat : Int) = 9 <;> by_cases h2 : (c.toNat : Int) = 10 <;> by_cases h3 : (c.toNat : Int) = 12 <;> by_cases h4 : (c.toNat : Int) = 13 <;> by_cases h5 : (c.toNat : Int) = 32
  all_goals first
    | (exfalso; omega)
    | (repeat refine wps_seq ?_
       repeat refine wps_seq ?_
       refine wps_region callOK ?_
       simp [ofV, ofV1, mkC_P, writeVar, writeCells, readCells, allSingle, AV.single, getFs, getF, setFs, setF, Heap.get, Heap.set, Heap.new, Heap.kill, killF, pushF, Heap.ready, refs, sliceParts, fillA, replL, h1, h2, h3, h4, h5]
       repeat refine wps_seq ?_
       repeat refine wps_seq ?_
       refine wps_ret ?_
       simp [retVal, Tryz.f131, oneOr]
       exact ends_pure rfl (by simp [sp, h1, h2, h3, h4, h5]))
noncomputable def e131 : Entry Tryz.prog := mkE 131 [[]] (fun x : UInt8 => [.int .u8 x.toNat]) (fun _ => True) (fun x => .bool (sp x)) fun x _ => c131 (T := []) x
theorem k131 {T : List (Entry Tryz.prog)} (hT : findE 131 T = some e131.g) (c : UInt8) (H : Heap) : callL (ctx T) (.fn 131) [.int .u8 c.toNat] H = some (.bool (sp c), H) :=
  mkE_scalar hT inj_u8 c trivial rfl (by simp)
/-- the words so far, the word that is being read -/
def wstep (st : List Str × Str) (c : UInt8) : List Str × Str := if sp c = true then (if st.2 = [] then st.1 else st.1 ++ [st.2], []) else (st.1, st.2 ++ [c])
def wst (s : Str) : List Str × Str := s.foldl wstep ([], [])
def wfin (st : List Str × Str) : List Str := if st.2 = [] then st.1 else st.1 ++ [st.2]
def wsplit (s : Str) : List Str := wfin (wst s)
theorem wst_at {s : Str} {i : Nat} (h : i < s.length) : wst (s.take (i + 1)) = wstep (wst (s.take i)) s[i] := by
  rw [List.take_succ_eq_append_getElem h]
  simp only [wst, List.foldl_append, List.foldl_cons, List.foldl_nil]
theorem wst_len (s : Str) : (wst s).2.length ≤ s.length ∧ (wst s).1.length ≤ s.length := by
  have key : ∀ (s : Str) (st : List Str × Str), (s.foldl wstep st).2.length ≤ st.2.length + s.length ∧ (s.foldl wstep st).1.length ≤ st.1.length + s.length := by
    intro s
    induction s with
    | nil => intro st; simp
    | cons c r ih =>
      intro st
      have := ih (wstep st c)
      simp only [List.foldl_cons, List.length_cons]
      have h1 : (wstep st c).2.length ≤ st.2.length + 1 ∧ (wstep st c).1.length ≤ st.1.length + 1 := by
        unfold wstep
        split
        · split <;> simp
        · simp
      omega
  have := key s ([], [])
  simp only [wst]
  simp at this
  exact this
theorem c95 {T : List (Entry Tryz.prog)} (hS : findE 131 T = some e131.g) (s : Str) (hl : s.length ≤ 1000000) : CallAt (ctx T) 95 [.str s] ⟨0, []⟩ (ownV 0 1 ((wsplit s).map .str)) ⟨1, [ownF 0 ((wsplit s).map .str)]⟩ := by
  refine callAt_body (fn := Tryz.f95) (s0 := ⟨[0, 2, 3, 4, 5], [.str s, .undef, .undef, .undef, .undef], [], 37, ⟨0, [[]]⟩⟩) Tryz.func95 rfl rfl rfl ?_
  repeat refine wps_seq ?_
  refine wps_region callOK ?_
  simp [ofV, ofV1, mkC_P, writeVar, writeCells, readCells, allSingle, AV.single, getFs, getF, setFs, setF, Heap.get, Heap.set, Heap.new, Heap.kill, killF, pushF, Heap.ready, refs, sliceParts, fillA, replL]
  repeat refine wps_seq ?_
  refine wps_region callOK ?_
  simp [ofV, ofV1, mkC_P, writeVar, writeCells, readCells, allSingle, AV.single, getFs, getF, setFs, setF, Heap.get, Heap.set, Heap.new, Heap.kill, killF, pushF, Heap.ready, refs, sliceParts, fillA, replL]
  repeat refine wps_seq ?_
  refine wps_region callOK ?_
  simp [ofV, ofV1, mkC_P, writeVar, writeCells, readCells, allSingle, AV.single, getFs, getF, setFs, setF, Heap.get, Heap.set, Heap.new, Heap.kill, killF, pushF, Heap.ready, refs, sliceParts, fillA, replL]
  repeat refine wps_seq ?_
  refine wps_region callOK ?_
  simp [ofV, ofV1, mkC_P, writeVar, writeCells, readCells, allSingle, AV.single, getFs, getF, setFs, setF, Heap.get, Heap.set, Heap.new, Heap.kill, killF, pushF, Heap.ready, refs, sliceParts, fillA, replL]
  repeat refine wps_seq ?_
  refine wps_block (wps_loop' (fun i : Nat => (⟨[0, 2, 3, 4, 5], [.str s, .undef, ownV 0 1 ((wst (s.take i)).1.map .str), .str (wst (s.take i)).2, .int .i64 i], [], 37, ⟨1, [ownF 0 ((wst (s.take i)).1.map .str)]⟩⟩ : St))
    (fun i => i ≤ s.length) (fun i => s.length - i) [] [] 0 (Nat.zero_le _)
    ⟨rfl, rfl, rfl, by simp [fitL, fitV, pureV, wst, ownV], .keep0 (by simp [wst, ownF])⟩ ?_)
  rintro i hi B hB
  have hlen := wst_len (s.take i)
  simp only [List.length_take] at hlen
  have same : ∀ (L : List Str), FitH 0 [(0, 0)] [] ⟨1, [ownF 0 (L.map AV.str)]⟩ ⟨1, [ownF 0 (L.map AV.str)]⟩ := fun L => by
    refine .same (by simp) (by simp) (by simp) (by simp) ?_ ?_
    · cases L.map AV.str <;> simp [Heap.ents, ownF]
    · cases he : L.map AV.str with
      | nil => intro e he; simp [Heap.ents, ownF] at he
      | cons x r =>
        intro e hx
        simp [Heap.ents, ownF] at hx
        subst hx
        exact ⟨by simp, by simp [ownF, Heap.get, getFs, getF], fitL_pure (by rw [← he]; exact (el_str _).pure)⟩
  repeat refine wps_seq ?_
  refine wps_region callOK ?_
  simp [ofV, ofV1, mkC_P, writeVar, writeCells, readCells, allSingle, AV.single, getFs, getF, setFs, setF, Heap.get, Heap.set, Heap.new, Heap.kill, killF, pushF, Heap.ready, refs, sliceParts, fillA, replL]
  repeat refine wps_seq ?_
  refine wps_cond rfl (fun h => ?_) fun h => ?_
  · simp at h
    repeat refine wps_seq ?_
    refine wps_skip ?_
    simp
    repeat refine wps_seq ?_
    refine wps_block ?_
    have hstep := wst_at h
    cases hsp : sp s[i] with
    | false =>
      have hn : wst (s.take (i + 1)) = ((wst (s.take i)).1, (wst (s.take i)).2 ++ [s[i]]) := by rw [hstep]; simp [wstep, hsp]
      repeat refine wps_seq ?_
      refine wps_region callOK ?_
      simp [ofV, ofV1, mkC_P, writeVar, writeCells, readCells, allSingle, AV.single, getFs, getF, setFs, setF, Heap.get, Heap.set, Heap.new, Heap.kill, killF, pushF, Heap.ready, refs, sliceParts, fillA, replL, ixStr h, k131 hS, hsp]
      repeat refine wps_seq ?_
      refine wps_cond (t := true) rfl (fun _ => ?_) fun h => by cases h
      repeat refine wps_seq ?_
      refine wps_region callOK ?_
      simp [ofV, ofV1, mkC_P, writeVar, writeCells, readCells, allSingle, AV.single, getFs, getF, setFs, setF, Heap.get, Heap.set, Heap.new, Heap.kill, killF, pushF, Heap.ready, refs, sliceParts, fillA, replL, add_one (show i ≤ 1000000000 by omega), slStr1 h, catStr (show (wst (s.take i)).2.length + [s[i]].length ≤ 1000000000000 by simp; omega)]
      repeat refine wps_seq ?_
      refine wps_exit ?_
      simp
      repeat refine wps_seq ?_
      refine wps_region callOK ?_
      simp [ofV, ofV1, mkC_P, writeVar, writeCells, readCells, allSingle, AV.single, getFs, getF, setFs, setF, Heap.get, Heap.set, Heap.new, Heap.kill, killF, pushF, Heap.ready, refs, sliceParts, fillA, replL, add_one (show i ≤ 1000000000 by omega)]
      exact hB _ (i + 1) (by omega) (by omega) ⟨[(0, 0)], [], rfl, rfl, rfl, by rw [hn]; simp [fitL, fitV, lookN, fitV_own, pureV], by rw [hn]; exact same _⟩
    | true =>
      repeat refine wps_seq ?_
      refine wps_region callOK ?_
      simp [ofV, ofV1, mkC_P, writeVar, writeCells, readCells, allSingle, AV.single, getFs, getF, setFs, setF, Heap.get, Heap.set, Heap.new, Heap.kill, killF, pushF, Heap.ready, refs, sliceParts, fillA, replL, ixStr h, k131 hS, hsp]
      repeat refine wps_seq ?_
      refine wps_cond (t := false) rfl (fun h => by cases h) fun _ => ?_
      repeat refine wps_seq ?_
      refine wps_skip ?_
      simp
      by_cases hc : (wst (s.take i)).2 = []
      · have hn : wst (s.take (i + 1)) = ((wst (s.take i)).1, []) := by rw [hstep]; simp [wstep, hsp, hc]
        repeat refine wps_seq ?_
        refine wps_region callOK ?_
        simp [ofV, ofV1, mkC_P, writeVar, writeCells, readCells, allSingle, AV.single, getFs, getF, setFs, setF, Heap.get, Heap.set, Heap.new, Heap.kill, killF, pushF, Heap.ready, refs, sliceParts, fillA, replL, hc]
        repeat refine wps_seq ?_
        refine wps_cond (t := false) rfl (fun h => by cases h) fun _ => ?_
        repeat refine wps_seq ?_
        refine wps_skip ?_
        simp
        repeat refine wps_seq ?_
        refine wps_region callOK ?_
        simp [ofV, ofV1, mkC_P, writeVar, writeCells, readCells, allSingle, AV.single, getFs, getF, setFs, setF, Heap.get, Heap.set, Heap.new, Heap.kill, killF, pushF, Heap.ready, refs, sliceParts, fillA, replL]
        repeat refine wps_seq ?_
        refine wps_region callOK ?_
        simp [ofV, ofV1, mkC_P, writeVar, writeCells, readCells, allSingle, AV.single, getFs, getF, setFs, setF, Heap.get, Heap.set, Heap.new, Heap.kill, killF, pushF, Heap.ready, refs, sliceParts, fillA, replL, add_one (show i ≤ 1000000000 by omega)]
        exact hB _ (i + 1) (by omega) (by omega) ⟨[(0, 0)], [], rfl, rfl, rfl, by rw [hn]; simp [fitL, fitV, lookN, fitV_own, pureV], by rw [hn]; exact same _⟩
      · have hn : wst (s.take (i + 1)) = ((wst (s.take i)).1 ++ [(wst (s.take i)).2], []) := by rw [hstep]; simp [wstep, hsp, hc]
        have happ := own_app1 (P := Tryz.prog) (elem := 9) (b := 0) (t := 1) (m := 2) (es := (wst (s.take i)).1.map .str) (cs := [.str (wst (s.take i)).2]) (g := []) (fs := []) szT9 byT9 zeT9 rfl (by omega) (by omega) rfl rfl (el_str _) (by simp; omega) (by omega) (by simp) (by simp)
        rw [List.append_nil] at happ
        repeat refine wps_seq ?_
        refine wps_region callOK ?_
        simp [ofV, ofV1, mkC_P, writeVar, writeCells, readCells, allSingle, AV.single, getFs, getF, setFs, setF, Heap.get, Heap.set, Heap.new, Heap.kill, killF, pushF, Heap.ready, refs, sliceParts, fillA, replL, hc]
        repeat refine wps_seq ?_
        refine wps_cond (t := true) rfl (fun _ => ?_) fun h => by cases h
        repeat refine wps_seq ?_
        refine wps_region callOK ?_
        simp [ofV, ofV1, mkC_P, writeVar, writeCells, readCells, allSingle, AV.single, getFs, getF, setFs, setF, Heap.get, Heap.set, Heap.new, Heap.kill, killF, pushF, Heap.ready, refs, sliceParts, fillA, replL, happ]
        repeat refine wps_seq ?_
        refine wps_region callOK ?_
        simp [ofV, ofV1, mkC_P, writeVar, writeCells, readCells, allSingle, AV.single, getFs, getF, setFs, setF, Heap.get, Heap.set, Heap.new, Heap.kill, killF, pushF, Heap.ready, refs, sliceParts, fillA, replL]
        repeat refine wps_seq ?_
        refine wps_region callOK ?_
        simp [ofV, ofV1, mkC_P, writeVar, writeCells, readCells, allSingle, AV.single, getFs, getF, setFs, setF, Heap.get, Heap.set, Heap.new, Heap.kill, killF, pushF, Heap.ready, refs, sliceParts, fillA, replL, add_one (show i ≤ 1000000000 by omega)]
        have hne : (wst (s.take (i + 1))).1.map AV.str ≠ [] := by rw [hn]; simp
        refine hB _ (i + 1) (by omega) (by omega) ⟨[(2, 0)], [], rfl, rfl, rfl, ?_, .grown (el_str _) hne ?_⟩
        · rw [ownV_ne hne, hn]; simp [fitL, fitV, lookN, pureV]
        · rw [hn, List.map_append, flat_append]; simp [Heap.get, getFs, getF, flatAV]
  · simp at h
    repeat refine wps_seq ?_
    refine wps_exit ?_
    simp
    have hs : s.take i = s := List.take_of_length_le h
    rw [hs] at hlen ⊢
    by_cases hc : (wst s).2 = []
    · have hv : wsplit s = (wst s).1 := by simp [wsplit, wfin, hc]
      repeat refine wps_seq ?_
      refine wps_region callOK ?_
      simp [ofV, ofV1, mkC_P, writeVar, writeCells, readCells, allSingle, AV.single, getFs, getF, setFs, setF, Heap.get, Heap.set, Heap.new, Heap.kill, killF, pushF, Heap.ready, refs, sliceParts, fillA, replL, hc]
      repeat refine wps_seq ?_
      refine wps_cond (t := false) rfl (fun h => by cases h) fun _ => ?_
      repeat refine wps_seq ?_
      refine wps_skip ?_
      simp
      repeat refine wps_seq ?_
      refine wps_region callOK ?_
      simp [ofV, ofV1, mkC_P, writeVar, writeCells, readCells, allSingle, AV.single, getFs, getF, setFs, setF, Heap.get, Heap.set, Heap.new, Heap.kill, killF, pushF, Heap.ready, refs, sliceParts, fillA, replL]
      repeat refine wps_seq ?_
      refine wps_ret ?_
      simp [retVal, Tryz.f95, oneOr]
      rw [hv]
      exact ⟨[(0, 0)], [], fitV_own (by simp [lookN]), same _⟩
    · have hv : wsplit s = (wst s).1 ++ [(wst s).2] := by simp [wsplit, wfin, hc]
      have happ := own_app1 (P := Tryz.prog) (elem := 9) (b := 0) (t := 1) (m := 2) (es := (wst s).1.map .str) (cs := [.str (wst s).2]) (g := []) (fs := []) szT9 byT9 zeT9 rfl (by omega) (by omega) rfl rfl (el_str _) (by simp; omega) (by omega) (by simp) (by simp)
      rw [List.append_nil] at happ
      repeat refine wps_seq ?_
      refine wps_region callOK ?_
      simp [ofV, ofV1, mkC_P, writeVar, writeCells, readCells, allSingle, AV.single, getFs, getF, setFs, setF, Heap.get, Heap.set, Heap.new, Heap.kill, killF, pushF, Heap.ready, refs, sliceParts, fillA, replL, hc]
      repeat refine wps_seq ?_
      refine wps_cond (t := true) rfl (fun _ => ?_) fun h => by cases h
      repeat refine wps_seq ?_
      refine wps_region callOK ?_
      simp [ofV, ofV1, mkC_P, writeVar, writeCells, readCells, allSingle, AV.single, getFs, getF, setFs, setF, Heap.get, Heap.set, Heap.new, Heap.kill, killF, pushF, Heap.ready, refs, sliceParts, fillA, replL, happ]
      repeat refine wps_seq ?_
      refine wps_region callOK ?_
      simp [ofV, ofV1, mkC_P, writeVar, writeCells, readCells, allSingle, AV.single, getFs, getF, setFs, setF, Heap.get, Heap.set, Heap.new, Heap.kill, killF, pushF, Heap.ready, refs, sliceParts, fillA, replL]
      repeat refine wps_seq ?_
      refine wps_ret ?_
      simp [retVal, Tryz.f95, oneOr]
      have hne : (wsplit s).map AV.str ≠ [] := by rw [hv]; simp
      refine ⟨[(2, 0)], [], ?_, .grown (el_str _) hne ?_⟩
      · rw [ownV_ne hne, hv]; simp [fitL, fitV, lookN, pureV]
      · rw [hv, List.map_append, flat_append]; simp [Heap.get, getFs, getF, flatAV]
theorem c94 {T : List (Entry Tryz.prog)} (L : List Str) (x : Str) (hl : L.length ≤ 1000000) : CallAt (ctx T) 94 [aStrs L, .str x] ⟨0, []⟩ (.bool (decide (x ∈ L))) ⟨0, []⟩ := by
  refine callAt_body (fn := Tryz.f94) (s0 := ⟨[0, 1, 4, 5], [aStrs L, .str x, .undef, .undef], [], 18, ⟨0, [[]]⟩⟩) Tryz.func94 rfl rfl rfl ?_
  repeat refine wps_seq ?_
  refine wps_region callOK ?_
  simp [ofV, ofV1, mkC_P, writeVar, writeCells, readCells, allSingle, AV.single, getFs, getF, setFs, setF, Heap.get, Heap.set, Heap.new, Heap.kill, killF, pushF, Heap.ready, refs, sliceParts, fillA, replL]
  repeat refine wps_seq ?_
  refine wps_region callOK ?_
  simp [ofV, ofV1, mkC_P, writeVar, writeCells, readCells, allSingle, AV.single, getFs, getF, setFs, setF, Heap.get, Heap.set, Heap.new, Heap.kill, killF, pushF, Heap.ready, refs, sliceParts, fillA, replL]
  repeat refine wps_seq ?_
  refine wps_block (wps_loop' (fun i : Nat => (⟨[0, 1, 4, 5], [aStrs L, .str x, .undef, .int .i64 i], [], 18, ⟨0, [[]]⟩⟩ : St))
    (fun i => i ≤ L.length ∧ decide (x ∈ L) = decide (x ∈ L.drop i)) (fun i => L.length - i) [] [] 0 ⟨Nat.zero_le _, by simp⟩ ⟨rfl, rfl, rfl, by simp [fitL, fitV, pureV, pureL, aStrs], FitH.nothing⟩ ?_)
  rintro i ⟨hi, hx⟩ B hB
  repeat refine wps_seq ?_
  refine wps_region callOK ?_
  simp [ofV, ofV1, mkC_P, writeVar, writeCells, readCells, allSingle, AV.single, getFs, getF, setFs, setF, Heap.get, Heap.set, Heap.new, Heap.kill, killF, pushF, Heap.ready, refs, sliceParts, fillA, replL, lenS]
  repeat refine wps_seq ?_
  refine wps_cond rfl (fun h => ?_) fun h => ?_
  · simp at h
    repeat refine wps_seq ?_
    refine wps_skip ?_
    simp
    repeat refine wps_seq ?_
    refine wps_block ?_
    repeat refine wps_seq ?_
    refine wps_region callOK ?_
    simp [ofV, ofV1, mkC_P, writeVar, writeCells, readCells, allSingle, AV.single, getFs, getF, setFs, setF, Heap.get, Heap.set, Heap.new, Heap.kill, killF, pushF, Heap.ready, refs, sliceParts, fillA, replL, atS h]
    repeat refine wps_seq ?_
    refine wps_cond rfl (fun h2 => ?_) fun h2 => ?_
    · simp at h2
      repeat refine wps_seq ?_
      refine wps_region callOK ?_
      simp [ofV, ofV1, mkC_P, writeVar, writeCells, readCells, allSingle, AV.single, getFs, getF, setFs, setF, Heap.get, Heap.set, Heap.new, Heap.kill, killF, pushF, Heap.ready, refs, sliceParts, fillA, replL]
      repeat refine wps_seq ?_
      refine wps_ret ?_
      simp [retVal, Tryz.f94, oneOr, thenQ, blockQ]
      exact ends_pure rfl (by rw [hx, List.drop_eq_getElem_cons h]; simp [h2])
    · simp at h2
      repeat refine wps_seq ?_
      refine wps_skip ?_
      simp
      repeat refine wps_seq ?_
      refine wps_region callOK ?_
      simp [ofV, ofV1, mkC_P, writeVar, writeCells, readCells, allSingle, AV.single, getFs, getF, setFs, setF, Heap.get, Heap.set, Heap.new, Heap.kill, killF, pushF, Heap.ready, refs, sliceParts, fillA, replL, add_one (show i ≤ 1000000000 by omega)]
      exact hB _ (i + 1) (by omega) ⟨by omega, by rw [hx, List.drop_eq_getElem_cons h]; simp only [List.mem_cons, show ¬ x = L[i] from fun e => h2 e.symm, false_or]⟩ ⟨[], [], ⟨rfl, rfl, rfl, by simp [fitL, fitV, pureV, pureL, aStrs], FitH.nothing⟩⟩
  · simp at h
    repeat refine wps_seq ?_
    refine wps_exit ?_
    simp
    repeat refine wps_seq ?_
    refine wps_region callOK ?_
    simp [ofV, ofV1, mkC_P, writeVar, writeCells, readCells, allSingle, AV.single, getFs, getF, setFs, setF, Heap.get, Heap.set, Heap.new, Heap.kill, killF, pushF, Heap.ready, refs, sliceParts, fillA, replL]
    repeat refine wps_seq ?_
    refine wps_ret ?_
    simp [retVal, Tryz.f94, oneOr, thenQ, blockQ]
    exact ends_pure rfl (by rw [hx, List.drop_eq_nil_of_le h]; simp)
noncomputable def e95 : Entry Tryz.prog := mkE 95 [[]] (fun x : Str => [.str x]) (fun x => x.length ≤ 1000000) (fun x => aStrs (wsplit x)) fun x h => (c95 (T := [e131]) rfl x h).froze (el_str _)
theorem k95 {T : List (Entry Tryz.prog)} (hT : findE 95 T = some e95.g) {s : Str} (hl : s.length ≤ 1000000) (H : Heap) : callL (ctx T) (.fn 95) [.str s] H = some (aStrs (wsplit s), H) :=
  mkE_pure hT inj_str s hl (by simp [pureL, pureV]) (by simp) H
noncomputable def e94 : Entry Tryz.prog := mkE 94 [[1], []] (fun x : List Str × Str => [aStrs x.1, .str x.2]) (fun x => x.1.length ≤ 1000000) (fun x => .bool (decide (x.2 ∈ x.1))) fun x h => c94 (T := []) x.1 x.2 h
theorem k94 {T : List (Entry Tryz.prog)} (hT : findE 94 T = some e94.g) {L : List Str} (x : Str) (hl : L.length ≤ 1000000) (H : Heap) : callL (ctx T) (.fn 94) [aStrs L, .str x] H = some (.bool (decide (x ∈ L)), H) :=
  mkE_scalar hT (fun x y h => by simp at h; exact Prod.ext (inj_strs (by simpa [aStrs] using h.1)) h.2) (L, x) hl rfl (by simp)
/-- one of the words -/
def inW (w x : Str) : Bool := decide (x ∈ wsplit w)
theorem wsplit_len (s : Str) : (wsplit s).length ≤ s.length + 1 := by
  have := wst_len s
  unfold wsplit wfin
  split <;> simp <;> omega
theorem c64 {T : List (Entry Tryz.prog)} (h1 : findE 95 T = some e95.g) (h2 : findE 94 T = some e94.g) (w x : Str) (hl : w.length ≤ 900000) : CallAt (ctx T) 64 [.str w, .str x] ⟨0, []⟩ (.bool (inW w x)) ⟨0, []⟩ := by
  refine callAt_body (fn := Tryz.f64) (s0 := ⟨[0, 1, 4], [.str w, .str x, .undef], [], 9, ⟨0, [[]]⟩⟩) Tryz.func64 rfl rfl rfl ?_
  repeat refine wps_seq ?_
  refine wps_region callOK ?_
  simp [ofV, ofV1, mkC_P, writeVar, writeCells, readCells, allSingle, AV.single, getFs, getF, setFs, setF, Heap.get, Heap.set, Heap.new, Heap.kill, killF, pushF, Heap.ready, refs, sliceParts, fillA, replL]
  have hs := wsplit_len w
  repeat refine wps_seq ?_
  refine wps_region callOK ?_
  simp [ofV, ofV1, mkC_P, writeVar, writeCells, readCells, allSingle, AV.single, getFs, getF, setFs, setF, Heap.get, Heap.set, Heap.new, Heap.kill, killF, pushF, Heap.ready, refs, sliceParts, fillA, replL, k95 h1 (show w.length ≤ 1000000 by omega), k94 h2 x (show (wsplit w).length ≤ 1000000 by omega)]
  repeat refine wps_seq ?_
  refine wps_ret ?_
  simp [retVal, Tryz.f64, oneOr, thenQ, blockQ]
  exact ends_pure rfl (by simp [inW])
noncomputable def e64 : Entry Tryz.prog := mkE 64 [[], []] (fun x : Str × Str => [.str x.1, .str x.2]) (fun x => x.1.length ≤ 900000) (fun x => .bool (inW x.1 x.2)) fun x h => c64 (T := [e95, e94]) rfl rfl x.1 x.2 h
theorem k64 {T : List (Entry Tryz.prog)} (hT : findE 64 T = some e64.g) {w : Str} (x : Str) (hl : w.length ≤ 900000) (H : Heap) : callL (ctx T) (.fn 64) [.str w, .str x] H = some (.bool (inW w x), H) :=
  mkE_scalar hT inj_str2 (w, x) hl rfl (by simp)
end Go.Proofs.YtmadcegoionpjaaGreatDoor
namespace Go.Proofs.YtmadcegoionpjaaGreatDoor
set_option linter.unusedSimpArgs false
set_option linter.unusedVariables false
open Go Go.RowKit
set_option maxRecDepth 100000

def isTrueE : Option (AV × Heap) → Bool
  | some (.bool b, _) => b
  | _ => false
/-! ### A word among words, to run -/
def eqN : Str → Str → Bool
  | [], l => match l with | [] => true | _ :: _ => false
  | a :: x, l => match l with
    | [] => false
    | b :: y => match Nat.beq a.toNat b.toNat with
      | true => eqN x y
      | false => false
theorem eqN_eq : ∀ (x y : Str), eqN x y = decide (x = y)
  | [], [] => rfl
  | [], _ :: _ => by simp [eqN]
  | _ :: _, [] => by simp [eqN]
  | a :: x, b :: y => by
    unfold eqN
    simp only
    split
    · rename_i h
      have := UInt8.toNat_inj.1 (Nat.eq_of_beq_eq_true h)
      subst this
      rw [eqN_eq]; simp
    · rename_i h
      have : ¬ a = b := fun e => by subst e; rw [Nat.beq_refl] at h; cases h
      simp [this]
def spN (n : Nat) : Bool := match Nat.beq n 32 with
  | true => true
  | false => match Nat.beq n 9 with
    | true => true
    | false => match Nat.beq n 10 with
      | true => true
      | false => match Nat.beq n 12 with
        | true => true
        | false => Nat.beq n 13
theorem spN_eq (c : UInt8) : spN c.toNat = sp c := by
  have k : ∀ m : Nat, Nat.beq c.toNat m = decide ((c.toNat : Int) = (m : Int)) := fun m => by
    by_cases h : c.toNat = m
    · subst h; simp
    · rw [beqN_ne h]; simp; omega
  unfold spN sp
  rw [k 32, k 9, k 10, k 12, k 13]
  simp only [Int.cast_ofNat_Int]
  by_cases h1 : (c.toNat : Int) = 9 <;> by_cases h2 : (c.toNat : Int) = 10 <;> by_cases h3 : (c.toNat : Int) = 12 <;> by_cases h4 : (c.toNat : Int) = 13 <;> by_cases h5 : (c.toNat : Int) = 32 <;> simp [h1, h2, h3, h4, h5]
/-- the rest of a text, against a word: still the same so far (its rest), or no longer -/
def inN (x : Str) : Str → Option Str → Bool → Bool
  | [], w, some' => match some' with
    | true => match w with
      | some r => match r with | [] => true | _ :: _ => false
      | none => false
    | false => false
  | c :: r, w, some' => match spN c.toNat with
    | true => match some' with
      | true => match w with
        | some q => match q with
          | [] => true
          | _ :: _ => inN x r (some x) false
        | none => inN x r (some x) false
      | false => inN x r (some x) false
    | false => match w with
      | some q => match q with
        | [] => inN x r none true
        | d :: q => match Nat.beq d.toNat c.toNat with
          | true => inN x r (some q) true
          | false => inN x r none true
      | none => inN x r none true
/-- what is left of x behind cur, where x begins so -/
def leftOf : Str → Str → Option Str
  | [], x => some x
  | a :: c, x => match x with
    | [] => none
    | b :: x => if b = a then leftOf c x else none
theorem leftOf_snoc : ∀ (cur x : Str) (c : UInt8), leftOf (cur ++ [c]) x = match leftOf cur x with
    | some q => (match q with | [] => none | d :: q => if d = c then some q else none)
    | none => none
  | [], x, c => by cases x <;> simp [leftOf]
  | a :: r, [], c => by simp [leftOf]
  | a :: r, b :: x, c => by
    simp only [List.cons_append, leftOf]
    by_cases h : b = a
    · simp only [h, if_true]; exact leftOf_snoc r x c
    · simp [h]
theorem leftOf_nil : ∀ (cur x : Str), leftOf cur x = some [] ↔ x = cur
  | [], x => by simp [leftOf]
  | a :: r, [] => by simp [leftOf]
  | a :: r, b :: x => by
    simp only [leftOf]
    by_cases h : b = a
    · simp [h, leftOf_nil r x]
    · simp [h]
theorem inN_eq (x : Str) (hx : x ≠ []) : ∀ (r : Str) (st : List Str × Str), x ∉ st.1 → inN x r (leftOf st.2 x) (!decide (st.2 = [])) = decide (x ∈ wfin (r.foldl wstep st))
  | [], st, hn => by
    simp only [List.foldl_nil, wfin]
    unfold inN
    by_cases h : st.2 = []
    · simp [h, hn]
    · simp only [h, decide_false, Bool.not_false, if_false]
      cases hl : leftOf st.2 x with
      | none =>
        have : ¬ x = st.2 := fun e => by rw [(leftOf_nil st.2 x).2 e] at hl; cases hl
        simp [hn, this]
      | some q =>
        cases q with
        | nil =>
          have := (leftOf_nil st.2 x).1 hl
          simp [this]
        | cons d q =>
          have : ¬ x = st.2 := fun e => by rw [(leftOf_nil st.2 x).2 e] at hl; cases hl
          simp [hn, this]
  | c :: r, st, hn => by
    show inN x (c :: r) _ _ = decide (x ∈ wfin (r.foldl wstep (wstep st c)))
    have grow : ∀ (r : Str) (st : List Str × Str), x ∈ st.1 → x ∈ (r.foldl wstep st).1 := by
      intro r
      induction r with
      | nil => exact fun _ h => h
      | cons c r ih =>
        intro st h
        refine ih _ ?_
        unfold wstep
        split
        · split
          · exact h
          · exact List.mem_append_left _ h
        · exact h
    rw [show inN x (c :: r) (leftOf st.2 x) (!decide (st.2 = [])) = (match spN c.toNat with
    | true => match (!decide (st.2 = [])) with
      | true => match leftOf st.2 x with
        | some q => match q with
          | [] => true
          | _ :: _ => inN x r (some x) false
        | none => inN x r (some x) false
      | false => inN x r (some x) false
    | false => match leftOf st.2 x with
      | some q => match q with
        | [] => inN x r none true
        | d :: q => match Nat.beq d.toNat c.toNat with
          | true => inN x r (some q) true
          | false => inN x r none true
      | none => inN x r none true) from rfl, spN_eq]
    cases hs : sp c with
    | true =>
      simp only
      by_cases h : st.2 = []
      · have e : wstep st c = (st.1, []) := by simp [wstep, hs, h]
        rw [e]
        have ih := inN_eq x hx r (st.1, []) hn
        simp only [h, decide_true, Bool.not_true]
        simpa [leftOf] using ih
      · have e : wstep st c = (st.1 ++ [st.2], []) := by simp [wstep, hs, h]
        rw [e]
        simp only [h, decide_false, Bool.not_false]
        by_cases hq : x = st.2
        · rw [(leftOf_nil st.2 x).2 hq]
          simp only
          have hm := grow r (st.1 ++ [st.2], []) (by rw [hq]; simp)
          unfold wfin
          split
          · simp [hm]
          · simp [hm]
        · have hn' : x ∉ st.1 ++ [st.2] := by simp [hn, hq]
          have ih := inN_eq x hx r (st.1 ++ [st.2], []) hn'
          simp only [leftOf, decide_true, Bool.not_true] at ih
          cases hl : leftOf st.2 x with
          | none => exact ih
          | some q =>
            cases q with
            | nil => exact absurd ((leftOf_nil st.2 x).1 hl) hq
            | cons d q => exact ih
    | false =>
      simp only
      have e : wstep st c = (st.1, st.2 ++ [c]) := by simp [wstep, hs]
      rw [e]
      have ih := inN_eq x hx r (st.1, st.2 ++ [c]) hn
      simp only [List.append_eq_nil_iff, List.cons_ne_nil, and_false, decide_false, Bool.not_false] at ih
      rw [leftOf_snoc] at ih
      cases hl : leftOf st.2 x with
      | none => rw [hl] at ih; exact ih
      | some q =>
        rw [hl] at ih
        cases q with
        | nil => exact ih
        | cons d q =>
          simp only at ih ⊢
          by_cases hd : d = c
          · rw [if_pos hd] at ih
            rw [hd, Nat.beq_refl]; exact ih
          · rw [if_neg hd] at ih
            rw [beqN_ne (fun e => hd (UInt8.toNat_inj.1 e))]; exact ih
theorem words_ne (s : Str) : [] ∉ wsplit s := by
  have key : ∀ (r : Str) (st : List Str × Str), [] ∉ st.1 → [] ∉ (r.foldl wstep st).1 := by
    intro r
    induction r with
    | nil => exact fun _ h => h
    | cons c r ih =>
      intro st h
      refine ih _ ?_
      unfold wstep
      split
      · split
        · exact h
        · rename_i h2
          simp only [List.mem_append, List.mem_singleton, not_or]
          exact ⟨h, fun e => h2 e.symm⟩
      · exact h
  have := key s ([], []) (by simp)
  unfold wsplit wfin wst
  split
  · exact this
  · rename_i h2
    simp only [List.mem_append, List.mem_singleton, not_or]
    exact ⟨this, fun e => h2 e.symm⟩
def inB (w x : Str) : Bool := match x with
  | [] => false
  | _ :: _ => inN x w (some x) false
theorem inB_eq (w x : Str) : inB w x = inW w x := by
  unfold inB
  split
  · simp [inW, words_ne]
  · rename_i a r
    have := inN_eq (a :: r) (by simp) w ([], []) (by simp)
    exact (show inN (a :: r) w (some (a :: r)) false = _ from this).trans (decide_eq_decide.2 Iff.rfl)
/-- In, to run -/
def runIn : List AV → Heap → Option (AV × Heap) := fun args H => match args with
  | [.str w, .str x] => match Nat.ble w.length 900000 with
    | true => some (.bool (inB w x), H)
    | false => none
  | _ => none
def r64 : Entry Tryz.prog := ⟨64, runIn, fun args H v H' h => by
  unfold runIn at h
  split at h
  · rename_i w x
    split at h
    · rename_i hl
      simp only [Option.some.injEq, Prod.mk.injEq] at h
      obtain ⟨rfl, rfl⟩ := h
      rw [inB_eq]
      exact (c64 (T := [e95, e94]) rfl rfl w x (Nat.le_of_ble_eq_true hl)).lift (by simp [pureL, pureV]) H
    · cases h
  · cases h⟩
def TR : List (Entry Tryz.prog) := [r64]
end Go.Proofs.YtmadcegoionpjaaGreatDoor
namespace Go.Proofs.YtmadcegoionpjaaGreatDoor
set_option linter.unusedSimpArgs false
set_option linter.unusedVariables false
open Go Go.RowKit
set_option maxRecDepth 100000

/-- an attribute: its name, its value -/
abbrev At1 := Str × Str
def aAttr (a : At1) : AV := .agg [.str a.1, .str a.2]
def aAttrs (L : List At1) : AV := .fslc 2 (L.map aAttr)
@[simp] theorem cells_aAttr (a : At1) : (aAttr a).cells = [.str a.1, .str a.2] := rfl
@[simp] theorem pure_aAttr (a : At1) : pureV (aAttr a) = true := by simp [aAttr, pureV, pureL]
@[simp] theorem pure_aAttrs (L : List At1) : pureV (aAttrs L) = true := by simp [aAttrs, pureV]

@[simp] theorem ok_aAttr (a : At1) : okV (aAttr a) = true := by simp [aAttr, okV, pureV, pureL]
@[simp] theorem ok_aAttrs (L : List At1) : okV (aAttrs L) = true := by simp [aAttrs, okV, pureV]
theorem th_aAttrs (H : Heap) (L : List At1) : thawA H [2] (aAttrs L) = some (aAttrs L) := thawA_ok (by simp)
theorem inj_aAttr {a b : At1} (h : aAttr a = aAttr b) : a = b := by
  simp [aAttr] at h; exact Prod.ext h.1 h.2
theorem inj_aAttrs {L M : List At1} (h : aAttrs L = aAttrs M) : L = M := by
  simp only [aAttrs, AV.fslc.injEq, true_and] at h
  exact List.map_inj_right (fun _ _ => inj_aAttr) |>.1 h
theorem c120 {T : List (Entry Tryz.prog)} (a : At1) (nm : Str) : CallAt (ctx T) 120 [aAttr a, .fptr [.str nm] 0] ⟨0, []⟩ (.bool (decide (a.1 = nm))) ⟨0, []⟩ := by
  refine callAt_body (fn := Tryz.f120) (s0 := ⟨[0, 1, 2, 3], [aAttr a, .fptr [.str nm] 0, .undef, .undef], [], 8, ⟨0, [[]]⟩⟩) Tryz.func120 rfl rfl rfl ?_
  repeat refine wps_seq ?_
  refine wps_region callOK ?_
  simp [ofV, ofV1, mkC_P, writeVar, writeCells, readCells, allSingle, AV.single, getFs, getF, setFs, setF, Heap.get, Heap.set, Heap.new, Heap.kill, killF, pushF, Heap.ready, refs, sliceParts, fillA, replL, aAttr]
  repeat refine wps_seq ?_
  refine wps_region callOK ?_
  simp [ofV, ofV1, mkC_P, writeVar, writeCells, readCells, allSingle, AV.single, getFs, getF, setFs, setF, Heap.get, Heap.set, Heap.new, Heap.kill, killF, pushF, Heap.ready, refs, sliceParts, fillA, replL]
  repeat refine wps_seq ?_
  refine wps_ret ?_
  simp [retVal, Tryz.f120, oneOr]
  exact ⟨[], [], fitV_pure rfl, FitH.empty⟩
/-- the place of the first one, from k on -/
def idxFrom {α : Type} (p : α → Bool) : List α → Nat → Int
  | [], _ => -1
  | a :: r, k => if p a = true then k else idxFrom p r (k + 1)
theorem idxFrom_at {α : Type} {p : α → Bool} {L : List α} {i : Nat} (h : i < L.length) : idxFrom p (L.drop i) i = if p L[i] = true then (i : Int) else idxFrom p (L.drop (i + 1)) (i + 1) := by
  rw [List.drop_eq_getElem_cons h]; rfl
theorem atA {L : List At1} {i : Nat} (h : i < L.length) : indexAddrA Tryz.prog 35 (aAttrs L) (.int .i64 (i : Int)) = some (.fptr [.str L[i].1, .str L[i].2] 0) := by
  simp [indexAddrA, aAttrs, idx_nat h, getL_map h, aAttr, AV.cells]
theorem lenA1 {H : Heap} {L : List At1} : lenA Tryz.prog H 35 (aAttrs L) = some L.length := by simp [lenA, aAttrs]

/-- an element that is read -/
theorem rdA1 {H : Heap} (a : At1) : readVar Tryz.prog H 39 (.fptr [.str a.1, .str a.2] 0) = some (aAttr a) := by simp [readVar, subL, takeL, aAttr]
theorem c119 {T : List (Entry Tryz.prog)} (L : List At1) (hl : L.length ≤ 1000) (clo : FuncId) (cap : List AV) (hc : pureL cap = true) (p : At1 → Bool) (hp : ∀ a, CallAt (ctx T) clo (aAttr a :: cap) ⟨0, []⟩ (.bool (p a)) ⟨0, []⟩) :
    CallAt (ctx T) 119 [aAttrs L, .func (.func clo) [] cap] ⟨0, []⟩ (.int .i64 (idxFrom p L 0)) ⟨0, []⟩ := by
  refine callAt_body (fn := Tryz.f119) (s0 := ⟨[0, 1, 4, 5, 7, 8], [aAttrs L, .func (.func clo) [] cap, .undef, .undef, .undef, .undef], [], 19, ⟨0, [[]]⟩⟩) Tryz.func119 rfl rfl rfl ?_
  repeat refine wps_seq ?_
  refine wps_region callOK ?_
  simp [ofV, ofV1, mkC_P, writeVar, writeCells, readCells, allSingle, AV.single, getFs, getF, setFs, setF, Heap.get, Heap.set, Heap.new, Heap.kill, killF, pushF, Heap.ready, refs, sliceParts, fillA, replL]
  repeat refine wps_seq ?_
  refine wps_region callOK ?_
  simp [ofV, ofV1, mkC_P, writeVar, writeCells, readCells, allSingle, AV.single, getFs, getF, setFs, setF, Heap.get, Heap.set, Heap.new, Heap.kill, killF, pushF, Heap.ready, refs, sliceParts, fillA, replL, lenA1]
  repeat refine wps_seq ?_
  refine wps_block (wps_loop' (fun i : Nat => (⟨[0, 1, 4, 5, 7, 8], [aAttrs L, .func (.func clo) [] cap, .undef, .undef, .int .i64 L.length, .int .i64 i], [], 19, ⟨0, [[]]⟩⟩ : St))
    (fun i => i ≤ L.length ∧ idxFrom p L 0 = idxFrom p (L.drop i) i) (fun i => L.length - i) [] [] 0 ⟨Nat.zero_le _, rfl⟩ ⟨rfl, rfl, rfl, by simp [fitL, fitV, pureV, pureL, hc], FitH.nothing⟩ ?_)
  rintro i ⟨hi, hx⟩ B hB
  repeat refine wps_seq ?_
  refine wps_region callOK ?_
  simp [ofV, ofV1, mkC_P, writeVar, writeCells, readCells, allSingle, AV.single, getFs, getF, setFs, setF, Heap.get, Heap.set, Heap.new, Heap.kill, killF, pushF, Heap.ready, refs, sliceParts, fillA, replL]
  repeat refine wps_seq ?_
  refine wps_cond rfl (fun h => ?_) fun h => ?_
  · simp at h
    repeat refine wps_seq ?_
    refine wps_skip ?_
    simp
    repeat refine wps_seq ?_
    refine wps_block ?_
    repeat refine wps_seq ?_
    refine wps_region callOK ?_
    simp [ofV, ofV1, mkC_P, writeVar, writeCells, readCells, allSingle, AV.single, getFs, getF, setFs, setF, Heap.get, Heap.set, Heap.new, Heap.kill, killF, pushF, Heap.ready, refs, sliceParts, fillA, replL]
    repeat refine wps_seq ?_
    refine wps_region (callF_ok callOK [⟨clo, [aAttr L[i]] ++ cap, ⟨0, [[]]⟩, .bool (p L[i]), ⟨0, [[]]⟩, (hp L[i]).lift (by simp [pureL, hc]) _⟩]) ?_
    simp [ofV, ofV1, mkC_P, writeVar, writeCells, readCells, allSingle, AV.single, getFs, getF, setFs, setF, Heap.get, Heap.set, Heap.new, Heap.kill, killF, pushF, Heap.ready, refs, sliceParts, fillA, replL, atA h, callF, rdA1]
    repeat refine wps_seq ?_
    refine wps_cond rfl (fun h2 => ?_) fun h2 => ?_
    · repeat refine wps_seq ?_
      refine wps_region callOK ?_
      simp [ofV, ofV1, mkC_P, writeVar, writeCells, readCells, allSingle, AV.single, getFs, getF, setFs, setF, Heap.get, Heap.set, Heap.new, Heap.kill, killF, pushF, Heap.ready, refs, sliceParts, fillA, replL]
      repeat refine wps_seq ?_
      refine wps_ret ?_
      simp [retVal, Tryz.f119, oneOr]
      refine ⟨[], [], ?_, FitH.empty⟩
      rw [hx, idxFrom_at h, if_pos h2]
      exact fitV_pure rfl
    · repeat refine wps_seq ?_
      refine wps_skip ?_
      simp
      repeat refine wps_seq ?_
      refine wps_region callOK ?_
      simp [ofV, ofV1, mkC_P, writeVar, writeCells, readCells, allSingle, AV.single, getFs, getF, setFs, setF, Heap.get, Heap.set, Heap.new, Heap.kill, killF, pushF, Heap.ready, refs, sliceParts, fillA, replL, add_one (show i ≤ 1000000000 by omega)]
      refine hB _ (i + 1) (by omega) ⟨by omega, ?_⟩ ⟨[], [], ⟨rfl, rfl, rfl, by simp [fitL, fitV, pureV, pureL, hc], FitH.nothing⟩⟩
      rw [hx, idxFrom_at h, h2]
      simp
  · simp at h
    repeat refine wps_seq ?_
    refine wps_exit ?_
    simp
    repeat refine wps_seq ?_
    refine wps_region callOK ?_
    simp [ofV, ofV1, mkC_P, writeVar, writeCells, readCells, allSingle, AV.single, getFs, getF, setFs, setF, Heap.get, Heap.set, Heap.new, Heap.kill, killF, pushF, Heap.ready, refs, sliceParts, fillA, replL]
    repeat refine wps_seq ?_
    refine wps_ret ?_
    simp [retVal, Tryz.f119, oneOr]
    refine ⟨[], [], ?_, FitH.empty⟩
    rw [hx, List.drop_eq_nil_of_le (by omega)]
    exact fitV_pure rfl

/-- where an attribute of a name is -/
def placeL (L : List At1) (nm : Str) : Int := idxFrom (fun a => decide (a.1 = nm)) L 0
theorem c85 {T : List (Entry Tryz.prog)} (L : List At1) (nm : Str) (hl : L.length ≤ 1000) : CallAt (ctx T) 85 [aAttrs L, .str nm] ⟨0, []⟩ (.int .i64 (placeL L nm)) ⟨0, []⟩ := by
  refine callAt_body (fn := Tryz.f85) (s0 := ⟨[0, 1, 3, 4], [aAttrs L, .str nm, .undef, .undef], [], 8, ⟨0, [[]]⟩⟩) Tryz.func85 rfl rfl rfl ?_
  repeat refine wps_seq ?_
  refine wps_region callOK ?_
  simp [ofV, ofV1, mkC_P, writeVar, writeCells, readCells, allSingle, AV.single, getFs, getF, setFs, setF, Heap.get, Heap.set, Heap.new, Heap.kill, killF, pushF, Heap.ready, refs, sliceParts, fillA, replL]
  repeat refine wps_seq ?_
  refine wps_region (callOKF [⟨119, [aAttrs L, .func (.func 120) [] [.ptr 0 0]], ⟨1, [[(0, .cells [.str nm])]]⟩, .int .i64 (placeL L nm), _,
    CallAt.thaw (c119 L hl 120 [.fptr [.str nm] 0] rfl (fun a => decide (a.1 = nm)) fun a => c120 a nm) rfl [] (by simp [thawA_ok, thawA_clo (H := ⟨1, [[(0, .cells [.str nm])]]⟩) (b := 0) (cs := [.str nm]) rfl rfl])⟩]) ?_
  simp [ofV, ofV1, mkC_P, writeVar, writeCells, readCells, allSingle, AV.single, getFs, getF, setFs, setF, Heap.get, Heap.set, Heap.new, Heap.kill, killF, pushF, Heap.ready, refs, sliceParts, fillA, replL, callF]
  repeat refine wps_seq ?_
  refine wps_ret ?_
  simp [retVal, Tryz.f85, oneOr]
  exact ends_pure rfl rfl
noncomputable def e85 : Entry Tryz.prog := mkE 85 [[2], []] (fun x : List At1 × Str => [aAttrs x.1, .str x.2]) (fun x => x.1.length ≤ 1000) (fun x => .int .i64 (placeL x.1 x.2)) fun x hx => c85 (T := []) x.1 x.2 hx
theorem k85 {T : List (Entry Tryz.prog)} (hT : findE 85 T = some e85.g) {L : List At1} (nm : Str) (hl : L.length ≤ 1000) {H : Heap} {l : AV} (h : thawA H [2] l = some (aAttrs L)) : callL (ctx T) (.fn 85) [l, .str nm] H = some (.int .i64 (placeL L nm), H) :=
  mkE_scalar hT (fun x y h => by simp at h; exact Prod.ext (inj_aAttrs h.1) h.2) (L, nm) hl rfl (by simp [h])

/-- the value of a name -/
def getAt (nm : Str) : List At1 → Option Str
  | [] => none
  | a :: r => if a.1 = nm then some a.2 else getAt nm r
def gotA (x : Option Str) : AV := .tup [.str (x.getD []), .bool x.isSome]
theorem idxFrom_get {nm : Str} : ∀ (L : List At1) (k : Nat), (idxFrom (fun a => decide (a.1 = nm)) L k = -1 ∧ getAt nm L = none) ∨ ∃ i, ∃ h : i < L.length, idxFrom (fun a => decide (a.1 = nm)) L k = (k + i : Nat) ∧ getAt nm L = some L[i].2 ∧ L[i].1 = nm
  | [], k => .inl ⟨rfl, rfl⟩
  | a :: r, k => by
    by_cases hq : a.1 = nm
    · exact .inr ⟨0, by simp, by simp [idxFrom, hq], by simp [getAt, hq], hq⟩
    · rcases idxFrom_get (nm := nm) r (k + 1) with ⟨h1, h2⟩ | ⟨i, h, h1, h2, h3⟩
      · exact .inl ⟨by simp [idxFrom, hq, h1], by simp [getAt, hq, h2]⟩
      · exact .inr ⟨i + 1, by simpa using h, by simp [idxFrom, hq, h1]; omega, by simp [getAt, hq, h2], h3⟩
theorem c53 {T : List (Entry Tryz.prog)} (hT : findE 85 T = some e85.g) (L : List At1) (nm : Str) (hl : L.length ≤ 1000) : CallAt (ctx T) 53 [aAttrs L, .str nm] ⟨0, []⟩ (gotA (getAt nm L)) ⟨0, []⟩ := by
  refine callAt_body (fn := Tryz.f53) (s0 := ⟨[0, 1, 4, 5, 6], [aAttrs L, .str nm, .undef, .undef, .undef], [], 17, ⟨0, [[]]⟩⟩) Tryz.func53 rfl rfl rfl ?_
  repeat refine wps_seq ?_
  refine wps_region callOK ?_
  simp [ofV, ofV1, mkC_P, writeVar, writeCells, readCells, allSingle, AV.single, getFs, getF, setFs, setF, Heap.get, Heap.set, Heap.new, Heap.kill, killF, pushF, Heap.ready, refs, sliceParts, fillA, replL]
  repeat refine wps_seq ?_
  refine wps_region callOK ?_
  simp [ofV, ofV1, mkC_P, writeVar, writeCells, readCells, allSingle, AV.single, getFs, getF, setFs, setF, Heap.get, Heap.set, Heap.new, Heap.kill, killF, pushF, Heap.ready, refs, sliceParts, fillA, replL, k85 hT nm hl (th_aAttrs _ L)]
  repeat refine wps_seq ?_
  refine wps_region callOK ?_
  simp [ofV, ofV1, mkC_P, writeVar, writeCells, readCells, allSingle, AV.single, getFs, getF, setFs, setF, Heap.get, Heap.set, Heap.new, Heap.kill, killF, pushF, Heap.ready, refs, sliceParts, fillA, replL]
  repeat refine wps_seq ?_
  refine wps_cond rfl (fun h => ?_) fun h => ?_
  · rcases idxFrom_get (nm := nm) L 0 with ⟨h1, h2⟩ | ⟨i, hi, h1, h2, h3⟩
    · simp [placeL, h1] at h
    · have hp : placeL L nm = (i : Int) := by simp [placeL, h1]
      simp only [hp]
      repeat refine wps_seq ?_
      refine wps_region callOK ?_
      simp [ofV, ofV1, mkC_P, writeVar, writeCells, readCells, allSingle, AV.single, getFs, getF, setFs, setF, Heap.get, Heap.set, Heap.new, Heap.kill, killF, pushF, Heap.ready, refs, sliceParts, fillA, replL, atA hi]
      repeat refine wps_seq ?_
      refine wps_ret ?_
      simp [retVal, Tryz.f53, oneOr]
      exact ends_pure rfl (by simp [gotA, h2])
  · rcases idxFrom_get (nm := nm) L 0 with ⟨h1, h2⟩ | ⟨i, hi, h1, h2, h3⟩
    · repeat refine wps_seq ?_
      refine wps_skip ?_
      simp
      repeat refine wps_seq ?_
      refine wps_region callOK ?_
      simp [ofV, ofV1, mkC_P, writeVar, writeCells, readCells, allSingle, AV.single, getFs, getF, setFs, setF, Heap.get, Heap.set, Heap.new, Heap.kill, killF, pushF, Heap.ready, refs, sliceParts, fillA, replL]
      repeat refine wps_seq ?_
      refine wps_ret ?_
      simp [retVal, Tryz.f53, oneOr]
      exact ends_pure rfl (by simp [gotA, h2])
    · simp [placeL, h1] at h
noncomputable def e53 : Entry Tryz.prog := mkE 53 [[2], []] (fun x : List At1 × Str => [aAttrs x.1, .str x.2]) (fun x => x.1.length ≤ 1000) (fun x => gotA (getAt x.2 x.1)) fun x hx => c53 (T := [e85]) rfl x.1 x.2 hx
theorem injS (x y : List At1 × Str) (h : [aAttrs x.1, .str x.2] = [aAttrs y.1, .str y.2]) : x = y := by
  simp at h; exact Prod.ext (inj_aAttrs h.1) h.2
theorem k53 {T : List (Entry Tryz.prog)} (hT : findE 53 T = some e53.g) {L : List At1} (nm : Str) (hl : L.length ≤ 1000) {H : Heap} {l : AV} (h : thawA H [2] l = some (aAttrs L)) : callL (ctx T) (.fn 53) [l, .str nm] H = some (gotA (getAt nm L), H) :=
  mkE_scalar hT injS (L, nm) hl rfl (by simp [h])
theorem getAt_at {nm : Str} {L : List At1} {i : Nat} (h : i < L.length) : getAt nm (L.drop i) = if L[i].1 = nm then some L[i].2 else getAt nm (L.drop (i + 1)) := by
  rw [List.drop_eq_getElem_cons h]; rfl
theorem c56 {T : List (Entry Tryz.prog)} (L : List At1) (nm : Str) (hl : L.length ≤ 1000) : CallAt (ctx T) 56 [aAttrs L, .str nm] ⟨0, []⟩ (gotA (getAt nm L)) ⟨0, []⟩ := by
  refine callAt_body (fn := Tryz.f56) (s0 := ⟨[0, 1, 4, 5, 6], [aAttrs L, .str nm, .undef, .undef, .undef], [], 25, ⟨0, [[]]⟩⟩) Tryz.func56 rfl rfl rfl ?_
  repeat refine wps_seq ?_
  refine wps_region callOK ?_
  simp [ofV, ofV1, mkC_P, writeVar, writeCells, readCells, allSingle, AV.single, getFs, getF, setFs, setF, Heap.get, Heap.set, Heap.new, Heap.kill, killF, pushF, Heap.ready, refs, sliceParts, fillA, replL]
  repeat refine wps_seq ?_
  refine wps_region callOK ?_
  simp [ofV, ofV1, mkC_P, writeVar, writeCells, readCells, allSingle, AV.single, getFs, getF, setFs, setF, Heap.get, Heap.set, Heap.new, Heap.kill, killF, pushF, Heap.ready, refs, sliceParts, fillA, replL]
  repeat refine wps_seq ?_
  refine wps_block (wps_loop' (fun i : Nat => (⟨[0, 1, 4, 5, 6], [aAttrs L, .str nm, .str [], .bool false, .int .i64 i], [], 25, ⟨0, [[]]⟩⟩ : St))
    (fun i => i ≤ L.length ∧ getAt nm L = getAt nm (L.drop i)) (fun i => L.length - i) [] [] 0 ⟨Nat.zero_le _, rfl⟩ ⟨rfl, rfl, rfl, by simp [fitL, fitV, pureV, pureL], FitH.nothing⟩ ?_)
  rintro i ⟨hi, hx⟩ B hB
  repeat refine wps_seq ?_
  refine wps_region callOK ?_
  simp [ofV, ofV1, mkC_P, writeVar, writeCells, readCells, allSingle, AV.single, getFs, getF, setFs, setF, Heap.get, Heap.set, Heap.new, Heap.kill, killF, pushF, Heap.ready, refs, sliceParts, fillA, replL, lenA1]
  repeat refine wps_seq ?_
  refine wps_cond rfl (fun h => ?_) fun h => ?_
  · simp at h
    repeat refine wps_seq ?_
    refine wps_skip ?_
    simp
    repeat refine wps_seq ?_
    refine wps_block ?_
    repeat refine wps_seq ?_
    refine wps_region callOK ?_
    simp [ofV, ofV1, mkC_P, writeVar, writeCells, readCells, allSingle, AV.single, getFs, getF, setFs, setF, Heap.get, Heap.set, Heap.new, Heap.kill, killF, pushF, Heap.ready, refs, sliceParts, fillA, replL, atA h]
    repeat refine wps_seq ?_
    refine wps_cond rfl (fun h2 => ?_) fun h2 => ?_
    · repeat refine wps_seq ?_
      refine wps_region callOK ?_
      simp [ofV, ofV1, mkC_P, writeVar, writeCells, readCells, allSingle, AV.single, getFs, getF, setFs, setF, Heap.get, Heap.set, Heap.new, Heap.kill, killF, pushF, Heap.ready, refs, sliceParts, fillA, replL, atA h]
      repeat refine wps_seq ?_
      refine wps_ret ?_
      simp [retVal, Tryz.f56, oneOr]
      simp at h2
      exact ends_pure rfl (by simp [gotA, hx, getAt_at h, h2])
    · repeat refine wps_seq ?_
      refine wps_skip ?_
      simp
      repeat refine wps_seq ?_
      refine wps_region callOK ?_
      simp [ofV, ofV1, mkC_P, writeVar, writeCells, readCells, allSingle, AV.single, getFs, getF, setFs, setF, Heap.get, Heap.set, Heap.new, Heap.kill, killF, pushF, Heap.ready, refs, sliceParts, fillA, replL, add_one (show i ≤ 1000000000 by omega)]
      simp at h2
      exact hB _ (i + 1) (by omega) ⟨by omega, by rw [hx, getAt_at h]; simp [h2]⟩ ⟨[], [], ⟨rfl, rfl, rfl, by simp [fitL, fitV, pureV, pureL], FitH.nothing⟩⟩
  · simp at h
    repeat refine wps_seq ?_
    refine wps_exit ?_
    simp
    repeat refine wps_seq ?_
    refine wps_region callOK ?_
    simp [ofV, ofV1, mkC_P, writeVar, writeCells, readCells, allSingle, AV.single, getFs, getF, setFs, setF, Heap.get, Heap.set, Heap.new, Heap.kill, killF, pushF, Heap.ready, refs, sliceParts, fillA, replL]
    repeat refine wps_seq ?_
    refine wps_ret ?_
    simp [retVal, Tryz.f56, oneOr]
    exact ends_pure rfl (by simp [gotA, hx, List.drop_eq_nil_of_le h, getAt])

noncomputable def e56 : Entry Tryz.prog := mkE 56 [[2], []] (fun x : List At1 × Str => [aAttrs x.1, .str x.2]) (fun x => x.1.length ≤ 1000) (fun x => gotA (getAt x.2 x.1)) fun x hx => c56 (T := []) x.1 x.2 hx
theorem k56 {T : List (Entry Tryz.prog)} (hT : findE 56 T = some e56.g) {L : List At1} (nm : Str) (hl : L.length ≤ 1000) {H : Heap} {l : AV} (h : thawA H [2] l = some (aAttrs L)) : callL (ctx T) (.fn 56) [l, .str nm] H = some (gotA (getAt nm L), H) :=
  mkE_scalar hT injS (L, nm) hl rfl (by simp [h])
end Go.Proofs.YtmadcegoionpjaaGreatDoor
namespace Go.Proofs.YtmadcegoionpjaaGreatDoor
set_option linter.unusedSimpArgs false
set_option linter.unusedVariables false
open Go Go.RowKit
set_option maxRecDepth 100000

structure Nd where
  kind : Int
  space : Int
  name : Str
  attrs : List At1
  data : Str
  up : Int
  kids : List Int
def aInt (i : Int) : AV := .int .i64 i
abbrev aInts (L : List Int) : AV := .fslc 1 (L.map aInt)
def Nd.cs (n : Nd) : List AV := [aInt n.kind, aInt n.space, .str n.name, aAttrs n.attrs, .str n.data, aInt n.up, aInts n.kids]
def aNode (n : Nd) : AV := .agg n.cs
abbrev Tr := List Nd
abbrev aNodes (t : Tr) : AV := .fslc 7 (t.map aNode)
def aTree (t : Tr) : AV := .agg [aNodes t]
@[simp] theorem pure_aInts (L : List Int) : pureV (aInts L) = true := by simp [aInts, pureV]
@[simp] theorem pure_aNode (n : Nd) : pureV (aNode n) = true := by simp [aNode, Nd.cs, aInt, pureV, pureL]
@[simp] theorem pure_aNodes (t : Tr) : pureV (aNodes t) = true := by simp [aNodes, pureV]
@[simp] theorem pure_aTree (t : Tr) : pureV (aTree t) = true := by simp [aTree, pureV, pureL]
@[simp] theorem cells_aNode (n : Nd) : (aNode n).cells = n.cs := rfl
@[simp] theorem cells_aTree (t : Tr) : (aTree t).cells = [aNodes t] := rfl
@[simp] theorem cells_aInt (i : Int) : (aInt i).cells = [aInt i] := rfl
@[simp] theorem ok_aNode (n : Nd) : okV (aNode n) = true := by simp [aNode, Nd.cs, aInt, aAttrs, aInts, okV, pureV, pureL]
theorem th_aNode (H : Heap) (n : Nd) : thawA H [] (aNode n) = some (aNode n) := thawA_ok (by simp)
theorem inj_aInts {L M : List Int} (h : aInts L = aInts M) : L = M := by
  simp only [aInts, AV.fslc.injEq, true_and] at h
  exact List.map_inj_right (fun x y e => by simp [aInt] at e; exact e) |>.1 h
theorem inj_aNode {a b : Nd} (h : aNode a = aNode b) : a = b := by
  obtain ⟨k, s, n, at_, d, u, ks⟩ := a
  obtain ⟨k', s', n', at', d', u', ks'⟩ := b
  simp [aNode, Nd.cs, aInt] at h
  obtain ⟨h1, h2, h3, h4, h5, h6, h7⟩ := h
  have h7' : aInts ks = aInts ks' := by show AV.fslc 1 _ = AV.fslc 1 _; rw [h7]
  simp [h1, h2, h3, inj_aAttrs h4, h5, h6, inj_aInts h7']
theorem inj_aTree {a b : Tr} (h : aTree a = aTree b) : a = b := by
  simp [aTree, aNodes] at h
  exact List.map_inj_right (fun x y e => inj_aNode e) |>.1 h

abbrev wId : Str := [105, 100]
abbrev wName : Str := [110, 97, 109, 101]
abbrev wEmbed : Str := [101, 109, 98, 101, 100]
abbrev wForm : Str := [102, 111, 114, 109]
abbrev wIframe : Str := [105, 102, 114, 97, 109, 101]
abbrev wObject : Str := [111, 98, 106, 101, 99, 116]
abbrev wImg : Str := [105, 109, 103]
/-- the value of an attribute of a node -/
def valOf (n : Nd) (nm : Str) : Str := (getAt nm n.attrs).getD []
def toldB (n : Nd) (x : Str) : Bool :=
  if n.kind = 1 ∧ n.space = 0 then
    if n.name = wEmbed ∨ n.name = wForm ∨ n.name = wIframe then decide (valOf n wName = x)
    else if n.name = wObject then decide (valOf n wName = x) || decide (valOf n wId = x)
    else if n.name = wImg then decide (valOf n wName = x) || (!decide (valOf n wName = []) && decide (valOf n wId = x))
    else false
  else false
/-- MADE by mkD6.py from here on -/
theorem docs_told_wEmbed {T : List (Entry Tryz.prog)} (hG : findE 53 T = some e53.g) (kind space : Int) (name : Str) (attrs : List At1) (kids : List Int) (data x : Str) (up : Int) (hl : attrs.length ≤ 1000) :
    CallAt (ctx T) 97 [aNode ⟨1, 0, wEmbed, attrs, data, up, kids⟩, .str x] ⟨0, []⟩ (.bool (toldB ⟨1, 0, wEmbed, attrs, data, up, kids⟩ x)) ⟨0, []⟩ := by
  have hI := fun H => k53 hG wId hl (th_aAttrs H _)
  have hN := fun H => k53 hG wName hl (th_aAttrs H _)
  simp only [aAttrs] at hl hI hN
  generalize hv : (getAt wId attrs).getD [] = vi at *
  generalize hw : (getAt wName attrs).getD [] = vn at *
  refine callAt_body (fn := Tryz.f97) (s0 := ⟨[0, 1, 2, 4, 5, 7, 30, 31], [aNode ⟨1, 0, wEmbed, attrs, data, up, kids⟩, .str x, .undef, .undef, .undef, .undef, .undef, .undef], [], 62, ⟨0, [[]]⟩⟩) Tryz.func97 rfl rfl rfl ?_
  (repeat (first
    | (refine wps_seq ?_)
    | (refine wps_block ?_)
    | (refine wps_label ?_; simp only [thenQ, blockQ])
    | ((refine wps_region callOK ?_); simp [ofV, ofV1, mkC_P, writeVar, writeCells, readCells, allSingle, AV.single, getFs, getF, setFs, setF, Heap.get, Heap.set, Heap.new, Heap.kill, killF, pushF, Heap.ready, refs, sliceParts, fillA, replL, aNode, Nd.cs, aInt, aAttrs, aInts, gotA, hv, hw, hI, hN])
    | (refine wps_cond (t := true) rfl (fun _ => ?_) (fun h => by cases h))
    | (refine wps_cond (t := false) rfl (fun h => by cases h) (fun _ => ?_))
    | ((refine wps_skip ?_); simp only [thenQ, blockQ])
    | ((refine wps_exit ?_); simp [thenQ, blockQ])))
  repeat refine wps_seq ?_
  refine wps_ret ?_
  simp [retVal, Tryz.f97, oneOr, thenQ, blockQ]
  exact ends_pure rfl (by simp [toldB, valOf, hv, hw])
theorem docs_told_wForm {T : List (Entry Tryz.prog)} (hG : findE 53 T = some e53.g) (kind space : Int) (name : Str) (attrs : List At1) (kids : List Int) (data x : Str) (up : Int) (hl : attrs.length ≤ 1000) :
    CallAt (ctx T) 97 [aNode ⟨1, 0, wForm, attrs, data, up, kids⟩, .str x] ⟨0, []⟩ (.bool (toldB ⟨1, 0, wForm, attrs, data, up, kids⟩ x)) ⟨0, []⟩ := by
  have hI := fun H => k53 hG wId hl (th_aAttrs H _)
  have hN := fun H => k53 hG wName hl (th_aAttrs H _)
  simp only [aAttrs] at hl hI hN
  generalize hv : (getAt wId attrs).getD [] = vi at *
  generalize hw : (getAt wName attrs).getD [] = vn at *
  refine callAt_body (fn := Tryz.f97) (s0 := ⟨[0, 1, 2, 4, 5, 7, 30, 31], [aNode ⟨1, 0, wForm, attrs, data, up, kids⟩, .str x, .undef, .undef, .undef, .undef, .undef, .undef], [], 62, ⟨0, [[]]⟩⟩) Tryz.func97 rfl rfl rfl ?_
  (repeat (first
    | (refine wps_seq ?_)
    | (refine wps_block ?_)
    | (refine wps_label ?_; simp only [thenQ, blockQ])
    | ((refine wps_region callOK ?_); simp [ofV, ofV1, mkC_P, writeVar, writeCells, readCells, allSingle, AV.single, getFs, getF, setFs, setF, Heap.get, Heap.set, Heap.new, Heap.kill, killF, pushF, Heap.ready, refs, sliceParts, fillA, replL, aNode, Nd.cs, aInt, aAttrs, aInts, gotA, hv, hw, hI, hN])
    | (refine wps_cond (t := true) rfl (fun _ => ?_) (fun h => by cases h))
    | (refine wps_cond (t := false) rfl (fun h => by cases h) (fun _ => ?_))
    | ((refine wps_skip ?_); simp only [thenQ, blockQ])
    | ((refine wps_exit ?_); simp [thenQ, blockQ])))
  repeat refine wps_seq ?_
  refine wps_ret ?_
  simp [retVal, Tryz.f97, oneOr, thenQ, blockQ]
  exact ends_pure rfl (by simp [toldB, valOf, hv, hw])
theorem docs_told_wIframe {T : List (Entry Tryz.prog)} (hG : findE 53 T = some e53.g) (kind space : Int) (name : Str) (attrs : List At1) (kids : List Int) (data x : Str) (up : Int) (hl : attrs.length ≤ 1000) :
    CallAt (ctx T) 97 [aNode ⟨1, 0, wIframe, attrs, data, up, kids⟩, .str x] ⟨0, []⟩ (.bool (toldB ⟨1, 0, wIframe, attrs, data, up, kids⟩ x)) ⟨0, []⟩ := by
  have hI := fun H => k53 hG wId hl (th_aAttrs H _)
  have hN := fun H => k53 hG wName hl (th_aAttrs H _)
  simp only [aAttrs] at hl hI hN
  generalize hv : (getAt wId attrs).getD [] = vi at *
  generalize hw : (getAt wName attrs).getD [] = vn at *
  refine callAt_body (fn := Tryz.f97) (s0 := ⟨[0, 1, 2, 4, 5, 7, 30, 31], [aNode ⟨1, 0, wIframe, attrs, data, up, kids⟩, .str x, .undef, .undef, .undef, .undef, .undef, .undef], [], 62, ⟨0, [[]]⟩⟩) Tryz.func97 rfl rfl rfl ?_
  (repeat (first
    | (refine wps_seq ?_)
    | (refine wps_block ?_)
    | (refine wps_label ?_; simp only [thenQ, blockQ])
    | ((refine wps_region callOK ?_); simp [ofV, ofV1, mkC_P, writeVar, writeCells, readCells, allSingle, AV.single, getFs, getF, setFs, setF, Heap.get, Heap.set, Heap.new, Heap.kill, killF, pushF, Heap.ready, refs, sliceParts, fillA, replL, aNode, Nd.cs, aInt, aAttrs, aInts, gotA, hv, hw, hI, hN])
    | (refine wps_cond (t := true) rfl (fun _ => ?_) (fun h => by cases h))
    | (refine wps_cond (t := false) rfl (fun h => by cases h) (fun _ => ?_))
    | ((refine wps_skip ?_); simp only [thenQ, blockQ])
    | ((refine wps_exit ?_); simp [thenQ, blockQ])))
  repeat refine wps_seq ?_
  refine wps_ret ?_
  simp [retVal, Tryz.f97, oneOr, thenQ, blockQ]
  exact ends_pure rfl (by simp [toldB, valOf, hv, hw])
theorem docs_told_wObject {T : List (Entry Tryz.prog)} (hG : findE 53 T = some e53.g) (kind space : Int) (name : Str) (attrs : List At1) (kids : List Int) (data x : Str) (up : Int) (hl : attrs.length ≤ 1000) :
    CallAt (ctx T) 97 [aNode ⟨1, 0, wObject, attrs, data, up, kids⟩, .str x] ⟨0, []⟩ (.bool (toldB ⟨1, 0, wObject, attrs, data, up, kids⟩ x)) ⟨0, []⟩ := by
  have hI := fun H => k53 hG wId hl (th_aAttrs H _)
  have hN := fun H => k53 hG wName hl (th_aAttrs H _)
  simp only [aAttrs] at hl hI hN
  generalize hv : (getAt wId attrs).getD [] = vi at *
  generalize hw : (getAt wName attrs).getD [] = vn at *
  rcases Bool.eq_false_or_eq_true (decide (vn = x)) with b1 | b1
  all_goals
    refine callAt_body (fn := Tryz.f97) (s0 := ⟨[0, 1, 2, 4, 5, 7, 30, 31], [aNode ⟨1, 0, wObject, attrs, data, up, kids⟩, .str x, .undef, .undef, .undef, .undef, .undef, .undef], [], 62, ⟨0, [[]]⟩⟩) Tryz.func97 rfl rfl rfl ?_
    (repeat (first
      | (refine wps_seq ?_)
      | (refine wps_block ?_)
      | (refine wps_label ?_; simp only [thenQ, blockQ])
      | ((refine wps_region callOK ?_); simp [ofV, ofV1, mkC_P, writeVar, writeCells, readCells, allSingle, AV.single, getFs, getF, setFs, setF, Heap.get, Heap.set, Heap.new, Heap.kill, killF, pushF, Heap.ready, refs, sliceParts, fillA, replL, aNode, Nd.cs, aInt, aAttrs, aInts, gotA, hv, hw, hI, hN, b1])
      | (refine wps_cond (t := true) rfl (fun _ => ?_) (fun h => by cases h))
      | (refine wps_cond (t := false) rfl (fun h => by cases h) (fun _ => ?_))
      | ((refine wps_skip ?_); simp only [thenQ, blockQ])
      | ((refine wps_exit ?_); simp [thenQ, blockQ])))
    repeat refine wps_seq ?_
    refine wps_ret ?_
    simp [retVal, Tryz.f97, oneOr, thenQ, blockQ]
    exact ends_pure rfl (by simp [toldB, valOf, hv, hw, b1])
theorem docs_told_wImg {T : List (Entry Tryz.prog)} (hG : findE 53 T = some e53.g) (kind space : Int) (name : Str) (attrs : List At1) (kids : List Int) (data x : Str) (up : Int) (hl : attrs.length ≤ 1000) :
    CallAt (ctx T) 97 [aNode ⟨1, 0, wImg, attrs, data, up, kids⟩, .str x] ⟨0, []⟩ (.bool (toldB ⟨1, 0, wImg, attrs, data, up, kids⟩ x)) ⟨0, []⟩ := by
  have hI := fun H => k53 hG wId hl (th_aAttrs H _)
  have hN := fun H => k53 hG wName hl (th_aAttrs H _)
  simp only [aAttrs] at hl hI hN
  generalize hv : (getAt wId attrs).getD [] = vi at *
  generalize hw : (getAt wName attrs).getD [] = vn at *
  rcases Bool.eq_false_or_eq_true (decide (vn = x)) with b1 | b1 <;> rcases Bool.eq_false_or_eq_true (decide (vn = [])) with b3 | b3
  all_goals
    refine callAt_body (fn := Tryz.f97) (s0 := ⟨[0, 1, 2, 4, 5, 7, 30, 31], [aNode ⟨1, 0, wImg, attrs, data, up, kids⟩, .str x, .undef, .undef, .undef, .undef, .undef, .undef], [], 62, ⟨0, [[]]⟩⟩) Tryz.func97 rfl rfl rfl ?_
    (repeat (first
      | (refine wps_seq ?_)
      | (refine wps_block ?_)
      | (refine wps_label ?_; simp only [thenQ, blockQ])
      | ((refine wps_region callOK ?_); simp [ofV, ofV1, mkC_P, writeVar, writeCells, readCells, allSingle, AV.single, getFs, getF, setFs, setF, Heap.get, Heap.set, Heap.new, Heap.kill, killF, pushF, Heap.ready, refs, sliceParts, fillA, replL, aNode, Nd.cs, aInt, aAttrs, aInts, gotA, hv, hw, hI, hN, b1, b3])
      | (refine wps_cond (t := true) rfl (fun _ => ?_) (fun h => by cases h))
      | (refine wps_cond (t := false) rfl (fun h => by cases h) (fun _ => ?_))
      | ((refine wps_skip ?_); simp only [thenQ, blockQ])
      | ((refine wps_exit ?_); simp [thenQ, blockQ])))
    repeat refine wps_seq ?_
    refine wps_ret ?_
    simp [retVal, Tryz.f97, oneOr, thenQ, blockQ]
    exact ends_pure rfl (by simp [toldB, valOf, hv, hw, b1, b3])
theorem docs_told_other {T : List (Entry Tryz.prog)} (hG : findE 53 T = some e53.g) (kind space : Int) (name : Str) (attrs : List At1) (kids : List Int) (data x : Str) (up : Int) (hl : attrs.length ≤ 1000) (e0 : ¬ name = wEmbed) (e1 : ¬ name = wForm) (e2 : ¬ name = wIframe) (e3 : ¬ name = wObject) (e4 : ¬ name = wImg) :
    CallAt (ctx T) 97 [aNode ⟨1, 0, name, attrs, data, up, kids⟩, .str x] ⟨0, []⟩ (.bool (toldB ⟨1, 0, name, attrs, data, up, kids⟩ x)) ⟨0, []⟩ := by
  have hI := fun H => k53 hG wId hl (th_aAttrs H _)
  have hN := fun H => k53 hG wName hl (th_aAttrs H _)
  simp only [aAttrs] at hl hI hN
  generalize hv : (getAt wId attrs).getD [] = vi at *
  generalize hw : (getAt wName attrs).getD [] = vn at *
  refine callAt_body (fn := Tryz.f97) (s0 := ⟨[0, 1, 2, 4, 5, 7, 30, 31], [aNode ⟨1, 0, name, attrs, data, up, kids⟩, .str x, .undef, .undef, .undef, .undef, .undef, .undef], [], 62, ⟨0, [[]]⟩⟩) Tryz.func97 rfl rfl rfl ?_
  (repeat (first
    | (refine wps_seq ?_)
    | (refine wps_block ?_)
    | (refine wps_label ?_; simp only [thenQ, blockQ])
    | ((refine wps_region callOK ?_); simp [ofV, ofV1, mkC_P, writeVar, writeCells, readCells, allSingle, AV.single, getFs, getF, setFs, setF, Heap.get, Heap.set, Heap.new, Heap.kill, killF, pushF, Heap.ready, refs, sliceParts, fillA, replL, aNode, Nd.cs, aInt, aAttrs, aInts, gotA, hv, hw, hI, hN, e0, e1, e2, e3, e4])
    | (refine wps_cond (t := true) rfl (fun _ => ?_) (fun h => by cases h))
    | (refine wps_cond (t := false) rfl (fun h => by cases h) (fun _ => ?_))
    | ((refine wps_skip ?_); simp only [thenQ, blockQ])
    | ((refine wps_exit ?_); simp [thenQ, blockQ])))
  repeat refine wps_seq ?_
  refine wps_ret ?_
  simp [retVal, Tryz.f97, oneOr, thenQ, blockQ]
  exact ends_pure rfl (by simp [toldB, valOf, hv, hw, e0, e1, e2, e3, e4])
theorem docs_told_space {T : List (Entry Tryz.prog)} (hG : findE 53 T = some e53.g) (kind space : Int) (name : Str) (attrs : List At1) (kids : List Int) (data x : Str) (up : Int) (hl : attrs.length ≤ 1000) (hs : ¬ space = 0) :
    CallAt (ctx T) 97 [aNode ⟨1, space, name, attrs, data, up, kids⟩, .str x] ⟨0, []⟩ (.bool (toldB ⟨1, space, name, attrs, data, up, kids⟩ x)) ⟨0, []⟩ := by
  have hI := fun H => k53 hG wId hl (th_aAttrs H _)
  have hN := fun H => k53 hG wName hl (th_aAttrs H _)
  simp only [aAttrs] at hl hI hN
  generalize hv : (getAt wId attrs).getD [] = vi at *
  generalize hw : (getAt wName attrs).getD [] = vn at *
  refine callAt_body (fn := Tryz.f97) (s0 := ⟨[0, 1, 2, 4, 5, 7, 30, 31], [aNode ⟨1, space, name, attrs, data, up, kids⟩, .str x, .undef, .undef, .undef, .undef, .undef, .undef], [], 62, ⟨0, [[]]⟩⟩) Tryz.func97 rfl rfl rfl ?_
  (repeat (first
    | (refine wps_seq ?_)
    | (refine wps_block ?_)
    | (refine wps_label ?_; simp only [thenQ, blockQ])
    | ((refine wps_region callOK ?_); simp [ofV, ofV1, mkC_P, writeVar, writeCells, readCells, allSingle, AV.single, getFs, getF, setFs, setF, Heap.get, Heap.set, Heap.new, Heap.kill, killF, pushF, Heap.ready, refs, sliceParts, fillA, replL, aNode, Nd.cs, aInt, aAttrs, aInts, gotA, hv, hw, hs])
    | (refine wps_cond (t := true) rfl (fun _ => ?_) (fun h => by cases h))
    | (refine wps_cond (t := false) rfl (fun h => by cases h) (fun _ => ?_))
    | ((refine wps_skip ?_); simp only [thenQ, blockQ])
    | ((refine wps_exit ?_); simp [thenQ, blockQ])))
  repeat refine wps_seq ?_
  refine wps_ret ?_
  simp [retVal, Tryz.f97, oneOr, thenQ, blockQ]
  exact ends_pure rfl (by simp [toldB, valOf, hv, hw, hs])
theorem docs_told_kind {T : List (Entry Tryz.prog)} (hG : findE 53 T = some e53.g) (kind space : Int) (name : Str) (attrs : List At1) (kids : List Int) (data x : Str) (up : Int) (hl : attrs.length ≤ 1000) (hk : ¬ kind = 1) :
    CallAt (ctx T) 97 [aNode ⟨kind, space, name, attrs, data, up, kids⟩, .str x] ⟨0, []⟩ (.bool (toldB ⟨kind, space, name, attrs, data, up, kids⟩ x)) ⟨0, []⟩ := by
  have hI := fun H => k53 hG wId hl (th_aAttrs H _)
  have hN := fun H => k53 hG wName hl (th_aAttrs H _)
  simp only [aAttrs] at hl hI hN
  generalize hv : (getAt wId attrs).getD [] = vi at *
  generalize hw : (getAt wName attrs).getD [] = vn at *
  refine callAt_body (fn := Tryz.f97) (s0 := ⟨[0, 1, 2, 4, 5, 7, 30, 31], [aNode ⟨kind, space, name, attrs, data, up, kids⟩, .str x, .undef, .undef, .undef, .undef, .undef, .undef], [], 62, ⟨0, [[]]⟩⟩) Tryz.func97 rfl rfl rfl ?_
  (repeat (first
    | (refine wps_seq ?_)
    | (refine wps_block ?_)
    | (refine wps_label ?_; simp only [thenQ, blockQ])
    | ((refine wps_region callOK ?_); simp [ofV, ofV1, mkC_P, writeVar, writeCells, readCells, allSingle, AV.single, getFs, getF, setFs, setF, Heap.get, Heap.set, Heap.new, Heap.kill, killF, pushF, Heap.ready, refs, sliceParts, fillA, replL, aNode, Nd.cs, aInt, aAttrs, aInts, gotA, hv, hw, hk])
    | (refine wps_cond (t := true) rfl (fun _ => ?_) (fun h => by cases h))
    | (refine wps_cond (t := false) rfl (fun h => by cases h) (fun _ => ?_))
    | ((refine wps_skip ?_); simp only [thenQ, blockQ])
    | ((refine wps_exit ?_); simp [thenQ, blockQ])))
  repeat refine wps_seq ?_
  refine wps_ret ?_
  simp [retVal, Tryz.f97, oneOr, thenQ, blockQ]
  exact ends_pure rfl (by simp [toldB, valOf, hv, hw, hk])
theorem c97 {T : List (Entry Tryz.prog)} (hG : findE 53 T = some e53.g) (n : Nd) (x : Str) (hl : n.attrs.length ≤ 1000) :
    CallAt (ctx T) 97 [aNode n, .str x] ⟨0, []⟩ (.bool (toldB n x)) ⟨0, []⟩ := by
  obtain ⟨kind, space, name, attrs, data, up, kids⟩ := n
  simp only at hl
  by_cases hk : kind = 1
  · subst hk
    by_cases hs : space = 0
    · subst hs
      by_cases e0 : name = wEmbed
      · subst e0; exact docs_told_wEmbed hG 1 0 [] attrs kids data x up hl
      by_cases e1 : name = wForm
      · subst e1; exact docs_told_wForm hG 1 0 [] attrs kids data x up hl
      by_cases e2 : name = wIframe
      · subst e2; exact docs_told_wIframe hG 1 0 [] attrs kids data x up hl
      by_cases e3 : name = wObject
      · subst e3; exact docs_told_wObject hG 1 0 [] attrs kids data x up hl
      by_cases e4 : name = wImg
      · subst e4; exact docs_told_wImg hG 1 0 [] attrs kids data x up hl
      exact docs_told_other hG 1 0 name attrs kids data x up hl e0 e1 e2 e3 e4
    · exact docs_told_space hG 1 space name attrs kids data x up hl hs
  · exact docs_told_kind hG kind space name attrs kids data x up hl hk
noncomputable def e97 : Entry Tryz.prog := mkE 97 [[], []] (fun x : Nd × Str => [aNode x.1, .str x.2]) (fun x => x.1.attrs.length ≤ 1000) (fun x => .bool (toldB x.1 x.2)) fun x hx => c97 (T := [e53]) rfl x.1 x.2 hx
theorem injN (x y : Nd × Str) (h : [aNode x.1, .str x.2] = [aNode y.1, .str y.2]) : x = y := by
  simp at h; exact Prod.ext (inj_aNode h.1) h.2
theorem k97 {T : List (Entry Tryz.prog)} (hT : findE 97 T = some e97.g) {n : Nd} (x : Str) (hl : n.attrs.length ≤ 1000) (H : Heap) : callL (ctx T) (.fn 97) [aNode n, .str x] H = some (.bool (toldB n x), H) :=
  mkE_scalar hT injN (n, x) hl rfl (by simp [th_aNode])
theorem in42 (x : Str) : inW [101, 109, 98, 101, 100, 32, 102, 111, 114, 109, 32, 105, 102, 114, 97, 109, 101, 32, 105, 109, 103, 32, 111, 98, 106, 101, 99, 116] x = decide (x = wEmbed ∨ x = wForm ∨ x = wIframe ∨ x = wImg ∨ x = wObject) := by
  have h : wsplit [101, 109, 98, 101, 100, 32, 102, 111, 114, 109, 32, 105, 102, 114, 97, 109, 101, 32, 105, 109, 103, 32, 111, 98, 106, 101, 99, 116] = [wEmbed, wForm, wIframe, wImg, wObject] := by decide +kernel
  simp only [inW, h]
  simp
end Go.Proofs.YtmadcegoionpjaaGreatDoor
