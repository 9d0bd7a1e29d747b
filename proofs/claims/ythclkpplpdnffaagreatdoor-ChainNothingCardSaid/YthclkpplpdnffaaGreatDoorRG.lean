/- The order's walk, as a function that is ranged over: rows of frames, facts of rounds. No condition. -/
import Derived.Test.YthclkpplpdnffaaGreatDoorRF
import Derived.Test.YthclkpplpdnffaaGreatDoorChecked
namespace Go.Proofs.YthclkpplpdnffaaGreatDoor
set_option linter.unusedSimpArgs false
set_option linter.unusedVariables false
open Go Go.RowKit
set_option maxRecDepth 100000
def keepTbl : List (List Nat) := [[], [], [], [0, 1, 2, 4, 5, 7, 9, 10, 20, 21, 22, 57, 58, 59], [0, 1, 2, 3, 4, 8, 9], [0, 1, 2, 3, 4, 8], [0, 1, 2, 4], [0, 1], [0, 1, 2, 3, 4], [0, 1, 2, 4], [0, 1, 2], [0, 1, 2, 4, 5, 7, 9, 10, 11], [0, 1, 4], [0, 1, 2, 3, 5, 6, 7, 8, 9], [0, 1, 2, 4, 6, 13, 14, 15], [0, 1, 4, 6, 11, 12, 13], [0, 1], [0, 1, 2, 3, 4, 6, 7, 8, 9, 10, 12, 21, 22, 23, 39, 40, 41], [0, 1, 4, 5, 12, 13], [0, 2], [0, 1, 2, 3, 6], [0, 2, 3, 5, 6, 8, 9, 10, 11, 25, 26, 27], [0, 1, 2, 3, 4, 5, 6], [0, 1, 4, 5], [0, 1, 2, 3, 6, 7, 8, 10, 39, 40, 41], [0, 1, 2, 4, 5, 6, 7, 8, 9, 10], [0, 1, 2, 3, 4, 5, 6, 7], [0, 1, 2], [0, 1, 2], [0, 1, 2, 3], [0, 1, 2, 4], [0, 1, 4, 5, 7, 8], [0, 1, 2, 4], [0, 1, 2, 3, 6, 7, 8, 10], [0, 1, 4, 5, 6, 7], [0, 1, 2], [0, 1, 2], [0, 1, 2, 3, 6, 7], [0, 1, 2, 4], [1, 2, 3, 5], [0, 1, 2, 4], [0, 1, 4], [0, 1, 4, 5, 6], [0, 1, 2, 4, 5], [0, 2, 3, 4], [0, 1, 4, 5, 6, 7], [0, 1, 2, 4, 5, 7, 8, 9, 10], [0, 2, 3, 4, 5], [0, 2], [0, 1, 4, 5, 6], [0, 1, 2, 4], [0, 1, 2, 4, 5, 6, 7, 8, 9], [0, 1, 2, 3, 4, 5, 7, 8, 9, 10, 11, 12, 13, 21, 22, 23, 83, 84, 85], [0, 1, 2, 3, 4, 6, 7], [0, 1, 2, 3, 4, 6], [0, 1, 2, 4], [0, 1, 4, 5, 6], [0, 1, 4], [0, 1, 4], [0, 1, 4, 5, 7, 8], [0, 2, 4, 8, 9, 10], [0, 1, 2, 4, 5, 7, 8, 13, 14, 15, 33], [0, 1, 2, 4, 5, 7, 9, 10, 11], [0], [0, 1, 3, 4], [0, 1, 2, 3, 8], [0, 2, 3, 4, 5], [0, 2], [0, 1, 4, 5], [0, 1, 4], [0, 1, 2, 3, 5, 6], [0, 1, 2], [0, 1, 2, 3], [0, 1, 2, 3, 4, 5, 8, 10, 11, 12, 13, 14], [0, 2, 3, 4, 5, 6, 8, 9, 10, 47, 48, 49], [0, 1, 2, 3, 4, 10, 11], [0, 2], [0, 1, 2, 3, 4, 8, 9, 10, 11], [0, 1, 2, 3, 4, 5, 6, 7, 8], [0, 1, 2, 3, 4, 5, 11, 12, 20, 21], [0, 1, 4, 5], [0, 1, 2, 3, 4], [0, 1, 2], [0, 1, 4, 5, 6, 7, 8], [0, 1, 3, 4], [0, 2, 3, 4, 5, 8, 9, 10], [0, 1, 4, 5], [0, 2, 3, 4, 5], [0, 1, 2, 3, 6, 7, 8], [0, 1, 2, 4, 5, 7, 30, 31], [0, 1, 2, 4], [0, 1, 2, 3, 6, 7], [0, 1, 4, 5, 6, 7], [0, 1, 2, 6, 7, 8], [0, 1, 2, 3, 8, 9, 10, 11], [0, 2], [0, 1, 2, 3, 8, 9, 10, 11, 12, 14, 16], [0, 2, 3], [0, 1, 3, 4, 5], [0, 1, 4, 5, 6], [0, 1, 4], [0, 1, 4], [0, 1, 4], [0, 1, 4], [0, 1, 2, 6, 7, 8, 9, 10, 11, 16], [0, 1, 4], [0, 1, 4], [0, 1, 2, 6], [0, 1, 2, 6], [0, 1, 4, 5, 6, 7, 9], [0, 1, 2, 3, 6, 7], [0, 1, 2, 3, 4, 5, 6, 12, 13, 14, 15], [0, 1, 2, 3, 4, 5, 6, 8, 9, 10], [0, 1, 2, 3], [0, 1, 2, 3, 6, 7], [0, 1, 3, 4, 5, 6, 7, 8, 9], [0, 1, 4], [0, 2, 3, 4], [0, 1, 4], [0, 2], [0, 1, 4, 5, 7, 8], [0, 1, 2, 3], [0, 2], [0, 1, 2, 4, 5, 6], [0, 1, 4, 5], [0, 1, 2, 6, 7, 8, 9, 10], [0, 1, 4, 5, 6, 7, 8, 9], [0, 1, 4, 5, 6, 7, 8], [0, 1, 2], [0, 1, 2, 3, 4], [0, 1, 4, 5, 6], [0, 1, 2, 6], [0, 1, 2, 4, 6, 8], [0, 1, 4, 5, 6], [0, 1, 2, 4, 6, 7, 8, 9], [0, 1, 2, 4, 5, 6, 7], [0, 2, 3, 4], [0, 1, 4, 5], [0, 1, 4], [0, 1, 4], [0, 1, 4, 5, 6, 7], [0, 1, 4], [0, 1, 4], [0, 1, 4, 5, 6], [0, 1, 4], [0, 1, 4, 5], [0, 1, 4, 5], [0, 1, 4], [0, 1, 4], [0, 1, 4, 5, 6], [0, 1, 4, 5], [0, 1, 4], [0, 1, 4, 5], [0, 1, 2, 6], [0, 1], [0, 1, 4], [0, 1, 4], [0, 1, 4, 6, 7], [0, 1, 4, 6], [0, 1, 4, 6, 7, 8], [0, 1, 4, 5, 6, 7, 8], [0, 1, 4, 5, 6, 7, 8], [0, 1, 4], [0, 1, 4, 5, 6, 7], [0, 1, 2, 6, 7, 8, 9, 10, 11, 12, 13, 15, 16, 17, 85, 99, 100, 101], [0, 2, 3], [0, 2], [0, 2], [0, 2, 3], [0, 1, 4, 5, 6, 7, 8, 9, 10, 11, 12, 13, 14, 15, 16], [0, 1, 2, 3, 4, 10, 11, 12, 13, 14, 15, 16, 17, 18], [0, 1, 2], [0, 1, 4, 5, 6, 7, 8, 9, 10, 11, 12, 13], [0, 1, 4, 5, 7, 8], [0, 1, 4, 5, 6, 7, 8, 9, 10, 11, 14, 15, 47, 48, 49], [0, 2], [0, 1, 2, 3, 6, 7], [0, 1, 2, 6, 7], [0, 2, 3, 4, 5, 6, 7, 8, 9, 10], [0, 1, 4, 5, 6, 7], [0, 1, 4, 5, 6, 7, 8], [0, 1, 4], [0, 1, 4, 5, 6, 7, 8], [0, 2], [0, 2, 3, 4], [0, 1, 4, 5], [0, 1, 4], [0, 1, 2], [0, 1, 2, 6, 7, 8], [0, 2], [0, 1, 2, 3, 8], [0, 2], [0], [0, 1, 4], [0], [0, 1, 4, 5, 6, 7, 8, 9, 10, 11, 12, 13, 14, 15, 16], [0, 1, 4, 5, 6], [0, 2], [0, 1, 2, 6], [0, 1], [0, 1], [0], [0, 1, 4], [0], [0, 1], [0, 1, 4], [0, 1, 2, 6], [0, 1, 2, 3, 6, 7], [0, 1, 4, 5, 6], [0, 1, 4, 5, 6], [0, 1, 2, 3, 6, 7, 8, 9, 10, 11], [0, 1, 4], [0, 2, 3], [0, 1, 4], [0, 1, 4], [0], [0, 1, 4], [0, 2], [0, 1, 4], [0, 2, 3, 4], [0], [0, 1, 4, 5], [0, 2, 3, 4], [0, 1], [0, 1, 2, 4], [0, 1, 2, 3, 8], [0], [0, 1], [0, 1, 2, 3, 4, 8, 9, 10], [0, 1, 2, 3, 6, 7], [0, 1], [0, 2], [0, 2, 3, 4, 5], [0, 1, 4], [0, 1, 4], [0, 1, 4, 5], [0], [0], [0, 2], [0, 2, 3, 4, 5], [0, 2], [0, 2], [0, 2], [0, 2], [0, 2], [0, 1, 4, 5, 7, 8, 9], [0, 1, 4], [], [0, 2], [0, 1, 4, 5, 6, 7, 8, 9, 10], [0, 1, 2, 4], [0, 1, 4, 5, 6, 7], [0, 1, 4, 5], [0, 2], [0, 1, 4], [0, 1, 4, 5, 6, 7, 8, 9, 10, 11], [0, 1, 3, 4, 5, 7], [0, 1, 4], [0, 2, 3, 4, 5, 6, 7], [0, 2, 3, 4, 5, 6, 7], [0, 1, 2, 6, 7], [0, 1, 4, 5, 6, 7], [0, 2, 3, 4, 5, 6, 7, 8], [0, 2, 3, 4, 5, 6, 7], [0, 2], [0, 1, 2, 3, 6, 7], [0, 1, 4, 5], [0, 1, 4, 5, 6], [0, 1, 4, 5, 6], [0, 1, 4, 5, 6], [0, 1, 2, 3, 8, 9, 10, 11, 12, 13, 14, 15], [0, 1, 4, 5], [0, 1, 2, 6, 7], [0, 1, 2], [0, 1, 2, 6], [0, 2, 3], [0, 1, 2, 3, 6, 7], [0, 1, 4], [0, 1, 2, 4], [0, 1, 2, 3, 6, 7, 8], [0, 1, 2, 3, 6], [0, 1, 2, 6, 7], [0, 2], [0, 2], [], [0, 2, 3, 4, 5, 6, 7, 8], [0, 1, 4], [0, 2], [0, 1, 4, 5, 6, 7, 8], [0, 2], [0, 2], [0, 2, 3, 4, 5], [0, 1], [0, 2], [0, 1, 4], [0, 1, 4], [0, 1, 4, 5, 6, 7], [], [], [], [], [], [], [], [], [], [], [], [], [], [], [], [], [], [], [], [], [], [], [], [], [], [], []]
@[simp] theorem szT3 : sizeT Tryz.prog 3 = some 1 := rfl
@[simp] theorem agT3 : aggT Tryz.prog 3 = some false := rfl
@[simp] theorem byT3 : bytesT Tryz.prog 3 = some 8 := rfl
@[simp] theorem alT3 (H : Heap) : alV Tryz.prog H 3 = some (.ptr H.n 0, H.new (.cells [.int .i64 0])) := rfl
@[simp] theorem zeT3 : zeroOf Tryz.prog 3 = some (.int .i64 0) := rfl
attribute [simp] Tryz.underlying3
@[simp 500] theorem rvF3 (H : Heap) (cs : List AV) (o : Nat) : readVar Tryz.prog H 3 (.fptr cs o) = getL cs o := rfl
@[simp 500] theorem rvP3 (H : Heap) (b o : Nat) : readVar Tryz.prog H 3 (.ptr b o) = (H.get b).bind fun k => k.rd.bind fun cs => getL cs o := rfl
@[simp] theorem szT4 : sizeT Tryz.prog 4 = some 1 := rfl
@[simp] theorem agT4 : aggT Tryz.prog 4 = some false := rfl
@[simp] theorem byT4 : bytesT Tryz.prog 4 = some 1 := rfl
@[simp] theorem alT4 (H : Heap) : alV Tryz.prog H 4 = some (.ptr H.n 0, H.new (.cells [.bool false])) := rfl
@[simp] theorem zeT4 : zeroOf Tryz.prog 4 = some (.bool false) := rfl
attribute [simp] Tryz.underlying4
@[simp 500] theorem rvF4 (H : Heap) (cs : List AV) (o : Nat) : readVar Tryz.prog H 4 (.fptr cs o) = getL cs o := rfl
@[simp 500] theorem rvP4 (H : Heap) (b o : Nat) : readVar Tryz.prog H 4 (.ptr b o) = (H.get b).bind fun k => k.rd.bind fun cs => getL cs o := rfl
@[simp] theorem beq4 (a b : Bool) : binA Tryz.prog .eql 4 (.bool a) (.bool b) = some (.bool (a == b)) := rfl
@[simp] theorem bne4 (a b : Bool) : binA Tryz.prog .neq 4 (.bool a) (.bool b) = some (.bool !(a == b)) := rfl
@[simp] theorem szT5 : sizeT Tryz.prog 5 = some 1 := rfl
@[simp] theorem agT5 : aggT Tryz.prog 5 = some false := rfl
@[simp] theorem byT5 : bytesT Tryz.prog 5 = some 1 := rfl
@[simp] theorem alT5 (H : Heap) : alV Tryz.prog H 5 = some (.ptr H.n 0, H.new (.cells [.int .u8 0])) := rfl
@[simp] theorem zeT5 : zeroOf Tryz.prog 5 = some (.int .u8 0) := rfl
attribute [simp] Tryz.underlying5
@[simp 500] theorem rvF5 (H : Heap) (cs : List AV) (o : Nat) : readVar Tryz.prog H 5 (.fptr cs o) = getL cs o := rfl
@[simp 500] theorem rvP5 (H : Heap) (b o : Nat) : readVar Tryz.prog H 5 (.ptr b o) = (H.get b).bind fun k => k.rd.bind fun cs => getL cs o := rfl
@[simp] theorem szT9 : sizeT Tryz.prog 9 = some 1 := rfl
@[simp] theorem agT9 : aggT Tryz.prog 9 = some false := rfl
@[simp] theorem byT9 : bytesT Tryz.prog 9 = some 16 := rfl
@[simp] theorem alT9 (H : Heap) : alV Tryz.prog H 9 = some (.ptr H.n 0, H.new (.cells [.str []])) := rfl
@[simp] theorem zeT9 : zeroOf Tryz.prog 9 = some (.str []) := rfl
attribute [simp] Tryz.underlying9
@[simp 500] theorem rvF9 (H : Heap) (cs : List AV) (o : Nat) : readVar Tryz.prog H 9 (.fptr cs o) = getL cs o := rfl
@[simp 500] theorem rvP9 (H : Heap) (b o : Nat) : readVar Tryz.prog H 9 (.ptr b o) = (H.get b).bind fun k => k.rd.bind fun cs => getL cs o := rfl
@[simp] theorem szT22 : sizeT Tryz.prog 22 = some 1 := rfl
@[simp] theorem agT22 : aggT Tryz.prog 22 = some false := rfl
@[simp] theorem byT22 : bytesT Tryz.prog 22 = some 24 := rfl
@[simp] theorem alT22 (H : Heap) : alV Tryz.prog H 22 = some (.ptr H.n 0, H.new (.cells [.nilS])) := rfl
@[simp] theorem zeT22 : zeroOf Tryz.prog 22 = some (.nilS) := rfl
attribute [simp] Tryz.underlying22
@[simp 500] theorem rvF22 (H : Heap) (cs : List AV) (o : Nat) : readVar Tryz.prog H 22 (.fptr cs o) = getL cs o := rfl
@[simp 500] theorem rvP22 (H : Heap) (b o : Nat) : readVar Tryz.prog H 22 (.ptr b o) = (H.get b).bind fun k => k.rd.bind fun cs => getL cs o := rfl
@[simp] theorem slz22 (sz : Nat) (e : AV) (r : List AV) : binA Tryz.prog .eql 22 (.fslc sz (e :: r)) .nilS = some (.bool false) := rfl
@[simp] theorem sln22 (sz : Nat) (e : AV) (r : List AV) : binA Tryz.prog .neq 22 (.fslc sz (e :: r)) .nilS = some (.bool true) := rfl
@[simp] theorem slze22 : binA Tryz.prog .eql 22 .eslc .nilS = some (.bool false) := rfl
@[simp] theorem slzz22 : binA Tryz.prog .eql 22 .nilS .nilS = some (.bool true) := rfl
@[simp] theorem szT24 : sizeT Tryz.prog 24 = some 1 := rfl
@[simp] theorem agT24 : aggT Tryz.prog 24 = some true := rfl
@[simp] theorem byT24 : bytesT Tryz.prog 24 = some 24 := rfl
@[simp] theorem alT24 (H : Heap) : alV Tryz.prog H 24 = some (.ptr H.n 0, H.new (.cells [.nilS])) := rfl
@[simp] theorem zeT24 : zeroOf Tryz.prog 24 = some (.agg [.nilS]) := rfl
attribute [simp] Tryz.underlying24
@[simp 500] theorem rvF24 (H : Heap) (cs : List AV) (o : Nat) : readVar Tryz.prog H 24 (.fptr cs o) = (subL o 1 cs).bind fun cs => some (.agg cs) := rfl
@[simp 500] theorem rvP24 (H : Heap) (b o : Nat) : readVar Tryz.prog H 24 (.ptr b o) = (readCells H b o 1).bind fun cs => some (.agg cs) := rfl
@[simp] theorem fa24_0 (x : AV) : fieldAddrA Tryz.prog 24 x 0 = (match x with | .ptr b o => some (.ptr b (o + 0)) | .fptr cs o => some (.fptr cs (o + 0)) | _ => none) := rfl
@[simp] theorem fd24_0 (cs : List AV) : fieldA Tryz.prog 24 (.agg cs) 0 = getL cs 0 := rfl
@[simp] theorem szT27 : sizeT Tryz.prog 27 = some 1 := rfl
@[simp] theorem agT27 : aggT Tryz.prog 27 = some false := rfl
@[simp] theorem byT27 : bytesT Tryz.prog 27 = some 24 := rfl
@[simp] theorem alT27 (H : Heap) : alV Tryz.prog H 27 = some (.ptr H.n 0, H.new (.cells [.nilS])) := rfl
@[simp] theorem zeT27 : zeroOf Tryz.prog 27 = some (.nilS) := rfl
attribute [simp] Tryz.underlying27
@[simp 500] theorem rvF27 (H : Heap) (cs : List AV) (o : Nat) : readVar Tryz.prog H 27 (.fptr cs o) = getL cs o := rfl
@[simp 500] theorem rvP27 (H : Heap) (b o : Nat) : readVar Tryz.prog H 27 (.ptr b o) = (H.get b).bind fun k => k.rd.bind fun cs => getL cs o := rfl
@[simp] theorem slz27 (sz : Nat) (e : AV) (r : List AV) : binA Tryz.prog .eql 27 (.fslc sz (e :: r)) .nilS = some (.bool false) := rfl
@[simp] theorem sln27 (sz : Nat) (e : AV) (r : List AV) : binA Tryz.prog .neq 27 (.fslc sz (e :: r)) .nilS = some (.bool true) := rfl
@[simp] theorem slze27 : binA Tryz.prog .eql 27 .eslc .nilS = some (.bool false) := rfl
@[simp] theorem slzz27 : binA Tryz.prog .eql 27 .nilS .nilS = some (.bool true) := rfl
@[simp] theorem szT31 : sizeT Tryz.prog 31 = some 1 := rfl
@[simp] theorem agT31 : aggT Tryz.prog 31 = some false := rfl
@[simp] theorem byT31 : bytesT Tryz.prog 31 = some 24 := rfl
@[simp] theorem alT31 (H : Heap) : alV Tryz.prog H 31 = some (.ptr H.n 0, H.new (.cells [.nilS])) := rfl
@[simp] theorem zeT31 : zeroOf Tryz.prog 31 = some (.nilS) := rfl
attribute [simp] Tryz.underlying31
@[simp 500] theorem rvF31 (H : Heap) (cs : List AV) (o : Nat) : readVar Tryz.prog H 31 (.fptr cs o) = getL cs o := rfl
@[simp 500] theorem rvP31 (H : Heap) (b o : Nat) : readVar Tryz.prog H 31 (.ptr b o) = (H.get b).bind fun k => k.rd.bind fun cs => getL cs o := rfl
@[simp] theorem slz31 (sz : Nat) (e : AV) (r : List AV) : binA Tryz.prog .eql 31 (.fslc sz (e :: r)) .nilS = some (.bool false) := rfl
@[simp] theorem sln31 (sz : Nat) (e : AV) (r : List AV) : binA Tryz.prog .neq 31 (.fslc sz (e :: r)) .nilS = some (.bool true) := rfl
@[simp] theorem slze31 : binA Tryz.prog .eql 31 .eslc .nilS = some (.bool false) := rfl
@[simp] theorem slzz31 : binA Tryz.prog .eql 31 .nilS .nilS = some (.bool true) := rfl
@[simp] theorem szT33 : sizeT Tryz.prog 33 = some 7 := rfl
@[simp] theorem agT33 : aggT Tryz.prog 33 = some true := rfl
@[simp] theorem byT33 : bytesT Tryz.prog 33 = some 104 := rfl
@[simp] theorem alT33 (H : Heap) : alV Tryz.prog H 33 = some (.ptr H.n 0, H.new (.cells [.int .i64 0, .int .i64 0, .str [], .nilS, .str [], .int .i64 0, .nilS])) := rfl
@[simp] theorem zeT33 : zeroOf Tryz.prog 33 = some (.agg [.int .i64 0, .int .i64 0, .str [], .nilS, .str [], .int .i64 0, .nilS]) := rfl
attribute [simp] Tryz.underlying33
@[simp 500] theorem rvF33 (H : Heap) (cs : List AV) (o : Nat) : readVar Tryz.prog H 33 (.fptr cs o) = (subL o 7 cs).bind fun cs => some (.agg cs) := rfl
@[simp 500] theorem rvP33 (H : Heap) (b o : Nat) : readVar Tryz.prog H 33 (.ptr b o) = (readCells H b o 7).bind fun cs => some (.agg cs) := rfl
@[simp] theorem fa33_0 (x : AV) : fieldAddrA Tryz.prog 33 x 0 = (match x with | .ptr b o => some (.ptr b (o + 0)) | .fptr cs o => some (.fptr cs (o + 0)) | _ => none) := rfl
@[simp] theorem fd33_0 (cs : List AV) : fieldA Tryz.prog 33 (.agg cs) 0 = getL cs 0 := rfl
@[simp] theorem fa33_1 (x : AV) : fieldAddrA Tryz.prog 33 x 1 = (match x with | .ptr b o => some (.ptr b (o + 1)) | .fptr cs o => some (.fptr cs (o + 1)) | _ => none) := rfl
@[simp] theorem fd33_1 (cs : List AV) : fieldA Tryz.prog 33 (.agg cs) 1 = getL cs 1 := rfl
@[simp] theorem fa33_2 (x : AV) : fieldAddrA Tryz.prog 33 x 2 = (match x with | .ptr b o => some (.ptr b (o + 2)) | .fptr cs o => some (.fptr cs (o + 2)) | _ => none) := rfl
@[simp] theorem fd33_2 (cs : List AV) : fieldA Tryz.prog 33 (.agg cs) 2 = getL cs 2 := rfl
@[simp] theorem fa33_3 (x : AV) : fieldAddrA Tryz.prog 33 x 3 = (match x with | .ptr b o => some (.ptr b (o + 3)) | .fptr cs o => some (.fptr cs (o + 3)) | _ => none) := rfl
@[simp] theorem fd33_3 (cs : List AV) : fieldA Tryz.prog 33 (.agg cs) 3 = getL cs 3 := rfl
@[simp] theorem fa33_4 (x : AV) : fieldAddrA Tryz.prog 33 x 4 = (match x with | .ptr b o => some (.ptr b (o + 4)) | .fptr cs o => some (.fptr cs (o + 4)) | _ => none) := rfl
@[simp] theorem fd33_4 (cs : List AV) : fieldA Tryz.prog 33 (.agg cs) 4 = getL cs 4 := rfl
@[simp] theorem fa33_5 (x : AV) : fieldAddrA Tryz.prog 33 x 5 = (match x with | .ptr b o => some (.ptr b (o + 5)) | .fptr cs o => some (.fptr cs (o + 5)) | _ => none) := rfl
@[simp] theorem fd33_5 (cs : List AV) : fieldA Tryz.prog 33 (.agg cs) 5 = getL cs 5 := rfl
@[simp] theorem fa33_6 (x : AV) : fieldAddrA Tryz.prog 33 x 6 = (match x with | .ptr b o => some (.ptr b (o + 6)) | .fptr cs o => some (.fptr cs (o + 6)) | _ => none) := rfl
@[simp] theorem fd33_6 (cs : List AV) : fieldA Tryz.prog 33 (.agg cs) 6 = getL cs 6 := rfl
@[simp] theorem szT35 : sizeT Tryz.prog 35 = some 2 := rfl
@[simp] theorem agT35 : aggT Tryz.prog 35 = some true := rfl
@[simp] theorem byT35 : bytesT Tryz.prog 35 = some 32 := rfl
@[simp] theorem alT35 (H : Heap) : alV Tryz.prog H 35 = some (.ptr H.n 0, H.new (.cells [.str [], .str []])) := rfl
@[simp] theorem zeT35 : zeroOf Tryz.prog 35 = some (.agg [.str [], .str []]) := rfl
attribute [simp] Tryz.underlying35
@[simp 500] theorem rvF35 (H : Heap) (cs : List AV) (o : Nat) : readVar Tryz.prog H 35 (.fptr cs o) = (subL o 2 cs).bind fun cs => some (.agg cs) := rfl
@[simp 500] theorem rvP35 (H : Heap) (b o : Nat) : readVar Tryz.prog H 35 (.ptr b o) = (readCells H b o 2).bind fun cs => some (.agg cs) := rfl
@[simp] theorem fa35_0 (x : AV) : fieldAddrA Tryz.prog 35 x 0 = (match x with | .ptr b o => some (.ptr b (o + 0)) | .fptr cs o => some (.fptr cs (o + 0)) | _ => none) := rfl
@[simp] theorem fd35_0 (cs : List AV) : fieldA Tryz.prog 35 (.agg cs) 0 = getL cs 0 := rfl
@[simp] theorem fa35_1 (x : AV) : fieldAddrA Tryz.prog 35 x 1 = (match x with | .ptr b o => some (.ptr b (o + 1)) | .fptr cs o => some (.fptr cs (o + 1)) | _ => none) := rfl
@[simp] theorem fd35_1 (cs : List AV) : fieldA Tryz.prog 35 (.agg cs) 1 = getL cs 1 := rfl
@[simp] theorem szT40 : sizeT Tryz.prog 40 = some 1 := rfl
@[simp] theorem agT40 : aggT Tryz.prog 40 = some false := rfl
@[simp] theorem byT40 : bytesT Tryz.prog 40 = some 24 := rfl
@[simp] theorem alT40 (H : Heap) : alV Tryz.prog H 40 = some (.ptr H.n 0, H.new (.cells [.nilS])) := rfl
@[simp] theorem zeT40 : zeroOf Tryz.prog 40 = some (.nilS) := rfl
attribute [simp] Tryz.underlying40
@[simp 500] theorem rvF40 (H : Heap) (cs : List AV) (o : Nat) : readVar Tryz.prog H 40 (.fptr cs o) = getL cs o := rfl
@[simp 500] theorem rvP40 (H : Heap) (b o : Nat) : readVar Tryz.prog H 40 (.ptr b o) = (H.get b).bind fun k => k.rd.bind fun cs => getL cs o := rfl
@[simp] theorem slz40 (sz : Nat) (e : AV) (r : List AV) : binA Tryz.prog .eql 40 (.fslc sz (e :: r)) .nilS = some (.bool false) := rfl
@[simp] theorem sln40 (sz : Nat) (e : AV) (r : List AV) : binA Tryz.prog .neq 40 (.fslc sz (e :: r)) .nilS = some (.bool true) := rfl
@[simp] theorem slze40 : binA Tryz.prog .eql 40 .eslc .nilS = some (.bool false) := rfl
@[simp] theorem slzz40 : binA Tryz.prog .eql 40 .nilS .nilS = some (.bool true) := rfl
@[simp] theorem szT97 : sizeT Tryz.prog 97 = some 1 := rfl
@[simp] theorem agT97 : aggT Tryz.prog 97 = some false := rfl
@[simp] theorem byT97 : bytesT Tryz.prog 97 = some 24 := rfl
@[simp] theorem alT97 (H : Heap) : alV Tryz.prog H 97 = some (.ptr H.n 0, H.new (.cells [.nilS])) := rfl
@[simp] theorem zeT97 : zeroOf Tryz.prog 97 = some (.nilS) := rfl
attribute [simp] Tryz.underlying97
@[simp 500] theorem rvF97 (H : Heap) (cs : List AV) (o : Nat) : readVar Tryz.prog H 97 (.fptr cs o) = getL cs o := rfl
@[simp 500] theorem rvP97 (H : Heap) (b o : Nat) : readVar Tryz.prog H 97 (.ptr b o) = (H.get b).bind fun k => k.rd.bind fun cs => getL cs o := rfl
@[simp] theorem slz97 (sz : Nat) (e : AV) (r : List AV) : binA Tryz.prog .eql 97 (.fslc sz (e :: r)) .nilS = some (.bool false) := rfl
@[simp] theorem sln97 (sz : Nat) (e : AV) (r : List AV) : binA Tryz.prog .neq 97 (.fslc sz (e :: r)) .nilS = some (.bool true) := rfl
@[simp] theorem slze97 : binA Tryz.prog .eql 97 .eslc .nilS = some (.bool false) := rfl
@[simp] theorem slzz97 : binA Tryz.prog .eql 97 .nilS .nilS = some (.bool true) := rfl
@[simp] theorem szT109 : sizeT Tryz.prog 109 = some 1 := rfl
@[simp] theorem agT109 : aggT Tryz.prog 109 = some false := rfl
@[simp] theorem byT109 : bytesT Tryz.prog 109 = some 8 := rfl
attribute [simp] Tryz.underlying109
@[simp 500] theorem rvF109 (H : Heap) (cs : List AV) (o : Nat) : readVar Tryz.prog H 109 (.fptr cs o) = getL cs o := rfl
@[simp 500] theorem rvP109 (H : Heap) (b o : Nat) : readVar Tryz.prog H 109 (.ptr b o) = (H.get b).bind fun k => k.rd.bind fun cs => getL cs o := rfl
@[simp] theorem szT111 : sizeT Tryz.prog 111 = some 4 := rfl
@[simp] theorem agT111 : aggT Tryz.prog 111 = some true := rfl
@[simp] theorem byT111 : bytesT Tryz.prog 111 = some 32 := rfl
attribute [simp] Tryz.underlying111
@[simp 500] theorem rvF111 (H : Heap) (cs : List AV) (o : Nat) : readVar Tryz.prog H 111 (.fptr cs o) = (subL o 4 cs).bind fun cs => some (.agg cs) := rfl
@[simp 500] theorem rvP111 (H : Heap) (b o : Nat) : readVar Tryz.prog H 111 (.ptr b o) = (readCells H b o 4).bind fun cs => some (.agg cs) := rfl
@[simp] theorem fa111_0 (x : AV) : fieldAddrA Tryz.prog 111 x 0 = (match x with | .ptr b o => some (.ptr b (o + 0)) | .fptr cs o => some (.fptr cs (o + 0)) | _ => none) := rfl
@[simp] theorem fd111_0 (cs : List AV) : fieldA Tryz.prog 111 (.agg cs) 0 = getL cs 0 := rfl
@[simp] theorem fa111_1 (x : AV) : fieldAddrA Tryz.prog 111 x 1 = (match x with | .ptr b o => some (.ptr b (o + 1)) | .fptr cs o => some (.fptr cs (o + 1)) | _ => none) := rfl
@[simp] theorem fd111_1 (cs : List AV) : fieldA Tryz.prog 111 (.agg cs) 1 = getL cs 1 := rfl
@[simp] theorem fa111_2 (x : AV) : fieldAddrA Tryz.prog 111 x 2 = (match x with | .ptr b o => some (.ptr b (o + 2)) | .fptr cs o => some (.fptr cs (o + 2)) | _ => none) := rfl
@[simp] theorem fd111_2 (cs : List AV) : fieldA Tryz.prog 111 (.agg cs) 2 = getL cs 2 := rfl
@[simp] theorem fa111_3 (x : AV) : fieldAddrA Tryz.prog 111 x 3 = (match x with | .ptr b o => some (.ptr b (o + 3)) | .fptr cs o => some (.fptr cs (o + 3)) | _ => none) := rfl
@[simp] theorem fd111_3 (cs : List AV) : fieldA Tryz.prog 111 (.agg cs) 3 = getL cs 3 := rfl
@[simp] theorem szT139 : sizeT Tryz.prog 139 = some 2 := rfl
@[simp] theorem agT139 : aggT Tryz.prog 139 = some true := rfl
@[simp] theorem byT139 : bytesT Tryz.prog 139 = some 16 := rfl
@[simp] theorem alT139 (H : Heap) : alV Tryz.prog H 139 = some (.ptr H.n 0, H.new (.cells [.int .i64 0, .int .i64 0])) := rfl
@[simp] theorem zeT139 : zeroOf Tryz.prog 139 = some (.agg [.int .i64 0, .int .i64 0]) := rfl
attribute [simp] Tryz.underlying139
@[simp 500] theorem rvF139 (H : Heap) (cs : List AV) (o : Nat) : readVar Tryz.prog H 139 (.fptr cs o) = (subL o 2 cs).bind fun cs => some (.agg cs) := rfl
@[simp 500] theorem rvP139 (H : Heap) (b o : Nat) : readVar Tryz.prog H 139 (.ptr b o) = (readCells H b o 2).bind fun cs => some (.agg cs) := rfl
@[simp] theorem fa139_0 (x : AV) : fieldAddrA Tryz.prog 139 x 0 = (match x with | .ptr b o => some (.ptr b (o + 0)) | .fptr cs o => some (.fptr cs (o + 0)) | _ => none) := rfl
@[simp] theorem fd139_0 (cs : List AV) : fieldA Tryz.prog 139 (.agg cs) 0 = getL cs 0 := rfl
@[simp] theorem fa139_1 (x : AV) : fieldAddrA Tryz.prog 139 x 1 = (match x with | .ptr b o => some (.ptr b (o + 1)) | .fptr cs o => some (.fptr cs (o + 1)) | _ => none) := rfl
@[simp] theorem fd139_1 (cs : List AV) : fieldA Tryz.prog 139 (.agg cs) 1 = getL cs 1 := rfl
@[simp] theorem szT140 : sizeT Tryz.prog 140 = some 1 := rfl
@[simp] theorem agT140 : aggT Tryz.prog 140 = some false := rfl
@[simp] theorem byT140 : bytesT Tryz.prog 140 = some 24 := rfl
@[simp] theorem alT140 (H : Heap) : alV Tryz.prog H 140 = some (.ptr H.n 0, H.new (.cells [.nilS])) := rfl
@[simp] theorem zeT140 : zeroOf Tryz.prog 140 = some (.nilS) := rfl
attribute [simp] Tryz.underlying140
@[simp 500] theorem rvF140 (H : Heap) (cs : List AV) (o : Nat) : readVar Tryz.prog H 140 (.fptr cs o) = getL cs o := rfl
@[simp 500] theorem rvP140 (H : Heap) (b o : Nat) : readVar Tryz.prog H 140 (.ptr b o) = (H.get b).bind fun k => k.rd.bind fun cs => getL cs o := rfl
@[simp] theorem slz140 (sz : Nat) (e : AV) (r : List AV) : binA Tryz.prog .eql 140 (.fslc sz (e :: r)) .nilS = some (.bool false) := rfl
@[simp] theorem sln140 (sz : Nat) (e : AV) (r : List AV) : binA Tryz.prog .neq 140 (.fslc sz (e :: r)) .nilS = some (.bool true) := rfl
@[simp] theorem slze140 : binA Tryz.prog .eql 140 .eslc .nilS = some (.bool false) := rfl
@[simp] theorem slzz140 : binA Tryz.prog .eql 140 .nilS .nilS = some (.bool true) := rfl
attribute [simp] opndO_s
noncomputable def ctx (T : List (Entry Tryz.prog)) : Ctx := mkC Tryz.prog (fun f => (getL keepTbl f).getD []) T
@[simp] theorem mkC_P (T : List (Entry Tryz.prog)) : (ctx T).P = Tryz.prog := rfl
theorem mixed : Tryz.prog.follows .mixedOrders = true := by decide +kernel
theorem callOK {T : List (Entry Tryz.prog)} : CallOK (ctx T) (callL (ctx T)) := mkC_call _ _ T mixed
theorem callOKF {T : List (Entry Tryz.prog)} (l : List (Fact (ctx T))) : CallOK (ctx T) (callF l (callL (ctx T))) := callF_ok callOK l
abbrev Str := List UInt8
@[simp] theorem lenStr (H : Heap) (s : Str) : lenA Tryz.prog H 9 (.str s) = some s.length := by simp [lenA]
theorem ixStr {s : Str} {i : Nat} (h : i < s.length) : indexA Tryz.prog 9 (.str s) (.int .i64 (i : Int)) = some (.int .u8 (s[i]'h).toNat) := by
  simp [indexA, idx_nat h, getL_get h]
theorem slStr {H : Heap} {s : Str} {i : Nat} (h : i ≤ s.length) : sliceA Tryz.prog H 9 (.str s) (some (.int .i64 (i : Int))) none none = some (.str (s.drop i)) := by
  simp [sliceA, hiOK, bound, idx_nat (Nat.lt_succ_of_le h)]
theorem slStrOf {H : Heap} {s : Str} {i j : Nat} (hj : j ≤ s.length) (hi : i ≤ j) : sliceA Tryz.prog H 9 (.str s) (some (.int .i64 (i : Int))) (some (.int .i64 (j : Int))) none = some (.str ((s.take j).drop i)) := by
  simp [sliceA, hiOK, bound, idx_nat (Nat.lt_succ_of_le hj), idx_nat (Nat.lt_succ_of_le hi)]
theorem sl1 {s : Str} {i : Nat} (h : i < s.length) : (s.take (i + 1)).drop i = [s[i]] := by
  rw [List.take_succ_eq_append_getElem h, List.drop_append_of_le_length (by simp; omega), List.drop_of_length_le (by simp; omega), List.nil_append]
theorem slStr1 {H : Heap} {s : Str} {i : Nat} (h : i < s.length) : sliceA Tryz.prog H 9 (.str s) (some (.int .i64 (i : Int))) (some (.int .i64 ((i : Int) + 1))) none = some (.str [s[i]]) := by
  have := slStrOf (H := H) (s := s) (i := i) (j := i + 1) (by omega) (by omega)
  rw [sl1 h] at this
  simpa using this
theorem catStr {x y : Str} (h : x.length + y.length ≤ 1000000000000) : binA Tryz.prog .add 9 (.str x) (.str y) = some (.str (x ++ y)) := by
  simp [binA, strOp]; omega
@[simp] theorem eqStr (x y : Str) : binA Tryz.prog .eql 9 (.str x) (.str y) = some (.bool (decide (x = y))) := by simp [binA, strOp, eqB_eq]
@[simp] theorem neStr (x y : Str) : binA Tryz.prog .neq 9 (.str x) (.str y) = some (.bool !(decide (x = y))) := by simp [binA, strOp, eqB_eq]
abbrev aStrs (L : List Str) : AV := .fslc 1 (L.map .str)
theorem el_str (L : List Str) : Elems 1 (L.map AV.str) := .map (sz := 1) (f := AV.str) (by decide) (fun x => ⟨rfl, rfl, fun _ => rfl, fun h => absurd rfl h⟩) L
theorem single_str : ∀ (L : List Str), allSingle (flatAV (L.map AV.str)) = true
  | [] => rfl
  | a :: r => by simp only [List.map_cons, flatAV, allSingle_append, single_str r]; rfl
theorem atS {L : List Str} {i : Nat} (h : i < L.length) : indexAddrA Tryz.prog 40 (aStrs L) (.int .i64 (i : Int)) = some (.fptr [.str L[i]] 0) := by
  simp [indexAddrA, aStrs, idx_nat h, getL_map h, AV.cells]
theorem lenS {H : Heap} {L : List Str} : lenA Tryz.prog H 40 (aStrs L) = some L.length := by simp [lenA, aStrs]
theorem inj_str (x y : Str) (h : [AV.str x] = [AV.str y]) : x = y := by simp at h; exact h
theorem inj_str2 (x y : Str × Str) (h : [AV.str x.1, AV.str x.2] = [AV.str y.1, AV.str y.2]) : x = y := by
  simp at h; exact Prod.ext h.1 h.2
theorem inj_strs {L M : List Str} (h : aStrs L = aStrs M) : L = M := by
  simp only [aStrs, AV.fslc.injEq, true_and] at h
  exact List.map_inj_right (fun _ _ h => by simpa using h) |>.1 h
theorem inj_u8 (x y : UInt8) (h : [AV.int .u8 (x.toNat : Int)] = [AV.int .u8 (y.toNat : Int)]) : x = y := by
  simp only [List.cons.injEq, AV.int.injEq, true_and, and_true] at h
  exact UInt8.toNat_inj.1 (by omega)
def sp (c : UInt8) : Bool := decide ((c.toNat : Int) = 9) || (decide ((c.toNat : Int) = 10) || (decide ((c.toNat : Int) = 12) || (decide ((c.toNat : Int) = 13) || decide ((c.toNat : Int) = 32))))
theorem c122 {T : List (Entry Tryz.prog)} (c : UInt8) : CallAt (ctx T) 122 [.int .u8 c.toNat] ⟨0, []⟩ (.bool (sp c)) ⟨0, []⟩ := by
  refine callAt_body (fn := Tryz.f122) (s0 := ⟨[0, 2], [.int .u8 c.toNat, .undef], [], 21, ⟨0, [[]]⟩⟩) Tryz.func122 rfl rfl rfl ?_
  repeat refine wps_seq ?_
  refine wps_region callOK ?_
  simp [zS]
  by_cases h1 : (c.toNat : Int) = 9 <;> by_cases h2 : (c.toNat : Int) = 10 <;> by_cases h3 : (c.toNat : Int) = 12 <;> by_cases h4 : (c.toNat : Int) = 13 <;> by_cases h5 : (c.toNat : Int) = 32
  all_goals first
    | (exfalso; omega)
    | (repeat refine wps_seq ?_
       repeat refine wps_seq ?_
       refine wps_region callOK ?_
       simp [zS, h1, h2, h3, h4, h5]
       repeat refine wps_seq ?_
       repeat refine wps_seq ?_
       refine wps_ret ?_
       simp [retVal, Tryz.f122, oneOr]
       exact ends_pure rfl (by simp [sp, h1, h2, h3, h4, h5]))
noncomputable def e122 : Entry Tryz.prog := mkE 122 [[]] (fun x : UInt8 => [.int .u8 x.toNat]) (fun _ => True) (fun x => .bool (sp x)) fun x _ => c122 (T := []) x
theorem k122 {T : List (Entry Tryz.prog)} (hT : findE 122 T = some e122.g) (c : UInt8) (H : Heap) : callL (ctx T) (.fn 122) [.int .u8 c.toNat] H = some (.bool (sp c), H) :=
  mkE_scalar hT inj_u8 c trivial rfl (by simp)
def wstep (st : List Str × Str) (c : UInt8) : List Str × Str := if sp c = true then (if st.2 = [] then st.1 else st.1 ++ [st.2], []) else (st.1, st.2 ++ [c])
def wst (s : Str) : List Str × Str := s.foldl wstep ([], [])
def wfin (st : List Str × Str) : List Str := if st.2 = [] then st.1 else st.1 ++ [st.2]
def wsplit (s : Str) : List Str := wfin (wst s)
theorem wst_at {s : Str} {i : Nat} (h : i < s.length) : wst (s.take (i + 1)) = wstep (wst (s.take i)) s[i] := by
  rw [List.take_succ_eq_append_getElem h]
  simp only [wst, List.foldl_append, List.foldl_cons, List.foldl_nil]
theorem wst_len (s : Str) : (wst s).2.length ≤ s.length ∧ (wst s).1.length ≤ s.length := by
  have key : ∀ (s : Str) (st : List Str × Str), (s.foldl wstep st).2.length ≤ st.2.length + s.length ∧ (s.foldl wstep st).1.length ≤ st.1.length + s.length := by
    intro s
    induction s with
    | nil => intro st; simp
    | cons c r ih =>
      intro st
      have := ih (wstep st c)
      simp only [List.foldl_cons, List.length_cons]
      have h1 : (wstep st c).2.length ≤ st.2.length + 1 ∧ (wstep st c).1.length ≤ st.1.length + 1 := by
        unfold wstep
        split
        · split <;> simp
        · simp
      omega
  have := key s ([], [])
  simp only [wst]
  simp at this
  exact this
theorem c87 {T : List (Entry Tryz.prog)} (hS : findE 122 T = some e122.g) (s : Str) (hl : s.length ≤ 1000000) : CallAt (ctx T) 87 [.str s] ⟨0, []⟩ (ownV 0 1 ((wsplit s).map .str)) ⟨1, [ownF 0 ((wsplit s).map .str)]⟩ := by
  refine callAt_body (fn := Tryz.f87) (s0 := ⟨[0, 2, 3, 4, 5], [.str s, .undef, .undef, .undef, .undef], [], 37, ⟨0, [[]]⟩⟩) Tryz.func87 rfl rfl rfl ?_
  repeat refine wps_seq ?_
  refine wps_region callOK ?_
  simp [zS]
  repeat refine wps_seq ?_
  refine wps_region callOK ?_
  simp [zS]
  repeat refine wps_seq ?_
  refine wps_region callOK ?_
  simp [zS]
  repeat refine wps_seq ?_
  refine wps_region callOK ?_
  simp [zS]
  repeat refine wps_seq ?_
  refine wps_block (wps_loop' (fun i : Nat => (⟨[0, 2, 3, 4, 5], [.str s, .undef, ownV 0 1 ((wst (s.take i)).1.map .str), .str (wst (s.take i)).2, .int .i64 i], [], 37, ⟨1, [ownF 0 ((wst (s.take i)).1.map .str)]⟩⟩ : St))
    (fun i => i ≤ s.length) (fun i => s.length - i) [] [] 0 (Nat.zero_le _)
    ⟨rfl, rfl, rfl, by simp [fitL, fitV, pureV, wst, ownV], .keep0 (by simp [wst, ownF])⟩ ?_)
  rintro i hi B hB
  have hlen := wst_len (s.take i)
  simp only [List.length_take] at hlen
  have same : ∀ (L : List Str), FitH 0 [(0, 0)] [] ⟨1, [ownF 0 (L.map AV.str)]⟩ ⟨1, [ownF 0 (L.map AV.str)]⟩ := fun L => by
    refine .same (by simp) (by simp) (by simp) (by simp) ?_ ?_
    · cases L.map AV.str <;> simp [Heap.ents, ownF]
    · cases he : L.map AV.str with
      | nil => intro e he; simp [Heap.ents, ownF] at he
      | cons x r =>
        intro e hx
        simp [Heap.ents, ownF] at hx
        subst hx
        exact ⟨by simp, by simp [ownF, Heap.get, getFs, getF], fitL_pure (by rw [← he]; exact (el_str _).pure)⟩
  repeat refine wps_seq ?_
  refine wps_region callOK ?_
  simp [zS]
  repeat refine wps_seq ?_
  refine wps_cond rfl (fun h => ?_) fun h => ?_
  · simp at h
    repeat refine wps_seq ?_
    refine wps_skip ?_
    simp
    repeat refine wps_seq ?_
    refine wps_block ?_
    have hstep := wst_at h
    cases hsp : sp s[i] with
    | false =>
      have hn : wst (s.take (i + 1)) = ((wst (s.take i)).1, (wst (s.take i)).2 ++ [s[i]]) := by rw [hstep]; simp [wstep, hsp]
      repeat refine wps_seq ?_
      refine wps_region callOK ?_
      simp [zS, ixStr h, k122 hS, hsp]
      repeat refine wps_seq ?_
      refine wps_cond (t := true) rfl (fun _ => ?_) fun h => by cases h
      repeat refine wps_seq ?_
      refine wps_region callOK ?_
      simp [zS, add_one (show i ≤ 1000000000 by omega), slStr1 h, catStr (show (wst (s.take i)).2.length + [s[i]].length ≤ 1000000000000 by simp; omega)]
      repeat refine wps_seq ?_
      refine wps_exit ?_
      simp
      repeat refine wps_seq ?_
      refine wps_region callOK ?_
      simp [zS, add_one (show i ≤ 1000000000 by omega)]
      exact hB _ (i + 1) (by omega) (by omega) ⟨[(0, 0)], [], rfl, rfl, rfl, by rw [hn]; simp [fitL, fitV, lookN, fitV_own, pureV], by rw [hn]; exact same _⟩
    | true =>
      repeat refine wps_seq ?_
      refine wps_region callOK ?_
      simp [zS, ixStr h, k122 hS, hsp]
      repeat refine wps_seq ?_
      refine wps_cond (t := false) rfl (fun h => by cases h) fun _ => ?_
      repeat refine wps_seq ?_
      refine wps_skip ?_
      simp
      by_cases hc : (wst (s.take i)).2 = []
      · have hn : wst (s.take (i + 1)) = ((wst (s.take i)).1, []) := by rw [hstep]; simp [wstep, hsp, hc]
        repeat refine wps_seq ?_
        refine wps_region callOK ?_
        simp [zS, hc]
        repeat refine wps_seq ?_
        refine wps_cond (t := false) rfl (fun h => by cases h) fun _ => ?_
        repeat refine wps_seq ?_
        refine wps_skip ?_
        simp
        repeat refine wps_seq ?_
        refine wps_region callOK ?_
        simp [zS]
        repeat refine wps_seq ?_
        refine wps_region callOK ?_
        simp [zS, add_one (show i ≤ 1000000000 by omega)]
        exact hB _ (i + 1) (by omega) (by omega) ⟨[(0, 0)], [], rfl, rfl, rfl, by rw [hn]; simp [fitL, fitV, lookN, fitV_own, pureV], by rw [hn]; exact same _⟩
      · have hn : wst (s.take (i + 1)) = ((wst (s.take i)).1 ++ [(wst (s.take i)).2], []) := by rw [hstep]; simp [wstep, hsp, hc]
        have happ := own_app1 (P := Tryz.prog) (elem := 9) (b := 0) (t := 1) (m := 2) (es := (wst (s.take i)).1.map .str) (cs := [.str (wst (s.take i)).2]) (g := []) (fs := []) szT9 byT9 zeT9 rfl (by omega) (by omega) rfl rfl (el_str _) (by simp; omega) (by omega) (by simp) (by simp)
        rw [List.append_nil] at happ
        repeat refine wps_seq ?_
        refine wps_region callOK ?_
        simp [zS, hc]
        repeat refine wps_seq ?_
        refine wps_cond (t := true) rfl (fun _ => ?_) fun h => by cases h
        repeat refine wps_seq ?_
        refine wps_region callOK ?_
        simp [zS, happ]
        repeat refine wps_seq ?_
        refine wps_region callOK ?_
        simp [zS]
        repeat refine wps_seq ?_
        refine wps_region callOK ?_
        simp [zS, add_one (show i ≤ 1000000000 by omega)]
        have hne : (wst (s.take (i + 1))).1.map AV.str ≠ [] := by rw [hn]; simp
        refine hB _ (i + 1) (by omega) (by omega) ⟨[(2, 0)], [], rfl, rfl, rfl, ?_, .grown (el_str _) hne ?_⟩
        · rw [ownV_ne hne, hn]; simp [fitL, fitV, lookN, pureV]
        · rw [hn, List.map_append, flat_append]; simp [Heap.get, getFs, getF, flatAV]
  · simp at h
    repeat refine wps_seq ?_
    refine wps_exit ?_
    simp
    have hs : s.take i = s := List.take_of_length_le h
    rw [hs] at hlen ⊢
    by_cases hc : (wst s).2 = []
    · have hv : wsplit s = (wst s).1 := by simp [wsplit, wfin, hc]
      repeat refine wps_seq ?_
      refine wps_region callOK ?_
      simp [zS, hc]
      repeat refine wps_seq ?_
      refine wps_cond (t := false) rfl (fun h => by cases h) fun _ => ?_
      repeat refine wps_seq ?_
      refine wps_skip ?_
      simp
      repeat refine wps_seq ?_
      refine wps_region callOK ?_
      simp [zS]
      repeat refine wps_seq ?_
      refine wps_ret ?_
      simp [retVal, Tryz.f87, oneOr]
      rw [hv]
      exact ⟨[(0, 0)], [], fitV_own (by simp [lookN]), same _⟩
    · have hv : wsplit s = (wst s).1 ++ [(wst s).2] := by simp [wsplit, wfin, hc]
      have happ := own_app1 (P := Tryz.prog) (elem := 9) (b := 0) (t := 1) (m := 2) (es := (wst s).1.map .str) (cs := [.str (wst s).2]) (g := []) (fs := []) szT9 byT9 zeT9 rfl (by omega) (by omega) rfl rfl (el_str _) (by simp; omega) (by omega) (by simp) (by simp)
      rw [List.append_nil] at happ
      repeat refine wps_seq ?_
      refine wps_region callOK ?_
      simp [zS, hc]
      repeat refine wps_seq ?_
      refine wps_cond (t := true) rfl (fun _ => ?_) fun h => by cases h
      repeat refine wps_seq ?_
      refine wps_region callOK ?_
      simp [zS, happ]
      repeat refine wps_seq ?_
      refine wps_region callOK ?_
      simp [zS]
      repeat refine wps_seq ?_
      refine wps_ret ?_
      simp [retVal, Tryz.f87, oneOr]
      have hne : (wsplit s).map AV.str ≠ [] := by rw [hv]; simp
      refine ⟨[(2, 0)], [], ?_, .grown (el_str _) hne ?_⟩
      · rw [ownV_ne hne, hv]; simp [fitL, fitV, lookN, pureV]
      · rw [hv, List.map_append, flat_append]; simp [Heap.get, getFs, getF, flatAV]
theorem c86 {T : List (Entry Tryz.prog)} (L : List Str) (x : Str) (hl : L.length ≤ 1000000) : CallAt (ctx T) 86 [aStrs L, .str x] ⟨0, []⟩ (.bool (decide (x ∈ L))) ⟨0, []⟩ := by
  refine callAt_body (fn := Tryz.f86) (s0 := ⟨[0, 1, 4, 5], [aStrs L, .str x, .undef, .undef], [], 18, ⟨0, [[]]⟩⟩) Tryz.func86 rfl rfl rfl ?_
  repeat refine wps_seq ?_
  refine wps_region callOK ?_
  simp [zS]
  repeat refine wps_seq ?_
  refine wps_region callOK ?_
  simp [zS]
  repeat refine wps_seq ?_
  refine wps_block (wps_loop' (fun i : Nat => (⟨[0, 1, 4, 5], [aStrs L, .str x, .undef, .int .i64 i], [], 18, ⟨0, [[]]⟩⟩ : St))
    (fun i => i ≤ L.length ∧ decide (x ∈ L) = decide (x ∈ L.drop i)) (fun i => L.length - i) [] [] 0 ⟨Nat.zero_le _, by simp⟩ ⟨rfl, rfl, rfl, by simp [fitL, fitV, pureV, pureL, aStrs], FitH.nothing⟩ ?_)
  rintro i ⟨hi, hx⟩ B hB
  repeat refine wps_seq ?_
  refine wps_region callOK ?_
  simp [zS, lenS]
  repeat refine wps_seq ?_
  refine wps_cond rfl (fun h => ?_) fun h => ?_
  · simp at h
    repeat refine wps_seq ?_
    refine wps_skip ?_
    simp
    repeat refine wps_seq ?_
    refine wps_block ?_
    repeat refine wps_seq ?_
    refine wps_region callOK ?_
    simp [zS, atS h]
    repeat refine wps_seq ?_
    refine wps_cond rfl (fun h2 => ?_) fun h2 => ?_
    · simp at h2
      repeat refine wps_seq ?_
      refine wps_region callOK ?_
      simp [zS]
      repeat refine wps_seq ?_
      refine wps_ret ?_
      simp [retVal, Tryz.f86, oneOr, thenQ, blockQ]
      exact ends_pure rfl (by rw [hx, List.drop_eq_getElem_cons h]; simp [h2])
    · simp at h2
      repeat refine wps_seq ?_
      refine wps_skip ?_
      simp
      repeat refine wps_seq ?_
      refine wps_region callOK ?_
      simp [zS, add_one (show i ≤ 1000000000 by omega)]
      exact hB _ (i + 1) (by omega) ⟨by omega, by rw [hx, List.drop_eq_getElem_cons h]; simp only [List.mem_cons, show ¬ x = L[i] from fun e => h2 e.symm, false_or]⟩ ⟨[], [], ⟨rfl, rfl, rfl, by simp [fitL, fitV, pureV, pureL, aStrs], FitH.nothing⟩⟩
  · simp at h
    repeat refine wps_seq ?_
    refine wps_exit ?_
    simp
    repeat refine wps_seq ?_
    refine wps_region callOK ?_
    simp [zS]
    repeat refine wps_seq ?_
    refine wps_ret ?_
    simp [retVal, Tryz.f86, oneOr, thenQ, blockQ]
    exact ends_pure rfl (by rw [hx, List.drop_eq_nil_of_le h]; simp)
noncomputable def e87 : Entry Tryz.prog := mkE 87 [[]] (fun x : Str => [.str x]) (fun x => x.length ≤ 1000000) (fun x => aStrs (wsplit x)) fun x h => (c87 (T := [e122]) rfl x h).froze (el_str _)
theorem k87 {T : List (Entry Tryz.prog)} (hT : findE 87 T = some e87.g) {s : Str} (hl : s.length ≤ 1000000) (H : Heap) : callL (ctx T) (.fn 87) [.str s] H = some (aStrs (wsplit s), H) :=
  mkE_pure hT inj_str s hl (by simp [pureL, pureV]) (by simp) H
noncomputable def e86 : Entry Tryz.prog := mkE 86 [[1], []] (fun x : List Str × Str => [aStrs x.1, .str x.2]) (fun x => x.1.length ≤ 1000000) (fun x => .bool (decide (x.2 ∈ x.1))) fun x h => c86 (T := []) x.1 x.2 h
theorem k86 {T : List (Entry Tryz.prog)} (hT : findE 86 T = some e86.g) {L : List Str} (x : Str) (hl : L.length ≤ 1000000) (H : Heap) : callL (ctx T) (.fn 86) [aStrs L, .str x] H = some (.bool (decide (x ∈ L)), H) :=
  mkE_scalar hT (fun x y h => by simp at h; exact Prod.ext (inj_strs (by simpa [aStrs] using h.1)) h.2) (L, x) hl rfl (by simp)
def inW (w x : Str) : Bool := decide (x ∈ wsplit w)
theorem wsplit_len (s : Str) : (wsplit s).length ≤ s.length + 1 := by
  have := wst_len s
  unfold wsplit wfin
  split <;> simp <;> omega
theorem c58 {T : List (Entry Tryz.prog)} (h1 : findE 87 T = some e87.g) (h2 : findE 86 T = some e86.g) (w x : Str) (hl : w.length ≤ 900000) : CallAt (ctx T) 58 [.str w, .str x] ⟨0, []⟩ (.bool (inW w x)) ⟨0, []⟩ := by
  refine callAt_body (fn := Tryz.f58) (s0 := ⟨[0, 1, 4], [.str w, .str x, .undef], [], 9, ⟨0, [[]]⟩⟩) Tryz.func58 rfl rfl rfl ?_
  repeat refine wps_seq ?_
  refine wps_region callOK ?_
  simp [zS]
  have hs := wsplit_len w
  repeat refine wps_seq ?_
  refine wps_region callOK ?_
  simp [zS, k87 h1 (show w.length ≤ 1000000 by omega), k86 h2 x (show (wsplit w).length ≤ 1000000 by omega)]
  repeat refine wps_seq ?_
  refine wps_ret ?_
  simp [retVal, Tryz.f58, oneOr, thenQ, blockQ]
  exact ends_pure rfl (by simp [inW])
noncomputable def e58 : Entry Tryz.prog := mkE 58 [[], []] (fun x : Str × Str => [.str x.1, .str x.2]) (fun x => x.1.length ≤ 900000) (fun x => .bool (inW x.1 x.2)) fun x h => c58 (T := [e87, e86]) rfl rfl x.1 x.2 h
theorem k58 {T : List (Entry Tryz.prog)} (hT : findE 58 T = some e58.g) {w : Str} (x : Str) (hl : w.length ≤ 900000) (H : Heap) : callL (ctx T) (.fn 58) [.str w, .str x] H = some (.bool (inW w x), H) :=
  mkE_scalar hT inj_str2 (w, x) hl rfl (by simp)
def isTrueE : Option (AV × Heap) → Bool
  | some (.bool b, _) => b
  | _ => false
def eqN : Str → Str → Bool
  | [], l => match l with | [] => true | _ :: _ => false
  | a :: x, l => match l with
    | [] => false
    | b :: y => match Nat.beq a.toNat b.toNat with
      | true => eqN x y
      | false => false
theorem eqN_eq : ∀ (x y : Str), eqN x y = decide (x = y)
  | [], [] => rfl
  | [], _ :: _ => by simp [eqN]
  | _ :: _, [] => by simp [eqN]
  | a :: x, b :: y => by
    unfold eqN
    simp only
    split
    · rename_i h
      have := UInt8.toNat_inj.1 (Nat.eq_of_beq_eq_true h)
      subst this
      rw [eqN_eq]; simp
    · rename_i h
      have : ¬ a = b := fun e => by subst e; rw [Nat.beq_refl] at h; cases h
      simp [this]
def spN (n : Nat) : Bool := match Nat.beq n 32 with
  | true => true
  | false => match Nat.beq n 9 with
    | true => true
    | false => match Nat.beq n 10 with
      | true => true
      | false => match Nat.beq n 12 with
        | true => true
        | false => Nat.beq n 13
theorem spN_eq (c : UInt8) : spN c.toNat = sp c := by
  have k : ∀ m : Nat, Nat.beq c.toNat m = decide ((c.toNat : Int) = (m : Int)) := fun m => by
    by_cases h : c.toNat = m
    · subst h; simp
    · rw [beqN_ne h]; simp; omega
  unfold spN sp
  rw [k 32, k 9, k 10, k 12, k 13]
  simp only [Int.cast_ofNat_Int]
  by_cases h1 : (c.toNat : Int) = 9 <;> by_cases h2 : (c.toNat : Int) = 10 <;> by_cases h3 : (c.toNat : Int) = 12 <;> by_cases h4 : (c.toNat : Int) = 13 <;> by_cases h5 : (c.toNat : Int) = 32 <;> simp [h1, h2, h3, h4, h5]
def inN (x : Str) : Str → Option Str → Bool → Bool
  | [], w, some' => match some' with
    | true => match w with
      | some r => match r with | [] => true | _ :: _ => false
      | none => false
    | false => false
  | c :: r, w, some' => match spN c.toNat with
    | true => match some' with
      | true => match w with
        | some q => match q with
          | [] => true
          | _ :: _ => inN x r (some x) false
        | none => inN x r (some x) false
      | false => inN x r (some x) false
    | false => match w with
      | some q => match q with
        | [] => inN x r none true
        | d :: q => match Nat.beq d.toNat c.toNat with
          | true => inN x r (some q) true
          | false => inN x r none true
      | none => inN x r none true
def leftOf : Str → Str → Option Str
  | [], x => some x
  | a :: c, x => match x with
    | [] => none
    | b :: x => if b = a then leftOf c x else none
theorem leftOf_snoc : ∀ (cur x : Str) (c : UInt8), leftOf (cur ++ [c]) x = match leftOf cur x with
    | some q => (match q with | [] => none | d :: q => if d = c then some q else none)
    | none => none
  | [], x, c => by cases x <;> simp [leftOf]
  | a :: r, [], c => by simp [leftOf]
  | a :: r, b :: x, c => by
    simp only [List.cons_append, leftOf]
    by_cases h : b = a
    · simp only [h, if_true]; exact leftOf_snoc r x c
    · simp [h]
theorem leftOf_nil : ∀ (cur x : Str), leftOf cur x = some [] ↔ x = cur
  | [], x => by simp [leftOf]
  | a :: r, [] => by simp [leftOf]
  | a :: r, b :: x => by
    simp only [leftOf]
    by_cases h : b = a
    · simp [h, leftOf_nil r x]
    · simp [h]
theorem inN_eq (x : Str) (hx : x ≠ []) : ∀ (r : Str) (st : List Str × Str), x ∉ st.1 → inN x r (leftOf st.2 x) (!decide (st.2 = [])) = decide (x ∈ wfin (r.foldl wstep st))
  | [], st, hn => by
    simp only [List.foldl_nil, wfin]
    unfold inN
    by_cases h : st.2 = []
    · simp [h, hn]
    · simp only [h, decide_false, Bool.not_false, if_false]
      cases hl : leftOf st.2 x with
      | none =>
        have : ¬ x = st.2 := fun e => by rw [(leftOf_nil st.2 x).2 e] at hl; cases hl
        simp [hn, this]
      | some q =>
        cases q with
        | nil =>
          have := (leftOf_nil st.2 x).1 hl
          simp [this]
        | cons d q =>
          have : ¬ x = st.2 := fun e => by rw [(leftOf_nil st.2 x).2 e] at hl; cases hl
          simp [hn, this]
  | c :: r, st, hn => by
    show inN x (c :: r) _ _ = decide (x ∈ wfin (r.foldl wstep (wstep st c)))
    have grow : ∀ (r : Str) (st : List Str × Str), x ∈ st.1 → x ∈ (r.foldl wstep st).1 := by
      intro r
      induction r with
      | nil => exact fun _ h => h
      | cons c r ih =>
        intro st h
        refine ih _ ?_
        unfold wstep
        split
        · split
          · exact h
          · exact List.mem_append_left _ h
        · exact h
    rw [show inN x (c :: r) (leftOf st.2 x) (!decide (st.2 = [])) = (match spN c.toNat with
    | true => match (!decide (st.2 = [])) with
      | true => match leftOf st.2 x with
        | some q => match q with
          | [] => true
          | _ :: _ => inN x r (some x) false
        | none => inN x r (some x) false
      | false => inN x r (some x) false
    | false => match leftOf st.2 x with
      | some q => match q with
        | [] => inN x r none true
        | d :: q => match Nat.beq d.toNat c.toNat with
          | true => inN x r (some q) true
          | false => inN x r none true
      | none => inN x r none true) from rfl, spN_eq]
    cases hs : sp c with
    | true =>
      simp only
      by_cases h : st.2 = []
      · have e : wstep st c = (st.1, []) := by simp [wstep, hs, h]
        rw [e]
        have ih := inN_eq x hx r (st.1, []) hn
        simp only [h, decide_true, Bool.not_true]
        simpa [leftOf] using ih
      · have e : wstep st c = (st.1 ++ [st.2], []) := by simp [wstep, hs, h]
        rw [e]
        simp only [h, decide_false, Bool.not_false]
        by_cases hq : x = st.2
        · rw [(leftOf_nil st.2 x).2 hq]
          simp only
          have hm := grow r (st.1 ++ [st.2], []) (by rw [hq]; simp)
          unfold wfin
          split
          · simp [hm]
          · simp [hm]
        · have hn' : x ∉ st.1 ++ [st.2] := by simp [hn, hq]
          have ih := inN_eq x hx r (st.1 ++ [st.2], []) hn'
          simp only [leftOf, decide_true, Bool.not_true] at ih
          cases hl : leftOf st.2 x with
          | none => exact ih
          | some q =>
            cases q with
            | nil => exact absurd ((leftOf_nil st.2 x).1 hl) hq
            | cons d q => exact ih
    | false =>
      simp only
      have e : wstep st c = (st.1, st.2 ++ [c]) := by simp [wstep, hs]
      rw [e]
      have ih := inN_eq x hx r (st.1, st.2 ++ [c]) hn
      simp only [List.append_eq_nil_iff, List.cons_ne_nil, and_false, decide_false, Bool.not_false] at ih
      rw [leftOf_snoc] at ih
      cases hl : leftOf st.2 x with
      | none => rw [hl] at ih; exact ih
      | some q =>
        rw [hl] at ih
        cases q with
        | nil => exact ih
        | cons d q =>
          simp only at ih ⊢
          by_cases hd : d = c
          · rw [if_pos hd] at ih
            rw [hd, Nat.beq_refl]; exact ih
          · rw [if_neg hd] at ih
            rw [beqN_ne (fun e => hd (UInt8.toNat_inj.1 e))]; exact ih
theorem words_ne (s : Str) : [] ∉ wsplit s := by
  have key : ∀ (r : Str) (st : List Str × Str), [] ∉ st.1 → [] ∉ (r.foldl wstep st).1 := by
    intro r
    induction r with
    | nil => exact fun _ h => h
    | cons c r ih =>
      intro st h
      refine ih _ ?_
      unfold wstep
      split
      · split
        · exact h
        · rename_i h2
          simp only [List.mem_append, List.mem_singleton, not_or]
          exact ⟨h, fun e => h2 e.symm⟩
      · exact h
  have := key s ([], []) (by simp)
  unfold wsplit wfin wst
  split
  · exact this
  · rename_i h2
    simp only [List.mem_append, List.mem_singleton, not_or]
    exact ⟨this, fun e => h2 e.symm⟩
def inB (w x : Str) : Bool := match x with
  | [] => false
  | _ :: _ => inN x w (some x) false
theorem inB_eq (w x : Str) : inB w x = inW w x := by
  unfold inB
  split
  · simp [inW, words_ne]
  · rename_i a r
    have := inN_eq (a :: r) (by simp) w ([], []) (by simp)
    exact (show inN (a :: r) w (some (a :: r)) false = _ from this).trans (decide_eq_decide.2 Iff.rfl)
def runIn : List AV → Heap → Option (AV × Heap) := fun args H => match args with
  | [.str w, .str x] => match Nat.ble w.length 900000 with
    | true => some (.bool (inB w x), H)
    | false => none
  | _ => none
def r58 : Entry Tryz.prog := ⟨58, runIn, fun args H v H' h => by
  unfold runIn at h
  split at h
  · rename_i w x
    split at h
    · rename_i hl
      simp only [Option.some.injEq, Prod.mk.injEq] at h
      obtain ⟨rfl, rfl⟩ := h
      rw [inB_eq]
      exact (c58 (T := [e87, e86]) rfl rfl w x (Nat.le_of_ble_eq_true hl)).lift (by simp [pureL, pureV]) H
    · cases h
  · cases h⟩
abbrev At1 := Str × Str
def aAttr (a : At1) : AV := .agg [.str a.1, .str a.2]
def aAttrs (L : List At1) : AV := .fslc 2 (L.map aAttr)
@[simp] theorem cells_aAttr (a : At1) : (aAttr a).cells = [.str a.1, .str a.2] := rfl
@[simp] theorem pure_aAttr (a : At1) : pureV (aAttr a) = true := by simp [aAttr, pureV, pureL]
@[simp] theorem pure_aAttrs (L : List At1) : pureV (aAttrs L) = true := by simp [aAttrs, pureV]
@[simp] theorem ok_aAttr (a : At1) : okV (aAttr a) = true := by simp [aAttr, okV, pureV, pureL]
@[simp] theorem ok_aAttrs (L : List At1) : okV (aAttrs L) = true := by simp [aAttrs, okV, pureV]
theorem th_aAttrs (H : Heap) (L : List At1) : thawA H [2] (aAttrs L) = some (aAttrs L) := thawA_ok (by simp)
theorem inj_aAttr {a b : At1} (h : aAttr a = aAttr b) : a = b := by
  simp [aAttr] at h; exact Prod.ext h.1 h.2
theorem inj_aAttrs {L M : List At1} (h : aAttrs L = aAttrs M) : L = M := by
  simp only [aAttrs, AV.fslc.injEq, true_and] at h
  exact List.map_inj_right (fun _ _ => inj_aAttr) |>.1 h
theorem c121 {T : List (Entry Tryz.prog)} (a : At1) (nm : Str) : CallAt (ctx T) 121 [aAttr a, .fptr [.str nm] 0] ⟨0, []⟩ (.bool (decide (a.1 = nm))) ⟨0, []⟩ := by
  refine callAt_body (fn := Tryz.f121) (s0 := ⟨[0, 1, 2, 3], [aAttr a, .fptr [.str nm] 0, .undef, .undef], [], 8, ⟨0, [[]]⟩⟩) Tryz.func121 rfl rfl rfl ?_
  repeat refine wps_seq ?_
  refine wps_region callOK ?_
  simp [zS, aAttr]
  repeat refine wps_seq ?_
  refine wps_region callOK ?_
  simp [zS]
  repeat refine wps_seq ?_
  refine wps_ret ?_
  simp [retVal, Tryz.f121, oneOr]
  exact ⟨[], [], fitV_pure rfl, FitH.empty⟩
def idxFrom {α : Type} (p : α → Bool) : List α → Nat → Int
  | [], _ => -1
  | a :: r, k => if p a = true then k else idxFrom p r (k + 1)
theorem idxFrom_at {α : Type} {p : α → Bool} {L : List α} {i : Nat} (h : i < L.length) : idxFrom p (L.drop i) i = if p L[i] = true then (i : Int) else idxFrom p (L.drop (i + 1)) (i + 1) := by
  rw [List.drop_eq_getElem_cons h]; rfl
theorem atA {L : List At1} {i : Nat} (h : i < L.length) : indexAddrA Tryz.prog 31 (aAttrs L) (.int .i64 (i : Int)) = some (.fptr [.str L[i].1, .str L[i].2] 0) := by
  simp [indexAddrA, aAttrs, idx_nat h, getL_map h, aAttr, AV.cells]
theorem lenA1 {H : Heap} {L : List At1} : lenA Tryz.prog H 31 (aAttrs L) = some L.length := by simp [lenA, aAttrs]
theorem rdA1 {H : Heap} (a : At1) : readVar Tryz.prog H 35 (.fptr [.str a.1, .str a.2] 0) = some (aAttr a) := by simp [readVar, subL, takeL, aAttr]
theorem c120 {T : List (Entry Tryz.prog)} (L : List At1) (hl : L.length ≤ 1000) (clo : FuncId) (cap : List AV) (hc : pureL cap = true) (p : At1 → Bool) (hp : ∀ a, CallAt (ctx T) clo (aAttr a :: cap) ⟨0, []⟩ (.bool (p a)) ⟨0, []⟩) :
    CallAt (ctx T) 120 [aAttrs L, .func (.func clo) [] cap] ⟨0, []⟩ (.int .i64 (idxFrom p L 0)) ⟨0, []⟩ := by
  refine callAt_body (fn := Tryz.f120) (s0 := ⟨[0, 1, 4, 5, 7, 8], [aAttrs L, .func (.func clo) [] cap, .undef, .undef, .undef, .undef], [], 19, ⟨0, [[]]⟩⟩) Tryz.func120 rfl rfl rfl ?_
  repeat refine wps_seq ?_
  refine wps_region callOK ?_
  simp [zS]
  repeat refine wps_seq ?_
  refine wps_region callOK ?_
  simp [zS, lenA1]
  repeat refine wps_seq ?_
  refine wps_block (wps_loop' (fun i : Nat => (⟨[0, 1, 4, 5, 7, 8], [aAttrs L, .func (.func clo) [] cap, .undef, .undef, .int .i64 L.length, .int .i64 i], [], 19, ⟨0, [[]]⟩⟩ : St))
    (fun i => i ≤ L.length ∧ idxFrom p L 0 = idxFrom p (L.drop i) i) (fun i => L.length - i) [] [] 0 ⟨Nat.zero_le _, rfl⟩ ⟨rfl, rfl, rfl, by simp [fitL, fitV, pureV, pureL, hc], FitH.nothing⟩ ?_)
  rintro i ⟨hi, hx⟩ B hB
  repeat refine wps_seq ?_
  refine wps_region callOK ?_
  simp [zS]
  repeat refine wps_seq ?_
  refine wps_cond rfl (fun h => ?_) fun h => ?_
  · simp at h
    repeat refine wps_seq ?_
    refine wps_skip ?_
    simp
    repeat refine wps_seq ?_
    refine wps_block ?_
    repeat refine wps_seq ?_
    refine wps_region callOK ?_
    simp [zS]
    repeat refine wps_seq ?_
    refine wps_region (callF_ok callOK [⟨clo, [aAttr L[i]] ++ cap, ⟨0, [[]]⟩, .bool (p L[i]), ⟨0, [[]]⟩, (hp L[i]).lift (by simp [pureL, hc]) _⟩]) ?_
    simp [zS, atA h, callF, rdA1]
    repeat refine wps_seq ?_
    refine wps_cond rfl (fun h2 => ?_) fun h2 => ?_
    · repeat refine wps_seq ?_
      refine wps_region callOK ?_
      simp [zS]
      repeat refine wps_seq ?_
      refine wps_ret ?_
      simp [retVal, Tryz.f120, oneOr]
      refine ⟨[], [], ?_, FitH.empty⟩
      rw [hx, idxFrom_at h, if_pos h2]
      exact fitV_pure rfl
    · repeat refine wps_seq ?_
      refine wps_skip ?_
      simp
      repeat refine wps_seq ?_
      refine wps_region callOK ?_
      simp [zS, add_one (show i ≤ 1000000000 by omega)]
      refine hB _ (i + 1) (by omega) ⟨by omega, ?_⟩ ⟨[], [], ⟨rfl, rfl, rfl, by simp [fitL, fitV, pureV, pureL, hc], FitH.nothing⟩⟩
      rw [hx, idxFrom_at h, h2]
      simp
  · simp at h
    repeat refine wps_seq ?_
    refine wps_exit ?_
    simp
    repeat refine wps_seq ?_
    refine wps_region callOK ?_
    simp [zS]
    repeat refine wps_seq ?_
    refine wps_ret ?_
    simp [retVal, Tryz.f120, oneOr]
    refine ⟨[], [], ?_, FitH.empty⟩
    rw [hx, List.drop_eq_nil_of_le (by omega)]
    exact fitV_pure rfl
def placeL (L : List At1) (nm : Str) : Int := idxFrom (fun a => decide (a.1 = nm)) L 0
theorem c84 {T : List (Entry Tryz.prog)} (L : List At1) (nm : Str) (hl : L.length ≤ 1000) : CallAt (ctx T) 84 [aAttrs L, .str nm] ⟨0, []⟩ (.int .i64 (placeL L nm)) ⟨0, []⟩ := by
  refine callAt_body (fn := Tryz.f84) (s0 := ⟨[0, 1, 3, 4], [aAttrs L, .str nm, .undef, .undef], [], 8, ⟨0, [[]]⟩⟩) Tryz.func84 rfl rfl rfl ?_
  repeat refine wps_seq ?_
  refine wps_region callOK ?_
  simp [zS]
  repeat refine wps_seq ?_
  refine wps_region (callOKF [⟨120, [aAttrs L, .func (.func 121) [] [.ptr 0 0]], ⟨1, [[(0, .cells [.str nm])]]⟩, .int .i64 (placeL L nm), _,
    CallAt.thaw (c120 L hl 121 [.fptr [.str nm] 0] rfl (fun a => decide (a.1 = nm)) fun a => c121 a nm) rfl [] (by simp [thawA_ok, thawA_clo (H := ⟨1, [[(0, .cells [.str nm])]]⟩) (b := 0) (cs := [.str nm]) rfl rfl])⟩]) ?_
  simp [zS, callF]
  repeat refine wps_seq ?_
  refine wps_ret ?_
  simp [retVal, Tryz.f84, oneOr]
  exact ends_pure rfl rfl
noncomputable def e84 : Entry Tryz.prog := mkE 84 [[2], []] (fun x : List At1 × Str => [aAttrs x.1, .str x.2]) (fun x => x.1.length ≤ 1000) (fun x => .int .i64 (placeL x.1 x.2)) fun x hx => c84 (T := []) x.1 x.2 hx
theorem k84 {T : List (Entry Tryz.prog)} (hT : findE 84 T = some e84.g) {L : List At1} (nm : Str) (hl : L.length ≤ 1000) {H : Heap} {l : AV} (h : thawA H [2] l = some (aAttrs L)) : callL (ctx T) (.fn 84) [l, .str nm] H = some (.int .i64 (placeL L nm), H) :=
  mkE_scalar hT (fun x y h => by simp at h; exact Prod.ext (inj_aAttrs h.1) h.2) (L, nm) hl rfl (by simp [h])
def getAt (nm : Str) : List At1 → Option Str
  | [] => none
  | a :: r => if a.1 = nm then some a.2 else getAt nm r
def gotA (x : Option Str) : AV := .tup [.str (x.getD []), .bool x.isSome]
theorem idxFrom_get {nm : Str} : ∀ (L : List At1) (k : Nat), (idxFrom (fun a => decide (a.1 = nm)) L k = -1 ∧ getAt nm L = none) ∨ ∃ i, ∃ h : i < L.length, idxFrom (fun a => decide (a.1 = nm)) L k = (k + i : Nat) ∧ getAt nm L = some L[i].2 ∧ L[i].1 = nm
  | [], k => .inl ⟨rfl, rfl⟩
  | a :: r, k => by
    by_cases hq : a.1 = nm
    · exact .inr ⟨0, by simp, by simp [idxFrom, hq], by simp [getAt, hq], hq⟩
    · rcases idxFrom_get (nm := nm) r (k + 1) with ⟨h1, h2⟩ | ⟨i, h, h1, h2, h3⟩
      · exact .inl ⟨by simp [idxFrom, hq, h1], by simp [getAt, hq, h2]⟩
      · exact .inr ⟨i + 1, by simpa using h, by simp [idxFrom, hq, h1]; omega, by simp [getAt, hq, h2], h3⟩
theorem c56 {T : List (Entry Tryz.prog)} (hT : findE 84 T = some e84.g) (L : List At1) (nm : Str) (hl : L.length ≤ 1000) : CallAt (ctx T) 56 [aAttrs L, .str nm] ⟨0, []⟩ (gotA (getAt nm L)) ⟨0, []⟩ := by
  refine callAt_body (fn := Tryz.f56) (s0 := ⟨[0, 1, 4, 5, 6], [aAttrs L, .str nm, .undef, .undef, .undef], [], 17, ⟨0, [[]]⟩⟩) Tryz.func56 rfl rfl rfl ?_
  repeat refine wps_seq ?_
  refine wps_region callOK ?_
  simp [zS]
  repeat refine wps_seq ?_
  refine wps_region callOK ?_
  simp [zS, k84 hT nm hl (th_aAttrs _ L)]
  repeat refine wps_seq ?_
  refine wps_region callOK ?_
  simp [zS]
  repeat refine wps_seq ?_
  refine wps_cond rfl (fun h => ?_) fun h => ?_
  · rcases idxFrom_get (nm := nm) L 0 with ⟨h1, h2⟩ | ⟨i, hi, h1, h2, h3⟩
    · simp [placeL, h1] at h
    · have hp : placeL L nm = (i : Int) := by simp [placeL, h1]
      simp only [hp]
      repeat refine wps_seq ?_
      refine wps_region callOK ?_
      simp [zS, atA hi]
      repeat refine wps_seq ?_
      refine wps_ret ?_
      simp [retVal, Tryz.f56, oneOr]
      exact ends_pure rfl (by simp [gotA, h2])
  · rcases idxFrom_get (nm := nm) L 0 with ⟨h1, h2⟩ | ⟨i, hi, h1, h2, h3⟩
    · repeat refine wps_seq ?_
      refine wps_skip ?_
      simp
      repeat refine wps_seq ?_
      refine wps_region callOK ?_
      simp [zS]
      repeat refine wps_seq ?_
      refine wps_ret ?_
      simp [retVal, Tryz.f56, oneOr]
      exact ends_pure rfl (by simp [gotA, h2])
    · simp [placeL, h1] at h
noncomputable def e56 : Entry Tryz.prog := mkE 56 [[2], []] (fun x : List At1 × Str => [aAttrs x.1, .str x.2]) (fun x => x.1.length ≤ 1000) (fun x => gotA (getAt x.2 x.1)) fun x hx => c56 (T := [e84]) rfl x.1 x.2 hx
theorem injS (x y : List At1 × Str) (h : [aAttrs x.1, .str x.2] = [aAttrs y.1, .str y.2]) : x = y := by
  simp at h; exact Prod.ext (inj_aAttrs h.1) h.2
theorem k56 {T : List (Entry Tryz.prog)} (hT : findE 56 T = some e56.g) {L : List At1} (nm : Str) (hl : L.length ≤ 1000) {H : Heap} {l : AV} (h : thawA H [2] l = some (aAttrs L)) : callL (ctx T) (.fn 56) [l, .str nm] H = some (gotA (getAt nm L), H) :=
  mkE_scalar hT injS (L, nm) hl rfl (by simp [h])
theorem getAt_at {nm : Str} {L : List At1} {i : Nat} (h : i < L.length) : getAt nm (L.drop i) = if L[i].1 = nm then some L[i].2 else getAt nm (L.drop (i + 1)) := by
  rw [List.drop_eq_getElem_cons h]; rfl
theorem c49 {T : List (Entry Tryz.prog)} (L : List At1) (nm : Str) (hl : L.length ≤ 1000) : CallAt (ctx T) 49 [aAttrs L, .str nm] ⟨0, []⟩ (gotA (getAt nm L)) ⟨0, []⟩ := by
  refine callAt_body (fn := Tryz.f49) (s0 := ⟨[0, 1, 4, 5, 6], [aAttrs L, .str nm, .undef, .undef, .undef], [], 25, ⟨0, [[]]⟩⟩) Tryz.func49 rfl rfl rfl ?_
  repeat refine wps_seq ?_
  refine wps_region callOK ?_
  simp [zS]
  repeat refine wps_seq ?_
  refine wps_region callOK ?_
  simp [zS]
  repeat refine wps_seq ?_
  refine wps_block (wps_loop' (fun i : Nat => (⟨[0, 1, 4, 5, 6], [aAttrs L, .str nm, .str [], .bool false, .int .i64 i], [], 25, ⟨0, [[]]⟩⟩ : St))
    (fun i => i ≤ L.length ∧ getAt nm L = getAt nm (L.drop i)) (fun i => L.length - i) [] [] 0 ⟨Nat.zero_le _, rfl⟩ ⟨rfl, rfl, rfl, by simp [fitL, fitV, pureV, pureL], FitH.nothing⟩ ?_)
  rintro i ⟨hi, hx⟩ B hB
  repeat refine wps_seq ?_
  refine wps_region callOK ?_
  simp [zS, lenA1]
  repeat refine wps_seq ?_
  refine wps_cond rfl (fun h => ?_) fun h => ?_
  · simp at h
    repeat refine wps_seq ?_
    refine wps_skip ?_
    simp
    repeat refine wps_seq ?_
    refine wps_block ?_
    repeat refine wps_seq ?_
    refine wps_region callOK ?_
    simp [zS, atA h]
    repeat refine wps_seq ?_
    refine wps_cond rfl (fun h2 => ?_) fun h2 => ?_
    · repeat refine wps_seq ?_
      refine wps_region callOK ?_
      simp [zS, atA h]
      repeat refine wps_seq ?_
      refine wps_ret ?_
      simp [retVal, Tryz.f49, oneOr]
      simp at h2
      exact ends_pure rfl (by simp [gotA, hx, getAt_at h, h2])
    · repeat refine wps_seq ?_
      refine wps_skip ?_
      simp
      repeat refine wps_seq ?_
      refine wps_region callOK ?_
      simp [zS, add_one (show i ≤ 1000000000 by omega)]
      simp at h2
      exact hB _ (i + 1) (by omega) ⟨by omega, by rw [hx, getAt_at h]; simp [h2]⟩ ⟨[], [], ⟨rfl, rfl, rfl, by simp [fitL, fitV, pureV, pureL], FitH.nothing⟩⟩
  · simp at h
    repeat refine wps_seq ?_
    refine wps_exit ?_
    simp
    repeat refine wps_seq ?_
    refine wps_region callOK ?_
    simp [zS]
    repeat refine wps_seq ?_
    refine wps_ret ?_
    simp [retVal, Tryz.f49, oneOr]
    exact ends_pure rfl (by simp [gotA, hx, List.drop_eq_nil_of_le h, getAt])
noncomputable def e49 : Entry Tryz.prog := mkE 49 [[2], []] (fun x : List At1 × Str => [aAttrs x.1, .str x.2]) (fun x => x.1.length ≤ 1000) (fun x => gotA (getAt x.2 x.1)) fun x hx => c49 (T := []) x.1 x.2 hx
theorem k49 {T : List (Entry Tryz.prog)} (hT : findE 49 T = some e49.g) {L : List At1} (nm : Str) (hl : L.length ≤ 1000) {H : Heap} {l : AV} (h : thawA H [2] l = some (aAttrs L)) : callL (ctx T) (.fn 49) [l, .str nm] H = some (gotA (getAt nm L), H) :=
  mkE_scalar hT injS (L, nm) hl rfl (by simp [h])
structure Nd where
  kind : Int
  space : Int
  name : Str
  attrs : List At1
  data : Str
  up : Int
  kids : List Int
def aInt (i : Int) : AV := .int .i64 i
abbrev aInts (L : List Int) : AV := .fslc 1 (L.map aInt)
def Nd.cs (n : Nd) : List AV := [aInt n.kind, aInt n.space, .str n.name, aAttrs n.attrs, .str n.data, aInt n.up, aInts n.kids]
def aNode (n : Nd) : AV := .agg n.cs
abbrev Tr := List Nd
abbrev aNodes (t : Tr) : AV := .fslc 7 (t.map aNode)
def aTree (t : Tr) : AV := .agg [aNodes t]
@[simp] theorem pure_aInts (L : List Int) : pureV (aInts L) = true := by simp [aInts, pureV]
@[simp] theorem pure_aNode (n : Nd) : pureV (aNode n) = true := by simp [aNode, Nd.cs, aInt, pureV, pureL]
@[simp] theorem pure_aNodes (t : Tr) : pureV (aNodes t) = true := by simp [aNodes, pureV]
@[simp] theorem pure_aTree (t : Tr) : pureV (aTree t) = true := by simp [aTree, pureV, pureL]
@[simp] theorem cells_aNode (n : Nd) : (aNode n).cells = n.cs := rfl
@[simp] theorem cells_aTree (t : Tr) : (aTree t).cells = [aNodes t] := rfl
@[simp] theorem cells_aInt (i : Int) : (aInt i).cells = [aInt i] := rfl
@[simp] theorem ok_aNode (n : Nd) : okV (aNode n) = true := by simp [aNode, Nd.cs, aInt, aAttrs, aInts, okV, pureV, pureL]
theorem th_aNode (H : Heap) (n : Nd) : thawA H [] (aNode n) = some (aNode n) := thawA_ok (by simp)
theorem inj_aInts {L M : List Int} (h : aInts L = aInts M) : L = M := by
  simp only [aInts, AV.fslc.injEq, true_and] at h
  exact List.map_inj_right (fun x y e => by simp [aInt] at e; exact e) |>.1 h
theorem inj_aNode {a b : Nd} (h : aNode a = aNode b) : a = b := by
  obtain ⟨k, s, n, at_, d, u, ks⟩ := a
  obtain ⟨k', s', n', at', d', u', ks'⟩ := b
  simp [aNode, Nd.cs, aInt] at h
  obtain ⟨h1, h2, h3, h4, h5, h6, h7⟩ := h
  have h7' : aInts ks = aInts ks' := by show AV.fslc 1 _ = AV.fslc 1 _; rw [h7]
  simp [h1, h2, h3, inj_aAttrs h4, h5, h6, inj_aInts h7']
theorem inj_aTree {a b : Tr} (h : aTree a = aTree b) : a = b := by
  simp [aTree, aNodes] at h
  exact List.map_inj_right (fun x y e => inj_aNode e) |>.1 h
abbrev wId : Str := [105, 100]
abbrev wName : Str := [110, 97, 109, 101]
abbrev wEmbed : Str := [101, 109, 98, 101, 100]
abbrev wForm : Str := [102, 111, 114, 109]
abbrev wIframe : Str := [105, 102, 114, 97, 109, 101]
abbrev wObject : Str := [111, 98, 106, 101, 99, 116]
abbrev wImg : Str := [105, 109, 103]
def valOf (n : Nd) (nm : Str) : Str := (getAt nm n.attrs).getD []
def toldB (n : Nd) (x : Str) : Bool :=
  if n.kind = 1 ∧ n.space = 0 then
    if n.name = wEmbed ∨ n.name = wForm ∨ n.name = wIframe then decide (valOf n wName = x)
    else if n.name = wObject then decide (valOf n wName = x) || decide (valOf n wId = x)
    else if n.name = wImg then decide (valOf n wName = x) || (!decide (valOf n wName = []) && decide (valOf n wId = x))
    else false
  else false
theorem docs_told_wEmbed {T : List (Entry Tryz.prog)} (hG : findE 56 T = some e56.g) (kind space : Int) (name : Str) (attrs : List At1) (kids : List Int) (data x : Str) (up : Int) (hl : attrs.length ≤ 1000) :
    CallAt (ctx T) 89 [aNode ⟨1, 0, wEmbed, attrs, data, up, kids⟩, .str x] ⟨0, []⟩ (.bool (toldB ⟨1, 0, wEmbed, attrs, data, up, kids⟩ x)) ⟨0, []⟩ := by
  have hI := fun H => k56 hG wId hl (th_aAttrs H _)
  have hN := fun H => k56 hG wName hl (th_aAttrs H _)
  simp only [aAttrs] at hl hI hN
  generalize hv : (getAt wId attrs).getD [] = vi at *
  generalize hw : (getAt wName attrs).getD [] = vn at *
  refine callAt_body (fn := Tryz.f89) (s0 := ⟨[0, 1, 2, 4, 5, 7, 30, 31], [aNode ⟨1, 0, wEmbed, attrs, data, up, kids⟩, .str x, .undef, .undef, .undef, .undef, .undef, .undef], [], 62, ⟨0, [[]]⟩⟩) Tryz.func89 rfl rfl rfl ?_
  (repeat (first
    | (refine wps_seq ?_)
    | (refine wps_block ?_)
    | (refine wps_label ?_; simp only [thenQ, blockQ])
    | ((refine wps_region callOK ?_); simp [zS, aNode, Nd.cs, aInt, aAttrs, aInts, gotA, hv, hw, hI, hN])
    | (refine wps_cond (t := true) rfl (fun _ => ?_) (fun h => by cases h))
    | (refine wps_cond (t := false) rfl (fun h => by cases h) (fun _ => ?_))
    | ((refine wps_skip ?_); simp only [thenQ, blockQ])
    | ((refine wps_exit ?_); simp [thenQ, blockQ])))
  repeat refine wps_seq ?_
  refine wps_ret ?_
  simp [retVal, Tryz.f89, oneOr, thenQ, blockQ]
  exact ends_pure rfl (by simp [toldB, valOf, hv, hw])
theorem docs_told_wForm {T : List (Entry Tryz.prog)} (hG : findE 56 T = some e56.g) (kind space : Int) (name : Str) (attrs : List At1) (kids : List Int) (data x : Str) (up : Int) (hl : attrs.length ≤ 1000) :
    CallAt (ctx T) 89 [aNode ⟨1, 0, wForm, attrs, data, up, kids⟩, .str x] ⟨0, []⟩ (.bool (toldB ⟨1, 0, wForm, attrs, data, up, kids⟩ x)) ⟨0, []⟩ := by
  have hI := fun H => k56 hG wId hl (th_aAttrs H _)
  have hN := fun H => k56 hG wName hl (th_aAttrs H _)
  simp only [aAttrs] at hl hI hN
  generalize hv : (getAt wId attrs).getD [] = vi at *
  generalize hw : (getAt wName attrs).getD [] = vn at *
  refine callAt_body (fn := Tryz.f89) (s0 := ⟨[0, 1, 2, 4, 5, 7, 30, 31], [aNode ⟨1, 0, wForm, attrs, data, up, kids⟩, .str x, .undef, .undef, .undef, .undef, .undef, .undef], [], 62, ⟨0, [[]]⟩⟩) Tryz.func89 rfl rfl rfl ?_
  (repeat (first
    | (refine wps_seq ?_)
    | (refine wps_block ?_)
    | (refine wps_label ?_; simp only [thenQ, blockQ])
    | ((refine wps_region callOK ?_); simp [zS, aNode, Nd.cs, aInt, aAttrs, aInts, gotA, hv, hw, hI, hN])
    | (refine wps_cond (t := true) rfl (fun _ => ?_) (fun h => by cases h))
    | (refine wps_cond (t := false) rfl (fun h => by cases h) (fun _ => ?_))
    | ((refine wps_skip ?_); simp only [thenQ, blockQ])
    | ((refine wps_exit ?_); simp [thenQ, blockQ])))
  repeat refine wps_seq ?_
  refine wps_ret ?_
  simp [retVal, Tryz.f89, oneOr, thenQ, blockQ]
  exact ends_pure rfl (by simp [toldB, valOf, hv, hw])
theorem docs_told_wIframe {T : List (Entry Tryz.prog)} (hG : findE 56 T = some e56.g) (kind space : Int) (name : Str) (attrs : List At1) (kids : List Int) (data x : Str) (up : Int) (hl : attrs.length ≤ 1000) :
    CallAt (ctx T) 89 [aNode ⟨1, 0, wIframe, attrs, data, up, kids⟩, .str x] ⟨0, []⟩ (.bool (toldB ⟨1, 0, wIframe, attrs, data, up, kids⟩ x)) ⟨0, []⟩ := by
  have hI := fun H => k56 hG wId hl (th_aAttrs H _)
  have hN := fun H => k56 hG wName hl (th_aAttrs H _)
  simp only [aAttrs] at hl hI hN
  generalize hv : (getAt wId attrs).getD [] = vi at *
  generalize hw : (getAt wName attrs).getD [] = vn at *
  refine callAt_body (fn := Tryz.f89) (s0 := ⟨[0, 1, 2, 4, 5, 7, 30, 31], [aNode ⟨1, 0, wIframe, attrs, data, up, kids⟩, .str x, .undef, .undef, .undef, .undef, .undef, .undef], [], 62, ⟨0, [[]]⟩⟩) Tryz.func89 rfl rfl rfl ?_
  (repeat (first
    | (refine wps_seq ?_)
    | (refine wps_block ?_)
    | (refine wps_label ?_; simp only [thenQ, blockQ])
    | ((refine wps_region callOK ?_); simp [zS, aNode, Nd.cs, aInt, aAttrs, aInts, gotA, hv, hw, hI, hN])
    | (refine wps_cond (t := true) rfl (fun _ => ?_) (fun h => by cases h))
    | (refine wps_cond (t := false) rfl (fun h => by cases h) (fun _ => ?_))
    | ((refine wps_skip ?_); simp only [thenQ, blockQ])
    | ((refine wps_exit ?_); simp [thenQ, blockQ])))
  repeat refine wps_seq ?_
  refine wps_ret ?_
  simp [retVal, Tryz.f89, oneOr, thenQ, blockQ]
  exact ends_pure rfl (by simp [toldB, valOf, hv, hw])
theorem docs_told_wObject {T : List (Entry Tryz.prog)} (hG : findE 56 T = some e56.g) (kind space : Int) (name : Str) (attrs : List At1) (kids : List Int) (data x : Str) (up : Int) (hl : attrs.length ≤ 1000) :
    CallAt (ctx T) 89 [aNode ⟨1, 0, wObject, attrs, data, up, kids⟩, .str x] ⟨0, []⟩ (.bool (toldB ⟨1, 0, wObject, attrs, data, up, kids⟩ x)) ⟨0, []⟩ := by
  have hI := fun H => k56 hG wId hl (th_aAttrs H _)
  have hN := fun H => k56 hG wName hl (th_aAttrs H _)
  simp only [aAttrs] at hl hI hN
  generalize hv : (getAt wId attrs).getD [] = vi at *
  generalize hw : (getAt wName attrs).getD [] = vn at *
  rcases Bool.eq_false_or_eq_true (decide (vn = x)) with b1 | b1
  all_goals
    refine callAt_body (fn := Tryz.f89) (s0 := ⟨[0, 1, 2, 4, 5, 7, 30, 31], [aNode ⟨1, 0, wObject, attrs, data, up, kids⟩, .str x, .undef, .undef, .undef, .undef, .undef, .undef], [], 62, ⟨0, [[]]⟩⟩) Tryz.func89 rfl rfl rfl ?_
    (repeat (first
      | (refine wps_seq ?_)
      | (refine wps_block ?_)
      | (refine wps_label ?_; simp only [thenQ, blockQ])
      | ((refine wps_region callOK ?_); simp [zS, aNode, Nd.cs, aInt, aAttrs, aInts, gotA, hv, hw, hI, hN, b1])
      | (refine wps_cond (t := true) rfl (fun _ => ?_) (fun h => by cases h))
      | (refine wps_cond (t := false) rfl (fun h => by cases h) (fun _ => ?_))
      | ((refine wps_skip ?_); simp only [thenQ, blockQ])
      | ((refine wps_exit ?_); simp [thenQ, blockQ])))
    repeat refine wps_seq ?_
    refine wps_ret ?_
    simp [retVal, Tryz.f89, oneOr, thenQ, blockQ]
    exact ends_pure rfl (by simp [toldB, valOf, hv, hw, b1])
theorem docs_told_wImg {T : List (Entry Tryz.prog)} (hG : findE 56 T = some e56.g) (kind space : Int) (name : Str) (attrs : List At1) (kids : List Int) (data x : Str) (up : Int) (hl : attrs.length ≤ 1000) :
    CallAt (ctx T) 89 [aNode ⟨1, 0, wImg, attrs, data, up, kids⟩, .str x] ⟨0, []⟩ (.bool (toldB ⟨1, 0, wImg, attrs, data, up, kids⟩ x)) ⟨0, []⟩ := by
  have hI := fun H => k56 hG wId hl (th_aAttrs H _)
  have hN := fun H => k56 hG wName hl (th_aAttrs H _)
  simp only [aAttrs] at hl hI hN
  generalize hv : (getAt wId attrs).getD [] = vi at *
  generalize hw : (getAt wName attrs).getD [] = vn at *
  rcases Bool.eq_false_or_eq_true (decide (vn = x)) with b1 | b1 <;> rcases Bool.eq_false_or_eq_true (decide (vn = [])) with b3 | b3
  all_goals
    refine callAt_body (fn := Tryz.f89) (s0 := ⟨[0, 1, 2, 4, 5, 7, 30, 31], [aNode ⟨1, 0, wImg, attrs, data, up, kids⟩, .str x, .undef, .undef, .undef, .undef, .undef, .undef], [], 62, ⟨0, [[]]⟩⟩) Tryz.func89 rfl rfl rfl ?_
    (repeat (first
      | (refine wps_seq ?_)
      | (refine wps_block ?_)
      | (refine wps_label ?_; simp only [thenQ, blockQ])
      | ((refine wps_region callOK ?_); simp [zS, aNode, Nd.cs, aInt, aAttrs, aInts, gotA, hv, hw, hI, hN, b1, b3])
      | (refine wps_cond (t := true) rfl (fun _ => ?_) (fun h => by cases h))
      | (refine wps_cond (t := false) rfl (fun h => by cases h) (fun _ => ?_))
      | ((refine wps_skip ?_); simp only [thenQ, blockQ])
      | ((refine wps_exit ?_); simp [thenQ, blockQ])))
    repeat refine wps_seq ?_
    refine wps_ret ?_
    simp [retVal, Tryz.f89, oneOr, thenQ, blockQ]
    exact ends_pure rfl (by simp [toldB, valOf, hv, hw, b1, b3])
theorem docs_told_other {T : List (Entry Tryz.prog)} (hG : findE 56 T = some e56.g) (kind space : Int) (name : Str) (attrs : List At1) (kids : List Int) (data x : Str) (up : Int) (hl : attrs.length ≤ 1000) (e0 : ¬ name = wEmbed) (e1 : ¬ name = wForm) (e2 : ¬ name = wIframe) (e3 : ¬ name = wObject) (e4 : ¬ name = wImg) :
    CallAt (ctx T) 89 [aNode ⟨1, 0, name, attrs, data, up, kids⟩, .str x] ⟨0, []⟩ (.bool (toldB ⟨1, 0, name, attrs, data, up, kids⟩ x)) ⟨0, []⟩ := by
  have hI := fun H => k56 hG wId hl (th_aAttrs H _)
  have hN := fun H => k56 hG wName hl (th_aAttrs H _)
  simp only [aAttrs] at hl hI hN
  generalize hv : (getAt wId attrs).getD [] = vi at *
  generalize hw : (getAt wName attrs).getD [] = vn at *
  refine callAt_body (fn := Tryz.f89) (s0 := ⟨[0, 1, 2, 4, 5, 7, 30, 31], [aNode ⟨1, 0, name, attrs, data, up, kids⟩, .str x, .undef, .undef, .undef, .undef, .undef, .undef], [], 62, ⟨0, [[]]⟩⟩) Tryz.func89 rfl rfl rfl ?_
  (repeat (first
    | (refine wps_seq ?_)
    | (refine wps_block ?_)
    | (refine wps_label ?_; simp only [thenQ, blockQ])
    | ((refine wps_region callOK ?_); simp [zS, aNode, Nd.cs, aInt, aAttrs, aInts, gotA, hv, hw, hI, hN, e0, e1, e2, e3, e4])
    | (refine wps_cond (t := true) rfl (fun _ => ?_) (fun h => by cases h))
    | (refine wps_cond (t := false) rfl (fun h => by cases h) (fun _ => ?_))
    | ((refine wps_skip ?_); simp only [thenQ, blockQ])
    | ((refine wps_exit ?_); simp [thenQ, blockQ])))
  repeat refine wps_seq ?_
  refine wps_ret ?_
  simp [retVal, Tryz.f89, oneOr, thenQ, blockQ]
  exact ends_pure rfl (by simp [toldB, valOf, hv, hw, e0, e1, e2, e3, e4])
theorem docs_told_space {T : List (Entry Tryz.prog)} (hG : findE 56 T = some e56.g) (kind space : Int) (name : Str) (attrs : List At1) (kids : List Int) (data x : Str) (up : Int) (hl : attrs.length ≤ 1000) (hs : ¬ space = 0) :
    CallAt (ctx T) 89 [aNode ⟨1, space, name, attrs, data, up, kids⟩, .str x] ⟨0, []⟩ (.bool (toldB ⟨1, space, name, attrs, data, up, kids⟩ x)) ⟨0, []⟩ := by
  have hI := fun H => k56 hG wId hl (th_aAttrs H _)
  have hN := fun H => k56 hG wName hl (th_aAttrs H _)
  simp only [aAttrs] at hl hI hN
  generalize hv : (getAt wId attrs).getD [] = vi at *
  generalize hw : (getAt wName attrs).getD [] = vn at *
  refine callAt_body (fn := Tryz.f89) (s0 := ⟨[0, 1, 2, 4, 5, 7, 30, 31], [aNode ⟨1, space, name, attrs, data, up, kids⟩, .str x, .undef, .undef, .undef, .undef, .undef, .undef], [], 62, ⟨0, [[]]⟩⟩) Tryz.func89 rfl rfl rfl ?_
  (repeat (first
    | (refine wps_seq ?_)
    | (refine wps_block ?_)
    | (refine wps_label ?_; simp only [thenQ, blockQ])
    | ((refine wps_region callOK ?_); simp [zS, aNode, Nd.cs, aInt, aAttrs, aInts, gotA, hv, hw, hs])
    | (refine wps_cond (t := true) rfl (fun _ => ?_) (fun h => by cases h))
    | (refine wps_cond (t := false) rfl (fun h => by cases h) (fun _ => ?_))
    | ((refine wps_skip ?_); simp only [thenQ, blockQ])
    | ((refine wps_exit ?_); simp [thenQ, blockQ])))
  repeat refine wps_seq ?_
  refine wps_ret ?_
  simp [retVal, Tryz.f89, oneOr, thenQ, blockQ]
  exact ends_pure rfl (by simp [toldB, valOf, hv, hw, hs])
theorem docs_told_kind {T : List (Entry Tryz.prog)} (hG : findE 56 T = some e56.g) (kind space : Int) (name : Str) (attrs : List At1) (kids : List Int) (data x : Str) (up : Int) (hl : attrs.length ≤ 1000) (hk : ¬ kind = 1) :
    CallAt (ctx T) 89 [aNode ⟨kind, space, name, attrs, data, up, kids⟩, .str x] ⟨0, []⟩ (.bool (toldB ⟨kind, space, name, attrs, data, up, kids⟩ x)) ⟨0, []⟩ := by
  have hI := fun H => k56 hG wId hl (th_aAttrs H _)
  have hN := fun H => k56 hG wName hl (th_aAttrs H _)
  simp only [aAttrs] at hl hI hN
  generalize hv : (getAt wId attrs).getD [] = vi at *
  generalize hw : (getAt wName attrs).getD [] = vn at *
  refine callAt_body (fn := Tryz.f89) (s0 := ⟨[0, 1, 2, 4, 5, 7, 30, 31], [aNode ⟨kind, space, name, attrs, data, up, kids⟩, .str x, .undef, .undef, .undef, .undef, .undef, .undef], [], 62, ⟨0, [[]]⟩⟩) Tryz.func89 rfl rfl rfl ?_
  (repeat (first
    | (refine wps_seq ?_)
    | (refine wps_block ?_)
    | (refine wps_label ?_; simp only [thenQ, blockQ])
    | ((refine wps_region callOK ?_); simp [zS, aNode, Nd.cs, aInt, aAttrs, aInts, gotA, hv, hw, hk])
    | (refine wps_cond (t := true) rfl (fun _ => ?_) (fun h => by cases h))
    | (refine wps_cond (t := false) rfl (fun h => by cases h) (fun _ => ?_))
    | ((refine wps_skip ?_); simp only [thenQ, blockQ])
    | ((refine wps_exit ?_); simp [thenQ, blockQ])))
  repeat refine wps_seq ?_
  refine wps_ret ?_
  simp [retVal, Tryz.f89, oneOr, thenQ, blockQ]
  exact ends_pure rfl (by simp [toldB, valOf, hv, hw, hk])
theorem c89 {T : List (Entry Tryz.prog)} (hG : findE 56 T = some e56.g) (n : Nd) (x : Str) (hl : n.attrs.length ≤ 1000) :
    CallAt (ctx T) 89 [aNode n, .str x] ⟨0, []⟩ (.bool (toldB n x)) ⟨0, []⟩ := by
  obtain ⟨kind, space, name, attrs, data, up, kids⟩ := n
  simp only at hl
  by_cases hk : kind = 1
  · subst hk
    by_cases hs : space = 0
    · subst hs
      by_cases e0 : name = wEmbed
      · subst e0; exact docs_told_wEmbed hG 1 0 [] attrs kids data x up hl
      by_cases e1 : name = wForm
      · subst e1; exact docs_told_wForm hG 1 0 [] attrs kids data x up hl
      by_cases e2 : name = wIframe
      · subst e2; exact docs_told_wIframe hG 1 0 [] attrs kids data x up hl
      by_cases e3 : name = wObject
      · subst e3; exact docs_told_wObject hG 1 0 [] attrs kids data x up hl
      by_cases e4 : name = wImg
      · subst e4; exact docs_told_wImg hG 1 0 [] attrs kids data x up hl
      exact docs_told_other hG 1 0 name attrs kids data x up hl e0 e1 e2 e3 e4
    · exact docs_told_space hG 1 space name attrs kids data x up hl hs
  · exact docs_told_kind hG kind space name attrs kids data x up hl hk
noncomputable def e89 : Entry Tryz.prog := mkE 89 [[], []] (fun x : Nd × Str => [aNode x.1, .str x.2]) (fun x => x.1.attrs.length ≤ 1000) (fun x => .bool (toldB x.1 x.2)) fun x hx => c89 (T := [e56]) rfl x.1 x.2 hx
theorem injN (x y : Nd × Str) (h : [aNode x.1, .str x.2] = [aNode y.1, .str y.2]) : x = y := by
  simp at h; exact Prod.ext (inj_aNode h.1) h.2
theorem k89 {T : List (Entry Tryz.prog)} (hT : findE 89 T = some e89.g) {n : Nd} (x : Str) (hl : n.attrs.length ≤ 1000) (H : Heap) : callL (ctx T) (.fn 89) [aNode n, .str x] H = some (.bool (toldB n x), H) :=
  mkE_scalar hT injN (n, x) hl rfl (by simp [th_aNode])
end Go.Proofs.YthclkpplpdnffaaGreatDoor
namespace Go.Proofs.YthclkpplpdnffaaGreatDoor
set_option linter.unusedSimpArgs false
set_option linter.unusedVariables false
structure Wk where
  l : List Int
  inn : List Int
  out : List Int
  c : Int
def negs (I : List Int) : Nat := I.countP fun x => decide (x < 0)
def kl (n : Nat) (g : Nat → Wk → Wk) : List Int → Wk → Wk
  | [], w => w
  | k :: r, w => if 0 ≤ k ∧ k < (n : Int) ∧ w.inn.getD k.toNat 0 < 0 then kl n g r (g k.toNat w) else kl n g r w
def into (i : Nat) (w : Wk) : Wk := ⟨w.l ++ [(i : Int)], w.inn.set i w.c, w.out, w.c + 1⟩
def outof (i : Nat) (w : Wk) : Wk := ⟨w.l, w.inn, w.out.set i w.c, w.c + 1⟩
def vis (n : Nat) (ks : Nat → List Int) : Nat → Nat → Wk → Wk
  | 0, _, w => w
  | f + 1, i, w => outof i (kl n (vis n ks f) (ks i) (into i w))
structure WOK (n K : Nat) (w : Wk) : Prop where
  li : w.inn.length = n
  lo : w.out.length = n
  c0 : 0 ≤ w.c
  cb : w.c + 2 * (negs w.inn : Int) ≤ 2 * K
  lb : w.l.length + negs w.inn ≤ K
theorem negs_set {I : List Int} {i : Nat} {c : Int} (h : i < I.length) (hi : I.getD i 0 < 0) (hc : 0 ≤ c) : negs (I.set i c) + 1 = negs I := by
  induction I generalizing i with
  | nil => simp at h
  | cons x r ih =>
    cases i with
    | zero =>
      have hx : x < 0 := by simpa using hi
      have hc' : ¬ c < 0 := by omega
      simp [negs, List.countP_cons, hx, hc']
    | succ j =>
      have := ih (i := j) (by simpa using h) (by simpa using hi)
      simp only [negs, List.set_cons_succ, List.countP_cons] at this ⊢
      omega
theorem WOK.into {n K i : Nat} {w : Wk} (h : WOK n K w) (hi : i < n) (hn : w.inn.getD i 0 < 0) : WOK n K (into i w) ∧ negs (into i w).inn + 1 = negs w.inn ∧ (into i w).c + 2 * (negs (into i w).inn : Int) + 1 ≤ 2 * K := by
  have e := negs_set (I := w.inn) (by rw [h.li]; exact hi) hn h.c0
  have h1 := h.cb
  have h2 := h.lb
  have h3 := h.c0
  refine ⟨⟨by simp [Go.Proofs.YthclkpplpdnffaaGreatDoor.into, h.li], h.lo, ?_, ?_, ?_⟩, e, ?_⟩ <;> simp only [Go.Proofs.YthclkpplpdnffaaGreatDoor.into, List.length_append, List.length_singleton] <;> omega
def Low (n K : Nat) (b : Int) (w : Wk) : Prop := WOK n K w ∧ w.c + 2 * (negs w.inn : Int) + b ≤ 2 * K
theorem kl_ok {n K f : Nat} {g : Nat → Wk → Wk} (hg : ∀ b i w, 0 ≤ b → Low n K b w → i < n → w.inn.getD i 0 < 0 → negs w.inn ≤ f → Low n K b (g i w) ∧ negs (g i w).inn ≤ negs w.inn) (b : Int) (hb : 0 ≤ b) :
    ∀ (ks : List Int) (w : Wk), Low n K b w → negs w.inn ≤ f → Low n K b (kl n g ks w) ∧ negs (kl n g ks w).inn ≤ negs w.inn
  | [], w, h, _ => ⟨h, Nat.le_refl _⟩
  | k :: r, w, h, hf => by
    unfold kl
    split
    · rename_i hk
      obtain ⟨h1, h2⟩ := hg b k.toNat w hb h (by omega) hk.2.2 hf
      obtain ⟨h3, h4⟩ := kl_ok hg b hb r _ h1 (by omega)
      exact ⟨h3, by omega⟩
    · exact kl_ok hg b hb r w h hf
theorem vis_ok {n K : Nat} {ks : Nat → List Int} : ∀ (f : Nat) (b : Int) (i : Nat) (w : Wk), 0 ≤ b → Low n K b w → i < n → w.inn.getD i 0 < 0 → negs w.inn ≤ f → Low n K b (vis n ks f i w) ∧ negs (vis n ks f i w).inn < negs w.inn
  | 0, b, i, w, hb, h, hi, hn, hf => by
    have e := negs_set (I := w.inn) (by rw [h.1.li]; exact hi) hn h.1.c0
    omega
  | f + 1, b, i, w, hb, h, hi, hn, hf => by
    obtain ⟨h1, h2, h3⟩ := h.1.into hi hn
    have hl : Low n K (b + 1) (into i w) := ⟨h1, by have := h.2; simp only [into] at h2 ⊢; omega⟩
    obtain ⟨h4, h5⟩ := kl_ok (n := n) (K := K) (f := f) (g := vis n ks f) (fun b' i' w' hb' h' hi' hn' hf' => let ⟨x, y⟩ := vis_ok f b' i' w' hb' h' hi' hn' hf'; ⟨x, Nat.le_of_lt y⟩) (b + 1) (by omega) (ks i) (into i w) hl (by omega)
    unfold vis
    refine ⟨⟨⟨h4.1.li, by simp [outof, h4.1.lo], ?_, ?_, ?_⟩, ?_⟩, ?_⟩
    · have := h4.1.c0; simp only [outof]; omega
    · have := h4.2; simp only [outof]; omega
    · exact h4.1.lb
    · have := h4.2; simp only [outof]; omega
    · simp only [outof]; omega
abbrev Cfg := List (Nat × Nat) × List Bool × List Int
def stp (n : Nat) (ks : Nat → List Int) : Cfg → Option Cfg
  | ([], _, _) => none
  | ((i, j) :: p, s, a) => match (ks i)[j]? with
    | none => some (p, s, a)
    | some k => if 0 ≤ k ∧ k < (n : Int) ∧ s.getD k.toNat true = false then some ((k.toNat, 0) :: (i, j + 1) :: p, s.set k.toNat true, a ++ [k]) else some ((i, j + 1) :: p, s, a)
inductive Reach (n : Nat) (ks : Nat → List Int) : Cfg → Cfg → Prop where
  | refl (c : Cfg) : Reach n ks c c
  | step {c d e : Cfg} (h : stp n ks c = some d) (r : Reach n ks d e) : Reach n ks c e
theorem Reach.trans {n : Nat} {ks : Nat → List Int} {c d e : Cfg} (h : Reach n ks c d) (r : Reach n ks d e) : Reach n ks c e := by
  induction h with
  | refl => exact r
  | step h _ ih => exact .step h (ih r)
theorem Reach.one {n : Nat} {ks : Nat → List Int} {c d e : Cfg} (r : Reach n ks c d) (h : stp n ks d = some e) : Reach n ks c e := r.trans (.step h (.refl _))
theorem Reach.det {n : Nat} {ks : Nat → List Int} {c a b : Cfg} (h : Reach n ks c a) (r : Reach n ks c b) (ha : stp n ks a = none) (hb : stp n ks b = none) : a = b := by
  induction h with
  | refl =>
    cases r with
    | refl => rfl
    | step h2 r2 => rw [ha] at h2; cases h2
  | step h _ ih =>
    cases r with
    | refl => rw [hb] at h; cases h
    | step h2 r2 => rw [h] at h2; cases h2; exact ih r2 ha
def seenOf (I : List Int) : List Bool := I.map fun x => decide (0 ≤ x)
theorem seen_get {I : List Int} {i : Nat} (h : i < I.length) : ((seenOf I).getD i true = false) ↔ I.getD i 0 < 0 := by
  simp only [seenOf, List.getD_eq_getElem?_getD, List.getElem?_map, List.getElem?_eq_getElem h, Option.map_some, Option.getD_some, decide_eq_false_iff_not]
  omega
theorem seen_set {I : List Int} {i : Nat} {c : Int} (hc : 0 ≤ c) : seenOf (I.set i c) = (seenOf I).set i true := by
  simp [seenOf, List.map_set, hc]
theorem reach_kl {n K f i : Nat} {ks : Nat → List Int} {p : List (Nat × Nat)} (hg : ∀ p i w, Low n K 0 w → i < n → w.inn.getD i 0 < 0 → negs w.inn ≤ f → Reach n ks ((i, 0) :: p, (seenOf w.inn).set i true, w.l ++ [(i : Int)]) (p, seenOf (vis n ks f i w).inn, (vis n ks f i w).l)) :
    ∀ (r : List Int) (j : Nat) (w : Wk), j ≤ (ks i).length → (ks i).drop j = r → Low n K 0 w → negs w.inn ≤ f → Reach n ks ((i, j) :: p, seenOf w.inn, w.l) ((i, (ks i).length) :: p, seenOf (kl n (vis n ks f) r w).inn, (kl n (vis n ks f) r w).l)
  | [], j, w, hj, hr, h, hf => by
    have : j = (ks i).length := by have := congrArg List.length hr; simp at this; omega
    subst this
    exact .refl _
  | k :: r, j, w, hj, hr, h, hf => by
    have hlt : j < (ks i).length := by have := congrArg List.length hr; simp at this; omega
    have hk : (ks i)[j]? = some k := by
      have := List.drop_eq_getElem_cons hlt
      rw [this] at hr
      simp only [List.cons.injEq] at hr
      rw [List.getElem?_eq_getElem hlt, hr.1]
    have hr' : (ks i).drop (j + 1) = r := by
      have := List.drop_eq_getElem_cons hlt
      rw [this] at hr
      simp only [List.cons.injEq] at hr
      exact hr.2
    unfold kl
    split
    · rename_i hc
      have hkn : k.toNat < n := by omega
      have e : ((k.toNat : Nat) : Int) = k := by omega
      have hs : (seenOf w.inn).getD k.toNat true = false := (seen_get (by rw [h.1.li]; exact hkn)).2 hc.2.2
      obtain ⟨h1, h2⟩ := vis_ok (ks := ks) f 0 k.toNat w (Int.le_refl 0) h hkn hc.2.2 hf
      have r1 := hg ((i, j + 1) :: p) k.toNat w h hkn hc.2.2 hf
      rw [e] at r1
      refine .step (d := ((k.toNat, 0) :: (i, j + 1) :: p, (seenOf w.inn).set k.toNat true, w.l ++ [k])) ?_ (r1.trans (reach_kl hg r (j + 1) _ (by omega) hr' h1 (by omega)))
      simp only [stp, hk]
      rw [if_pos ⟨hc.1, hc.2.1, hs⟩]
    · rename_i hc
      refine .step (d := ((i, j + 1) :: p, seenOf w.inn, w.l)) ?_ (reach_kl hg r (j + 1) w (by omega) hr' h hf)
      simp only [stp, hk]
      rw [if_neg]
      intro hx
      exact hc ⟨hx.1, hx.2.1, (seen_get (by rw [h.1.li]; omega)).1 hx.2.2⟩
theorem reach_vis {n K : Nat} {ks : Nat → List Int} : ∀ (f : Nat) (p : List (Nat × Nat)) (i : Nat) (w : Wk), Low n K 0 w → i < n → w.inn.getD i 0 < 0 → negs w.inn ≤ f →
    Reach n ks ((i, 0) :: p, (seenOf w.inn).set i true, w.l ++ [(i : Int)]) (p, seenOf (vis n ks f i w).inn, (vis n ks f i w).l)
  | 0, p, i, w, h, hi, hn, hf => by
    have e := negs_set (I := w.inn) (by rw [h.1.li]; exact hi) hn h.1.c0
    omega
  | f + 1, p, i, w, h, hi, hn, hf => by
    obtain ⟨h1, h2, h3⟩ := h.1.into hi hn
    have hl : Low n K 0 (into i w) := ⟨h1, by have := h.2; simp only [into] at h2 ⊢; omega⟩
    have r1 := reach_kl (p := p) (i := i) (fun p i w a b c d => reach_vis (K := K) f p i w a b c d) (ks i) 0 (into i w) (Nat.zero_le _) rfl hl (by omega)
    simp only [into, seen_set h.1.c0] at r1
    refine r1.one ?_
    simp [stp, vis, outof, into]
def w0 (n : Nat) : Wk := ⟨[], List.replicate n (-1), List.replicate n (-1), 0⟩
def orderOf (n : Nat) (ks : Nat → List Int) : List Int := if n = 0 then [] else (vis n ks n 0 (w0 n)).l
theorem negs_rep (n : Nat) : negs (List.replicate n (-1)) = n := by simp [negs, List.countP_replicate]
theorem w0_ok (n : Nat) : Low n n 0 (w0 n) := by
  refine ⟨⟨by simp [w0], by simp [w0], by simp [w0], ?_, ?_⟩, ?_⟩ <;> simp [w0, negs_rep]
theorem seen_w0 (n : Nat) : seenOf (w0 n).inn = List.replicate n false := by simp [seenOf, w0]
theorem reach_order {n : Nat} {ks : Nat → List Int} (hn : 0 < n) : ∃ s, Reach n ks ([(0, 0)], (List.replicate n false).set 0 true, [0]) ([], s, orderOf n ks) := by
  have h := reach_vis (K := n) (ks := ks) n [] 0 (w0 n) (w0_ok n) hn (by simp [w0, List.getD_eq_getElem?_getD, hn]) (by simp [w0, negs_rep])
  rw [seen_w0] at h
  refine ⟨seenOf (vis n ks n 0 (w0 n)).inn, ?_⟩
  simpa [orderOf, Nat.ne_of_gt hn, w0] using h
theorem order_end {n : Nat} {ks : Nat → List Int} (hn : 0 < n) {s : List Bool} {a : List Int} (h : Reach n ks ([(0, 0)], (List.replicate n false).set 0 true, [0]) ([], s, a)) : a = orderOf n ks := by
  obtain ⟨s2, h2⟩ := reach_order (ks := ks) hn
  have := h.det h2 rfl rfl
  simp at this
  exact this.2
end Go.Proofs.YthclkpplpdnffaaGreatDoor
namespace Go.Proofs.YthclkpplpdnffaaGreatDoor
set_option linter.unusedSimpArgs false
set_option linter.unusedVariables false
open Go Go.RowKit
set_option maxRecDepth 100000
def ints (L : List Int) : List AV := L.map aInt
@[simp] theorem ints_nil : ints [] = [] := rfl
theorem ints_ne {L : List Int} (h : L ≠ []) : ints L ≠ [] := by simpa [ints] using h
theorem ne_ints {L : List Int} (h : ints L ≠ []) : L ≠ [] := by simpa [ints] using h
@[simp] theorem len_ints (L : List Int) : (ints L).length = L.length := by simp [ints]
theorem el_int (L : List Int) : Elems 1 (ints L) := .map (sz := 1) (f := aInt) (by decide) (fun x => ⟨rfl, rfl, fun _ => rfl, fun h => absurd rfl h⟩) L
@[simp] theorem flat_ints (L : List Int) : flatAV (ints L) = ints L := by
  unfold ints
  induction L with
  | nil => rfl
  | cons x r ih => simp only [List.map_cons, flatAV, ih]; rfl
@[simp] theorem pure_ints (L : List Int) : pureL (ints L) = true := by have := (el_int L).pure; rwa [flat_ints] at this
theorem lay1 {L : List Int} {i : Nat} {v : Int} (h : i < L.length) : layL [.int .i64 v] i (ints L) = some (ints (L.set i v)) := by
  have := lay_at (el_int L) (i := i) (by simpa using h) (e := aInt v) rfl
  have e : (ints L).set i (aInt v) = ints (L.set i v) := by simp [ints, List.map_set]
  rw [flat_ints, e, flat_ints] at this
  simpa [aInt, AV.cells] using this
theorem atI {L : List Int} {i : Nat} (h : i < L.length) : indexAddrA Tryz.prog 27 (aInts L) (.int .i64 (i : Int)) = some (.fptr [.int .i64 L[i]] 0) := by
  simp [indexAddrA, aInts, idx_nat h, getL_map h, aInt, AV.cells]
theorem atN {t : Tr} {i : Nat} (h : i < t.length) : indexAddrA Tryz.prog 22 (aNodes t) (.int .i64 (i : Int)) = some (.fptr (t[i]).cs 0) := by
  simp [indexAddrA, aNodes, idx_nat h, getL_map h]
theorem lenI {H : Heap} {L : List Int} : lenA Tryz.prog H 27 (aInts L) = some L.length := by simp [lenA, aInts]
theorem lenN {H : Heap} {t : Tr} : lenA Tryz.prog H 22 (aNodes t) = some t.length := by simp [lenA, aNodes]
def kidsOf (t : Tr) (i : Nat) : List Int := (t[i]?.map Nd.kids).getD []
theorem kidsOf_at {t : Tr} {i : Nat} (h : i < t.length) : t[i].kids = kidsOf t i := by simp [kidsOf, h]
def lA (b : Nat) (L : List Int) : AV := ownV b 1 (ints L)
def lF (b : Nat) (L : List Int) : List (Nat × Blk) := ownF b (ints L)
theorem lA_ne {b : Nat} {L : List Int} (h : L ≠ []) : lA b L = .slc b 0 L.length (.rest 1) := by rw [lA, ownV_ne (ints_ne h)]; simp
theorem lF_ne {b : Nat} {L : List Int} (h : L ≠ []) : lF b L = [(b, .cells (ints L))] := by rw [lF, ownF_ne (ints_ne h), flat_ints]
theorem app_l {m t b : Nat} {L : List Int} {v : Int} {g1 g : List (Nat × Blk)} (hr : L.length ≤ 1000000000) (h1 : ∀ e, e ∈ (t, Blk.cells [AV.int .i64 v]) :: g1 → e.1 ≠ b) (h2 : ∀ e, e ∈ g → e.1 ≠ b) :
    appendA Tryz.prog ⟨m, [(t, .cells [.int .i64 v]) :: g1, lF b L ++ g]⟩ 3 (lA b L) (.slc t 0 1 (.ex 1)) = some (.slc m 0 (L.length + 1) (.rest 1), ⟨m + 1, [(m, .cells (ints (L ++ [v]))) :: (t, .cells [.int .i64 v]) :: g1, g]⟩) := by
  have miss : ∀ (l : List (Nat × Blk)), (∀ e, e ∈ l → e.1 ≠ b) → getF b l = none := by
    intro l
    induction l with
    | nil => intro _; rfl
    | cons x r ih =>
      intro h
      unfold getF
      rw [beqN_ne (h x (by simp))]
      exact ih fun e he => h e (by simp [he])
  have hm1 := miss _ h1
  have hg := miss _ h2
  have hdrop : Heap.drop ⟨m, [(t, .cells [.int .i64 v]) :: g1, lF b L ++ g]⟩ b = ⟨m, [(t, .cells [.int .i64 v]) :: g1, g]⟩ := by
    simp only [Heap.drop, killFs, hm1]
    cases L with
    | nil => simp [lF, ownF, hg]
    | cons x r => simp [lF, ownF, ints, getF, killF]
  have h := own_append (P := Tryz.prog) (H := ⟨m, [(t, .cells [.int .i64 v]) :: g1, lF b L ++ g]⟩) (elem := 3) (b := b) (n := 0) (es := ints L) (cs := [.int .i64 v]) (x := .slc t 0 1 (.ex 1)) szT3 byT3 zeT3 rfl (by omega) (by omega) rfl
    (by simp [srcCells, readCells, Heap.get, getFs, getF, Blk.rd, subL, takeL]) rfl rfl (el_int L) (by simp; omega) (fun hne => by
      have hL : L ≠ [] := ne_ints hne
      simp only [Heap.get, getFs, hm1, lF_ne hL, flat_ints]
      simp [getF]) (fun he => by
      have hL : L = [] := by simpa [ints] using he
      subst hL
      rw [hdrop]; rfl) (by intro cs; rfl)
  have e : ints L ++ [.int .i64 v] = ints (L ++ [v]) := by simp [ints, aInt]
  rw [hdrop, flat_ints, e] at h
  simpa [lA, Heap.new, pushF] using h
theorem FitH.rows {n : Nat} {σ : List (Nat × Nat)} {H H' : Heap} (nd1 : (σ.map (·.1)).Nodup) (nd2 : (σ.map (·.2)).Nodup) (nd3 : (H'.ents.map (·.1)).Nodup) (lt : ∀ x, x ∈ σ → x.2 < H'.n) (idn : ∀ x, x ∈ σ → x.1 < n ∨ x.2 < n → x.1 = x.2) (num : n ≤ H'.n)
    (src : ∀ e, e ∈ H'.ents → ∃ b cs, (b, e.1) ∈ σ ∧ H.get b = some (.cells cs) ∧ e.2 = .cells cs ∧ pureL cs = true) : FitH n σ [] H H' where
  nd1 := by simpa using nd1
  nd2 := nd2
  nd3 := nd3
  lt := lt
  idn := idn
  num := num
  src := fun e he => by
    obtain ⟨b, cs, h1, h2, h3, h4⟩ := src e he
    exact ⟨b, _, h1, h2, by rw [h3]; exact fitL_pure h4⟩
  frz := fun x h => by cases h
def hW (L I O : List Int) : Heap := ⟨3, [lF 2 L ++ [(0, .cells (ints I)), (1, .cells (ints O))]]⟩
def hW' (L I O : List Int) : Heap := ⟨4, [lF 3 L ++ [(0, .cells (ints I)), (1, .cells (ints O))]]⟩
def hL (t : Tr) (L I O : List Int) : Heap := ⟨5, [[(4, .cells (ints L)), (3, .cells [aNodes t])], [(0, .cells (ints I)), (1, .cells (ints O))]]⟩
theorem fit_in {t : Tr} {L I O : List Int} {m a : Nat} {f : List (Nat × Blk)} (ha : getF a f = some (.cells (ints L))) (h3 : getF 3 f = some (.cells [aNodes t])) (h0 : getF 0 f = none) (h1 : getF 1 f = none) (ha4 : 3 < a) :
    FitH 3 [(a, 4), (3, 3), (0, 0), (1, 1)] [] ⟨m, [f, [(0, .cells (ints I)), (1, .cells (ints O))]]⟩ (hL t L I O) := by
  refine .rows (by simp; omega) (by simp) (by simp [hL, Heap.ents]) (by simp [hL]) (by simp; omega) (by simp [hL]) ?_
  intro e he
  simp [hL, Heap.ents] at he
  rcases he with rfl | rfl | rfl | rfl
  · exact ⟨a, _, by simp, by simp [Heap.get, getFs, ha], rfl, pure_ints _⟩
  · exact ⟨3, _, by simp, by simp [Heap.get, getFs, h3], rfl, by simp [pureL]⟩
  · exact ⟨0, _, by simp, by simp [Heap.get, getFs, h0, getF], rfl, pure_ints _⟩
  · exact ⟨1, _, by simp, by simp [Heap.get, getFs, h1, getF], rfl, pure_ints _⟩
theorem fit_out {t : Tr} {L I O : List Int} (hne : L ≠ []) : FitH 3 [(4, 3), (0, 0), (1, 1)] [] (hL t L I O) (hW' L I O) := by
  refine .rows (by simp) (by simp) (by simp [hW', lF_ne hne, Heap.ents]) (by simp [hW']) (by simp) (by simp [hW']) ?_
  intro e he
  simp [hW', lF_ne hne, Heap.ents] at he
  rcases he with rfl | rfl | rfl
  · exact ⟨4, _, by simp, by simp [hL, Heap.get, getFs, getF], rfl, pure_ints _⟩
  · exact ⟨0, _, by simp, by simp [hL, Heap.get, getFs, getF], rfl, pure_ints _⟩
  · exact ⟨1, _, by simp, by simp [hL, Heap.get, getFs, getF], rfl, pure_ints _⟩
theorem call_in {t : Tr} {f : FuncId} {C : Ctx} {n i : Nat} {L I O L' I' O' : List Int} {c c' : Int} (hne : L ≠ []) (hne' : L' ≠ [])
    (h : CallAt C f [aTree t, .int .i64 i, lA 2 L, .slc 0 0 n (.ex n), .slc 1 0 n (.ex n), .int .i64 c] (hW L I O) (.tup [lA 3 L', .int .i64 c']) (hW' L' I' O')) :
    CallAt C f [aTree t, .int .i64 i, .slc 4 0 L.length (.rest 1), .slc 0 0 n (.ex n), .slc 1 0 n (.ex n), .int .i64 c] (hL t L I O) (.tup [.slc 5 0 L'.length (.rest 1), .int .i64 c'])
      ⟨6, [[(5, .cells (ints L')), (3, .cells [aNodes t])], [(0, .cells (ints I')), (1, .cells (ints O'))]]⟩ := by
  have hf : FitH 0 [(4, 2), (0, 0), (1, 1)] [] (hL t L I O) (hW L I O) := by
    refine .rows (by simp) (by simp) (by simp [hW, lF_ne hne, Heap.ents]) (by simp [hW]) (by simp) (by simp [hW]) ?_
    intro e he
    simp [hW, lF_ne hne, Heap.ents] at he
    rcases he with rfl | rfl | rfl
    · exact ⟨4, _, by simp, by simp [hL, Heap.get, getFs, getF], rfl, pure_ints _⟩
    · exact ⟨0, _, by simp, by simp [hL, Heap.get, getFs, getF], rfl, pure_ints _⟩
    · exact ⟨1, _, by simp, by simp [hL, Heap.get, getFs, getF], rfl, pure_ints _⟩
  have := h.framed (H := hL t L I O) (H' := ⟨6, [[(5, .cells (ints L')), (3, .cells [aNodes t])], [(0, .cells (ints I')), (1, .cells (ints O'))]]⟩) (σ := [(4, 2), (0, 0), (1, 1)])
    (args := [aTree t, .int .i64 i, .slc 4 0 L.length (.rest 1), .slc 0 0 n (.ex n), .slc 1 0 n (.ex n), .int .i64 c]) hf ?_ ?_ (by simp [hW, hW'])
  · simpa [lA_ne hne', renV, renL, outN, lookR, hL, hW] using this
  · rw [lA_ne hne]
    simp [fitL, fitV, lookN, fitV_pure, pureV]
  · refine ⟨by simp [hL, hW, hW'], by simp [Heap.ents], ?_⟩
    intro e he
    have hI : renL (outN [(4, 2), (0, 0), (1, 1)] 5 3) (ints I') = ints I' := renL_pure _ (pure_ints _)
    have hO : renL (outN [(4, 2), (0, 0), (1, 1)] 5 3) (ints O') = ints O' := renL_pure _ (pure_ints _)
    have hL' : renL (outN [(4, 2), (0, 0), (1, 1)] 5 3) (ints L') = ints L' := renL_pure _ (pure_ints _)
    simp [Heap.ents] at he
    rcases he with rfl | rfl | rfl | rfl
    · exact .inl ⟨(3, .cells (ints L')), by simp [hW', lF_ne hne', Heap.ents], by simp [hL, hW, renB, hL']; simp [outN, lookR]⟩
    · exact .inr ⟨by simp [hL, Heap.ents], by simp⟩
    · exact .inl ⟨(0, .cells (ints I')), by simp [hW', lF_ne hne', Heap.ents], by simp [hL, hW, renB, hI]; simp [outN, lookR]⟩
    · exact .inl ⟨(1, .cells (ints O')), by simp [hW', lF_ne hne', Heap.ents], by simp [hL, hW, renB, hO]; simp [outN, lookR]⟩
theorem get1 {L : List Int} {i : Nat} (h : i < L.length) : getL (ints L) i = some (.int .i64 L[i]) := by simp [ints, getL_map h, aInt]
theorem ixI {b n i : Nat} {cap : Cap} (h : i < n) : indexAddrA Tryz.prog 27 (.slc b 0 n cap) (.int .i64 (i : Int)) = some (.ptr b i) := by
  simp [indexAddrA, idx_nat h]
theorem vis_ne {n : Nat} {ks : Nat → List Int} : ∀ (f i : Nat) (w : Wk), w.l ≠ [] → (vis n ks f i w).l ≠ []
  | 0, _, w, h => h
  | f + 1, i, w, h => by
    have hk : ∀ (r : List Int) (w : Wk), w.l ≠ [] → (kl n (vis n ks f) r w).l ≠ [] := by
      intro r
      induction r with
      | nil => intro w h; exact h
      | cons k r ih =>
        intro w h
        unfold kl
        split
        · exact ih _ (vis_ne f _ _ h)
        · exact ih _ h
    exact hk (ks i) (into i w) (by simp [into])
theorem c111 {T : List (Entry Tryz.prog)} (t : Tr) {K : Nat} (hK : K ≤ 1000) (hkd : ∀ x, x ∈ t → x.kids.length ≤ 1000) : ∀ (f i : Nat) (w : Wk), Low t.length K 0 w → i < t.length → w.inn.getD i 0 < 0 → negs w.inn ≤ f →
    CallAt (ctx T) 111 [aTree t, .int .i64 i, lA 2 w.l, .slc 0 0 t.length (.ex t.length), .slc 1 0 t.length (.ex t.length), .int .i64 w.c] (hW w.l w.inn w.out)
      (.tup [lA 3 (vis t.length (kidsOf t) f i w).l, .int .i64 (vis t.length (kidsOf t) f i w).c]) (hW' (vis t.length (kidsOf t) f i w).l (vis t.length (kidsOf t) f i w).inn (vis t.length (kidsOf t) f i w).out)
  | 0, i, w, h, hi, hn, hf => by
    have e := negs_set (I := w.inn) (by rw [h.1.li]; exact hi) hn h.1.c0
    omega
  | f + 1, i, w, h, hi, hn, hf => by
    obtain ⟨g1, g2, g3⟩ := h.1.into hi hn
    have hlow : Low t.length K 0 (into i w) := ⟨g1, by omega⟩
    have hc := h.1.c0
    have hcb := h.1.cb
    have hlb := h.1.lb
    have hli := h.1.li
    have hlo := h.1.lo
    have hkl : (kidsOf t i).length ≤ 1000 := by rw [← kidsOf_at hi]; exact hkd _ (List.getElem_mem hi)
    have happ := app_l (m := 5) (t := 4) (b := 2) (L := w.l) (v := (i : Int)) (g1 := [(3, .cells [aNodes t])]) (g := [(0, .cells (ints w.inn)), (1, .cells (ints w.out))]) (by omega) (by simp) (by simp)
    unfold hW
    refine callAt_body (fn := Tryz.f111) (s0 := ⟨[0, 1, 2, 3, 4, 5, 6, 12, 13, 14, 15], [aTree t, .int .i64 i, lA 2 w.l, .slc 0 0 t.length (.ex t.length), .slc 1 0 t.length (.ex t.length), .int .i64 w.c, .undef, .undef, .undef, .undef, .undef], [], 79, ⟨3, [] :: [lF 2 w.l ++ [(0, .cells (ints w.inn)), (1, .cells (ints w.out))]]⟩⟩) Tryz.func111 rfl rfl rfl ?_
    repeat refine wps_seq ?_
    refine wps_region callOK ?_
    simp [zS, aTree]
    repeat refine wps_seq ?_
    refine wps_region callOK ?_
    simp [zS, happ]
    have hst := lay1 (L := w.inn) (i := i) (v := w.c) (by omega)
    repeat refine wps_seq ?_
    refine wps_region callOK ?_
    simp [zS, ixI hi, hst]
    repeat refine wps_seq ?_
    refine wps_region callOK ?_
    simp [zS, wr_small (show -1000000000000 ≤ w.c + 1 by omega) (show w.c + 1 ≤ 1000000000000 by omega)]
    repeat refine wps_seq ?_
    refine wps_region callOK ?_
    simp [zS]
    obtain ⟨w2, hw2⟩ : ∃ w2, w2 = kl t.length (vis t.length (kidsOf t) f) (kidsOf t i) (into i w) := ⟨_, rfl⟩
    have hvis : vis t.length (kidsOf t) (f + 1) i w = outof i w2 := by rw [hw2]; rfl
    rw [hvis]
    have hb0 : 0 ≤ (0 : Int) := Int.le_refl 0
    repeat refine wps_seq ?_
    refine wps_block (wps_loop' (fun x : Nat × Wk => (⟨[0, 1, 2, 3, 4, 5, 6, 12, 13, 14, 15], [aTree t, .int .i64 i, .slc 4 0 x.2.l.length (.rest 1), .slc 0 0 t.length (.ex t.length), .slc 1 0 t.length (.ex t.length), .int .i64 x.2.c, .ptr 3 0, .undef, .undef, .int .i64 x.1, .undef], [], 79, hL t x.2.l x.2.inn x.2.out⟩ : St))
      (fun x => x.1 ≤ (kidsOf t i).length ∧ x.2.l ≠ [] ∧ Low t.length K 1 x.2 ∧ negs x.2.inn ≤ f ∧ kl t.length (vis t.length (kidsOf t) f) ((kidsOf t i).drop x.1) x.2 = w2) (fun x => (kidsOf t i).length - x.1) [(5, 4), (3, 3), (0, 0), (1, 1)] [] (0, into i w)
      ⟨Nat.zero_le _, by simp [into], ⟨g1, g3⟩, by show negs (into i w).inn ≤ f; omega, hw2.symm⟩
      ⟨rfl, rfl, rfl, by simp [fitL, fitV, lookN, pureV, into, aTree, pureL], fit_in (t := t) (L := w.l ++ [(i : Int)]) (I := w.inn.set i w.c) (O := w.out) (m := 6) (a := 5) (f := [(5, .cells (ints (w.l ++ [(i : Int)]))), (4, .cells [.int .i64 i]), (3, .cells [aNodes t])]) rfl rfl rfl rfl (by omega)⟩ ?_)
    rintro ⟨j, x⟩ ⟨hj, hne, hx, hfx, hk⟩ B hB
    simp only at hj hne hx hfx hk
    have xli := hx.1.li
    have xlo := hx.1.lo
    have xc0 := hx.1.c0
    have xcb := hx.2
    have hget : ∀ m, (hm : m < t.length) → x.inn[m]'(by omega) = x.inn.getD m 0 := fun m hm => by rw [List.getD_eq_getElem?_getD, List.getElem?_eq_getElem (by omega), Option.getD_some]
    repeat refine wps_seq ?_
    refine wps_region callOK ?_
    simp [zS, hL, atN hi, lenI, kidsOf_at hi, Nd.cs]
    repeat refine wps_seq ?_
    refine wps_cond rfl (fun h => ?_) fun h => ?_
    · simp at h
      repeat refine wps_seq ?_
      refine wps_skip ?_
      simp
      repeat refine wps_seq ?_
      refine wps_block ?_
      obtain ⟨k, hkj⟩ : ∃ k, k = (kidsOf t i)[j] := ⟨_, rfl⟩
      have hdrop : (kidsOf t i).drop j = k :: (kidsOf t i).drop (j + 1) := by rw [List.drop_eq_getElem_cons h, hkj]
      rw [hdrop] at hk
      unfold kl at hk
      repeat refine wps_seq ?_
      refine wps_region callOK ?_
      simp [zS, hL, atN hi, kidsOf_at hi, Nd.cs, atI h, ← hkj]
      by_cases h0 : 0 ≤ k
      · obtain ⟨m, rfl⟩ := Int.eq_ofNat_of_zero_le h0
        by_cases h1 : m < t.length
        · have hgm := hget m h1
          by_cases h2 : x.inn.getD m 0 < 0
          · rw [if_pos ⟨h0, by omega, h2⟩] at hk
            have h2' : x.inn[m]'(by omega) < 0 := by rw [hgm]; exact h2
            repeat refine wps_seq ?_
            refine wps_region callOK ?_
            simp [zS, hL, h1, lenN, ixI h1, get1 (show m < x.inn.length by omega), h2']
            repeat refine wps_seq ?_
            refine wps_cond (t := true) rfl (fun _ => ?_) fun h => by cases h
            have hx0 : Low t.length K 0 x := ⟨hx.1, by have := hx.2; omega⟩
            have ih := c111 (T := T) t hK hkd f m x hx0 h1 h2 hfx
            obtain ⟨q1, q2⟩ := vis_ok (ks := kidsOf t) f 1 m x (by omega) hx h1 h2 hfx
            have hkm : (Int.toNat (m : Int)) = m := by simp
            rw [hkm] at hk
            have hny := vis_ne (n := t.length) (ks := kidsOf t) f m x hne
            obtain ⟨y, hy⟩ : ∃ y, y = vis t.length (kidsOf t) f m x := ⟨_, rfl⟩
            rw [← hy] at ih q1 q2 hk hny
            have hcall := call_in hne hny ih
            repeat refine wps_seq ?_
            refine wps_region (callOKF [⟨111, _, _, _, _, hcall⟩]) ?_
            simp [zS, callF, hL, aTree]
            repeat refine wps_seq ?_
            refine wps_region callOK ?_
            simp [zS, add_one (show j ≤ 1000000000 by omega)]
            exact hB _ (j + 1, y) (by simp; omega) ⟨by simp; omega, hny, q1, by simp only; omega, hk⟩ ⟨[(5, 4), (3, 3), (0, 0), (1, 1)], [], rfl, rfl, rfl, by simp [fitL, fitV, lookN, pureV, aTree, pureL], fit_in (t := t) (L := y.l) (I := y.inn) (O := y.out) (m := 6) (a := 5) (f := [(5, .cells (ints y.l)), (3, .cells [aNodes t])]) rfl rfl rfl rfl (by omega)⟩
          · rw [if_neg (fun hx => h2 hx.2.2)] at hk
            have h2' : ¬ x.inn[m]'(by omega) < 0 := by rw [hgm]; exact h2
            repeat refine wps_seq ?_
            refine wps_region callOK ?_
            simp [zS, hL, h1, lenN, ixI h1, get1 (show m < x.inn.length by omega), h2']
            repeat refine wps_seq ?_
            refine wps_cond (t := false) rfl (fun h => by cases h) fun _ => ?_
            repeat refine wps_seq ?_
            refine wps_skip ?_
            simp
            repeat refine wps_seq ?_
            refine wps_region callOK ?_
            simp [zS, add_one (show j ≤ 1000000000 by omega)]
            exact hB _ (j + 1, x) (by simp; omega) ⟨by simp; omega, hne, hx, hfx, hk⟩ ⟨[(4, 4), (3, 3), (0, 0), (1, 1)], [], rfl, rfl, rfl, by simp [fitL, fitV, lookN, pureV, aTree, pureL], fit_in (t := t) (L := x.l) (I := x.inn) (O := x.out) (m := 5) (a := 4) (f := [(4, .cells (ints x.l)), (3, .cells [aNodes t])]) rfl rfl rfl rfl (by omega)⟩
        · rw [if_neg (fun hx => h1 (by omega))] at hk
          repeat refine wps_seq ?_
          refine wps_region callOK ?_
          simp [zS, hL, h1, lenN]
          repeat refine wps_seq ?_
          refine wps_cond (t := false) rfl (fun h => by cases h) fun _ => ?_
          repeat refine wps_seq ?_
          refine wps_skip ?_
          simp
          repeat refine wps_seq ?_
          refine wps_region callOK ?_
          simp [zS, add_one (show j ≤ 1000000000 by omega)]
          exact hB _ (j + 1, x) (by simp; omega) ⟨by simp; omega, hne, hx, hfx, hk⟩ ⟨[(4, 4), (3, 3), (0, 0), (1, 1)], [], rfl, rfl, rfl, by simp [fitL, fitV, lookN, pureV, aTree, pureL], fit_in (t := t) (L := x.l) (I := x.inn) (O := x.out) (m := 5) (a := 4) (f := [(4, .cells (ints x.l)), (3, .cells [aNodes t])]) rfl rfl rfl rfl (by omega)⟩
      · rw [if_neg (fun hx => h0 hx.1)] at hk
        repeat refine wps_seq ?_
        refine wps_region callOK ?_
        simp [zS, hL, h0]
        repeat refine wps_seq ?_
        refine wps_cond (t := false) rfl (fun h => by cases h) fun _ => ?_
        repeat refine wps_seq ?_
        refine wps_skip ?_
        simp
        repeat refine wps_seq ?_
        refine wps_region callOK ?_
        simp [zS, add_one (show j ≤ 1000000000 by omega)]
        exact hB _ (j + 1, x) (by simp; omega) ⟨by simp; omega, hne, hx, hfx, hk⟩ ⟨[(4, 4), (3, 3), (0, 0), (1, 1)], [], rfl, rfl, rfl, by simp [fitL, fitV, lookN, pureV, aTree, pureL], fit_in (t := t) (L := x.l) (I := x.inn) (O := x.out) (m := 5) (a := 4) (f := [(4, .cells (ints x.l)), (3, .cells [aNodes t])]) rfl rfl rfl rfl (by omega)⟩
    · simp at h
      repeat refine wps_seq ?_
      refine wps_exit ?_
      simp
      have hjl : j = (kidsOf t i).length := by omega
      rw [hjl, List.drop_length] at hk
      have hk2 : x = w2 := hk
      subst hk2
      have hst := lay1 (L := x.out) (i := i) (v := x.c) (by omega)
      repeat refine wps_seq ?_
      refine wps_region callOK ?_
      simp [zS, hL, ixI hi, hst]
      repeat refine wps_seq ?_
      refine wps_region callOK ?_
      simp [zS, wr_small (show -1000000000000 ≤ x.c + 1 by omega) (show x.c + 1 ≤ 1000000000000 by omega)]
      repeat refine wps_seq ?_
      refine wps_ret ?_
      simp [retVal, Tryz.f111, oneOr]
      refine ⟨[(4, 3), (0, 0), (1, 1)], [], ?_, fit_out (t := t) (L := x.l) (I := x.inn) (O := x.out.set i x.c) hne⟩
      simp [outof, lA_ne hne, fitV, fitL, lookN, pureV]
theorem repl_ints : ∀ (n : Nat), replL [.int .i64 0] n = ints (List.replicate n 0)
  | 0 => rfl
  | n + 1 => by simp only [replL, repl_ints n, List.replicate_succ, ints, List.map_cons]; rfl
theorem msInt {n : Nat} (h : n ≤ 1000000) : msB Tryz.prog 27 (.int .i64 (n : Int)) (.int .i64 (n : Int)) = some (fun b => .slc b 0 n (.ex n), .cells (ints (List.replicate n 0))) := by
  have h1 : idx (n : Int) 17592186044416 = some n := idx_nat (by omega)
  have h2 : idx (n : Int) (Nat.succ n) = some n := idx_nat (by omega)
  have h3 : roomOK n 8 = true := by simp [roomOK]; omega
  have hz : zeroOf Tryz.prog 3 = some (.int .i64 0) := zeT3
  have hs : sizeT Tryz.prog 3 = some 1 := szT3
  have hb : bytesT Tryz.prog 3 = some 8 := byT3
  simp only [msB, Tryz.underlying27, Option.bind_some, hs, hb, h1, h2, h3, hz]
  simp [AV.cells, repl_ints]
theorem fit_ints {σ : List (Nat × Nat)} {Φ : List (Nat × List AV)} {b n : Nat} {cap : Cap} {L : List Int} (h : lookC b Φ = some (ints L)) (hn : n = L.length) : fitV σ Φ (.slc b 0 n cap) (aInts L) := by
  subst hn
  simp only [aInts, fitV]
  refine .inl ⟨ints L, h, ?_, by simp, (el_int L).size⟩
  have := sub_pre (el_int L) (k := L.length) (by simp)
  rw [flat_ints, List.take_of_length_le (by simp)] at this
  exact this
theorem vis_ne1 {n : Nat} {ks : Nat → List Int} (f i : Nat) (w : Wk) : (vis n ks (f + 1) i w).l ≠ [] := by
  have hk : ∀ (r : List Int) (w : Wk), w.l ≠ [] → (kl n (vis n ks f) r w).l ≠ [] := by
    intro r
    induction r with
    | nil => intro w h; exact h
    | cons k r ih =>
      intro w h
      unfold kl
      split
      · exact ih _ (vis_ne f _ _ h)
      · exact ih _ h
  exact hk (ks i) (into i w) (by simp [into])
def hA (t : Tr) (I O : List Int) : Heap := ⟨3, [[(2, .cells (ints O)), (1, .cells (ints I)), (0, .cells [aNodes t])]]⟩
theorem fit_A {t : Tr} {I O : List Int} {m a b : Nat} {f : List (Nat × Blk)} (ha : getF a f = some (.cells (ints O))) (hb : getF b f = some (.cells (ints I))) (h0 : getF 0 f = some (.cells [aNodes t])) (hab : a ≠ b) (ha0 : a ≠ 0) (hb0 : b ≠ 0) :
    FitH 0 [(a, 2), (b, 1), (0, 0)] [] ⟨m, [f]⟩ (hA t I O) := by
  refine .rows (by simp [hab, ha0, hb0]) (by simp) (by simp [hA, Heap.ents]) (by simp [hA]) (by simp) (by simp [hA]) ?_
  intro e he
  simp [hA, Heap.ents] at he
  rcases he with rfl | rfl | rfl
  · exact ⟨a, _, by simp, by simp [Heap.get, getFs, ha], rfl, pure_ints _⟩
  · exact ⟨b, _, by simp, by simp [Heap.get, getFs, hb], rfl, pure_ints _⟩
  · exact ⟨0, _, by simp, by simp [Heap.get, getFs, h0], rfl, by simp [pureL]⟩
theorem call_all {t : Tr} {f : FuncId} {C : Ctx} {n : Nat} {I O L' I' O' : List Int} {c c' : Int} (hne' : L' ≠ [])
    (h : CallAt C f [aTree t, .int .i64 0, lA 2 [], .slc 0 0 n (.ex n), .slc 1 0 n (.ex n), .int .i64 c] (hW [] I O) (.tup [lA 3 L', .int .i64 c']) (hW' L' I' O')) :
    CallAt C f [aTree t, .int .i64 0, .nilS, .slc 1 0 n (.ex n), .slc 2 0 n (.ex n), .int .i64 c] (hA t I O) (.tup [.slc 3 0 L'.length (.rest 1), .int .i64 c'])
      ⟨4, [[(3, .cells (ints L')), (2, .cells (ints O')), (1, .cells (ints I')), (0, .cells [aNodes t])]]⟩ := by
  have hf : FitH 0 [(1, 0), (2, 1)] [] (hA t I O) (hW [] I O) := by
    refine .rows (by simp) (by simp) (by simp [hW, lF, ownF, Heap.ents]) (by simp [hW]) (by simp) (by simp [hW]) ?_
    intro e he
    simp [hW, lF, ownF, Heap.ents] at he
    rcases he with rfl | rfl
    · exact ⟨1, _, by simp, by simp [hA, Heap.get, getFs, getF], rfl, pure_ints _⟩
    · exact ⟨2, _, by simp, by simp [hA, Heap.get, getFs, getF], rfl, pure_ints _⟩
  have := h.framed (H := hA t I O) (H' := ⟨4, [[(3, .cells (ints L')), (2, .cells (ints O')), (1, .cells (ints I')), (0, .cells [aNodes t])]]⟩) (σ := [(1, 0), (2, 1)])
    (args := [aTree t, .int .i64 0, .nilS, .slc 1 0 n (.ex n), .slc 2 0 n (.ex n), .int .i64 c]) hf ?_ ?_ (by simp [hW, hW'])
  · simpa [lA_ne hne', renV, renL, outN, lookR, hA, hW] using this
  · simp [lA, ownV, fitL, fitV, lookN, fitV_pure, pureV]
  · refine ⟨by simp [hA, hW, hW'], by simp [Heap.ents], ?_⟩
    intro e he
    have hI : renL (outN [(1, 0), (2, 1)] 3 3) (ints I') = ints I' := renL_pure _ (pure_ints _)
    have hO : renL (outN [(1, 0), (2, 1)] 3 3) (ints O') = ints O' := renL_pure _ (pure_ints _)
    have hL' : renL (outN [(1, 0), (2, 1)] 3 3) (ints L') = ints L' := renL_pure _ (pure_ints _)
    simp [Heap.ents] at he
    rcases he with rfl | rfl | rfl | rfl
    · exact .inl ⟨(3, .cells (ints L')), by simp [hW', lF_ne hne', Heap.ents], by simp [hA, hW, renB, hL']; simp [outN, lookR]⟩
    · exact .inl ⟨(1, .cells (ints O')), by simp [hW', lF_ne hne', Heap.ents], by simp [hA, hW, renB, hO]; simp [outN, lookR]⟩
    · exact .inl ⟨(0, .cells (ints I')), by simp [hW', lF_ne hne', Heap.ents], by simp [hA, hW, renB, hI]; simp [outN, lookR]⟩
    · exact .inr ⟨by simp [hA, Heap.ents], by simp⟩
def finW (n : Nat) (ks : Nat → List Int) : Wk := if n = 0 then w0 0 else vis n ks n 0 (w0 n)
theorem c78 {T : List (Entry Tryz.prog)} (t : Tr) (hn : t.length ≤ 1000) (hkd : ∀ x, x ∈ t → x.kids.length ≤ 1000) :
    CallAt (ctx T) 78 [aTree t] ⟨0, []⟩ (.tup [aInts (orderOf t.length (kidsOf t)), aInts (finW t.length (kidsOf t)).inn, aInts (finW t.length (kidsOf t)).out]) ⟨0, []⟩ := by
  refine callAt_body (fn := Tryz.f78) (s0 := ⟨[0, 1, 2, 3, 4, 5, 6, 7, 8], [aTree t, .undef, .undef, .undef, .undef, .undef, .undef, .undef, .undef], [], 42, ⟨0, [[]]⟩⟩) Tryz.func78 rfl rfl rfl ?_
  repeat refine wps_seq ?_
  refine wps_region callOK ?_
  simp [zS, aTree]
  repeat refine wps_seq ?_
  refine wps_drawn mixed callOK (by decide +kernel) fun B_ hB_ => ?_
  simp [zS, mkBlk, guardA, evalD, stepD, clsOf, reserve, freshenAll, sameRecs, sameAll, sameAt, allPend, Heap.lay, ontoF, wantedBy, unwantedBy, lenN, msInt (show t.length ≤ 1000000 by omega)]
  repeat refine wps_seq ?_
  refine wps_region callOK ?_
  simp [zS]
  repeat refine wps_seq ?_
  refine wps_block (wps_loop' (fun x : Nat × List Int × List Int => (⟨[0, 1, 2, 3, 4, 5, 6, 7, 8], [aTree t, .ptr 0 0, .undef, .undef, .undef, .slc 1 0 t.length (.ex t.length), .slc 2 0 t.length (.ex t.length), .int .i64 x.1, .undef], [], 42, hA t x.2.1 x.2.2⟩ : St))
    (fun x => x.1 ≤ t.length ∧ x.2.1.length = t.length ∧ x.2.2.length = t.length ∧ x.2.1.take x.1 = List.replicate x.1 (-1) ∧ x.2.2.take x.1 = List.replicate x.1 (-1)) (fun x => t.length - x.1) [(8, 2), (4, 1), (0, 0)] [] (0, List.replicate t.length 0, List.replicate t.length 0)
    ⟨Nat.zero_le _, by simp, by simp, by simp, by simp⟩
    ⟨rfl, rfl, rfl, by simp [fitL, fitV, lookN, pureV, aTree, pureL], fit_A (by simp [getF]) (by simp [getF]) (by simp [getF]) (by omega) (by omega) (by omega)⟩ ?_)
  rintro ⟨i, I, O⟩ ⟨hi, hI, hO, hti, hto⟩ B hB
  simp only at hi hI hO hti hto
  repeat refine wps_seq ?_
  refine wps_region callOK ?_
  simp [zS, hA, lenA]
  repeat refine wps_seq ?_
  refine wps_cond rfl (fun h => ?_) fun h => ?_
  · simp at h
    repeat refine wps_seq ?_
    refine wps_skip ?_
    simp
    repeat refine wps_seq ?_
    refine wps_block ?_
    have l1 := lay1 (L := I) (i := i) (v := -1) (by omega)
    have l2 := lay1 (L := O) (i := i) (v := -1) (by omega)
    repeat refine wps_seq ?_
    refine wps_region callOK ?_
    simp [zS, ixI h, l1, l2]
    repeat refine wps_seq ?_
    refine wps_region callOK ?_
    simp [zS, add_one (show i ≤ 1000000000 by omega)]
    refine hB _ (i + 1, I.set i (-1), O.set i (-1)) (by simp; omega) ⟨by simp; omega, by simp [hI], by simp [hO], ?_, ?_⟩ ⟨[(2, 2), (1, 1), (0, 0)], [], rfl, rfl, rfl, by simp [fitL, fitV, lookN, pureV, aTree, pureL], fit_A (by simp [getF]) (by simp [getF]) (by simp [getF]) (by omega) (by omega) (by omega)⟩
    · simp only
      rw [List.take_succ_eq_append_getElem (by simp; omega), List.take_set_of_le (Nat.le_refl _), hti, List.replicate_succ']; simp
    · simp only
      rw [List.take_succ_eq_append_getElem (by simp; omega), List.take_set_of_le (Nat.le_refl _), hto, List.replicate_succ']; simp
  · simp at h
    have hin : i = t.length := by omega
    subst hin
    rw [List.take_of_length_le (by omega)] at hti hto
    subst hti hto
    repeat refine wps_seq ?_
    refine wps_exit ?_
    simp
    repeat refine wps_seq ?_
    refine wps_region callOK ?_
    simp [zS]
    by_cases hz : t.length = 0
    · have ht : t = [] := List.length_eq_zero_iff.1 hz
      subst ht
      repeat refine wps_seq ?_
      refine wps_region callOK ?_
      simp [zS, lenA]
      repeat refine wps_seq ?_
      refine wps_cond (t := false) rfl (fun h => by cases h) fun _ => ?_
      repeat refine wps_seq ?_
      refine wps_skip ?_
      simp
      repeat refine wps_seq ?_
      refine wps_region callOK ?_
      simp [zS]
      repeat refine wps_seq ?_
      refine wps_ret ?_
      simp [retVal, Tryz.f78, oneOr]
      exact ⟨[], [], by simp [fitV, fitL, aInts, orderOf, finW, w0], FitH.empty⟩
    · have hpos : 0 < t.length := by omega
      have hr : negs (w0 t.length).inn ≤ t.length := by simp [w0, negs_rep]
      have hw := c111 (T := T) t hn hkd t.length 0 (w0 t.length) (w0_ok _) (by omega) (by simp [w0, List.getD_eq_getElem?_getD, Nat.pos_of_ne_zero hz]) hr
      obtain ⟨m, hm⟩ : ∃ m, t.length = m + 1 := ⟨t.length - 1, by omega⟩
      have hny : (vis t.length (kidsOf t) t.length 0 (w0 t.length)).l ≠ [] := by
        have := vis_ne1 (n := t.length) (ks := kidsOf t) m 0 (w0 t.length)
        rw [← hm] at this; exact this
      have hvo : orderOf t.length (kidsOf t) = (vis t.length (kidsOf t) t.length 0 (w0 t.length)).l := by simp [orderOf, hz]
      have hfo : finW t.length (kidsOf t) = vis t.length (kidsOf t) t.length 0 (w0 t.length) := by simp [finW, hz]
      obtain ⟨y1, y2⟩ := vis_ok (ks := kidsOf t) t.length 0 0 (w0 t.length) (by omega) (w0_ok _) (by omega) (by simp [w0, List.getD_eq_getElem?_getD, Nat.pos_of_ne_zero hz]) hr
      rw [hvo, hfo]
      obtain ⟨y, hy⟩ : ∃ y, y = vis t.length (kidsOf t) t.length 0 (w0 t.length) := ⟨_, rfl⟩
      rw [← hy] at hw hny y1 ⊢
      have hcall := call_all (t := t) hny hw
      simp only [w0] at hcall
      repeat refine wps_seq ?_
      refine wps_region callOK ?_
      simp [zS, lenA, hpos]
      repeat refine wps_seq ?_
      refine wps_cond (t := true) rfl (fun _ => ?_) fun h => by cases h
      repeat refine wps_seq ?_
      refine wps_region (callOKF [⟨111, _, _, _, _, hcall⟩]) ?_
      simp [zS, callF, hA, aTree]
      repeat refine wps_seq ?_
      refine wps_region callOK ?_
      simp [zS]
      repeat refine wps_seq ?_
      refine wps_ret ?_
      simp [retVal, Tryz.f78, oneOr]
      refine ⟨[], [(3, ints y.l), (1, ints y.inn), (2, ints y.out)], ?_, .froze (by simp) fun x hx => ?_⟩
      · simp only [fitV, fitL]
        exact .inl ⟨fit_ints (σ := []) (cap := .rest 1) (by simp [lookC]) rfl, fit_ints (σ := []) (cap := .ex t.length) (by simp [lookC]) y1.1.li.symm, fit_ints (σ := []) (cap := .ex t.length) (by simp [lookC]) y1.1.lo.symm, trivial⟩
      · simp at hx
        rcases hx with rfl | rfl | rfl
        · exact ⟨_, by simp [Heap.get, getFs, getF], fitL_pure (pure_ints _), pure_ints _⟩
        · exact ⟨_, by simp [Heap.get, getFs, getF], fitL_pure (pure_ints _), pure_ints _⟩
        · exact ⟨_, by simp [Heap.get, getFs, getF], fitL_pure (pure_ints _), pure_ints _⟩
def okTr (t : Tr) : Prop := t.length ≤ 1000 ∧ ∀ x, x ∈ t → x.kids.length ≤ 1000 ∧ x.attrs.length ≤ 1000
def smallTr (t : Tr) : Prop := t.length ≤ 50 ∧ okTr t
noncomputable def e78 : Entry Tryz.prog := mkE 78 [[]] (fun t : Tr => [aTree t]) okTr (fun t => .tup [aInts (orderOf t.length (kidsOf t)), aInts (finW t.length (kidsOf t)).inn, aInts (finW t.length (kidsOf t)).out]) fun t ht => c78 (T := []) t ht.1 fun x hx => (ht.2 x hx).1
@[simp] theorem ok_aTree (t : Tr) : okV (aTree t) = true := by simp [aTree, aNodes, okV, pureV, pureL]
theorem th_aTree (H : Heap) (t : Tr) : thawA H [] (aTree t) = some (aTree t) := thawA_ok (by simp)
theorem injT (x y : Tr) (h : [aTree x] = [aTree y]) : x = y := by simp at h; exact inj_aTree h
theorem k78 {T : List (Entry Tryz.prog)} (hT : findE 78 T = some e78.g) {t : Tr} (ht : okTr t) (H : Heap) : callL (ctx T) (.fn 78) [aTree t] H = some (.tup [aInts (orderOf t.length (kidsOf t)), aInts (finW t.length (kidsOf t)).inn, aInts (finW t.length (kidsOf t)).out], H) :=
  mkE_pure hT injT t ht (by simp [pureL]) (by simp [thawL, th_aTree]) H
theorem c72 {T : List (Entry Tryz.prog)} (hA : findE 78 T = some e78.g) (t : Tr) (ht : okTr t) : CallAt (ctx T) 72 [aTree t] ⟨0, []⟩ (aInts (orderOf t.length (kidsOf t))) ⟨0, []⟩ := by
  have hk := fun H => k78 hA ht H
  simp only [aTree] at hk
  refine callAt_body (fn := Tryz.f72) (s0 := ⟨[0, 1, 2, 3], [aTree t, .undef, .undef, .undef], [], 13, ⟨0, [[]]⟩⟩) Tryz.func72 rfl rfl rfl ?_
  (repeat (first
    | (refine wps_seq ?_)
    | (refine wps_block ?_)
    | (refine wps_label ?_; simp only [thenQ, blockQ])
    | ((refine wps_region callOK ?_); simp [zS, aTree, hk])
    | (refine wps_cond (t := true) rfl (fun _ => ?_) (fun h => by cases h))
    | (refine wps_cond (t := false) rfl (fun h => by cases h) (fun _ => ?_))
    | ((refine wps_skip ?_); simp only [thenQ, blockQ])
    | ((refine wps_exit ?_); simp [thenQ, blockQ])))
  repeat refine wps_seq ?_
  refine wps_ret ?_
  simp [retVal, Tryz.f72, oneOr, thenQ, blockQ]
  exact ⟨[], [], FitH.empty⟩
noncomputable def e72 : Entry Tryz.prog := mkE 72 [[]] (fun t : Tr => [aTree t]) okTr (fun t => aInts (orderOf t.length (kidsOf t))) fun t ht => c72 (T := [e78]) rfl t ht
theorem k72 {T : List (Entry Tryz.prog)} (hT : findE 72 T = some e72.g) {t : Tr} (ht : okTr t) (H : Heap) : callL (ctx T) (.fn 72) [aTree t] H = some (aInts (orderOf t.length (kidsOf t)), H) :=
  mkE_pure hT injT t ht (by simp [pureL]) (by simp [thawL, th_aTree]) H
structure FactY (C : Ctx) where
  b : Nat
  args : List AV
  H : Heap
  v : AV
  H' : Heap
  ok : YieldAt C b args H v H'
open Classical in
noncomputable def callY {C : Ctx} : List (FactY C) → CallE → CallE
  | [], call, c, args, H => call c args H
  | x :: r, call, c, args, H => if c = .yl x.b ∧ args = x.args ∧ H = x.H then some (x.v, x.H') else callY r call c args H
theorem callY_ok {C : Ctx} {call : CallE} (hc : CallOK C call) : ∀ (l : List (FactY C)), CallOK C (callY l call)
  | [] => hc
  | x :: r => {
    fn := fun f args H v H' h => by
      unfold callY at h
      split at h
      · rename_i hx
        cases hx.1
      · exact (callY_ok hc r).fn f args H v H' h
    yl := fun b args H v H' h => by
      unfold callY at h
      split at h
      · rename_i hx
        obtain ⟨hf, rfl, rfl⟩ := hx
        simp only [Option.some.injEq, Prod.mk.injEq] at h
        obtain ⟨rfl, rfl⟩ := h
        cases hf
        exact x.ok
      · exact (callY_ok hc r).yl b args H v H' h }
theorem callOKY {T : List (Entry Tryz.prog)} (l : List (FactY (ctx T))) : CallOK (ctx T) (callY l (callL (ctx T))) := callY_ok callOK l
def frs : List (Nat × Nat) → List AV
  | [] => []
  | p :: r => .int .i64 (p.1 : Int) :: .int .i64 (p.2 : Int) :: frs r
theorem pure_frs : ∀ (l : List (Nat × Nat)), pureL (frs l) = true
  | [] => rfl
  | p :: r => by simp only [frs, pureL, pureV, pure_frs r]; rfl
theorem len_frs : ∀ (l : List (Nat × Nat)), (frs l).length = l.length * 2
  | [] => rfl
  | p :: r => by simp only [frs, List.length_cons, len_frs r]; omega
theorem frs_app : ∀ (l m : List (Nat × Nat)), frs (l ++ m) = frs l ++ frs m
  | [], m => rfl
  | p :: r, m => by simp only [List.cons_append, frs, frs_app r m]
theorem two_s (n : Nat) : (n + 1) * 2 = Nat.succ (Nat.succ (n * 2)) := by omega
theorem getFr0 {i j : Nat} {G : List (Nat × Nat)} : ∀ (pre : List (Nat × Nat)), getL (frs (pre ++ (i, j) :: G)) (pre.length * 2) = some (.int .i64 (i : Int))
  | [] => rfl
  | p :: r => by
    rw [List.length_cons, two_s]
    exact getFr0 r
theorem getFr1 {i j : Nat} {G : List (Nat × Nat)} : ∀ (pre : List (Nat × Nat)), getL (frs (pre ++ (i, j) :: G)) (pre.length * 2 + 1) = some (.int .i64 (j : Int))
  | [] => rfl
  | p :: r => by
    rw [List.length_cons, two_s]
    exact getFr1 r
theorem layFr {i j v : Nat} {G : List (Nat × Nat)} : ∀ (pre : List (Nat × Nat)), layL [.int .i64 (v : Int)] (pre.length * 2 + 1) (frs (pre ++ (i, j) :: G)) = some (frs (pre ++ (i, v) :: G))
  | [] => rfl
  | p :: r => by
    have h := layFr (i := i) (j := j) (v := v) (G := G) r
    rw [List.length_cons, two_s]
    show ((layL _ (r.length * 2 + 1) (frs (r ++ (i, j) :: G))).bind fun r' => some (_ :: r')).bind (fun r' => some (_ :: r')) = _
    rw [h]; rfl
theorem layApp {k : Nat} {g : Nat × Nat} {G : List (Nat × Nat)} : ∀ (l : List (Nat × Nat)), layL [.int .i64 (k : Int), .int .i64 0] (l.length * 2) (frs (l ++ g :: G)) = some (frs (l ++ (k, 0) :: G))
  | [] => rfl
  | p :: r => by
    have h := layApp (k := k) (g := g) (G := G) r
    rw [List.length_cons, two_s]
    show ((layL _ (r.length * 2) (frs (r ++ g :: G))).bind fun r' => some (_ :: r')).bind (fun r' => some (_ :: r')) = _
    rw [h]; rfl
theorem subFr (l : List (Nat × Nat)) : subL 0 (l.length * 2) (frs l) = some (frs l) := by
  show takeL _ _ = _
  rw [List.drop_zero, takeL_front (by rw [len_frs]; exact Nat.le_refl _), ← len_frs l, List.take_length]
def bls (s : List Bool) : List AV := s.map AV.bool
theorem pure_bls (s : List Bool) : pureL (bls s) = true := by
  unfold bls
  induction s with
  | nil => rfl
  | cons x r ih => simp only [List.map_cons, pureL, pureV, ih]; rfl
theorem getB {s : List Bool} {i : Nat} (h : i < s.length) : getL (bls s) i = some (.bool s[i]) := by simp [bls, getL_map h]
theorem layB : ∀ {s : List Bool} {i : Nat}, i < s.length → layL [.bool true] i (bls s) = some (bls (s.set i true))
  | [], i, h => absurd h (Nat.not_lt_zero i)
  | x :: r, 0, h => rfl
  | x :: r, i + 1, h => by
    show ((layL _ i (bls r)).bind fun r' => some (_ :: r')) = _
    rw [layB (s := r) (by simpa using h)]; rfl
theorem repl_bls : ∀ (n : Nat), replL [.bool false] n = bls (List.replicate n false)
  | 0 => rfl
  | n + 1 => by simp only [replL, repl_bls n, List.replicate_succ, bls, List.map_cons]; rfl
theorem msBool {n : Nat} (h : n ≤ 1000000) : msB Tryz.prog 97 (.int .i64 (n : Int)) (.int .i64 (n : Int)) = some (fun b => .slc b 0 n (.ex n), .cells (bls (List.replicate n false))) := by
  have h1 : idx (n : Int) 17592186044416 = some n := idx_nat (by omega)
  have h2 : idx (n : Int) (Nat.succ n) = some n := idx_nat (by omega)
  have hz : zeroOf Tryz.prog 4 = some (.bool false) := zeT4
  have hs : sizeT Tryz.prog 4 = some 1 := szT4
  have hb : bytesT Tryz.prog 4 = some 1 := byT4
  have h3 : roomOK n 1 = true := by simp [roomOK]; omega
  simp only [msB, Tryz.underlying97, Option.bind_some, hs, hb, h1, h2, h3, hz]
  simp [AV.cells, repl_bls]
theorem ixB {b n i : Nat} {cap : Cap} (h : i < n) : indexAddrA Tryz.prog 97 (.slc b 0 n cap) (.int .i64 (i : Int)) = some (.ptr b i) := by simp [indexAddrA, idx_nat h]
theorem ixF {b n i : Nat} {cap : Cap} (h : i < n) : indexAddrA Tryz.prog 140 (.slc b 0 n cap) (.int .i64 (i : Int)) = some (.ptr b (i * 2)) := by simp [indexAddrA, idx_nat h]
def cnt : Nat → Nat
  | 0 => 4607182418800017408
  | n + 1 => ((FloatKind.f64.format.add (cnt n) 4607182418800017408).getD 0)
def cntOK : Nat → Nat → Nat → Bool
  | 0, _, _ => true
  | n + 1, k, c => match FloatKind.f64.format.add c 4607182418800017408 with
    | some r => cntOK n (k + 1) r
    | none => false
theorem cntOK_spec : ∀ (n k c : Nat), c = cnt k → cntOK n k c = true → ∀ i, k ≤ i → i < k + n → FloatKind.f64.format.add (cnt i) 4607182418800017408 = some (cnt (i + 1))
  | 0, k, c, _, _, i, h1, h2 => by omega
  | n + 1, k, c, hc, h, i, h1, h2 => by
    unfold cntOK at h
    cases hr : FloatKind.f64.format.add c 4607182418800017408 with
    | none => rw [hr] at h; cases h
    | some r =>
      rw [hr] at h
      have hk : cnt (k + 1) = r := by show Option.getD _ 0 = r; rw [← hc, hr]; rfl
      by_cases hi : i = k
      · subst hi; rw [← hc, hr, hk]
      · exact cntOK_spec n (k + 1) r hk.symm h i (by omega) (by omega)
theorem cnt_add {i : Nat} (h : i < 120) : FloatKind.f64.format.add (cnt i) 4607182418800017408 = some (cnt (i + 1)) :=
  cntOK_spec 120 0 _ rfl (by decide +kernel) i (Nat.zero_le _) (by omega)
end Go.Proofs.YthclkpplpdnffaaGreatDoor
