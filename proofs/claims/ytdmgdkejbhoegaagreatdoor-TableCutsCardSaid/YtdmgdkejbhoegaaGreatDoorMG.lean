/- Regions that draw their order, where whatever is laid is handed to a call that leaves nothing: as if in their order. No condition. -/
import Derived.Test.YtdmgdkejbhoegaaGreatDoorMF
import Derived.Test.YtdmgdkejbhoegaaGreatDoorChecked
import Derived.Shelf.Strings.Search3
import Derived.Lib.IndexMore
import Derived.Test.YtdmgdkejbhoegaaGreatDoorProg
namespace Go.Proofs.YtdmgdkejbhoegaaGreatDoor
set_option linter.unusedSimpArgs false
set_option linter.unusedVariables false
open Go Go.RowKit
set_option maxRecDepth 100000
def keepTbl : List (List Nat) := [[], [], [], [0, 2, 3, 4, 5, 6], [0, 1, 2, 3, 4, 5, 6], [0, 2, 3, 4], [0, 2, 3, 4], [0, 2, 3], [0, 2, 3, 4], [0, 1, 4, 8], [0, 1, 4, 8], [0, 1, 2, 3, 4, 5, 6], [0, 1, 4, 5, 6], [0, 2], [0], [0, 1, 3, 4], [0, 1, 2, 3, 8], [0, 2, 3, 4, 7], [0, 2, 3, 4, 5, 6], [0, 2, 4, 5, 6, 33, 34, 35], [0, 1, 4, 5, 6], [0, 1, 2, 6], [0, 1, 4, 5, 15, 19, 39, 51], [0, 1, 4, 8, 48, 83, 104, 110, 116], [0, 1, 4, 11], [0, 1, 4, 5], [0, 1, 4, 5, 6, 7], [0, 1, 4], [0, 1, 4], [0, 1, 4], [0, 1, 4, 5, 6], [0, 1, 2, 4, 5], [0, 1, 4], [0, 2, 3, 4, 5], [0, 1, 4], [0, 1, 4, 5, 6], [0, 2], [0, 1, 2, 4], [0, 1, 2, 3, 6, 14, 15], [0, 1, 4, 5], [0, 1, 2, 6, 7, 8, 9], [0, 2], [0, 1, 2, 3, 8, 9, 10, 17, 24], [0, 1, 4], [0, 1, 2, 4, 6, 7, 8, 9], [0, 1, 2, 6, 7, 8, 12, 13], [0, 1, 4, 5], [0, 2, 3], [0, 1, 2, 3, 7, 8, 9], [0, 1, 4, 5], [0, 1, 4], [0, 2, 3, 5, 6, 32, 33, 34], [0], [0, 1, 2, 3, 8, 9], [0, 2], [0, 2], [0, 1], [0, 1, 2, 3, 8, 10, 51, 52, 53], [0, 1, 4], [0], [0, 1, 2, 6, 7], [0, 1, 10, 14], [0, 1, 2], [0, 1, 2], [0, 1], [0, 1, 7, 27, 41, 48], [0, 1, 4], [0, 1, 4, 5], [0, 1, 4], [0, 2], [0, 2, 3], [0, 1, 4, 5, 6, 7, 8], [0, 1, 2, 4], [0, 1, 4], [0, 1, 4], [0, 1, 2, 6], [0, 1], [0, 1], [0, 1, 4, 5], [0], [0, 1], [0, 1, 2, 4], [0, 2], [0, 1, 2, 3, 8, 9], [0], [0, 1, 2, 6], [0, 1, 4], [0, 2, 3], [0, 1, 4], [0, 1, 2, 4], [0, 1, 2, 6, 7], [], [0, 1], [0, 1, 4], [0, 1, 4], [0, 1, 2, 3, 6, 7], [0, 2, 3, 4, 5], [0, 1, 4, 5, 7, 8], [0, 1, 2, 6, 7, 10, 32, 41, 42], [0, 1, 3, 4], [0], [0, 2, 3, 4, 6, 7, 8], [0, 2], [0, 1, 4], [0, 1, 4], [0, 1, 4, 5, 6, 7], [0, 1, 4, 5, 6, 7], [0, 1, 3, 4, 5], [0, 1, 4, 5], [0, 1, 4], [0, 1, 2, 4, 5, 6, 7, 8, 13, 22, 23, 24, 42, 43, 44], [0, 1], [0, 1, 4], [0, 1, 4, 10, 30], [0, 1, 4, 13, 14, 23], [0, 2, 3], [0, 2], [0, 1, 4], [0, 2, 3, 4], [0, 1, 4], [0, 2], [0], [0, 1, 2, 3, 4, 6, 7, 8, 10, 11, 13, 14, 15], [0, 1, 2, 3, 5, 6], [0, 1, 2, 3, 5, 6, 7], [0, 1, 2, 3, 5, 6], [0, 2, 3, 4, 5, 6, 7, 8, 9, 10, 11, 12], [0, 1, 4, 5, 6, 7, 8, 9, 10, 11, 12, 13, 14, 15, 16, 175, 176], [0, 1], [0, 1, 2, 4], [0, 1, 2, 3, 5, 6, 7, 8, 10, 11, 12], [0, 1, 4, 5, 6, 7], [0, 1, 3], [0, 1, 2], [0, 1, 4], [0, 1, 2, 3, 5, 6, 8, 9, 10, 15, 16, 17], [0, 1, 3, 4], [0, 1, 2, 6, 7], [0, 1, 2], [0, 1, 4, 5, 6, 7, 8, 9, 10, 11], [0, 1, 3, 4], [0, 1, 2, 4, 5], [0, 1, 4, 8], [0, 1, 4, 5, 6], [0, 1, 4], [0, 1, 4, 5, 6], [0, 1, 4, 5, 6, 7, 8, 9, 10, 11, 12, 13], [0, 1, 4, 5, 7, 8], [0, 1, 4, 5, 6, 7, 8, 9, 10, 11, 14, 15, 47, 48, 49], [0, 2], [0, 1, 4, 5], [0, 1, 2, 4, 5], [0, 1, 4, 5, 6], [0, 1, 2, 3, 5], [0, 1, 2, 4], [0, 1, 4], [0, 2], [0, 2], [], [0, 2, 3], [0, 1, 4, 5, 7, 8], [0, 1, 3], [0, 1, 2, 4, 5], [0, 1, 3], [0, 1, 2], [0, 1, 4], [0, 1, 4, 5, 6, 7, 8, 9], [0, 1, 4, 5], [0, 1, 2, 6, 8, 39, 40, 41], [0, 1, 2], [0, 1, 4], [0, 1, 2, 6], [0, 1, 4, 5, 7, 8], [0, 1, 2, 3], [0, 1, 4, 5, 7, 8], [0, 1, 3], [0, 2, 3, 4, 5, 8, 9, 10], [0, 2], [0, 1, 2, 3, 6, 7, 8, 9, 10, 11, 12, 13, 14, 15, 16, 29, 30, 31], [0, 1, 4], [0, 1, 4], [0, 1, 4, 5, 6], [0, 1, 4], [0, 1, 4, 5, 6, 7, 8, 9, 10], [0, 1, 4, 5], [0, 2, 3, 5, 6, 8, 9, 10, 11, 25, 26, 27], [0, 1, 4, 5, 7, 9, 11, 18, 19, 20, 27, 28, 29, 38, 39, 40], [0, 2, 3, 4, 5, 6], [], [0, 2, 3, 4, 5, 6, 7, 8], [0, 1, 4], [0, 2], [], [], [], [], [], [], [], [], [], [], [], [], [], [], [], [], [], [], [], [], []]
@[simp] theorem szT3 : sizeT Tryz.prog 3 = some 1 := rfl
@[simp] theorem agT3 : aggT Tryz.prog 3 = some false := rfl
@[simp] theorem byT3 : bytesT Tryz.prog 3 = some 8 := rfl
@[simp] theorem alT3 (H : Heap) : alV Tryz.prog H 3 = some (.ptr H.n 0, H.new (.cells [.int .i64 0])) := rfl
@[simp] theorem zeT3 : zeroOf Tryz.prog 3 = some (.int .i64 0) := rfl
attribute [simp] Tryz.underlying3
@[simp 500] theorem rvF3 (H : Heap) (cs : List AV) (o : Nat) : readVar Tryz.prog H 3 (.fptr cs o) = getL cs o := rfl
@[simp 500] theorem rvP3 (H : Heap) (b o : Nat) : readVar Tryz.prog H 3 (.ptr b o) = (H.get b).bind fun k => k.rd.bind fun cs => getL cs o := rfl
@[simp] theorem szT4 : sizeT Tryz.prog 4 = some 1 := rfl
@[simp] theorem agT4 : aggT Tryz.prog 4 = some false := rfl
@[simp] theorem byT4 : bytesT Tryz.prog 4 = some 1 := rfl
@[simp] theorem alT4 (H : Heap) : alV Tryz.prog H 4 = some (.ptr H.n 0, H.new (.cells [.bool false])) := rfl
@[simp] theorem zeT4 : zeroOf Tryz.prog 4 = some (.bool false) := rfl
attribute [simp] Tryz.underlying4
@[simp 500] theorem rvF4 (H : Heap) (cs : List AV) (o : Nat) : readVar Tryz.prog H 4 (.fptr cs o) = getL cs o := rfl
@[simp 500] theorem rvP4 (H : Heap) (b o : Nat) : readVar Tryz.prog H 4 (.ptr b o) = (H.get b).bind fun k => k.rd.bind fun cs => getL cs o := rfl
@[simp] theorem beq4 (a b : Bool) : binA Tryz.prog .eql 4 (.bool a) (.bool b) = some (.bool (a == b)) := rfl
@[simp] theorem bne4 (a b : Bool) : binA Tryz.prog .neq 4 (.bool a) (.bool b) = some (.bool !(a == b)) := rfl
@[simp] theorem szT5 : sizeT Tryz.prog 5 = some 1 := rfl
@[simp] theorem agT5 : aggT Tryz.prog 5 = some false := rfl
@[simp] theorem byT5 : bytesT Tryz.prog 5 = some 1 := rfl
@[simp] theorem alT5 (H : Heap) : alV Tryz.prog H 5 = some (.ptr H.n 0, H.new (.cells [.int .u8 0])) := rfl
@[simp] theorem zeT5 : zeroOf Tryz.prog 5 = some (.int .u8 0) := rfl
attribute [simp] Tryz.underlying5
@[simp 500] theorem rvF5 (H : Heap) (cs : List AV) (o : Nat) : readVar Tryz.prog H 5 (.fptr cs o) = getL cs o := rfl
@[simp 500] theorem rvP5 (H : Heap) (b o : Nat) : readVar Tryz.prog H 5 (.ptr b o) = (H.get b).bind fun k => k.rd.bind fun cs => getL cs o := rfl
@[simp] theorem szT9 : sizeT Tryz.prog 9 = some 1 := rfl
@[simp] theorem agT9 : aggT Tryz.prog 9 = some false := rfl
@[simp] theorem byT9 : bytesT Tryz.prog 9 = some 16 := rfl
@[simp] theorem alT9 (H : Heap) : alV Tryz.prog H 9 = some (.ptr H.n 0, H.new (.cells [.str []])) := rfl
@[simp] theorem zeT9 : zeroOf Tryz.prog 9 = some (.str []) := rfl
attribute [simp] Tryz.underlying9
@[simp 500] theorem rvF9 (H : Heap) (cs : List AV) (o : Nat) : readVar Tryz.prog H 9 (.fptr cs o) = getL cs o := rfl
@[simp 500] theorem rvP9 (H : Heap) (b o : Nat) : readVar Tryz.prog H 9 (.ptr b o) = (H.get b).bind fun k => k.rd.bind fun cs => getL cs o := rfl
@[simp] theorem szT28 : sizeT Tryz.prog 28 = some 1 := rfl
@[simp] theorem agT28 : aggT Tryz.prog 28 = some false := rfl
@[simp] theorem byT28 : bytesT Tryz.prog 28 = some 24 := rfl
@[simp] theorem alT28 (H : Heap) : alV Tryz.prog H 28 = some (.ptr H.n 0, H.new (.cells [.nilS])) := rfl
@[simp] theorem zeT28 : zeroOf Tryz.prog 28 = some (.nilS) := rfl
attribute [simp] Tryz.underlying28
@[simp 500] theorem rvF28 (H : Heap) (cs : List AV) (o : Nat) : readVar Tryz.prog H 28 (.fptr cs o) = getL cs o := rfl
@[simp 500] theorem rvP28 (H : Heap) (b o : Nat) : readVar Tryz.prog H 28 (.ptr b o) = (H.get b).bind fun k => k.rd.bind fun cs => getL cs o := rfl
@[simp] theorem slz28 (sz : Nat) (e : AV) (r : List AV) : binA Tryz.prog .eql 28 (.fslc sz (e :: r)) .nilS = some (.bool false) := rfl
@[simp] theorem sln28 (sz : Nat) (e : AV) (r : List AV) : binA Tryz.prog .neq 28 (.fslc sz (e :: r)) .nilS = some (.bool true) := rfl
@[simp] theorem slze28 : binA Tryz.prog .eql 28 .eslc .nilS = some (.bool false) := rfl
@[simp] theorem slzz28 : binA Tryz.prog .eql 28 .nilS .nilS = some (.bool true) := rfl
@[simp] theorem szT33 : sizeT Tryz.prog 33 = some 1 := rfl
@[simp] theorem agT33 : aggT Tryz.prog 33 = some false := rfl
@[simp] theorem byT33 : bytesT Tryz.prog 33 = some 24 := rfl
@[simp] theorem alT33 (H : Heap) : alV Tryz.prog H 33 = some (.ptr H.n 0, H.new (.cells [.nilS])) := rfl
@[simp] theorem zeT33 : zeroOf Tryz.prog 33 = some (.nilS) := rfl
attribute [simp] Tryz.underlying33
@[simp 500] theorem rvF33 (H : Heap) (cs : List AV) (o : Nat) : readVar Tryz.prog H 33 (.fptr cs o) = getL cs o := rfl
@[simp 500] theorem rvP33 (H : Heap) (b o : Nat) : readVar Tryz.prog H 33 (.ptr b o) = (H.get b).bind fun k => k.rd.bind fun cs => getL cs o := rfl
@[simp] theorem slz33 (sz : Nat) (e : AV) (r : List AV) : binA Tryz.prog .eql 33 (.fslc sz (e :: r)) .nilS = some (.bool false) := rfl
@[simp] theorem sln33 (sz : Nat) (e : AV) (r : List AV) : binA Tryz.prog .neq 33 (.fslc sz (e :: r)) .nilS = some (.bool true) := rfl
@[simp] theorem slze33 : binA Tryz.prog .eql 33 .eslc .nilS = some (.bool false) := rfl
@[simp] theorem slzz33 : binA Tryz.prog .eql 33 .nilS .nilS = some (.bool true) := rfl
@[simp] theorem szT35 : sizeT Tryz.prog 35 = some 1 := rfl
@[simp] theorem agT35 : aggT Tryz.prog 35 = some true := rfl
@[simp] theorem byT35 : bytesT Tryz.prog 35 = some 24 := rfl
@[simp] theorem alT35 (H : Heap) : alV Tryz.prog H 35 = some (.ptr H.n 0, H.new (.cells [.nilS])) := rfl
@[simp] theorem zeT35 : zeroOf Tryz.prog 35 = some (.agg [.nilS]) := rfl
attribute [simp] Tryz.underlying35
@[simp 500] theorem rvF35 (H : Heap) (cs : List AV) (o : Nat) : readVar Tryz.prog H 35 (.fptr cs o) = (subL o 1 cs).bind fun cs => some (.agg cs) := rfl
@[simp 500] theorem rvP35 (H : Heap) (b o : Nat) : readVar Tryz.prog H 35 (.ptr b o) = (readCells H b o 1).bind fun cs => some (.agg cs) := rfl
@[simp] theorem fa35_0 (x : AV) : fieldAddrA Tryz.prog 35 x 0 = (match x with | .ptr b o => some (.ptr b (o + 0)) | .fptr cs o => some (.fptr cs (o + 0)) | _ => none) := rfl
@[simp] theorem fd35_0 (cs : List AV) : fieldA Tryz.prog 35 (.agg cs) 0 = getL cs 0 := rfl
@[simp] theorem szT36 : sizeT Tryz.prog 36 = some 1 := rfl
@[simp] theorem agT36 : aggT Tryz.prog 36 = some false := rfl
@[simp] theorem byT36 : bytesT Tryz.prog 36 = some 24 := rfl
@[simp] theorem alT36 (H : Heap) : alV Tryz.prog H 36 = some (.ptr H.n 0, H.new (.cells [.nilS])) := rfl
@[simp] theorem zeT36 : zeroOf Tryz.prog 36 = some (.nilS) := rfl
attribute [simp] Tryz.underlying36
@[simp 500] theorem rvF36 (H : Heap) (cs : List AV) (o : Nat) : readVar Tryz.prog H 36 (.fptr cs o) = getL cs o := rfl
@[simp 500] theorem rvP36 (H : Heap) (b o : Nat) : readVar Tryz.prog H 36 (.ptr b o) = (H.get b).bind fun k => k.rd.bind fun cs => getL cs o := rfl
@[simp] theorem slz36 (sz : Nat) (e : AV) (r : List AV) : binA Tryz.prog .eql 36 (.fslc sz (e :: r)) .nilS = some (.bool false) := rfl
@[simp] theorem sln36 (sz : Nat) (e : AV) (r : List AV) : binA Tryz.prog .neq 36 (.fslc sz (e :: r)) .nilS = some (.bool true) := rfl
@[simp] theorem slze36 : binA Tryz.prog .eql 36 .eslc .nilS = some (.bool false) := rfl
@[simp] theorem slzz36 : binA Tryz.prog .eql 36 .nilS .nilS = some (.bool true) := rfl
@[simp] theorem szT41 : sizeT Tryz.prog 41 = some 7 := rfl
@[simp] theorem agT41 : aggT Tryz.prog 41 = some true := rfl
@[simp] theorem byT41 : bytesT Tryz.prog 41 = some 104 := rfl
@[simp] theorem alT41 (H : Heap) : alV Tryz.prog H 41 = some (.ptr H.n 0, H.new (.cells [.int .i64 0, .int .i64 0, .str [], .nilS, .str [], .int .i64 0, .nilS])) := rfl
@[simp] theorem zeT41 : zeroOf Tryz.prog 41 = some (.agg [.int .i64 0, .int .i64 0, .str [], .nilS, .str [], .int .i64 0, .nilS]) := rfl
attribute [simp] Tryz.underlying41
@[simp 500] theorem rvF41 (H : Heap) (cs : List AV) (o : Nat) : readVar Tryz.prog H 41 (.fptr cs o) = (subL o 7 cs).bind fun cs => some (.agg cs) := rfl
@[simp 500] theorem rvP41 (H : Heap) (b o : Nat) : readVar Tryz.prog H 41 (.ptr b o) = (readCells H b o 7).bind fun cs => some (.agg cs) := rfl
@[simp] theorem fa41_0 (x : AV) : fieldAddrA Tryz.prog 41 x 0 = (match x with | .ptr b o => some (.ptr b (o + 0)) | .fptr cs o => some (.fptr cs (o + 0)) | _ => none) := rfl
@[simp] theorem fd41_0 (cs : List AV) : fieldA Tryz.prog 41 (.agg cs) 0 = getL cs 0 := rfl
@[simp] theorem fa41_1 (x : AV) : fieldAddrA Tryz.prog 41 x 1 = (match x with | .ptr b o => some (.ptr b (o + 1)) | .fptr cs o => some (.fptr cs (o + 1)) | _ => none) := rfl
@[simp] theorem fd41_1 (cs : List AV) : fieldA Tryz.prog 41 (.agg cs) 1 = getL cs 1 := rfl
@[simp] theorem fa41_2 (x : AV) : fieldAddrA Tryz.prog 41 x 2 = (match x with | .ptr b o => some (.ptr b (o + 2)) | .fptr cs o => some (.fptr cs (o + 2)) | _ => none) := rfl
@[simp] theorem fd41_2 (cs : List AV) : fieldA Tryz.prog 41 (.agg cs) 2 = getL cs 2 := rfl
@[simp] theorem fa41_3 (x : AV) : fieldAddrA Tryz.prog 41 x 3 = (match x with | .ptr b o => some (.ptr b (o + 3)) | .fptr cs o => some (.fptr cs (o + 3)) | _ => none) := rfl
@[simp] theorem fd41_3 (cs : List AV) : fieldA Tryz.prog 41 (.agg cs) 3 = getL cs 3 := rfl
@[simp] theorem fa41_4 (x : AV) : fieldAddrA Tryz.prog 41 x 4 = (match x with | .ptr b o => some (.ptr b (o + 4)) | .fptr cs o => some (.fptr cs (o + 4)) | _ => none) := rfl
@[simp] theorem fd41_4 (cs : List AV) : fieldA Tryz.prog 41 (.agg cs) 4 = getL cs 4 := rfl
@[simp] theorem fa41_5 (x : AV) : fieldAddrA Tryz.prog 41 x 5 = (match x with | .ptr b o => some (.ptr b (o + 5)) | .fptr cs o => some (.fptr cs (o + 5)) | _ => none) := rfl
@[simp] theorem fd41_5 (cs : List AV) : fieldA Tryz.prog 41 (.agg cs) 5 = getL cs 5 := rfl
@[simp] theorem fa41_6 (x : AV) : fieldAddrA Tryz.prog 41 x 6 = (match x with | .ptr b o => some (.ptr b (o + 6)) | .fptr cs o => some (.fptr cs (o + 6)) | _ => none) := rfl
@[simp] theorem fd41_6 (cs : List AV) : fieldA Tryz.prog 41 (.agg cs) 6 = getL cs 6 := rfl
@[simp] theorem szT63 : sizeT Tryz.prog 63 = some 2 := rfl
@[simp] theorem agT63 : aggT Tryz.prog 63 = some true := rfl
@[simp] theorem byT63 : bytesT Tryz.prog 63 = some 32 := rfl
@[simp] theorem alT63 (H : Heap) : alV Tryz.prog H 63 = some (.ptr H.n 0, H.new (.cells [.str [], .str []])) := rfl
@[simp] theorem zeT63 : zeroOf Tryz.prog 63 = some (.agg [.str [], .str []]) := rfl
attribute [simp] Tryz.underlying63
@[simp 500] theorem rvF63 (H : Heap) (cs : List AV) (o : Nat) : readVar Tryz.prog H 63 (.fptr cs o) = (subL o 2 cs).bind fun cs => some (.agg cs) := rfl
@[simp 500] theorem rvP63 (H : Heap) (b o : Nat) : readVar Tryz.prog H 63 (.ptr b o) = (readCells H b o 2).bind fun cs => some (.agg cs) := rfl
@[simp] theorem fa63_0 (x : AV) : fieldAddrA Tryz.prog 63 x 0 = (match x with | .ptr b o => some (.ptr b (o + 0)) | .fptr cs o => some (.fptr cs (o + 0)) | _ => none) := rfl
@[simp] theorem fd63_0 (cs : List AV) : fieldA Tryz.prog 63 (.agg cs) 0 = getL cs 0 := rfl
@[simp] theorem fa63_1 (x : AV) : fieldAddrA Tryz.prog 63 x 1 = (match x with | .ptr b o => some (.ptr b (o + 1)) | .fptr cs o => some (.fptr cs (o + 1)) | _ => none) := rfl
@[simp] theorem fd63_1 (cs : List AV) : fieldA Tryz.prog 63 (.agg cs) 1 = getL cs 1 := rfl
@[simp] theorem szT113 : sizeT Tryz.prog 113 = some 1 := rfl
@[simp] theorem agT113 : aggT Tryz.prog 113 = some false := rfl
@[simp] theorem byT113 : bytesT Tryz.prog 113 = some 24 := rfl
@[simp] theorem alT113 (H : Heap) : alV Tryz.prog H 113 = some (.ptr H.n 0, H.new (.cells [.nilS])) := rfl
@[simp] theorem zeT113 : zeroOf Tryz.prog 113 = some (.nilS) := rfl
attribute [simp] Tryz.underlying113
@[simp 500] theorem rvF113 (H : Heap) (cs : List AV) (o : Nat) : readVar Tryz.prog H 113 (.fptr cs o) = getL cs o := rfl
@[simp 500] theorem rvP113 (H : Heap) (b o : Nat) : readVar Tryz.prog H 113 (.ptr b o) = (H.get b).bind fun k => k.rd.bind fun cs => getL cs o := rfl
@[simp] theorem slz113 (sz : Nat) (e : AV) (r : List AV) : binA Tryz.prog .eql 113 (.fslc sz (e :: r)) .nilS = some (.bool false) := rfl
@[simp] theorem sln113 (sz : Nat) (e : AV) (r : List AV) : binA Tryz.prog .neq 113 (.fslc sz (e :: r)) .nilS = some (.bool true) := rfl
@[simp] theorem slze113 : binA Tryz.prog .eql 113 .eslc .nilS = some (.bool false) := rfl
@[simp] theorem slzz113 : binA Tryz.prog .eql 113 .nilS .nilS = some (.bool true) := rfl
attribute [simp] opndO_s
noncomputable def ctx (T : List (Entry Tryz.prog)) : Ctx := mkC Tryz.prog (fun f => (getL keepTbl f).getD []) T
@[simp] theorem mkC_P (T : List (Entry Tryz.prog)) : (ctx T).P = Tryz.prog := rfl
theorem mixed : Tryz.prog.follows .mixedOrders = true := by decide +kernel
theorem callOK {T : List (Entry Tryz.prog)} : CallOK (ctx T) (callL (ctx T)) := mkC_call _ _ T mixed
theorem callOKF {T : List (Entry Tryz.prog)} (l : List (Fact (ctx T))) : CallOK (ctx T) (callF l (callL (ctx T))) := callF_ok callOK l
abbrev Str := List UInt8
@[simp] theorem lenStr (H : Heap) (s : Str) : lenA Tryz.prog H 9 (.str s) = some s.length := by simp [lenA]
theorem ixStr {s : Str} {i : Nat} (h : i < s.length) : indexA Tryz.prog 9 (.str s) (.int .i64 (i : Int)) = some (.int .u8 (s[i]'h).toNat) := by
  simp [indexA, idx_nat h, getL_get h]
theorem slStr {H : Heap} {s : Str} {i : Nat} (h : i ≤ s.length) : sliceA Tryz.prog H 9 (.str s) (some (.int .i64 (i : Int))) none none = some (.str (s.drop i)) := by
  simp [sliceA, hiOK, bound, idx_nat (Nat.lt_succ_of_le h)]
theorem slStrTo {H : Heap} {s : Str} {j : Nat} (h : j ≤ s.length) : sliceA Tryz.prog H 9 (.str s) none (some (.int .i64 (j : Int))) none = some (.str (s.take j)) := by
  simp [sliceA, hiOK, bound, idx_nat (Nat.lt_succ_of_le h)]
theorem catStr {x y : Str} (h : x.length + y.length ≤ 1000000000000) : binA Tryz.prog .add 9 (.str x) (.str y) = some (.str (x ++ y)) := by
  simp [binA, strOp]; omega
@[simp] theorem eqStr (x y : Str) : binA Tryz.prog .eql 9 (.str x) (.str y) = some (.bool (decide (x = y))) := by simp [binA, strOp, eqB_eq]
@[simp] theorem neStr (x y : Str) : binA Tryz.prog .neq 9 (.str x) (.str y) = some (.bool !(decide (x = y))) := by simp [binA, strOp, eqB_eq]
abbrev aStrs (L : List Str) : AV := .fslc 1 (L.map .str)
theorem el_str (L : List Str) : Elems 1 (L.map AV.str) := .map (sz := 1) (f := AV.str) (by decide) (fun x => ⟨rfl, rfl, fun _ => rfl, fun h => absurd rfl h⟩) L
theorem atS {L : List Str} {i : Nat} (h : i < L.length) : indexAddrA Tryz.prog 113 (aStrs L) (.int .i64 (i : Int)) = some (.fptr [.str L[i]] 0) := by
  simp [indexAddrA, aStrs, idx_nat h, getL_map h, AV.cells]
theorem lenS {H : Heap} {L : List Str} : lenA Tryz.prog H 113 (aStrs L) = some L.length := by simp [lenA, aStrs]
theorem inj_str (x y : Str) (h : [AV.str x] = [AV.str y]) : x = y := by simp at h; exact h
theorem inj_str2 (x y : Str × Str) (h : [AV.str x.1, AV.str x.2] = [AV.str y.1, AV.str y.2]) : x = y := by
  simp at h; exact Prod.ext h.1 h.2
theorem inj_strs {L M : List Str} (h : aStrs L = aStrs M) : L = M := by
  simp only [aStrs, AV.fslc.injEq, true_and] at h
  exact List.map_inj_right (fun _ _ h => by simpa using h) |>.1 h
theorem inj_u8 (x y : UInt8) (h : [AV.int .u8 (x.toNat : Int)] = [AV.int .u8 (y.toNat : Int)]) : x = y := by
  simp only [List.cons.injEq, AV.int.injEq, true_and, and_true] at h
  exact UInt8.toNat_inj.1 (by omega)
def sp (c : UInt8) : Bool := decide ((c.toNat : Int) = 9) || (decide ((c.toNat : Int) = 10) || (decide ((c.toNat : Int) = 12) || (decide ((c.toNat : Int) = 13) || decide ((c.toNat : Int) = 32))))
theorem c13 {T : List (Entry Tryz.prog)} (c : UInt8) : CallAt (ctx T) 13 [.int .u8 c.toNat] ⟨0, []⟩ (.bool (sp c)) ⟨0, []⟩ := by
  refine callAt_body (fn := Tryz.f13) (s0 := ⟨[0, 2], [.int .u8 c.toNat, .undef], [], 21, ⟨0, [[]]⟩⟩) Tryz.func13 rfl rfl rfl ?_
  repeat refine wps_seq ?_
  refine wps_region callOK ?_
  simp [zS]
  by_cases h1 : (c.toNat : Int) = 9 <;> by_cases h2 : (c.toNat : Int) = 10 <;> by_cases h3 : (c.toNat : Int) = 12 <;> by_cases h4 : (c.toNat : Int) = 13 <;> by_cases h5 : (c.toNat : Int) = 32
  all_goals first
    | (exfalso; omega)
    | (repeat refine wps_seq ?_
       repeat refine wps_seq ?_
       refine wps_region callOK ?_
       simp [zS, h1, h2, h3, h4, h5]
       repeat refine wps_seq ?_
       repeat refine wps_seq ?_
       refine wps_ret ?_
       simp [retVal, Tryz.f13, oneOr]
       exact ends_pure rfl (by simp [sp, h1, h2, h3, h4, h5]))
noncomputable def e13 : Entry Tryz.prog := mkE 13 [[]] (fun x : UInt8 => [.int .u8 x.toNat]) (fun _ => True) (fun x => .bool (sp x)) fun x _ => c13 (T := []) x
theorem k13 {T : List (Entry Tryz.prog)} (hT : findE 13 T = some e13.g) (c : UInt8) (H : Heap) : callL (ctx T) (.fn 13) [.int .u8 c.toNat] H = some (.bool (sp c), H) :=
  mkE_scalar hT inj_u8 c trivial rfl (by simp)
def wstep (st : List Str × Str) (c : UInt8) : List Str × Str := if sp c = true then (if st.2 = [] then st.1 else st.1 ++ [st.2], []) else (st.1, st.2 ++ [c])
def wst (s : Str) : List Str × Str := s.foldl wstep ([], [])
def wfin (st : List Str × Str) : List Str := if st.2 = [] then st.1 else st.1 ++ [st.2]
def wsplit (s : Str) : List Str := wfin (wst s)
theorem wst_at {s : Str} {i : Nat} (h : i < s.length) : wst (s.take (i + 1)) = wstep (wst (s.take i)) s[i] := by
  rw [List.take_succ_eq_append_getElem h]
  simp only [wst, List.foldl_append, List.foldl_cons, List.foldl_nil]
theorem wst_len (s : Str) : (wst s).2.length ≤ s.length ∧ (wst s).1.length ≤ s.length := by
  have key : ∀ (s : Str) (st : List Str × Str), (s.foldl wstep st).2.length ≤ st.2.length + s.length ∧ (s.foldl wstep st).1.length ≤ st.1.length + s.length := by
    intro s
    induction s with
    | nil => intro st; simp
    | cons c r ih =>
      intro st
      have := ih (wstep st c)
      simp only [List.foldl_cons, List.length_cons]
      have h1 : (wstep st c).2.length ≤ st.2.length + 1 ∧ (wstep st c).1.length ≤ st.1.length + 1 := by
        unfold wstep
        split
        · split <;> simp
        · simp
      omega
  have := key s ([], [])
  simp only [wst]
  simp at this
  exact this
def inW (w x : Str) : Bool := decide (x ∈ wsplit w)
theorem wsplit_len (s : Str) : (wsplit s).length ≤ s.length + 1 := by
  have := wst_len s
  unfold wsplit wfin
  split <;> simp <;> omega
structure WordAt (s x : Str) (p : Nat) : Prop where
  room : p + x.length ≤ s.length
  occ : (s.drop p).take x.length = x
  pre : ∀ c, 0 < p → s[p - 1]? = some c → sp c = true
  post : ∀ c, s[p + x.length]? = some c → sp c = true
structure WInv (s : Str) (i : Nat) (st : List Str × Str) : Prop where
  le : i ≤ s.length
  words : ∀ w, w ∈ st.1 → ∃ p, WordAt s w p
  len : st.2.length ≤ i
  cur : (s.take i).drop (i - st.2.length) = st.2
  pre : ∀ c, 0 < i - st.2.length → s[i - st.2.length - 1]? = some c → sp c = true
theorem winv {s : Str} : ∀ (i : Nat), i ≤ s.length → WInv s i (wst (s.take i))
  | 0, _ => by
    have e : wst (s.take 0) = ([], []) := by simp [wst]
    rw [e]
    exact ⟨Nat.zero_le _, fun w h => (by cases h), Nat.le_refl _, rfl, fun c h => absurd h (Nat.lt_irrefl 0)⟩
  | i + 1, hi => by
    have ih := winv (s := s) i (by omega)
    have hlt : i < s.length := by omega
    rw [wst_at hlt]
    generalize wst (s.take i) = st at ih
    obtain ⟨W, c⟩ := st
    have ihl := ih.len
    have ihc := ih.cur
    have ihp := ih.pre
    simp only at ihl ihc ihp
    unfold wstep
    by_cases hs : sp s[i] = true
    · rw [if_pos hs]
      refine ⟨hi, ?_, Nat.zero_le _, ?_, ?_⟩
      · intro w hw
        simp only at hw
        by_cases hc : c = []
        · rw [if_pos hc] at hw
          exact ih.words w hw
        · rw [if_neg hc] at hw
          rcases List.mem_append.1 hw with hw | hw
          · exact ih.words w hw
          · rw [List.mem_singleton] at hw
            subst hw
            refine ⟨i - w.length, by omega, ?_, fun d h1 h2 => ihp d h1 h2, fun d h => ?_⟩
            · rw [List.drop_take, show i - (i - w.length) = w.length by omega] at ihc
              exact ihc
            · rw [show i - w.length + w.length = i by omega, List.getElem?_eq_getElem hlt, Option.some.injEq] at h
              rw [← h]; exact hs
      · simp
      · intro d _ h
        simp only [List.length_nil, Nat.sub_zero, Nat.add_sub_cancel] at h
        rw [List.getElem?_eq_getElem hlt, Option.some.injEq] at h
        rw [← h]; exact hs
    · rw [if_neg hs]
      refine ⟨hi, ih.words, by simp; omega, ?_, ?_⟩
      · simp only [List.length_append, List.length_singleton]
        rw [show i + 1 - (c.length + 1) = i - c.length by omega, List.take_succ_eq_append_getElem hlt, List.drop_append_of_le_length (by simp; omega), ihc]
      · simp only [List.length_append, List.length_singleton]
        rw [show i + 1 - (c.length + 1) = i - c.length by omega]
        exact ihp
theorem word_at {s x : Str} (h : x ∈ wsplit s) : ∃ p, WordAt s x p := by
  have inv := winv (s := s) s.length (Nat.le_refl _)
  rw [List.take_of_length_le (Nat.le_refl _)] at inv
  unfold wsplit wfin at h
  generalize wst s = st at *
  obtain ⟨W, c⟩ := st
  have il := inv.len
  have ic := inv.cur
  have ip := inv.pre
  simp only at il ic ip h
  by_cases hc : c = []
  · rw [if_pos hc] at h
    exact inv.words x h
  · rw [if_neg hc] at h
    rcases List.mem_append.1 h with h | h
    · exact inv.words x h
    · rw [List.mem_singleton] at h
      subst h
      refine ⟨s.length - x.length, by omega, ?_, ip, fun d h => ?_⟩
      · rw [List.take_of_length_le (Nat.le_refl _)] at ic
        rw [ic, List.take_of_length_le (Nat.le_refl _)]
      · rw [show s.length - x.length + x.length = s.length by omega, List.getElem?_eq_none (Nat.le_refl _)] at h
        cases h
theorem word_ne {s x : Str} (h : x ∈ wsplit s) : x ≠ [] := by
  have key : ∀ (l : Str) (st : List Str × Str), (∀ w, w ∈ st.1 → w ≠ []) → ∀ w, w ∈ (l.foldl wstep st).1 → w ≠ [] := by
    intro l
    induction l with
    | nil => intro st h; exact h
    | cons c r ih =>
      intro st h
      rw [List.foldl_cons]
      refine ih _ ?_
      intro w hw
      unfold wstep at hw
      split at hw
      · simp only at hw
        split at hw
        · exact h w hw
        · rename_i hn
          rcases List.mem_append.1 hw with hw | hw
          · exact h w hw
          · rw [List.mem_singleton] at hw; rw [hw]; exact hn
      · exact h w hw
  unfold wsplit wfin at h
  split at h
  · exact key s ([], []) (fun w h => by cases h) x h
  · rename_i hn
    rcases List.mem_append.1 h with h | h
    · exact key s ([], []) (fun w h => by cases h) x h
    · rw [List.mem_singleton] at h; rw [h]; exact hn
def lays143_ren : Go.Shelf.Ren := ⟨fun | 143 => 117 | 219 => 146 | 217 => 182 | 225 => 158 | 224 => 157 | 267 => 183 | 266 => 188 | 314 => 189 | n => n, fun | 9 => 9 | 3 => 3 | 4 => 4 | 5 => 5 | 46 => 138 | 146 => 162 | 51 => 161 | n => n, fun | 1 => 2 | n => n⟩
theorem lays143 : Go.Proofs.Lays.n143 Tryz.prog lays143_ren where
  mixed := by kernel_rfl
  f143 := Tryz.func117.trans (congrArg some (by kernel_rfl))
  f217 := Tryz.func182.trans (congrArg some (by kernel_rfl))
  f219 := Tryz.func146.trans (congrArg some (by kernel_rfl))
  f224 := Tryz.func157.trans (congrArg some (by kernel_rfl))
  f225 := Tryz.func158.trans (congrArg some (by kernel_rfl))
  f266 := Tryz.func188.trans (congrArg some (by kernel_rfl))
  f267 := Tryz.func183.trans (congrArg some (by kernel_rfl))
  f314 := Tryz.func189.trans (congrArg some (by kernel_rfl))
  t3 := Tryz.underlying3
  a3 := Tryz.isAgg3
  z3 := Tryz.sizeOf3
  v3 := Tryz.zeroValue3
  t4 := Tryz.underlying4
  a4 := Tryz.isAgg4
  z4 := Tryz.sizeOf4
  v4 := Tryz.zeroValue4
  t5 := Tryz.underlying5
  a5 := Tryz.isAgg5
  z5 := Tryz.sizeOf5
  v5 := Tryz.zeroValue5
  t9 := Tryz.underlying9
  a9 := Tryz.isAgg9
  z9 := Tryz.sizeOf9
  v9 := Tryz.zeroValue9
  t46 := Tryz.underlying138
  a46 := Tryz.isAgg138
  z46 := Tryz.sizeOf138
  v46 := Tryz.zeroValue138
  t51 := Tryz.underlying161
  a51 := Tryz.isAgg161
  z51 := Tryz.sizeOf161
  v51 := Tryz.zeroValue161
  t146 := Tryz.underlying162
  a146 := Tryz.isAgg162
  z146 := Tryz.sizeOf162
  v146 := Tryz.zeroValue162
  g1 := by kernel_rfl
theorem index_at (s sub : ByteArray) (m : Int) (w : World) (hs : s.size < 4294967281) (hm : w.cell? ⟨2, 0, none⟩ = some (.int .i64 m)) :
    Calls Tryz.prog 117 #[.string s, .string sub] w fun e w' => e = .returned (.int .i64 (Lib.index s.data.toList sub.data.toList)) ∧ w' = w := Any.strings_Index lays143 s sub m w hs hm
theorem c117 {T : List (Entry Tryz.prog)} (s t : Str) (hl : s.length ≤ 1000000) : CallAt (ctx T) 117 [.str s, .str t] ⟨0, []⟩ (.int .i64 (Lib.index s t)) ⟨0, []⟩ := by
  intro ρ w xs sm hx
  match xs, hx with
  | [x, y], hx =>
    have h0 := hx.2 0 (by simp) (by simp)
    have h1 := hx.2 1 (by simp) (by simp)
    simp only [List.getElem_cons_zero, List.getElem_cons_succ] at h0 h1
    cases h0; cases h1
    obtain ⟨hB, m, hm⟩ := ρ.gl 2 (by simp [globs])
    have hc : w.cell? ⟨2, 0, none⟩ = some (.int .i64 m) := by rw [World.cell?, sm.below 2 hB]; exact hm
    have hrun : (callFunc 117 #[.string ⟨s.toArray⟩, .string ⟨t.toArray⟩]).run (ctx T).P w = .ok (.enter 117 #[.string ⟨s.toArray⟩, .string ⟨t.toArray⟩]) w := by
      have hf : (ctx T).P.funcs[117]? = some Tryz.f117 := Tryz.func117
      have hn : ¬ Tryz.f117.name = "runtime.NumGoroutine" := by decide +kernel
      simp [callFunc, hf, hn, Tryz.f117]
    refine .inr ⟨117, _, hrun, callsIn_wide.2 ((index_at ⟨s.toArray⟩ ⟨t.toArray⟩ m w ?_ hc).mono ?_)⟩
    · show s.toArray.size < _
      simp; omega
    · rintro e w' ⟨rfl, rfl⟩
      exact ⟨_, ρ, rfl, .int _ _, sm, Step.refl _ _ _⟩
noncomputable def e117 : Entry Tryz.prog := mkE 117 [[], []] (fun x : Str × Str => [.str x.1, .str x.2]) (fun x => x.1.length ≤ 1000000) (fun x => .int .i64 (Lib.index x.1 x.2)) fun x h => c117 (T := []) x.1 x.2 h
theorem k117 {T : List (Entry Tryz.prog)} (hT : findE 117 T = some e117.g) {s t : Str} (h1 : s.length ≤ 1000000) (H : Heap) : callL (ctx T) (.fn 117) [.str s, .str t] H = some (.int .i64 (Lib.index s t), H) :=
  mkE_scalar hT inj_str2 (s, t) h1 rfl (by simp)
theorem c118 {T : List (Entry Tryz.prog)} (c : UInt8) : CallAt (ctx T) 118 [.int .u8 c.toNat] ⟨0, []⟩ (.bool (sp c)) ⟨0, []⟩ := by
  refine callAt_body (fn := Tryz.f118) (s0 := ⟨[0, 2, 3, 4], [.int .u8 c.toNat, .undef, .undef, .undef], [], 10, ⟨0, [[]]⟩⟩) Tryz.func118 rfl rfl rfl ?_
  repeat refine wps_seq ?_
  refine wps_region callOK ?_
  simp [zS]
  repeat refine wps_seq ?_
  refine wps_region callOK ?_
  simp [zS]
  repeat refine wps_seq ?_
  refine wps_block ?_
  by_cases h1 : (c.toNat : Int) = 9
  · (repeat (first
      | (refine wps_seq ?_)
      | (refine wps_block ?_)
      | (refine wps_label ?_; simp only [thenQ, blockQ])
      | ((refine wps_region callOK ?_); simp [zS, h1])
      | (refine wps_cond (t := true) rfl (fun _ => ?_) (fun h => by cases h))
      | (refine wps_cond (t := false) rfl (fun h => by cases h) (fun _ => ?_))
      | ((refine wps_skip ?_); simp only [thenQ, blockQ])
      | ((refine wps_exit ?_); simp [thenQ, blockQ])))
    repeat refine wps_seq ?_
    refine wps_ret ?_
    simp [retVal, Tryz.f118, oneOr, thenQ, blockQ]
    exact ends_pure rfl (by simp [sp, h1])
  by_cases h2 : (c.toNat : Int) = 10
  · (repeat (first
      | (refine wps_seq ?_)
      | (refine wps_block ?_)
      | (refine wps_label ?_; simp only [thenQ, blockQ])
      | ((refine wps_region callOK ?_); simp [zS, h1, h2])
      | (refine wps_cond (t := true) rfl (fun _ => ?_) (fun h => by cases h))
      | (refine wps_cond (t := false) rfl (fun h => by cases h) (fun _ => ?_))
      | ((refine wps_skip ?_); simp only [thenQ, blockQ])
      | ((refine wps_exit ?_); simp [thenQ, blockQ])))
    repeat refine wps_seq ?_
    refine wps_ret ?_
    simp [retVal, Tryz.f118, oneOr, thenQ, blockQ]
    exact ends_pure rfl (by simp [sp, h2])
  by_cases h3 : (c.toNat : Int) = 12
  · (repeat (first
      | (refine wps_seq ?_)
      | (refine wps_block ?_)
      | (refine wps_label ?_; simp only [thenQ, blockQ])
      | ((refine wps_region callOK ?_); simp [zS, h1, h2, h3])
      | (refine wps_cond (t := true) rfl (fun _ => ?_) (fun h => by cases h))
      | (refine wps_cond (t := false) rfl (fun h => by cases h) (fun _ => ?_))
      | ((refine wps_skip ?_); simp only [thenQ, blockQ])
      | ((refine wps_exit ?_); simp [thenQ, blockQ])))
    repeat refine wps_seq ?_
    refine wps_ret ?_
    simp [retVal, Tryz.f118, oneOr, thenQ, blockQ]
    exact ends_pure rfl (by simp [sp, h3])
  by_cases h4 : (c.toNat : Int) = 13
  · (repeat (first
      | (refine wps_seq ?_)
      | (refine wps_block ?_)
      | (refine wps_label ?_; simp only [thenQ, blockQ])
      | ((refine wps_region callOK ?_); simp [zS, h1, h2, h3, h4])
      | (refine wps_cond (t := true) rfl (fun _ => ?_) (fun h => by cases h))
      | (refine wps_cond (t := false) rfl (fun h => by cases h) (fun _ => ?_))
      | ((refine wps_skip ?_); simp only [thenQ, blockQ])
      | ((refine wps_exit ?_); simp [thenQ, blockQ])))
    repeat refine wps_seq ?_
    refine wps_ret ?_
    simp [retVal, Tryz.f118, oneOr, thenQ, blockQ]
    exact ends_pure rfl (by simp [sp, h4])
  by_cases h5 : (c.toNat : Int) = 32
  · (repeat (first
      | (refine wps_seq ?_)
      | (refine wps_block ?_)
      | (refine wps_label ?_; simp only [thenQ, blockQ])
      | ((refine wps_region callOK ?_); simp [zS, h1, h2, h3, h4, h5])
      | (refine wps_cond (t := true) rfl (fun _ => ?_) (fun h => by cases h))
      | (refine wps_cond (t := false) rfl (fun h => by cases h) (fun _ => ?_))
      | ((refine wps_skip ?_); simp only [thenQ, blockQ])
      | ((refine wps_exit ?_); simp [thenQ, blockQ])))
    repeat refine wps_seq ?_
    refine wps_ret ?_
    simp [retVal, Tryz.f118, oneOr, thenQ, blockQ]
    exact ends_pure rfl (by simp [sp, h5])
  · (repeat (first
      | (refine wps_seq ?_)
      | (refine wps_block ?_)
      | (refine wps_label ?_; simp only [thenQ, blockQ])
      | ((refine wps_region callOK ?_); simp [zS, h1, h2, h3, h4, h5])
      | (refine wps_cond (t := true) rfl (fun _ => ?_) (fun h => by cases h))
      | (refine wps_cond (t := false) rfl (fun h => by cases h) (fun _ => ?_))
      | ((refine wps_skip ?_); simp only [thenQ, blockQ])
      | ((refine wps_exit ?_); simp [thenQ, blockQ])))
    repeat refine wps_seq ?_
    refine wps_ret ?_
    simp [retVal, Tryz.f118, oneOr, thenQ, blockQ]
    exact ends_pure rfl (by simp [sp, h1, h2, h3, h4, h5])
noncomputable def e118 : Entry Tryz.prog := mkE 118 [[]] (fun x : UInt8 => [.int .u8 x.toNat]) (fun _ => True) (fun x => .bool (sp x)) fun x _ => c118 (T := []) x
theorem k118 {T : List (Entry Tryz.prog)} (hT : findE 118 T = some e118.g) (c : UInt8) (H : Heap) : callL (ctx T) (.fn 118) [.int .u8 c.toNat] H = some (.bool (sp c), H) :=
  mkE_scalar hT inj_u8 c trivial rfl (by simp)
def isTrueE : Option (AV × Heap) → Bool
  | some (.bool b, _) => b
  | _ => false
def eqN : Str → Str → Bool
  | [], l => match l with | [] => true | _ :: _ => false
  | a :: x, l => match l with
    | [] => false
    | b :: y => match Nat.beq a.toNat b.toNat with
      | true => eqN x y
      | false => false
theorem eqN_eq : ∀ (x y : Str), eqN x y = decide (x = y)
  | [], [] => rfl
  | [], _ :: _ => by simp [eqN]
  | _ :: _, [] => by simp [eqN]
  | a :: x, b :: y => by
    unfold eqN
    simp only
    split
    · rename_i h
      have := UInt8.toNat_inj.1 (Nat.eq_of_beq_eq_true h)
      subst this
      rw [eqN_eq]; simp
    · rename_i h
      have : ¬ a = b := fun e => by subst e; rw [Nat.beq_refl] at h; cases h
      simp [this]
def spN (n : Nat) : Bool := match Nat.beq n 32 with
  | true => true
  | false => match Nat.beq n 9 with
    | true => true
    | false => match Nat.beq n 10 with
      | true => true
      | false => match Nat.beq n 12 with
        | true => true
        | false => Nat.beq n 13
theorem spN_eq (c : UInt8) : spN c.toNat = sp c := by
  have k : ∀ m : Nat, Nat.beq c.toNat m = decide ((c.toNat : Int) = (m : Int)) := fun m => by
    by_cases h : c.toNat = m
    · subst h; simp
    · rw [beqN_ne h]; simp; omega
  unfold spN sp
  rw [k 32, k 9, k 10, k 12, k 13]
  simp only [Int.cast_ofNat_Int]
  by_cases h1 : (c.toNat : Int) = 9 <;> by_cases h2 : (c.toNat : Int) = 10 <;> by_cases h3 : (c.toNat : Int) = 12 <;> by_cases h4 : (c.toNat : Int) = 13 <;> by_cases h5 : (c.toNat : Int) = 32 <;> simp [h1, h2, h3, h4, h5]
def inN (x : Str) : Str → Option Str → Bool → Bool
  | [], w, some' => match some' with
    | true => match w with
      | some r => match r with | [] => true | _ :: _ => false
      | none => false
    | false => false
  | c :: r, w, some' => match spN c.toNat with
    | true => match some' with
      | true => match w with
        | some q => match q with
          | [] => true
          | _ :: _ => inN x r (some x) false
        | none => inN x r (some x) false
      | false => inN x r (some x) false
    | false => match w with
      | some q => match q with
        | [] => inN x r none true
        | d :: q => match Nat.beq d.toNat c.toNat with
          | true => inN x r (some q) true
          | false => inN x r none true
      | none => inN x r none true
def leftOf : Str → Str → Option Str
  | [], x => some x
  | a :: c, x => match x with
    | [] => none
    | b :: x => if b = a then leftOf c x else none
theorem leftOf_snoc : ∀ (cur x : Str) (c : UInt8), leftOf (cur ++ [c]) x = match leftOf cur x with
    | some q => (match q with | [] => none | d :: q => if d = c then some q else none)
    | none => none
  | [], x, c => by cases x <;> simp [leftOf]
  | a :: r, [], c => by simp [leftOf]
  | a :: r, b :: x, c => by
    simp only [List.cons_append, leftOf]
    by_cases h : b = a
    · simp only [h, if_true]; exact leftOf_snoc r x c
    · simp [h]
theorem leftOf_nil : ∀ (cur x : Str), leftOf cur x = some [] ↔ x = cur
  | [], x => by simp [leftOf]
  | a :: r, [] => by simp [leftOf]
  | a :: r, b :: x => by
    simp only [leftOf]
    by_cases h : b = a
    · simp [h, leftOf_nil r x]
    · simp [h]
theorem inN_eq (x : Str) (hx : x ≠ []) : ∀ (r : Str) (st : List Str × Str), x ∉ st.1 → inN x r (leftOf st.2 x) (!decide (st.2 = [])) = decide (x ∈ wfin (r.foldl wstep st))
  | [], st, hn => by
    simp only [List.foldl_nil, wfin]
    unfold inN
    by_cases h : st.2 = []
    · simp [h, hn]
    · simp only [h, decide_false, Bool.not_false, if_false]
      cases hl : leftOf st.2 x with
      | none =>
        have : ¬ x = st.2 := fun e => by rw [(leftOf_nil st.2 x).2 e] at hl; cases hl
        simp [hn, this]
      | some q =>
        cases q with
        | nil =>
          have := (leftOf_nil st.2 x).1 hl
          simp [this]
        | cons d q =>
          have : ¬ x = st.2 := fun e => by rw [(leftOf_nil st.2 x).2 e] at hl; cases hl
          simp [hn, this]
  | c :: r, st, hn => by
    show inN x (c :: r) _ _ = decide (x ∈ wfin (r.foldl wstep (wstep st c)))
    have grow : ∀ (r : Str) (st : List Str × Str), x ∈ st.1 → x ∈ (r.foldl wstep st).1 := by
      intro r
      induction r with
      | nil => exact fun _ h => h
      | cons c r ih =>
        intro st h
        refine ih _ ?_
        unfold wstep
        split
        · split
          · exact h
          · exact List.mem_append_left _ h
        · exact h
    rw [show inN x (c :: r) (leftOf st.2 x) (!decide (st.2 = [])) = (match spN c.toNat with
    | true => match (!decide (st.2 = [])) with
      | true => match leftOf st.2 x with
        | some q => match q with
          | [] => true
          | _ :: _ => inN x r (some x) false
        | none => inN x r (some x) false
      | false => inN x r (some x) false
    | false => match leftOf st.2 x with
      | some q => match q with
        | [] => inN x r none true
        | d :: q => match Nat.beq d.toNat c.toNat with
          | true => inN x r (some q) true
          | false => inN x r none true
      | none => inN x r none true) from rfl, spN_eq]
    cases hs : sp c with
    | true =>
      simp only
      by_cases h : st.2 = []
      · have e : wstep st c = (st.1, []) := by simp [wstep, hs, h]
        rw [e]
        have ih := inN_eq x hx r (st.1, []) hn
        simp only [h, decide_true, Bool.not_true]
        simpa [leftOf] using ih
      · have e : wstep st c = (st.1 ++ [st.2], []) := by simp [wstep, hs, h]
        rw [e]
        simp only [h, decide_false, Bool.not_false]
        by_cases hq : x = st.2
        · rw [(leftOf_nil st.2 x).2 hq]
          simp only
          have hm := grow r (st.1 ++ [st.2], []) (by rw [hq]; simp)
          unfold wfin
          split
          · simp [hm]
          · simp [hm]
        · have hn' : x ∉ st.1 ++ [st.2] := by simp [hn, hq]
          have ih := inN_eq x hx r (st.1 ++ [st.2], []) hn'
          simp only [leftOf, decide_true, Bool.not_true] at ih
          cases hl : leftOf st.2 x with
          | none => exact ih
          | some q =>
            cases q with
            | nil => exact absurd ((leftOf_nil st.2 x).1 hl) hq
            | cons d q => exact ih
    | false =>
      simp only
      have e : wstep st c = (st.1, st.2 ++ [c]) := by simp [wstep, hs]
      rw [e]
      have ih := inN_eq x hx r (st.1, st.2 ++ [c]) hn
      simp only [List.append_eq_nil_iff, List.cons_ne_nil, and_false, decide_false, Bool.not_false] at ih
      rw [leftOf_snoc] at ih
      cases hl : leftOf st.2 x with
      | none => rw [hl] at ih; exact ih
      | some q =>
        rw [hl] at ih
        cases q with
        | nil => exact ih
        | cons d q =>
          simp only at ih ⊢
          by_cases hd : d = c
          · rw [if_pos hd] at ih
            rw [hd, Nat.beq_refl]; exact ih
          · rw [if_neg hd] at ih
            rw [beqN_ne (fun e => hd (UInt8.toNat_inj.1 e))]; exact ih
theorem words_ne (s : Str) : [] ∉ wsplit s := by
  have key : ∀ (r : Str) (st : List Str × Str), [] ∉ st.1 → [] ∉ (r.foldl wstep st).1 := by
    intro r
    induction r with
    | nil => exact fun _ h => h
    | cons c r ih =>
      intro st h
      refine ih _ ?_
      unfold wstep
      split
      · split
        · exact h
        · rename_i h2
          simp only [List.mem_append, List.mem_singleton, not_or]
          exact ⟨h, fun e => h2 e.symm⟩
      · exact h
  have := key s ([], []) (by simp)
  unfold wsplit wfin wst
  split
  · exact this
  · rename_i h2
    simp only [List.mem_append, List.mem_singleton, not_or]
    exact ⟨this, fun e => h2 e.symm⟩
def inB (w x : Str) : Bool := match x with
  | [] => false
  | _ :: _ => inN x w (some x) false
theorem inB_eq (w x : Str) : inB w x = inW w x := by
  unfold inB
  split
  · simp [inW, words_ne]
  · rename_i a r
    have := inN_eq (a :: r) (by simp) w ([], []) (by simp)
    exact (show inN (a :: r) w (some (a :: r)) false = _ from this).trans (decide_eq_decide.2 Iff.rfl)
theorem closedCall {T : List (Entry Tryz.prog)} {f : FuncId} (h : isTrueE (callN (ctx T) 100000 (.fn f) [] ⟨0, []⟩) = true) : CallAt (ctx T) f [] ⟨0, []⟩ (.bool true) ⟨0, []⟩ := by
  revert h
  cases hr : callN (ctx T) 100000 (.fn f) [] ⟨0, []⟩ with
  | none => intro h; cases h
  | some r =>
    obtain ⟨v, H'⟩ := r
    intro h
    cases v <;> simp only [isTrueE] at h <;> first | (cases h; done) | skip
    subst h
    exact ((call_ok mixed (mkC_ok _ _ _) 100000).fn f [] ⟨0, []⟩ _ _ hr).freeze (Φ := []) (by simp [fitV, pureV]) FitH.empty
def noneL : List AV → Bool
  | [] => true
  | _ :: _ => false
mutual
def fitVb (Φ : List (Nat × List AV)) : AV → AV → Bool
  | .slc b o len cap, v' => match v' with
    | .undef => true
    | .fslc sz es => (match lookC b Φ with
      | some cs => (match subL o (len * sz) cs with
        | some x => AV.beqL x (flatAV es) && Nat.beq es.length len && allSize sz es
        | none => false)
      | none => false) || (Nat.beq len 0 && noneL es)
    | _ => false
  | .ptr b o, v' => match v' with
    | .undef => true
    | .fptr cs o' => (match lookC b Φ with
      | some c => AV.beqL c cs
      | none => false) && Nat.beq o' o
    | _ => false
  | .nilS, v' => match v' with
    | .undef => true
    | .nilS => true
    | .fslc _ es => noneL es
    | _ => false
  | .fslc sz es, v' => match v' with
    | .undef => true
    | .fslc sz' es' => Nat.beq sz sz' && AV.beqL es es'
    | _ => false
  | .agg cs, v' => match v' with
    | .undef => true
    | .agg cs' => fitLb Φ cs cs'
    | _ => false
  | .tup cs, v' => match v' with
    | .undef => true
    | .tup cs' => fitLb Φ cs cs'
    | _ => false
  | .int k n, v' => match v' with
    | .undef => true
    | .int k' n' => decide (k' = k) && decide (n' = n)
    | _ => false
  | .str s, v' => match v' with
    | .undef => true
    | .str s' => eqN s' s
    | _ => false
  | .bool s, v' => match v' with
    | .undef => true
    | .bool s' => s' == s
    | _ => false
  | _, v' => match v' with
    | .undef => true
    | _ => false
def fitLb (Φ : List (Nat × List AV)) : List AV → List AV → Bool
  | [], l' => noneL l'
  | a :: r, l' => match l' with
    | [] => false
    | a' :: r' => fitVb Φ a a' && fitLb Φ r r'
end
theorem noneL_eq {l : List AV} (h : noneL l = true) : l = [] := by cases l <;> first | rfl | cases h
mutual
theorem fitVb_ok {Φ : List (Nat × List AV)} : ∀ {v v' : AV}, fitVb Φ v v' = true → fitV [] Φ v v' := by
  intro v v' h
  cases v with
  | slc b o len cap =>
    unfold fitVb at h
    unfold fitV
    cases v' <;> simp only [Bool.false_eq_true] at h ⊢
    rename_i sz es
    simp only [Bool.or_eq_true, Bool.and_eq_true] at h
    rcases h with h | h
    · left
      cases hl : lookC b Φ with
      | none => rw [hl] at h; cases h
      | some cs =>
        rw [hl] at h
        simp only at h
        cases hs : subL o (len * sz) cs with
        | none => rw [hs] at h; cases h
        | some x =>
          rw [hs] at h
          simp only [Bool.and_eq_true] at h
          exact ⟨cs, rfl, by rw [hs, AV.eqL_of_beq _ _ h.1.1], Nat.eq_of_beq_eq_true h.1.2, h.2⟩
    · exact .inr ⟨Nat.eq_of_beq_eq_true h.1, noneL_eq h.2⟩
  | fslc sz es =>
    cases v' with
    | undef => simp [fitV]
    | fslc sz' es' =>
      unfold fitVb at h
      simp only [Bool.and_eq_true] at h
      have h1 := Nat.eq_of_beq_eq_true h.1
      have h2 := AV.eqL_of_beq _ _ h.2
      subst h1; subst h2
      exact fitV_pure rfl
    | _ => simp [fitVb] at h
  | ptr b o =>
    unfold fitVb at h
    unfold fitV
    cases v' <;> simp only [Bool.false_eq_true] at h ⊢
    simp only [Bool.and_eq_true] at h
    cases hl : lookC b Φ with
    | none => rw [hl] at h; cases h.1
    | some cs =>
      rw [hl] at h
      exact ⟨by rw [AV.eqL_of_beq _ _ h.1], Nat.eq_of_beq_eq_true h.2⟩
  | nilS =>
    unfold fitVb at h
    unfold fitV
    cases v' <;> simp only [Bool.false_eq_true] at h ⊢
    exact noneL_eq h
  | agg cs =>
    unfold fitVb at h
    unfold fitV
    cases v' <;> simp only [Bool.false_eq_true] at h ⊢
    exact .inl (fitLb_ok h)
  | tup cs =>
    unfold fitVb at h
    unfold fitV
    cases v' <;> simp only [Bool.false_eq_true] at h ⊢
    exact .inl (fitLb_ok h)
  | int k n =>
    unfold fitVb at h
    unfold fitV
    cases v' <;> simp only [Bool.false_eq_true] at h ⊢
    · simp
    · simp only [Bool.and_eq_true, decide_eq_true_eq] at h
      obtain ⟨rfl, rfl⟩ := h
      exact .inr ⟨rfl, rfl⟩
  | str s =>
    unfold fitVb at h
    unfold fitV
    cases v' <;> simp only [Bool.false_eq_true] at h ⊢
    · simp
    · rw [eqN_eq, decide_eq_true_eq] at h
      subst h
      exact .inr ⟨rfl, rfl⟩
  | bool s =>
    unfold fitVb at h
    unfold fitV
    cases v' <;> simp only [Bool.false_eq_true] at h ⊢
    · simp
    · simp only [beq_iff_eq] at h
      subst h
      exact .inr ⟨rfl, rfl⟩
  | _ =>
    unfold fitVb at h
    cases v' <;> simp only [Bool.false_eq_true] at h
    simp [fitV]
theorem fitLb_ok {Φ : List (Nat × List AV)} : ∀ {l l' : List AV}, fitLb Φ l l' = true → fitL [] Φ l l' := by
  intro l l' h
  cases l with
  | nil =>
    unfold fitLb at h
    unfold fitL
    exact noneL_eq h
  | cons a r =>
    unfold fitLb at h
    unfold fitL
    cases l' with
    | nil => cases h
    | cons a' r' =>
      simp only [Bool.and_eq_true] at h
      exact ⟨fitVb_ok h.1, fitLb_ok h.2⟩
end
@[simp] theorem szT21 : sizeT Tryz.prog 21 = some 1 := rfl
@[simp] theorem agT21 : aggT Tryz.prog 21 = some false := rfl
@[simp] theorem byT21 : bytesT Tryz.prog 21 = some 4 := rfl
@[simp] theorem alT21 (H : Heap) : alV Tryz.prog H 21 = some (.ptr H.n 0, H.new (.cells [.int .i32 0])) := rfl
@[simp] theorem zeT21 : zeroOf Tryz.prog 21 = some (.int .i32 0) := rfl
attribute [simp] Tryz.underlying21
@[simp 500] theorem rvF21 (H : Heap) (cs : List AV) (o : Nat) : readVar Tryz.prog H 21 (.fptr cs o) = getL cs o := rfl
@[simp 500] theorem rvP21 (H : Heap) (b o : Nat) : readVar Tryz.prog H 21 (.ptr b o) = (H.get b).bind fun k => k.rd.bind fun cs => getL cs o := rfl
@[simp] theorem szT155 : sizeT Tryz.prog 155 = some 1 := rfl
@[simp] theorem agT155 : aggT Tryz.prog 155 = some false := rfl
@[simp] theorem byT155 : bytesT Tryz.prog 155 = some 24 := rfl
@[simp] theorem alT155 (H : Heap) : alV Tryz.prog H 155 = some (.ptr H.n 0, H.new (.cells [.nilS])) := rfl
@[simp] theorem zeT155 : zeroOf Tryz.prog 155 = some (.nilS) := rfl
attribute [simp] Tryz.underlying155
@[simp 500] theorem rvF155 (H : Heap) (cs : List AV) (o : Nat) : readVar Tryz.prog H 155 (.fptr cs o) = getL cs o := rfl
@[simp 500] theorem rvP155 (H : Heap) (b o : Nat) : readVar Tryz.prog H 155 (.ptr b o) = (H.get b).bind fun k => k.rd.bind fun cs => getL cs o := rfl
@[simp] theorem slz155 (sz : Nat) (e : AV) (r : List AV) : binA Tryz.prog .eql 155 (.fslc sz (e :: r)) .nilS = some (.bool false) := rfl
@[simp] theorem sln155 (sz : Nat) (e : AV) (r : List AV) : binA Tryz.prog .neq 155 (.fslc sz (e :: r)) .nilS = some (.bool true) := rfl
@[simp] theorem slze155 : binA Tryz.prog .eql 155 .eslc .nilS = some (.bool false) := rfl
@[simp] theorem slzz155 : binA Tryz.prog .eql 155 .nilS .nilS = some (.bool true) := rfl
@[simp] theorem szT157 : sizeT Tryz.prog 157 = some 2 := rfl
@[simp] theorem agT157 : aggT Tryz.prog 157 = some true := rfl
@[simp] theorem byT157 : bytesT Tryz.prog 157 = some 16 := rfl
@[simp] theorem alT157 (H : Heap) : alV Tryz.prog H 157 = some (.ptr H.n 0, H.new (.cells [.int .i64 0, .int .i64 0])) := rfl
@[simp] theorem zeT157 : zeroOf Tryz.prog 157 = some (.agg [.int .i64 0, .int .i64 0]) := rfl
attribute [simp] Tryz.underlying157
@[simp 500] theorem rvF157 (H : Heap) (cs : List AV) (o : Nat) : readVar Tryz.prog H 157 (.fptr cs o) = (subL o 2 cs).bind fun cs => some (.agg cs) := rfl
@[simp 500] theorem rvP157 (H : Heap) (b o : Nat) : readVar Tryz.prog H 157 (.ptr b o) = (readCells H b o 2).bind fun cs => some (.agg cs) := rfl
@[simp] theorem fa157_0 (x : AV) : fieldAddrA Tryz.prog 157 x 0 = (match x with | .ptr b o => some (.ptr b (o + 0)) | .fptr cs o => some (.fptr cs (o + 0)) | _ => none) := rfl
@[simp] theorem fd157_0 (cs : List AV) : fieldA Tryz.prog 157 (.agg cs) 0 = getL cs 0 := rfl
@[simp] theorem fa157_1 (x : AV) : fieldAddrA Tryz.prog 157 x 1 = (match x with | .ptr b o => some (.ptr b (o + 1)) | .fptr cs o => some (.fptr cs (o + 1)) | _ => none) := rfl
@[simp] theorem fd157_1 (cs : List AV) : fieldA Tryz.prog 157 (.agg cs) 1 = getL cs 1 := rfl
theorem c149 {T : List (Entry Tryz.prog)} (hS : findE 118 T = some e118.g) (c : UInt8) (hc : c.toNat < 128) : CallAt (ctx T) 149 [.int .i32 (c.toNat : Int)] ⟨0, []⟩ (.bool (sp c)) ⟨0, []⟩ := by
  have ks := fun H => k118 hS c H
  have h1 : (c.toNat : Int) < 128 := by omega
  have hw : IntKind.u8.wrap (c.toNat : Int) = (c.toNat : Int) := by
    simp [IntKind.wrap, IntKind.signed, IntKind.bits]
    omega
  have hcv : ∀ H, convA Tryz.prog H 21 5 (.int .i32 (c.toNat : Int)) = some (.int .u8 (c.toNat : Int), H) := fun H => by simp [convA, hw]
  refine callAt_body (fn := Tryz.f149) (s0 := ⟨[0, 2], [.int .i32 (c.toNat : Int), .undef], [], 10, ⟨0, [[]]⟩⟩) Tryz.func149 rfl rfl rfl ?_
  repeat refine wps_seq ?_
  refine wps_region callOK ?_
  simp [zS]
  repeat refine wps_seq ?_
  refine wps_region callOK ?_
  simp [zS, h1, hcv, ks]
  repeat refine wps_seq ?_
  refine wps_ret ?_
  simp [retVal, Tryz.f149, oneOr, thenQ, blockQ]
  exact ends_pure rfl (by rfl)
end Go.Proofs.YtdmgdkejbhoegaaGreatDoor
namespace Go.Proofs.YtdmgdkejbhoegaaGreatDoor
noncomputable section
set_option linter.unusedSimpArgs false
set_option linter.unusedVariables false
open Go Go.RowKit
def shrB (k k' : Blk) : Prop := k = k' ∨ ∃ cs G, k = .cells (cs ++ G) ∧ k' = .cells cs
def shrL : List (Nat × Blk) → List (Nat × Blk) → Prop
  | [], [] => True
  | e :: r, e' :: r' => e.1 = e'.1 ∧ shrB e.2 e'.2 ∧ shrL r r'
  | _, _ => False
theorem shrL_refl : ∀ (l : List (Nat × Blk)), shrL l l
  | [] => trivial
  | e :: r => ⟨rfl, .inl rfl, shrL_refl r⟩
theorem shrL_ids : ∀ {l l' : List (Nat × Blk)}, shrL l l' → l'.map (·.1) = l.map (·.1)
  | [], [], _ => rfl
  | e :: r, e' :: r', h => by simp [h.1, shrL_ids h.2.2]
  | [], _ :: _, h => h.elim
  | _ :: _, [], h => h.elim
theorem shrL_mem : ∀ {l l' : List (Nat × Blk)} {e' : Nat × Blk}, shrL l l' → e' ∈ l' → ∃ e, e ∈ l ∧ e.1 = e'.1 ∧ shrB e.2 e'.2
  | e :: r, e1 :: r', e', h, he => by
    rcases List.mem_cons.1 he with rfl | he
    · exact ⟨e, by simp, h.1, h.2.1⟩
    · obtain ⟨x, h1, h2⟩ := shrL_mem h.2.2 he
      exact ⟨x, by simp [h1], h2⟩
  | [], [], _, _, he => by cases he
  | [], _ :: _, _, h, _ => h.elim
  | _ :: _, [], _, h, _ => h.elim
structure Shr (H H' : Heap) : Prop where
  n : H'.n = H.n
  l : shrL H.ents H'.ents
theorem BlkR.shr {ρ : Place} {w : World} {l : Loc} {k k' : Blk} (r : BlkR ρ w l k) (h : shrB k k') : BlkR ρ w l k' := by
  rcases h with rfl | ⟨cs, G, rfl, rfl⟩
  · exact r
  · refine ⟨by have := r.1; simp at this; omega, r.2.1, fun i hi => ?_⟩
    have h2 := r.2.2 i (by simp; omega)
    rwa [List.getElem_append_left hi] at h2
theorem Sim.shr {ρ : Place} {H H' : Heap} {w : World} (s : Sim ρ H w) (h : Shr H H') : Sim ρ H' w where
  base := s.base
  below := s.below
  os := s.os
  tape := s.tape
  output := s.output
  dom := fun b hb => s.dom b (by rw [← h.n]; exact hb)
  nodup := by rw [shrL_ids h.l]; exact s.nodup
  live := fun e' he' => by
    obtain ⟨e, he, h1, h2⟩ := shrL_mem h.l he'
    obtain ⟨l, hl, hb, hlt, hr⟩ := s.live e he
    exact ⟨l, by rw [← h1]; exact hl, hb, hlt, hr.shr h2⟩
  inj := fun e1 e2 h1 h2 l1 l2 k1 k2 hcb => by
    obtain ⟨a1, ha1, b1, _⟩ := shrL_mem h.l h1
    obtain ⟨a2, ha2, b2, _⟩ := shrL_mem h.l h2
    rw [← b1, ← b2]
    exact s.inj a1 a2 ha1 ha2 l1 l2 (by rw [b1]; exact k1) (by rw [b2]; exact k2) hcb
theorem Step.shr {ρ : Place} {H H' : Heap} {w : World} (s : Sim ρ H w) (h : Shr H H') : Step ρ H w ρ H' w where
  le := Place.le_refl ρ
  size := Nat.le_refl _
  keeps := fun _ _ _ => rfl
  rows := fun e' he' l' hl' => by
    obtain ⟨e, he, h1, _⟩ := shrL_mem h.l he'
    exact .inl ⟨e, he, l', by rw [h1]; exact hl', rfl⟩
  num := Nat.le_of_eq h.n.symm
  low := fun _ _ => rfl
  cold := fun _ h => .inl h
theorem At.shr {b : Base} {s : St} {a : Act} {w : World} {H' : Heap} (h : At b s a w) (k : Shr s.H H') : At b (s.wH H') a w := by
  obtain ⟨ρ, h1, h2, h3, h4⟩ := h
  obtain ⟨ks, vs, ts, sz, H⟩ := s
  exact ⟨ρ, h1.step (Step.shr h2 k), h2.shr k, ⟨h3.1, h3.2⟩, h4.step (Step.shr h2 k)⟩
theorem WpSr.shr {C : Ctx} {n : Nat} {r : Option Nat} {c : Code} {s : St} {Q : Out → St → Prop} {H' : Heap} (k : Shr s.H H') (h : WpSr C n r c (s.wH H') Q) : WpSr C n r c s Q :=
  fun b a w hb ha K hK => h b a w hb (ha.shr k) K hK
def FitS (n : Nat) (σ : List (Nat × Nat)) (Φ : List (Nat × List AV)) (s s' : St) : Prop := ∃ H', Shr s.H H' ∧ Fit n σ Φ (s.wH H') s'
theorem Fit.s {n : Nat} {σ : List (Nat × Nat)} {Φ : List (Nat × List AV)} {s s' : St} (h : Fit n σ Φ s s') : FitS n σ Φ s s' := by
  obtain ⟨ks, vs, ts, sz, H⟩ := s
  exact ⟨H, ⟨rfl, shrL_refl _⟩, h⟩
section
variable {σ : List (Nat × Nat)} {Φ : List (Nat × List AV)} {ρ : Place} {H H1 : Heap} {w : World}
theorem FitH.step (f : FitH H.n σ Φ H H1) (sm : Sim ρ H w) : Step ρ H w (newPlace H.n σ Φ ρ w sm.below) H1 w where
  le := ⟨fun b l hb => by
    have hlt : b < H.n := by
      rcases Nat.lt_or_ge b H.n with h | h
      · exact h
      · rw [sm.dom b h] at hb; cases hb
    show (if b < H.n then ρ b else _) = _
    rw [if_pos hlt]; exact hb, fun k hk => ⟨.inl hk, sm.below k hk⟩, sm.os, sm.tape, sm.output⟩
  size := Nat.le_refl _
  keeps := fun _ _ _ => rfl
  rows := fun e he l hl => by
    obtain ⟨c, k, h1, h2, _⟩ := f.src e he
    rw [newPlace_at f h1] at hl
    exact .inl ⟨_, Heap.get_mem h2, l, hl, rfl⟩
  num := f.num
  low := fun b hb => by
    show (if b < H.n then ρ b else _) = _
    rw [if_pos hb]
  cold := fun k hk => by
    rcases hk with hk | ⟨c, cs, l, h1, h2, rfl⟩
    · exact .inl hk
    · obtain ⟨cs0, g1, _⟩ := f.frz _ h1
      exact .inr (.inl ⟨_, Heap.get_mem g1, l, h2, rfl⟩)
theorem CallAt.drop {C : Ctx} {f : FuncId} {args args' : List AV} {v : AV} {H' : Heap} (h : CallAt C f args' H1 v H') (fh : (H.ents.map (·.1)).Nodup → FitH H.n σ Φ H H1) (hf : fitL σ Φ args args') : CallAt C f args H v H' := by
  intro ρ w xs sm hx
  have f := fh sm.nodup
  have hx' : VRs (newPlace H.n σ Φ ρ w sm.below) args' xs := by
    obtain ⟨k1, k2⟩ := fitL_spec hf
    refine ⟨by rw [hx.1, k1], fun i h1 h2 => ?_⟩
    exact Fits.run (f.fits sm) sm _ (Nat.le_refl _) (hx.2 i (by omega) h2) (k2 i (by omega) h1)
  have st := f.step sm
  rcases h _ w xs (f.sim sm (Nat.le_refl _)) hx' with ⟨x, ρ', w', h0, h1, h2, h3⟩ | ⟨g, ys, h0, h1⟩
  · exact .inl ⟨x, ρ', w', h0, h1, h2, st.trans h3⟩
  · refine .inr ⟨g, ys, h0, h1.mono ?_⟩
    rintro e w' ⟨x, ρ', rfl, m1, m2, m3⟩
    exact ⟨x, ρ', rfl, m1, m2, st.trans m3⟩
end
structure RgA where
  C : Ctx
  call : CallE
  ops : Array Oper
  bef : Array Nat
  base : Nat
  H0 : Heap
open Classical in
section
variable {A : RgA} {i : Nat} {o : Oper} {r : List Oper} {s s' : St} {ps : List Pend} {v : AV} {H : Heap}
open Classical in
end
structure InvA (A : RgA) (d : DrawSt) (s : St) (ps : List Pend) : Prop where
  s_ : d.s = s
  H_ : s.H = A.H0
  ps : d.ps = ps
  hs : ∀ h, h ∈ d.hs → h.2 = A.H0
  rs : ∀ x, x ∈ d.rs → ∃ y, evalVal A.C A.call x.o { x.s with H := A.H0 } = some y ∧ y.1 = x.v
end
end Go.Proofs.YtdmgdkejbhoegaaGreatDoor
