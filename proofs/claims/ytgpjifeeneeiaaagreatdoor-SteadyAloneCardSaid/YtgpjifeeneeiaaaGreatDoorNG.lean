/- The order's walk: what it gives to each round. No condition. -/
import Derived.Test.YtgpjifeeneeiaaaGreatDoorNF
import Derived.Test.YtgpjifeeneeiaaaGreatDoorChecked
namespace Go.Proofs.YtgpjifeeneeiaaaGreatDoor
set_option linter.unusedSimpArgs false
set_option linter.unusedVariables false
open Go Go.RowKit
set_option maxRecDepth 100000
def keepTbl : List (List Nat) := [[], [], [], [0, 1, 2], [0, 1, 2, 4, 5, 19, 20, 21], [0, 1, 2, 4, 6, 13, 14, 15], [0, 1, 2, 3, 4], [0, 1, 2, 3, 4, 5, 26, 27, 28], [0, 1, 2, 3, 4], [0, 1, 2, 3, 4, 5], [0, 1, 2], [0, 1, 2], [0], [0, 1, 2, 3, 8], [0, 1, 3, 4], [0, 1, 3, 4, 5, 6, 7, 52], [0, 1, 4, 5], [0, 1, 4, 5], [0, 1, 2, 5, 6], [0, 1, 2, 3, 5, 8, 9, 10], [0, 1, 2, 3, 4, 5, 6, 7, 29, 30, 31, 60, 61], [0, 1, 2], [0, 1, 2, 3, 4, 6, 7], [0, 1, 2], [0, 1, 4, 5, 6, 7, 8, 9, 18, 19, 20, 34], [0, 1, 2, 3, 4, 5, 6], [0, 1, 2, 3, 4, 5], [0, 1, 2, 4, 5, 6, 7], [0], [0, 1, 2, 3, 4, 5, 8, 10, 11, 12, 13, 14], [0, 2, 4, 8, 9, 10], [0, 1, 2, 4], [0, 1, 2, 3, 6, 14, 15], [0, 1, 4, 5], [0, 1, 2, 6, 7, 8, 9], [0, 2], [0, 2], [0, 2, 3], [0, 1, 2, 4, 5], [0, 1, 2, 3, 4, 9], [0, 1, 2, 3, 4], [0, 2, 3, 4, 19, 36], [0, 1, 2, 4], [0, 1, 4, 5, 14, 15, 25, 49, 62, 73], [0, 1, 4, 5, 6, 7, 8], [0, 2], [0, 1, 4], [0, 2], [0, 1, 2, 4, 5, 6, 8, 10, 11, 12], [0, 1, 2], [0, 1, 2, 3], [0, 1, 2, 6, 7, 10, 32, 41, 42], [0, 1, 3, 4, 5, 6, 7, 21, 22, 23], [0, 1, 2, 3, 5, 6, 7, 11], [0, 1, 4, 5, 7], [0, 1, 2], [0, 1, 4, 5, 6], [0, 1, 2, 4, 5], [0, 1, 2, 3, 4, 5], [0, 1, 2, 4, 5, 6, 7], [0, 1, 3, 4, 5, 6, 7], [0, 1, 2, 3, 4], [0, 1, 4, 5], [0, 1, 2, 4, 5, 6], [0, 1, 2, 4], [0, 2], [0, 1, 2, 4], [0, 1, 2, 6, 7], [], [0, 1], [0, 1, 4, 5, 6], [0, 1, 4], [0, 2, 3, 4], [0, 1, 4], [0, 1, 4], [0, 1, 4], [0, 2], [0, 1, 4], [0, 2, 3, 4], [0, 1, 4], [0, 2], [0, 2], [0, 1, 4], [0, 2], [0, 1, 2], [0, 1, 2, 3], [0, 1, 4, 5], [0, 2, 3], [0, 1, 4], [0, 1, 3], [0, 2, 3, 4, 5, 8, 9, 10], [0, 1, 4], [0, 2, 3, 5, 7, 8, 9], [0, 1, 3, 4, 5, 6, 7, 8, 9], [0, 1, 4, 5], [0, 1, 2, 4, 5, 6, 7, 8, 9], [0, 1, 4], [0, 1, 2], [0, 2, 3, 4, 5, 6, 7, 8], [0, 1, 3, 4, 5], [0, 1, 4, 5, 6, 7], [0, 2, 3], [0, 1, 4], [0, 2, 3], [0, 1, 2, 4], [0, 1, 4], [0, 1, 4, 5, 7, 8], [0, 1], [0, 1, 3, 4], [0, 2], [0, 1, 4, 5, 7, 8], [0, 1, 2], [0, 1, 2], [0, 1, 4], [0, 1, 2], [0, 1, 4, 5, 6, 7, 8, 9, 10, 11, 12, 13], [0, 1, 4, 5, 7, 8], [0, 1, 4, 5, 6, 7, 8, 9, 10, 11, 14, 15, 47, 48, 49], [0, 2], [0, 2, 3, 4, 5, 6, 75], [0, 1, 4], [0, 1, 4, 5, 6], [0, 1, 3], [0, 1, 4, 5, 7, 8], [0, 1, 4], [0, 1, 2, 3, 4, 5, 6, 7, 8], [0, 1, 2], [0, 1, 2, 3, 4], [0, 1, 2, 6, 7], [0, 1, 4], [0, 2], [0, 2, 3], [0, 2, 3], [0, 1, 4, 5], [0, 2, 3, 4], [0, 2], [0, 1, 2, 6], [0, 2], [0, 1, 4, 5], [0, 2, 3, 4, 5], [0, 2, 3], [0, 1, 4, 5, 7, 8], [0, 1, 2, 3], [], [0, 2], [0, 1, 4, 5, 6, 7, 8, 9, 10], [0, 2], [0, 1, 4, 5, 6, 7, 8, 9, 10, 45, 46], [0, 1, 4], [0, 1, 4], [0, 2, 3, 4, 5], [0, 1, 4], [0, 1, 4], [0, 1, 4, 5, 6], [0, 1, 4, 5, 6], [], [0, 1, 2, 3, 4, 5, 6, 12, 13, 14, 15], [0, 1, 4, 5, 6], [0, 1, 4], [0, 1, 2, 6, 7], [0, 1, 4], [0, 1, 4], [0, 2, 3, 4, 5, 6], [0, 2, 3, 4, 5, 6, 7, 8], [0, 1, 4, 5, 6, 7, 8, 9, 10, 11, 12, 13, 14, 15, 16, 175, 176], [0, 2], [0, 1, 4], [0, 2, 3], [0, 1, 4], [0, 2, 3, 4, 5, 6], [0, 1, 4], [0, 2, 3, 4, 5, 6, 7, 8], [0, 2], [0, 2], [0, 2, 3, 4, 5, 6, 7, 8, 9, 10, 11, 12], [0, 2], [], [], [], [], [], [], [], [], [], [], [], [], [], [], [], [], [], [], [], [], []]
@[simp] theorem szT3 : sizeT Tryz.prog 3 = some 1 := rfl
@[simp] theorem agT3 : aggT Tryz.prog 3 = some false := rfl
@[simp] theorem byT3 : bytesT Tryz.prog 3 = some 8 := rfl
@[simp] theorem alT3 (H : Heap) : alV Tryz.prog H 3 = some (.ptr H.n 0, H.new (.cells [.int .i64 0])) := rfl
@[simp] theorem zeT3 : zeroOf Tryz.prog 3 = some (.int .i64 0) := rfl
attribute [simp] Tryz.underlying3
@[simp 500] theorem rvF3 (H : Heap) (cs : List AV) (o : Nat) : readVar Tryz.prog H 3 (.fptr cs o) = getL cs o := rfl
@[simp 500] theorem rvP3 (H : Heap) (b o : Nat) : readVar Tryz.prog H 3 (.ptr b o) = (H.get b).bind fun k => k.rd.bind fun cs => getL cs o := rfl
@[simp] theorem szT4 : sizeT Tryz.prog 4 = some 1 := rfl
@[simp] theorem agT4 : aggT Tryz.prog 4 = some false := rfl
@[simp] theorem byT4 : bytesT Tryz.prog 4 = some 1 := rfl
@[simp] theorem alT4 (H : Heap) : alV Tryz.prog H 4 = some (.ptr H.n 0, H.new (.cells [.bool false])) := rfl
@[simp] theorem zeT4 : zeroOf Tryz.prog 4 = some (.bool false) := rfl
attribute [simp] Tryz.underlying4
@[simp 500] theorem rvF4 (H : Heap) (cs : List AV) (o : Nat) : readVar Tryz.prog H 4 (.fptr cs o) = getL cs o := rfl
@[simp 500] theorem rvP4 (H : Heap) (b o : Nat) : readVar Tryz.prog H 4 (.ptr b o) = (H.get b).bind fun k => k.rd.bind fun cs => getL cs o := rfl
@[simp] theorem beq4 (a b : Bool) : binA Tryz.prog .eql 4 (.bool a) (.bool b) = some (.bool (a == b)) := rfl
@[simp] theorem bne4 (a b : Bool) : binA Tryz.prog .neq 4 (.bool a) (.bool b) = some (.bool !(a == b)) := rfl
@[simp] theorem szT5 : sizeT Tryz.prog 5 = some 1 := rfl
@[simp] theorem agT5 : aggT Tryz.prog 5 = some false := rfl
@[simp] theorem byT5 : bytesT Tryz.prog 5 = some 1 := rfl
@[simp] theorem alT5 (H : Heap) : alV Tryz.prog H 5 = some (.ptr H.n 0, H.new (.cells [.int .u8 0])) := rfl
@[simp] theorem zeT5 : zeroOf Tryz.prog 5 = some (.int .u8 0) := rfl
attribute [simp] Tryz.underlying5
@[simp 500] theorem rvF5 (H : Heap) (cs : List AV) (o : Nat) : readVar Tryz.prog H 5 (.fptr cs o) = getL cs o := rfl
@[simp 500] theorem rvP5 (H : Heap) (b o : Nat) : readVar Tryz.prog H 5 (.ptr b o) = (H.get b).bind fun k => k.rd.bind fun cs => getL cs o := rfl
@[simp] theorem szT9 : sizeT Tryz.prog 9 = some 1 := rfl
@[simp] theorem agT9 : aggT Tryz.prog 9 = some false := rfl
@[simp] theorem byT9 : bytesT Tryz.prog 9 = some 16 := rfl
@[simp] theorem alT9 (H : Heap) : alV Tryz.prog H 9 = some (.ptr H.n 0, H.new (.cells [.str []])) := rfl
@[simp] theorem zeT9 : zeroOf Tryz.prog 9 = some (.str []) := rfl
attribute [simp] Tryz.underlying9
@[simp 500] theorem rvF9 (H : Heap) (cs : List AV) (o : Nat) : readVar Tryz.prog H 9 (.fptr cs o) = getL cs o := rfl
@[simp 500] theorem rvP9 (H : Heap) (b o : Nat) : readVar Tryz.prog H 9 (.ptr b o) = (H.get b).bind fun k => k.rd.bind fun cs => getL cs o := rfl
@[simp] theorem szT22 : sizeT Tryz.prog 22 = some 1 := rfl
@[simp] theorem agT22 : aggT Tryz.prog 22 = some false := rfl
@[simp] theorem byT22 : bytesT Tryz.prog 22 = some 24 := rfl
@[simp] theorem alT22 (H : Heap) : alV Tryz.prog H 22 = some (.ptr H.n 0, H.new (.cells [.nilS])) := rfl
@[simp] theorem zeT22 : zeroOf Tryz.prog 22 = some (.nilS) := rfl
attribute [simp] Tryz.underlying22
@[simp 500] theorem rvF22 (H : Heap) (cs : List AV) (o : Nat) : readVar Tryz.prog H 22 (.fptr cs o) = getL cs o := rfl
@[simp 500] theorem rvP22 (H : Heap) (b o : Nat) : readVar Tryz.prog H 22 (.ptr b o) = (H.get b).bind fun k => k.rd.bind fun cs => getL cs o := rfl
@[simp] theorem slz22 (sz : Nat) (e : AV) (r : List AV) : binA Tryz.prog .eql 22 (.fslc sz (e :: r)) .nilS = some (.bool false) := rfl
@[simp] theorem sln22 (sz : Nat) (e : AV) (r : List AV) : binA Tryz.prog .neq 22 (.fslc sz (e :: r)) .nilS = some (.bool true) := rfl
@[simp] theorem slze22 : binA Tryz.prog .eql 22 .eslc .nilS = some (.bool false) := rfl
@[simp] theorem slzz22 : binA Tryz.prog .eql 22 .nilS .nilS = some (.bool true) := rfl
@[simp] theorem szT24 : sizeT Tryz.prog 24 = some 1 := rfl
@[simp] theorem agT24 : aggT Tryz.prog 24 = some true := rfl
@[simp] theorem byT24 : bytesT Tryz.prog 24 = some 24 := rfl
@[simp] theorem alT24 (H : Heap) : alV Tryz.prog H 24 = some (.ptr H.n 0, H.new (.cells [.nilS])) := rfl
@[simp] theorem zeT24 : zeroOf Tryz.prog 24 = some (.agg [.nilS]) := rfl
attribute [simp] Tryz.underlying24
@[simp 500] theorem rvF24 (H : Heap) (cs : List AV) (o : Nat) : readVar Tryz.prog H 24 (.fptr cs o) = (subL o 1 cs).bind fun cs => some (.agg cs) := rfl
@[simp 500] theorem rvP24 (H : Heap) (b o : Nat) : readVar Tryz.prog H 24 (.ptr b o) = (readCells H b o 1).bind fun cs => some (.agg cs) := rfl
@[simp] theorem fa24_0 (x : AV) : fieldAddrA Tryz.prog 24 x 0 = (match x with | .ptr b o => some (.ptr b (o + 0)) | .fptr cs o => some (.fptr cs (o + 0)) | _ => none) := rfl
@[simp] theorem fd24_0 (cs : List AV) : fieldA Tryz.prog 24 (.agg cs) 0 = getL cs 0 := rfl
@[simp] theorem szT28 : sizeT Tryz.prog 28 = some 1 := rfl
@[simp] theorem agT28 : aggT Tryz.prog 28 = some false := rfl
@[simp] theorem byT28 : bytesT Tryz.prog 28 = some 24 := rfl
@[simp] theorem alT28 (H : Heap) : alV Tryz.prog H 28 = some (.ptr H.n 0, H.new (.cells [.nilS])) := rfl
@[simp] theorem zeT28 : zeroOf Tryz.prog 28 = some (.nilS) := rfl
attribute [simp] Tryz.underlying28
@[simp 500] theorem rvF28 (H : Heap) (cs : List AV) (o : Nat) : readVar Tryz.prog H 28 (.fptr cs o) = getL cs o := rfl
@[simp 500] theorem rvP28 (H : Heap) (b o : Nat) : readVar Tryz.prog H 28 (.ptr b o) = (H.get b).bind fun k => k.rd.bind fun cs => getL cs o := rfl
@[simp] theorem slz28 (sz : Nat) (e : AV) (r : List AV) : binA Tryz.prog .eql 28 (.fslc sz (e :: r)) .nilS = some (.bool false) := rfl
@[simp] theorem sln28 (sz : Nat) (e : AV) (r : List AV) : binA Tryz.prog .neq 28 (.fslc sz (e :: r)) .nilS = some (.bool true) := rfl
@[simp] theorem slze28 : binA Tryz.prog .eql 28 .eslc .nilS = some (.bool false) := rfl
@[simp] theorem slzz28 : binA Tryz.prog .eql 28 .nilS .nilS = some (.bool true) := rfl
@[simp] theorem szT29 : sizeT Tryz.prog 29 = some 1 := rfl
@[simp] theorem agT29 : aggT Tryz.prog 29 = some false := rfl
@[simp] theorem byT29 : bytesT Tryz.prog 29 = some 24 := rfl
@[simp] theorem alT29 (H : Heap) : alV Tryz.prog H 29 = some (.ptr H.n 0, H.new (.cells [.nilS])) := rfl
@[simp] theorem zeT29 : zeroOf Tryz.prog 29 = some (.nilS) := rfl
attribute [simp] Tryz.underlying29
@[simp 500] theorem rvF29 (H : Heap) (cs : List AV) (o : Nat) : readVar Tryz.prog H 29 (.fptr cs o) = getL cs o := rfl
@[simp 500] theorem rvP29 (H : Heap) (b o : Nat) : readVar Tryz.prog H 29 (.ptr b o) = (H.get b).bind fun k => k.rd.bind fun cs => getL cs o := rfl
@[simp] theorem slz29 (sz : Nat) (e : AV) (r : List AV) : binA Tryz.prog .eql 29 (.fslc sz (e :: r)) .nilS = some (.bool false) := rfl
@[simp] theorem sln29 (sz : Nat) (e : AV) (r : List AV) : binA Tryz.prog .neq 29 (.fslc sz (e :: r)) .nilS = some (.bool true) := rfl
@[simp] theorem slze29 : binA Tryz.prog .eql 29 .eslc .nilS = some (.bool false) := rfl
@[simp] theorem slzz29 : binA Tryz.prog .eql 29 .nilS .nilS = some (.bool true) := rfl
@[simp] theorem szT31 : sizeT Tryz.prog 31 = some 7 := rfl
@[simp] theorem agT31 : aggT Tryz.prog 31 = some true := rfl
@[simp] theorem byT31 : bytesT Tryz.prog 31 = some 104 := rfl
@[simp] theorem alT31 (H : Heap) : alV Tryz.prog H 31 = some (.ptr H.n 0, H.new (.cells [.int .i64 0, .int .i64 0, .str [], .nilS, .str [], .int .i64 0, .nilS])) := rfl
@[simp] theorem zeT31 : zeroOf Tryz.prog 31 = some (.agg [.int .i64 0, .int .i64 0, .str [], .nilS, .str [], .int .i64 0, .nilS]) := rfl
attribute [simp] Tryz.underlying31
@[simp 500] theorem rvF31 (H : Heap) (cs : List AV) (o : Nat) : readVar Tryz.prog H 31 (.fptr cs o) = (subL o 7 cs).bind fun cs => some (.agg cs) := rfl
@[simp 500] theorem rvP31 (H : Heap) (b o : Nat) : readVar Tryz.prog H 31 (.ptr b o) = (readCells H b o 7).bind fun cs => some (.agg cs) := rfl
@[simp] theorem fa31_0 (x : AV) : fieldAddrA Tryz.prog 31 x 0 = (match x with | .ptr b o => some (.ptr b (o + 0)) | .fptr cs o => some (.fptr cs (o + 0)) | _ => none) := rfl
@[simp] theorem fd31_0 (cs : List AV) : fieldA Tryz.prog 31 (.agg cs) 0 = getL cs 0 := rfl
@[simp] theorem fa31_1 (x : AV) : fieldAddrA Tryz.prog 31 x 1 = (match x with | .ptr b o => some (.ptr b (o + 1)) | .fptr cs o => some (.fptr cs (o + 1)) | _ => none) := rfl
@[simp] theorem fd31_1 (cs : List AV) : fieldA Tryz.prog 31 (.agg cs) 1 = getL cs 1 := rfl
@[simp] theorem fa31_2 (x : AV) : fieldAddrA Tryz.prog 31 x 2 = (match x with | .ptr b o => some (.ptr b (o + 2)) | .fptr cs o => some (.fptr cs (o + 2)) | _ => none) := rfl
@[simp] theorem fd31_2 (cs : List AV) : fieldA Tryz.prog 31 (.agg cs) 2 = getL cs 2 := rfl
@[simp] theorem fa31_3 (x : AV) : fieldAddrA Tryz.prog 31 x 3 = (match x with | .ptr b o => some (.ptr b (o + 3)) | .fptr cs o => some (.fptr cs (o + 3)) | _ => none) := rfl
@[simp] theorem fd31_3 (cs : List AV) : fieldA Tryz.prog 31 (.agg cs) 3 = getL cs 3 := rfl
@[simp] theorem fa31_4 (x : AV) : fieldAddrA Tryz.prog 31 x 4 = (match x with | .ptr b o => some (.ptr b (o + 4)) | .fptr cs o => some (.fptr cs (o + 4)) | _ => none) := rfl
@[simp] theorem fd31_4 (cs : List AV) : fieldA Tryz.prog 31 (.agg cs) 4 = getL cs 4 := rfl
@[simp] theorem fa31_5 (x : AV) : fieldAddrA Tryz.prog 31 x 5 = (match x with | .ptr b o => some (.ptr b (o + 5)) | .fptr cs o => some (.fptr cs (o + 5)) | _ => none) := rfl
@[simp] theorem fd31_5 (cs : List AV) : fieldA Tryz.prog 31 (.agg cs) 5 = getL cs 5 := rfl
@[simp] theorem fa31_6 (x : AV) : fieldAddrA Tryz.prog 31 x 6 = (match x with | .ptr b o => some (.ptr b (o + 6)) | .fptr cs o => some (.fptr cs (o + 6)) | _ => none) := rfl
@[simp] theorem fd31_6 (cs : List AV) : fieldA Tryz.prog 31 (.agg cs) 6 = getL cs 6 := rfl
@[simp] theorem szT43 : sizeT Tryz.prog 43 = some 2 := rfl
@[simp] theorem agT43 : aggT Tryz.prog 43 = some true := rfl
@[simp] theorem byT43 : bytesT Tryz.prog 43 = some 32 := rfl
@[simp] theorem alT43 (H : Heap) : alV Tryz.prog H 43 = some (.ptr H.n 0, H.new (.cells [.str [], .str []])) := rfl
@[simp] theorem zeT43 : zeroOf Tryz.prog 43 = some (.agg [.str [], .str []]) := rfl
attribute [simp] Tryz.underlying43
@[simp 500] theorem rvF43 (H : Heap) (cs : List AV) (o : Nat) : readVar Tryz.prog H 43 (.fptr cs o) = (subL o 2 cs).bind fun cs => some (.agg cs) := rfl
@[simp 500] theorem rvP43 (H : Heap) (b o : Nat) : readVar Tryz.prog H 43 (.ptr b o) = (readCells H b o 2).bind fun cs => some (.agg cs) := rfl
@[simp] theorem fa43_0 (x : AV) : fieldAddrA Tryz.prog 43 x 0 = (match x with | .ptr b o => some (.ptr b (o + 0)) | .fptr cs o => some (.fptr cs (o + 0)) | _ => none) := rfl
@[simp] theorem fd43_0 (cs : List AV) : fieldA Tryz.prog 43 (.agg cs) 0 = getL cs 0 := rfl
@[simp] theorem fa43_1 (x : AV) : fieldAddrA Tryz.prog 43 x 1 = (match x with | .ptr b o => some (.ptr b (o + 1)) | .fptr cs o => some (.fptr cs (o + 1)) | _ => none) := rfl
@[simp] theorem fd43_1 (cs : List AV) : fieldA Tryz.prog 43 (.agg cs) 1 = getL cs 1 := rfl
@[simp] theorem szT51 : sizeT Tryz.prog 51 = some 1 := rfl
@[simp] theorem agT51 : aggT Tryz.prog 51 = some false := rfl
@[simp] theorem byT51 : bytesT Tryz.prog 51 = some 24 := rfl
@[simp] theorem alT51 (H : Heap) : alV Tryz.prog H 51 = some (.ptr H.n 0, H.new (.cells [.nilS])) := rfl
@[simp] theorem zeT51 : zeroOf Tryz.prog 51 = some (.nilS) := rfl
attribute [simp] Tryz.underlying51
@[simp 500] theorem rvF51 (H : Heap) (cs : List AV) (o : Nat) : readVar Tryz.prog H 51 (.fptr cs o) = getL cs o := rfl
@[simp 500] theorem rvP51 (H : Heap) (b o : Nat) : readVar Tryz.prog H 51 (.ptr b o) = (H.get b).bind fun k => k.rd.bind fun cs => getL cs o := rfl
@[simp] theorem slz51 (sz : Nat) (e : AV) (r : List AV) : binA Tryz.prog .eql 51 (.fslc sz (e :: r)) .nilS = some (.bool false) := rfl
@[simp] theorem sln51 (sz : Nat) (e : AV) (r : List AV) : binA Tryz.prog .neq 51 (.fslc sz (e :: r)) .nilS = some (.bool true) := rfl
@[simp] theorem slze51 : binA Tryz.prog .eql 51 .eslc .nilS = some (.bool false) := rfl
@[simp] theorem slzz51 : binA Tryz.prog .eql 51 .nilS .nilS = some (.bool true) := rfl
@[simp] theorem szT76 : sizeT Tryz.prog 76 = some 1 := rfl
@[simp] theorem agT76 : aggT Tryz.prog 76 = some false := rfl
@[simp] theorem byT76 : bytesT Tryz.prog 76 = some 8 := rfl
attribute [simp] Tryz.underlying76
@[simp 500] theorem rvF76 (H : Heap) (cs : List AV) (o : Nat) : readVar Tryz.prog H 76 (.fptr cs o) = getL cs o := rfl
@[simp 500] theorem rvP76 (H : Heap) (b o : Nat) : readVar Tryz.prog H 76 (.ptr b o) = (H.get b).bind fun k => k.rd.bind fun cs => getL cs o := rfl
@[simp] theorem szT78 : sizeT Tryz.prog 78 = some 4 := rfl
@[simp] theorem agT78 : aggT Tryz.prog 78 = some true := rfl
@[simp] theorem byT78 : bytesT Tryz.prog 78 = some 32 := rfl
attribute [simp] Tryz.underlying78
@[simp 500] theorem rvF78 (H : Heap) (cs : List AV) (o : Nat) : readVar Tryz.prog H 78 (.fptr cs o) = (subL o 4 cs).bind fun cs => some (.agg cs) := rfl
@[simp 500] theorem rvP78 (H : Heap) (b o : Nat) : readVar Tryz.prog H 78 (.ptr b o) = (readCells H b o 4).bind fun cs => some (.agg cs) := rfl
@[simp] theorem fa78_0 (x : AV) : fieldAddrA Tryz.prog 78 x 0 = (match x with | .ptr b o => some (.ptr b (o + 0)) | .fptr cs o => some (.fptr cs (o + 0)) | _ => none) := rfl
@[simp] theorem fd78_0 (cs : List AV) : fieldA Tryz.prog 78 (.agg cs) 0 = getL cs 0 := rfl
@[simp] theorem fa78_1 (x : AV) : fieldAddrA Tryz.prog 78 x 1 = (match x with | .ptr b o => some (.ptr b (o + 1)) | .fptr cs o => some (.fptr cs (o + 1)) | _ => none) := rfl
@[simp] theorem fd78_1 (cs : List AV) : fieldA Tryz.prog 78 (.agg cs) 1 = getL cs 1 := rfl
@[simp] theorem fa78_2 (x : AV) : fieldAddrA Tryz.prog 78 x 2 = (match x with | .ptr b o => some (.ptr b (o + 2)) | .fptr cs o => some (.fptr cs (o + 2)) | _ => none) := rfl
@[simp] theorem fd78_2 (cs : List AV) : fieldA Tryz.prog 78 (.agg cs) 2 = getL cs 2 := rfl
@[simp] theorem fa78_3 (x : AV) : fieldAddrA Tryz.prog 78 x 3 = (match x with | .ptr b o => some (.ptr b (o + 3)) | .fptr cs o => some (.fptr cs (o + 3)) | _ => none) := rfl
@[simp] theorem fd78_3 (cs : List AV) : fieldA Tryz.prog 78 (.agg cs) 3 = getL cs 3 := rfl
@[simp] theorem szT92 : sizeT Tryz.prog 92 = some 1 := rfl
@[simp] theorem agT92 : aggT Tryz.prog 92 = some false := rfl
@[simp] theorem byT92 : bytesT Tryz.prog 92 = some 24 := rfl
@[simp] theorem alT92 (H : Heap) : alV Tryz.prog H 92 = some (.ptr H.n 0, H.new (.cells [.nilS])) := rfl
@[simp] theorem zeT92 : zeroOf Tryz.prog 92 = some (.nilS) := rfl
attribute [simp] Tryz.underlying92
@[simp 500] theorem rvF92 (H : Heap) (cs : List AV) (o : Nat) : readVar Tryz.prog H 92 (.fptr cs o) = getL cs o := rfl
@[simp 500] theorem rvP92 (H : Heap) (b o : Nat) : readVar Tryz.prog H 92 (.ptr b o) = (H.get b).bind fun k => k.rd.bind fun cs => getL cs o := rfl
@[simp] theorem slz92 (sz : Nat) (e : AV) (r : List AV) : binA Tryz.prog .eql 92 (.fslc sz (e :: r)) .nilS = some (.bool false) := rfl
@[simp] theorem sln92 (sz : Nat) (e : AV) (r : List AV) : binA Tryz.prog .neq 92 (.fslc sz (e :: r)) .nilS = some (.bool true) := rfl
@[simp] theorem slze92 : binA Tryz.prog .eql 92 .eslc .nilS = some (.bool false) := rfl
@[simp] theorem slzz92 : binA Tryz.prog .eql 92 .nilS .nilS = some (.bool true) := rfl
@[simp] theorem szT105 : sizeT Tryz.prog 105 = some 2 := rfl
@[simp] theorem agT105 : aggT Tryz.prog 105 = some true := rfl
@[simp] theorem byT105 : bytesT Tryz.prog 105 = some 16 := rfl
@[simp] theorem alT105 (H : Heap) : alV Tryz.prog H 105 = some (.ptr H.n 0, H.new (.cells [.int .i64 0, .int .i64 0])) := rfl
@[simp] theorem zeT105 : zeroOf Tryz.prog 105 = some (.agg [.int .i64 0, .int .i64 0]) := rfl
attribute [simp] Tryz.underlying105
@[simp 500] theorem rvF105 (H : Heap) (cs : List AV) (o : Nat) : readVar Tryz.prog H 105 (.fptr cs o) = (subL o 2 cs).bind fun cs => some (.agg cs) := rfl
@[simp 500] theorem rvP105 (H : Heap) (b o : Nat) : readVar Tryz.prog H 105 (.ptr b o) = (readCells H b o 2).bind fun cs => some (.agg cs) := rfl
@[simp] theorem fa105_0 (x : AV) : fieldAddrA Tryz.prog 105 x 0 = (match x with | .ptr b o => some (.ptr b (o + 0)) | .fptr cs o => some (.fptr cs (o + 0)) | _ => none) := rfl
@[simp] theorem fd105_0 (cs : List AV) : fieldA Tryz.prog 105 (.agg cs) 0 = getL cs 0 := rfl
@[simp] theorem fa105_1 (x : AV) : fieldAddrA Tryz.prog 105 x 1 = (match x with | .ptr b o => some (.ptr b (o + 1)) | .fptr cs o => some (.fptr cs (o + 1)) | _ => none) := rfl
@[simp] theorem fd105_1 (cs : List AV) : fieldA Tryz.prog 105 (.agg cs) 1 = getL cs 1 := rfl
@[simp] theorem szT106 : sizeT Tryz.prog 106 = some 1 := rfl
@[simp] theorem agT106 : aggT Tryz.prog 106 = some false := rfl
@[simp] theorem byT106 : bytesT Tryz.prog 106 = some 24 := rfl
@[simp] theorem alT106 (H : Heap) : alV Tryz.prog H 106 = some (.ptr H.n 0, H.new (.cells [.nilS])) := rfl
@[simp] theorem zeT106 : zeroOf Tryz.prog 106 = some (.nilS) := rfl
attribute [simp] Tryz.underlying106
@[simp 500] theorem rvF106 (H : Heap) (cs : List AV) (o : Nat) : readVar Tryz.prog H 106 (.fptr cs o) = getL cs o := rfl
@[simp 500] theorem rvP106 (H : Heap) (b o : Nat) : readVar Tryz.prog H 106 (.ptr b o) = (H.get b).bind fun k => k.rd.bind fun cs => getL cs o := rfl
@[simp] theorem slz106 (sz : Nat) (e : AV) (r : List AV) : binA Tryz.prog .eql 106 (.fslc sz (e :: r)) .nilS = some (.bool false) := rfl
@[simp] theorem sln106 (sz : Nat) (e : AV) (r : List AV) : binA Tryz.prog .neq 106 (.fslc sz (e :: r)) .nilS = some (.bool true) := rfl
@[simp] theorem slze106 : binA Tryz.prog .eql 106 .eslc .nilS = some (.bool false) := rfl
@[simp] theorem slzz106 : binA Tryz.prog .eql 106 .nilS .nilS = some (.bool true) := rfl
attribute [simp] opndO_s
noncomputable def ctx (T : List (Entry Tryz.prog)) : Ctx := mkC Tryz.prog (fun f => (getL keepTbl f).getD []) T
@[simp] theorem mkC_P (T : List (Entry Tryz.prog)) : (ctx T).P = Tryz.prog := rfl
theorem mixed : Tryz.prog.follows .mixedOrders = true := by decide +kernel
theorem callOK {T : List (Entry Tryz.prog)} : CallOK (ctx T) (callL (ctx T)) := mkC_call _ _ T mixed
theorem callOKF {T : List (Entry Tryz.prog)} (l : List (Fact (ctx T))) : CallOK (ctx T) (callF l (callL (ctx T))) := callF_ok callOK l
abbrev Str := List UInt8
@[simp] theorem lenStr (H : Heap) (s : Str) : lenA Tryz.prog H 9 (.str s) = some s.length := by simp [lenA]
theorem ixStr {s : Str} {i : Nat} (h : i < s.length) : indexA Tryz.prog 9 (.str s) (.int .i64 (i : Int)) = some (.int .u8 (s[i]'h).toNat) := by
 simp [indexA, idx_nat h, getL_get h]
theorem slStr {H : Heap} {s : Str} {i : Nat} (h : i ≤ s.length) : sliceA Tryz.prog H 9 (.str s) (some (.int .i64 (i : Int))) none none = some (.str (s.drop i)) := by
 simp [sliceA, hiOK, bound, idx_nat (Nat.lt_succ_of_le h)]
@[simp] theorem eqStr (x y : Str) : binA Tryz.prog .eql 9 (.str x) (.str y) = some (.bool (decide (x = y))) := by simp [binA, strOp, eqB_eq]
@[simp] theorem neStr (x y : Str) : binA Tryz.prog .neq 9 (.str x) (.str y) = some (.bool !(decide (x = y))) := by simp [binA, strOp, eqB_eq]
abbrev aStrs (L : List Str) : AV := .fslc 1 (L.map .str)
theorem el_str (L : List Str) : Elems 1 (L.map AV.str) := .map (sz := 1) (f := AV.str) (by decide) (fun x => ⟨rfl, rfl, fun _ => rfl, fun h => absurd rfl h⟩) L
theorem atS {L : List Str} {i : Nat} (h : i < L.length) : indexAddrA Tryz.prog 92 (aStrs L) (.int .i64 (i : Int)) = some (.fptr [.str L[i]] 0) := by
 simp [indexAddrA, aStrs, idx_nat h, getL_map h, AV.cells]
theorem lenS {H : Heap} {L : List Str} : lenA Tryz.prog H 92 (aStrs L) = some L.length := by simp [lenA, aStrs]
theorem inj_str (x y : Str) (h : [AV.str x] = [AV.str y]) : x = y := by simp at h; exact h
theorem inj_str2 (x y : Str × Str) (h : [AV.str x.1, AV.str x.2] = [AV.str y.1, AV.str y.2]) : x = y := by
 simp at h; exact Prod.ext h.1 h.2
theorem inj_strs {L M : List Str} (h : aStrs L = aStrs M) : L = M := by
 simp only [aStrs, AV.fslc.injEq, true_and] at h
 exact List.map_inj_right (fun _ _ h => by simpa using h) |>.1 h
theorem inj_u8 (x y : UInt8) (h : [AV.int .u8 (x.toNat : Int)] = [AV.int .u8 (y.toNat : Int)]) : x = y := by
 simp only [List.cons.injEq, AV.int.injEq, true_and, and_true] at h
 exact UInt8.toNat_inj.1 (by omega)
def sp (c : UInt8) : Bool := decide ((c.toNat : Int) = 9) || (decide ((c.toNat : Int) = 10) || (decide ((c.toNat : Int) = 12) || (decide ((c.toNat : Int) = 13) || decide ((c.toNat : Int) = 32))))
def wstep (st : List Str × Str) (c : UInt8) : List Str × Str := if sp c = true then (if st.2 = [] then st.1 else st.1 ++ [st.2], []) else (st.1, st.2 ++ [c])
def wst (s : Str) : List Str × Str := s.foldl wstep ([], [])
def wfin (st : List Str × Str) : List Str := if st.2 = [] then st.1 else st.1 ++ [st.2]
def wsplit (s : Str) : List Str := wfin (wst s)
theorem wst_at {s : Str} {i : Nat} (h : i < s.length) : wst (s.take (i + 1)) = wstep (wst (s.take i)) s[i] := by
 rw [List.take_succ_eq_append_getElem h]
 simp only [wst, List.foldl_append, List.foldl_cons, List.foldl_nil]
theorem wst_len (s : Str) : (wst s).2.length ≤ s.length ∧ (wst s).1.length ≤ s.length := by
 have key : ∀ (s : Str) (st : List Str × Str), (s.foldl wstep st).2.length ≤ st.2.length + s.length ∧ (s.foldl wstep st).1.length ≤ st.1.length + s.length := by
  intro s
  induction s with
  | nil => intro st; simp
  | cons c r ih =>
   intro st
   have := ih (wstep st c)
   simp only [List.foldl_cons, List.length_cons]
   have h1 : (wstep st c).2.length ≤ st.2.length + 1 ∧ (wstep st c).1.length ≤ st.1.length + 1 := by
    unfold wstep
    split
    ·split <;> simp
    ·simp
   omega
 have := key s ([], [])
 simp only [wst]
 simp at this
 exact this
def inW (w x : Str) : Bool := decide (x ∈ wsplit w)
theorem wsplit_len (s : Str) : (wsplit s).length ≤ s.length + 1 := by
 have := wst_len s
 unfold wsplit wfin
 split <;> simp <;> omega
def isTrueE : Option (AV × Heap) → Bool
 | some (.bool b, _) => b
 | _ => false
def eqN : Str → Str → Bool
 | [], l => match l with | [] => true | _ :: _ => false
 | a :: x, l => match l with
  | [] => false
  | b :: y => match Nat.beq a.toNat b.toNat with
   | true => eqN x y
   | false => false
theorem eqN_eq : ∀ (x y : Str), eqN x y = decide (x = y)
 | [], [] => rfl
 | [], _ :: _ => by simp [eqN]
 | _ :: _, [] => by simp [eqN]
 | a :: x, b :: y => by
  unfold eqN
  simp only
  split
  ·rename_i h
   have := UInt8.toNat_inj.1 (Nat.eq_of_beq_eq_true h)
   subst this
   rw [eqN_eq]; simp
  ·rename_i h
   have : ¬ a = b := fun e => by subst e; rw [Nat.beq_refl] at h; cases h
   simp [this]
def leftOf : Str → Str → Option Str
 | [], x => some x
 | a :: c, x => match x with
  | [] => none
  | b :: x => if b = a then leftOf c x else none
abbrev At1 := Str × Str
def aAttr (a : At1) : AV := .agg [.str a.1, .str a.2]
def aAttrs (L : List At1) : AV := .fslc 2 (L.map aAttr)
@[simp] theorem cells_aAttr (a : At1) : (aAttr a).cells = [.str a.1, .str a.2] := rfl
@[simp] theorem pure_aAttr (a : At1) : pureV (aAttr a) = true := by simp [aAttr, pureV, pureL]
@[simp] theorem pure_aAttrs (L : List At1) : pureV (aAttrs L) = true := by simp [aAttrs, pureV]
@[simp] theorem ok_aAttr (a : At1) : okV (aAttr a) = true := by simp [aAttr, okV, pureV, pureL]
@[simp] theorem ok_aAttrs (L : List At1) : okV (aAttrs L) = true := by simp [aAttrs, okV, pureV]
theorem th_aAttrs (H : Heap) (L : List At1) : thawA H [2] (aAttrs L) = some (aAttrs L) := thawA_ok (by simp)
theorem inj_aAttr {a b : At1} (h : aAttr a = aAttr b) : a = b := by
 simp [aAttr] at h; exact Prod.ext h.1 h.2
theorem inj_aAttrs {L M : List At1} (h : aAttrs L = aAttrs M) : L = M := by
 simp only [aAttrs, AV.fslc.injEq, true_and] at h
 exact List.map_inj_right (fun _ _ => inj_aAttr) |>.1 h
theorem c142 {T : List (Entry Tryz.prog)} (a : At1) (nm : Str) : CallAt (ctx T) 142 [aAttr a, .fptr [.str nm] 0] ⟨0, []⟩ (.bool (decide (a.1 = nm))) ⟨0, []⟩ := by
 refine callAt_body (fn := Tryz.f142) (s0 := ⟨[0, 1, 2, 3], [aAttr a, .fptr [.str nm] 0, .undef, .undef], [], 8, ⟨0, [[]]⟩⟩) Tryz.func142 rfl rfl rfl ?_
 repeat apply wq
 refine wps_region callOK ?_
 simp [zS, aAttr]
 repeat apply wq
 refine wps_region callOK ?_
 simp [zS]
 repeat apply wq
 refine wps_ret ?_
 simp [retVal, Tryz.f142, oneOr]
 exact ⟨[], [], fitV_pure rfl, FitH.empty⟩
def idxFrom {α : Type} (p : α → Bool) : List α → Nat → Int
 | [], _ => -1
 | a :: r, k => if p a = true then k else idxFrom p r (k + 1)
theorem idxFrom_at {α : Type} {p : α → Bool} {L : List α} {i : Nat} (h : i < L.length) : idxFrom p (L.drop i) i = if p L[i] = true then (i : Int) else idxFrom p (L.drop (i + 1)) (i + 1) := by
 rw [List.drop_eq_getElem_cons h]; rfl
theorem atA {L : List At1} {i : Nat} (h : i < L.length) : indexAddrA Tryz.prog 28 (aAttrs L) (.int .i64 (i : Int)) = some (.fptr [.str L[i].1, .str L[i].2] 0) := by
 simp [indexAddrA, aAttrs, idx_nat h, getL_map h, aAttr, AV.cells]
theorem lenA1 {H : Heap} {L : List At1} : lenA Tryz.prog H 28 (aAttrs L) = some L.length := by simp [lenA, aAttrs]
theorem rdA1 {H : Heap} (a : At1) : readVar Tryz.prog H 43 (.fptr [.str a.1, .str a.2] 0) = some (aAttr a) := by simp [readVar, subL, takeL, aAttr]
theorem c141 {T : List (Entry Tryz.prog)} (L : List At1) (hl : L.length ≤ 1000) (clo : FuncId) (cap : List AV) (hc : pureL cap = true) (p : At1 → Bool) (hp : ∀ a, CallAt (ctx T) clo (aAttr a :: cap) ⟨0, []⟩ (.bool (p a)) ⟨0, []⟩) :
  CallAt (ctx T) 141 [aAttrs L, .func (.func clo) [] cap] ⟨0, []⟩ (.int .i64 (idxFrom p L 0)) ⟨0, []⟩ := by
 refine callAt_body (fn := Tryz.f141) (s0 := ⟨[0, 1, 4, 5, 7, 8], [aAttrs L, .func (.func clo) [] cap, .undef, .undef, .undef, .undef], [], 19, ⟨0, [[]]⟩⟩) Tryz.func141 rfl rfl rfl ?_
 repeat apply wq
 refine wps_region callOK ?_
 simp [zS]
 repeat apply wq
 refine wps_region callOK ?_
 simp [zS, lenA1]
 repeat apply wq
 refine wps_block (wps_loop' (fun i : Nat => (⟨[0, 1, 4, 5, 7, 8], [aAttrs L, .func (.func clo) [] cap, .undef, .undef, .int .i64 L.length, .int .i64 i], [], 19, ⟨0, [[]]⟩⟩ : St))
  (fun i => i ≤ L.length ∧ idxFrom p L 0 = idxFrom p (L.drop i) i) (fun i => L.length - i) [] [] 0 ⟨Nat.zero_le _, rfl⟩ ⟨rfl, rfl, rfl, by simp [fitL, fitV, pureV, pureL, hc], FitH.nothing⟩ ?_)
 rintro i ⟨hi, hx⟩ B hB
 repeat apply wq
 refine wps_region callOK ?_
 simp [zS]
 repeat apply wq
 refine wps_cond rfl (fun h => ?_) fun h => ?_
 ·simp at h
  repeat apply wq
  refine wps_skip ?_
  simp
  repeat apply wq
  refine wps_block ?_
  repeat apply wq
  refine wps_region callOK ?_
  simp [zS]
  repeat apply wq
  refine wps_region (callF_ok callOK [⟨clo, [aAttr L[i]] ++ cap, ⟨0, [[]]⟩, .bool (p L[i]), ⟨0, [[]]⟩, (hp L[i]).lift (by simp [pureL, hc]) _⟩]) ?_
  simp [zS, atA h, callF, rdA1]
  repeat apply wq
  refine wps_cond rfl (fun h2 => ?_) fun h2 => ?_
  ·repeat apply wq
   refine wps_region callOK ?_
   simp [zS]
   repeat apply wq
   refine wps_ret ?_
   simp [retVal, Tryz.f141, oneOr]
   refine ⟨[], [], ?_, FitH.empty⟩
   rw [hx, idxFrom_at h, if_pos h2]
   exact fitV_pure rfl
  ·repeat apply wq
   refine wps_skip ?_
   simp
   repeat apply wq
   refine wps_region callOK ?_
   simp [zS, add_one (show i ≤ 1000000000 by omega)]
   refine hB _ (i + 1) (by omega) ⟨by omega, ?_⟩ ⟨[], [], ⟨rfl, rfl, rfl, by simp [fitL, fitV, pureV, pureL, hc], FitH.nothing⟩⟩
   rw [hx, idxFrom_at h, h2]
   simp
 ·simp at h
  repeat apply wq
  refine wps_exit ?_
  simp
  repeat apply wq
  refine wps_region callOK ?_
  simp [zS]
  repeat apply wq
  refine wps_ret ?_
  simp [retVal, Tryz.f141, oneOr]
  refine ⟨[], [], ?_, FitH.empty⟩
  rw [hx, List.drop_eq_nil_of_le (by omega)]
  exact fitV_pure rfl
def placeL (L : List At1) (nm : Str) : Int := idxFrom (fun a => decide (a.1 = nm)) L 0
theorem c108 {T : List (Entry Tryz.prog)} (L : List At1) (nm : Str) (hl : L.length ≤ 1000) : CallAt (ctx T) 108 [aAttrs L, .str nm] ⟨0, []⟩ (.int .i64 (placeL L nm)) ⟨0, []⟩ := by
 refine callAt_body (fn := Tryz.f108) (s0 := ⟨[0, 1, 3, 4], [aAttrs L, .str nm, .undef, .undef], [], 8, ⟨0, [[]]⟩⟩) Tryz.func108 rfl rfl rfl ?_
 repeat apply wq
 refine wps_region callOK ?_
 simp [zS]
 repeat apply wq
 refine wps_region (callOKF [⟨141, [aAttrs L, .func (.func 142) [] [.ptr 0 0]], ⟨1, [[(0, .cells [.str nm])]]⟩, .int .i64 (placeL L nm), _,
  CallAt.thaw (c141 L hl 142 [.fptr [.str nm] 0] rfl (fun a => decide (a.1 = nm)) fun a => c142 a nm) rfl [] (by simp [thawA_ok, thawA_clo (H := ⟨1, [[(0, .cells [.str nm])]]⟩) (b := 0) (cs := [.str nm]) rfl rfl])⟩]) ?_
 simp [zS, callF]
 repeat apply wq
 refine wps_ret ?_
 simp [retVal, Tryz.f108, oneOr]
 exact ends_pure rfl rfl
noncomputable def e108 : Entry Tryz.prog := mkE 108 [[2], []] (fun x : List At1 × Str => [aAttrs x.1, .str x.2]) (fun x => x.1.length ≤ 1000) (fun x => .int .i64 (placeL x.1 x.2)) fun x hx => c108 (T := []) x.1 x.2 hx
theorem k108 {T : List (Entry Tryz.prog)} (hT : findE 108 T = some e108.g) {L : List At1} (nm : Str) (hl : L.length ≤ 1000) {H : Heap} {l : AV} (h : thawA H [2] l = some (aAttrs L)) : callL (ctx T) (.fn 108) [l, .str nm] H = some (.int .i64 (placeL L nm), H) :=
 mkE_scalar hT (fun x y h => by simp at h; exact Prod.ext (inj_aAttrs h.1) h.2) (L, nm) hl rfl (by simp [h])
def getAt (nm : Str) : List At1 → Option Str
 | [] => none
 | a :: r => if a.1 = nm then some a.2 else getAt nm r
def gotA (x : Option Str) : AV := .tup [.str (x.getD []), .bool x.isSome]
theorem idxFrom_get {nm : Str} : ∀ (L : List At1) (k : Nat), (idxFrom (fun a => decide (a.1 = nm)) L k = -1 ∧ getAt nm L = none) ∨ ∃ i, ∃ h : i < L.length, idxFrom (fun a => decide (a.1 = nm)) L k = (k + i : Nat) ∧ getAt nm L = some L[i].2 ∧ L[i].1 = nm
 | [], k => .inl ⟨rfl, rfl⟩
 | a :: r, k => by
  by_cases hq : a.1 = nm
  ·exact .inr ⟨0, by simp, by simp [idxFrom, hq], by simp [getAt, hq], hq⟩
  ·rcases idxFrom_get (nm := nm) r (k + 1) with ⟨h1, h2⟩ | ⟨i, h, h1, h2, h3⟩
   ·exact .inl ⟨by simp [idxFrom, hq, h1], by simp [getAt, hq, h2]⟩
   ·exact .inr ⟨i + 1, by simpa using h, by simp [idxFrom, hq, h1]; omega, by simp [getAt, hq, h2], h3⟩
theorem c70 {T : List (Entry Tryz.prog)} (hT : findE 108 T = some e108.g) (L : List At1) (nm : Str) (hl : L.length ≤ 1000) : CallAt (ctx T) 70 [aAttrs L, .str nm] ⟨0, []⟩ (gotA (getAt nm L)) ⟨0, []⟩ := by
 refine callAt_body (fn := Tryz.f70) (s0 := ⟨[0, 1, 4, 5, 6], [aAttrs L, .str nm, .undef, .undef, .undef], [], 17, ⟨0, [[]]⟩⟩) Tryz.func70 rfl rfl rfl ?_
 repeat apply wq
 refine wps_region callOK ?_
 simp [zS]
 repeat apply wq
 refine wps_region callOK ?_
 simp [zS, k108 hT nm hl (th_aAttrs _ L)]
 repeat apply wq
 refine wps_region callOK ?_
 simp [zS]
 repeat apply wq
 refine wps_cond rfl (fun h => ?_) fun h => ?_
 ·rcases idxFrom_get (nm := nm) L 0 with ⟨h1, h2⟩ | ⟨i, hi, h1, h2, h3⟩
  ·simp [placeL, h1] at h
  ·have hp : placeL L nm = (i : Int) := by simp [placeL, h1]
   simp only [hp]
   repeat apply wq
   refine wps_region callOK ?_
   simp [zS, atA hi]
   repeat apply wq
   refine wps_ret ?_
   simp [retVal, Tryz.f70, oneOr]
   exact ends_pure rfl (by simp [gotA, h2])
 ·rcases idxFrom_get (nm := nm) L 0 with ⟨h1, h2⟩ | ⟨i, hi, h1, h2, h3⟩
  ·repeat apply wq
   refine wps_skip ?_
   simp
   repeat apply wq
   refine wps_region callOK ?_
   simp [zS]
   repeat apply wq
   refine wps_ret ?_
   simp [retVal, Tryz.f70, oneOr]
   exact ends_pure rfl (by simp [gotA, h2])
  ·simp [placeL, h1] at h
noncomputable def e70 : Entry Tryz.prog := mkE 70 [[2], []] (fun x : List At1 × Str => [aAttrs x.1, .str x.2]) (fun x => x.1.length ≤ 1000) (fun x => gotA (getAt x.2 x.1)) fun x hx => c70 (T := [e108]) rfl x.1 x.2 hx
theorem injS (x y : List At1 × Str) (h : [aAttrs x.1, .str x.2] = [aAttrs y.1, .str y.2]) : x = y := by
 simp at h; exact Prod.ext (inj_aAttrs h.1) h.2
theorem k70 {T : List (Entry Tryz.prog)} (hT : findE 70 T = some e70.g) {L : List At1} (nm : Str) (hl : L.length ≤ 1000) {H : Heap} {l : AV} (h : thawA H [2] l = some (aAttrs L)) : callL (ctx T) (.fn 70) [l, .str nm] H = some (gotA (getAt nm L), H) :=
 mkE_scalar hT injS (L, nm) hl rfl (by simp [h])
structure Nd where
 kind : Int
 space : Int
 name : Str
 attrs : List At1
 data : Str
 up : Int
 kids : List Int
def aInt (i : Int) : AV := .int .i64 i
abbrev aInts (L : List Int) : AV := .fslc 1 (L.map aInt)
def Nd.cs (n : Nd) : List AV := [aInt n.kind, aInt n.space, .str n.name, aAttrs n.attrs, .str n.data, aInt n.up, aInts n.kids]
def aNode (n : Nd) : AV := .agg n.cs
abbrev Tr := List Nd
abbrev aNodes (t : Tr) : AV := .fslc 7 (t.map aNode)
def aTree (t : Tr) : AV := .agg [aNodes t]
@[simp] theorem pure_aInts (L : List Int) : pureV (aInts L) = true := by simp [aInts, pureV]
@[simp] theorem pure_aNode (n : Nd) : pureV (aNode n) = true := by simp [aNode, Nd.cs, aInt, pureV, pureL]
@[simp] theorem pure_aNodes (t : Tr) : pureV (aNodes t) = true := by simp [aNodes, pureV]
@[simp] theorem pure_aTree (t : Tr) : pureV (aTree t) = true := by simp [aTree, pureV, pureL]
@[simp] theorem cells_aNode (n : Nd) : (aNode n).cells = n.cs := rfl
@[simp] theorem cells_aTree (t : Tr) : (aTree t).cells = [aNodes t] := rfl
@[simp] theorem cells_aInt (i : Int) : (aInt i).cells = [aInt i] := rfl
@[simp] theorem ok_aNode (n : Nd) : okV (aNode n) = true := by simp [aNode, Nd.cs, aInt, aAttrs, aInts, okV, pureV, pureL]
theorem th_aNode (H : Heap) (n : Nd) : thawA H [] (aNode n) = some (aNode n) := thawA_ok (by simp)
theorem inj_aInts {L M : List Int} (h : aInts L = aInts M) : L = M := by
 simp only [aInts, AV.fslc.injEq, true_and] at h
 exact List.map_inj_right (fun x y e => by simp [aInt] at e; exact e) |>.1 h
theorem inj_aNode {a b : Nd} (h : aNode a = aNode b) : a = b := by
 obtain ⟨k, s, n, at_, d, u, ks⟩ := a
 obtain ⟨k', s', n', at', d', u', ks'⟩ := b
 simp [aNode, Nd.cs, aInt] at h
 obtain ⟨h1, h2, h3, h4, h5, h6, h7⟩ := h
 have h7' : aInts ks = aInts ks' := by show AV.fslc 1 _ = AV.fslc 1 _; rw [h7]
 simp [h1, h2, h3, inj_aAttrs h4, h5, h6, inj_aInts h7']
theorem inj_aTree {a b : Tr} (h : aTree a = aTree b) : a = b := by
 simp [aTree, aNodes] at h
 exact List.map_inj_right (fun x y e => inj_aNode e) |>.1 h
end Go.Proofs.YtgpjifeeneeiaaaGreatDoor
namespace Go.Proofs.YtgpjifeeneeiaaaGreatDoor
set_option linter.unusedSimpArgs false
set_option linter.unusedVariables false
structure Wk where
 l : List Int
 inn : List Int
 out : List Int
 c : Int
def negs (I : List Int) : Nat := I.countP fun x => decide (x < 0)
def kl (n : Nat) (g : Nat → Wk → Wk) : List Int → Wk → Wk
 | [], w => w
 | k :: r, w => if 0 ≤ k ∧ k < (n : Int) ∧ w.inn.getD k.toNat 0 < 0 then kl n g r (g k.toNat w) else kl n g r w
def into (i : Nat) (w : Wk) : Wk := ⟨w.l ++ [(i : Int)], w.inn.set i w.c, w.out, w.c + 1⟩
def outof (i : Nat) (w : Wk) : Wk := ⟨w.l, w.inn, w.out.set i w.c, w.c + 1⟩
def vis (n : Nat) (ks : Nat → List Int) : Nat → Nat → Wk → Wk
 | 0, _, w => w
 | f + 1, i, w => outof i (kl n (vis n ks f) (ks i) (into i w))
structure WOK (n K : Nat) (w : Wk) : Prop where
 li : w.inn.length = n
 lo : w.out.length = n
 c0 : 0 ≤ w.c
 cb : w.c + 2 * (negs w.inn : Int) ≤ 2 * K
 lb : w.l.length + negs w.inn ≤ K
theorem negs_set {I : List Int} {i : Nat} {c : Int} (h : i < I.length) (hi : I.getD i 0 < 0) (hc : 0 ≤ c) : negs (I.set i c) + 1 = negs I := by
 induction I generalizing i with
 | nil => simp at h
 | cons x r ih =>
  cases i with
  | zero =>
   have hx : x < 0 := by simpa using hi
   have hc' : ¬ c < 0 := by omega
   simp [negs, List.countP_cons, hx, hc']
  | succ j =>
   have := ih (i := j) (by simpa using h) (by simpa using hi)
   simp only [negs, List.set_cons_succ, List.countP_cons] at this ⊢
   omega
theorem WOK.into {n K i : Nat} {w : Wk} (h : WOK n K w) (hi : i < n) (hn : w.inn.getD i 0 < 0) : WOK n K (into i w) ∧ negs (into i w).inn + 1 = negs w.inn ∧ (into i w).c + 2 * (negs (into i w).inn : Int) + 1 ≤ 2 * K := by
 have e := negs_set (I := w.inn) (by rw [h.li]; exact hi) hn h.c0
 have h1 := h.cb
 have h2 := h.lb
 have h3 := h.c0
 refine ⟨⟨by simp [Go.Proofs.YtgpjifeeneeiaaaGreatDoor.into, h.li], h.lo, ?_, ?_, ?_⟩, e, ?_⟩ <;> simp only [Go.Proofs.YtgpjifeeneeiaaaGreatDoor.into, List.length_append, List.length_singleton] <;> omega
def Low (n K : Nat) (b : Int) (w : Wk) : Prop := WOK n K w ∧ w.c + 2 * (negs w.inn : Int) + b ≤ 2 * K
theorem kl_ok {n K f : Nat} {g : Nat → Wk → Wk} (hg : ∀ b i w, 0 ≤ b → Low n K b w → i < n → w.inn.getD i 0 < 0 → negs w.inn ≤ f → Low n K b (g i w) ∧ negs (g i w).inn ≤ negs w.inn) (b : Int) (hb : 0 ≤ b) :
  ∀ (ks : List Int) (w : Wk), Low n K b w → negs w.inn ≤ f → Low n K b (kl n g ks w) ∧ negs (kl n g ks w).inn ≤ negs w.inn
 | [], w, h, _ => ⟨h, Nat.le_refl _⟩
 | k :: r, w, h, hf => by
  unfold kl
  split
  ·rename_i hk
   obtain ⟨h1, h2⟩ := hg b k.toNat w hb h (by omega) hk.2.2 hf
   obtain ⟨h3, h4⟩ := kl_ok hg b hb r _ h1 (by omega)
   exact ⟨h3, by omega⟩
  ·exact kl_ok hg b hb r w h hf
theorem vis_ok {n K : Nat} {ks : Nat → List Int} : ∀ (f : Nat) (b : Int) (i : Nat) (w : Wk), 0 ≤ b → Low n K b w → i < n → w.inn.getD i 0 < 0 → negs w.inn ≤ f → Low n K b (vis n ks f i w) ∧ negs (vis n ks f i w).inn < negs w.inn
 | 0, b, i, w, hb, h, hi, hn, hf => by
  have e := negs_set (I := w.inn) (by rw [h.1.li]; exact hi) hn h.1.c0
  omega
 | f + 1, b, i, w, hb, h, hi, hn, hf => by
  obtain ⟨h1, h2, h3⟩ := h.1.into hi hn
  have hl : Low n K (b + 1) (into i w) := ⟨h1, by have := h.2; simp only [into] at h2 ⊢; omega⟩
  obtain ⟨h4, h5⟩ := kl_ok (n := n) (K := K) (f := f) (g := vis n ks f) (fun b' i' w' hb' h' hi' hn' hf' => let ⟨x, y⟩ := vis_ok f b' i' w' hb' h' hi' hn' hf'; ⟨x, Nat.le_of_lt y⟩) (b + 1) (by omega) (ks i) (into i w) hl (by omega)
  unfold vis
  refine ⟨⟨⟨h4.1.li, by simp [outof, h4.1.lo], ?_, ?_, ?_⟩, ?_⟩, ?_⟩
  ·have := h4.1.c0; simp only [outof]; omega
  ·have := h4.2; simp only [outof]; omega
  ·exact h4.1.lb
  ·have := h4.2; simp only [outof]; omega
  ·simp only [outof]; omega
abbrev Cfg := List (Nat × Nat) × List Bool × List Int
def stp (n : Nat) (ks : Nat → List Int) : Cfg → Option Cfg
 | ([], _, _) => none
 | ((i, j) :: p, s, a) => match (ks i)[j]? with
  | none => some (p, s, a)
  | some k => if 0 ≤ k ∧ k < (n : Int) ∧ s.getD k.toNat true = false then some ((k.toNat, 0) :: (i, j + 1) :: p, s.set k.toNat true, a ++ [k]) else some ((i, j + 1) :: p, s, a)
inductive Reach (n : Nat) (ks : Nat → List Int) : Cfg → Cfg → Prop where
 | refl (c : Cfg) : Reach n ks c c
 | step {c d e : Cfg} (h : stp n ks c = some d) (r : Reach n ks d e) : Reach n ks c e
theorem Reach.trans {n : Nat} {ks : Nat → List Int} {c d e : Cfg} (h : Reach n ks c d) (r : Reach n ks d e) : Reach n ks c e := by
 induction h with
 | refl => exact r
 | step h _ ih => exact .step h (ih r)
theorem Reach.one {n : Nat} {ks : Nat → List Int} {c d e : Cfg} (r : Reach n ks c d) (h : stp n ks d = some e) : Reach n ks c e := r.trans (.step h (.refl _))
theorem Reach.det {n : Nat} {ks : Nat → List Int} {c a b : Cfg} (h : Reach n ks c a) (r : Reach n ks c b) (ha : stp n ks a = none) (hb : stp n ks b = none) : a = b := by
 induction h with
 | refl =>
  cases r with
  | refl => rfl
  | step h2 r2 => rw [ha] at h2; cases h2
 | step h _ ih =>
  cases r with
  | refl => rw [hb] at h; cases h
  | step h2 r2 => rw [h] at h2; cases h2; exact ih r2 ha
def seenOf (I : List Int) : List Bool := I.map fun x => decide (0 ≤ x)
theorem seen_get {I : List Int} {i : Nat} (h : i < I.length) : ((seenOf I).getD i true = false) ↔ I.getD i 0 < 0 := by
 simp only [seenOf, List.getD_eq_getElem?_getD, List.getElem?_map, List.getElem?_eq_getElem h, Option.map_some, Option.getD_some, decide_eq_false_iff_not]
 omega
theorem seen_set {I : List Int} {i : Nat} {c : Int} (hc : 0 ≤ c) : seenOf (I.set i c) = (seenOf I).set i true := by
 simp [seenOf, List.map_set, hc]
theorem reach_kl {n K f i : Nat} {ks : Nat → List Int} {p : List (Nat × Nat)} (hg : ∀ p i w, Low n K 0 w → i < n → w.inn.getD i 0 < 0 → negs w.inn ≤ f → Reach n ks ((i, 0) :: p, (seenOf w.inn).set i true, w.l ++ [(i : Int)]) (p, seenOf (vis n ks f i w).inn, (vis n ks f i w).l)) :
  ∀ (r : List Int) (j : Nat) (w : Wk), j ≤ (ks i).length → (ks i).drop j = r → Low n K 0 w → negs w.inn ≤ f → Reach n ks ((i, j) :: p, seenOf w.inn, w.l) ((i, (ks i).length) :: p, seenOf (kl n (vis n ks f) r w).inn, (kl n (vis n ks f) r w).l)
 | [], j, w, hj, hr, h, hf => by
  have : j = (ks i).length := by have := congrArg List.length hr; simp at this; omega
  subst this
  exact .refl _
 | k :: r, j, w, hj, hr, h, hf => by
  have hlt : j < (ks i).length := by have := congrArg List.length hr; simp at this; omega
  have hk : (ks i)[j]? = some k := by
   have := List.drop_eq_getElem_cons hlt
   rw [this] at hr
   simp only [List.cons.injEq] at hr
   rw [List.getElem?_eq_getElem hlt, hr.1]
  have hr' : (ks i).drop (j + 1) = r := by
   have := List.drop_eq_getElem_cons hlt
   rw [this] at hr
   simp only [List.cons.injEq] at hr
   exact hr.2
  unfold kl
  split
  ·rename_i hc
   have hkn : k.toNat < n := by omega
   have e : ((k.toNat : Nat) : Int) = k := by omega
   have hs : (seenOf w.inn).getD k.toNat true = false := (seen_get (by rw [h.1.li]; exact hkn)).2 hc.2.2
   obtain ⟨h1, h2⟩ := vis_ok (ks := ks) f 0 k.toNat w (Int.le_refl 0) h hkn hc.2.2 hf
   have r1 := hg ((i, j + 1) :: p) k.toNat w h hkn hc.2.2 hf
   rw [e] at r1
   refine .step (d := ((k.toNat, 0) :: (i, j + 1) :: p, (seenOf w.inn).set k.toNat true, w.l ++ [k])) ?_ (r1.trans (reach_kl hg r (j + 1) _ (by omega) hr' h1 (by omega)))
   simp only [stp, hk]
   rw [if_pos ⟨hc.1, hc.2.1, hs⟩]
  ·rename_i hc
   refine .step (d := ((i, j + 1) :: p, seenOf w.inn, w.l)) ?_ (reach_kl hg r (j + 1) w (by omega) hr' h hf)
   simp only [stp, hk]
   rw [if_neg]
   intro hx
   exact hc ⟨hx.1, hx.2.1, (seen_get (by rw [h.1.li]; omega)).1 hx.2.2⟩
theorem reach_vis {n K : Nat} {ks : Nat → List Int} : ∀ (f : Nat) (p : List (Nat × Nat)) (i : Nat) (w : Wk), Low n K 0 w → i < n → w.inn.getD i 0 < 0 → negs w.inn ≤ f →
  Reach n ks ((i, 0) :: p, (seenOf w.inn).set i true, w.l ++ [(i : Int)]) (p, seenOf (vis n ks f i w).inn, (vis n ks f i w).l)
 | 0, p, i, w, h, hi, hn, hf => by
  have e := negs_set (I := w.inn) (by rw [h.1.li]; exact hi) hn h.1.c0
  omega
 | f + 1, p, i, w, h, hi, hn, hf => by
  obtain ⟨h1, h2, h3⟩ := h.1.into hi hn
  have hl : Low n K 0 (into i w) := ⟨h1, by have := h.2; simp only [into] at h2 ⊢; omega⟩
  have r1 := reach_kl (p := p) (i := i) (fun p i w a b c d => reach_vis (K := K) f p i w a b c d) (ks i) 0 (into i w) (Nat.zero_le _) rfl hl (by omega)
  simp only [into, seen_set h.1.c0] at r1
  refine r1.one ?_
  simp [stp, vis, outof, into]
def w0 (n : Nat) : Wk := ⟨[], List.replicate n (-1), List.replicate n (-1), 0⟩
def orderOf (n : Nat) (ks : Nat → List Int) : List Int := if n = 0 then [] else (vis n ks n 0 (w0 n)).l
theorem negs_rep (n : Nat) : negs (List.replicate n (-1)) = n := by simp [negs, List.countP_replicate]
theorem w0_ok (n : Nat) : Low n n 0 (w0 n) := by
 refine ⟨⟨by simp [w0], by simp [w0], by simp [w0], ?_, ?_⟩, ?_⟩ <;> simp [w0, negs_rep]
theorem seen_w0 (n : Nat) : seenOf (w0 n).inn = List.replicate n false := by simp [seenOf, w0]
theorem reach_order {n : Nat} {ks : Nat → List Int} (hn : 0 < n) : ∃ s, Reach n ks ([(0, 0)], (List.replicate n false).set 0 true, [0]) ([], s, orderOf n ks) := by
 have h := reach_vis (K := n) (ks := ks) n [] 0 (w0 n) (w0_ok n) hn (by simp [w0, List.getD_eq_getElem?_getD, hn]) (by simp [w0, negs_rep])
 rw [seen_w0] at h
 refine ⟨seenOf (vis n ks n 0 (w0 n)).inn, ?_⟩
 simpa [orderOf, Nat.ne_of_gt hn, w0] using h
theorem order_end {n : Nat} {ks : Nat → List Int} (hn : 0 < n) {s : List Bool} {a : List Int} (h : Reach n ks ([(0, 0)], (List.replicate n false).set 0 true, [0]) ([], s, a)) : a = orderOf n ks := by
 obtain ⟨s2, h2⟩ := reach_order (ks := ks) hn
 have := h.det h2 rfl rfl
 simp at this
 exact this.2
end Go.Proofs.YtgpjifeeneeiaaaGreatDoor
namespace Go.Proofs.YtgpjifeeneeiaaaGreatDoor
set_option linter.unusedSimpArgs false
set_option linter.unusedVariables false
open Go Go.RowKit
set_option maxRecDepth 100000
def ints (L : List Int) : List AV := L.map aInt
@[simp] theorem ints_nil : ints [] = [] := rfl
theorem ints_ne {L : List Int} (h : L ≠ []) : ints L ≠ [] := by simpa [ints] using h
theorem ne_ints {L : List Int} (h : ints L ≠ []) : L ≠ [] := by simpa [ints] using h
@[simp] theorem len_ints (L : List Int) : (ints L).length = L.length := by simp [ints]
theorem el_int (L : List Int) : Elems 1 (ints L) := .map (sz := 1) (f := aInt) (by decide) (fun x => ⟨rfl, rfl, fun _ => rfl, fun h => absurd rfl h⟩) L
@[simp] theorem flat_ints (L : List Int) : flatAV (ints L) = ints L := by
 unfold ints
 induction L with
 | nil => rfl
 | cons x r ih => simp only [List.map_cons, flatAV, ih]; rfl
@[simp] theorem pure_ints (L : List Int) : pureL (ints L) = true := by have := (el_int L).pure; rwa [flat_ints] at this
theorem atI {L : List Int} {i : Nat} (h : i < L.length) : indexAddrA Tryz.prog 29 (aInts L) (.int .i64 (i : Int)) = some (.fptr [.int .i64 L[i]] 0) := by
 simp [indexAddrA, aInts, idx_nat h, getL_map h, aInt, AV.cells]
theorem atN {t : Tr} {i : Nat} (h : i < t.length) : indexAddrA Tryz.prog 22 (aNodes t) (.int .i64 (i : Int)) = some (.fptr (t[i]).cs 0) := by
 simp [indexAddrA, aNodes, idx_nat h, getL_map h]
theorem lenI {H : Heap} {L : List Int} : lenA Tryz.prog H 29 (aInts L) = some L.length := by simp [lenA, aInts]
theorem lenN {H : Heap} {t : Tr} : lenA Tryz.prog H 22 (aNodes t) = some t.length := by simp [lenA, aNodes]
def kidsOf (t : Tr) (i : Nat) : List Int := (t[i]?.map Nd.kids).getD []
theorem kidsOf_at {t : Tr} {i : Nat} (h : i < t.length) : t[i].kids = kidsOf t i := by simp [kidsOf, h]
def lA (b : Nat) (L : List Int) : AV := ownV b 1 (ints L)
def lF (b : Nat) (L : List Int) : List (Nat × Blk) := ownF b (ints L)
theorem lA_ne {b : Nat} {L : List Int} (h : L ≠ []) : lA b L = .slc b 0 L.length (.rest 1) := by rw [lA, ownV_ne (ints_ne h)]; simp
theorem lF_ne {b : Nat} {L : List Int} (h : L ≠ []) : lF b L = [(b, .cells (ints L))] := by rw [lF, ownF_ne (ints_ne h), flat_ints]
theorem app_l {m t b : Nat} {L : List Int} {v : Int} {g1 g : List (Nat × Blk)} (hr : L.length ≤ 1000000000) (h1 : ∀ e, e ∈ (t, Blk.cells [AV.int .i64 v]) :: g1 → e.1 ≠ b) (h2 : ∀ e, e ∈ g → e.1 ≠ b) :
  appendA Tryz.prog ⟨m, [(t, .cells [.int .i64 v]) :: g1, lF b L ++ g]⟩ 3 (lA b L) (.slc t 0 1 (.ex 1)) = some (.slc m 0 (L.length + 1) (.rest 1), ⟨m + 1, [(m, .cells (ints (L ++ [v]))) :: (t, .cells [.int .i64 v]) :: g1, g]⟩) := by
 have miss : ∀ (l : List (Nat × Blk)), (∀ e, e ∈ l → e.1 ≠ b) → getF b l = none := by
  intro l
  induction l with
  | nil => intro _; rfl
  | cons x r ih =>
   intro h
   unfold getF
   rw [beqN_ne (h x (by simp))]
   exact ih fun e he => h e (by simp [he])
 have hm1 := miss _ h1
 have hg := miss _ h2
 have hdrop : Heap.drop ⟨m, [(t, .cells [.int .i64 v]) :: g1, lF b L ++ g]⟩ b = ⟨m, [(t, .cells [.int .i64 v]) :: g1, g]⟩ := by
  simp only [Heap.drop, killFs, hm1]
  cases L with
  | nil => simp [lF, ownF, hg]
  | cons x r => simp [lF, ownF, ints, getF, killF]
 have h := own_append (P := Tryz.prog) (H := ⟨m, [(t, .cells [.int .i64 v]) :: g1, lF b L ++ g]⟩) (elem := 3) (b := b) (n := 0) (es := ints L) (cs := [.int .i64 v]) (x := .slc t 0 1 (.ex 1)) szT3 byT3 zeT3 rfl (by omega) (by omega) rfl
  (by simp [srcCells, readCells, Heap.get, getFs, getF, Blk.rd, subL, takeL]) rfl rfl (el_int L) (by simp; omega) (fun hne => by
   have hL : L ≠ [] := ne_ints hne
   simp only [Heap.get, getFs, hm1, lF_ne hL, flat_ints]
   simp [getF]) (fun he => by
   have hL : L = [] := by simpa [ints] using he
   subst hL
   rw [hdrop]; rfl) (by intro cs; rfl)
 have e : ints L ++ [.int .i64 v] = ints (L ++ [v]) := by simp [ints, aInt]
 rw [hdrop, flat_ints, e] at h
 simpa [lA, Heap.new, pushF] using h
theorem FitH.rows {n : Nat} {σ : List (Nat × Nat)} {H H' : Heap} (nd1 : (σ.map (·.1)).Nodup) (nd2 : (σ.map (·.2)).Nodup) (nd3 : (H'.ents.map (·.1)).Nodup) (lt : ∀ x, x ∈ σ → x.2 < H'.n) (idn : ∀ x, x ∈ σ → x.1 < n ∨ x.2 < n → x.1 = x.2) (num : n ≤ H'.n)
  (src : ∀ e, e ∈ H'.ents → ∃ b cs, (b, e.1) ∈ σ ∧ H.get b = some (.cells cs) ∧ e.2 = .cells cs ∧ pureL cs = true) : FitH n σ [] H H' where
 nd1 := by simpa using nd1
 nd2 := nd2
 nd3 := nd3
 lt := lt
 idn := fun x hx h => idn x hx (.inr h)
 num := num
 src := fun e he => by
  obtain ⟨b, cs, h1, h2, h3, h4⟩ := src e he
  exact ⟨b, _, h1, h2, by rw [h3]; exact fitL_pure h4⟩
 frz := fun x h => by cases h
def hW (L I O : List Int) : Heap := ⟨3, [lF 2 L ++ [(0, .cells (ints I)), (1, .cells (ints O))]]⟩
def hW' (L I O : List Int) : Heap := ⟨4, [lF 3 L ++ [(0, .cells (ints I)), (1, .cells (ints O))]]⟩
def hL (t : Tr) (L I O : List Int) : Heap := ⟨5, [[(4, .cells (ints L)), (3, .cells [aNodes t])], [(0, .cells (ints I)), (1, .cells (ints O))]]⟩
theorem fit_ints {σ : List (Nat × Nat)} {Φ : List (Nat × List AV)} {b n : Nat} {cap : Cap} {L : List Int} (h : lookC b Φ = some (ints L)) (hn : n = L.length) : fitV σ Φ (.slc b 0 n cap) (aInts L) := by
 subst hn
 simp only [aInts, fitV]
 refine .inl ⟨ints L, h, ?_, by simp, (el_int L).size⟩
 have := sub_pre (el_int L) (k := L.length) (by simp)
 rw [flat_ints, List.take_of_length_le (by simp)] at this
 exact this
def hA (t : Tr) (I O : List Int) : Heap := ⟨3, [[(2, .cells (ints O)), (1, .cells (ints I)), (0, .cells [aNodes t])]]⟩
def okTr (t : Tr) : Prop := t.length ≤ 1000 ∧ ∀ x, x ∈ t → x.kids.length ≤ 1000 ∧ x.attrs.length ≤ 1000
def smallTr (t : Tr) : Prop := t.length ≤ 50 ∧ okTr t
@[simp] theorem ok_aTree (t : Tr) : okV (aTree t) = true := by simp [aTree, aNodes, okV, pureV, pureL]
theorem th_aTree (H : Heap) (t : Tr) : thawA H [] (aTree t) = some (aTree t) := thawA_ok (by simp)
theorem injT (x y : Tr) (h : [aTree x] = [aTree y]) : x = y := by simp at h; exact inj_aTree h
structure FactY (C : Ctx) where
 b : Nat
 args : List AV
 H : Heap
 v : AV
 H' : Heap
 ok : YieldAt C b args H v H'
open Classical in
noncomputable def callY {C : Ctx} : List (FactY C) → CallE → CallE
 | [], call, c, args, H => call c args H
 | x :: r, call, c, args, H => if c = .yl x.b ∧ args = x.args ∧ H = x.H then some (x.v, x.H') else callY r call c args H
theorem callY_ok {C : Ctx} {call : CallE} (hc : CallOK C call) : ∀ (l : List (FactY C)), CallOK C (callY l call)
 | [] => hc
 | x :: r => {
  fn := fun f args H v H' h => by
   unfold callY at h
   split at h
   ·rename_i hx
    cases hx.1
   ·exact (callY_ok hc r).fn f args H v H' h
  yl := fun b args H v H' h => by
   unfold callY at h
   split at h
   ·rename_i hx
    obtain ⟨hf, rfl, rfl⟩ := hx
    simp only [Option.some.injEq, Prod.mk.injEq] at h
    obtain ⟨rfl, rfl⟩ := h
    cases hf
    exact x.ok
   ·exact (callY_ok hc r).yl b args H v H' h }
theorem callOKY {T : List (Entry Tryz.prog)} (l : List (FactY (ctx T))) : CallOK (ctx T) (callY l (callL (ctx T))) := callY_ok callOK l
def frs : List (Nat × Nat) → List AV
 | [] => []
 | p :: r => .int .i64 (p.1 : Int) :: .int .i64 (p.2 : Int) :: frs r
theorem pure_frs : ∀ (l : List (Nat × Nat)), pureL (frs l) = true
 | [] => rfl
 | p :: r => by simp only [frs, pureL, pureV, pure_frs r]; rfl
theorem len_frs : ∀ (l : List (Nat × Nat)), (frs l).length = l.length * 2
 | [] => rfl
 | p :: r => by simp only [frs, List.length_cons, len_frs r]; omega
theorem frs_app : ∀ (l m : List (Nat × Nat)), frs (l ++ m) = frs l ++ frs m
 | [], m => rfl
 | p :: r, m => by simp only [List.cons_append, frs, frs_app r m]
theorem two_s (n : Nat) : (n + 1) * 2 = Nat.succ (Nat.succ (n * 2)) := by omega
theorem getFr0 {i j : Nat} {G : List (Nat × Nat)} : ∀ (pre : List (Nat × Nat)), getL (frs (pre ++ (i, j) :: G)) (pre.length * 2) = some (.int .i64 (i : Int))
 | [] => rfl
 | p :: r => by
  rw [List.length_cons, two_s]
  exact getFr0 r
theorem getFr1 {i j : Nat} {G : List (Nat × Nat)} : ∀ (pre : List (Nat × Nat)), getL (frs (pre ++ (i, j) :: G)) (pre.length * 2 + 1) = some (.int .i64 (j : Int))
 | [] => rfl
 | p :: r => by
  rw [List.length_cons, two_s]
  exact getFr1 r
theorem layFr {i j v : Nat} {G : List (Nat × Nat)} : ∀ (pre : List (Nat × Nat)), layL [.int .i64 (v : Int)] (pre.length * 2 + 1) (frs (pre ++ (i, j) :: G)) = some (frs (pre ++ (i, v) :: G))
 | [] => rfl
 | p :: r => by
  have h := layFr (i := i) (j := j) (v := v) (G := G) r
  rw [List.length_cons, two_s]
  show ((layL _ (r.length * 2 + 1) (frs (r ++ (i, j) :: G))).bind fun r' => some (_ :: r')).bind (fun r' => some (_ :: r')) = _
  rw [h]; rfl
theorem layApp {k : Nat} {g : Nat × Nat} {G : List (Nat × Nat)} : ∀ (l : List (Nat × Nat)), layL [.int .i64 (k : Int), .int .i64 0] (l.length * 2) (frs (l ++ g :: G)) = some (frs (l ++ (k, 0) :: G))
 | [] => rfl
 | p :: r => by
  have h := layApp (k := k) (g := g) (G := G) r
  rw [List.length_cons, two_s]
  show ((layL _ (r.length * 2) (frs (r ++ g :: G))).bind fun r' => some (_ :: r')).bind (fun r' => some (_ :: r')) = _
  rw [h]; rfl
theorem subFr (l : List (Nat × Nat)) : subL 0 (l.length * 2) (frs l) = some (frs l) := by
 show takeL _ _ = _
 rw [List.drop_zero, takeL_front (by rw [len_frs]; exact Nat.le_refl _), ← len_frs l, List.take_length]
def bls (s : List Bool) : List AV := s.map AV.bool
theorem pure_bls (s : List Bool) : pureL (bls s) = true := by
 unfold bls
 induction s with
 | nil => rfl
 | cons x r ih => simp only [List.map_cons, pureL, pureV, ih]; rfl
theorem getB {s : List Bool} {i : Nat} (h : i < s.length) : getL (bls s) i = some (.bool s[i]) := by simp [bls, getL_map h]
theorem layB : ∀ {s : List Bool} {i : Nat}, i < s.length → layL [.bool true] i (bls s) = some (bls (s.set i true))
 | [], i, h => absurd h (Nat.not_lt_zero i)
 | x :: r, 0, h => rfl
 | x :: r, i + 1, h => by
  show ((layL _ i (bls r)).bind fun r' => some (_ :: r')) = _
  rw [layB (s := r) (by simpa using h)]; rfl
theorem repl_bls : ∀ (n : Nat), replL [.bool false] n = bls (List.replicate n false)
 | 0 => rfl
 | n + 1 => by simp only [replL, repl_bls n, List.replicate_succ, bls, List.map_cons]; rfl
theorem msBool {n : Nat} (h : n ≤ 1000000) : msB Tryz.prog 51 (.int .i64 (n : Int)) (.int .i64 (n : Int)) = some (fun b => .slc b 0 n (.ex n), .cells (bls (List.replicate n false))) := by
 have h1 : idx (n : Int) 17592186044416 = some n := idx_nat (by omega)
 have h2 : idx (n : Int) (Nat.succ n) = some n := idx_nat (by omega)
 have hz : zeroOf Tryz.prog 4 = some (.bool false) := zeT4
 have hs : sizeT Tryz.prog 4 = some 1 := szT4
 have hb : bytesT Tryz.prog 4 = some 1 := byT4
 have h3 : roomOK n 1 = true := by simp [roomOK]; omega
 simp only [msB, Tryz.underlying51, Option.bind_some, hs, hb, h1, h2, h3, hz]
 simp [AV.cells, repl_bls]
theorem ixB {b n i : Nat} {cap : Cap} (h : i < n) : indexAddrA Tryz.prog 51 (.slc b 0 n cap) (.int .i64 (i : Int)) = some (.ptr b i) := by simp [indexAddrA, idx_nat h]
theorem ixF {b n i : Nat} {cap : Cap} (h : i < n) : indexAddrA Tryz.prog 106 (.slc b 0 n cap) (.int .i64 (i : Int)) = some (.ptr b (i * 2)) := by simp [indexAddrA, idx_nat h]
def cnt : Nat → Nat
 | 0 => 4607182418800017408
 | n + 1 => ((FloatKind.f64.format.add (cnt n) 4607182418800017408).getD 0)
def cntOK : Nat → Nat → Nat → Bool
 | 0, _, _ => true
 | n + 1, k, c => match FloatKind.f64.format.add c 4607182418800017408 with
  | some r => cntOK n (k + 1) r
  | none => false
theorem cntOK_spec : ∀ (n k c : Nat), c = cnt k → cntOK n k c = true → ∀ i, k ≤ i → i < k + n → FloatKind.f64.format.add (cnt i) 4607182418800017408 = some (cnt (i + 1))
 | 0, k, c, _, _, i, h1, h2 => by omega
 | n + 1, k, c, hc, h, i, h1, h2 => by
  unfold cntOK at h
  cases hr : FloatKind.f64.format.add c 4607182418800017408 with
  | none => rw [hr] at h; cases h
  | some r =>
   rw [hr] at h
   have hk : cnt (k + 1) = r := by show Option.getD _ 0 = r; rw [← hc, hr]; rfl
   by_cases hi : i = k
   ·subst hi; rw [← hc, hr, hk]
   ·exact cntOK_spec n (k + 1) r hk.symm h i (by omega) (by omega)
theorem cnt_add {i : Nat} (h : i < 120) : FloatKind.f64.format.add (cnt i) 4607182418800017408 = some (cnt (i + 1)) :=
 cntOK_spec 120 0 _ rfl (by decide +kernel) i (Nat.zero_le _) (by omega)
def stepV (node up : Int) (c : Nat) (left : Bool) : AV := .agg [.int .i64 node, .int .i64 up, .float .f64 c, .bool left]
def hR (t : Tr) (LB : Blk) (m k : Nat) (f : List (Nat × Blk)) (L : List Int) : Heap := ⟨m, [f, [(k, .cells (ints L)), (2, LB), (1, .cells [.slc k 0 L.length (.rest 1)]), (0, .cells [aNodes t])]]⟩
def h0R (t : Tr) (LB : Blk) : Heap := ⟨3, [[], [(2, LB), (1, .cells [.nilS]), (0, .cells [aNodes t])]]⟩
def fR (P : List (Nat × Nat)) (s : List Bool) : List (Nat × Blk) := [(6, .cells (frs P)), (5, .cells (bls s))]
structure Rounds (T : List (Entry Tryz.prog)) (t : Tr) (LB : Blk) : Prop where
 fit : ∀ σ, lookN 0 σ = some 0 → lookN 1 σ = some 1 → fitB σ [] LB LB
 first : YieldAt (ctx T) 2 [stepV 0 (-1) 0 false] (h0R t LB) (.bool true) ⟨4, [[], [(3, .cells (ints [0])), (2, LB), (1, .cells [.slc 3 0 1 (.rest 1)]), (0, .cells [aNodes t])]]⟩
 leave : ∀ (m : Nat) (_ : m = 17) (P : List (Nat × Nat)) (s : List Bool) (L : List Int) (node up : Int) (c : Nat), L.length ≤ 1000000 → YieldAt (ctx T) 2 [stepV node up c true] (hR t LB m 4 (fR P s) L) (.bool true) (hR t LB m 4 (fR P s) L)
 enter : ∀ (m : Nat) (_ : m = 30) (P : List (Nat × Nat)) (s : List Bool) (L : List Int) (node up : Int) (c : Nat), L.length ≤ 1000000 → L ≠ [] → YieldAt (ctx T) 2 [stepV node up c false] (hR t LB m 4 (fR P s) L) (.bool true) (hR t LB (m + 1) m (fR P s) (L ++ [node]))
theorem fit_R {t : Tr} {LB : Blk} (hLB : ∀ σ, lookN 0 σ = some 0 → lookN 1 σ = some 1 → fitB σ [] LB LB) {m a b k : Nat} {f : List (Nat × Blk)} {P : List (Nat × Nat)} {s : List Bool} {L : List Int}
  (ha : getF a f = some (.cells (frs P))) (hb : getF b f = some (.cells (bls s))) (hk : getF k f = none) (h0 : getF 0 f = none) (h1 : getF 1 f = none) (h2 : getF 2 f = none)
  (a3 : 2 < a) (b3 : 2 < b) (k3 : 2 < k) (hab : a ≠ b) (hak : a ≠ k) (hbk : b ≠ k) :
  FitH 3 [(a, 6), (b, 5), (k, 4), (2, 2), (1, 1), (0, 0)] [] (hR t LB m k f L) (hR t LB 7 4 (fR P s) L) where
 nd1 := by simp; omega
 nd2 := by simp
 nd3 := by simp [hR, fR, Heap.ents]
 lt := by simp [hR]
 idn := by simp <;> omega
 num := by simp [hR]
 src := by
  intro e he
  simp [hR, fR, Heap.ents] at he
  rcases he with rfl | rfl | rfl | rfl | rfl | rfl
  ·exact ⟨a, .cells (frs P), by simp, by simp [hR, Heap.get, getFs, ha], fitL_pure (pure_frs _)⟩
  ·exact ⟨b, .cells (bls s), by simp, by simp [hR, Heap.get, getFs, hb], fitL_pure (pure_bls _)⟩
  ·exact ⟨k, .cells (ints L), by simp, by simp [hR, Heap.get, getFs, hk, getF], fitL_pure (pure_ints _)⟩
  ·refine ⟨2, LB, by simp, ?_, hLB _ ?_ ?_⟩
   ·have : Nat.beq k 2 = false := beqN_ne (by omega)
    simp [hR, Heap.get, getFs, h2, getF, this]
   ·have e1 : ¬ a = 0 := by omega
    have e2 : ¬ b = 0 := by omega
    have e3 : ¬ k = 0 := by omega
    simp [lookN, e1, e2, e3]
   ·have e1 : ¬ a = 1 := by omega
    have e2 : ¬ b = 1 := by omega
    have e3 : ¬ k = 1 := by omega
    simp [lookN, e1, e2, e3]
  ·refine ⟨1, .cells [.slc k 0 L.length (.rest 1)], by simp, ?_, ?_⟩
   ·have : Nat.beq k 1 = false := beqN_ne (by omega)
    simp [hR, Heap.get, getFs, h1, getF, this]
   ·simp [fitB, fitL, fitV, lookN, hak, hbk]
  ·refine ⟨0, .cells [aNodes t], by simp, ?_, fitL_pure (by simp [pureL])⟩
   have : Nat.beq k 0 = false := beqN_ne (by omega)
   simp [hR, Heap.get, getFs, h0, getF, this]
 frz := fun x h => by cases h
theorem fit_end {t : Tr} {LB : Blk} (hLB : ∀ σ, lookN 0 σ = some 0 → lookN 1 σ = some 1 → fitB σ [] LB LB) {m : Nat} {f : List (Nat × Blk)} {L : List Int} (h4 : getF 4 f = none) (h0 : getF 0 f = none) (h1 : getF 1 f = none) (h2 : getF 2 f = none) :
  FitH 3 [(4, 3), (2, 2), (1, 1), (0, 0)] [] (hR t LB m 4 f L) ⟨4, [[(3, .cells (ints L)), (2, LB), (1, .cells [.slc 3 0 L.length (.rest 1)]), (0, .cells [aNodes t])]]⟩ where
 nd1 := by simp
 nd2 := by simp
 nd3 := by simp [Heap.ents]
 lt := by simp
 idn := by simp
 num := by simp
 src := by
  intro e he
  simp [Heap.ents] at he
  rcases he with rfl | rfl | rfl | rfl
  ·exact ⟨4, .cells (ints L), by simp, by simp [hR, Heap.get, getFs, h4, getF], fitL_pure (pure_ints _)⟩
  ·exact ⟨2, LB, by simp, by simp [hR, Heap.get, getFs, h2, getF], hLB _ (by simp [lookN]) (by simp [lookN])⟩
  ·exact ⟨1, .cells [.slc 4 0 L.length (.rest 1)], by simp, by simp [hR, Heap.get, getFs, h1, getF], by simp [fitB, fitL, fitV, lookN]⟩
  ·exact ⟨0, .cells [aNodes t], by simp, by simp [hR, Heap.get, getFs, h0, getF], fitL_pure (by simp [pureL])⟩
 frz := fun x h => by cases h
structure Ls where
 P : List (Nat × Nat)
 G : List (Nat × Nat)
 cap : Cap
 s : List Bool
 a : List Int
 c : Nat
def unseen (s : List Bool) : Nat := s.countP fun x => !x
def sm : List (Nat × Nat) → Nat
 | [] => 0
 | p :: r => (1001 - p.2) + sm r
theorem sm_app : ∀ (l m : List (Nat × Nat)), sm (l ++ m) = sm l + sm m
 | [], m => by simp [sm]
 | p :: r, m => by simp only [List.cons_append, sm, sm_app r m]; omega
def cap1 (x : Ls) : Prop := x.cap = .rest 2 ∨ (x.cap = .ex 1 ∧ x.P.length + x.G.length = 1)
structure Lok (t : Tr) (x : Ls) : Prop where
 cap : cap1 x
 s : x.s.length = t.length
 a : x.a ≠ []
 r : Reach t.length (kidsOf t) ([(0, 0)], (List.replicate t.length false).set 0 true, [0]) (x.P.reverse, x.s, x.a)
 p : ∀ e, e ∈ x.P → e.1 < t.length ∧ e.2 ≤ 1000
 pu : x.P.length + unseen x.s ≤ t.length
 au : x.a.length + unseen x.s ≤ t.length
 cu : x.c + 2 * unseen x.s + x.P.length ≤ 2 * t.length
theorem bS1 {x : Int} : buildA Tryz.prog 78 [(1, .int .i64 x)] = some (.agg [.int .i64 0, .int .i64 x, .float .f64 0, .bool false]) := by kernel_rfl
theorem bS2 {x : Int} {c : Nat} {b : Bool} : buildA Tryz.prog 78 [(0, .int .i64 x), (2, .float .f64 c), (3, .bool b)] = some (.agg [.int .i64 x, .int .i64 0, .float .f64 c, .bool b]) := by kernel_rfl
theorem bS3 {x u : Int} {c : Nat} : buildA Tryz.prog 78 [(0, .int .i64 x), (1, .int .i64 u), (2, .float .f64 c)] = some (.agg [.int .i64 x, .int .i64 u, .float .f64 c, .bool false]) := by kernel_rfl
theorem bF0 : buildA Tryz.prog 105 [] = some (.agg [.int .i64 0, .int .i64 0]) := by kernel_rfl
theorem bF1 {x : Int} : buildA Tryz.prog 105 [(0, .int .i64 x)] = some (.agg [.int .i64 x, .int .i64 0]) := by kernel_rfl
theorem callY_hit {C : Ctx} {b : Nat} {args : List AV} {H H' : Heap} {v : AV} {ok : YieldAt C b args H v H'} {r : List (FactY C)} {call : CallE} : callY (⟨b, args, H, v, H', ok⟩ :: r) call (.yl b) args H = some (v, H') := by simp [callY]
theorem unseen_set : ∀ {s : List Bool} {i : Nat}, i < s.length → s.getD i true = false → unseen (s.set i true) + 1 = unseen s
 | [], i, h, _ => absurd h (Nat.not_lt_zero i)
 | x :: r, 0, h, hx => by
  have hx' : x = false := by simpa using hx
  subst hx'
  simp [unseen, List.countP_cons]
 | x :: r, i + 1, h, hx => by
  have := unseen_set (s := r) (i := i) (by simpa using h) (by simpa using hx)
  simp only [unseen, List.set_cons_succ, List.countP_cons] at this ⊢
  omega
theorem unseen_rep (n : Nat) : unseen (List.replicate n false) = n := by simp [unseen, List.countP_replicate]
theorem mkBool {H : Heap} {n : Nat} (h : n ≤ 1000000) : makeSliceA Tryz.prog H 51 (.int .i64 (n : Int)) (.int .i64 (n : Int)) = some (.slc H.n 0 n (.ex n), H.new (.cells (bls (List.replicate n false)))) := by
 unfold makeSliceA
 rw [msBool h]; rfl
theorem slPath {H : Heap} {cs : List AV} {q kn : Nat} {cap : Cap} (hb : H.get 6 = some (.cells cs)) (hl : cs.length = kn * 2) (hq : q + 1 ≤ kn) (hc : cap = .rest 2 ∨ (cap = .ex 1 ∧ kn = 1)) :
  sliceA Tryz.prog H 106 (.slc 6 0 (q + 1) cap) none (some (.int .i64 (q : Int))) none = some (.slc 6 0 q cap) := by
 have hs : sizeT Tryz.prog 105 = some 2 := szT105
 have hk : knownCells H 6 = some (kn * 2) := by simp [knownCells, hb, Blk.rd, hl]
 simp only [sliceA, hiOK, Tryz.underlying106, Option.bind_some, hs]
 have e2 : kn * 2 / 2 = kn := by omega
 rcases hc with rfl | ⟨rfl, rfl⟩
 ·have hi1 : idx (q : Int) (Nat.succ kn) = some q := idx_nat (by omega)
  have hn : Nat.ble (kn * 2) 0 = false := by cases kn with
   | zero => omega
   | succ m => rfl
  simp only [sliceBlk, hk, Option.bind_some, bound, Nat.beq_refl, Nat.sub_zero, e2, hi1, Nat.zero_mul, hn, Nat.add_zero]
 ·have hq0 : q = 0 := by omega
  subst hq0
  simp only [sliceBlk, hk, Option.bind_some]
  rfl
def hP (n : Nat) (f0 : List (Nat × Blk)) (m : Int) (s : List Bool) (R : List AV) (top : List (Nat × Blk)) : Heap := ⟨n, [top ++ ((31, .cells [.int .i64 m, .int .i64 0]) :: ((6, .cells R) :: [(5, .cells (bls s))])), f0]⟩
theorem app0 {n : Nat} (h : n ≤ 1000) : roomOK (n + 1) 16 = true := by simp [roomOK]; omega
theorem appP1 {l G : List (Nat × Nat)} {g : Nat × Nat} {m : Nat} {s : List Bool} {f0 : List (Nat × Blk)} (hl : l.length ≤ 1000) :
  appendA Tryz.prog ⟨32, [[(31, .cells [.int .i64 (m : Int), .int .i64 0]), (6, .cells (frs (l ++ g :: G))), (5, .cells (bls s))], f0]⟩ 105 (.slc 6 0 l.length (.rest 2)) (.slc 31 0 1 (.ex 1)) =
   some (.slc 6 0 (l.length + 1) (.rest 2), ⟨32, [[(31, .cells [.int .i64 (m : Int), .int .i64 0]), (6, .cells (frs (l ++ (m, 0) :: G))), (5, .cells (bls s))], f0]⟩) := by
 have hs : sizeT Tryz.prog 105 = some 2 := szT105
 have hb : bytesT Tryz.prog 105 = some 16 := byT105
 have hz : zeroOf Tryz.prog 105 = some (.agg [.int .i64 0, .int .i64 0]) := zeT105
 have hble : Nat.ble (0 + (l.length + 1) * 2) (frs (l ++ g :: G)).length = true := by rw [len_frs]; simp; omega
 have hlay := layApp (k := m) (g := g) (G := G) l
 simp only [appendA, hs, hb, hz, Option.bind_some]
 simp [srcLen, srcCells, readCells, Heap.get, getFs, getF, Blk.rd, subL, takeL, AV.cells, app0 hl, allSingle, AV.single, knownCells]
 rw [show (Nat.ble ((l.length + 1) * 2) (frs (l ++ g :: G)).length) = true by simpa using hble]
 simp [writeCells, Heap.get, getFs, getF, Blk.wt, hlay, Heap.ready, refs, Heap.set, setFs, setF, Blk.re]
 rfl
theorem appP2 {l : List (Nat × Nat)} {m : Nat} {s : List Bool} {f0 : List (Nat × Blk)} (hl : l.length ≤ 1000) :
  appendA Tryz.prog ⟨32, [[(31, .cells [.int .i64 (m : Int), .int .i64 0]), (6, .cells (frs l)), (5, .cells (bls s))], f0]⟩ 105 (.slc 6 0 l.length (.rest 2)) (.slc 31 0 1 (.ex 1)) =
   some (.slc 32 0 (l.length + 1) (.rest 2), ⟨33, [[(32, .cells (frs (l ++ [(m, 0)]))), (31, .cells [.int .i64 (m : Int), .int .i64 0]), (5, .cells (bls s))], f0]⟩) := by
 have hs : sizeT Tryz.prog 105 = some 2 := szT105
 have hb : bytesT Tryz.prog 105 = some 16 := byT105
 have hz : zeroOf Tryz.prog 105 = some (.agg [.int .i64 0, .int .i64 0]) := zeT105
 have hble : Nat.ble ((l.length + 1) * 2) (frs l).length = false := by
  rw [len_frs]
  cases h : Nat.ble ((l.length + 1) * 2) (l.length * 2) with
  | false => rfl
  | true => have := Nat.le_of_ble_eq_true h; omega
 have hbeq : Nat.beq (l.length * 2) (frs l).length = true := by rw [len_frs]; exact Nat.beq_refl _
 have hsub : takeL (l.length * 2) (frs l) = some (frs l) := by have := subFr l; simpa [subL] using this
 simp only [appendA, hs, hb, hz, Option.bind_some]
 simp [srcLen, srcCells, readCells, Heap.get, getFs, getF, Blk.rd, subL, takeL, AV.cells, app0 hl, allSingle, AV.single, knownCells]
 rw [hble]
 simp [hbeq, hsub, goOn, Heap.drop, killFs, killF, getF, Heap.new, pushF, frs_app, frs]
 rfl
theorem appP3 {l : List (Nat × Nat)} {m : Nat} {s : List Bool} {f0 : List (Nat × Blk)} (hl : l.length = 1) :
  appendA Tryz.prog ⟨32, [[(31, .cells [.int .i64 (m : Int), .int .i64 0]), (6, .cells (frs l)), (5, .cells (bls s))], f0]⟩ 105 (.slc 6 0 l.length (.ex 1)) (.slc 31 0 1 (.ex 1)) =
   some (.slc 32 0 (l.length + 1) (.rest 2), ⟨33, [[(32, .cells (frs (l ++ [(m, 0)]))), (31, .cells [.int .i64 (m : Int), .int .i64 0]), (6, .cells (frs l)), (5, .cells (bls s))], f0]⟩) := by
 have hs : sizeT Tryz.prog 105 = some 2 := szT105
 have hb : bytesT Tryz.prog 105 = some 16 := byT105
 have hz : zeroOf Tryz.prog 105 = some (.agg [.int .i64 0, .int .i64 0]) := zeT105
 obtain ⟨p, rfl⟩ := List.length_eq_one_iff.1 hl
 simp only [appendA, hs, hb, hz, Option.bind_some]
 rfl
theorem FitH.eqL {n : Nat} {σ : List (Nat × Nat)} {Φ : List (Nat × List AV)} {H1 H2 H' : Heap} (h : H1 = H2) (f : FitH n σ Φ H2 H') : FitH n σ Φ H1 H' := h ▸ f
theorem cnt_bin {c : Nat} (h : c < 120) : binA Tryz.prog .add 76 (.float .f64 (cnt c)) (.float .f64 4607182418800017408) = some (.float .f64 (cnt (c + 1))) := by
 simp [binA, floatOp, cnt_add h]
theorem c93 {T : List (Entry Tryz.prog)} (t : Tr) (hn : t.length ≤ 50) (hpos : 0 < t.length) (hkd : ∀ x, x ∈ t → x.kids.length ≤ 1000) (LB : Blk) (hR0 : Rounds T t LB) :
  CallAt (ctx T) 93 [.yld 2, .fptr [aNodes t] 0] ⟨3, [[(2, LB), (1, .cells [.nilS]), (0, .cells [aNodes t])]]⟩ (.tup [])
   ⟨4, [[(3, .cells (ints (orderOf t.length (kidsOf t)))), (2, LB), (1, .cells [.slc 3 0 (orderOf t.length (kidsOf t)).length (.rest 1)]), (0, .cells [aNodes t])]]⟩ := by
 have h1 := hR0.first
 simp only [h0R, stepV] at h1
 refine callAt_body (fn := Tryz.f93) (s0 := ⟨[0, 1, 3, 4, 5, 6, 7, 8, 9], [.yld 2, .fptr [aNodes t] 0, .undef, .undef, .undef, .undef, .undef, .undef, .undef], [], 118, ⟨3, [] :: [[(2, LB), (1, .cells [.nilS]), (0, .cells [aNodes t])]]⟩⟩) Tryz.func93 rfl rfl rfl ?_
 repeat apply wq
 refine wps_region (callOKY [⟨2, _, _, _, _, h1⟩]) ?_
 simp [zS, lenN, bS1, callY_hit, (show ¬ t.length = 0 by omega)]
 repeat apply wq
 refine wps_cf rfl ?_
 repeat apply wq
 refine wps_skip ?_
 simp
 repeat apply wq
 refine wps_region callOK ?_
 simp [zS, lenN, mkBool (show t.length ≤ 1000000 by omega)]
 have ix0 : ∀ b cap, indexAddrA Tryz.prog 51 (.slc b 0 t.length cap) (.int .i64 0) = some (.ptr b 0) := fun b cap => by simpa using ixB (b := b) (cap := cap) hpos
 have ly0 : layL [.bool true] 0 (bls (List.replicate t.length false)) = some (bls ((List.replicate t.length false).set 0 true)) := layB (by simpa using hpos)
 repeat apply wq
 refine wps_region callOK ?_
 simp [zS, ix0, ly0]
 repeat apply wq
 refine wps_region callOK ?_
 simp [zS]
 repeat apply wq
 refine wps_region callOK ?_
 simp [zS, bF0]
 have hu0 := unseen_set (s := List.replicate t.length false) (i := 0) (by simpa using hpos) (by simp [List.getD_eq_getElem?_getD, hpos])
 rw [unseen_rep] at hu0
 repeat apply wq
 refine wps_block (wps_loop' (fun x : Ls => (⟨[0, 1, 3, 4, 5, 6, 7, 8, 9], [.yld 2, .fptr [aNodes t] 0, .slc 5 0 t.length (.ex t.length), .float .f64 (cnt x.c), .slc 6 0 x.P.length x.cap, .undef, .undef, .undef, .undef], [], 118, hR t LB 7 4 (fR (x.P ++ x.G) x.s) x.a⟩ : St))
  (Lok t) (fun x => unseen x.s * 1002 + sm x.P) [(5, 6), (4, 5), (3, 4), (2, 2), (1, 1), (0, 0)] [] ⟨[(0, 0)], [], .ex 1, (List.replicate t.length false).set 0 true, [0], 0⟩
  ⟨.inr ⟨rfl, rfl⟩, by simp, by simp, .refl _, by simp; omega, by simp; omega, by simp; omega, by simp; omega⟩
  ⟨rfl, rfl, rfl, by simp [fitL, fitV, lookN, pureV, pureL, cnt], fit_R (t := t) (LB := LB) hR0.fit (m := 6) (a := 5) (b := 4) (k := 3) (P := [(0, 0)]) (s := (List.replicate t.length false).set 0 true) (L := [0]) (f := [(5, .cells [.int .i64 0, .int .i64 0]), (4, .cells (bls ((List.replicate t.length false).set 0 true)))]) rfl rfl rfl rfl rfl rfl (by omega) (by omega) (by omega) (by omega) (by omega) (by omega)⟩ ?_)
 rintro ⟨P, G, cap, s, a, c⟩ hx B hB
 have hcap := hx.cap
 have hs := hx.s
 have ha := hx.a
 have hr := hx.r
 have hpp := hx.p
 have hpu := hx.pu
 have hau := hx.au
 have hcu := hx.cu
 simp only [cap1] at hcap hs ha hr hpp hpu hau hcu
 rcases List.eq_nil_or_concat P with rfl | ⟨pre, ⟨i, j⟩, rfl⟩
 ·repeat apply wq
  refine wps_region callOK ?_
  simp [zS, hR, fR, lenA]
  repeat apply wq
  refine wps_cf rfl ?_
  repeat apply wq
  refine wps_exit ?_
  simp
  have hae : a = orderOf t.length (kidsOf t) := order_end hpos hr
  rw [← hae]
  exact ⟨[], rfl, [(4, 3), (2, 2), (1, 1), (0, 0)], [], by simp [oneOr, fitV, fitL], fit_end (t := t) (LB := LB) hR0.fit (m := 7) (f := fR G s) (L := a) rfl rfl rfl rfl⟩
 ·have hij := hpp (i, j) (by simp)
  have hi : i < t.length := hij.1
  have hj : j ≤ 1000 := hij.2
  simp only [List.concat_eq_append, List.length_append, List.length_singleton] at hcap hpu hcu
  have hpl : pre.length ≤ 1000 := by omega
  have hw : wr .i64 (pre.length : Int) = some (pre.length : Int) := wr_small (by omega) (by omega)
  repeat apply wq
  refine wps_region callOK ?_
  simp [zS, hR, fR, lenA]
  repeat apply wq
  refine wps_cond rfl (fun h => ?_) fun h => ?_
  ·repeat apply wq
   refine wps_skip ?_
   simp
   repeat apply wq
   refine wps_block ?_
   repeat apply wq
   refine wps_region callOK ?_
   simp [zS, lenA, hw, ixF (show pre.length < pre.length + 1 by omega)]
   repeat apply wq
   refine wps_drawn mixed callOK (by decide +kernel) fun B_ hB_ => ?_
   simp [zS, mkBlk, guardA, evalD, stepD, clsOf, reserve, freshenAll, sameRecs, sameAll, sameAt, allPend, Heap.lay, ontoF, wantedBy, unwantedBy, getFr0, atN hi, Nd.cs, kidsOf_at hi]
   repeat apply wq
   refine wps_region callOK ?_
   simp [zS, getFr1, lenI]
   simp only [List.concat_eq_append, List.reverse_append, List.reverse_cons, List.reverse_nil, List.nil_append, List.singleton_append] at hr
   by_cases hjk : j < (kidsOf t i).length
   ·obtain ⟨k, hkj⟩ : ∃ k, k = (kidsOf t i)[j] := ⟨_, rfl⟩
    have hk? : (kidsOf t i)[j]? = some k := by rw [List.getElem?_eq_getElem hjk, hkj]
    have hkl : (kidsOf t i).length ≤ 1000 := by rw [← kidsOf_at hi]; exact hkd _ (List.getElem_mem hi)
    repeat apply wq
    refine wps_cond (t := false) (by simp [opnd, St.get]; omega) (fun h => by cases h) fun _ => ?_
    repeat apply wq
    refine wps_skip ?_
    simp
    repeat apply wq
    refine wps_drawn mixed callOK (by decide +kernel) fun B_ hB_ => ?_
    simp [zS, mkBlk, guardA, evalD, stepD, clsOf, reserve, freshenAll, sameRecs, sameAll, sameAt, allPend, Heap.lay, ontoF, wantedBy, unwantedBy, getFr0, getFr1, atI hjk, ← hkj]
    have hly : layL [.int .i64 ((j : Int) + 1)] (pre.length * 2 + 1) (frs (pre ++ (i, j) :: G)) = some (frs (pre ++ (i, j + 1) :: G)) := by simpa using layFr (i := i) (j := j) (v := j + 1) (G := G) pre
    repeat apply wq
    refine wps_region callOK ?_
    simp [zS, getFr1, add_one (show j ≤ 1000000000 by omega), hly]
    have skipit : ∀ (hst : stp t.length (kidsOf t) ((i, j) :: pre.reverse, s, a) = some ((i, j + 1) :: pre.reverse, s, a)), Lok t ⟨pre ++ [(i, j + 1)], G, cap, s, a, c⟩ := fun hst =>
     ⟨by simpa [cap1] using hcap, hs, ha, by simpa using hr.one hst, fun e he => by
      rcases List.mem_append.1 he with he | he
      ·exact hpp e (by simp [he])
      ·simp at he; subst he; exact ⟨hi, by omega⟩, by simpa using hpu, hau, by simpa using hcu⟩
    by_cases h0 : k < 0
    ·have hst : stp t.length (kidsOf t) ((i, j) :: pre.reverse, s, a) = some ((i, j + 1) :: pre.reverse, s, a) := by
      simp only [stp, hk?]; rw [if_neg (fun hx => by omega)]
     repeat apply wq
     refine wps_region callOK ?_
     simp [zS, h0]
     repeat apply wq
     refine wps_ct rfl ?_
     repeat apply wq
     refine wps_exit ?_
     simp
     exact hB _ ⟨pre ++ [(i, j + 1)], G, cap, s, a, c⟩ (by simp only [List.concat_eq_append, sm_app, sm]; omega) (skipit hst) ⟨[(6, 6), (5, 5), (4, 4), (2, 2), (1, 1), (0, 0)], [], rfl, rfl, rfl, by simp [fitL, fitV, lookN, pureV, pureL], fit_R (t := t) (LB := LB) hR0.fit (m := 30) (a := 6) (b := 5) (k := 4) (P := pre ++ [(i, j + 1)] ++ G) (s := s) (L := a) (f := [(6, .cells (frs (pre ++ (i, j + 1) :: G))), (5, .cells (bls s))]) (by simp [getF]) rfl rfl rfl rfl rfl (by omega) (by omega) (by omega) (by omega) (by omega) (by omega)⟩
    ·obtain ⟨m, rfl⟩ := Int.eq_ofNat_of_zero_le (show 0 ≤ k by omega)
     by_cases h1 : m < t.length
     ·have h1' : ¬ t.length ≤ m := by omega
      by_cases h2 : s.getD m true = false
      ·have h2' : s[m]'(by omega) = false := by rw [List.getD_eq_getElem?_getD, List.getElem?_eq_getElem (by omega), Option.getD_some] at h2; exact h2
       repeat apply wq
       refine wps_region callOK ?_
       simp [zS, lenN, (show ¬ ((m : Int) < 0) by omega), h1', ixB h1, getB (show m < s.length by omega), h2']
       repeat apply wq
       refine wps_cf rfl ?_
       repeat apply wq
       refine wps_skip ?_
       simp
       have hlb := layB (s := s) (i := m) (by omega)
       repeat apply wq
       refine wps_region callOK ?_
       simp [zS, ixB h1, hlb]
       have hy := hR0.enter 30 (by omega) (pre ++ (i, j + 1) :: G) (s.set m true) a m i (cnt c) (by omega) ha
       simp only [hR, fR, stepV] at hy
       repeat apply wq
       refine wps_region (callOKY [⟨2, _, _, _, _, hy⟩]) ?_
       simp [zS, bS3, callY_hit]
       repeat apply wq
       refine wps_cf rfl ?_
       repeat apply wq
       refine wps_skip ?_
       simp
       repeat apply wq
       refine wps_region callOK ?_
       simp [zS, cnt_bin (show c < 120 by omega)]
       have hus := unseen_set (s := s) (i := m) (by omega) h2
       have hst : stp t.length (kidsOf t) ((i, j) :: pre.reverse, s, a) = some ((m, 0) :: (i, j + 1) :: pre.reverse, s.set m true, a ++ [(m : Int)]) := by
        simp only [stp, hk?]
        rw [if_pos ⟨by omega, by omega, by simpa using h2⟩]
        simp
       have hok : ∀ G' cap', (cap' = .rest 2) → Lok t ⟨pre ++ [(i, j + 1)] ++ [(m, 0)], G', cap', s.set m true, a ++ [(m : Int)], c + 1⟩ := fun G' cap' hc' =>
        ⟨.inl hc', by simp [hs], by simp, by simpa using hr.one hst, fun e he => by
         simp only [List.mem_append, List.mem_singleton] at he
         rcases he with (he | he) | he
         ·exact hpp e (by simp [he])
         ·subst he; exact ⟨hi, by omega⟩
         ·subst he; exact ⟨h1, Nat.zero_le _⟩, by simp; omega, by simp; omega, by simp; omega⟩
       have hme : unseen (s.set m true) * 1002 + sm (pre ++ [(i, j + 1)] ++ [(m, 0)]) < unseen s * 1002 + sm (pre.concat (i, j)) := by
        simp only [List.concat_eq_append, sm_app, sm]; omega
       have hcap2 : cap = .rest 2 ∨ (cap = .ex 1 ∧ pre.length + 1 + G.length = 1) := hcap
       rcases hcap2 with hc | ⟨hc, hc1⟩
       ·subst hc
        cases G with
        | cons g G' =>
         have hap := appP1 (l := pre ++ [(i, j + 1)]) (G := G') (g := g) (m := m) (s := s.set m true) (f0 := [(30, .cells (ints (a ++ [(m : Int)]))), (2, LB), (1, .cells [.slc 30 0 (a.length + 1) (.rest 1)]), (0, .cells [aNodes t])]) (by simp; omega)
         simp only [List.length_append, List.length_singleton, List.append_assoc, List.singleton_append] at hap
         repeat apply wq
         refine wps_region callOK ?_
         simp [zS, bF1, hap]
         exact hB _ ⟨pre ++ [(i, j + 1)] ++ [(m, 0)], G', .rest 2, s.set m true, a ++ [(m : Int)], c + 1⟩ hme (hok _ _ rfl) ⟨[(6, 6), (5, 5), (30, 4), (2, 2), (1, 1), (0, 0)], [], rfl, rfl, rfl, by simp [fitL, fitV, lookN, pureV, pureL], FitH.eqL (by simp [hR]) (fit_R (t := t) (LB := LB) hR0.fit (m := 32) (a := 6) (b := 5) (k := 30) (P := pre ++ [(i, j + 1)] ++ [(m, 0)] ++ G') (s := s.set m true) (L := a ++ [(m : Int)]) (f := [(31, .cells [.int .i64 (m : Int), .int .i64 0]), (6, .cells (frs (pre ++ (i, j + 1) :: (m, 0) :: G'))), (5, .cells (bls (s.set m true)))]) (by simp [getF]) rfl rfl rfl rfl rfl (by omega) (by omega) (by omega) (by omega) (by omega) (by omega))⟩
        | nil =>
         have hap := appP2 (l := pre ++ [(i, j + 1)]) (m := m) (s := s.set m true) (f0 := [(30, .cells (ints (a ++ [(m : Int)]))), (2, LB), (1, .cells [.slc 30 0 (a.length + 1) (.rest 1)]), (0, .cells [aNodes t])]) (by simp; omega)
         simp only [List.length_append, List.length_singleton, List.append_assoc, List.singleton_append] at hap
         repeat apply wq
         refine wps_region callOK ?_
         simp [zS, bF1, hap]
         exact hB _ ⟨pre ++ [(i, j + 1)] ++ [(m, 0)], [], .rest 2, s.set m true, a ++ [(m : Int)], c + 1⟩ hme (hok _ _ rfl) ⟨[(32, 6), (5, 5), (30, 4), (2, 2), (1, 1), (0, 0)], [], rfl, rfl, rfl, by simp [fitL, fitV, lookN, pureV, pureL], FitH.eqL (by simp [hR]) (fit_R (t := t) (LB := LB) hR0.fit (m := 33) (a := 32) (b := 5) (k := 30) (P := pre ++ [(i, j + 1)] ++ [(m, 0)] ++ []) (s := s.set m true) (L := a ++ [(m : Int)]) (f := [(32, .cells (frs (pre ++ [(i, j + 1), (m, 0)]))), (31, .cells [.int .i64 (m : Int), .int .i64 0]), (5, .cells (bls (s.set m true)))]) (by simp [getF]) rfl rfl rfl rfl rfl (by omega) (by omega) (by omega) (by omega) (by omega) (by omega))⟩
       ·have hG : G = [] := List.length_eq_zero_iff.1 (by omega)
        have hpre : pre = [] := List.length_eq_zero_iff.1 (by omega)
        subst hc hG hpre
        have hap := appP3 (l := [(i, j + 1)]) (m := m) (s := s.set m true) (f0 := [(30, .cells (ints (a ++ [(m : Int)]))), (2, LB), (1, .cells [.slc 30 0 (a.length + 1) (.rest 1)]), (0, .cells [aNodes t])]) rfl
        simp only [List.length_append, List.length_singleton, List.append_assoc, List.singleton_append] at hap
        repeat apply wq
        refine wps_region callOK ?_
        simp [zS, bF1, hap]
        exact hB _ ⟨[] ++ [(i, j + 1)] ++ [(m, 0)], [], .rest 2, s.set m true, a ++ [(m : Int)], c + 1⟩ hme (hok _ _ rfl) ⟨[(32, 6), (5, 5), (30, 4), (2, 2), (1, 1), (0, 0)], [], rfl, rfl, rfl, by simp [fitL, fitV, lookN, pureV, pureL], FitH.eqL (by simp [hR]) (fit_R (t := t) (LB := LB) hR0.fit (m := 33) (a := 32) (b := 5) (k := 30) (P := [] ++ [(i, j + 1)] ++ [(m, 0)] ++ []) (s := s.set m true) (L := a ++ [(m : Int)]) (f := [(32, .cells (frs [(i, j + 1), (m, 0)])), (31, .cells [.int .i64 (m : Int), .int .i64 0]), (6, .cells (frs [(i, j + 1)])), (5, .cells (bls (s.set m true)))]) (by simp [getF]) rfl rfl rfl rfl rfl (by omega) (by omega) (by omega) (by omega) (by omega) (by omega))⟩
      ·have h2s : s.getD m true = true := by cases hh : s.getD m true with
        | true => rfl
        | false => exact absurd hh h2
       have h2' : s[m]'(by omega) = true := by rw [List.getD_eq_getElem?_getD, List.getElem?_eq_getElem (by omega), Option.getD_some] at h2s; exact h2s
       have hst : stp t.length (kidsOf t) ((i, j) :: pre.reverse, s, a) = some ((i, j + 1) :: pre.reverse, s, a) := by
        simp only [stp, hk?]; rw [if_neg (fun hx => h2 (by simpa using hx.2.2))]
       repeat apply wq
       refine wps_region callOK ?_
       simp [zS, lenN, (show ¬ ((m : Int) < 0) by omega), h1', ixB h1, getB (show m < s.length by omega), h2']
       repeat apply wq
       refine wps_ct rfl ?_
       repeat apply wq
       refine wps_exit ?_
       simp
       exact hB _ ⟨pre ++ [(i, j + 1)], G, cap, s, a, c⟩ (by simp only [List.concat_eq_append, sm_app, sm]; omega) (skipit hst) ⟨[(6, 6), (5, 5), (4, 4), (2, 2), (1, 1), (0, 0)], [], rfl, rfl, rfl, by simp [fitL, fitV, lookN, pureV, pureL], fit_R (t := t) (LB := LB) hR0.fit (m := 30) (a := 6) (b := 5) (k := 4) (P := pre ++ [(i, j + 1)] ++ G) (s := s) (L := a) (f := [(6, .cells (frs (pre ++ (i, j + 1) :: G))), (5, .cells (bls s))]) (by simp [getF]) rfl rfl rfl rfl rfl (by omega) (by omega) (by omega) (by omega) (by omega) (by omega)⟩
     ·have h1' : t.length ≤ m := by omega
      have hst : stp t.length (kidsOf t) ((i, j) :: pre.reverse, s, a) = some ((i, j + 1) :: pre.reverse, s, a) := by
       simp only [stp, hk?]; rw [if_neg (fun hx => by omega)]
      repeat apply wq
      refine wps_region callOK ?_
      simp [zS, lenN, (show ¬ ((m : Int) < 0) by omega), h1']
      repeat apply wq
      refine wps_ct rfl ?_
      repeat apply wq
      refine wps_exit ?_
      simp
      exact hB _ ⟨pre ++ [(i, j + 1)], G, cap, s, a, c⟩ (by simp only [List.concat_eq_append, sm_app, sm]; omega) (skipit hst) ⟨[(6, 6), (5, 5), (4, 4), (2, 2), (1, 1), (0, 0)], [], rfl, rfl, rfl, by simp [fitL, fitV, lookN, pureV, pureL], fit_R (t := t) (LB := LB) hR0.fit (m := 30) (a := 6) (b := 5) (k := 4) (P := pre ++ [(i, j + 1)] ++ G) (s := s) (L := a) (f := [(6, .cells (frs (pre ++ (i, j + 1) :: G))), (5, .cells (bls s))]) (by simp [getF]) rfl rfl rfl rfl rfl (by omega) (by omega) (by omega) (by omega) (by omega) (by omega)⟩
   ·have hy := hR0.leave 17 (by omega) (pre ++ (i, j) :: G) s a i 0 (cnt c) (by omega)
    simp only [hR, fR, stepV] at hy
    repeat apply wq
    refine wps_cond (t := true) (by simp [opnd, St.get]; omega) (fun _ => ?_) fun h => by cases h
    repeat apply wq
    refine wps_region (callOKY [⟨2, _, _, _, _, hy⟩]) ?_
    simp [zS, getFr0, bS2, callY_hit]
    repeat apply wq
    refine wps_cf rfl ?_
    repeat apply wq
    refine wps_skip ?_
    simp
    have hc2 : cap = .rest 2 ∨ (cap = .ex 1 ∧ pre.length + 1 + G.length = 1) := hcap
    have hsl : ∀ m, sliceA Tryz.prog ⟨m, [[(6, .cells (frs (pre ++ (i, j) :: G))), (5, .cells (bls s))], [(4, .cells (ints a)), (2, LB), (1, .cells [.slc 4 0 a.length (.rest 1)]), (0, .cells [aNodes t])]]⟩ 106 (.slc 6 0 (pre.length + 1) cap) none (some (.int .i64 (pre.length : Int))) none = some (.slc 6 0 pre.length cap) := fun m =>
     slPath (cs := frs (pre ++ (i, j) :: G)) (kn := pre.length + 1 + G.length) (by simp [Heap.get, getFs, getF]) (by rw [len_frs]; simp; omega) (by omega) hc2
    repeat apply wq
    refine wps_region callOK ?_
    simp [zS, lenA, hw, opndO, hsl]
    repeat apply wq
    refine wps_region callOK ?_
    simp [zS, cnt_bin (show c < 120 by omega)]
    repeat apply wq
    refine wps_exit ?_
    simp
    refine hB _ ⟨pre, (i, j) :: G, cap, s, a, c + 1⟩ ?_ ⟨?_, hs, ha, ?_, fun e he => hpp e (by simp [he]), by simp only; omega, hau, by simp only; omega⟩ ⟨[(6, 6), (5, 5), (4, 4), (2, 2), (1, 1), (0, 0)], [], rfl, rfl, rfl, by simp [fitL, fitV, lookN, pureV, pureL], fit_R (t := t) (LB := LB) hR0.fit (m := 17) (a := 6) (b := 5) (k := 4) (P := pre ++ (i, j) :: G) (s := s) (L := a) (f := fR (pre ++ (i, j) :: G) s) rfl rfl rfl rfl rfl rfl (by omega) (by omega) (by omega) (by omega) (by omega) (by omega)⟩
    ·simp only [List.concat_eq_append, sm_app, sm]; omega
    ·simp only [cap1, List.length_cons]; rcases hc2 with h | ⟨h, h'⟩
     ·exact .inl h
     ·exact .inr ⟨h, by omega⟩
    ·refine hr.one ?_
     have : (kidsOf t i)[j]? = none := List.getElem?_eq_none (by omega)
     simp [stp, this]
  ·simp at h
end Go.Proofs.YtgpjifeeneeiaaaGreatDoor