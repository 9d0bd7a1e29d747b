/- The reference's Value; DocsHave's walk. No condition. -/
import Derived.Test.YtfgdcciaecajpaaGreatDoorMF
import Derived.Test.YtfgdcciaecajpaaGreatDoorChecked
namespace Go.Proofs.YtfgdcciaecajpaaGreatDoor
set_option linter.unusedSimpArgs false
set_option linter.unusedVariables false
open Go Go.RowKit
set_option maxRecDepth 100000
def keepTbl : List (List Nat) := [[], [], [], [0, 2, 3, 4, 5, 6, 7, 11, 12, 13], [0, 2, 3, 4], [0, 1, 2], [0, 1, 4, 5, 12], [0, 1, 2, 7], [0], [0, 1, 3, 4], [0, 1, 2, 3, 8], [0, 2, 3, 4, 7], [0, 2, 3, 4, 5, 6], [0, 2, 4, 8, 9, 10], [0, 2, 3], [0, 2], [0, 2, 3, 4], [0, 2, 3, 4, 5], [0, 2, 3, 4, 5], [0, 2, 9, 24], [0, 1, 4, 5], [0, 1, 2, 3], [0, 2], [0, 1, 2, 4], [0, 1, 2, 3, 6, 14, 15], [0, 1, 4, 5], [0, 1, 2, 6, 7, 8, 9], [0, 2], [0, 1, 2, 3, 8, 9, 10, 17, 24], [0, 2], [0, 1, 4], [0, 1, 4], [0, 1, 4], [0, 2], [0, 1, 4], [0, 2, 3], [0, 1, 4, 5, 6], [0, 1, 4, 13, 14, 23], [0, 2], [0, 1, 3, 4], [0, 1, 4, 8], [0, 1, 2, 3, 4, 5, 6, 7, 8], [0, 1, 2, 4], [0, 1, 2, 6, 7], [], [0, 1], [0, 1, 4], [0, 2, 3, 4], [0, 1, 2, 6], [0, 1, 4, 5, 6, 7, 8], [0, 1, 2, 4, 6, 7, 8, 9], [0, 1, 4, 5], [0, 2, 3], [0, 1, 2, 3, 7, 8, 9], [0, 1], [0, 1], [0, 1, 4, 5, 6, 7], [0, 1, 3], [0, 2, 4, 5, 6, 33, 34, 35], [0, 1, 4, 5, 15, 19, 39, 51], [0, 1, 4, 8, 48, 83, 104, 110, 116], [0, 1, 2, 3, 4, 5, 6, 12, 13, 14, 15], [0, 1, 4, 5, 7, 8], [0, 1], [0, 1, 2, 3, 6, 7], [0, 1, 4, 5, 6], [0, 1, 4, 5], [0, 1, 4], [0, 2, 3, 4], [0, 1, 4], [0, 2], [0, 2, 3, 4, 5], [0], [0, 1, 4, 5, 7, 8], [0, 1, 4], [0, 1, 2, 6, 7, 8, 12, 13], [0, 1, 4], [0, 2, 3, 5, 6, 32, 33, 34], [0], [0, 1, 2, 3, 8, 9], [0, 2], [0, 2], [0, 1], [0, 1, 2, 3, 8, 10, 51, 52, 53], [0, 1, 4], [0, 1, 2, 6, 7], [0, 1, 10, 14], [0, 1, 2], [0, 1, 2], [0, 1, 7, 27, 41, 48], [0, 2, 3], [0, 1, 2, 4], [0, 1, 4], [0, 2, 3, 4, 5], [0, 1, 4], [0, 1, 4, 5, 6], [0, 1, 4, 5, 6, 7, 8, 9, 10, 11, 12, 13], [0, 1, 4, 5, 7, 8], [0, 1, 4, 5, 6, 7, 8, 9, 10, 11, 14, 15, 47, 48, 49], [0, 2], [0, 1, 2, 3, 5, 6, 7, 8, 10, 11, 12], [0, 1, 4], [0, 1, 2, 6], [0, 1, 2, 6, 7, 10, 32, 41, 42], [0, 1], [0], [0, 1], [0, 2, 3, 4, 6, 7, 8], [0, 2], [0, 1, 4], [0, 1, 4], [0, 1, 4, 5, 6, 7], [0, 1, 4, 5, 6, 7], [0, 1, 3, 4, 5], [0, 1, 4, 5], [0, 1, 4], [0, 1, 2, 4, 5, 6, 7, 8, 13, 22, 23, 24, 42, 43, 44], [0, 1, 4], [0, 1, 4], [0, 1, 4], [0, 2, 3], [0, 1, 4], [0, 1, 4], [], [0, 2], [0, 1, 4, 5, 6, 7, 8, 9, 10], [0, 1, 2], [0, 1, 2, 3, 4, 6, 7, 8, 10, 11, 13, 14, 15], [0, 1, 2, 3, 5, 6], [0, 1, 2, 3, 5, 6, 7], [0, 1, 4], [0, 1, 2, 3, 5, 6, 8, 9, 10, 15, 16, 17], [0, 1, 3, 4], [0, 1, 2, 6, 7], [0, 1, 2], [0, 1, 4, 5, 6, 7, 8, 9, 10, 11], [0, 1, 3, 4], [0, 1, 2, 4, 5], [0, 1, 4, 8], [0, 2, 3, 4, 5, 6, 7, 8, 9, 10, 11, 12], [0, 1, 4, 5, 6, 7, 8, 9, 10, 11, 12, 13, 14, 15, 16, 175, 176], [], [0, 2, 3, 4, 5, 6, 7, 8], [0, 1, 3], [0, 1, 4, 5], [0, 1, 2, 4, 5], [0, 1, 4, 5, 6], [0, 1, 2, 3, 5], [0, 1, 2, 4, 5], [0, 1, 3], [0, 1, 2], [0, 1, 4], [0, 1, 4, 5, 6, 7, 8, 9], [0, 1, 4, 5], [0, 1, 2, 6, 8, 39, 40, 41], [0, 1, 2], [0, 1, 4], [0, 1, 2, 6], [0, 1, 4, 5, 7, 8], [0, 1, 2, 3], [0, 1, 4, 5, 7, 8], [0, 1, 3], [0, 2, 3, 4, 5, 8, 9, 10], [0, 2], [0, 1, 2, 3, 6, 7, 8, 9, 10, 11, 12, 13, 14, 15, 16, 29, 30, 31], [0, 1, 4], [0, 2], [0, 1, 4, 5], [0, 2, 3, 5, 6, 8, 9, 10, 11, 25, 26, 27], [0, 1, 4, 5, 7, 9, 11, 18, 19, 20, 27, 28, 29, 38, 39, 40], [0, 1, 4], [], [], [], [], [], [], [], [], [], [], [], [], [], [], [], [], [], [], [], [], []]
@[simp] theorem szT3 : sizeT Tryz.prog 3 = some 1 := rfl
@[simp] theorem agT3 : aggT Tryz.prog 3 = some false := rfl
@[simp] theorem byT3 : bytesT Tryz.prog 3 = some 8 := rfl
@[simp] theorem alT3 (H : Heap) : alV Tryz.prog H 3 = some (.ptr H.n 0, H.new (.cells [.int .i64 0])) := rfl
@[simp] theorem zeT3 : zeroOf Tryz.prog 3 = some (.int .i64 0) := rfl
attribute [simp] Tryz.underlying3
@[simp 500] theorem rvF3 (H : Heap) (cs : List AV) (o : Nat) : readVar Tryz.prog H 3 (.fptr cs o) = getL cs o := rfl
@[simp 500] theorem rvP3 (H : Heap) (b o : Nat) : readVar Tryz.prog H 3 (.ptr b o) = (H.get b).bind fun k => k.rd.bind fun cs => getL cs o := rfl
@[simp] theorem szT4 : sizeT Tryz.prog 4 = some 1 := rfl
@[simp] theorem agT4 : aggT Tryz.prog 4 = some false := rfl
@[simp] theorem byT4 : bytesT Tryz.prog 4 = some 1 := rfl
@[simp] theorem alT4 (H : Heap) : alV Tryz.prog H 4 = some (.ptr H.n 0, H.new (.cells [.bool false])) := rfl
@[simp] theorem zeT4 : zeroOf Tryz.prog 4 = some (.bool false) := rfl
attribute [simp] Tryz.underlying4
@[simp 500] theorem rvF4 (H : Heap) (cs : List AV) (o : Nat) : readVar Tryz.prog H 4 (.fptr cs o) = getL cs o := rfl
@[simp 500] theorem rvP4 (H : Heap) (b o : Nat) : readVar Tryz.prog H 4 (.ptr b o) = (H.get b).bind fun k => k.rd.bind fun cs => getL cs o := rfl
@[simp] theorem beq4 (a b : Bool) : binA Tryz.prog .eql 4 (.bool a) (.bool b) = some (.bool (a == b)) := rfl
@[simp] theorem bne4 (a b : Bool) : binA Tryz.prog .neq 4 (.bool a) (.bool b) = some (.bool !(a == b)) := rfl
@[simp] theorem szT5 : sizeT Tryz.prog 5 = some 1 := rfl
@[simp] theorem agT5 : aggT Tryz.prog 5 = some false := rfl
@[simp] theorem byT5 : bytesT Tryz.prog 5 = some 1 := rfl
@[simp] theorem alT5 (H : Heap) : alV Tryz.prog H 5 = some (.ptr H.n 0, H.new (.cells [.int .u8 0])) := rfl
@[simp] theorem zeT5 : zeroOf Tryz.prog 5 = some (.int .u8 0) := rfl
attribute [simp] Tryz.underlying5
@[simp 500] theorem rvF5 (H : Heap) (cs : List AV) (o : Nat) : readVar Tryz.prog H 5 (.fptr cs o) = getL cs o := rfl
@[simp 500] theorem rvP5 (H : Heap) (b o : Nat) : readVar Tryz.prog H 5 (.ptr b o) = (H.get b).bind fun k => k.rd.bind fun cs => getL cs o := rfl
@[simp] theorem szT9 : sizeT Tryz.prog 9 = some 1 := rfl
@[simp] theorem agT9 : aggT Tryz.prog 9 = some false := rfl
@[simp] theorem byT9 : bytesT Tryz.prog 9 = some 16 := rfl
@[simp] theorem alT9 (H : Heap) : alV Tryz.prog H 9 = some (.ptr H.n 0, H.new (.cells [.str []])) := rfl
@[simp] theorem zeT9 : zeroOf Tryz.prog 9 = some (.str []) := rfl
attribute [simp] Tryz.underlying9
@[simp 500] theorem rvF9 (H : Heap) (cs : List AV) (o : Nat) : readVar Tryz.prog H 9 (.fptr cs o) = getL cs o := rfl
@[simp 500] theorem rvP9 (H : Heap) (b o : Nat) : readVar Tryz.prog H 9 (.ptr b o) = (H.get b).bind fun k => k.rd.bind fun cs => getL cs o := rfl
@[simp] theorem szT25 : sizeT Tryz.prog 25 = some 1 := rfl
@[simp] theorem agT25 : aggT Tryz.prog 25 = some false := rfl
@[simp] theorem byT25 : bytesT Tryz.prog 25 = some 24 := rfl
@[simp] theorem alT25 (H : Heap) : alV Tryz.prog H 25 = some (.ptr H.n 0, H.new (.cells [.nilS])) := rfl
@[simp] theorem zeT25 : zeroOf Tryz.prog 25 = some (.nilS) := rfl
attribute [simp] Tryz.underlying25
@[simp 500] theorem rvF25 (H : Heap) (cs : List AV) (o : Nat) : readVar Tryz.prog H 25 (.fptr cs o) = getL cs o := rfl
@[simp 500] theorem rvP25 (H : Heap) (b o : Nat) : readVar Tryz.prog H 25 (.ptr b o) = (H.get b).bind fun k => k.rd.bind fun cs => getL cs o := rfl
@[simp] theorem slz25 (sz : Nat) (e : AV) (r : List AV) : binA Tryz.prog .eql 25 (.fslc sz (e :: r)) .nilS = some (.bool false) := rfl
@[simp] theorem sln25 (sz : Nat) (e : AV) (r : List AV) : binA Tryz.prog .neq 25 (.fslc sz (e :: r)) .nilS = some (.bool true) := rfl
@[simp] theorem slze25 : binA Tryz.prog .eql 25 .eslc .nilS = some (.bool false) := rfl
@[simp] theorem slzz25 : binA Tryz.prog .eql 25 .nilS .nilS = some (.bool true) := rfl
@[simp] theorem szT29 : sizeT Tryz.prog 29 = some 1 := rfl
@[simp] theorem agT29 : aggT Tryz.prog 29 = some false := rfl
@[simp] theorem byT29 : bytesT Tryz.prog 29 = some 24 := rfl
@[simp] theorem alT29 (H : Heap) : alV Tryz.prog H 29 = some (.ptr H.n 0, H.new (.cells [.nilS])) := rfl
@[simp] theorem zeT29 : zeroOf Tryz.prog 29 = some (.nilS) := rfl
attribute [simp] Tryz.underlying29
@[simp 500] theorem rvF29 (H : Heap) (cs : List AV) (o : Nat) : readVar Tryz.prog H 29 (.fptr cs o) = getL cs o := rfl
@[simp 500] theorem rvP29 (H : Heap) (b o : Nat) : readVar Tryz.prog H 29 (.ptr b o) = (H.get b).bind fun k => k.rd.bind fun cs => getL cs o := rfl
@[simp] theorem slz29 (sz : Nat) (e : AV) (r : List AV) : binA Tryz.prog .eql 29 (.fslc sz (e :: r)) .nilS = some (.bool false) := rfl
@[simp] theorem sln29 (sz : Nat) (e : AV) (r : List AV) : binA Tryz.prog .neq 29 (.fslc sz (e :: r)) .nilS = some (.bool true) := rfl
@[simp] theorem slze29 : binA Tryz.prog .eql 29 .eslc .nilS = some (.bool false) := rfl
@[simp] theorem slzz29 : binA Tryz.prog .eql 29 .nilS .nilS = some (.bool true) := rfl
@[simp] theorem szT31 : sizeT Tryz.prog 31 = some 1 := rfl
@[simp] theorem agT31 : aggT Tryz.prog 31 = some true := rfl
@[simp] theorem byT31 : bytesT Tryz.prog 31 = some 24 := rfl
@[simp] theorem alT31 (H : Heap) : alV Tryz.prog H 31 = some (.ptr H.n 0, H.new (.cells [.nilS])) := rfl
@[simp] theorem zeT31 : zeroOf Tryz.prog 31 = some (.agg [.nilS]) := rfl
attribute [simp] Tryz.underlying31
@[simp 500] theorem rvF31 (H : Heap) (cs : List AV) (o : Nat) : readVar Tryz.prog H 31 (.fptr cs o) = (subL o 1 cs).bind fun cs => some (.agg cs) := rfl
@[simp 500] theorem rvP31 (H : Heap) (b o : Nat) : readVar Tryz.prog H 31 (.ptr b o) = (readCells H b o 1).bind fun cs => some (.agg cs) := rfl
@[simp] theorem fa31_0 (x : AV) : fieldAddrA Tryz.prog 31 x 0 = (match x with | .ptr b o => some (.ptr b (o + 0)) | .fptr cs o => some (.fptr cs (o + 0)) | _ => none) := rfl
@[simp] theorem fd31_0 (cs : List AV) : fieldA Tryz.prog 31 (.agg cs) 0 = getL cs 0 := rfl
@[simp] theorem szT32 : sizeT Tryz.prog 32 = some 1 := rfl
@[simp] theorem agT32 : aggT Tryz.prog 32 = some false := rfl
@[simp] theorem byT32 : bytesT Tryz.prog 32 = some 24 := rfl
@[simp] theorem alT32 (H : Heap) : alV Tryz.prog H 32 = some (.ptr H.n 0, H.new (.cells [.nilS])) := rfl
@[simp] theorem zeT32 : zeroOf Tryz.prog 32 = some (.nilS) := rfl
attribute [simp] Tryz.underlying32
@[simp 500] theorem rvF32 (H : Heap) (cs : List AV) (o : Nat) : readVar Tryz.prog H 32 (.fptr cs o) = getL cs o := rfl
@[simp 500] theorem rvP32 (H : Heap) (b o : Nat) : readVar Tryz.prog H 32 (.ptr b o) = (H.get b).bind fun k => k.rd.bind fun cs => getL cs o := rfl
@[simp] theorem slz32 (sz : Nat) (e : AV) (r : List AV) : binA Tryz.prog .eql 32 (.fslc sz (e :: r)) .nilS = some (.bool false) := rfl
@[simp] theorem sln32 (sz : Nat) (e : AV) (r : List AV) : binA Tryz.prog .neq 32 (.fslc sz (e :: r)) .nilS = some (.bool true) := rfl
@[simp] theorem slze32 : binA Tryz.prog .eql 32 .eslc .nilS = some (.bool false) := rfl
@[simp] theorem slzz32 : binA Tryz.prog .eql 32 .nilS .nilS = some (.bool true) := rfl
@[simp] theorem szT43 : sizeT Tryz.prog 43 = some 7 := rfl
@[simp] theorem agT43 : aggT Tryz.prog 43 = some true := rfl
@[simp] theorem byT43 : bytesT Tryz.prog 43 = some 104 := rfl
@[simp] theorem alT43 (H : Heap) : alV Tryz.prog H 43 = some (.ptr H.n 0, H.new (.cells [.int .i64 0, .int .i64 0, .str [], .nilS, .str [], .int .i64 0, .nilS])) := rfl
@[simp] theorem zeT43 : zeroOf Tryz.prog 43 = some (.agg [.int .i64 0, .int .i64 0, .str [], .nilS, .str [], .int .i64 0, .nilS]) := rfl
attribute [simp] Tryz.underlying43
@[simp 500] theorem rvF43 (H : Heap) (cs : List AV) (o : Nat) : readVar Tryz.prog H 43 (.fptr cs o) = (subL o 7 cs).bind fun cs => some (.agg cs) := rfl
@[simp 500] theorem rvP43 (H : Heap) (b o : Nat) : readVar Tryz.prog H 43 (.ptr b o) = (readCells H b o 7).bind fun cs => some (.agg cs) := rfl
@[simp] theorem fa43_0 (x : AV) : fieldAddrA Tryz.prog 43 x 0 = (match x with | .ptr b o => some (.ptr b (o + 0)) | .fptr cs o => some (.fptr cs (o + 0)) | _ => none) := rfl
@[simp] theorem fd43_0 (cs : List AV) : fieldA Tryz.prog 43 (.agg cs) 0 = getL cs 0 := rfl
@[simp] theorem fa43_1 (x : AV) : fieldAddrA Tryz.prog 43 x 1 = (match x with | .ptr b o => some (.ptr b (o + 1)) | .fptr cs o => some (.fptr cs (o + 1)) | _ => none) := rfl
@[simp] theorem fd43_1 (cs : List AV) : fieldA Tryz.prog 43 (.agg cs) 1 = getL cs 1 := rfl
@[simp] theorem fa43_2 (x : AV) : fieldAddrA Tryz.prog 43 x 2 = (match x with | .ptr b o => some (.ptr b (o + 2)) | .fptr cs o => some (.fptr cs (o + 2)) | _ => none) := rfl
@[simp] theorem fd43_2 (cs : List AV) : fieldA Tryz.prog 43 (.agg cs) 2 = getL cs 2 := rfl
@[simp] theorem fa43_3 (x : AV) : fieldAddrA Tryz.prog 43 x 3 = (match x with | .ptr b o => some (.ptr b (o + 3)) | .fptr cs o => some (.fptr cs (o + 3)) | _ => none) := rfl
@[simp] theorem fd43_3 (cs : List AV) : fieldA Tryz.prog 43 (.agg cs) 3 = getL cs 3 := rfl
@[simp] theorem fa43_4 (x : AV) : fieldAddrA Tryz.prog 43 x 4 = (match x with | .ptr b o => some (.ptr b (o + 4)) | .fptr cs o => some (.fptr cs (o + 4)) | _ => none) := rfl
@[simp] theorem fd43_4 (cs : List AV) : fieldA Tryz.prog 43 (.agg cs) 4 = getL cs 4 := rfl
@[simp] theorem fa43_5 (x : AV) : fieldAddrA Tryz.prog 43 x 5 = (match x with | .ptr b o => some (.ptr b (o + 5)) | .fptr cs o => some (.fptr cs (o + 5)) | _ => none) := rfl
@[simp] theorem fd43_5 (cs : List AV) : fieldA Tryz.prog 43 (.agg cs) 5 = getL cs 5 := rfl
@[simp] theorem fa43_6 (x : AV) : fieldAddrA Tryz.prog 43 x 6 = (match x with | .ptr b o => some (.ptr b (o + 6)) | .fptr cs o => some (.fptr cs (o + 6)) | _ => none) := rfl
@[simp] theorem fd43_6 (cs : List AV) : fieldA Tryz.prog 43 (.agg cs) 6 = getL cs 6 := rfl
@[simp] theorem szT53 : sizeT Tryz.prog 53 = some 2 := rfl
@[simp] theorem agT53 : aggT Tryz.prog 53 = some true := rfl
@[simp] theorem byT53 : bytesT Tryz.prog 53 = some 32 := rfl
@[simp] theorem alT53 (H : Heap) : alV Tryz.prog H 53 = some (.ptr H.n 0, H.new (.cells [.str [], .str []])) := rfl
@[simp] theorem zeT53 : zeroOf Tryz.prog 53 = some (.agg [.str [], .str []]) := rfl
attribute [simp] Tryz.underlying53
@[simp 500] theorem rvF53 (H : Heap) (cs : List AV) (o : Nat) : readVar Tryz.prog H 53 (.fptr cs o) = (subL o 2 cs).bind fun cs => some (.agg cs) := rfl
@[simp 500] theorem rvP53 (H : Heap) (b o : Nat) : readVar Tryz.prog H 53 (.ptr b o) = (readCells H b o 2).bind fun cs => some (.agg cs) := rfl
@[simp] theorem fa53_0 (x : AV) : fieldAddrA Tryz.prog 53 x 0 = (match x with | .ptr b o => some (.ptr b (o + 0)) | .fptr cs o => some (.fptr cs (o + 0)) | _ => none) := rfl
@[simp] theorem fd53_0 (cs : List AV) : fieldA Tryz.prog 53 (.agg cs) 0 = getL cs 0 := rfl
@[simp] theorem fa53_1 (x : AV) : fieldAddrA Tryz.prog 53 x 1 = (match x with | .ptr b o => some (.ptr b (o + 1)) | .fptr cs o => some (.fptr cs (o + 1)) | _ => none) := rfl
@[simp] theorem fd53_1 (cs : List AV) : fieldA Tryz.prog 53 (.agg cs) 1 = getL cs 1 := rfl
@[simp] theorem szT96 : sizeT Tryz.prog 96 = some 1 := rfl
@[simp] theorem agT96 : aggT Tryz.prog 96 = some false := rfl
@[simp] theorem byT96 : bytesT Tryz.prog 96 = some 24 := rfl
@[simp] theorem alT96 (H : Heap) : alV Tryz.prog H 96 = some (.ptr H.n 0, H.new (.cells [.nilS])) := rfl
@[simp] theorem zeT96 : zeroOf Tryz.prog 96 = some (.nilS) := rfl
attribute [simp] Tryz.underlying96
@[simp 500] theorem rvF96 (H : Heap) (cs : List AV) (o : Nat) : readVar Tryz.prog H 96 (.fptr cs o) = getL cs o := rfl
@[simp 500] theorem rvP96 (H : Heap) (b o : Nat) : readVar Tryz.prog H 96 (.ptr b o) = (H.get b).bind fun k => k.rd.bind fun cs => getL cs o := rfl
@[simp] theorem slz96 (sz : Nat) (e : AV) (r : List AV) : binA Tryz.prog .eql 96 (.fslc sz (e :: r)) .nilS = some (.bool false) := rfl
@[simp] theorem sln96 (sz : Nat) (e : AV) (r : List AV) : binA Tryz.prog .neq 96 (.fslc sz (e :: r)) .nilS = some (.bool true) := rfl
@[simp] theorem slze96 : binA Tryz.prog .eql 96 .eslc .nilS = some (.bool false) := rfl
@[simp] theorem slzz96 : binA Tryz.prog .eql 96 .nilS .nilS = some (.bool true) := rfl
attribute [simp] opndO_s
noncomputable def ctx (T : List (Entry Tryz.prog)) : Ctx := mkC Tryz.prog (fun f => (getL keepTbl f).getD []) T
@[simp] theorem mkC_P (T : List (Entry Tryz.prog)) : (ctx T).P = Tryz.prog := rfl
theorem mixed : Tryz.prog.follows .mixedOrders = true := by decide +kernel
theorem callOK {T : List (Entry Tryz.prog)} : CallOK (ctx T) (callL (ctx T)) := mkC_call _ _ T mixed
theorem callOKF {T : List (Entry Tryz.prog)} (l : List (Fact (ctx T))) : CallOK (ctx T) (callF l (callL (ctx T))) := callF_ok callOK l
abbrev Str := List UInt8
@[simp] theorem lenStr (H : Heap) (s : Str) : lenA Tryz.prog H 9 (.str s) = some s.length := by simp [lenA]
theorem ixStr {s : Str} {i : Nat} (h : i < s.length) : indexA Tryz.prog 9 (.str s) (.int .i64 (i : Int)) = some (.int .u8 (s[i]'h).toNat) := by
 simp [indexA, idx_nat h, getL_get h]
theorem slStr {H : Heap} {s : Str} {i : Nat} (h : i ≤ s.length) : sliceA Tryz.prog H 9 (.str s) (some (.int .i64 (i : Int))) none none = some (.str (s.drop i)) := by
 simp [sliceA, hiOK, bound, idx_nat (Nat.lt_succ_of_le h)]
theorem slStrTo {H : Heap} {s : Str} {j : Nat} (h : j ≤ s.length) : sliceA Tryz.prog H 9 (.str s) none (some (.int .i64 (j : Int))) none = some (.str (s.take j)) := by
 simp [sliceA, hiOK, bound, idx_nat (Nat.lt_succ_of_le h)]
theorem catStr {x y : Str} (h : x.length + y.length ≤ 1000000000000) : binA Tryz.prog .add 9 (.str x) (.str y) = some (.str (x ++ y)) := by
 simp [binA, strOp]; omega
@[simp] theorem eqStr (x y : Str) : binA Tryz.prog .eql 9 (.str x) (.str y) = some (.bool (decide (x = y))) := by simp [binA, strOp, eqB_eq]
@[simp] theorem neStr (x y : Str) : binA Tryz.prog .neq 9 (.str x) (.str y) = some (.bool !(decide (x = y))) := by simp [binA, strOp, eqB_eq]
abbrev aStrs (L : List Str) : AV := .fslc 1 (L.map .str)
theorem el_str (L : List Str) : Elems 1 (L.map AV.str) := .map (sz := 1) (f := AV.str) (by decide) (fun x => ⟨rfl, rfl, fun _ => rfl, fun h => absurd rfl h⟩) L
theorem atS {L : List Str} {i : Nat} (h : i < L.length) : indexAddrA Tryz.prog 96 (aStrs L) (.int .i64 (i : Int)) = some (.fptr [.str L[i]] 0) := by
 simp [indexAddrA, aStrs, idx_nat h, getL_map h, AV.cells]
theorem lenS {H : Heap} {L : List Str} : lenA Tryz.prog H 96 (aStrs L) = some L.length := by simp [lenA, aStrs]
theorem inj_str2 (x y : Str × Str) (h : [AV.str x.1, AV.str x.2] = [AV.str y.1, AV.str y.2]) : x = y := by
 simp at h; exact Prod.ext h.1 h.2
theorem inj_strs {L M : List Str} (h : aStrs L = aStrs M) : L = M := by
 simp only [aStrs, AV.fslc.injEq, true_and] at h
 exact List.map_inj_right (fun _ _ h => by simpa using h) |>.1 h
theorem inj_u8 (x y : UInt8) (h : [AV.int .u8 (x.toNat : Int)] = [AV.int .u8 (y.toNat : Int)]) : x = y := by
 simp only [List.cons.injEq, AV.int.injEq, true_and, and_true] at h
 exact UInt8.toNat_inj.1 (by omega)
def sp (c : UInt8) : Bool := decide ((c.toNat : Int) = 9) || (decide ((c.toNat : Int) = 10) || (decide ((c.toNat : Int) = 12) || (decide ((c.toNat : Int) = 13) || decide ((c.toNat : Int) = 32))))
def wstep (st : List Str × Str) (c : UInt8) : List Str × Str := if sp c = true then (if st.2 = [] then st.1 else st.1 ++ [st.2], []) else (st.1, st.2 ++ [c])
def wst (s : Str) : List Str × Str := s.foldl wstep ([], [])
def wfin (st : List Str × Str) : List Str := if st.2 = [] then st.1 else st.1 ++ [st.2]
def wsplit (s : Str) : List Str := wfin (wst s)
theorem wst_at {s : Str} {i : Nat} (h : i < s.length) : wst (s.take (i + 1)) = wstep (wst (s.take i)) s[i] := by
 rw [List.take_succ_eq_append_getElem h]
 simp only [wst, List.foldl_append, List.foldl_cons, List.foldl_nil]
theorem wst_len (s : Str) : (wst s).2.length ≤ s.length ∧ (wst s).1.length ≤ s.length := by
 have key : ∀ (s : Str) (st : List Str × Str), (s.foldl wstep st).2.length ≤ st.2.length + s.length ∧ (s.foldl wstep st).1.length ≤ st.1.length + s.length := by
  intro s
  induction s with
  | nil => intro st; simp
  | cons c r ih =>
   intro st
   have := ih (wstep st c)
   simp only [List.foldl_cons, List.length_cons]
   have h1 : (wstep st c).2.length ≤ st.2.length + 1 ∧ (wstep st c).1.length ≤ st.1.length + 1 := by
    unfold wstep
    split
    ·split <;> simp
    ·simp
   omega
 have := key s ([], [])
 simp only [wst]
 simp at this
 exact this
def inW (w x : Str) : Bool := decide (x ∈ wsplit w)
theorem wsplit_len (s : Str) : (wsplit s).length ≤ s.length + 1 := by
 have := wst_len s
 unfold wsplit wfin
 split <;> simp <;> omega
def isTrueE : Option (AV × Heap) → Bool
 | some (.bool b, _) => b
 | _ => false
def eqN : Str → Str → Bool
 | [], l => match l with | [] => true | _ :: _ => false
 | a :: x, l => match l with
  | [] => false
  | b :: y => match Nat.beq a.toNat b.toNat with
   | true => eqN x y
   | false => false
theorem eqN_eq : ∀ (x y : Str), eqN x y = decide (x = y)
 | [], [] => rfl
 | [], _ :: _ => by simp [eqN]
 | _ :: _, [] => by simp [eqN]
 | a :: x, b :: y => by
  unfold eqN
  simp only
  split
  ·rename_i h
   have := UInt8.toNat_inj.1 (Nat.eq_of_beq_eq_true h)
   subst this
   rw [eqN_eq]; simp
  ·rename_i h
   have : ¬ a = b := fun e => by subst e; rw [Nat.beq_refl] at h; cases h
   simp [this]
def spN (n : Nat) : Bool := match Nat.beq n 32 with
 | true => true
 | false => match Nat.beq n 9 with
  | true => true
  | false => match Nat.beq n 10 with
   | true => true
   | false => match Nat.beq n 12 with
    | true => true
    | false => Nat.beq n 13
theorem spN_eq (c : UInt8) : spN c.toNat = sp c := by
 have k : ∀ m : Nat, Nat.beq c.toNat m = decide ((c.toNat : Int) = (m : Int)) := fun m => by
  by_cases h : c.toNat = m
  ·subst h; simp
  ·rw [beqN_ne h]; simp; omega
 unfold spN sp
 rw [k 32, k 9, k 10, k 12, k 13]
 simp only [Int.cast_ofNat_Int]
 by_cases h1 : (c.toNat : Int) = 9 <;> by_cases h2 : (c.toNat : Int) = 10 <;> by_cases h3 : (c.toNat : Int) = 12 <;> by_cases h4 : (c.toNat : Int) = 13 <;> by_cases h5 : (c.toNat : Int) = 32 <;> simp [h1, h2, h3, h4, h5]
def inN (x : Str) : Str → Option Str → Bool → Bool
 | [], w, some' => match some' with
  | true => match w with
   | some r => match r with | [] => true | _ :: _ => false
   | none => false
  | false => false
 | c :: r, w, some' => match spN c.toNat with
  | true => match some' with
   | true => match w with
    | some q => match q with
     | [] => true
     | _ :: _ => inN x r (some x) false
    | none => inN x r (some x) false
   | false => inN x r (some x) false
  | false => match w with
   | some q => match q with
    | [] => inN x r none true
    | d :: q => match Nat.beq d.toNat c.toNat with
     | true => inN x r (some q) true
     | false => inN x r none true
   | none => inN x r none true
def leftOf : Str → Str → Option Str
 | [], x => some x
 | a :: c, x => match x with
  | [] => none
  | b :: x => if b = a then leftOf c x else none
theorem leftOf_snoc : ∀ (cur x : Str) (c : UInt8), leftOf (cur ++ [c]) x = match leftOf cur x with
  | some q => (match q with | [] => none | d :: q => if d = c then some q else none)
  | none => none
 | [], x, c => by cases x <;> simp [leftOf]
 | a :: r, [], c => by simp [leftOf]
 | a :: r, b :: x, c => by
  simp only [List.cons_append, leftOf]
  by_cases h : b = a
  ·simp only [h, if_true]; exact leftOf_snoc r x c
  ·simp [h]
theorem leftOf_nil : ∀ (cur x : Str), leftOf cur x = some [] ↔ x = cur
 | [], x => by simp [leftOf]
 | a :: r, [] => by simp [leftOf]
 | a :: r, b :: x => by
  simp only [leftOf]
  by_cases h : b = a
  ·simp [h, leftOf_nil r x]
  ·simp [h]
theorem inN_eq (x : Str) (hx : x ≠ []) : ∀ (r : Str) (st : List Str × Str), x ∉ st.1 → inN x r (leftOf st.2 x) (!decide (st.2 = [])) = decide (x ∈ wfin (r.foldl wstep st))
 | [], st, hn => by
  simp only [List.foldl_nil, wfin]
  unfold inN
  by_cases h : st.2 = []
  ·simp [h, hn]
  ·simp only [h, decide_false, Bool.not_false, if_false]
   cases hl : leftOf st.2 x with
   | none =>
    have : ¬ x = st.2 := fun e => by rw [(leftOf_nil st.2 x).2 e] at hl; cases hl
    simp [hn, this]
   | some q =>
    cases q with
    | nil =>
     have := (leftOf_nil st.2 x).1 hl
     simp [this]
    | cons d q =>
     have : ¬ x = st.2 := fun e => by rw [(leftOf_nil st.2 x).2 e] at hl; cases hl
     simp [hn, this]
 | c :: r, st, hn => by
  show inN x (c :: r) _ _ = decide (x ∈ wfin (r.foldl wstep (wstep st c)))
  have grow : ∀ (r : Str) (st : List Str × Str), x ∈ st.1 → x ∈ (r.foldl wstep st).1 := by
   intro r
   induction r with
   | nil => exact fun _ h => h
   | cons c r ih =>
    intro st h
    refine ih _ ?_
    unfold wstep
    split
    ·split
     ·exact h
     ·exact List.mem_append_left _ h
    ·exact h
  rw [show inN x (c :: r) (leftOf st.2 x) (!decide (st.2 = [])) = (match spN c.toNat with
  | true => match (!decide (st.2 = [])) with
   | true => match leftOf st.2 x with
    | some q => match q with
     | [] => true
     | _ :: _ => inN x r (some x) false
    | none => inN x r (some x) false
   | false => inN x r (some x) false
  | false => match leftOf st.2 x with
   | some q => match q with
    | [] => inN x r none true
    | d :: q => match Nat.beq d.toNat c.toNat with
     | true => inN x r (some q) true
     | false => inN x r none true
   | none => inN x r none true) from rfl, spN_eq]
  cases hs : sp c with
  | true =>
   simp only
   by_cases h : st.2 = []
   ·have e : wstep st c = (st.1, []) := by simp [wstep, hs, h]
    rw [e]
    have ih := inN_eq x hx r (st.1, []) hn
    simp only [h, decide_true, Bool.not_true]
    simpa [leftOf] using ih
   ·have e : wstep st c = (st.1 ++ [st.2], []) := by simp [wstep, hs, h]
    rw [e]
    simp only [h, decide_false, Bool.not_false]
    by_cases hq : x = st.2
    ·rw [(leftOf_nil st.2 x).2 hq]
     simp only
     have hm := grow r (st.1 ++ [st.2], []) (by rw [hq]; simp)
     unfold wfin
     split
     ·simp [hm]
     ·simp [hm]
    ·have hn' : x ∉ st.1 ++ [st.2] := by simp [hn, hq]
     have ih := inN_eq x hx r (st.1 ++ [st.2], []) hn'
     simp only [leftOf, decide_true, Bool.not_true] at ih
     cases hl : leftOf st.2 x with
     | none => exact ih
     | some q =>
      cases q with
      | nil => exact absurd ((leftOf_nil st.2 x).1 hl) hq
      | cons d q => exact ih
  | false =>
   simp only
   have e : wstep st c = (st.1, st.2 ++ [c]) := by simp [wstep, hs]
   rw [e]
   have ih := inN_eq x hx r (st.1, st.2 ++ [c]) hn
   simp only [List.append_eq_nil_iff, List.cons_ne_nil, and_false, decide_false, Bool.not_false] at ih
   rw [leftOf_snoc] at ih
   cases hl : leftOf st.2 x with
   | none => rw [hl] at ih; exact ih
   | some q =>
    rw [hl] at ih
    cases q with
    | nil => exact ih
    | cons d q =>
     simp only at ih ⊢
     by_cases hd : d = c
     ·rw [if_pos hd] at ih
      rw [hd, Nat.beq_refl]; exact ih
     ·rw [if_neg hd] at ih
      rw [beqN_ne (fun e => hd (UInt8.toNat_inj.1 e))]; exact ih
theorem words_ne (s : Str) : [] ∉ wsplit s := by
 have key : ∀ (r : Str) (st : List Str × Str), [] ∉ st.1 → [] ∉ (r.foldl wstep st).1 := by
  intro r
  induction r with
  | nil => exact fun _ h => h
  | cons c r ih =>
   intro st h
   refine ih _ ?_
   unfold wstep
   split
   ·split
    ·exact h
    ·rename_i h2
     simp only [List.mem_append, List.mem_singleton, not_or]
     exact ⟨h, fun e => h2 e.symm⟩
   ·exact h
 have := key s ([], []) (by simp)
 unfold wsplit wfin wst
 split
 ·exact this
 ·rename_i h2
  simp only [List.mem_append, List.mem_singleton, not_or]
  exact ⟨this, fun e => h2 e.symm⟩
def inB (w x : Str) : Bool := match x with
 | [] => false
 | _ :: _ => inN x w (some x) false
theorem inB_eq (w x : Str) : inB w x = inW w x := by
 unfold inB
 split
 ·simp [inW, words_ne]
 ·rename_i a r
  have := inN_eq (a :: r) (by simp) w ([], []) (by simp)
  exact (show inN (a :: r) w (some (a :: r)) false = _ from this).trans (decide_eq_decide.2 Iff.rfl)
abbrev At1 := Str × Str
def aAttr (a : At1) : AV := .agg [.str a.1, .str a.2]
def aAttrs (L : List At1) : AV := .fslc 2 (L.map aAttr)
@[simp] theorem cells_aAttr (a : At1) : (aAttr a).cells = [.str a.1, .str a.2] := rfl
@[simp] theorem pure_aAttr (a : At1) : pureV (aAttr a) = true := by simp [aAttr, pureV, pureL]
@[simp] theorem pure_aAttrs (L : List At1) : pureV (aAttrs L) = true := by simp [aAttrs, pureV]
@[simp] theorem ok_aAttr (a : At1) : okV (aAttr a) = true := by simp [aAttr, okV, pureV, pureL]
@[simp] theorem ok_aAttrs (L : List At1) : okV (aAttrs L) = true := by simp [aAttrs, okV, pureV]
theorem th_aAttrs (H : Heap) (L : List At1) : thawA H [2] (aAttrs L) = some (aAttrs L) := thawA_ok (by simp)
theorem inj_aAttr {a b : At1} (h : aAttr a = aAttr b) : a = b := by
 simp [aAttr] at h; exact Prod.ext h.1 h.2
theorem inj_aAttrs {L M : List At1} (h : aAttrs L = aAttrs M) : L = M := by
 simp only [aAttrs, AV.fslc.injEq, true_and] at h
 exact List.map_inj_right (fun _ _ => inj_aAttr) |>.1 h
theorem c159 {T : List (Entry Tryz.prog)} (a : At1) (nm : Str) : CallAt (ctx T) 159 [aAttr a, .fptr [.str nm] 0] ⟨0, []⟩ (.bool (decide (a.1 = nm))) ⟨0, []⟩ := by
 refine callAt_body (fn := Tryz.f159) (s0 := ⟨[0, 1, 2, 3], [aAttr a, .fptr [.str nm] 0, .undef, .undef], [], 8, ⟨0, [[]]⟩⟩) Tryz.func159 rfl rfl rfl ?_
 repeat apply wq
 refine wps_region callOK ?_
 simp [zS, aAttr]
 repeat apply wq
 refine wps_region callOK ?_
 simp [zS]
 repeat apply wq
 refine wps_ret ?_
 simp [retVal, Tryz.f159, oneOr]
 exact ⟨[], [], fitV_pure rfl, FitH.empty⟩
def idxFrom {α : Type} (p : α → Bool) : List α → Nat → Int
 | [], _ => -1
 | a :: r, k => if p a = true then k else idxFrom p r (k + 1)
theorem idxFrom_at {α : Type} {p : α → Bool} {L : List α} {i : Nat} (h : i < L.length) : idxFrom p (L.drop i) i = if p L[i] = true then (i : Int) else idxFrom p (L.drop (i + 1)) (i + 1) := by
 rw [List.drop_eq_getElem_cons h]; rfl
theorem atA {L : List At1} {i : Nat} (h : i < L.length) : indexAddrA Tryz.prog 25 (aAttrs L) (.int .i64 (i : Int)) = some (.fptr [.str L[i].1, .str L[i].2] 0) := by
 simp [indexAddrA, aAttrs, idx_nat h, getL_map h, aAttr, AV.cells]
theorem lenA1 {H : Heap} {L : List At1} : lenA Tryz.prog H 25 (aAttrs L) = some L.length := by simp [lenA, aAttrs]
theorem rdA1 {H : Heap} (a : At1) : readVar Tryz.prog H 53 (.fptr [.str a.1, .str a.2] 0) = some (aAttr a) := by simp [readVar, subL, takeL, aAttr]
theorem c158 {T : List (Entry Tryz.prog)} (L : List At1) (hl : L.length ≤ 1000) (clo : FuncId) (cap : List AV) (hc : pureL cap = true) (p : At1 → Bool) (hp : ∀ a, CallAt (ctx T) clo (aAttr a :: cap) ⟨0, []⟩ (.bool (p a)) ⟨0, []⟩) :
  CallAt (ctx T) 158 [aAttrs L, .func (.func clo) [] cap] ⟨0, []⟩ (.int .i64 (idxFrom p L 0)) ⟨0, []⟩ := by
 refine callAt_body (fn := Tryz.f158) (s0 := ⟨[0, 1, 4, 5, 7, 8], [aAttrs L, .func (.func clo) [] cap, .undef, .undef, .undef, .undef], [], 19, ⟨0, [[]]⟩⟩) Tryz.func158 rfl rfl rfl ?_
 repeat apply wq
 refine wps_region callOK ?_
 simp [zS]
 repeat apply wq
 refine wps_region callOK ?_
 simp [zS, lenA1]
 repeat apply wq
 refine wps_block (wps_loop' (fun i : Nat => (⟨[0, 1, 4, 5, 7, 8], [aAttrs L, .func (.func clo) [] cap, .undef, .undef, .int .i64 L.length, .int .i64 i], [], 19, ⟨0, [[]]⟩⟩ : St))
  (fun i => i ≤ L.length ∧ idxFrom p L 0 = idxFrom p (L.drop i) i) (fun i => L.length - i) [] [] 0 ⟨Nat.zero_le _, rfl⟩ ⟨rfl, rfl, rfl, by simp [fitL, fitV, pureV, pureL, hc], FitH.nothing⟩ ?_)
 rintro i ⟨hi, hx⟩ B hB
 repeat apply wq
 refine wps_region callOK ?_
 simp [zS]
 repeat apply wq
 refine wps_cond rfl (fun h => ?_) fun h => ?_
 ·simp at h
  repeat apply wq
  refine wps_skip ?_
  simp
  repeat apply wq
  refine wps_block ?_
  repeat apply wq
  refine wps_region callOK ?_
  simp [zS]
  repeat apply wq
  refine wps_region (callF_ok callOK [⟨clo, [aAttr L[i]] ++ cap, ⟨0, [[]]⟩, .bool (p L[i]), ⟨0, [[]]⟩, (hp L[i]).lift (by simp [pureL, hc]) _⟩]) ?_
  simp [zS, atA h, callF, rdA1]
  repeat apply wq
  refine wps_cond rfl (fun h2 => ?_) fun h2 => ?_
  ·repeat apply wq
   refine wps_region callOK ?_
   simp [zS]
   repeat apply wq
   refine wps_ret ?_
   simp [retVal, Tryz.f158, oneOr]
   refine ⟨[], [], ?_, FitH.empty⟩
   rw [hx, idxFrom_at h, if_pos h2]
   exact fitV_pure rfl
  ·repeat apply wq
   refine wps_skip ?_
   simp
   repeat apply wq
   refine wps_region callOK ?_
   simp [zS, add_one (show i ≤ 1000000000 by omega)]
   refine hB _ (i + 1) (by omega) ⟨by omega, ?_⟩ ⟨[], [], ⟨rfl, rfl, rfl, by simp [fitL, fitV, pureV, pureL, hc], FitH.nothing⟩⟩
   rw [hx, idxFrom_at h, h2]
   simp
 ·simp at h
  repeat apply wq
  refine wps_exit ?_
  simp
  repeat apply wq
  refine wps_region callOK ?_
  simp [zS]
  repeat apply wq
  refine wps_ret ?_
  simp [retVal, Tryz.f158, oneOr]
  refine ⟨[], [], ?_, FitH.empty⟩
  rw [hx, List.drop_eq_nil_of_le (by omega)]
  exact fitV_pure rfl
def placeL (L : List At1) (nm : Str) : Int := idxFrom (fun a => decide (a.1 = nm)) L 0
theorem c136 {T : List (Entry Tryz.prog)} (L : List At1) (nm : Str) (hl : L.length ≤ 1000) : CallAt (ctx T) 136 [aAttrs L, .str nm] ⟨0, []⟩ (.int .i64 (placeL L nm)) ⟨0, []⟩ := by
 refine callAt_body (fn := Tryz.f136) (s0 := ⟨[0, 1, 3, 4], [aAttrs L, .str nm, .undef, .undef], [], 8, ⟨0, [[]]⟩⟩) Tryz.func136 rfl rfl rfl ?_
 repeat apply wq
 refine wps_region callOK ?_
 simp [zS]
 repeat apply wq
 refine wps_region (callOKF [⟨158, [aAttrs L, .func (.func 159) [] [.ptr 0 0]], ⟨1, [[(0, .cells [.str nm])]]⟩, .int .i64 (placeL L nm), _,
  CallAt.thaw (c158 L hl 159 [.fptr [.str nm] 0] rfl (fun a => decide (a.1 = nm)) fun a => c159 a nm) rfl [] (by simp [thawA_ok, thawA_clo (H := ⟨1, [[(0, .cells [.str nm])]]⟩) (b := 0) (cs := [.str nm]) rfl rfl])⟩]) ?_
 simp [zS, callF]
 repeat apply wq
 refine wps_ret ?_
 simp [retVal, Tryz.f136, oneOr]
 exact ends_pure rfl rfl
noncomputable def e136 : Entry Tryz.prog := mkE 136 [[2], []] (fun x : List At1 × Str => [aAttrs x.1, .str x.2]) (fun x => x.1.length ≤ 1000) (fun x => .int .i64 (placeL x.1 x.2)) fun x hx => c136 (T := []) x.1 x.2 hx
theorem k136 {T : List (Entry Tryz.prog)} (hT : findE 136 T = some e136.g) {L : List At1} (nm : Str) (hl : L.length ≤ 1000) {H : Heap} {l : AV} (h : thawA H [2] l = some (aAttrs L)) : callL (ctx T) (.fn 136) [l, .str nm] H = some (.int .i64 (placeL L nm), H) :=
 mkE_scalar hT (fun x y h => by simp at h; exact Prod.ext (inj_aAttrs h.1) h.2) (L, nm) hl rfl (by simp [h])
structure Nd where
 kind : Int
 space : Int
 name : Str
 attrs : List At1
 data : Str
 up : Int
 kids : List Int
def aInt (i : Int) : AV := .int .i64 i
abbrev aInts (L : List Int) : AV := .fslc 1 (L.map aInt)
def Nd.cs (n : Nd) : List AV := [aInt n.kind, aInt n.space, .str n.name, aAttrs n.attrs, .str n.data, aInt n.up, aInts n.kids]
def aNode (n : Nd) : AV := .agg n.cs
abbrev Tr := List Nd
abbrev aNodes (t : Tr) : AV := .fslc 7 (t.map aNode)
def aTree (t : Tr) : AV := .agg [aNodes t]
@[simp] theorem pure_aInts (L : List Int) : pureV (aInts L) = true := by simp [aInts, pureV]
@[simp] theorem pure_aNode (n : Nd) : pureV (aNode n) = true := by simp [aNode, Nd.cs, aInt, pureV, pureL]
@[simp] theorem pure_aNodes (t : Tr) : pureV (aNodes t) = true := by simp [aNodes, pureV]
@[simp] theorem pure_aTree (t : Tr) : pureV (aTree t) = true := by simp [aTree, pureV, pureL]
@[simp] theorem cells_aNode (n : Nd) : (aNode n).cells = n.cs := rfl
@[simp] theorem cells_aTree (t : Tr) : (aTree t).cells = [aNodes t] := rfl
@[simp] theorem cells_aInt (i : Int) : (aInt i).cells = [aInt i] := rfl
@[simp] theorem ok_aNode (n : Nd) : okV (aNode n) = true := by simp [aNode, Nd.cs, aInt, aAttrs, aInts, okV, pureV, pureL]
theorem inj_aInts {L M : List Int} (h : aInts L = aInts M) : L = M := by
 simp only [aInts, AV.fslc.injEq, true_and] at h
 exact List.map_inj_right (fun x y e => by simp [aInt] at e; exact e) |>.1 h
theorem inj_aNode {a b : Nd} (h : aNode a = aNode b) : a = b := by
 obtain ⟨k, s, n, at_, d, u, ks⟩ := a
 obtain ⟨k', s', n', at', d', u', ks'⟩ := b
 simp [aNode, Nd.cs, aInt] at h
 obtain ⟨h1, h2, h3, h4, h5, h6, h7⟩ := h
 have h7' : aInts ks = aInts ks' := by show AV.fslc 1 _ = AV.fslc 1 _; rw [h7]
 simp [h1, h2, h3, inj_aAttrs h4, h5, h6, inj_aInts h7']
theorem inj_aTree {a b : Tr} (h : aTree a = aTree b) : a = b := by
 simp [aTree, aNodes] at h
 exact List.map_inj_right (fun x y e => inj_aNode e) |>.1 h
end Go.Proofs.YtfgdcciaecajpaaGreatDoor
namespace Go.Proofs.YtfgdcciaecajpaaGreatDoor
set_option linter.unusedSimpArgs false
set_option linter.unusedVariables false
structure Wk where
 l : List Int
 inn : List Int
 out : List Int
 c : Int
def negs (I : List Int) : Nat := I.countP fun x => decide (x < 0)
def into (i : Nat) (w : Wk) : Wk := ⟨w.l ++ [(i : Int)], w.inn.set i w.c, w.out, w.c + 1⟩
def outof (i : Nat) (w : Wk) : Wk := ⟨w.l, w.inn, w.out.set i w.c, w.c + 1⟩
structure WOK (n K : Nat) (w : Wk) : Prop where
 li : w.inn.length = n
 lo : w.out.length = n
 c0 : 0 ≤ w.c
 cb : w.c + 2 * (negs w.inn : Int) ≤ 2 * K
 lb : w.l.length + negs w.inn ≤ K
theorem negs_set {I : List Int} {i : Nat} {c : Int} (h : i < I.length) (hi : I.getD i 0 < 0) (hc : 0 ≤ c) : negs (I.set i c) + 1 = negs I := by
 induction I generalizing i with
 | nil => simp at h
 | cons x r ih =>
  cases i with
  | zero =>
   have hx : x < 0 := by simpa using hi
   have hc' : ¬ c < 0 := by omega
   simp [negs, List.countP_cons, hx, hc']
  | succ j =>
   have := ih (i := j) (by simpa using h) (by simpa using hi)
   simp only [negs, List.set_cons_succ, List.countP_cons] at this ⊢
   omega
theorem WOK.into {n K i : Nat} {w : Wk} (h : WOK n K w) (hi : i < n) (hn : w.inn.getD i 0 < 0) : WOK n K (into i w) ∧ negs (into i w).inn + 1 = negs w.inn ∧ (into i w).c + 2 * (negs (into i w).inn : Int) + 1 ≤ 2 * K := by
 have e := negs_set (I := w.inn) (by rw [h.li]; exact hi) hn h.c0
 have h1 := h.cb
 have h2 := h.lb
 have h3 := h.c0
 refine ⟨⟨by simp [Go.Proofs.YtfgdcciaecajpaaGreatDoor.into, h.li], h.lo, ?_, ?_, ?_⟩, e, ?_⟩ <;> simp only [Go.Proofs.YtfgdcciaecajpaaGreatDoor.into, List.length_append, List.length_singleton] <;> omega
abbrev Cfg := List (Nat × Nat) × List Bool × List Int
def stp (n : Nat) (ks : Nat → List Int) : Cfg → Option Cfg
 | ([], _, _) => none
 | ((i, j) :: p, s, a) => match (ks i)[j]? with
  | none => some (p, s, a)
  | some k => if 0 ≤ k ∧ k < (n : Int) ∧ s.getD k.toNat true = false then some ((k.toNat, 0) :: (i, j + 1) :: p, s.set k.toNat true, a ++ [k]) else some ((i, j + 1) :: p, s, a)
inductive Reach (n : Nat) (ks : Nat → List Int) : Cfg → Cfg → Prop where
 | refl (c : Cfg) : Reach n ks c c
 | step {c d e : Cfg} (h : stp n ks c = some d) (r : Reach n ks d e) : Reach n ks c e
theorem Reach.trans {n : Nat} {ks : Nat → List Int} {c d e : Cfg} (h : Reach n ks c d) (r : Reach n ks d e) : Reach n ks c e := by
 induction h with
 | refl => exact r
 | step h _ ih => exact .step h (ih r)
theorem Reach.one {n : Nat} {ks : Nat → List Int} {c d e : Cfg} (r : Reach n ks c d) (h : stp n ks d = some e) : Reach n ks c e := r.trans (.step h (.refl _))
end Go.Proofs.YtfgdcciaecajpaaGreatDoor
namespace Go.Proofs.YtfgdcciaecajpaaGreatDoor
set_option linter.unusedSimpArgs false
set_option linter.unusedVariables false
open Go Go.RowKit
set_option maxRecDepth 100000
def ints (L : List Int) : List AV := L.map aInt
@[simp] theorem ints_nil : ints [] = [] := rfl
@[simp] theorem len_ints (L : List Int) : (ints L).length = L.length := by simp [ints]
theorem el_int (L : List Int) : Elems 1 (ints L) := .map (sz := 1) (f := aInt) (by decide) (fun x => ⟨rfl, rfl, fun _ => rfl, fun h => absurd rfl h⟩) L
@[simp] theorem flat_ints (L : List Int) : flatAV (ints L) = ints L := by
 unfold ints
 induction L with
 | nil => rfl
 | cons x r ih => simp only [List.map_cons, flatAV, ih]; rfl
@[simp] theorem pure_ints (L : List Int) : pureL (ints L) = true := by have := (el_int L).pure; rwa [flat_ints] at this
theorem atI {L : List Int} {i : Nat} (h : i < L.length) : indexAddrA Tryz.prog 32 (aInts L) (.int .i64 (i : Int)) = some (.fptr [.int .i64 L[i]] 0) := by
 simp [indexAddrA, aInts, idx_nat h, getL_map h, aInt, AV.cells]
theorem atN {t : Tr} {i : Nat} (h : i < t.length) : indexAddrA Tryz.prog 29 (aNodes t) (.int .i64 (i : Int)) = some (.fptr (t[i]).cs 0) := by
 simp [indexAddrA, aNodes, idx_nat h, getL_map h]
theorem lenI {H : Heap} {L : List Int} : lenA Tryz.prog H 32 (aInts L) = some L.length := by simp [lenA, aInts]
theorem lenN {H : Heap} {t : Tr} : lenA Tryz.prog H 29 (aNodes t) = some t.length := by simp [lenA, aNodes]
def lA (b : Nat) (L : List Int) : AV := ownV b 1 (ints L)
def lF (b : Nat) (L : List Int) : List (Nat × Blk) := ownF b (ints L)
theorem FitH.rows {n : Nat} {σ : List (Nat × Nat)} {H H' : Heap} (nd1 : (σ.map (·.1)).Nodup) (nd2 : (σ.map (·.2)).Nodup) (nd3 : (H'.ents.map (·.1)).Nodup) (lt : ∀ x, x ∈ σ → x.2 < H'.n) (idn : ∀ x, x ∈ σ → x.1 < n ∨ x.2 < n → x.1 = x.2) (num : n ≤ H'.n)
  (src : ∀ e, e ∈ H'.ents → ∃ b cs, (b, e.1) ∈ σ ∧ H.get b = some (.cells cs) ∧ e.2 = .cells cs ∧ pureL cs = true) : FitH n σ [] H H' where
 nd1 := by simpa using nd1
 nd2 := nd2
 nd3 := nd3
 lt := lt
 idn := fun x hx h => idn x hx (.inr h)
 num := num
 src := fun e he => by
  obtain ⟨b, cs, h1, h2, h3, h4⟩ := src e he
  exact ⟨b, _, h1, h2, by rw [h3]; exact fitL_pure h4⟩
 frz := fun x h => by cases h
def hW (L I O : List Int) : Heap := ⟨3, [lF 2 L ++ [(0, .cells (ints I)), (1, .cells (ints O))]]⟩
def hW' (L I O : List Int) : Heap := ⟨4, [lF 3 L ++ [(0, .cells (ints I)), (1, .cells (ints O))]]⟩
def hL (t : Tr) (L I O : List Int) : Heap := ⟨5, [[(4, .cells (ints L)), (3, .cells [aNodes t])], [(0, .cells (ints I)), (1, .cells (ints O))]]⟩
theorem ixI {b n i : Nat} {cap : Cap} (h : i < n) : indexAddrA Tryz.prog 32 (.slc b 0 n cap) (.int .i64 (i : Int)) = some (.ptr b i) := by
 simp [indexAddrA, idx_nat h]
def hA (t : Tr) (I O : List Int) : Heap := ⟨3, [[(2, .cells (ints O)), (1, .cells (ints I)), (0, .cells [aNodes t])]]⟩
@[simp] theorem ok_aTree (t : Tr) : okV (aTree t) = true := by simp [aTree, aNodes, okV, pureV, pureL]
theorem sub_one {q : Nat} (h : q ≤ 1000000000) : wr .i64 (((q + 1 : Nat) : Int) - 1) = some (q : Int) := by
 rw [wr_small (by omega) (by omega)]; simp
structure LOK (n : Nat) (w : Wk) : Prop where
 li : w.inn.length = n
 c0 : 0 ≤ w.c
 rng : ∀ x, x ∈ w.l → 0 ≤ x ∧ x < (n : Int) ∧ 0 ≤ w.inn.getD x.toNat (-1)
 nd : w.l.Nodup
theorem LOK.into {n i : Nat} {w : Wk} (h : LOK n w) (hi : i < n) (hn : w.inn.getD i 0 < 0) : LOK n (into i w) where
 li := by simp [Go.Proofs.YtfgdcciaecajpaaGreatDoor.into, h.li]
 c0 := by have := h.c0; simp only [Go.Proofs.YtfgdcciaecajpaaGreatDoor.into]; omega
 rng := fun x hx => by
  have hl := h.li
  have hc := h.c0
  simp only [Go.Proofs.YtfgdcciaecajpaaGreatDoor.into, List.mem_append, List.mem_singleton] at hx ⊢
  have hset : ∀ j, j < n → (w.inn.set i w.c).getD j (-1) = if i = j then w.c else w.inn.getD j (-1) := fun j hj => by
   simp only [List.getD_eq_getElem?_getD, List.getElem?_set]
   split <;> simp_all
  rcases hx with hx | rfl
  ·obtain ⟨h1, h2, h3⟩ := h.rng x hx
   refine ⟨h1, h2, ?_⟩
   rw [hset _ (by omega)]
   split <;> omega
  ·refine ⟨by omega, by omega, ?_⟩
   rw [hset _ (by omega)]
   simp [hc]
 nd := by
  simp only [Go.Proofs.YtfgdcciaecajpaaGreatDoor.into]
  refine List.nodup_append.2 ⟨h.nd, by simp, ?_⟩
  intro a ha b hb
  simp at hb
  subst hb
  rintro rfl
  have h3 := (h.rng _ ha).2.2
  have hl := h.li
  simp only [List.getD_eq_getElem?_getD, Int.toNat_natCast] at h3 hn
  rw [List.getElem?_eq_getElem (by omega)] at h3 hn
  simp at h3 hn
  omega
theorem LOK.out {n i : Nat} {w : Wk} (h : LOK n w) : LOK n (outof i w) := ⟨h.li, by have := h.c0; simp only [outof]; omega, h.rng, h.nd⟩
def nd0 : Nd := ⟨0, 0, [], [], [], 0, []⟩
def nodeAt (t : Tr) (i : Int) : Nd := t.getD i.toNat nd0
theorem nodeAt_get {t : Tr} {i : Nat} (h : i < t.length) : nodeAt t (i : Int) = t[i] := by
 simp [nodeAt, List.getD_eq_getElem?_getD, List.getElem?_eq_getElem h]
theorem nodeAt_mem {t : Tr} {i : Int} (h0 : 0 ≤ i) (h : i < (t.length : Int)) : nodeAt t i ∈ t := by
 obtain ⟨j, rfl⟩ : ∃ j : Nat, i = j := ⟨i.toNat, by omega⟩
 rw [nodeAt_get (by omega)]
 exact List.getElem_mem _
theorem atX {t : Tr} {i : Int} (h0 : 0 ≤ i) (h : i < (t.length : Int)) : indexAddrA Tryz.prog 29 (aNodes t) (.int .i64 i) = some (.fptr (nodeAt t i).cs 0) := by
 obtain ⟨j, rfl⟩ : ∃ j : Nat, i = j := ⟨i.toNat, by omega⟩
 rw [atN (by omega), nodeAt_get (by omega)]
@[simp] theorem sub_cs (n : Nd) : subL 0 7 n.cs = some n.cs := rfl
theorem atIx {L : List Int} {i : Nat} (h : i < L.length) : indexAddrA Tryz.prog 32 (aInts L) (.int .i64 (i : Int)) = some (.fptr [.int .i64 L[i]] 0) := atI h
def fewAt (a : At1) : Bool := decide (a.1.length ≤ 40 ∧ a.2.length ≤ 150)
def fewAts (L : List At1) : Bool := decide (L.length ≤ 14) && L.all fewAt
theorem c13 {T : List (Entry Tryz.prog)} (L : List At1) : CallAt (ctx T) 13 [aAttrs L] ⟨0, []⟩ (.bool (fewAts L)) ⟨0, []⟩ := by
 refine callAt_body (fn := Tryz.f13) (s0 := ⟨[0, 2, 4, 8, 9, 10], [aAttrs L, .undef, .undef, .undef, .undef, .undef], [], 25, ⟨0, [[]]⟩⟩) Tryz.func13 rfl rfl rfl ?_
 repeat apply wq
 refine wps_region callOK ?_
 simp [zS]
 by_cases hl : 14 < L.length
 ·have hl' : (14 : Int) < (L.length : Int) := by omega
  repeat apply wq
  refine wps_region callOK ?_
  simp [zS, lenA1, hl']
  repeat apply wq
  refine wps_ct rfl ?_
  repeat apply wq
  refine wps_region callOK ?_
  simp [zS]
  repeat apply wq
  refine wps_ret ?_
  simp [retVal, Tryz.f13, oneOr, thenQ, blockQ]
  exact ends_pure rfl (by simp [fewAts]; omega)
 ·have hl' : ¬ (14 : Int) < (L.length : Int) := by omega
  repeat apply wq
  refine wps_region callOK ?_
  simp [zS, lenA1, hl']
  repeat apply wq
  refine wps_cf rfl ?_
  repeat apply wq
  refine wps_skip ?_
  simp
  repeat apply wq
  refine wps_region callOK ?_
  simp [zS, lenA1]
  repeat apply wq
  refine wps_block (wps_loop' (fun i : Nat => (⟨[0, 2, 4, 8, 9, 10], [aAttrs L, .undef, .undef, aAttrs L, .int .i64 (L.length : Nat), .int .i64 i], [], 25, ⟨0, [[]]⟩⟩ : St))
   (fun i => i ≤ L.length ∧ L.all fewAt = (L.drop i).all fewAt) (fun i => L.length - i) [] [] 0 ⟨Nat.zero_le _, by simp⟩ ⟨rfl, rfl, rfl, by simp [fitL, fitV, pureV, pureL, aAttrs], FitH.nothing⟩ ?_)
  rintro i ⟨hi, he⟩ B hB
  repeat apply wq
  refine wps_region callOK ?_
  simp [zS]
  repeat apply wq
  refine wps_cond rfl (fun h => ?_) fun h => ?_
  ·simp at h
   rw [List.drop_eq_getElem_cons h, List.all_cons] at he
   repeat apply wq
   refine wps_skip ?_
   simp
   repeat apply wq
   refine wps_block ?_
   repeat apply wq
   refine wps_region callOK ?_
   simp [zS, atA h, rdA1]
   by_cases h1 : 40 < L[i].1.length
   ·have h1' : (40 : Int) < (L[i].1.length : Int) := by omega
    have hf : fewAt L[i] = false := by simp [fewAt]; omega
    repeat apply wq
    refine wps_region callOK ?_
    simp [zS, h1']
    repeat apply wq
    refine wps_ct rfl ?_
    repeat apply wq
    refine wps_region callOK ?_
    simp [zS]
    repeat apply wq
    refine wps_ret ?_
    simp [retVal, Tryz.f13, oneOr, thenQ, blockQ]
    exact ends_pure rfl (by simp only [fewAts, he, hf]; simp)
   ·have h1' : ¬ (40 : Int) < (L[i].1.length : Int) := by omega
    by_cases h2 : 150 < L[i].2.length
    ·have h2' : (150 : Int) < (L[i].2.length : Int) := by omega
     have hf : fewAt L[i] = false := by simp [fewAt]; omega
     repeat apply wq
     refine wps_region callOK ?_
     simp [zS, h1', h2']
     repeat apply wq
     refine wps_ct rfl ?_
     repeat apply wq
     refine wps_region callOK ?_
     simp [zS]
     repeat apply wq
     refine wps_ret ?_
     simp [retVal, Tryz.f13, oneOr, thenQ, blockQ]
     exact ends_pure rfl (by simp only [fewAts, he, hf]; simp)
    ·have h2' : ¬ (150 : Int) < (L[i].2.length : Int) := by omega
     have hf : fewAt L[i] = true := by simp [fewAt]; omega
     repeat apply wq
     refine wps_region callOK ?_
     simp [zS, h1', h2']
     repeat apply wq
     refine wps_cf rfl ?_
     repeat apply wq
     refine wps_skip ?_
     simp
     repeat apply wq
     refine wps_region callOK ?_
     simp [zS, add_one (show i ≤ 1000000000 by omega)]
     refine hB _ (i + 1) (by omega) ⟨by omega, by rw [he, hf, Bool.true_and]⟩ ⟨[], [], ⟨rfl, rfl, rfl, by simp [fitL, fitV, pureV, pureL, aAttrs], FitH.nothing⟩⟩
  ·simp at h
   rw [List.drop_eq_nil_of_le h] at he
   repeat apply wq
   refine wps_exit ?_
   simp
   repeat apply wq
   refine wps_region callOK ?_
   simp [zS]
   repeat apply wq
   refine wps_ret ?_
   simp [retVal, Tryz.f13, oneOr, thenQ, blockQ]
   exact ends_pure rfl (by simp only [fewAts, he]; simp; omega)
noncomputable def e13 : Entry Tryz.prog := mkE 13 [[2]] (fun x : List At1 => [aAttrs x]) (fun _ => True) (fun x => .bool (fewAts x)) fun x _ => c13 (T := []) x
theorem injAs (x y : List At1) (h : [aAttrs x] = [aAttrs y]) : x = y := by simp only [List.cons.injEq] at h; exact inj_aAttrs h.1
theorem k13 {T : List (Entry Tryz.prog)} (hT : findE 13 T = some e13.g) (L : List At1) (H : Heap) : callL (ctx T) (.fn 13) [aAttrs L] H = some (.bool (fewAts L), H) :=
 mkE_scalar hT injAs L trivial rfl (by simp [th_aAttrs])
@[simp] theorem len_cs (n : Nd) : n.cs.length = 7 := rfl
@[simp] theorem sng_cs (n : Nd) : allSingle n.cs = true := rfl
@[simp] theorem lay_cs (n : Nd) (a b c d e f g : AV) : overL n.cs [a, b, c, d, e, f, g] = some n.cs := rfl
@[simp 5000] theorem ready_cs (H : Heap) (b : Nat) (n : Nd) : H.ready b n.cs = H := rfl
theorem injTI (x y : Tr × Int) (h : [aTree x.1, .int .i64 x.2] = [aTree y.1, .int .i64 y.2]) : x = y := by
 simp at h; exact Prod.ext (inj_aTree h.1) h.2
theorem FitH.id1 {m' : Nat} {H : Heap} {g : List (Nat × Blk)} (nd : (g.map (·.1)).Nodup) (lt : ∀ e, e ∈ g → e.1 < m') (src : ∀ e, e ∈ g → ∃ cs, H.get e.1 = some (.cells cs) ∧ e.2 = .cells cs ∧ pureL cs = true) : FitH 0 (g.map fun e => (e.1, e.1)) [] H ⟨m', [g]⟩ := by
 refine .rows (by simpa [Function.comp_def] using nd) (by simpa [Function.comp_def] using nd) (by simpa [Heap.ents] using nd) ?_ (by simp) (Nat.zero_le _) ?_
 ·intro x hx
  obtain ⟨e, he, rfl⟩ := List.mem_map.1 hx
  exact lt e he
 ·intro e he
  have he : e ∈ g := by simpa [Heap.ents] using he
  obtain ⟨cs, h1, h2, h3⟩ := src e he
  exact ⟨e.1, cs, List.mem_map.2 ⟨e, he, rfl⟩, h1, h2, h3⟩
section
variable (n : Nd)
@[simp] theorem gcs0 : getL n.cs 0 = some (.int .i64 n.kind) := rfl
@[simp] theorem gcs1 : getL n.cs 1 = some (.int .i64 n.space) := rfl
@[simp] theorem gcs2 : getL n.cs 2 = some (.str n.name) := rfl
@[simp] theorem gcs3 : getL n.cs 3 = some (aAttrs n.attrs) := rfl
@[simp] theorem gcs4 : getL n.cs 4 = some (.str n.data) := rfl
@[simp] theorem gcs5 : getL n.cs 5 = some (.int .i64 n.up) := rfl
@[simp] theorem gcs6 : getL n.cs 6 = some (aInts n.kids) := rfl
@[simp] theorem pure_cs : pureL n.cs = true := by simp [Nd.cs, pureL, aInt, pureV]
end
end Go.Proofs.YtfgdcciaecajpaaGreatDoor
namespace Go.Proofs.YtfgdcciaecajpaaGreatDoor
set_option linter.unusedSimpArgs false
set_option linter.unusedVariables false
open Go Go.RowKit Go.ChangeShapes Go.WideShapes Go.ChangeAt
set_option maxRecDepth 100000
theorem shape_slice {α : Type} {n : Nat} {t e : TypeId} {enc : α → AV} {ag : Bool} (hu : Tryz.prog.underlying t = some (.slice e)) (hag : aggT Tryz.prog e = some ag) (h : ∀ cs x, ShapeT Tryz.prog n e cs → wrapA ag cs = some x → ∃ a, x = enc a) {qs : List AV} (hs : ShapeT Tryz.prog (n + 1) t qs) :
  ∃ L : List α, qs = [.fslc (Tryz.prog.cellsOf e) (L.map enc)] := by
 unfold ShapeT at hs
 simp only [hu] at hs
 obtain ⟨es, rfl, _, hes⟩ := hs
 have key : ∀ l : List AV, (∀ x, x ∈ l → ∃ ag cs, aggT Tryz.prog e = some ag ∧ wrapA ag cs = some x ∧ ShapeT Tryz.prog n e cs) → ∃ L : List α, l = L.map enc := by
  intro l
  induction l with
  | nil => intro _; exact ⟨[], rfl⟩
  | cons x r ih =>
   intro hx
   obtain ⟨ag', cs, h1, h2, h3⟩ := hx x (by simp)
   rw [hag, Option.some.injEq] at h1
   subst h1
   obtain ⟨a, ha⟩ := h cs x h3 h2
   obtain ⟨L, hL⟩ := ih fun y hy => hx y (by simp [hy])
   exact ⟨a :: L, by rw [ha, hL]; rfl⟩
 obtain ⟨L, rfl⟩ := key es hes
 exact ⟨L, rfl⟩
theorem shape_str {n : Nat} {qs : List AV} (h : ShapeT Tryz.prog (n + 1) 9 qs) : ∃ s : Str, qs = [.str s] := by
 unfold ShapeT at h
 simp only [Tryz.underlying9] at h
 obtain ⟨s, rfl, _⟩ := h
 exact ⟨s, rfl⟩
theorem shape_int {n : Nat} {qs : List AV} (h : ShapeT Tryz.prog (n + 1) 3 qs) : ∃ i : Int, qs = [aInt i] := by
 unfold ShapeT at h
 simp only [Tryz.underlying3] at h
 obtain ⟨s, rfl, _⟩ := h
 exact ⟨s, rfl⟩
theorem cellsO_attr : Tryz.prog.cellsOf 53 = 2 := by kernel_rfl
theorem shape_attr {n : Nat} {qs : List AV} (h : ShapeT Tryz.prog (n + 2) 53 qs) : ∃ a : At1, AV.agg qs = aAttr a := by
 unfold ShapeT at h
 simp only [Tryz.underlying53] at h
 cases h with
 | cons f r x y h1 h2 =>
  cases h2 with
  | cons f2 r2 x2 y2 h3 h4 =>
   cases h4
   obtain ⟨s1, rfl⟩ := shape_str h1
   obtain ⟨s2, rfl⟩ := shape_str h3
   exact ⟨(s1, s2), rfl⟩
theorem shape_attrs {n : Nat} {qs : List AV} (h : ShapeT Tryz.prog (n + 3) 25 qs) : ∃ L : List At1, qs = [aAttrs L] := by
 obtain ⟨L, rfl⟩ := shape_slice (enc := aAttr) (ag := true) Tryz.underlying25 agT53 (fun cs x h hw => by
  simp only [wrapA, Option.some.injEq] at hw
  obtain ⟨a, ha⟩ := shape_attr h
  exact ⟨a, by rw [← hw, ha]⟩) h
 exact ⟨L, by rw [cellsO_attr]; rfl⟩
section
variable {H : Type} {enc : TypeId × Value → H} {W : World} {hg : GlobsIn W}
end
end Go.Proofs.YtfgdcciaecajpaaGreatDoor
namespace Go.Proofs.YtfgdcciaecajpaaGreatDoor
set_option linter.unusedSimpArgs false
set_option linter.unusedVariables false
open Go Go.RowKit
set_option maxRecDepth 100000
end Go.Proofs.YtfgdcciaecajpaaGreatDoor