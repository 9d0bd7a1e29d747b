/- The closed tests. No condition. -/
import Derived.Test.YtlgdgolobnbefaaGreatDoorMF
import Derived.Test.YtlgdgolobnbefaaGreatDoorChecked
import Derived.Shelf.Strings.Search3
import Derived.Lib.IndexMore
import Derived.Test.YtlgdgolobnbefaaGreatDoorProg
namespace Go.Proofs.YtlgdgolobnbefaaGreatDoor
set_option linter.unusedSimpArgs false
set_option linter.unusedVariables false
open Go Go.RowKit
set_option maxRecDepth 100000
def keepTbl : List (List Nat) := [[], [], [], [0, 1, 2, 4, 6, 29, 30, 31], [0, 1, 2, 4, 6, 30, 31, 32, 41, 42, 43], [0, 1, 2, 3, 4, 5, 6, 7], [0, 1, 2], [0, 1, 2, 3, 4, 5, 7, 38, 39, 40], [0, 1, 2, 3, 4, 5, 6, 7, 8, 10, 38, 39, 40], [0, 1, 4], [0, 1, 4, 6, 11, 12, 13], [0, 1, 2, 4, 40, 41, 42], [0, 2, 3, 5, 6, 8, 9, 10, 11, 25, 26, 27], [0, 1, 2, 3], [0, 1, 2, 3, 4, 5], [0, 2], [0, 1, 4, 5, 6, 7, 8], [0, 2], [0, 1, 4], [0, 1, 4], [0, 1, 2, 4, 5, 6, 8, 10, 22, 23, 24, 39, 40, 41], [0, 1, 2, 3], [0, 1, 2, 3, 6, 7], [0, 2, 3, 4], [0], [0, 1, 2, 5, 6, 7], [0, 1, 2, 3, 8], [0, 1, 2], [0, 1, 2, 7, 8, 10, 11, 12, 13, 42, 43, 44], [0, 1, 2, 5, 6, 7, 8, 9, 10, 15, 16, 17], [0, 1, 4], [0, 1, 4], [0, 1, 2, 3], [0, 1, 4], [0, 1, 4], [0, 1, 4], [0, 2, 3, 4], [0, 1, 4], [0, 2], [0, 2], [0, 1, 4], [0, 1, 4, 5, 7, 8], [0, 1, 4, 5, 7, 8], [0, 1, 4, 5, 6, 7], [0, 1, 4, 5], [0, 2], [0, 2, 3], [0, 1, 2], [0, 2], [0, 1, 2, 3, 4, 5, 6, 7, 8], [0, 1, 4, 5, 6], [0, 1, 4, 5], [0, 1, 3, 4], [0, 1, 2, 3, 8], [0, 1, 4, 5, 6, 7], [0, 1, 2], [0, 1, 4], [0, 1, 2, 3, 4, 5, 11, 12, 20, 21], [0, 1, 2, 3, 4, 6, 7], [0, 1, 4, 5], [0, 1, 4, 5, 7, 8], [0, 1, 4, 5, 6, 7, 8, 9, 10, 11, 12, 13], [0, 1, 4, 5, 7, 8], [0, 1, 4, 5, 6, 7, 8, 9, 10, 11, 14, 15, 47, 48, 49], [0, 2], [0, 2, 3, 4, 5, 6, 75], [0, 1, 4], [0], [0, 1, 4, 5, 6, 7, 8, 9, 20], [0, 1, 2], [0, 1, 3], [0, 1, 2, 3, 4, 5, 6, 12, 13, 14, 15], [0, 2], [0, 1, 2, 4], [0, 1, 2, 3, 6, 14, 15], [0, 1, 4, 5], [0, 1, 2, 6, 7, 8, 9], [0, 2], [0, 1, 4, 5, 7, 8], [0, 1, 2], [0, 1, 4], [], [0, 2], [0, 1, 4, 5, 6, 7, 8, 9, 10], [0, 2], [0, 1, 4, 5, 6, 7, 8, 9, 10, 45, 46], [], [0, 1, 2], [0, 1, 2, 4, 5], [0, 1, 2, 4], [0, 1, 2, 6, 7], [], [0, 1], [0, 1, 3, 4, 5, 6, 7, 8, 9], [], [0, 2, 3, 4, 5, 6, 7, 8], [0, 1, 4, 5, 6, 7, 8, 9, 10, 11, 12, 13, 14, 15, 16, 175, 176], [0, 2], [0, 2, 3, 4, 5], [0, 1, 4], [0, 1, 4, 40], [0, 1, 4, 5, 7, 8], [0, 1], [0, 1, 4], [0, 2], [0, 1, 5, 14, 15, 16], [0, 1, 2, 5, 7, 8, 15, 16, 17], [0, 1, 3], [0, 1, 5, 6, 7, 8], [0, 2, 3], [0, 2], [0], [0, 1, 2, 4, 5], [], [], [], [], [], [], [], [], [], [], [], [], [], [], [], [], [], [], [], [], []]
@[simp] theorem szT3 : sizeT Tryz.prog 3 = some 1 := rfl
@[simp] theorem agT3 : aggT Tryz.prog 3 = some false := rfl
@[simp] theorem byT3 : bytesT Tryz.prog 3 = some 8 := rfl
@[simp] theorem alT3 (H : Heap) : alV Tryz.prog H 3 = some (.ptr H.n 0, H.new (.cells [.int .i64 0])) := rfl
@[simp] theorem zeT3 : zeroOf Tryz.prog 3 = some (.int .i64 0) := rfl
attribute [simp] Tryz.underlying3
@[simp 500] theorem rvF3 (H : Heap) (cs : List AV) (o : Nat) : readVar Tryz.prog H 3 (.fptr cs o) = getL cs o := rfl
@[simp 500] theorem rvP3 (H : Heap) (b o : Nat) : readVar Tryz.prog H 3 (.ptr b o) = (H.get b).bind fun k => k.rd.bind fun cs => getL cs o := rfl
@[simp] theorem szT4 : sizeT Tryz.prog 4 = some 1 := rfl
@[simp] theorem agT4 : aggT Tryz.prog 4 = some false := rfl
@[simp] theorem byT4 : bytesT Tryz.prog 4 = some 1 := rfl
@[simp] theorem alT4 (H : Heap) : alV Tryz.prog H 4 = some (.ptr H.n 0, H.new (.cells [.bool false])) := rfl
@[simp] theorem zeT4 : zeroOf Tryz.prog 4 = some (.bool false) := rfl
attribute [simp] Tryz.underlying4
@[simp 500] theorem rvF4 (H : Heap) (cs : List AV) (o : Nat) : readVar Tryz.prog H 4 (.fptr cs o) = getL cs o := rfl
@[simp 500] theorem rvP4 (H : Heap) (b o : Nat) : readVar Tryz.prog H 4 (.ptr b o) = (H.get b).bind fun k => k.rd.bind fun cs => getL cs o := rfl
@[simp] theorem beq4 (a b : Bool) : binA Tryz.prog .eql 4 (.bool a) (.bool b) = some (.bool (a == b)) := rfl
@[simp] theorem bne4 (a b : Bool) : binA Tryz.prog .neq 4 (.bool a) (.bool b) = some (.bool !(a == b)) := rfl
@[simp] theorem szT5 : sizeT Tryz.prog 5 = some 1 := rfl
@[simp] theorem agT5 : aggT Tryz.prog 5 = some false := rfl
@[simp] theorem byT5 : bytesT Tryz.prog 5 = some 1 := rfl
@[simp] theorem alT5 (H : Heap) : alV Tryz.prog H 5 = some (.ptr H.n 0, H.new (.cells [.int .u8 0])) := rfl
@[simp] theorem zeT5 : zeroOf Tryz.prog 5 = some (.int .u8 0) := rfl
attribute [simp] Tryz.underlying5
@[simp 500] theorem rvF5 (H : Heap) (cs : List AV) (o : Nat) : readVar Tryz.prog H 5 (.fptr cs o) = getL cs o := rfl
@[simp 500] theorem rvP5 (H : Heap) (b o : Nat) : readVar Tryz.prog H 5 (.ptr b o) = (H.get b).bind fun k => k.rd.bind fun cs => getL cs o := rfl
@[simp] theorem szT9 : sizeT Tryz.prog 9 = some 1 := rfl
@[simp] theorem agT9 : aggT Tryz.prog 9 = some false := rfl
@[simp] theorem byT9 : bytesT Tryz.prog 9 = some 16 := rfl
@[simp] theorem alT9 (H : Heap) : alV Tryz.prog H 9 = some (.ptr H.n 0, H.new (.cells [.str []])) := rfl
@[simp] theorem zeT9 : zeroOf Tryz.prog 9 = some (.str []) := rfl
attribute [simp] Tryz.underlying9
@[simp 500] theorem rvF9 (H : Heap) (cs : List AV) (o : Nat) : readVar Tryz.prog H 9 (.fptr cs o) = getL cs o := rfl
@[simp 500] theorem rvP9 (H : Heap) (b o : Nat) : readVar Tryz.prog H 9 (.ptr b o) = (H.get b).bind fun k => k.rd.bind fun cs => getL cs o := rfl
@[simp] theorem szT23 : sizeT Tryz.prog 23 = some 1 := rfl
@[simp] theorem agT23 : aggT Tryz.prog 23 = some false := rfl
@[simp] theorem byT23 : bytesT Tryz.prog 23 = some 24 := rfl
@[simp] theorem alT23 (H : Heap) : alV Tryz.prog H 23 = some (.ptr H.n 0, H.new (.cells [.nilS])) := rfl
@[simp] theorem zeT23 : zeroOf Tryz.prog 23 = some (.nilS) := rfl
attribute [simp] Tryz.underlying23
@[simp 500] theorem rvF23 (H : Heap) (cs : List AV) (o : Nat) : readVar Tryz.prog H 23 (.fptr cs o) = getL cs o := rfl
@[simp 500] theorem rvP23 (H : Heap) (b o : Nat) : readVar Tryz.prog H 23 (.ptr b o) = (H.get b).bind fun k => k.rd.bind fun cs => getL cs o := rfl
@[simp] theorem slz23 (sz : Nat) (e : AV) (r : List AV) : binA Tryz.prog .eql 23 (.fslc sz (e :: r)) .nilS = some (.bool false) := rfl
@[simp] theorem sln23 (sz : Nat) (e : AV) (r : List AV) : binA Tryz.prog .neq 23 (.fslc sz (e :: r)) .nilS = some (.bool true) := rfl
@[simp] theorem slze23 : binA Tryz.prog .eql 23 .eslc .nilS = some (.bool false) := rfl
@[simp] theorem slzz23 : binA Tryz.prog .eql 23 .nilS .nilS = some (.bool true) := rfl
@[simp] theorem szT30 : sizeT Tryz.prog 30 = some 1 := rfl
@[simp] theorem agT30 : aggT Tryz.prog 30 = some false := rfl
@[simp] theorem byT30 : bytesT Tryz.prog 30 = some 24 := rfl
@[simp] theorem alT30 (H : Heap) : alV Tryz.prog H 30 = some (.ptr H.n 0, H.new (.cells [.nilS])) := rfl
@[simp] theorem zeT30 : zeroOf Tryz.prog 30 = some (.nilS) := rfl
attribute [simp] Tryz.underlying30
@[simp 500] theorem rvF30 (H : Heap) (cs : List AV) (o : Nat) : readVar Tryz.prog H 30 (.fptr cs o) = getL cs o := rfl
@[simp 500] theorem rvP30 (H : Heap) (b o : Nat) : readVar Tryz.prog H 30 (.ptr b o) = (H.get b).bind fun k => k.rd.bind fun cs => getL cs o := rfl
@[simp] theorem slz30 (sz : Nat) (e : AV) (r : List AV) : binA Tryz.prog .eql 30 (.fslc sz (e :: r)) .nilS = some (.bool false) := rfl
@[simp] theorem sln30 (sz : Nat) (e : AV) (r : List AV) : binA Tryz.prog .neq 30 (.fslc sz (e :: r)) .nilS = some (.bool true) := rfl
@[simp] theorem slze30 : binA Tryz.prog .eql 30 .eslc .nilS = some (.bool false) := rfl
@[simp] theorem slzz30 : binA Tryz.prog .eql 30 .nilS .nilS = some (.bool true) := rfl
@[simp] theorem szT32 : sizeT Tryz.prog 32 = some 1 := rfl
@[simp] theorem agT32 : aggT Tryz.prog 32 = some true := rfl
@[simp] theorem byT32 : bytesT Tryz.prog 32 = some 24 := rfl
@[simp] theorem alT32 (H : Heap) : alV Tryz.prog H 32 = some (.ptr H.n 0, H.new (.cells [.nilS])) := rfl
@[simp] theorem zeT32 : zeroOf Tryz.prog 32 = some (.agg [.nilS]) := rfl
attribute [simp] Tryz.underlying32
@[simp 500] theorem rvF32 (H : Heap) (cs : List AV) (o : Nat) : readVar Tryz.prog H 32 (.fptr cs o) = (subL o 1 cs).bind fun cs => some (.agg cs) := rfl
@[simp 500] theorem rvP32 (H : Heap) (b o : Nat) : readVar Tryz.prog H 32 (.ptr b o) = (readCells H b o 1).bind fun cs => some (.agg cs) := rfl
@[simp] theorem fa32_0 (x : AV) : fieldAddrA Tryz.prog 32 x 0 = (match x with | .ptr b o => some (.ptr b (o + 0)) | .fptr cs o => some (.fptr cs (o + 0)) | _ => none) := rfl
@[simp] theorem fd32_0 (cs : List AV) : fieldA Tryz.prog 32 (.agg cs) 0 = getL cs 0 := rfl
@[simp] theorem szT46 : sizeT Tryz.prog 46 = some 1 := rfl
@[simp] theorem agT46 : aggT Tryz.prog 46 = some false := rfl
@[simp] theorem byT46 : bytesT Tryz.prog 46 = some 24 := rfl
@[simp] theorem alT46 (H : Heap) : alV Tryz.prog H 46 = some (.ptr H.n 0, H.new (.cells [.nilS])) := rfl
@[simp] theorem zeT46 : zeroOf Tryz.prog 46 = some (.nilS) := rfl
attribute [simp] Tryz.underlying46
@[simp 500] theorem rvF46 (H : Heap) (cs : List AV) (o : Nat) : readVar Tryz.prog H 46 (.fptr cs o) = getL cs o := rfl
@[simp 500] theorem rvP46 (H : Heap) (b o : Nat) : readVar Tryz.prog H 46 (.ptr b o) = (H.get b).bind fun k => k.rd.bind fun cs => getL cs o := rfl
@[simp] theorem slz46 (sz : Nat) (e : AV) (r : List AV) : binA Tryz.prog .eql 46 (.fslc sz (e :: r)) .nilS = some (.bool false) := rfl
@[simp] theorem sln46 (sz : Nat) (e : AV) (r : List AV) : binA Tryz.prog .neq 46 (.fslc sz (e :: r)) .nilS = some (.bool true) := rfl
@[simp] theorem slze46 : binA Tryz.prog .eql 46 .eslc .nilS = some (.bool false) := rfl
@[simp] theorem slzz46 : binA Tryz.prog .eql 46 .nilS .nilS = some (.bool true) := rfl
@[simp] theorem szT48 : sizeT Tryz.prog 48 = some 1 := rfl
@[simp] theorem agT48 : aggT Tryz.prog 48 = some false := rfl
@[simp] theorem byT48 : bytesT Tryz.prog 48 = some 24 := rfl
@[simp] theorem alT48 (H : Heap) : alV Tryz.prog H 48 = some (.ptr H.n 0, H.new (.cells [.nilS])) := rfl
@[simp] theorem zeT48 : zeroOf Tryz.prog 48 = some (.nilS) := rfl
attribute [simp] Tryz.underlying48
@[simp 500] theorem rvF48 (H : Heap) (cs : List AV) (o : Nat) : readVar Tryz.prog H 48 (.fptr cs o) = getL cs o := rfl
@[simp 500] theorem rvP48 (H : Heap) (b o : Nat) : readVar Tryz.prog H 48 (.ptr b o) = (H.get b).bind fun k => k.rd.bind fun cs => getL cs o := rfl
@[simp] theorem slz48 (sz : Nat) (e : AV) (r : List AV) : binA Tryz.prog .eql 48 (.fslc sz (e :: r)) .nilS = some (.bool false) := rfl
@[simp] theorem sln48 (sz : Nat) (e : AV) (r : List AV) : binA Tryz.prog .neq 48 (.fslc sz (e :: r)) .nilS = some (.bool true) := rfl
@[simp] theorem slze48 : binA Tryz.prog .eql 48 .eslc .nilS = some (.bool false) := rfl
@[simp] theorem slzz48 : binA Tryz.prog .eql 48 .nilS .nilS = some (.bool true) := rfl
@[simp] theorem szT50 : sizeT Tryz.prog 50 = some 7 := rfl
@[simp] theorem agT50 : aggT Tryz.prog 50 = some true := rfl
@[simp] theorem byT50 : bytesT Tryz.prog 50 = some 104 := rfl
@[simp] theorem alT50 (H : Heap) : alV Tryz.prog H 50 = some (.ptr H.n 0, H.new (.cells [.int .i64 0, .int .i64 0, .str [], .nilS, .str [], .int .i64 0, .nilS])) := rfl
@[simp] theorem zeT50 : zeroOf Tryz.prog 50 = some (.agg [.int .i64 0, .int .i64 0, .str [], .nilS, .str [], .int .i64 0, .nilS]) := rfl
attribute [simp] Tryz.underlying50
@[simp 500] theorem rvF50 (H : Heap) (cs : List AV) (o : Nat) : readVar Tryz.prog H 50 (.fptr cs o) = (subL o 7 cs).bind fun cs => some (.agg cs) := rfl
@[simp 500] theorem rvP50 (H : Heap) (b o : Nat) : readVar Tryz.prog H 50 (.ptr b o) = (readCells H b o 7).bind fun cs => some (.agg cs) := rfl
@[simp] theorem fa50_0 (x : AV) : fieldAddrA Tryz.prog 50 x 0 = (match x with | .ptr b o => some (.ptr b (o + 0)) | .fptr cs o => some (.fptr cs (o + 0)) | _ => none) := rfl
@[simp] theorem fd50_0 (cs : List AV) : fieldA Tryz.prog 50 (.agg cs) 0 = getL cs 0 := rfl
@[simp] theorem fa50_1 (x : AV) : fieldAddrA Tryz.prog 50 x 1 = (match x with | .ptr b o => some (.ptr b (o + 1)) | .fptr cs o => some (.fptr cs (o + 1)) | _ => none) := rfl
@[simp] theorem fd50_1 (cs : List AV) : fieldA Tryz.prog 50 (.agg cs) 1 = getL cs 1 := rfl
@[simp] theorem fa50_2 (x : AV) : fieldAddrA Tryz.prog 50 x 2 = (match x with | .ptr b o => some (.ptr b (o + 2)) | .fptr cs o => some (.fptr cs (o + 2)) | _ => none) := rfl
@[simp] theorem fd50_2 (cs : List AV) : fieldA Tryz.prog 50 (.agg cs) 2 = getL cs 2 := rfl
@[simp] theorem fa50_3 (x : AV) : fieldAddrA Tryz.prog 50 x 3 = (match x with | .ptr b o => some (.ptr b (o + 3)) | .fptr cs o => some (.fptr cs (o + 3)) | _ => none) := rfl
@[simp] theorem fd50_3 (cs : List AV) : fieldA Tryz.prog 50 (.agg cs) 3 = getL cs 3 := rfl
@[simp] theorem fa50_4 (x : AV) : fieldAddrA Tryz.prog 50 x 4 = (match x with | .ptr b o => some (.ptr b (o + 4)) | .fptr cs o => some (.fptr cs (o + 4)) | _ => none) := rfl
@[simp] theorem fd50_4 (cs : List AV) : fieldA Tryz.prog 50 (.agg cs) 4 = getL cs 4 := rfl
@[simp] theorem fa50_5 (x : AV) : fieldAddrA Tryz.prog 50 x 5 = (match x with | .ptr b o => some (.ptr b (o + 5)) | .fptr cs o => some (.fptr cs (o + 5)) | _ => none) := rfl
@[simp] theorem fd50_5 (cs : List AV) : fieldA Tryz.prog 50 (.agg cs) 5 = getL cs 5 := rfl
@[simp] theorem fa50_6 (x : AV) : fieldAddrA Tryz.prog 50 x 6 = (match x with | .ptr b o => some (.ptr b (o + 6)) | .fptr cs o => some (.fptr cs (o + 6)) | _ => none) := rfl
@[simp] theorem fd50_6 (cs : List AV) : fieldA Tryz.prog 50 (.agg cs) 6 = getL cs 6 := rfl
@[simp] theorem szT98 : sizeT Tryz.prog 98 = some 2 := rfl
@[simp] theorem agT98 : aggT Tryz.prog 98 = some true := rfl
@[simp] theorem byT98 : bytesT Tryz.prog 98 = some 32 := rfl
@[simp] theorem alT98 (H : Heap) : alV Tryz.prog H 98 = some (.ptr H.n 0, H.new (.cells [.str [], .str []])) := rfl
@[simp] theorem zeT98 : zeroOf Tryz.prog 98 = some (.agg [.str [], .str []]) := rfl
attribute [simp] Tryz.underlying98
@[simp 500] theorem rvF98 (H : Heap) (cs : List AV) (o : Nat) : readVar Tryz.prog H 98 (.fptr cs o) = (subL o 2 cs).bind fun cs => some (.agg cs) := rfl
@[simp 500] theorem rvP98 (H : Heap) (b o : Nat) : readVar Tryz.prog H 98 (.ptr b o) = (readCells H b o 2).bind fun cs => some (.agg cs) := rfl
@[simp] theorem fa98_0 (x : AV) : fieldAddrA Tryz.prog 98 x 0 = (match x with | .ptr b o => some (.ptr b (o + 0)) | .fptr cs o => some (.fptr cs (o + 0)) | _ => none) := rfl
@[simp] theorem fd98_0 (cs : List AV) : fieldA Tryz.prog 98 (.agg cs) 0 = getL cs 0 := rfl
@[simp] theorem fa98_1 (x : AV) : fieldAddrA Tryz.prog 98 x 1 = (match x with | .ptr b o => some (.ptr b (o + 1)) | .fptr cs o => some (.fptr cs (o + 1)) | _ => none) := rfl
@[simp] theorem fd98_1 (cs : List AV) : fieldA Tryz.prog 98 (.agg cs) 1 = getL cs 1 := rfl
@[simp] theorem szT126 : sizeT Tryz.prog 126 = some 1 := rfl
@[simp] theorem agT126 : aggT Tryz.prog 126 = some false := rfl
@[simp] theorem byT126 : bytesT Tryz.prog 126 = some 8 := rfl
attribute [simp] Tryz.underlying126
@[simp 500] theorem rvF126 (H : Heap) (cs : List AV) (o : Nat) : readVar Tryz.prog H 126 (.fptr cs o) = getL cs o := rfl
@[simp 500] theorem rvP126 (H : Heap) (b o : Nat) : readVar Tryz.prog H 126 (.ptr b o) = (H.get b).bind fun k => k.rd.bind fun cs => getL cs o := rfl
@[simp] theorem szT128 : sizeT Tryz.prog 128 = some 4 := rfl
@[simp] theorem agT128 : aggT Tryz.prog 128 = some true := rfl
@[simp] theorem byT128 : bytesT Tryz.prog 128 = some 32 := rfl
attribute [simp] Tryz.underlying128
@[simp 500] theorem rvF128 (H : Heap) (cs : List AV) (o : Nat) : readVar Tryz.prog H 128 (.fptr cs o) = (subL o 4 cs).bind fun cs => some (.agg cs) := rfl
@[simp 500] theorem rvP128 (H : Heap) (b o : Nat) : readVar Tryz.prog H 128 (.ptr b o) = (readCells H b o 4).bind fun cs => some (.agg cs) := rfl
@[simp] theorem fa128_0 (x : AV) : fieldAddrA Tryz.prog 128 x 0 = (match x with | .ptr b o => some (.ptr b (o + 0)) | .fptr cs o => some (.fptr cs (o + 0)) | _ => none) := rfl
@[simp] theorem fd128_0 (cs : List AV) : fieldA Tryz.prog 128 (.agg cs) 0 = getL cs 0 := rfl
@[simp] theorem fa128_1 (x : AV) : fieldAddrA Tryz.prog 128 x 1 = (match x with | .ptr b o => some (.ptr b (o + 1)) | .fptr cs o => some (.fptr cs (o + 1)) | _ => none) := rfl
@[simp] theorem fd128_1 (cs : List AV) : fieldA Tryz.prog 128 (.agg cs) 1 = getL cs 1 := rfl
@[simp] theorem fa128_2 (x : AV) : fieldAddrA Tryz.prog 128 x 2 = (match x with | .ptr b o => some (.ptr b (o + 2)) | .fptr cs o => some (.fptr cs (o + 2)) | _ => none) := rfl
@[simp] theorem fd128_2 (cs : List AV) : fieldA Tryz.prog 128 (.agg cs) 2 = getL cs 2 := rfl
@[simp] theorem fa128_3 (x : AV) : fieldAddrA Tryz.prog 128 x 3 = (match x with | .ptr b o => some (.ptr b (o + 3)) | .fptr cs o => some (.fptr cs (o + 3)) | _ => none) := rfl
@[simp] theorem fd128_3 (cs : List AV) : fieldA Tryz.prog 128 (.agg cs) 3 = getL cs 3 := rfl
@[simp] theorem szT151 : sizeT Tryz.prog 151 = some 1 := rfl
@[simp] theorem agT151 : aggT Tryz.prog 151 = some false := rfl
@[simp] theorem byT151 : bytesT Tryz.prog 151 = some 24 := rfl
@[simp] theorem alT151 (H : Heap) : alV Tryz.prog H 151 = some (.ptr H.n 0, H.new (.cells [.nilS])) := rfl
@[simp] theorem zeT151 : zeroOf Tryz.prog 151 = some (.nilS) := rfl
attribute [simp] Tryz.underlying151
@[simp 500] theorem rvF151 (H : Heap) (cs : List AV) (o : Nat) : readVar Tryz.prog H 151 (.fptr cs o) = getL cs o := rfl
@[simp 500] theorem rvP151 (H : Heap) (b o : Nat) : readVar Tryz.prog H 151 (.ptr b o) = (H.get b).bind fun k => k.rd.bind fun cs => getL cs o := rfl
@[simp] theorem slz151 (sz : Nat) (e : AV) (r : List AV) : binA Tryz.prog .eql 151 (.fslc sz (e :: r)) .nilS = some (.bool false) := rfl
@[simp] theorem sln151 (sz : Nat) (e : AV) (r : List AV) : binA Tryz.prog .neq 151 (.fslc sz (e :: r)) .nilS = some (.bool true) := rfl
@[simp] theorem slze151 : binA Tryz.prog .eql 151 .eslc .nilS = some (.bool false) := rfl
@[simp] theorem slzz151 : binA Tryz.prog .eql 151 .nilS .nilS = some (.bool true) := rfl
@[simp] theorem szT153 : sizeT Tryz.prog 153 = some 2 := rfl
@[simp] theorem agT153 : aggT Tryz.prog 153 = some true := rfl
@[simp] theorem byT153 : bytesT Tryz.prog 153 = some 16 := rfl
@[simp] theorem alT153 (H : Heap) : alV Tryz.prog H 153 = some (.ptr H.n 0, H.new (.cells [.int .i64 0, .int .i64 0])) := rfl
@[simp] theorem zeT153 : zeroOf Tryz.prog 153 = some (.agg [.int .i64 0, .int .i64 0]) := rfl
attribute [simp] Tryz.underlying153
@[simp 500] theorem rvF153 (H : Heap) (cs : List AV) (o : Nat) : readVar Tryz.prog H 153 (.fptr cs o) = (subL o 2 cs).bind fun cs => some (.agg cs) := rfl
@[simp 500] theorem rvP153 (H : Heap) (b o : Nat) : readVar Tryz.prog H 153 (.ptr b o) = (readCells H b o 2).bind fun cs => some (.agg cs) := rfl
@[simp] theorem fa153_0 (x : AV) : fieldAddrA Tryz.prog 153 x 0 = (match x with | .ptr b o => some (.ptr b (o + 0)) | .fptr cs o => some (.fptr cs (o + 0)) | _ => none) := rfl
@[simp] theorem fd153_0 (cs : List AV) : fieldA Tryz.prog 153 (.agg cs) 0 = getL cs 0 := rfl
@[simp] theorem fa153_1 (x : AV) : fieldAddrA Tryz.prog 153 x 1 = (match x with | .ptr b o => some (.ptr b (o + 1)) | .fptr cs o => some (.fptr cs (o + 1)) | _ => none) := rfl
@[simp] theorem fd153_1 (cs : List AV) : fieldA Tryz.prog 153 (.agg cs) 1 = getL cs 1 := rfl
@[simp] theorem szT154 : sizeT Tryz.prog 154 = some 1 := rfl
@[simp] theorem agT154 : aggT Tryz.prog 154 = some false := rfl
@[simp] theorem byT154 : bytesT Tryz.prog 154 = some 24 := rfl
@[simp] theorem alT154 (H : Heap) : alV Tryz.prog H 154 = some (.ptr H.n 0, H.new (.cells [.nilS])) := rfl
@[simp] theorem zeT154 : zeroOf Tryz.prog 154 = some (.nilS) := rfl
attribute [simp] Tryz.underlying154
@[simp 500] theorem rvF154 (H : Heap) (cs : List AV) (o : Nat) : readVar Tryz.prog H 154 (.fptr cs o) = getL cs o := rfl
@[simp 500] theorem rvP154 (H : Heap) (b o : Nat) : readVar Tryz.prog H 154 (.ptr b o) = (H.get b).bind fun k => k.rd.bind fun cs => getL cs o := rfl
@[simp] theorem slz154 (sz : Nat) (e : AV) (r : List AV) : binA Tryz.prog .eql 154 (.fslc sz (e :: r)) .nilS = some (.bool false) := rfl
@[simp] theorem sln154 (sz : Nat) (e : AV) (r : List AV) : binA Tryz.prog .neq 154 (.fslc sz (e :: r)) .nilS = some (.bool true) := rfl
@[simp] theorem slze154 : binA Tryz.prog .eql 154 .eslc .nilS = some (.bool false) := rfl
@[simp] theorem slzz154 : binA Tryz.prog .eql 154 .nilS .nilS = some (.bool true) := rfl
attribute [simp] opndO_s
noncomputable def ctx (T : List (Entry Tryz.prog)) : Ctx := mkC Tryz.prog (fun f => (getL keepTbl f).getD []) T
@[simp] theorem mkC_P (T : List (Entry Tryz.prog)) : (ctx T).P = Tryz.prog := rfl
theorem mixed : Tryz.prog.follows .mixedOrders = true := by decide +kernel
theorem callOK {T : List (Entry Tryz.prog)} : CallOK (ctx T) (callL (ctx T)) := mkC_call _ _ T mixed
theorem callOKF {T : List (Entry Tryz.prog)} (l : List (Fact (ctx T))) : CallOK (ctx T) (callF l (callL (ctx T))) := callF_ok callOK l
abbrev Str := List UInt8
@[simp] theorem lenStr (H : Heap) (s : Str) : lenA Tryz.prog H 9 (.str s) = some s.length := by simp [lenA]
theorem ixStr {s : Str} {i : Nat} (h : i < s.length) : indexA Tryz.prog 9 (.str s) (.int .i64 (i : Int)) = some (.int .u8 (s[i]'h).toNat) := by
  simp [indexA, idx_nat h, getL_get h]
theorem slStr {H : Heap} {s : Str} {i : Nat} (h : i ≤ s.length) : sliceA Tryz.prog H 9 (.str s) (some (.int .i64 (i : Int))) none none = some (.str (s.drop i)) := by
  simp [sliceA, hiOK, bound, idx_nat (Nat.lt_succ_of_le h)]
theorem slStrTo {H : Heap} {s : Str} {j : Nat} (h : j ≤ s.length) : sliceA Tryz.prog H 9 (.str s) none (some (.int .i64 (j : Int))) none = some (.str (s.take j)) := by
  simp [sliceA, hiOK, bound, idx_nat (Nat.lt_succ_of_le h)]
@[simp] theorem eqStr (x y : Str) : binA Tryz.prog .eql 9 (.str x) (.str y) = some (.bool (decide (x = y))) := by simp [binA, strOp, eqB_eq]
@[simp] theorem neStr (x y : Str) : binA Tryz.prog .neq 9 (.str x) (.str y) = some (.bool !(decide (x = y))) := by simp [binA, strOp, eqB_eq]
abbrev aStrs (L : List Str) : AV := .fslc 1 (L.map .str)
theorem el_str (L : List Str) : Elems 1 (L.map AV.str) := .map (sz := 1) (f := AV.str) (by decide) (fun x => ⟨rfl, rfl, fun _ => rfl, fun h => absurd rfl h⟩) L
theorem atS {L : List Str} {i : Nat} (h : i < L.length) : indexAddrA Tryz.prog 23 (aStrs L) (.int .i64 (i : Int)) = some (.fptr [.str L[i]] 0) := by
  simp [indexAddrA, aStrs, idx_nat h, getL_map h, AV.cells]
theorem lenS {H : Heap} {L : List Str} : lenA Tryz.prog H 23 (aStrs L) = some L.length := by simp [lenA, aStrs]
theorem inj_str (x y : Str) (h : [AV.str x] = [AV.str y]) : x = y := by simp at h; exact h
theorem inj_str2 (x y : Str × Str) (h : [AV.str x.1, AV.str x.2] = [AV.str y.1, AV.str y.2]) : x = y := by
  simp at h; exact Prod.ext h.1 h.2
theorem inj_strs {L M : List Str} (h : aStrs L = aStrs M) : L = M := by
  simp only [aStrs, AV.fslc.injEq, true_and] at h
  exact List.map_inj_right (fun _ _ h => by simpa using h) |>.1 h
theorem inj_u8 (x y : UInt8) (h : [AV.int .u8 (x.toNat : Int)] = [AV.int .u8 (y.toNat : Int)]) : x = y := by
  simp only [List.cons.injEq, AV.int.injEq, true_and, and_true] at h
  exact UInt8.toNat_inj.1 (by omega)
def sp (c : UInt8) : Bool := decide ((c.toNat : Int) = 9) || (decide ((c.toNat : Int) = 10) || (decide ((c.toNat : Int) = 12) || (decide ((c.toNat : Int) = 13) || decide ((c.toNat : Int) = 32))))
def wstep (st : List Str × Str) (c : UInt8) : List Str × Str := if sp c = true then (if st.2 = [] then st.1 else st.1 ++ [st.2], []) else (st.1, st.2 ++ [c])
def wst (s : Str) : List Str × Str := s.foldl wstep ([], [])
def wfin (st : List Str × Str) : List Str := if st.2 = [] then st.1 else st.1 ++ [st.2]
def wsplit (s : Str) : List Str := wfin (wst s)
theorem wst_at {s : Str} {i : Nat} (h : i < s.length) : wst (s.take (i + 1)) = wstep (wst (s.take i)) s[i] := by
  rw [List.take_succ_eq_append_getElem h]
  simp only [wst, List.foldl_append, List.foldl_cons, List.foldl_nil]
theorem wst_len (s : Str) : (wst s).2.length ≤ s.length ∧ (wst s).1.length ≤ s.length := by
  have key : ∀ (s : Str) (st : List Str × Str), (s.foldl wstep st).2.length ≤ st.2.length + s.length ∧ (s.foldl wstep st).1.length ≤ st.1.length + s.length := by
    intro s
    induction s with
    | nil => intro st; simp
    | cons c r ih =>
      intro st
      have := ih (wstep st c)
      simp only [List.foldl_cons, List.length_cons]
      have h1 : (wstep st c).2.length ≤ st.2.length + 1 ∧ (wstep st c).1.length ≤ st.1.length + 1 := by
        unfold wstep
        split
        · split <;> simp
        · simp
      omega
  have := key s ([], [])
  simp only [wst]
  simp at this
  exact this
theorem c51 {T : List (Entry Tryz.prog)} (L : List Str) (x : Str) (hl : L.length ≤ 1000000) : CallAt (ctx T) 51 [aStrs L, .str x] ⟨0, []⟩ (.bool (decide (x ∈ L))) ⟨0, []⟩ := by
  refine callAt_body (fn := Tryz.f51) (s0 := ⟨[0, 1, 4, 5], [aStrs L, .str x, .undef, .undef], [], 18, ⟨0, [[]]⟩⟩) Tryz.func51 rfl rfl rfl ?_
  repeat refine wps_seq ?_
  refine wps_region callOK ?_
  simp [zS]
  repeat refine wps_seq ?_
  refine wps_region callOK ?_
  simp [zS]
  repeat refine wps_seq ?_
  refine wps_block (wps_loop' (fun i : Nat => (⟨[0, 1, 4, 5], [aStrs L, .str x, .undef, .int .i64 i], [], 18, ⟨0, [[]]⟩⟩ : St))
    (fun i => i ≤ L.length ∧ decide (x ∈ L) = decide (x ∈ L.drop i)) (fun i => L.length - i) [] [] 0 ⟨Nat.zero_le _, by simp⟩ ⟨rfl, rfl, rfl, by simp [fitL, fitV, pureV, pureL, aStrs], FitH.nothing⟩ ?_)
  rintro i ⟨hi, hx⟩ B hB
  repeat refine wps_seq ?_
  refine wps_region callOK ?_
  simp [zS, lenS]
  repeat refine wps_seq ?_
  refine wps_cond rfl (fun h => ?_) fun h => ?_
  · simp at h
    repeat refine wps_seq ?_
    refine wps_skip ?_
    simp
    repeat refine wps_seq ?_
    refine wps_block ?_
    repeat refine wps_seq ?_
    refine wps_region callOK ?_
    simp [zS, atS h]
    repeat refine wps_seq ?_
    refine wps_cond rfl (fun h2 => ?_) fun h2 => ?_
    · simp at h2
      repeat refine wps_seq ?_
      refine wps_region callOK ?_
      simp [zS]
      repeat refine wps_seq ?_
      refine wps_ret ?_
      simp [retVal, Tryz.f51, oneOr, thenQ, blockQ]
      exact ends_pure rfl (by rw [hx, List.drop_eq_getElem_cons h]; simp [h2])
    · simp at h2
      repeat refine wps_seq ?_
      refine wps_skip ?_
      simp
      repeat refine wps_seq ?_
      refine wps_region callOK ?_
      simp [zS, add_one (show i ≤ 1000000000 by omega)]
      exact hB _ (i + 1) (by omega) ⟨by omega, by rw [hx, List.drop_eq_getElem_cons h]; simp only [List.mem_cons, show ¬ x = L[i] from fun e => h2 e.symm, false_or]⟩ ⟨[], [], ⟨rfl, rfl, rfl, by simp [fitL, fitV, pureV, pureL, aStrs], FitH.nothing⟩⟩
  · simp at h
    repeat refine wps_seq ?_
    refine wps_exit ?_
    simp
    repeat refine wps_seq ?_
    refine wps_region callOK ?_
    simp [zS]
    repeat refine wps_seq ?_
    refine wps_ret ?_
    simp [retVal, Tryz.f51, oneOr, thenQ, blockQ]
    exact ends_pure rfl (by rw [hx, List.drop_eq_nil_of_le h]; simp)
noncomputable def e51 : Entry Tryz.prog := mkE 51 [[1], []] (fun x : List Str × Str => [aStrs x.1, .str x.2]) (fun x => x.1.length ≤ 1000000) (fun x => .bool (decide (x.2 ∈ x.1))) fun x h => c51 (T := []) x.1 x.2 h
def inW (w x : Str) : Bool := decide (x ∈ wsplit w)
theorem wsplit_len (s : Str) : (wsplit s).length ≤ s.length + 1 := by
  have := wst_len s
  unfold wsplit wfin
  split <;> simp <;> omega
@[simp] theorem szT75 : sizeT Tryz.prog 75 = some 1 := rfl
@[simp] theorem agT75 : aggT Tryz.prog 75 = some false := rfl
@[simp] theorem byT75 : bytesT Tryz.prog 75 = some 24 := rfl
@[simp] theorem alT75 (H : Heap) : alV Tryz.prog H 75 = some (.ptr H.n 0, H.new (.cells [.nilS])) := rfl
@[simp] theorem zeT75 : zeroOf Tryz.prog 75 = some (.nilS) := rfl
attribute [simp] Tryz.underlying75
@[simp 500] theorem rvF75 (H : Heap) (cs : List AV) (o : Nat) : readVar Tryz.prog H 75 (.fptr cs o) = getL cs o := rfl
@[simp 500] theorem rvP75 (H : Heap) (b o : Nat) : readVar Tryz.prog H 75 (.ptr b o) = (H.get b).bind fun k => k.rd.bind fun cs => getL cs o := rfl
@[simp] theorem slz75 (sz : Nat) (e : AV) (r : List AV) : binA Tryz.prog .eql 75 (.fslc sz (e :: r)) .nilS = some (.bool false) := rfl
@[simp] theorem sln75 (sz : Nat) (e : AV) (r : List AV) : binA Tryz.prog .neq 75 (.fslc sz (e :: r)) .nilS = some (.bool true) := rfl
@[simp] theorem slze75 : binA Tryz.prog .eql 75 .eslc .nilS = some (.bool false) := rfl
@[simp] theorem slzz75 : binA Tryz.prog .eql 75 .nilS .nilS = some (.bool true) := rfl
def cN (s : Str) (i : Nat) : Nat := (s.getD i 0).toNat
def moreN (c : Nat) : Nat := if c < 194 then 0 else if c < 224 then 1 else if c < 240 then 2 else if c < 245 then 3 else 0
def loN (c : Nat) : Nat := if c = 224 then 160 else if c = 240 then 144 else 128
def hiN (c : Nat) : Nat := if c = 237 then 159 else if c = 244 then 143 else 191
def contN (s : Str) (i lo hi : Nat) : Bool := decide (i < s.length) && (decide (lo ≤ cN s i) && decide (cN s i ≤ hi))
def oneGo (s : Str) : Nat → Nat → Nat → Nat → Nat × Bool
  | 0, i, _, _ => (i, true)
  | k + 1, i, lo, hi => if contN s i lo hi = true then oneGo s k (i + 1) 128 191 else (i, false)
def oneR (s : Str) : Nat × Bool := if cN s 0 < 128 then (1, true) else if moreN (cN s 0) = 0 then (1, false) else oneGo s (moreN (cN s 0)) 1 (loN (cN s 0)) (hiN (cN s 0))
theorem cN_get {s : Str} {i : Nat} (h : i < s.length) : s[i].toNat = cN s i := by simp [cN, List.getD_eq_getElem?_getD, List.getElem?_eq_getElem h]
theorem moreN_le (c : Nat) : moreN c ≤ 3 := by unfold moreN; split <;> (try split) <;> (try split) <;> (try split) <;> omega
structure WordAt (s x : Str) (p : Nat) : Prop where
  room : p + x.length ≤ s.length
  occ : (s.drop p).take x.length = x
  pre : ∀ c, 0 < p → s[p - 1]? = some c → sp c = true
  post : ∀ c, s[p + x.length]? = some c → sp c = true
structure WInv (s : Str) (i : Nat) (st : List Str × Str) : Prop where
  le : i ≤ s.length
  words : ∀ w, w ∈ st.1 → ∃ p, WordAt s w p
  len : st.2.length ≤ i
  cur : (s.take i).drop (i - st.2.length) = st.2
  pre : ∀ c, 0 < i - st.2.length → s[i - st.2.length - 1]? = some c → sp c = true
theorem winv {s : Str} : ∀ (i : Nat), i ≤ s.length → WInv s i (wst (s.take i))
  | 0, _ => by
    have e : wst (s.take 0) = ([], []) := by simp [wst]
    rw [e]
    exact ⟨Nat.zero_le _, fun w h => (by cases h), Nat.le_refl _, rfl, fun c h => absurd h (Nat.lt_irrefl 0)⟩
  | i + 1, hi => by
    have ih := winv (s := s) i (by omega)
    have hlt : i < s.length := by omega
    rw [wst_at hlt]
    generalize wst (s.take i) = st at ih
    obtain ⟨W, c⟩ := st
    have ihl := ih.len
    have ihc := ih.cur
    have ihp := ih.pre
    simp only at ihl ihc ihp
    unfold wstep
    by_cases hs : sp s[i] = true
    · rw [if_pos hs]
      refine ⟨hi, ?_, Nat.zero_le _, ?_, ?_⟩
      · intro w hw
        simp only at hw
        by_cases hc : c = []
        · rw [if_pos hc] at hw
          exact ih.words w hw
        · rw [if_neg hc] at hw
          rcases List.mem_append.1 hw with hw | hw
          · exact ih.words w hw
          · rw [List.mem_singleton] at hw
            subst hw
            refine ⟨i - w.length, by omega, ?_, fun d h1 h2 => ihp d h1 h2, fun d h => ?_⟩
            · rw [List.drop_take, show i - (i - w.length) = w.length by omega] at ihc
              exact ihc
            · rw [show i - w.length + w.length = i by omega, List.getElem?_eq_getElem hlt, Option.some.injEq] at h
              rw [← h]; exact hs
      · simp
      · intro d _ h
        simp only [List.length_nil, Nat.sub_zero, Nat.add_sub_cancel] at h
        rw [List.getElem?_eq_getElem hlt, Option.some.injEq] at h
        rw [← h]; exact hs
    · rw [if_neg hs]
      refine ⟨hi, ih.words, by simp; omega, ?_, ?_⟩
      · simp only [List.length_append, List.length_singleton]
        rw [show i + 1 - (c.length + 1) = i - c.length by omega, List.take_succ_eq_append_getElem hlt, List.drop_append_of_le_length (by simp; omega), ihc]
      · simp only [List.length_append, List.length_singleton]
        rw [show i + 1 - (c.length + 1) = i - c.length by omega]
        exact ihp
theorem word_at {s x : Str} (h : x ∈ wsplit s) : ∃ p, WordAt s x p := by
  have inv := winv (s := s) s.length (Nat.le_refl _)
  rw [List.take_of_length_le (Nat.le_refl _)] at inv
  unfold wsplit wfin at h
  generalize wst s = st at *
  obtain ⟨W, c⟩ := st
  have il := inv.len
  have ic := inv.cur
  have ip := inv.pre
  simp only at il ic ip h
  by_cases hc : c = []
  · rw [if_pos hc] at h
    exact inv.words x h
  · rw [if_neg hc] at h
    rcases List.mem_append.1 h with h | h
    · exact inv.words x h
    · rw [List.mem_singleton] at h
      subst h
      refine ⟨s.length - x.length, by omega, ?_, ip, fun d h => ?_⟩
      · rw [List.take_of_length_le (Nat.le_refl _)] at ic
        rw [ic, List.take_of_length_le (Nat.le_refl _)]
      · rw [show s.length - x.length + x.length = s.length by omega, List.getElem?_eq_none (Nat.le_refl _)] at h
        cases h
theorem word_ne {s x : Str} (h : x ∈ wsplit s) : x ≠ [] := by
  have key : ∀ (l : Str) (st : List Str × Str), (∀ w, w ∈ st.1 → w ≠ []) → ∀ w, w ∈ (l.foldl wstep st).1 → w ≠ [] := by
    intro l
    induction l with
    | nil => intro st h; exact h
    | cons c r ih =>
      intro st h
      rw [List.foldl_cons]
      refine ih _ ?_
      intro w hw
      unfold wstep at hw
      split at hw
      · simp only at hw
        split at hw
        · exact h w hw
        · rename_i hn
          rcases List.mem_append.1 hw with hw | hw
          · exact h w hw
          · rw [List.mem_singleton] at hw; rw [hw]; exact hn
      · exact h w hw
  unfold wsplit wfin at h
  split at h
  · exact key s ([], []) (fun w h => by cases h) x h
  · rename_i hn
    rcases List.mem_append.1 h with h | h
    · exact key s ([], []) (fun w h => by cases h) x h
    · rw [List.mem_singleton] at h; rw [h]; exact hn
def lays143_ren : Go.Shelf.Ren := ⟨fun | 143 => 35 | 219 => 61 | 217 => 80 | 225 => 81 | 224 => 82 | 267 => 83 | 266 => 94 | 314 => 95 | n => n, fun | 9 => 9 | 3 => 3 | 4 => 4 | 5 => 5 | 46 => 131 | 146 => 157 | 51 => 156 | n => n, fun | 1 => 0 | n => n⟩
theorem lays143 : Go.Proofs.Lays.n143 Tryz.prog lays143_ren where
  mixed := by kernel_rfl
  f143 := Tryz.func35.trans (congrArg some (by kernel_rfl))
  f217 := Tryz.func80.trans (congrArg some (by kernel_rfl))
  f219 := Tryz.func61.trans (congrArg some (by kernel_rfl))
  f224 := Tryz.func82.trans (congrArg some (by kernel_rfl))
  f225 := Tryz.func81.trans (congrArg some (by kernel_rfl))
  f266 := Tryz.func94.trans (congrArg some (by kernel_rfl))
  f267 := Tryz.func83.trans (congrArg some (by kernel_rfl))
  f314 := Tryz.func95.trans (congrArg some (by kernel_rfl))
  t3 := Tryz.underlying3
  a3 := Tryz.isAgg3
  z3 := Tryz.sizeOf3
  v3 := Tryz.zeroValue3
  t4 := Tryz.underlying4
  a4 := Tryz.isAgg4
  z4 := Tryz.sizeOf4
  v4 := Tryz.zeroValue4
  t5 := Tryz.underlying5
  a5 := Tryz.isAgg5
  z5 := Tryz.sizeOf5
  v5 := Tryz.zeroValue5
  t9 := Tryz.underlying9
  a9 := Tryz.isAgg9
  z9 := Tryz.sizeOf9
  v9 := Tryz.zeroValue9
  t46 := Tryz.underlying131
  a46 := Tryz.isAgg131
  z46 := Tryz.sizeOf131
  v46 := Tryz.zeroValue131
  t51 := Tryz.underlying156
  a51 := Tryz.isAgg156
  z51 := Tryz.sizeOf156
  v51 := Tryz.zeroValue156
  t146 := Tryz.underlying157
  a146 := Tryz.isAgg157
  z146 := Tryz.sizeOf157
  v146 := Tryz.zeroValue157
  g1 := by kernel_rfl
theorem index_at (s sub : ByteArray) (m : Int) (w : World) (hs : s.size < 4294967281) (hm : w.cell? ⟨0, 0, none⟩ = some (.int .i64 m)) :
    Calls Tryz.prog 35 #[.string s, .string sub] w fun e w' => e = .returned (.int .i64 (Lib.index s.data.toList sub.data.toList)) ∧ w' = w := Any.strings_Index lays143 s sub m w hs hm
theorem c35 {T : List (Entry Tryz.prog)} (s t : Str) (hl : s.length ≤ 1000000) : CallAt (ctx T) 35 [.str s, .str t] ⟨0, []⟩ (.int .i64 (Lib.index s t)) ⟨0, []⟩ := by
  intro ρ w xs sm hx
  match xs, hx with
  | [x, y], hx =>
    have h0 := hx.2 0 (by simp) (by simp)
    have h1 := hx.2 1 (by simp) (by simp)
    simp only [List.getElem_cons_zero, List.getElem_cons_succ] at h0 h1
    cases h0; cases h1
    obtain ⟨hB, m, hm⟩ := ρ.gl 0 (by simp [globs])
    have hc : w.cell? ⟨0, 0, none⟩ = some (.int .i64 m) := by rw [World.cell?, sm.below 0 hB]; exact hm
    have hrun : (callFunc 35 #[.string ⟨s.toArray⟩, .string ⟨t.toArray⟩]).run (ctx T).P w = .ok (.enter 35 #[.string ⟨s.toArray⟩, .string ⟨t.toArray⟩]) w := by
      have hf : (ctx T).P.funcs[35]? = some Tryz.f35 := Tryz.func35
      have hn : ¬ Tryz.f35.name = "runtime.NumGoroutine" := by decide +kernel
      simp [callFunc, hf, hn, Tryz.f35]
    refine .inr ⟨35, _, hrun, callsIn_wide.2 ((index_at ⟨s.toArray⟩ ⟨t.toArray⟩ m w ?_ hc).mono ?_)⟩
    · show s.toArray.size < _
      simp; omega
    · rintro e w' ⟨rfl, rfl⟩
      exact ⟨_, ρ, rfl, .int _ _, sm, Step.refl _ _ _⟩
noncomputable def e35 : Entry Tryz.prog := mkE 35 [[], []] (fun x : Str × Str => [.str x.1, .str x.2]) (fun x => x.1.length ≤ 1000000) (fun x => .int .i64 (Lib.index x.1 x.2)) fun x h => c35 (T := []) x.1 x.2 h
theorem k35 {T : List (Entry Tryz.prog)} (hT : findE 35 T = some e35.g) {s t : Str} (h1 : s.length ≤ 1000000) (H : Heap) : callL (ctx T) (.fn 35) [.str s, .str t] H = some (.int .i64 (Lib.index s t), H) :=
  mkE_scalar hT inj_str2 (s, t) h1 rfl (by simp)
theorem c36 {T : List (Entry Tryz.prog)} (c : UInt8) : CallAt (ctx T) 36 [.int .u8 c.toNat] ⟨0, []⟩ (.bool (sp c)) ⟨0, []⟩ := by
  refine callAt_body (fn := Tryz.f36) (s0 := ⟨[0, 2, 3, 4], [.int .u8 c.toNat, .undef, .undef, .undef], [], 10, ⟨0, [[]]⟩⟩) Tryz.func36 rfl rfl rfl ?_
  repeat refine wps_seq ?_
  refine wps_region callOK ?_
  simp [zS]
  repeat refine wps_seq ?_
  refine wps_region callOK ?_
  simp [zS]
  repeat refine wps_seq ?_
  refine wps_block ?_
  by_cases h1 : (c.toNat : Int) = 9
  · (repeat (first
      | (refine wps_seq ?_)
      | (refine wps_block ?_)
      | (refine wps_label ?_; simp only [thenQ, blockQ])
      | ((refine wps_region callOK ?_); simp [zS, h1])
      | (refine wps_cond (t := true) rfl (fun _ => ?_) (fun h => by cases h))
      | (refine wps_cond (t := false) rfl (fun h => by cases h) (fun _ => ?_))
      | ((refine wps_skip ?_); simp only [thenQ, blockQ])
      | ((refine wps_exit ?_); simp [thenQ, blockQ])))
    repeat refine wps_seq ?_
    refine wps_ret ?_
    simp [retVal, Tryz.f36, oneOr, thenQ, blockQ]
    exact ends_pure rfl (by simp [sp, h1])
  by_cases h2 : (c.toNat : Int) = 10
  · (repeat (first
      | (refine wps_seq ?_)
      | (refine wps_block ?_)
      | (refine wps_label ?_; simp only [thenQ, blockQ])
      | ((refine wps_region callOK ?_); simp [zS, h1, h2])
      | (refine wps_cond (t := true) rfl (fun _ => ?_) (fun h => by cases h))
      | (refine wps_cond (t := false) rfl (fun h => by cases h) (fun _ => ?_))
      | ((refine wps_skip ?_); simp only [thenQ, blockQ])
      | ((refine wps_exit ?_); simp [thenQ, blockQ])))
    repeat refine wps_seq ?_
    refine wps_ret ?_
    simp [retVal, Tryz.f36, oneOr, thenQ, blockQ]
    exact ends_pure rfl (by simp [sp, h2])
  by_cases h3 : (c.toNat : Int) = 12
  · (repeat (first
      | (refine wps_seq ?_)
      | (refine wps_block ?_)
      | (refine wps_label ?_; simp only [thenQ, blockQ])
      | ((refine wps_region callOK ?_); simp [zS, h1, h2, h3])
      | (refine wps_cond (t := true) rfl (fun _ => ?_) (fun h => by cases h))
      | (refine wps_cond (t := false) rfl (fun h => by cases h) (fun _ => ?_))
      | ((refine wps_skip ?_); simp only [thenQ, blockQ])
      | ((refine wps_exit ?_); simp [thenQ, blockQ])))
    repeat refine wps_seq ?_
    refine wps_ret ?_
    simp [retVal, Tryz.f36, oneOr, thenQ, blockQ]
    exact ends_pure rfl (by simp [sp, h3])
  by_cases h4 : (c.toNat : Int) = 13
  · (repeat (first
      | (refine wps_seq ?_)
      | (refine wps_block ?_)
      | (refine wps_label ?_; simp only [thenQ, blockQ])
      | ((refine wps_region callOK ?_); simp [zS, h1, h2, h3, h4])
      | (refine wps_cond (t := true) rfl (fun _ => ?_) (fun h => by cases h))
      | (refine wps_cond (t := false) rfl (fun h => by cases h) (fun _ => ?_))
      | ((refine wps_skip ?_); simp only [thenQ, blockQ])
      | ((refine wps_exit ?_); simp [thenQ, blockQ])))
    repeat refine wps_seq ?_
    refine wps_ret ?_
    simp [retVal, Tryz.f36, oneOr, thenQ, blockQ]
    exact ends_pure rfl (by simp [sp, h4])
  by_cases h5 : (c.toNat : Int) = 32
  · (repeat (first
      | (refine wps_seq ?_)
      | (refine wps_block ?_)
      | (refine wps_label ?_; simp only [thenQ, blockQ])
      | ((refine wps_region callOK ?_); simp [zS, h1, h2, h3, h4, h5])
      | (refine wps_cond (t := true) rfl (fun _ => ?_) (fun h => by cases h))
      | (refine wps_cond (t := false) rfl (fun h => by cases h) (fun _ => ?_))
      | ((refine wps_skip ?_); simp only [thenQ, blockQ])
      | ((refine wps_exit ?_); simp [thenQ, blockQ])))
    repeat refine wps_seq ?_
    refine wps_ret ?_
    simp [retVal, Tryz.f36, oneOr, thenQ, blockQ]
    exact ends_pure rfl (by simp [sp, h5])
  · (repeat (first
      | (refine wps_seq ?_)
      | (refine wps_block ?_)
      | (refine wps_label ?_; simp only [thenQ, blockQ])
      | ((refine wps_region callOK ?_); simp [zS, h1, h2, h3, h4, h5])
      | (refine wps_cond (t := true) rfl (fun _ => ?_) (fun h => by cases h))
      | (refine wps_cond (t := false) rfl (fun h => by cases h) (fun _ => ?_))
      | ((refine wps_skip ?_); simp only [thenQ, blockQ])
      | ((refine wps_exit ?_); simp [thenQ, blockQ])))
    repeat refine wps_seq ?_
    refine wps_ret ?_
    simp [retVal, Tryz.f36, oneOr, thenQ, blockQ]
    exact ends_pure rfl (by simp [sp, h1, h2, h3, h4, h5])
noncomputable def e36 : Entry Tryz.prog := mkE 36 [[]] (fun x : UInt8 => [.int .u8 x.toNat]) (fun _ => True) (fun x => .bool (sp x)) fun x _ => c36 (T := []) x
theorem k36 {T : List (Entry Tryz.prog)} (hT : findE 36 T = some e36.g) (c : UInt8) (H : Heap) : callL (ctx T) (.fn 36) [.int .u8 c.toNat] H = some (.bool (sp c), H) :=
  mkE_scalar hT inj_u8 c trivial rfl (by simp)
def eqN : Str → Str → Bool
  | [], l => match l with | [] => true | _ :: _ => false
  | a :: x, l => match l with
    | [] => false
    | b :: y => match Nat.beq a.toNat b.toNat with
      | true => eqN x y
      | false => false
theorem eqN_eq : ∀ (x y : Str), eqN x y = decide (x = y)
  | [], [] => rfl
  | [], _ :: _ => by simp [eqN]
  | _ :: _, [] => by simp [eqN]
  | a :: x, b :: y => by
    unfold eqN
    simp only
    split
    · rename_i h
      have := UInt8.toNat_inj.1 (Nat.eq_of_beq_eq_true h)
      subst this
      rw [eqN_eq]; simp
    · rename_i h
      have : ¬ a = b := fun e => by subst e; rw [Nat.beq_refl] at h; cases h
      simp [this]
end Go.Proofs.YtlgdgolobnbefaaGreatDoor
