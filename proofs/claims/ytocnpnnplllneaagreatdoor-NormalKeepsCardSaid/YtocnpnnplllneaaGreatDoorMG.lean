/- A word among the words of a text, as the program asks. No condition. -/
import Derived.Test.YtocnpnnplllneaaGreatDoorMF
import Derived.Test.YtocnpnnplllneaaGreatDoorChecked
import Derived.Shelf.Strings.Search3
import Derived.Lib.IndexMore
import Derived.Test.YtocnpnnplllneaaGreatDoorProg
namespace Go.Proofs.YtocnpnnplllneaaGreatDoor
set_option linter.unusedSimpArgs false
set_option linter.unusedVariables false
open Go Go.RowKit
set_option maxRecDepth 100000
def keepTbl:List (List Nat):=[[],[],[],[0,1,2],[0,1,2,3],[0,1,2,3,4,5,7,17,18,19],[0,1,2,4],[0,1,2,3,4,6,7,8],[0,1,2,3,4,5],[0,1,2,3],[0,1,2,3],[0,1,2,3,4],[0,1,2,3],[0,1,2,3],[0,1,2,4,6,13,14,15],[0,1,2,3,4,5,6],[0],[0,1,2,3,8],[0,1,3,4],[0,1,2,3,4,5],[0,1,2],[0],[0,1,2,7,8,17,18,19,32],[0,1,2,3,4,5,6,12,13,14,15],[0,1,2],[0,1,2,4,5,6,7],[0,1,2,3,4,5,6,7,8],[0,1,2],[0,1,4,5,6],[0,1,2,4,5],[0,1,2,4],[0,1,2,3,6,7],[0,1,4,5,6,7],[0,1,2,6,7,8],[0,1,4,5],[0,1,2,4,5,6,7],[0,1,2,6,7],[0,1,2,3,7,8],[0,1,2,3,8,9],[0,1,2,3,4,5,6],[0,1,3,4,5,6,7],[0,1,2,3,4,5,8,10,11,12,13,14],[0,1,2,4,5,6,7],[0,1,2,3,4],[0,1,4,5],[0,1,2,4,5,6],[0,1,2,4],[0,2],[0,1,2,3,4,5,6,12,13,14,15],[0,2,4,8,9,10],[0,1,2,3,4,5,8,9,11,57,58,59],[0,2],[0,2,3,4,5],[0,1,2],[0,1,4,5,6],[0,1,4,5],[0,1,2,5,6,7],[0,1,2,3,5,6,8,9,10],[0,1,3,4,5,6,7,52],[0,1,2,3,6,7],[0,2,3,4,5,6],[0,1,3,4,5,7],[0,1,4],[0,1,2],[0,2,3,4,5,6,7,8],[0,1,3,4,5],[0,1,2,4,5,6,7,8,9],[0,1,4,5,6,7],[0,2,3],[0,1,4],[0,2,3],[0,1,4],[0,2,3,5,6,7,8],[0,2,3,4,5,6],[0,1,4,5],[0,1,4],[0,1,4,5],[0,2],[0,1,4],[0,2,3,4,5],[0,1,4],[0,1,4,5,6],[0,2,3],[0,2],[0,1,4],[0,1,2,4],[0,2],[0,1,3,4],[0,1,2,3,8],[0,1,2,3,5,8,9,10],[0,1,3,4,5],[0,1,4,5],[0,1,2,4,5],[0,1,2,3,4,9],[0,1,2,3,4],[0,2,3,4,19,36],[0,1,4,5,14,15,25,49,62,73],[0,2,3,4,5,6,7,8],[0,2],[0,1,4,5,6],[0,1,2],[0,1,2,3,4],[0,1,2,6,7],[0,1,4],[0,2],[0,2,3],[0,2,3],[0,1,4,5],[0,2,3,4],[0,2],[0,1,2,6],[0,2],[0,1,4,5],[0,2,3,4,5],[0,2,3,4,5,6,7,8,9,10,11,12],[0,2,3,4,18],[0],[0,1,4],[0,2,3],[0,1,4],[0,2],[0,1,4],[0,1,4,5,6,7,8],[0,2],[0,1,2,4],[0,1,2,3,6,14,15],[0,1,4,5],[0,1,2,6,7,8,9],[0,2],[0,1,3,4,5,6,7,21,22,23],[0,1,3,4],[0,1,4,5,6],[0,1,4],[0,1,2,5,6],[0,2,3,4],[0,1,4],[0,1,4],[0,1,2],[0,1,4],[0,2],[0,1,4],[0,1,2,6,7],[0,1,4],[0,1,4],[],[0,2,3,4,5,6,7,8,9,10,11,12],[0,1,4,5,6,7,8,9,10,11,12,13,14,15,16,175,176],[0,2,3,4,5,6,75],[0,1,4],[0,1,4],[0,2,3,4],[0,1,4],[0,2],[0,1,4,5,6],[0,1,2,4],[0,1,2,6,7],[],[0,1],[0,2,3],[0,1,4],[0,1,3],[0,2,3,4,5,8,9,10],[0,1,4],[0,1,4,5,7,8],[0,1,2,3],[0,1,2,4,5,6,8,10,11,12],[0,1,2,3],[0,1,2,6,7,10,32,41,42],[0,2],[0,1,4,5,7,8],[0,1,2,3],[0,1,2],[0,1,4,5],[0,1,2],[0,1,4],[0,1,2],[0,1,4],[0,2],[0,2],[],[0,2],[0,1,4,5,6,7,8,9,10,45,46],[0,1,4,5,6,7,8,9,10,11,12,13],[0,1,4,5,7,8],[0,1,4,5,6,7,8,9,10,11,14,15,47,48,49],[0,2],[0,1,4],[0,1,4],[0,1,4,5,6],[0,1,4,5,7,8],[0,1],[0,1,4,5,7,8],[0,1,4],[0,1,2],[0,2],[0,1,4,5,6,7,8,9,10],[0,2,3,4,5,6],[0,2,3],[],[0,1,3],[0,2,3,4,5,6,7,8],[0,2],[],[],[],[],[],[],[],[],[],[],[],[],[],[],[],[],[],[],[],[],[],[]]
@[simp] theorem szT3:qbw Tryz.prog 3=some 1:=rfl
@[simp] theorem agT3:qgd Tryz.prog 3=some false:=rfl
@[simp] theorem byT3:qc6 Tryz.prog 3=some 8:=rfl
@[simp] theorem alT3 (H:Heap):alV Tryz.prog H 3=some (.ptr H.n 0,H.new (.cells [.int .i64 0])):=rfl
@[simp] theorem zeT3:qbn Tryz.prog 3=some (.int .i64 0):=rfl
attribute [simp] Tryz.underlying3
@[simp 500] theorem rvF3 (H:Heap) (cs:List AV) (o:Nat):qaq Tryz.prog H 3 (.fptr cs o)=qc7 cs o:=rfl
@[simp 500] theorem rvP3 (H:Heap) (b o:Nat):qaq Tryz.prog H 3 (.ptr b o)=(H.get b).bind fun k=>k.rd.bind fun cs=>qc7 cs o:=rfl
@[simp] theorem szT4:qbw Tryz.prog 4=some 1:=rfl
@[simp] theorem agT4:qgd Tryz.prog 4=some false:=rfl
@[simp] theorem byT4:qc6 Tryz.prog 4=some 1:=rfl
@[simp] theorem alT4 (H:Heap):alV Tryz.prog H 4=some (.ptr H.n 0,H.new (.cells [.bool false])):=rfl
@[simp] theorem zeT4:qbn Tryz.prog 4=some (.bool false):=rfl
attribute [simp] Tryz.underlying4
@[simp 500] theorem rvF4 (H:Heap) (cs:List AV) (o:Nat):qaq Tryz.prog H 4 (.fptr cs o)=qc7 cs o:=rfl
@[simp 500] theorem rvP4 (H:Heap) (b o:Nat):qaq Tryz.prog H 4 (.ptr b o)=(H.get b).bind fun k=>k.rd.bind fun cs=>qc7 cs o:=rfl
@[simp] theorem beq4 (a b:Bool):qd9 Tryz.prog .eql 4 (.bool a) (.bool b)=some (.bool (a == b)):=rfl
@[simp] theorem bne4 (a b:Bool):qd9 Tryz.prog .neq 4 (.bool a) (.bool b)=some (.bool !(a == b)):=rfl
@[simp] theorem szT5:qbw Tryz.prog 5=some 1:=rfl
@[simp] theorem agT5:qgd Tryz.prog 5=some false:=rfl
@[simp] theorem byT5:qc6 Tryz.prog 5=some 1:=rfl
@[simp] theorem alT5 (H:Heap):alV Tryz.prog H 5=some (.ptr H.n 0,H.new (.cells [.int .u8 0])):=rfl
@[simp] theorem zeT5:qbn Tryz.prog 5=some (.int .u8 0):=rfl
attribute [simp] Tryz.underlying5
@[simp 500] theorem rvF5 (H:Heap) (cs:List AV) (o:Nat):qaq Tryz.prog H 5 (.fptr cs o)=qc7 cs o:=rfl
@[simp 500] theorem rvP5 (H:Heap) (b o:Nat):qaq Tryz.prog H 5 (.ptr b o)=(H.get b).bind fun k=>k.rd.bind fun cs=>qc7 cs o:=rfl
@[simp] theorem szT9:qbw Tryz.prog 9=some 1:=rfl
@[simp] theorem agT9:qgd Tryz.prog 9=some false:=rfl
@[simp] theorem byT9:qc6 Tryz.prog 9=some 16:=rfl
@[simp] theorem alT9 (H:Heap):alV Tryz.prog H 9=some (.ptr H.n 0,H.new (.cells [.str []])):=rfl
@[simp] theorem zeT9:qbn Tryz.prog 9=some (.str []):=rfl
attribute [simp] Tryz.underlying9
@[simp 500] theorem rvF9 (H:Heap) (cs:List AV) (o:Nat):qaq Tryz.prog H 9 (.fptr cs o)=qc7 cs o:=rfl
@[simp 500] theorem rvP9 (H:Heap) (b o:Nat):qaq Tryz.prog H 9 (.ptr b o)=(H.get b).bind fun k=>k.rd.bind fun cs=>qc7 cs o:=rfl
@[simp] theorem szT22:qbw Tryz.prog 22=some 1:=rfl
@[simp] theorem agT22:qgd Tryz.prog 22=some false:=rfl
@[simp] theorem byT22:qc6 Tryz.prog 22=some 24:=rfl
@[simp] theorem alT22 (H:Heap):alV Tryz.prog H 22=some (.ptr H.n 0,H.new (.cells [.nilS])):=rfl
@[simp] theorem zeT22:qbn Tryz.prog 22=some (.nilS):=rfl
attribute [simp] Tryz.underlying22
@[simp 500] theorem rvF22 (H:Heap) (cs:List AV) (o:Nat):qaq Tryz.prog H 22 (.fptr cs o)=qc7 cs o:=rfl
@[simp 500] theorem rvP22 (H:Heap) (b o:Nat):qaq Tryz.prog H 22 (.ptr b o)=(H.get b).bind fun k=>k.rd.bind fun cs=>qc7 cs o:=rfl
@[simp] theorem slz22 (sz:Nat) (e:AV) (r:List AV):qd9 Tryz.prog .eql 22 (.fslc sz (e::r)) .nilS=some (.bool false):=rfl
@[simp] theorem sln22 (sz:Nat) (e:AV) (r:List AV):qd9 Tryz.prog .neq 22 (.fslc sz (e::r)) .nilS=some (.bool true):=rfl
@[simp] theorem slze22:qd9 Tryz.prog .eql 22 .eslc .nilS=some (.bool false):=rfl
@[simp] theorem slzz22:qd9 Tryz.prog .eql 22 .nilS .nilS=some (.bool true):=rfl
@[simp] theorem szT24:qbw Tryz.prog 24=some 1:=rfl
@[simp] theorem agT24:qgd Tryz.prog 24=some true:=rfl
@[simp] theorem byT24:qc6 Tryz.prog 24=some 24:=rfl
@[simp] theorem alT24 (H:Heap):alV Tryz.prog H 24=some (.ptr H.n 0,H.new (.cells [.nilS])):=rfl
@[simp] theorem zeT24:qbn Tryz.prog 24=some (.agg [.nilS]):=rfl
attribute [simp] Tryz.underlying24
@[simp 500] theorem rvF24 (H:Heap) (cs:List AV) (o:Nat):qaq Tryz.prog H 24 (.fptr cs o)=(qek o 1 cs).bind fun cs=>some (.agg cs):=rfl
@[simp 500] theorem rvP24 (H:Heap) (b o:Nat):qaq Tryz.prog H 24 (.ptr b o)=(readCells H b o 1).bind fun cs=>some (.agg cs):=rfl
@[simp] theorem fa24_0 (x:AV):qbl Tryz.prog 24 x 0=(match x with | .ptr b o=>some (.ptr b (o+0)) | .fptr cs o=>some (.fptr cs (o+0)) | _=>none):=rfl
@[simp] theorem fd24_0 (cs:List AV):qd7 Tryz.prog 24 (.agg cs) 0=qc7 cs 0:=rfl
@[simp] theorem szT30:qbw Tryz.prog 30=some 1:=rfl
@[simp] theorem agT30:qgd Tryz.prog 30=some false:=rfl
@[simp] theorem byT30:qc6 Tryz.prog 30=some 24:=rfl
@[simp] theorem alT30 (H:Heap):alV Tryz.prog H 30=some (.ptr H.n 0,H.new (.cells [.nilS])):=rfl
@[simp] theorem zeT30:qbn Tryz.prog 30=some (.nilS):=rfl
attribute [simp] Tryz.underlying30
@[simp 500] theorem rvF30 (H:Heap) (cs:List AV) (o:Nat):qaq Tryz.prog H 30 (.fptr cs o)=qc7 cs o:=rfl
@[simp 500] theorem rvP30 (H:Heap) (b o:Nat):qaq Tryz.prog H 30 (.ptr b o)=(H.get b).bind fun k=>k.rd.bind fun cs=>qc7 cs o:=rfl
@[simp] theorem slz30 (sz:Nat) (e:AV) (r:List AV):qd9 Tryz.prog .eql 30 (.fslc sz (e::r)) .nilS=some (.bool false):=rfl
@[simp] theorem sln30 (sz:Nat) (e:AV) (r:List AV):qd9 Tryz.prog .neq 30 (.fslc sz (e::r)) .nilS=some (.bool true):=rfl
@[simp] theorem slze30:qd9 Tryz.prog .eql 30 .eslc .nilS=some (.bool false):=rfl
@[simp] theorem slzz30:qd9 Tryz.prog .eql 30 .nilS .nilS=some (.bool true):=rfl
@[simp] theorem szT32:qbw Tryz.prog 32=some 1:=rfl
@[simp] theorem agT32:qgd Tryz.prog 32=some false:=rfl
@[simp] theorem byT32:qc6 Tryz.prog 32=some 24:=rfl
@[simp] theorem alT32 (H:Heap):alV Tryz.prog H 32=some (.ptr H.n 0,H.new (.cells [.nilS])):=rfl
@[simp] theorem zeT32:qbn Tryz.prog 32=some (.nilS):=rfl
attribute [simp] Tryz.underlying32
@[simp 500] theorem rvF32 (H:Heap) (cs:List AV) (o:Nat):qaq Tryz.prog H 32 (.fptr cs o)=qc7 cs o:=rfl
@[simp 500] theorem rvP32 (H:Heap) (b o:Nat):qaq Tryz.prog H 32 (.ptr b o)=(H.get b).bind fun k=>k.rd.bind fun cs=>qc7 cs o:=rfl
@[simp] theorem slz32 (sz:Nat) (e:AV) (r:List AV):qd9 Tryz.prog .eql 32 (.fslc sz (e::r)) .nilS=some (.bool false):=rfl
@[simp] theorem sln32 (sz:Nat) (e:AV) (r:List AV):qd9 Tryz.prog .neq 32 (.fslc sz (e::r)) .nilS=some (.bool true):=rfl
@[simp] theorem slze32:qd9 Tryz.prog .eql 32 .eslc .nilS=some (.bool false):=rfl
@[simp] theorem slzz32:qd9 Tryz.prog .eql 32 .nilS .nilS=some (.bool true):=rfl
@[simp] theorem qzu:qbw Tryz.prog 34=some 7:=rfl
@[simp] theorem agT34:qgd Tryz.prog 34=some true:=rfl
@[simp] theorem byT34:qc6 Tryz.prog 34=some 104:=rfl
@[simp] theorem alT34 (H:Heap):alV Tryz.prog H 34=some (.ptr H.n 0,H.new (.cells [.int .i64 0,.int .i64 0,.str [],.nilS,.str [],.int .i64 0,.nilS])):=rfl
@[simp] theorem zeT34:qbn Tryz.prog 34=some (.agg [.int .i64 0,.int .i64 0,.str [],.nilS,.str [],.int .i64 0,.nilS]):=rfl
attribute [simp] Tryz.underlying34
@[simp 500] theorem rvF34 (H:Heap) (cs:List AV) (o:Nat):qaq Tryz.prog H 34 (.fptr cs o)=(qek o 7 cs).bind fun cs=>some (.agg cs):=rfl
@[simp 500] theorem rvP34 (H:Heap) (b o:Nat):qaq Tryz.prog H 34 (.ptr b o)=(readCells H b o 7).bind fun cs=>some (.agg cs):=rfl
@[simp] theorem fa34_0 (x:AV):qbl Tryz.prog 34 x 0=(match x with | .ptr b o=>some (.ptr b (o+0)) | .fptr cs o=>some (.fptr cs (o+0)) | _=>none):=rfl
@[simp] theorem fd34_0 (cs:List AV):qd7 Tryz.prog 34 (.agg cs) 0=qc7 cs 0:=rfl
@[simp] theorem fa34_1 (x:AV):qbl Tryz.prog 34 x 1=(match x with | .ptr b o=>some (.ptr b (o+1)) | .fptr cs o=>some (.fptr cs (o+1)) | _=>none):=rfl
@[simp] theorem fd34_1 (cs:List AV):qd7 Tryz.prog 34 (.agg cs) 1=qc7 cs 1:=rfl
@[simp] theorem fa34_2 (x:AV):qbl Tryz.prog 34 x 2=(match x with | .ptr b o=>some (.ptr b (o+2)) | .fptr cs o=>some (.fptr cs (o+2)) | _=>none):=rfl
@[simp] theorem fd34_2 (cs:List AV):qd7 Tryz.prog 34 (.agg cs) 2=qc7 cs 2:=rfl
@[simp] theorem fa34_3 (x:AV):qbl Tryz.prog 34 x 3=(match x with | .ptr b o=>some (.ptr b (o+3)) | .fptr cs o=>some (.fptr cs (o+3)) | _=>none):=rfl
@[simp] theorem fd34_3 (cs:List AV):qd7 Tryz.prog 34 (.agg cs) 3=qc7 cs 3:=rfl
@[simp] theorem fa34_4 (x:AV):qbl Tryz.prog 34 x 4=(match x with | .ptr b o=>some (.ptr b (o+4)) | .fptr cs o=>some (.fptr cs (o+4)) | _=>none):=rfl
@[simp] theorem fd34_4 (cs:List AV):qd7 Tryz.prog 34 (.agg cs) 4=qc7 cs 4:=rfl
@[simp] theorem fa34_5 (x:AV):qbl Tryz.prog 34 x 5=(match x with | .ptr b o=>some (.ptr b (o+5)) | .fptr cs o=>some (.fptr cs (o+5)) | _=>none):=rfl
@[simp] theorem fd34_5 (cs:List AV):qd7 Tryz.prog 34 (.agg cs) 5=qc7 cs 5:=rfl
@[simp] theorem fa34_6 (x:AV):qbl Tryz.prog 34 x 6=(match x with | .ptr b o=>some (.ptr b (o+6)) | .fptr cs o=>some (.fptr cs (o+6)) | _=>none):=rfl
@[simp] theorem fd34_6 (cs:List AV):qd7 Tryz.prog 34 (.agg cs) 6=qc7 cs 6:=rfl
@[simp] theorem szT36:qbw Tryz.prog 36=some 1:=rfl
@[simp] theorem agT36:qgd Tryz.prog 36=some false:=rfl
@[simp] theorem byT36:qc6 Tryz.prog 36=some 24:=rfl
@[simp] theorem alT36 (H:Heap):alV Tryz.prog H 36=some (.ptr H.n 0,H.new (.cells [.nilS])):=rfl
@[simp] theorem zeT36:qbn Tryz.prog 36=some (.nilS):=rfl
attribute [simp] Tryz.underlying36
@[simp 500] theorem rvF36 (H:Heap) (cs:List AV) (o:Nat):qaq Tryz.prog H 36 (.fptr cs o)=qc7 cs o:=rfl
@[simp 500] theorem rvP36 (H:Heap) (b o:Nat):qaq Tryz.prog H 36 (.ptr b o)=(H.get b).bind fun k=>k.rd.bind fun cs=>qc7 cs o:=rfl
@[simp] theorem slz36 (sz:Nat) (e:AV) (r:List AV):qd9 Tryz.prog .eql 36 (.fslc sz (e::r)) .nilS=some (.bool false):=rfl
@[simp] theorem sln36 (sz:Nat) (e:AV) (r:List AV):qd9 Tryz.prog .neq 36 (.fslc sz (e::r)) .nilS=some (.bool true):=rfl
@[simp] theorem slze36:qd9 Tryz.prog .eql 36 .eslc .nilS=some (.bool false):=rfl
@[simp] theorem slzz36:qd9 Tryz.prog .eql 36 .nilS .nilS=some (.bool true):=rfl
@[simp] theorem szT45:qbw Tryz.prog 45=some 1:=rfl
@[simp] theorem agT45:qgd Tryz.prog 45=some false:=rfl
@[simp] theorem byT45:qc6 Tryz.prog 45=some 24:=rfl
@[simp] theorem alT45 (H:Heap):alV Tryz.prog H 45=some (.ptr H.n 0,H.new (.cells [.nilS])):=rfl
@[simp] theorem zeT45:qbn Tryz.prog 45=some (.nilS):=rfl
attribute [simp] Tryz.underlying45
@[simp 500] theorem rvF45 (H:Heap) (cs:List AV) (o:Nat):qaq Tryz.prog H 45 (.fptr cs o)=qc7 cs o:=rfl
@[simp 500] theorem rvP45 (H:Heap) (b o:Nat):qaq Tryz.prog H 45 (.ptr b o)=(H.get b).bind fun k=>k.rd.bind fun cs=>qc7 cs o:=rfl
@[simp] theorem slz45 (sz:Nat) (e:AV) (r:List AV):qd9 Tryz.prog .eql 45 (.fslc sz (e::r)) .nilS=some (.bool false):=rfl
@[simp] theorem sln45 (sz:Nat) (e:AV) (r:List AV):qd9 Tryz.prog .neq 45 (.fslc sz (e::r)) .nilS=some (.bool true):=rfl
@[simp] theorem slze45:qd9 Tryz.prog .eql 45 .eslc .nilS=some (.bool false):=rfl
@[simp] theorem slzz45:qd9 Tryz.prog .eql 45 .nilS .nilS=some (.bool true):=rfl
@[simp] theorem szT71:qbw Tryz.prog 71=some 2:=rfl
@[simp] theorem agT71:qgd Tryz.prog 71=some true:=rfl
@[simp] theorem byT71:qc6 Tryz.prog 71=some 32:=rfl
@[simp] theorem alT71 (H:Heap):alV Tryz.prog H 71=some (.ptr H.n 0,H.new (.cells [.str [],.str []])):=rfl
@[simp] theorem zeT71:qbn Tryz.prog 71=some (.agg [.str [],.str []]):=rfl
attribute [simp] Tryz.underlying71
@[simp 500] theorem rvF71 (H:Heap) (cs:List AV) (o:Nat):qaq Tryz.prog H 71 (.fptr cs o)=(qek o 2 cs).bind fun cs=>some (.agg cs):=rfl
@[simp 500] theorem rvP71 (H:Heap) (b o:Nat):qaq Tryz.prog H 71 (.ptr b o)=(readCells H b o 2).bind fun cs=>some (.agg cs):=rfl
@[simp] theorem fa71_0 (x:AV):qbl Tryz.prog 71 x 0=(match x with | .ptr b o=>some (.ptr b (o+0)) | .fptr cs o=>some (.fptr cs (o+0)) | _=>none):=rfl
@[simp] theorem fd71_0 (cs:List AV):qd7 Tryz.prog 71 (.agg cs) 0=qc7 cs 0:=rfl
@[simp] theorem fa71_1 (x:AV):qbl Tryz.prog 71 x 1=(match x with | .ptr b o=>some (.ptr b (o+1)) | .fptr cs o=>some (.fptr cs (o+1)) | _=>none):=rfl
@[simp] theorem fd71_1 (cs:List AV):qd7 Tryz.prog 71 (.agg cs) 1=qc7 cs 1:=rfl
attribute [simp] opndO_s
noncomputable def ctx (T:List (Entry Tryz.prog)):Ctx:=mkC Tryz.prog (fun f=>(qc7 keepTbl f).getD []) T
@[simp] theorem mkC_P (T:List (Entry Tryz.prog)):(ctx T).P=Tryz.prog:=rfl
theorem mixed:Tryz.prog.follows .mixedOrders=true:=by decide +kernel
theorem qa1 {T:List (Entry Tryz.prog)}:CallOK (ctx T) (qbb (ctx T)):=mkC_call _ _ T mixed
theorem qbc {T:List (Entry Tryz.prog)} (l:List (Fact (ctx T))):CallOK (ctx T) (qce l (qbb (ctx T))):=qmy qa1 l
abbrev Str:=List UInt8
@[simp] theorem lenStr (H:Heap) (s:Str):qeu Tryz.prog H 9 (.str s)=some s.length:=by simp [qeu]
theorem qmc {s:Str} {i:Nat} (h:i < s.length):qgq Tryz.prog 9 (.str s) (.int .i64 (i:Int))=some (.int .u8 (s[i]'h).toNat):=by
 simp [qgq,qbs h,qee h]
theorem slStr {H:Heap} {s:Str} {i:Nat} (h:i≤s.length):qdu Tryz.prog H 9 (.str s) (some (.int .i64 (i:Int))) none none=some (.str (s.drop i)):=by
 simp [qdu,qza,qcq,qbs (Nat.lt_succ_of_le h)]
theorem catStr {x y:Str} (h:x.length+y.length≤1000000000000):qd9 Tryz.prog .add 9 (.str x) (.str y)=some (.str (x++y)):=by
 simp [qd9,qse];omega
@[simp] theorem eqStr (x y:Str):qd9 Tryz.prog .eql 9 (.str x) (.str y)=some (.bool (decide (x=y))):=by simp [qd9,qse,qku]
@[simp] theorem neStr (x y:Str):qd9 Tryz.prog .neq 9 (.str x) (.str y)=some (.bool !(decide (x=y))):=by simp [qd9,qse,qku]
abbrev qcr (L:List Str):AV:=.fslc 1 (L.map .str)
theorem zct (L:List Str):Elems 1 (L.map AV.str):=.map (sz:=1) (f:=AV.str) (by decide) (fun x=>⟨rfl,rfl,fun _=>rfl,fun h=>absurd rfl h⟩) L
theorem atS {L:List Str} {i:Nat} (h:i < L.length):qat Tryz.prog 36 (qcr L) (.int .i64 (i:Int))=some (.fptr [.str L[i]] 0):=by
 simp [qat,qcr,qbs h,qg3 h,AV.cells]
theorem lenS {H:Heap} {L:List Str}:qeu Tryz.prog H 36 (qcr L)=some L.length:=by simp [qeu,qcr]
theorem inj_str (x y:Str) (h:[AV.str x]=[AV.str y]):x=y:=by simp at h;exact h
theorem qx1 (x y:Str × Str) (h:[AV.str x.1,AV.str x.2]=[AV.str y.1,AV.str y.2]):x=y:=by
 simp at h;exact Prod.ext h.1 h.2
theorem inj_strs {L M:List Str} (h:qcr L=qcr M):L=M:=by
 simp only [qcr,AV.fslc.injEq,true_and] at h
 exact List.map_inj_right (fun _ _ h=>by simpa using h) |>.1 h
theorem inj_u8 (x y:UInt8) (h:[AV.int .u8 (x.toNat:Int)]=[AV.int .u8 (y.toNat:Int)]):x=y:=by
 simp only [List.cons.injEq,AV.int.injEq,true_and,and_true] at h
 exact UInt8.toNat_inj.1 (by omega)
def sp (c:UInt8):Bool:=decide ((c.toNat:Int)=9) || (decide ((c.toNat:Int)=10) || (decide ((c.toNat:Int)=12) || (decide ((c.toNat:Int)=13) || decide ((c.toNat:Int)=32))))
def qgw (st:List Str × Str) (c:UInt8):List Str × Str:=if sp c=true then (if st.2=[] then st.1 else st.1++[st.2],[]) else (st.1,st.2++[c])
def wst (s:Str):List Str × Str:=s.foldl qgw ([],[])
def wfin (st:List Str × Str):List Str:=if st.2=[] then st.1 else st.1++[st.2]
def qdq (s:Str):List Str:=wfin (wst s)
theorem qk1 {s:Str} {i:Nat} (h:i < s.length):wst (s.take (i+1))=qgw (wst (s.take i)) s[i]:=by
 rw [List.take_succ_eq_append_getElem h]
 simp only [wst,List.foldl_append,List.foldl_cons,List.foldl_nil]
theorem wst_len (s:Str):(wst s).2.length≤s.length∧(wst s).1.length≤s.length:=by
 have key:∀ (s:Str) (st:List Str × Str),(s.foldl qgw st).2.length≤st.2.length+s.length∧(s.foldl qgw st).1.length≤st.1.length+s.length:=by
  intro s
  induction s with
  | nil=>intro st;simp
  | cons c r ih=>
   intro st
   have:=ih (qgw st c)
   simp only [List.foldl_cons,List.length_cons]
   have h1:(qgw st c).2.length≤st.2.length+1∧(qgw st c).1.length≤st.1.length+1:=by
    unfold qgw
    split
    ·split <;> simp
    ·simp
   omega
 have:=key s ([],[])
 simp only [wst]
 simp at this
 exact this
def inW (w x:Str):Bool:=decide (x∈qdq w)
theorem qxn (s:Str):(qdq s).length≤s.length+1:=by
 have:=wst_len s
 unfold qdq wfin
 split <;> simp <;> omega
structure WordAt (s x:Str) (p:Nat):Prop where
 room:p+x.length≤s.length
 occ:(s.drop p).take x.length=x
 pre:∀ c,0 < p→s[p - 1]? = some c→sp c=true
 post:∀ c,s[p+x.length]? = some c→sp c=true
structure WInv (s:Str) (i:Nat) (st:List Str × Str):Prop where
 le:i≤s.length
 words:∀ w,w∈st.1→∃ p,WordAt s w p
 len:st.2.length≤i
 cur:(s.take i).drop (i - st.2.length)=st.2
 pre:∀ c,0 < i - st.2.length→s[i - st.2.length - 1]? = some c→sp c=true
theorem winv {s:Str}:∀ (i:Nat),i≤s.length→WInv s i (wst (s.take i))
 | 0,_=>by
  have e:wst (s.take 0)=([],[]):=by simp [wst]
  rw [e]
  exact ⟨Nat.zero_le _,fun w h=>(by cases h),Nat.le_refl _,rfl,fun c h=>absurd h (Nat.lt_irrefl 0)⟩
 | i+1,hi=>by
  have ih:=winv (s:=s) i (by omega)
  have hlt:i < s.length:=by omega
  rw [qk1 hlt]
  generalize wst (s.take i)=st at ih
  obtain ⟨W,c⟩:=st
  have ihl:=ih.len
  have ihc:=ih.cur
  have ihp:=ih.pre
  simp only at ihl ihc ihp
  unfold qgw
  by_cases hs:sp s[i]=true
  ·rw [if_pos hs]
   refine ⟨hi,?_,Nat.zero_le _,?_,?_⟩
   ·intro w hw
    simp only at hw
    by_cases hc:c=[]
    ·rw [if_pos hc] at hw
     exact ih.words w hw
    ·rw [if_neg hc] at hw
     rcases List.mem_append.1 hw with hw | hw
     ·exact ih.words w hw
     ·rw [List.mem_singleton] at hw
      subst hw
      refine ⟨i - w.length,by omega,?_,fun d h1 h2=>ihp d h1 h2,fun d h=>?_⟩
      ·rw [List.drop_take,show i - (i - w.length)=w.length by omega] at ihc
       exact ihc
      ·rw [show i - w.length+w.length=i by omega,List.getElem?_eq_getElem hlt,sj] at h
       rw [← h];exact hs
   ·simp
   ·intro d _ h
    simp only [List.length_nil,Nat.sub_zero,Nat.add_sub_cancel] at h
    rw [List.getElem?_eq_getElem hlt,sj] at h
    rw [← h];exact hs
  ·rw [if_neg hs]
   refine ⟨hi,ih.words,by simp;omega,?_,?_⟩
   ·simp only [List.length_append,List.length_singleton]
    rw [show i+1 - (c.length+1)=i - c.length by omega,List.take_succ_eq_append_getElem hlt,List.drop_append_of_le_length (by simp;omega),ihc]
   ·simp only [List.length_append,List.length_singleton]
    rw [show i+1 - (c.length+1)=i - c.length by omega]
    exact ihp
theorem word_at {s x:Str} (h:x∈qdq s):∃ p,WordAt s x p:=by
 have inv:=winv (s:=s) s.length (Nat.le_refl _)
 rw [List.take_of_length_le (Nat.le_refl _)] at inv
 unfold qdq wfin at h
 generalize wst s=st at *
 obtain ⟨W,c⟩:=st
 have il:=inv.len
 have ic:=inv.cur
 have ip:=inv.pre
 simp only at il ic ip h
 by_cases hc:c=[]
 ·rw [if_pos hc] at h
  exact inv.words x h
 ·rw [if_neg hc] at h
  rcases List.mem_append.1 h with h | h
  ·exact inv.words x h
  ·rw [List.mem_singleton] at h
   subst h
   refine ⟨s.length - x.length,by omega,?_,ip,fun d h=>?_⟩
   ·rw [List.take_of_length_le (Nat.le_refl _)] at ic
    rw [ic,List.take_of_length_le (Nat.le_refl _)]
   ·rw [show s.length - x.length+x.length=s.length by omega,List.getElem?_eq_none (Nat.le_refl _)] at h
    cases h
theorem word_ne {s x:Str} (h:x∈qdq s):x≠[]:=by
 have key:∀ (l:Str) (st:List Str × Str),(∀ w,w∈st.1→w≠[])→∀ w,w∈(l.foldl qgw st).1→w≠[]:=by
  intro l
  induction l with
  | nil=>intro st h;exact h
  | cons c r ih=>
   intro st h
   rw [List.foldl_cons]
   refine ih _ ?_
   intro w hw
   unfold qgw at hw
   split at hw
   ·simp only at hw
    split at hw
    ·exact h w hw
    ·rename_i hn
     rcases List.mem_append.1 hw with hw | hw
     ·exact h w hw
     ·rw [List.mem_singleton] at hw;rw [hw];exact hn
   ·exact h w hw
 unfold qdq wfin at h
 split at h
 ·exact key s ([],[]) (fun w h=>by cases h) x h
 ·rename_i hn
  rcases List.mem_append.1 h with h | h
  ·exact key s ([],[]) (fun w h=>by cases h) x h
  ·rw [List.mem_singleton] at h;rw [h];exact hn
def qur:Go.Shelf.Ren:=⟨fun | 143=>149 | 219=>182 | 217=>192 | 225=>179 | 224=>178 | 267=>195 | 266=>198 | 314=>200 | n=>n,fun | 9=>9 | 3=>3 | 4=>4 | 5=>5 | 46=>130 | 146=>164 | 51=>163 | n=>n,fun | 1=>2 | n=>n⟩
theorem lays143:Go.Proofs.Lays.n143 Tryz.prog qur where
 mixed:=by kernel_rfl
 f143:=Tryz.func149.trans (congrArg some (by kernel_rfl))
 f217:=Tryz.func192.trans (congrArg some (by kernel_rfl))
 f219:=Tryz.func182.trans (congrArg some (by kernel_rfl))
 f224:=Tryz.func178.trans (congrArg some (by kernel_rfl))
 f225:=Tryz.func179.trans (congrArg some (by kernel_rfl))
 f266:=Tryz.func198.trans (congrArg some (by kernel_rfl))
 f267:=Tryz.func195.trans (congrArg some (by kernel_rfl))
 f314:=Tryz.func200.trans (congrArg some (by kernel_rfl))
 t3:=Tryz.underlying3
 a3:=Tryz.isAgg3
 z3:=Tryz.sizeOf3
 v3:=Tryz.zeroValue3
 t4:=Tryz.underlying4
 a4:=Tryz.isAgg4
 z4:=Tryz.sizeOf4
 v4:=Tryz.zeroValue4
 t5:=Tryz.underlying5
 a5:=Tryz.isAgg5
 z5:=Tryz.sizeOf5
 v5:=Tryz.zeroValue5
 t9:=Tryz.underlying9
 a9:=Tryz.isAgg9
 z9:=Tryz.sizeOf9
 v9:=Tryz.zeroValue9
 t46:=Tryz.underlying130
 a46:=Tryz.isAgg130
 z46:=Tryz.sizeOf130
 v46:=Tryz.zeroValue130
 t51:=Tryz.underlying163
 a51:=Tryz.isAgg163
 z51:=Tryz.sizeOf163
 v51:=Tryz.zeroValue163
 t146:=Tryz.underlying164
 a146:=Tryz.isAgg164
 z146:=Tryz.sizeOf164
 v146:=Tryz.zeroValue164
 g1:=by kernel_rfl
theorem index_at (s sub:ByteArray) (m:Int) (w:World) (hs:s.size < 4294967281) (hm:w.cell? ⟨2,0,none⟩=some (.int .i64 m)) :
  Calls Tryz.prog 149 #[.string s,.string sub] w fun e w'=>e=.returned (.int .i64 (Lib.index s.data.toList sub.data.toList))∧w'=w:=Any.strings_Index lays143 s sub m w hs hm
theorem c149 {T:List (Entry Tryz.prog)} (s t:Str) (hl:s.length≤1000000):CallAt (ctx T) 149 [.str s,.str t] ⟨0,[]⟩ (.int .i64 (Lib.index s t)) ⟨0,[]⟩:=by
 intro ρ w xs sm hx
 match xs,hx with
 | [x,y],hx=>
  have h0:=hx.2 0 (by simp) (by simp)
  have h1:=hx.2 1 (by simp) (by simp)
  simp only [List.getElem_cons_zero,List.getElem_cons_succ] at h0 h1
  cases h0;cases h1
  obtain ⟨hB,m,hm⟩:=ρ.gl 2 (by simp [globs])
  have hc:w.cell? ⟨2,0,none⟩=some (.int .i64 m):=by rw [World.cell?,sm.below 2 hB];exact hm
  have hrun:(callFunc 149 #[.string ⟨s.toArray⟩,.string ⟨t.toArray⟩]).run (ctx T).P w=.ok (.enter 149 #[.string ⟨s.toArray⟩,.string ⟨t.toArray⟩]) w:=by
   have hf:(ctx T).P.funcs[149]? = some Tryz.f149:=Tryz.func149
   have hn : ¬ Tryz.f149.name = "runtime.NumGoroutine" := by decide +kernel
   simp [callFunc,hf,hn,Tryz.f149]
  refine .inr ⟨149,_,hrun,callsIn_wide.2 ((index_at ⟨s.toArray⟩ ⟨t.toArray⟩ m w ?_ hc).mono ?_)⟩
  ·show s.toArray.size < _
   simp;omega
  ·rintro e w' ⟨rfl,rfl⟩
   exact ⟨_,ρ,rfl,.int _ _,sm,Step.refl _ _ _⟩
noncomputable def e149:Entry Tryz.prog:=mkE 149 [[],[]] (fun x:Str × Str=>[.str x.1,.str x.2]) (fun x=>x.1.length≤1000000) (fun x=>.int .i64 (Lib.index x.1 x.2)) fun x h=>c149 (T:=[]) x.1 x.2 h
theorem k149 {T:List (Entry Tryz.prog)} (hT:qai 149 T=some e149.g) {s t:Str} (h1:s.length≤1000000) (H:Heap):qbb (ctx T) (.fn 149) [.str s,.str t] H=some (.int .i64 (Lib.index s t),H):=
 qal hT qx1 (s,t) h1 rfl (by simp)
theorem c150 {T:List (Entry Tryz.prog)} (c:UInt8):CallAt (ctx T) 150 [.int .u8 c.toNat] ⟨0,[]⟩ (.bool (sp c)) ⟨0,[]⟩:=by
 refine qa2 (fn:=Tryz.f150) (s0:=⟨[0,2,3,4],[.int .u8 c.toNat,.undef,.undef,.undef],[],10,⟨0,[[]]⟩⟩) Tryz.func150 rfl rfl rfl ?_
 repeat apply wq
 refine qa0 qa1 ?_
 simp [zS]
 repeat apply wq
 refine qa0 qa1 ?_
 simp [zS]
 refine qab ?_
 by_cases h1:(c.toNat:Int)=9
 ·(repeat (first
   | (refine qb0 ?_)
   | (refine qab ?_)
   | (refine qc8 ?_;simp only [qaf,qa6])
   | ((refine qa0 qa1 ?_);simp [zS,h1])
   | (refine qan rfl ?_)
   | (refine qam rfl ?_)
   | ((refine qa9 ?_);simp only [qaf,qa6])
   | ((refine qaw ?_);simp [qaf,qa6])))
  refine qa8 ?_
  simp [qad,Tryz.f150,oneOr,qaf,qa6]
  exact qa5 rfl (by simp [sp,h1])
 by_cases h2:(c.toNat:Int)=10
 ·(repeat (first
   | (refine qb0 ?_)
   | (refine qab ?_)
   | (refine qc8 ?_;simp only [qaf,qa6])
   | ((refine qa0 qa1 ?_);simp [zS,h1,h2])
   | (refine qan rfl ?_)
   | (refine qam rfl ?_)
   | ((refine qa9 ?_);simp only [qaf,qa6])
   | ((refine qaw ?_);simp [qaf,qa6])))
  refine qa8 ?_
  simp [qad,Tryz.f150,oneOr,qaf,qa6]
  exact qa5 rfl (by simp [sp,h2])
 by_cases h3:(c.toNat:Int)=12
 ·(repeat (first
   | (refine qb0 ?_)
   | (refine qab ?_)
   | (refine qc8 ?_;simp only [qaf,qa6])
   | ((refine qa0 qa1 ?_);simp [zS,h1,h2,h3])
   | (refine qan rfl ?_)
   | (refine qam rfl ?_)
   | ((refine qa9 ?_);simp only [qaf,qa6])
   | ((refine qaw ?_);simp [qaf,qa6])))
  refine qa8 ?_
  simp [qad,Tryz.f150,oneOr,qaf,qa6]
  exact qa5 rfl (by simp [sp,h3])
 by_cases h4:(c.toNat:Int)=13
 ·(repeat (first
   | (refine qb0 ?_)
   | (refine qab ?_)
   | (refine qc8 ?_;simp only [qaf,qa6])
   | ((refine qa0 qa1 ?_);simp [zS,h1,h2,h3,h4])
   | (refine qan rfl ?_)
   | (refine qam rfl ?_)
   | ((refine qa9 ?_);simp only [qaf,qa6])
   | ((refine qaw ?_);simp [qaf,qa6])))
  refine qa8 ?_
  simp [qad,Tryz.f150,oneOr,qaf,qa6]
  exact qa5 rfl (by simp [sp,h4])
 by_cases h5:(c.toNat:Int)=32
 ·(repeat (first
   | (refine qb0 ?_)
   | (refine qab ?_)
   | (refine qc8 ?_;simp only [qaf,qa6])
   | ((refine qa0 qa1 ?_);simp [zS,h1,h2,h3,h4,h5])
   | (refine qan rfl ?_)
   | (refine qam rfl ?_)
   | ((refine qa9 ?_);simp only [qaf,qa6])
   | ((refine qaw ?_);simp [qaf,qa6])))
  refine qa8 ?_
  simp [qad,Tryz.f150,oneOr,qaf,qa6]
  exact qa5 rfl (by simp [sp,h5])
 ·(repeat (first
   | (refine qb0 ?_)
   | (refine qab ?_)
   | (refine qc8 ?_;simp only [qaf,qa6])
   | ((refine qa0 qa1 ?_);simp [zS,h1,h2,h3,h4,h5])
   | (refine qan rfl ?_)
   | (refine qam rfl ?_)
   | ((refine qa9 ?_);simp only [qaf,qa6])
   | ((refine qaw ?_);simp [qaf,qa6])))
  refine qa8 ?_
  simp [qad,Tryz.f150,oneOr,qaf,qa6]
  exact qa5 rfl (by simp [sp,h1,h2,h3,h4,h5])
noncomputable def e150:Entry Tryz.prog:=mkE 150 [[]] (fun x:UInt8=>[.int .u8 x.toNat]) (fun _=>True) (fun x=>.bool (sp x)) fun x _=>c150 (T:=[]) x
theorem k150 {T:List (Entry Tryz.prog)} (hT:qai 150 T=some e150.g) (c:UInt8) (H:Heap):qbb (ctx T) (.fn 150) [.int .u8 c.toNat] H=some (.bool (sp c),H):=
 qal hT inj_u8 c trivial rfl (by simp)
def qzz:List AV→List Str→Bool
 | [],l=>match l with
  | []=>true
  | _::_=>false
 | v::r,l=>match v,l with
  | .str s,t::q=>match eqB s t with
   | true=>qzz r q
   | false=>false
  | _,_=>false
theorem qvx:∀ {cs:List AV} {L:List Str},qzz cs L=true→cs=L.map AV.str
 | [],[],_=>rfl
 | [],_::_,h=>by simp [qzz] at h
 | v::r,L,h=>by
  cases v <;> cases L <;> simp only [qzz] at h <;> first | (cases h;done) | skip
  rename_i s t q
  split at h
  ·rename_i he
   rw [qku] at he
   simp only [decide_eq_true_eq] at he
   rw [he,qvx h];rfl
  ·cases h
def qnb (L:List Str):Option (AV × Heap)→Bool
 | some (.slc b 0 len _,H)=>match H.get b with
  | some (.cells cs)=>match qzz cs L with
   | true=>Nat.beq len L.length
   | false=>false
  | _=>false
 | _=>false
theorem qv8 {T:List (Entry Tryz.prog)} {f:FuncId} {args:List AV} {L:List Str} (h:qnb L (qpe (ctx T) 100000 (.fn f) args ⟨0,[]⟩)=true):CallAt (ctx T) f args ⟨0,[]⟩ (qcr L) ⟨0,[]⟩:=by
 revert h
 cases hr:qpe (ctx T) 100000 (.fn f) args ⟨0,[]⟩ with
 | none=>intro h;cases h
 | some r=>
  obtain ⟨v,H'⟩:=r
  intro h
  cases v <;> simp only [qnb] at h <;> first | (cases h;done) | skip
  rename_i b o len cap
  cases o with
  | succ o=>simp [qnb] at h
  | zero=>
   simp only [qnb] at h
   split at h
   ·rename_i cs hg
    split at h
    ·rename_i hs
     have hcs:=qvx hs
     have hlen:=Nat.eq_of_beq_eq_true h
     refine ((qvc mixed (qwq _ _ _) 100000).fn f args ⟨0,[]⟩ _ _ hr).freeze (Φ:=[(b,cs)]) ?_ (.froze (by simp) fun x hx=>?_)
     ·simp only [qcr,qar]
      refine .inl ⟨cs,by simp [qc5],?_,by simp [hlen],(zct L).size⟩
      have h1:=qn9 (zct L) (k:=L.length) (by simp)
      rw [List.take_of_length_le (by simp)] at h1
      have h2:qa4 (L.map AV.str)=cs:=by
       rw [hcs]
       clear h1 hcs hs h hlen
       induction L with
       | nil=>rfl
       | cons x r ih=>simp only [List.map_cons,qa4,ih];rfl
      rw [h2] at h1 ⊢
      rw [hlen];exact h1
     ·simp only [List.mem_singleton] at hx
      subst hx
      have hp:qac cs=true:=by
       rw [hcs]
       clear hcs hs h hlen
       induction L with
       | nil=>rfl
       | cons x r ih=>simpa [qac,qah] using ih
      exact ⟨cs,hg,qaj hp,hp⟩
    ·cases h
   ·cases h
theorem occ_iff {s x:Str} {i:Nat}:Lib.occAt s x i=true↔(s.drop i).take x.length=x:=by
 unfold Lib.occAt
 rw [List.isPrefixOf_iff_prefix,List.prefix_iff_eq_take]
 exact eq_comm
theorem c122 {T:List (Entry Tryz.prog)} (hI:qai 149 T=some e149.g) (hS:qai 150 T=some e150.g) (W x:Str) (hl:W.length≤100000) (hx1:x.length≤1000000000)
  (hsp:CallAt (ctx T) 152 [.str W] ⟨0,[]⟩ (qcr (qdq W)) ⟨0,[]⟩) (hco:CallAt (ctx T) 151 [qcr (qdq W),.str x] ⟨0,[]⟩ (.bool (decide (x∈qdq W))) ⟨0,[]⟩) :
  CallAt (ctx T) 122 [.str W,.str x] ⟨0,[]⟩ (.bool (inW W x)) ⟨0,[]⟩:=by
 have h1:=hsp.lift (by simp [qac,qah]) ⟨0,[[]]⟩
 have h2:=hco.lift (by simp [qcr,qac,qah]) ⟨0,[[]]⟩
 refine qa2 (fn:=Tryz.f122) (s0:=⟨[0,1,4,5,6,7,8],[.str W,.str x,.undef,.undef,.undef,.undef,.undef],[],52,⟨0,[[]]⟩⟩) Tryz.func122 rfl rfl rfl ?_
 repeat apply wq
 refine qa0 qa1 ?_
 simp [zS]
 by_cases hx:x=[]
 ·repeat apply wq
  refine qa0 qa1 ?_
  simp [zS,hx]
  refine qan rfl ?_
  repeat apply wq
  refine qa0 qa1 ?_
  simp [zS]
  refine qa8 ?_
  simp [qad,Tryz.f122,oneOr,qaf,qa6]
  exact qa5 rfl (by simp only [inW];symm;simp;intro h;exact word_ne h rfl)
 repeat apply wq
 refine qa0 qa1 ?_
 simp [zS,hx]
 refine qam rfl ?_
 refine qa9 ?_
 simp
 have hx0:0 < x.length:=List.length_pos_iff.2 hx
 repeat apply wq
 refine qa0 qa1 ?_
 simp [zS]
 refine qab (qb7 (fun i:Nat=>(⟨[0,1,4,5,6,7,8],[.str W,.str x,.undef,.int .i64 i,.undef,.undef,.undef],[],52,⟨0,[[]]⟩⟩ : St))
  (fun i=>i≤W.length∧(x∈qdq W→∃ p,i≤p∧WordAt W x p)) (fun i=>W.length+1 - i) [] [] 0 ⟨Nat.zero_le _,fun h=>let ⟨p,hp⟩:=word_at h;⟨p,Nat.zero_le _,hp⟩⟩ ⟨rfl,rfl,rfl,by simp [qb1,qar,qah,qac],FitH.nothing⟩ ?_)
 rintro i ⟨hi,hw⟩ B hB
 have hd:(W.drop i).length≤1000000:=by simp;omega
 refine qab ?_
 rcases Lib.index_spec (W.drop i) x with ⟨h0,hn⟩ | ⟨k,h0,hk,ho,hno⟩
 ·have hnot:¬ x∈qdq W:=fun h=>by
   obtain ⟨p,hp,hwa⟩:=hw h
   have hr:=hwa.room
   have:=hn (p - i) (by simp;omega)
   have h3:Lib.occAt (W.drop i) x (p - i)=true:=occ_iff.2 (by rw [List.drop_drop,show i+(p - i)=p by omega];exact hwa.occ)
   rw [h3] at this
   cases this
  repeat apply wq
  refine qa0 qa1 ?_
  simp [zS,slStr hi,k149 hI hd,h0]
  repeat apply wq
  refine qa0 qa1 ?_
  simp [zS]
  refine qan rfl ?_
  repeat apply wq
  refine qa0 qa1 ?_
  simp [zS]
  refine qa8 ?_
  simp [qad,Tryz.f122,oneOr,qaf,qa6]
  exact qa5 rfl (by simp [inW,hnot])
 ·have hk0:¬ (k:Int) < 0:=by omega
  obtain ⟨j,hj⟩ : ∃ j,j=i+k:=⟨_,rfl⟩
  have ho':=occ_iff.1 ho
  rw [List.drop_drop,← hj] at ho'
  have hroom:j+x.length≤W.length:=by
   have:=congrArg List.length ho'
   simp at this
   simp at hk
   omega
  have a1:wr .i64 ((i:Int)+(k:Int))=some (j:Int):=by rw [qep (by omega) (by omega),hj];simp
  obtain ⟨q,hq⟩ : ∃ q,q=j+x.length:=⟨_,rfl⟩
  have a2:wr .i64 ((j:Int)+(x.length:Int))=some (q:Int):=by rw [qep (by omega) (by omega),hq];simp
  have nxt:∀ s',¬ WordAt W x j→(∃ σ Φ,Fit 0 σ Φ s' (⟨[0,1,4,5,6,7,8],[.str W,.str x,.undef,.int .i64 ((j+1:Nat):Int),.undef,.undef,.undef],[],52,⟨0,[[]]⟩⟩ : St))→B s':=fun s' hno2 hf=>
   hB s' (j+1) (by omega) ⟨by omega,fun h=>by
    obtain ⟨p,hp,hwa⟩:=hw h
    refine ⟨p,?_,hwa⟩
    have hr:=hwa.room
    apply Decidable.byContradiction
    intro hlt
    rcases Nat.lt_or_ge p j with hpj | hpj
    ·have h3:=hno (p - i) (by omega)
     have h4:Lib.occAt (W.drop i) x (p - i)=true:=occ_iff.2 (by rw [List.drop_drop,show i+(p - i)=p by omega];exact hwa.occ)
     rw [h4] at h3
     cases h3
    ·have:p=j:=by omega
     subst this
     exact hno2 hwa⟩ hf
  repeat apply wq
  refine qa0 qa1 ?_
  simp [zS,slStr hi,k149 hI hd,h0]
  repeat apply wq
  refine qa0 qa1 ?_
  simp [zS,hk0]
  refine qam rfl ?_
  refine qa9 ?_
  simp
  repeat apply wq
  refine qa0 qa1 ?_
  simp [zS,a1]
  repeat apply wq
  refine qa0 qa1 ?_
  simp [zS,a2]
  have kS:=fun c H=>k150 hS c H
  by_cases c0:j=0
  ·have a4:wr .i64 1=some ((j+1:Nat):Int):=by rw [c0];rfl
   by_cases d0:q=W.length
   ·repeat apply wq
    refine qa0 qa1 ?_
    simp [zS,c0,d0]
    refine qan rfl ?_
    repeat apply wq
    refine qa0 (qbc [⟨152,_,_,_,_,h1⟩,⟨151,_,_,_,_,h2⟩]) ?_
    simp [zS,qce,qcr]
    refine qa8 ?_
    simp [qad,Tryz.f122,oneOr,qaf,qa6]
    exact qa5 rfl (by simp [inW])
   ·have hql:q < W.length:=by omega
    have d0i:¬ (q:Int)=(W.length:Int):=by omega
    rcases Bool.eq_false_or_eq_true (sp W[q]) with d1 | d1
    ·repeat apply wq
     refine qa0 qa1 ?_
     simp [zS,c0,d0i,qmc hql,kS,d1]
     refine qan rfl ?_
     repeat apply wq
     refine qa0 (qbc [⟨152,_,_,_,_,h1⟩,⟨151,_,_,_,_,h2⟩]) ?_
     simp [zS,qce,qcr]
     refine qa8 ?_
     simp [qad,Tryz.f122,oneOr,qaf,qa6]
     exact qa5 rfl (by simp [inW])
    ·repeat apply wq
     refine qa0 qa1 ?_
     simp [zS,c0,d0i,qmc hql,kS,d1]
     refine qam rfl ?_
     refine qa9 ?_
     simp
     refine qa0 qa1 ?_
     simp [zS,a4]
     exact nxt _ (fun hwa=>by have:=hwa.post _ (by rw [← hq];exact List.getElem?_eq_getElem hql);rw [d1] at this;cases this) ⟨[],[],⟨rfl,rfl,rfl,by simp [qb1,qar,qah,qac],FitH.nothing⟩⟩
  ·obtain ⟨q1,hq1⟩ : ∃ q1,q1+1=j:=⟨j - 1,by omega⟩
   have hq1l:q1 < W.length:=by omega
   have a3:wr .i64 ((j:Int) - 1)=some (q1:Int):=by rw [qep (by omega) (by omega)];congr 1;omega
   rcases Bool.eq_false_or_eq_true (sp W[q1]) with c1 | c1
   ·skip
    by_cases d0:q=W.length
    ·repeat apply wq
     refine qa0 qa1 ?_
     simp [zS,c0,a3,qmc hq1l,kS,c1,d0]
     refine qan rfl ?_
     repeat apply wq
     refine qa0 (qbc [⟨152,_,_,_,_,h1⟩,⟨151,_,_,_,_,h2⟩]) ?_
     simp [zS,qce,qcr]
     refine qa8 ?_
     simp [qad,Tryz.f122,oneOr,qaf,qa6]
     exact qa5 rfl (by simp [inW])
    ·have hql:q < W.length:=by omega
     have d0i:¬ (q:Int)=(W.length:Int):=by omega
     rcases Bool.eq_false_or_eq_true (sp W[q]) with d1 | d1
     ·repeat apply wq
      refine qa0 qa1 ?_
      simp [zS,c0,a3,qmc hq1l,kS,c1,d0i,qmc hql,kS,d1]
      refine qan rfl ?_
      repeat apply wq
      refine qa0 (qbc [⟨152,_,_,_,_,h1⟩,⟨151,_,_,_,_,h2⟩]) ?_
      simp [zS,qce,qcr]
      refine qa8 ?_
      simp [qad,Tryz.f122,oneOr,qaf,qa6]
      exact qa5 rfl (by simp [inW])
     ·repeat apply wq
      refine qa0 qa1 ?_
      simp [zS,c0,a3,qmc hq1l,kS,c1,d0i,qmc hql,kS,d1]
      refine qam rfl ?_
      refine qa9 ?_
      simp
      refine qa0 qa1 ?_
      simp [zS,qbu (show j≤1000000000 by omega)]
      exact nxt _ (fun hwa=>by have:=hwa.post _ (by rw [← hq];exact List.getElem?_eq_getElem hql);rw [d1] at this;cases this) ⟨[],[],⟨rfl,rfl,rfl,by simp [qb1,qar,qah,qac],FitH.nothing⟩⟩
   ·repeat apply wq
    refine qa0 qa1 ?_
    simp [zS,c0,a3,qmc hq1l,kS,c1]
    refine qam rfl ?_
    refine qa9 ?_
    simp
    refine qa0 qa1 ?_
    simp [zS,qbu (show j≤1000000000 by omega)]
    exact nxt _ (fun hwa=>by have:=hwa.pre _ (by omega) (by rw [← hq1,Nat.add_sub_cancel];exact List.getElem?_eq_getElem hq1l);rw [c1] at this;cases this) ⟨[],[],⟨rfl,rfl,rfl,by simp [qb1,qar,qah,qac],FitH.nothing⟩⟩
end Go.Proofs.YtocnpnnplllneaaGreatDoor