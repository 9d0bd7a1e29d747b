/- The order's walk: what it gives to each round. No condition. -/
import Derived.Test.YtgpjifeeneeiaaaGreatDoorMF
import Derived.Test.YtgpjifeeneeiaaaGreatDoorChecked
namespace Go.Proofs.YtgpjifeeneeiaaaGreatDoor
set_option linter.unusedSimpArgs false
set_option linter.unusedVariables false
open Go Go.RowKit
set_option maxRecDepth 100000
def keepTbl:List (List Nat):=[[],[],[],[0,1,2],[0,1,2,4,5,19,20,21],[0,1,2,4,6,13,14,15],[0,1,2,3,4],[0,1,2,3,4,5,26,27,28],[0,1,2,3,4],[0,1,2,3,4,5],[0,1,2],[0,1,2],[0],[0,1,2,3,8],[0,1,3,4],[0,1,3,4,5,6,7,52],[0,1,4,5],[0,1,4,5],[0,1,2,5,6],[0,1,2,3,5,8,9,10],[0,1,2,3,4,5,6,7,29,30,31,60,61],[0,1,2],[0,1,2,3,4,6,7],[0,1,2],[0,1,4,5,6,7,8,9,18,19,20,34],[0,1,2,3,4,5,6],[0,1,2,3,4,5],[0,1,2,4,5,6,7],[0],[0,1,2,3,4,5,8,10,11,12,13,14],[0,2,4,8,9,10],[0,1,2,4],[0,1,2,3,6,14,15],[0,1,4,5],[0,1,2,6,7,8,9],[0,2],[0,2],[0,2,3],[0,1,2,4,5],[0,1,2,3,4,9],[0,1,2,3,4],[0,2,3,4,19,36],[0,1,2,4],[0,1,4,5,14,15,25,49,62,73],[0,1,4,5,6,7,8],[0,2],[0,1,4],[0,2],[0,1,2,4,5,6,8,10,11,12],[0,1,2],[0,1,2,3],[0,1,2,6,7,10,32,41,42],[0,1,3,4,5,6,7,21,22,23],[0,1,2,3,5,6,7,11],[0,1,4,5,7],[0,1,2],[0,1,4,5,6],[0,1,2,4,5],[0,1,2,3,4,5],[0,1,2,4,5,6,7],[0,1,3,4,5,6,7],[0,1,2,3,4],[0,1,4,5],[0,1,2,4,5,6],[0,1,2,4],[0,2],[0,1,2,4],[0,1,2,6,7],[],[0,1],[0,1,4,5,6],[0,1,4],[0,2,3,4],[0,1,4],[0,1,4],[0,1,4],[0,2],[0,1,4],[0,2,3,4],[0,1,4],[0,2],[0,2],[0,1,4],[0,2],[0,1,2],[0,1,2,3],[0,1,4,5],[0,2,3],[0,1,4],[0,1,3],[0,2,3,4,5,8,9,10],[0,1,4],[0,2,3,5,7,8,9],[0,1,3,4,5,6,7,8,9],[0,1,4,5],[0,1,2,4,5,6,7,8,9],[0,1,4],[0,1,2],[0,2,3,4,5,6,7,8],[0,1,3,4,5],[0,1,4,5,6,7],[0,2,3],[0,1,4],[0,2,3],[0,1,2,4],[0,1,4],[0,1,4,5,7,8],[0,1],[0,1,3,4],[0,2],[0,1,4,5,7,8],[0,1,2],[0,1,2],[0,1,4],[0,1,2],[0,1,4,5,6,7,8,9,10,11,12,13],[0,1,4,5,7,8],[0,1,4,5,6,7,8,9,10,11,14,15,47,48,49],[0,2],[0,2,3,4,5,6,75],[0,1,4],[0,1,4,5,6],[0,1,3],[0,1,4,5,7,8],[0,1,4],[0,1,2,3,4,5,6,7,8],[0,1,2],[0,1,2,3,4],[0,1,2,6,7],[0,1,4],[0,2],[0,2,3],[0,2,3],[0,1,4,5],[0,2,3,4],[0,2],[0,1,2,6],[0,2],[0,1,4,5],[0,2,3,4,5],[0,2,3],[0,1,4,5,7,8],[0,1,2,3],[],[0,2],[0,1,4,5,6,7,8,9,10],[0,2],[0,1,4,5,6,7,8,9,10,45,46],[0,1,4],[0,1,4],[0,2,3,4,5],[0,1,4],[0,1,4],[0,1,4,5,6],[0,1,4,5,6],[],[0,1,2,3,4,5,6,12,13,14,15],[0,1,4,5,6],[0,1,4],[0,1,2,6,7],[0,1,4],[0,1,4],[0,2,3,4,5,6],[0,2,3,4,5,6,7,8],[0,1,4,5,6,7,8,9,10,11,12,13,14,15,16,175,176],[0,2],[0,1,4],[0,2,3],[0,1,4],[0,2,3,4,5,6],[0,1,4],[0,2,3,4,5,6,7,8],[0,2],[0,2],[0,2,3,4,5,6,7,8,9,10,11,12],[0,2],[],[],[],[],[],[],[],[],[],[],[],[],[],[],[],[],[],[],[],[],[]]
@[simp] theorem szT3:qc7 Tryz.prog 3=some 1:=rfl
@[simp] theorem agT3:qgs Tryz.prog 3=some false:=rfl
@[simp] theorem byT3:qce Tryz.prog 3=some 8:=rfl
@[simp] theorem alT3 (H:Heap):alV Tryz.prog H 3=some (.ptr H.n 0,H.new (.cells [.int .i64 0])):=rfl
@[simp] theorem zeT3:qbt Tryz.prog 3=some (.int .i64 0):=rfl
attribute [simp] Tryz.underlying3
@[simp 500] theorem rvF3 (H:Heap) (cs:List AV) (o:Nat):qb5 Tryz.prog H 3 (.fptr cs o)=qcl cs o:=rfl
@[simp 500] theorem rvP3 (H:Heap) (b o:Nat):qb5 Tryz.prog H 3 (.ptr b o)=(H.get b).bind fun k=>k.rd.bind fun cs=>qcl cs o:=rfl
@[simp] theorem szT4:qc7 Tryz.prog 4=some 1:=rfl
@[simp] theorem agT4:qgs Tryz.prog 4=some false:=rfl
@[simp] theorem byT4:qce Tryz.prog 4=some 1:=rfl
@[simp] theorem alT4 (H:Heap):alV Tryz.prog H 4=some (.ptr H.n 0,H.new (.cells [.bool false])):=rfl
@[simp] theorem zeT4:qbt Tryz.prog 4=some (.bool false):=rfl
attribute [simp] Tryz.underlying4
@[simp 500] theorem rvF4 (H:Heap) (cs:List AV) (o:Nat):qb5 Tryz.prog H 4 (.fptr cs o)=qcl cs o:=rfl
@[simp 500] theorem rvP4 (H:Heap) (b o:Nat):qb5 Tryz.prog H 4 (.ptr b o)=(H.get b).bind fun k=>k.rd.bind fun cs=>qcl cs o:=rfl
@[simp] theorem beq4 (a b:Bool):qd4 Tryz.prog .eql 4 (.bool a) (.bool b)=some (.bool (a == b)):=rfl
@[simp] theorem bne4 (a b:Bool):qd4 Tryz.prog .neq 4 (.bool a) (.bool b)=some (.bool !(a == b)):=rfl
@[simp] theorem szT5:qc7 Tryz.prog 5=some 1:=rfl
@[simp] theorem agT5:qgs Tryz.prog 5=some false:=rfl
@[simp] theorem byT5:qce Tryz.prog 5=some 1:=rfl
@[simp] theorem alT5 (H:Heap):alV Tryz.prog H 5=some (.ptr H.n 0,H.new (.cells [.int .u8 0])):=rfl
@[simp] theorem zeT5:qbt Tryz.prog 5=some (.int .u8 0):=rfl
attribute [simp] Tryz.underlying5
@[simp 500] theorem rvF5 (H:Heap) (cs:List AV) (o:Nat):qb5 Tryz.prog H 5 (.fptr cs o)=qcl cs o:=rfl
@[simp 500] theorem rvP5 (H:Heap) (b o:Nat):qb5 Tryz.prog H 5 (.ptr b o)=(H.get b).bind fun k=>k.rd.bind fun cs=>qcl cs o:=rfl
@[simp] theorem szT9:qc7 Tryz.prog 9=some 1:=rfl
@[simp] theorem agT9:qgs Tryz.prog 9=some false:=rfl
@[simp] theorem byT9:qce Tryz.prog 9=some 16:=rfl
@[simp] theorem alT9 (H:Heap):alV Tryz.prog H 9=some (.ptr H.n 0,H.new (.cells [.str []])):=rfl
@[simp] theorem zeT9:qbt Tryz.prog 9=some (.str []):=rfl
attribute [simp] Tryz.underlying9
@[simp 500] theorem rvF9 (H:Heap) (cs:List AV) (o:Nat):qb5 Tryz.prog H 9 (.fptr cs o)=qcl cs o:=rfl
@[simp 500] theorem rvP9 (H:Heap) (b o:Nat):qb5 Tryz.prog H 9 (.ptr b o)=(H.get b).bind fun k=>k.rd.bind fun cs=>qcl cs o:=rfl
@[simp] theorem szT22:qc7 Tryz.prog 22=some 1:=rfl
@[simp] theorem agT22:qgs Tryz.prog 22=some false:=rfl
@[simp] theorem byT22:qce Tryz.prog 22=some 24:=rfl
@[simp] theorem alT22 (H:Heap):alV Tryz.prog H 22=some (.ptr H.n 0,H.new (.cells [.nilS])):=rfl
@[simp] theorem zeT22:qbt Tryz.prog 22=some (.nilS):=rfl
attribute [simp] Tryz.underlying22
@[simp 500] theorem rvF22 (H:Heap) (cs:List AV) (o:Nat):qb5 Tryz.prog H 22 (.fptr cs o)=qcl cs o:=rfl
@[simp 500] theorem rvP22 (H:Heap) (b o:Nat):qb5 Tryz.prog H 22 (.ptr b o)=(H.get b).bind fun k=>k.rd.bind fun cs=>qcl cs o:=rfl
@[simp] theorem slz22 (sz:Nat) (e:AV) (r:List AV):qd4 Tryz.prog .eql 22 (.fslc sz (e::r)) .nilS=some (.bool false):=rfl
@[simp] theorem sln22 (sz:Nat) (e:AV) (r:List AV):qd4 Tryz.prog .neq 22 (.fslc sz (e::r)) .nilS=some (.bool true):=rfl
@[simp] theorem slze22:qd4 Tryz.prog .eql 22 .eslc .nilS=some (.bool false):=rfl
@[simp] theorem slzz22:qd4 Tryz.prog .eql 22 .nilS .nilS=some (.bool true):=rfl
@[simp] theorem szT24:qc7 Tryz.prog 24=some 1:=rfl
@[simp] theorem agT24:qgs Tryz.prog 24=some true:=rfl
@[simp] theorem byT24:qce Tryz.prog 24=some 24:=rfl
@[simp] theorem alT24 (H:Heap):alV Tryz.prog H 24=some (.ptr H.n 0,H.new (.cells [.nilS])):=rfl
@[simp] theorem zeT24:qbt Tryz.prog 24=some (.agg [.nilS]):=rfl
attribute [simp] Tryz.underlying24
@[simp 500] theorem rvF24 (H:Heap) (cs:List AV) (o:Nat):qb5 Tryz.prog H 24 (.fptr cs o)=(qeu o 1 cs).bind fun cs=>some (.agg cs):=rfl
@[simp 500] theorem rvP24 (H:Heap) (b o:Nat):qb5 Tryz.prog H 24 (.ptr b o)=(readCells H b o 1).bind fun cs=>some (.agg cs):=rfl
@[simp] theorem fa24_0 (x:AV):qbm Tryz.prog 24 x 0=(match x with | .ptr b o=>some (.ptr b (o+0)) | .fptr cs o=>some (.fptr cs (o+0)) | _=>none):=rfl
@[simp] theorem fd24_0 (cs:List AV):qcy Tryz.prog 24 (.agg cs) 0=qcl cs 0:=rfl
@[simp] theorem szT28:qc7 Tryz.prog 28=some 1:=rfl
@[simp] theorem agT28:qgs Tryz.prog 28=some false:=rfl
@[simp] theorem byT28:qce Tryz.prog 28=some 24:=rfl
@[simp] theorem alT28 (H:Heap):alV Tryz.prog H 28=some (.ptr H.n 0,H.new (.cells [.nilS])):=rfl
@[simp] theorem zeT28:qbt Tryz.prog 28=some (.nilS):=rfl
attribute [simp] Tryz.underlying28
@[simp 500] theorem rvF28 (H:Heap) (cs:List AV) (o:Nat):qb5 Tryz.prog H 28 (.fptr cs o)=qcl cs o:=rfl
@[simp 500] theorem rvP28 (H:Heap) (b o:Nat):qb5 Tryz.prog H 28 (.ptr b o)=(H.get b).bind fun k=>k.rd.bind fun cs=>qcl cs o:=rfl
@[simp] theorem slz28 (sz:Nat) (e:AV) (r:List AV):qd4 Tryz.prog .eql 28 (.fslc sz (e::r)) .nilS=some (.bool false):=rfl
@[simp] theorem sln28 (sz:Nat) (e:AV) (r:List AV):qd4 Tryz.prog .neq 28 (.fslc sz (e::r)) .nilS=some (.bool true):=rfl
@[simp] theorem slze28:qd4 Tryz.prog .eql 28 .eslc .nilS=some (.bool false):=rfl
@[simp] theorem slzz28:qd4 Tryz.prog .eql 28 .nilS .nilS=some (.bool true):=rfl
@[simp] theorem szT29:qc7 Tryz.prog 29=some 1:=rfl
@[simp] theorem agT29:qgs Tryz.prog 29=some false:=rfl
@[simp] theorem byT29:qce Tryz.prog 29=some 24:=rfl
@[simp] theorem alT29 (H:Heap):alV Tryz.prog H 29=some (.ptr H.n 0,H.new (.cells [.nilS])):=rfl
@[simp] theorem zeT29:qbt Tryz.prog 29=some (.nilS):=rfl
attribute [simp] Tryz.underlying29
@[simp 500] theorem rvF29 (H:Heap) (cs:List AV) (o:Nat):qb5 Tryz.prog H 29 (.fptr cs o)=qcl cs o:=rfl
@[simp 500] theorem rvP29 (H:Heap) (b o:Nat):qb5 Tryz.prog H 29 (.ptr b o)=(H.get b).bind fun k=>k.rd.bind fun cs=>qcl cs o:=rfl
@[simp] theorem slz29 (sz:Nat) (e:AV) (r:List AV):qd4 Tryz.prog .eql 29 (.fslc sz (e::r)) .nilS=some (.bool false):=rfl
@[simp] theorem sln29 (sz:Nat) (e:AV) (r:List AV):qd4 Tryz.prog .neq 29 (.fslc sz (e::r)) .nilS=some (.bool true):=rfl
@[simp] theorem slze29:qd4 Tryz.prog .eql 29 .eslc .nilS=some (.bool false):=rfl
@[simp] theorem slzz29:qd4 Tryz.prog .eql 29 .nilS .nilS=some (.bool true):=rfl
@[simp] theorem zap:qc7 Tryz.prog 31=some 7:=rfl
@[simp] theorem agT31:qgs Tryz.prog 31=some true:=rfl
@[simp] theorem byT31:qce Tryz.prog 31=some 104:=rfl
@[simp] theorem alT31 (H:Heap):alV Tryz.prog H 31=some (.ptr H.n 0,H.new (.cells [.int .i64 0,.int .i64 0,.str [],.nilS,.str [],.int .i64 0,.nilS])):=rfl
@[simp] theorem zeT31:qbt Tryz.prog 31=some (.agg [.int .i64 0,.int .i64 0,.str [],.nilS,.str [],.int .i64 0,.nilS]):=rfl
attribute [simp] Tryz.underlying31
@[simp 500] theorem rvF31 (H:Heap) (cs:List AV) (o:Nat):qb5 Tryz.prog H 31 (.fptr cs o)=(qeu o 7 cs).bind fun cs=>some (.agg cs):=rfl
@[simp 500] theorem rvP31 (H:Heap) (b o:Nat):qb5 Tryz.prog H 31 (.ptr b o)=(readCells H b o 7).bind fun cs=>some (.agg cs):=rfl
@[simp] theorem fa31_0 (x:AV):qbm Tryz.prog 31 x 0=(match x with | .ptr b o=>some (.ptr b (o+0)) | .fptr cs o=>some (.fptr cs (o+0)) | _=>none):=rfl
@[simp] theorem fd31_0 (cs:List AV):qcy Tryz.prog 31 (.agg cs) 0=qcl cs 0:=rfl
@[simp] theorem fa31_1 (x:AV):qbm Tryz.prog 31 x 1=(match x with | .ptr b o=>some (.ptr b (o+1)) | .fptr cs o=>some (.fptr cs (o+1)) | _=>none):=rfl
@[simp] theorem fd31_1 (cs:List AV):qcy Tryz.prog 31 (.agg cs) 1=qcl cs 1:=rfl
@[simp] theorem fa31_2 (x:AV):qbm Tryz.prog 31 x 2=(match x with | .ptr b o=>some (.ptr b (o+2)) | .fptr cs o=>some (.fptr cs (o+2)) | _=>none):=rfl
@[simp] theorem fd31_2 (cs:List AV):qcy Tryz.prog 31 (.agg cs) 2=qcl cs 2:=rfl
@[simp] theorem fa31_3 (x:AV):qbm Tryz.prog 31 x 3=(match x with | .ptr b o=>some (.ptr b (o+3)) | .fptr cs o=>some (.fptr cs (o+3)) | _=>none):=rfl
@[simp] theorem fd31_3 (cs:List AV):qcy Tryz.prog 31 (.agg cs) 3=qcl cs 3:=rfl
@[simp] theorem fa31_4 (x:AV):qbm Tryz.prog 31 x 4=(match x with | .ptr b o=>some (.ptr b (o+4)) | .fptr cs o=>some (.fptr cs (o+4)) | _=>none):=rfl
@[simp] theorem fd31_4 (cs:List AV):qcy Tryz.prog 31 (.agg cs) 4=qcl cs 4:=rfl
@[simp] theorem fa31_5 (x:AV):qbm Tryz.prog 31 x 5=(match x with | .ptr b o=>some (.ptr b (o+5)) | .fptr cs o=>some (.fptr cs (o+5)) | _=>none):=rfl
@[simp] theorem fd31_5 (cs:List AV):qcy Tryz.prog 31 (.agg cs) 5=qcl cs 5:=rfl
@[simp] theorem fa31_6 (x:AV):qbm Tryz.prog 31 x 6=(match x with | .ptr b o=>some (.ptr b (o+6)) | .fptr cs o=>some (.fptr cs (o+6)) | _=>none):=rfl
@[simp] theorem fd31_6 (cs:List AV):qcy Tryz.prog 31 (.agg cs) 6=qcl cs 6:=rfl
@[simp] theorem szT43:qc7 Tryz.prog 43=some 2:=rfl
@[simp] theorem agT43:qgs Tryz.prog 43=some true:=rfl
@[simp] theorem byT43:qce Tryz.prog 43=some 32:=rfl
@[simp] theorem alT43 (H:Heap):alV Tryz.prog H 43=some (.ptr H.n 0,H.new (.cells [.str [],.str []])):=rfl
@[simp] theorem zeT43:qbt Tryz.prog 43=some (.agg [.str [],.str []]):=rfl
attribute [simp] Tryz.underlying43
@[simp 500] theorem rvF43 (H:Heap) (cs:List AV) (o:Nat):qb5 Tryz.prog H 43 (.fptr cs o)=(qeu o 2 cs).bind fun cs=>some (.agg cs):=rfl
@[simp 500] theorem rvP43 (H:Heap) (b o:Nat):qb5 Tryz.prog H 43 (.ptr b o)=(readCells H b o 2).bind fun cs=>some (.agg cs):=rfl
@[simp] theorem fa43_0 (x:AV):qbm Tryz.prog 43 x 0=(match x with | .ptr b o=>some (.ptr b (o+0)) | .fptr cs o=>some (.fptr cs (o+0)) | _=>none):=rfl
@[simp] theorem fd43_0 (cs:List AV):qcy Tryz.prog 43 (.agg cs) 0=qcl cs 0:=rfl
@[simp] theorem fa43_1 (x:AV):qbm Tryz.prog 43 x 1=(match x with | .ptr b o=>some (.ptr b (o+1)) | .fptr cs o=>some (.fptr cs (o+1)) | _=>none):=rfl
@[simp] theorem fd43_1 (cs:List AV):qcy Tryz.prog 43 (.agg cs) 1=qcl cs 1:=rfl
@[simp] theorem szT51:qc7 Tryz.prog 51=some 1:=rfl
@[simp] theorem agT51:qgs Tryz.prog 51=some false:=rfl
@[simp] theorem byT51:qce Tryz.prog 51=some 24:=rfl
@[simp] theorem alT51 (H:Heap):alV Tryz.prog H 51=some (.ptr H.n 0,H.new (.cells [.nilS])):=rfl
@[simp] theorem zeT51:qbt Tryz.prog 51=some (.nilS):=rfl
attribute [simp] Tryz.underlying51
@[simp 500] theorem rvF51 (H:Heap) (cs:List AV) (o:Nat):qb5 Tryz.prog H 51 (.fptr cs o)=qcl cs o:=rfl
@[simp 500] theorem rvP51 (H:Heap) (b o:Nat):qb5 Tryz.prog H 51 (.ptr b o)=(H.get b).bind fun k=>k.rd.bind fun cs=>qcl cs o:=rfl
@[simp] theorem slz51 (sz:Nat) (e:AV) (r:List AV):qd4 Tryz.prog .eql 51 (.fslc sz (e::r)) .nilS=some (.bool false):=rfl
@[simp] theorem sln51 (sz:Nat) (e:AV) (r:List AV):qd4 Tryz.prog .neq 51 (.fslc sz (e::r)) .nilS=some (.bool true):=rfl
@[simp] theorem slze51:qd4 Tryz.prog .eql 51 .eslc .nilS=some (.bool false):=rfl
@[simp] theorem slzz51:qd4 Tryz.prog .eql 51 .nilS .nilS=some (.bool true):=rfl
@[simp] theorem szT76:qc7 Tryz.prog 76=some 1:=rfl
@[simp] theorem agT76:qgs Tryz.prog 76=some false:=rfl
@[simp] theorem byT76:qce Tryz.prog 76=some 8:=rfl
attribute [simp] Tryz.underlying76
@[simp 500] theorem rvF76 (H:Heap) (cs:List AV) (o:Nat):qb5 Tryz.prog H 76 (.fptr cs o)=qcl cs o:=rfl
@[simp 500] theorem rvP76 (H:Heap) (b o:Nat):qb5 Tryz.prog H 76 (.ptr b o)=(H.get b).bind fun k=>k.rd.bind fun cs=>qcl cs o:=rfl
@[simp] theorem szT78:qc7 Tryz.prog 78=some 4:=rfl
@[simp] theorem agT78:qgs Tryz.prog 78=some true:=rfl
@[simp] theorem byT78:qce Tryz.prog 78=some 32:=rfl
attribute [simp] Tryz.underlying78
@[simp 500] theorem rvF78 (H:Heap) (cs:List AV) (o:Nat):qb5 Tryz.prog H 78 (.fptr cs o)=(qeu o 4 cs).bind fun cs=>some (.agg cs):=rfl
@[simp 500] theorem rvP78 (H:Heap) (b o:Nat):qb5 Tryz.prog H 78 (.ptr b o)=(readCells H b o 4).bind fun cs=>some (.agg cs):=rfl
@[simp] theorem fa78_0 (x:AV):qbm Tryz.prog 78 x 0=(match x with | .ptr b o=>some (.ptr b (o+0)) | .fptr cs o=>some (.fptr cs (o+0)) | _=>none):=rfl
@[simp] theorem fd78_0 (cs:List AV):qcy Tryz.prog 78 (.agg cs) 0=qcl cs 0:=rfl
@[simp] theorem fa78_1 (x:AV):qbm Tryz.prog 78 x 1=(match x with | .ptr b o=>some (.ptr b (o+1)) | .fptr cs o=>some (.fptr cs (o+1)) | _=>none):=rfl
@[simp] theorem fd78_1 (cs:List AV):qcy Tryz.prog 78 (.agg cs) 1=qcl cs 1:=rfl
@[simp] theorem fa78_2 (x:AV):qbm Tryz.prog 78 x 2=(match x with | .ptr b o=>some (.ptr b (o+2)) | .fptr cs o=>some (.fptr cs (o+2)) | _=>none):=rfl
@[simp] theorem fd78_2 (cs:List AV):qcy Tryz.prog 78 (.agg cs) 2=qcl cs 2:=rfl
@[simp] theorem fa78_3 (x:AV):qbm Tryz.prog 78 x 3=(match x with | .ptr b o=>some (.ptr b (o+3)) | .fptr cs o=>some (.fptr cs (o+3)) | _=>none):=rfl
@[simp] theorem fd78_3 (cs:List AV):qcy Tryz.prog 78 (.agg cs) 3=qcl cs 3:=rfl
@[simp] theorem szT92:qc7 Tryz.prog 92=some 1:=rfl
@[simp] theorem agT92:qgs Tryz.prog 92=some false:=rfl
@[simp] theorem byT92:qce Tryz.prog 92=some 24:=rfl
@[simp] theorem alT92 (H:Heap):alV Tryz.prog H 92=some (.ptr H.n 0,H.new (.cells [.nilS])):=rfl
@[simp] theorem zeT92:qbt Tryz.prog 92=some (.nilS):=rfl
attribute [simp] Tryz.underlying92
@[simp 500] theorem rvF92 (H:Heap) (cs:List AV) (o:Nat):qb5 Tryz.prog H 92 (.fptr cs o)=qcl cs o:=rfl
@[simp 500] theorem rvP92 (H:Heap) (b o:Nat):qb5 Tryz.prog H 92 (.ptr b o)=(H.get b).bind fun k=>k.rd.bind fun cs=>qcl cs o:=rfl
@[simp] theorem slz92 (sz:Nat) (e:AV) (r:List AV):qd4 Tryz.prog .eql 92 (.fslc sz (e::r)) .nilS=some (.bool false):=rfl
@[simp] theorem sln92 (sz:Nat) (e:AV) (r:List AV):qd4 Tryz.prog .neq 92 (.fslc sz (e::r)) .nilS=some (.bool true):=rfl
@[simp] theorem slze92:qd4 Tryz.prog .eql 92 .eslc .nilS=some (.bool false):=rfl
@[simp] theorem slzz92:qd4 Tryz.prog .eql 92 .nilS .nilS=some (.bool true):=rfl
@[simp] theorem qwp:qc7 Tryz.prog 105=some 2:=rfl
@[simp] theorem agT105:qgs Tryz.prog 105=some true:=rfl
@[simp] theorem ze1:qce Tryz.prog 105=some 16:=rfl
@[simp] theorem alT105 (H:Heap):alV Tryz.prog H 105=some (.ptr H.n 0,H.new (.cells [.int .i64 0,.int .i64 0])):=rfl
@[simp] theorem zaa:qbt Tryz.prog 105=some (.agg [.int .i64 0,.int .i64 0]):=rfl
attribute [simp] Tryz.underlying105
@[simp 500] theorem rvF105 (H:Heap) (cs:List AV) (o:Nat):qb5 Tryz.prog H 105 (.fptr cs o)=(qeu o 2 cs).bind fun cs=>some (.agg cs):=rfl
@[simp 500] theorem rvP105 (H:Heap) (b o:Nat):qb5 Tryz.prog H 105 (.ptr b o)=(readCells H b o 2).bind fun cs=>some (.agg cs):=rfl
@[simp] theorem fa105_0 (x:AV):qbm Tryz.prog 105 x 0=(match x with | .ptr b o=>some (.ptr b (o+0)) | .fptr cs o=>some (.fptr cs (o+0)) | _=>none):=rfl
@[simp] theorem fd105_0 (cs:List AV):qcy Tryz.prog 105 (.agg cs) 0=qcl cs 0:=rfl
@[simp] theorem fa105_1 (x:AV):qbm Tryz.prog 105 x 1=(match x with | .ptr b o=>some (.ptr b (o+1)) | .fptr cs o=>some (.fptr cs (o+1)) | _=>none):=rfl
@[simp] theorem fd105_1 (cs:List AV):qcy Tryz.prog 105 (.agg cs) 1=qcl cs 1:=rfl
@[simp] theorem szT106:qc7 Tryz.prog 106=some 1:=rfl
@[simp] theorem agT106:qgs Tryz.prog 106=some false:=rfl
@[simp] theorem byT106:qce Tryz.prog 106=some 24:=rfl
@[simp] theorem alT106 (H:Heap):alV Tryz.prog H 106=some (.ptr H.n 0,H.new (.cells [.nilS])):=rfl
@[simp] theorem zeT106:qbt Tryz.prog 106=some (.nilS):=rfl
attribute [simp] Tryz.underlying106
@[simp 500] theorem rvF106 (H:Heap) (cs:List AV) (o:Nat):qb5 Tryz.prog H 106 (.fptr cs o)=qcl cs o:=rfl
@[simp 500] theorem rvP106 (H:Heap) (b o:Nat):qb5 Tryz.prog H 106 (.ptr b o)=(H.get b).bind fun k=>k.rd.bind fun cs=>qcl cs o:=rfl
@[simp] theorem slz106 (sz:Nat) (e:AV) (r:List AV):qd4 Tryz.prog .eql 106 (.fslc sz (e::r)) .nilS=some (.bool false):=rfl
@[simp] theorem sln106 (sz:Nat) (e:AV) (r:List AV):qd4 Tryz.prog .neq 106 (.fslc sz (e::r)) .nilS=some (.bool true):=rfl
@[simp] theorem slze106:qd4 Tryz.prog .eql 106 .eslc .nilS=some (.bool false):=rfl
@[simp] theorem slzz106:qd4 Tryz.prog .eql 106 .nilS .nilS=some (.bool true):=rfl
attribute [simp] opndO_s
noncomputable def ctx (T:List (Entry Tryz.prog)):Ctx:=mkC Tryz.prog (fun f=>(qcl keepTbl f).getD []) T
@[simp] theorem mkC_P (T:List (Entry Tryz.prog)):(ctx T).P=Tryz.prog:=rfl
theorem qci:Tryz.prog.follows .mixedOrders=true:=by decide +kernel
theorem qa1 {T:List (Entry Tryz.prog)}:CallOK (ctx T) (qb9 (ctx T)):=mkC_call _ _ T qci
theorem qca {T:List (Entry Tryz.prog)} (l:List (Fact (ctx T))):CallOK (ctx T) (qdb l (qb9 (ctx T))):=qn5 qa1 l
abbrev Str:=List UInt8
@[simp] theorem lenStr (H:Heap) (s:Str):qe3 Tryz.prog H 9 (.str s)=some s.length:=by simp [qe3]
theorem qih {s:Str} {i:Nat} (h:i < s.length):qh6 Tryz.prog 9 (.str s) (.int .i64 (i:Int))=some (.int .u8 (s[i]'h).toNat):=by
 simp [qh6,qc0 h,ql1 h]
theorem slStr {H:Heap} {s:Str} {i:Nat} (h:i≤s.length):qdy Tryz.prog H 9 (.str s) (some (.int .i64 (i:Int))) none none=some (.str (s.drop i)):=by
 simp [qdy,qzp,qcv,qc0 (Nat.lt_succ_of_le h)]
theorem slStrOf {H:Heap} {s:Str} {i j:Nat} (hj:j≤s.length) (hi:i≤j):qdy Tryz.prog H 9 (.str s) (some (.int .i64 (i:Int))) (some (.int .i64 (j:Int))) none=some (.str ((s.take j).drop i)):=by
 simp [qdy,qzp,qcv,qc0 (Nat.lt_succ_of_le hj),qc0 (Nat.lt_succ_of_le hi)]
theorem sl1 {s:Str} {i:Nat} (h:i < s.length):(s.take (i+1)).drop i=[s[i]]:=by
 rw [List.take_succ_eq_append_getElem h,List.drop_append_of_le_length (by simp;omega),List.drop_of_length_le (by simp;omega),List.nil_append]
theorem slStr1 {H:Heap} {s:Str} {i:Nat} (h:i < s.length):qdy Tryz.prog H 9 (.str s) (some (.int .i64 (i:Int))) (some (.int .i64 ((i:Int)+1))) none=some (.str [s[i]]):=by
 have:=slStrOf (H:=H) (s:=s) (i:=i) (j:=i+1) (by omega) (by omega)
 rw [sl1 h] at this
 simpa using this
theorem catStr {x y:Str} (h:x.length+y.length≤1000000000000):qd4 Tryz.prog .add 9 (.str x) (.str y)=some (.str (x++y)):=by
 simp [qd4,qsk];omega
@[simp] theorem eqStr (x y:Str):qd4 Tryz.prog .eql 9 (.str x) (.str y)=some (.bool (decide (x=y))):=by simp [qd4,qsk,qin]
@[simp] theorem neStr (x y:Str):qd4 Tryz.prog .neq 9 (.str x) (.str y)=some (.bool !(decide (x=y))):=by simp [qd4,qsk,qin]
abbrev qc5 (L:List Str):AV:=.fslc 1 (L.map .str)
theorem ql7 (L:List Str):Elems 1 (L.map AV.str):=.map (sz:=1) (f:=AV.str) (by decide) (fun x=>⟨rfl,rfl,fun _=>rfl,fun h=>absurd rfl h⟩) L
theorem atS {L:List Str} {i:Nat} (h:i < L.length):qb1 Tryz.prog 92 (qc5 L) (.int .i64 (i:Int))=some (.fptr [.str L[i]] 0):=by
 simp [qb1,qc5,qc0 h,qgo h,AV.cells]
theorem lenS {H:Heap} {L:List Str}:qe3 Tryz.prog H 92 (qc5 L)=some L.length:=by simp [qe3,qc5]
theorem qvm (x y:Str) (h:[AV.str x]=[AV.str y]):x=y:=by simp at h;exact h
theorem qrf (x y:Str × Str) (h:[AV.str x.1,AV.str x.2]=[AV.str y.1,AV.str y.2]):x=y:=by
 simp at h;exact Prod.ext h.1 h.2
theorem qxz {L M:List Str} (h:qc5 L=qc5 M):L=M:=by
 simp only [qc5,AV.fslc.injEq,true_and] at h
 exact List.map_inj_right (fun _ _ h=>by simpa using h) |>.1 h
theorem inj_u8 (x y:UInt8) (h:[AV.int .u8 (x.toNat:Int)]=[AV.int .u8 (y.toNat:Int)]):x=y:=by
 simp only [List.cons.injEq,AV.int.injEq,true_and,and_true] at h
 exact UInt8.toNat_inj.1 (by omega)
def sp (c:UInt8):Bool:=decide ((c.toNat:Int)=9) || (decide ((c.toNat:Int)=10) || (decide ((c.toNat:Int)=12) || (decide ((c.toNat:Int)=13) || decide ((c.toNat:Int)=32))))
theorem c137 {T:List (Entry Tryz.prog)} (c:UInt8):CallAt (ctx T) 137 [.int .u8 c.toNat] ⟨0,[]⟩ (.bool (sp c)) ⟨0,[]⟩:=by
 refine qa3 (fn:=Tryz.f137) (s0:=⟨[0,2],[.int .u8 c.toNat,.undef],[],21,⟨0,[[]]⟩⟩) Tryz.func137 rfl rfl rfl ?_
 repeat apply wq
 refine qa0 qa1 ?_
 simp [zS]
 by_cases h1:(c.toNat:Int)=9 <;> by_cases h2:(c.toNat:Int)=10 <;> by_cases h3:(c.toNat:Int)=12 <;> by_cases h4:(c.toNat:Int)=13 <;> by_cases h5:(c.toNat:Int)=32
 all_goals first
  | (exfalso;omega)
  | (repeat apply wq
     refine qa0 qa1 ?_
     simp [zS,h1,h2,h3,h4,h5]
     refine qa8 ?_
     simp [qab,Tryz.f137,oneOr]
     exact qa4 rfl (by simp [sp,h1,h2,h3,h4,h5]))
noncomputable def e137:Entry Tryz.prog:=mkE 137 [[]] (fun x:UInt8=>[.int .u8 x.toNat]) (fun _=>True) (fun x=>.bool (sp x)) fun x _=>c137 (T:=[]) x
theorem k137 {T:List (Entry Tryz.prog)} (hT:qag 137 T=some e137.g) (c:UInt8) (H:Heap):qb9 (ctx T) (.fn 137) [.int .u8 c.toNat] H=some (.bool (sp c),H):=
 qae hT inj_u8 c trivial rfl (by simp)
def qg7 (st:List Str × Str) (c:UInt8):List Str × Str:=if sp c=true then (if st.2=[] then st.1 else st.1++[st.2],[]) else (st.1,st.2++[c])
def wst (s:Str):List Str × Str:=s.foldl qg7 ([],[])
def wfin (st:List Str × Str):List Str:=if st.2=[] then st.1 else st.1++[st.2]
def qbo (s:Str):List Str:=wfin (wst s)
theorem qjg {s:Str} {i:Nat} (h:i < s.length):wst (s.take (i+1))=qg7 (wst (s.take i)) s[i]:=by
 rw [List.take_succ_eq_append_getElem h]
 simp only [wst,List.foldl_append,List.foldl_cons,List.foldl_nil]
theorem zab (s:Str):(wst s).2.length≤s.length∧(wst s).1.length≤s.length:=by
 have key:∀ (s:Str) (st:List Str × Str),(s.foldl qg7 st).2.length≤st.2.length+s.length∧(s.foldl qg7 st).1.length≤st.1.length+s.length:=by
  intro s
  induction s with
  | nil=>intro st;simp
  | cons c r ih=>
   intro st
   have:=ih (qg7 st c)
   simp only [List.foldl_cons,List.length_cons]
   have h1:(qg7 st c).2.length≤st.2.length+1∧(qg7 st c).1.length≤st.1.length+1:=by
    unfold qg7
    split
    ·split <;> simp
    ·simp
   omega
 have:=key s ([],[])
 simp only [wst]
 simp at this
 exact this
theorem c139 {T:List (Entry Tryz.prog)} (hS:qag 137 T=some e137.g) (s:Str) (hl:s.length≤1000000):CallAt (ctx T) 139 [.str s] ⟨0,[]⟩ (qjv 0 1 ((qbo s).map .str)) ⟨1,[qgh 0 ((qbo s).map .str)]⟩:=by
 refine qa3 (fn:=Tryz.f139) (s0:=⟨[0,2,3,4,5],[.str s,.undef,.undef,.undef,.undef],[],37,⟨0,[[]]⟩⟩) Tryz.func139 rfl rfl rfl ?_
 repeat apply wq
 refine qa0 qa1 ?_
 simp [zS]
 repeat apply wq
 refine qa0 qa1 ?_
 simp [zS]
 repeat apply wq
 refine qa0 qa1 ?_
 simp [zS]
 repeat apply wq
 refine qa0 qa1 ?_
 simp [zS]
 refine qa9 (qax (fun i:Nat=>(⟨[0,2,3,4,5],[.str s,.undef,qjv 0 1 ((wst (s.take i)).1.map .str),.str (wst (s.take i)).2,.int .i64 i],[],37,⟨1,[qgh 0 ((wst (s.take i)).1.map .str)]⟩⟩ : St))
  (fun i=>i≤s.length) (fun i=>s.length - i) [] [] 0 (Nat.zero_le _)
  ⟨rfl,rfl,rfl,by simp [qb6,qay,qaf,wst,qjv],.keep0 (by simp [wst,qgh])⟩ ?_)
 rintro i hi B hB
 have hlen:=zab (s.take i)
 simp only [List.length_take] at hlen
 have same:∀ (L:List Str),FitH 0 [(0,0)] [] ⟨1,[qgh 0 (L.map AV.str)]⟩ ⟨1,[qgh 0 (L.map AV.str)]⟩:=fun L=>by
  refine .same (by simp) (by simp) (by simp) (by simp) ?_ ?_
  ·cases L.map AV.str <;> simp [Heap.ents,qgh]
  ·cases he:L.map AV.str with
   | nil=>intro e he;simp [Heap.ents,qgh] at he
   | cons x r=>
    intro e hx
    simp [Heap.ents,qgh] at hx
    subst hx
    exact ⟨by simp,by simp [qgh,Heap.get,getFs,getF],qak (by rw [← he];exact (ql7 _).pure)⟩
 repeat apply wq
 refine qa0 qa1 ?_
 simp [zS]
 refine qau rfl (fun h=>?_) fun h=>?_
 ·simp at h
  refine qa7 ?_
  simp
  repeat apply wq
  refine qa9 ?_
  have hstep:=qjg h
  cases hsp:sp s[i] with
  | false=>
   have hn:wst (s.take (i+1))=((wst (s.take i)).1,(wst (s.take i)).2++[s[i]]):=by rw [hstep];simp [qg7,hsp]
   repeat apply wq
   refine qa0 qa1 ?_
   simp [zS,qih h,k137 hS,hsp]
   refine qai rfl ?_
   repeat apply wq
   refine qa0 qa1 ?_
   simp [zS,qba (show i≤1000000000 by omega),slStr1 h,catStr (show (wst (s.take i)).2.length+[s[i]].length≤1000000000000 by simp;omega)]
   refine qat ?_
   simp
   refine qa0 qa1 ?_
   simp [zS,qba (show i≤1000000000 by omega)]
   exact hB _ (i+1) (by omega) (by omega) ⟨[(0,0)],[],rfl,rfl,rfl,by rw [hn];simp [qb6,qay,qb2,qgp,qaf],by rw [hn];exact same _⟩
  | true=>
   repeat apply wq
   refine qa0 qa1 ?_
   simp [zS,qih h,k137 hS,hsp]
   refine qal rfl ?_
   refine qa7 ?_
   simp
   by_cases hc:(wst (s.take i)).2=[]
   ·have hn:wst (s.take (i+1))=((wst (s.take i)).1,[]):=by rw [hstep];simp [qg7,hsp,hc]
    repeat apply wq
    refine qa0 qa1 ?_
    simp [zS,hc]
    refine qal rfl ?_
    refine qa7 ?_
    simp
    refine qa0 qa1 ?_
    simp [zS]
    refine qa0 qa1 ?_
    simp [zS,qba (show i≤1000000000 by omega)]
    exact hB _ (i+1) (by omega) (by omega) ⟨[(0,0)],[],rfl,rfl,rfl,by rw [hn];simp [qb6,qay,qb2,qgp,qaf],by rw [hn];exact same _⟩
   ·have hn:wst (s.take (i+1))=((wst (s.take i)).1++[(wst (s.take i)).2],[]):=by rw [hstep];simp [qg7,hsp,hc]
    have happ:=qmv (P:=Tryz.prog) (elem:=9) (b:=0) (t:=1) (m:=2) (es:=(wst (s.take i)).1.map .str) (cs:=[.str (wst (s.take i)).2]) (g:=[]) (fs:=[]) szT9 byT9 zeT9 rfl (by omega) (by omega) rfl rfl (ql7 _) (by simp;omega) (by omega) (by simp) (by simp)
    rw [List.append_nil] at happ
    repeat apply wq
    refine qa0 qa1 ?_
    simp [zS,hc]
    refine qai rfl ?_
    refine qa0 qa1 ?_
    simp [zS,happ]
    refine qa0 qa1 ?_
    simp [zS]
    refine qa0 qa1 ?_
    simp [zS,qba (show i≤1000000000 by omega)]
    have hne:(wst (s.take (i+1))).1.map AV.str≠[]:=by rw [hn];simp
    refine hB _ (i+1) (by omega) (by omega) ⟨[(2,0)],[],rfl,rfl,rfl,?_,.grown (ql7 _) hne ?_⟩
    ·rw [qju hne,hn];simp [qb6,qay,qb2,qaf]
    ·rw [hn,List.map_append,qdl];simp [Heap.get,getFs,getF,qan]
 ·simp at h
  refine qat ?_
  simp
  have hs:s.take i=s:=List.take_of_length_le h
  rw [hs] at hlen ⊢
  by_cases hc:(wst s).2=[]
  ·have hv:qbo s=(wst s).1:=by simp [qbo,wfin,hc]
   repeat apply wq
   refine qa0 qa1 ?_
   simp [zS,hc]
   refine qal rfl ?_
   refine qa7 ?_
   simp
   repeat apply wq
   refine qa0 qa1 ?_
   simp [zS]
   refine qa8 ?_
   simp [qab,Tryz.f139,oneOr]
   rw [hv]
   exact ⟨[(0,0)],[],qgp (by simp [qb2]),same _⟩
  ·have hv:qbo s=(wst s).1++[(wst s).2]:=by simp [qbo,wfin,hc]
   have happ:=qmv (P:=Tryz.prog) (elem:=9) (b:=0) (t:=1) (m:=2) (es:=(wst s).1.map .str) (cs:=[.str (wst s).2]) (g:=[]) (fs:=[]) szT9 byT9 zeT9 rfl (by omega) (by omega) rfl rfl (ql7 _) (by simp;omega) (by omega) (by simp) (by simp)
   rw [List.append_nil] at happ
   repeat apply wq
   refine qa0 qa1 ?_
   simp [zS,hc]
   refine qai rfl ?_
   refine qa0 qa1 ?_
   simp [zS,happ]
   repeat apply wq
   refine qa0 qa1 ?_
   simp [zS]
   refine qa8 ?_
   simp [qab,Tryz.f139,oneOr]
   have hne:(qbo s).map AV.str≠[]:=by rw [hv];simp
   refine ⟨[(2,0)],[],?_,.grown (ql7 _) hne ?_⟩
   ·rw [qju hne,hv];simp [qb6,qay,qb2,qaf]
   ·rw [hv,List.map_append,qdl];simp [Heap.get,getFs,getF,qan]
theorem c138 {T:List (Entry Tryz.prog)} (L:List Str) (x:Str) (hl:L.length≤1000000):CallAt (ctx T) 138 [qc5 L,.str x] ⟨0,[]⟩ (.bool (decide (x∈L))) ⟨0,[]⟩:=by
 refine qa3 (fn:=Tryz.f138) (s0:=⟨[0,1,4,5],[qc5 L,.str x,.undef,.undef],[],18,⟨0,[[]]⟩⟩) Tryz.func138 rfl rfl rfl ?_
 repeat apply wq
 refine qa0 qa1 ?_
 simp [zS]
 repeat apply wq
 refine qa0 qa1 ?_
 simp [zS]
 refine qa9 (qax (fun i:Nat=>(⟨[0,1,4,5],[qc5 L,.str x,.undef,.int .i64 i],[],18,⟨0,[[]]⟩⟩ : St))
  (fun i=>i≤L.length∧decide (x∈L)=decide (x∈L.drop i)) (fun i=>L.length - i) [] [] 0 ⟨Nat.zero_le _,by simp⟩ ⟨rfl,rfl,rfl,by simp [qb6,qay,qaf,qac,qc5],FitH.nothing⟩ ?_)
 rintro i ⟨hi,hx⟩ B hB
 repeat apply wq
 refine qa0 qa1 ?_
 simp [zS,lenS]
 refine qau rfl (fun h=>?_) fun h=>?_
 ·simp at h
  refine qa7 ?_
  simp
  repeat apply wq
  refine qa9 ?_
  repeat apply wq
  refine qa0 qa1 ?_
  simp [zS,atS h]
  refine qau rfl (fun h2=>?_) fun h2=>?_
  ·simp at h2
   repeat apply wq
   refine qa0 qa1 ?_
   simp [zS]
   refine qa8 ?_
   simp [qab,Tryz.f138,oneOr,qaa,qa2]
   exact qa4 rfl (by rw [hx,List.drop_eq_getElem_cons h];simp [h2])
  ·simp at h2
   refine qa7 ?_
   simp
   refine qa0 qa1 ?_
   simp [zS,qba (show i≤1000000000 by omega)]
   exact hB _ (i+1) (by omega) ⟨by omega,by rw [hx,List.drop_eq_getElem_cons h];simp only [List.mem_cons,show ¬ x=L[i] from fun e=>h2 e.symm,false_or]⟩ ⟨[],[],⟨rfl,rfl,rfl,by simp [qb6,qay,qaf,qac,qc5],FitH.nothing⟩⟩
 ·simp at h
  refine qat ?_
  simp
  repeat apply wq
  refine qa0 qa1 ?_
  simp [zS]
  refine qa8 ?_
  simp [qab,Tryz.f138,oneOr,qaa,qa2]
  exact qa4 rfl (by rw [hx,List.drop_eq_nil_of_le h];simp)
noncomputable def e139:Entry Tryz.prog:=mkE 139 [[]] (fun x:Str=>[.str x]) (fun x=>x.length≤1000000) (fun x=>qc5 (qbo x)) fun x h=>(c139 (T:=[e137]) rfl x h).froze (ql7 _)
theorem k139 {T:List (Entry Tryz.prog)} (hT:qag 139 T=some e139.g) {s:Str} (hl:s.length≤1000000) (H:Heap):qb9 (ctx T) (.fn 139) [.str s] H=some (qc5 (qbo s),H):=
 qdd hT qvm s hl (by simp [qac,qaf]) (by simp) H
noncomputable def e138:Entry Tryz.prog:=mkE 138 [[1],[]] (fun x:List Str × Str=>[qc5 x.1,.str x.2]) (fun x=>x.1.length≤1000000) (fun x=>.bool (decide (x.2∈x.1))) fun x h=>c138 (T:=[]) x.1 x.2 h
theorem k138 {T:List (Entry Tryz.prog)} (hT:qag 138 T=some e138.g) {L:List Str} (x:Str) (hl:L.length≤1000000) (H:Heap):qb9 (ctx T) (.fn 138) [qc5 L,.str x] H=some (.bool (decide (x∈L)),H):=
 qae hT (fun x y h=>by simp at h;exact Prod.ext (qxz (by simpa [qc5] using h.1)) h.2) (L,x) hl rfl (by simp)
def inW (w x:Str):Bool:=decide (x∈qbo w)
theorem qpj (s:Str):(qbo s).length≤s.length+1:=by
 have:=zab s
 unfold qbo wfin
 split <;> simp <;> omega
theorem c105 {T:List (Entry Tryz.prog)} (h1:qag 139 T=some e139.g) (h2:qag 138 T=some e138.g) (w x:Str) (hl:w.length≤900000):CallAt (ctx T) 105 [.str w,.str x] ⟨0,[]⟩ (.bool (inW w x)) ⟨0,[]⟩:=by
 refine qa3 (fn:=Tryz.f105) (s0:=⟨[0,1,4],[.str w,.str x,.undef],[],9,⟨0,[[]]⟩⟩) Tryz.func105 rfl rfl rfl ?_
 repeat apply wq
 refine qa0 qa1 ?_
 simp [zS]
 have hs:=qpj w
 repeat apply wq
 refine qa0 qa1 ?_
 simp [zS,k139 h1 (show w.length≤1000000 by omega),k138 h2 x (show (qbo w).length≤1000000 by omega)]
 refine qa8 ?_
 simp [qab,Tryz.f105,oneOr,qaa,qa2]
 exact qa4 rfl (by simp [inW])
noncomputable def e105:Entry Tryz.prog:=mkE 105 [[],[]] (fun x:Str × Str=>[.str x.1,.str x.2]) (fun x=>x.1.length≤900000) (fun x=>.bool (inW x.1 x.2)) fun x h=>c105 (T:=[e139,e138]) rfl rfl x.1 x.2 h
theorem k105 {T:List (Entry Tryz.prog)} (hT:qag 105 T=some e105.g) {w:Str} (x:Str) (hl:w.length≤900000) (H:Heap):qb9 (ctx T) (.fn 105) [.str w,.str x] H=some (.bool (inW w x),H):=
 qae hT qrf (w,x) hl rfl (by simp)
def qvk:Option (AV × Heap)→Bool
 | some (.bool b,_)=>b
 | _=>false
def eqN:Str→Str→Bool
 | [],l=>match l with | []=>true | _::_=>false
 | a::x,l=>match l with
  | []=>false
  | b::y=>match Nat.beq a.toNat b.toNat with
   | true=>eqN x y
   | false=>false
theorem eqN_eq:∀ (x y:Str),eqN x y=decide (x=y)
 | [],[]=>rfl
 | [],_::_=>by simp [eqN]
 | _::_,[]=>by simp [eqN]
 | a::x,b::y=>by
  unfold eqN
  simp only
  split
  ·rename_i h
   have:=UInt8.toNat_inj.1 (Nat.eq_of_beq_eq_true h)
   subst this
   rw [eqN_eq];simp
  ·rename_i h
   have:¬ a=b:=fun e=>by subst e;rw [Nat.beq_refl] at h;cases h
   simp [this]
def leftOf:Str→Str→Option Str
 | [],x=>some x
 | a::c,x=>match x with
  | []=>none
  | b::x=>if b=a then leftOf c x else none
abbrev At1:=Str × Str
def qem (a:At1):AV:=.agg [.str a.1,.str a.2]
def qb7 (L:List At1):AV:=.fslc 2 (L.map qem)
@[simp] theorem cells_aAttr (a:At1):(qem a).cells=[.str a.1,.str a.2]:=rfl
@[simp] theorem pure_aAttr (a:At1):qaf (qem a)=true:=by simp [qem,qaf,qac]
@[simp] theorem pure_aAttrs (L:List At1):qaf (qb7 L)=true:=by simp [qb7,qaf]
@[simp] theorem ok_aAttr (a:At1):okV (qem a)=true:=by simp [qem,okV,qaf,qac]
@[simp] theorem ok_aAttrs (L:List At1):okV (qb7 L)=true:=by simp [qb7,okV,qaf]
theorem qki (H:Heap) (L:List At1):qej H [2] (qb7 L)=some (qb7 L):=qar (by simp)
theorem zcd {a b:At1} (h:qem a=qem b):a=b:=by
 simp [qem] at h;exact Prod.ext h.1 h.2
theorem qfv {L M:List At1} (h:qb7 L=qb7 M):L=M:=by
 simp only [qb7,AV.fslc.injEq,true_and] at h
 exact List.map_inj_right (fun _ _=>zcd) |>.1 h
theorem c142 {T:List (Entry Tryz.prog)} (a:At1) (nm:Str):CallAt (ctx T) 142 [qem a,.fptr [.str nm] 0] ⟨0,[]⟩ (.bool (decide (a.1=nm))) ⟨0,[]⟩:=by
 refine qa3 (fn:=Tryz.f142) (s0:=⟨[0,1,2,3],[qem a,.fptr [.str nm] 0,.undef,.undef],[],8,⟨0,[[]]⟩⟩) Tryz.func142 rfl rfl rfl ?_
 repeat apply wq
 refine qa0 qa1 ?_
 simp [zS,qem]
 repeat apply wq
 refine qa0 qa1 ?_
 simp [zS]
 refine qa8 ?_
 simp [qab,Tryz.f142,oneOr]
 exact ⟨[],[],qbb rfl,FitH.empty⟩
def qbk {α:Type} (p:α→Bool):List α→Nat→Int
 | [],_=>-1
 | a::r,k=>if p a=true then k else qbk p r (k+1)
theorem qfw {α:Type} {p:α→Bool} {L:List α} {i:Nat} (h:i < L.length):qbk p (L.drop i) i=if p L[i]=true then (i:Int) else qbk p (L.drop (i+1)) (i+1):=by
 rw [List.drop_eq_getElem_cons h];rfl
theorem atA {L:List At1} {i:Nat} (h:i < L.length):qb1 Tryz.prog 28 (qb7 L) (.int .i64 (i:Int))=some (.fptr [.str L[i].1,.str L[i].2] 0):=by
 simp [qb1,qb7,qc0 h,qgo h,qem,AV.cells]
theorem qfo {H:Heap} {L:List At1}:qe3 Tryz.prog H 28 (qb7 L)=some L.length:=by simp [qe3,qb7]
theorem rdA1 {H:Heap} (a:At1):qb5 Tryz.prog H 43 (.fptr [.str a.1,.str a.2] 0)=some (qem a):=by simp [qb5,qeu,qed,qem]
theorem c141 {T:List (Entry Tryz.prog)} (L:List At1) (hl:L.length≤1000) (clo:FuncId) (cap:List AV) (hc:qac cap=true) (p:At1→Bool) (hp:∀ a,CallAt (ctx T) clo (qem a::cap) ⟨0,[]⟩ (.bool (p a)) ⟨0,[]⟩) :
  CallAt (ctx T) 141 [qb7 L,.func (.func clo) [] cap] ⟨0,[]⟩ (.int .i64 (qbk p L 0)) ⟨0,[]⟩:=by
 refine qa3 (fn:=Tryz.f141) (s0:=⟨[0,1,4,5,7,8],[qb7 L,.func (.func clo) [] cap,.undef,.undef,.undef,.undef],[],19,⟨0,[[]]⟩⟩) Tryz.func141 rfl rfl rfl ?_
 repeat apply wq
 refine qa0 qa1 ?_
 simp [zS]
 repeat apply wq
 refine qa0 qa1 ?_
 simp [zS,qfo]
 refine qa9 (qax (fun i:Nat=>(⟨[0,1,4,5,7,8],[qb7 L,.func (.func clo) [] cap,.undef,.undef,.int .i64 L.length,.int .i64 i],[],19,⟨0,[[]]⟩⟩ : St))
  (fun i=>i≤L.length∧qbk p L 0=qbk p (L.drop i) i) (fun i=>L.length - i) [] [] 0 ⟨Nat.zero_le _,rfl⟩ ⟨rfl,rfl,rfl,by simp [qb6,qay,qaf,qac,hc],FitH.nothing⟩ ?_)
 rintro i ⟨hi,hx⟩ B hB
 repeat apply wq
 refine qa0 qa1 ?_
 simp [zS]
 repeat apply wq
 refine qau rfl (fun h=>?_) fun h=>?_
 ·simp at h
  refine qa7 ?_
  simp
  repeat apply wq
  refine qa9 ?_
  repeat apply wq
  refine qa0 qa1 ?_
  simp [zS]
  repeat apply wq
  refine qa0 (qn5 qa1 [⟨clo,[qem L[i]]++cap,⟨0,[[]]⟩,.bool (p L[i]),⟨0,[[]]⟩,(hp L[i]).lift (by simp [qac,hc]) _⟩]) ?_
  simp [zS,atA h,qdb,rdA1]
  refine qau rfl (fun h2=>?_) fun h2=>?_
  ·repeat apply wq
   refine qa0 qa1 ?_
   simp [zS]
   refine qa8 ?_
   simp [qab,Tryz.f141,oneOr]
   refine ⟨[],[],?_,FitH.empty⟩
   rw [hx,qfw h,if_pos h2]
   exact qbb rfl
  ·repeat apply wq
   refine qa7 ?_
   simp
   refine qa0 qa1 ?_
   simp [zS,qba (show i≤1000000000 by omega)]
   refine hB _ (i+1) (by omega) ⟨by omega,?_⟩ ⟨[],[],⟨rfl,rfl,rfl,by simp [qb6,qay,qaf,qac,hc],FitH.nothing⟩⟩
   rw [hx,qfw h,h2]
   simp
 ·simp at h
  refine qat ?_
  simp
  repeat apply wq
  refine qa0 qa1 ?_
  simp [zS]
  refine qa8 ?_
  simp [qab,Tryz.f141,oneOr]
  refine ⟨[],[],?_,FitH.empty⟩
  rw [hx,List.drop_eq_nil_of_le (by omega)]
  exact qbb rfl
def qm8 (L:List At1) (nm:Str):Int:=qbk (fun a=>decide (a.1=nm)) L 0
theorem c108 {T:List (Entry Tryz.prog)} (L:List At1) (nm:Str) (hl:L.length≤1000):CallAt (ctx T) 108 [qb7 L,.str nm] ⟨0,[]⟩ (.int .i64 (qm8 L nm)) ⟨0,[]⟩:=by
 refine qa3 (fn:=Tryz.f108) (s0:=⟨[0,1,3,4],[qb7 L,.str nm,.undef,.undef],[],8,⟨0,[[]]⟩⟩) Tryz.func108 rfl rfl rfl ?_
 repeat apply wq
 refine qa0 qa1 ?_
 simp [zS]
 repeat apply wq
 refine qa0 (qca [⟨141,[qb7 L,.func (.func 142) [] [.ptr 0 0]],⟨1,[[(0,.cells [.str nm])]]⟩,.int .i64 (qm8 L nm),_,
  CallAt.thaw (c141 L hl 142 [.fptr [.str nm] 0] rfl (fun a=>decide (a.1=nm)) fun a=>c142 a nm) rfl [] (by simp [qar,qne (H:=⟨1,[[(0,.cells [.str nm])]]⟩) (b:=0) (cs:=[.str nm]) rfl rfl])⟩]) ?_
 simp [zS,qdb]
 refine qa8 ?_
 simp [qab,Tryz.f108,oneOr]
 exact qa4 rfl rfl
noncomputable def e108:Entry Tryz.prog:=mkE 108 [[2],[]] (fun x:List At1 × Str=>[qb7 x.1,.str x.2]) (fun x=>x.1.length≤1000) (fun x=>.int .i64 (qm8 x.1 x.2)) fun x hx=>c108 (T:=[]) x.1 x.2 hx
theorem k108 {T:List (Entry Tryz.prog)} (hT:qag 108 T=some e108.g) {L:List At1} (nm:Str) (hl:L.length≤1000) {H:Heap} {l:AV} (h:qej H [2] l=some (qb7 L)):qb9 (ctx T) (.fn 108) [l,.str nm] H=some (.int .i64 (qm8 L nm),H):=
 qae hT (fun x y h=>by simp at h;exact Prod.ext (qfv h.1) h.2) (L,nm) hl rfl (by simp [h])
def qg2 (nm:Str):List At1→Option Str
 | []=>none
 | a::r=>if a.1=nm then some a.2 else qg2 nm r
def qy1 (x:Option Str):AV:=.tup [.str (x.getD []),.bool x.isSome]
theorem qk0 {nm:Str}:∀ (L:List At1) (k:Nat),(qbk (fun a=>decide (a.1=nm)) L k = -1∧qg2 nm L=none)∨∃ i,∃ h:i < L.length,qbk (fun a=>decide (a.1=nm)) L k=(k+i:Nat)∧qg2 nm L=some L[i].2∧L[i].1=nm
 | [],k=>.inl ⟨rfl,rfl⟩
 | a::r,k=>by
  by_cases hq:a.1=nm
  ·exact .inr ⟨0,by simp,by simp [qbk,hq],by simp [qg2,hq],hq⟩
  ·rcases qk0 (nm:=nm) r (k+1) with ⟨h1,h2⟩ | ⟨i,h,h1,h2,h3⟩
   ·exact .inl ⟨by simp [qbk,hq,h1],by simp [qg2,hq,h2]⟩
   ·exact .inr ⟨i+1,by simpa using h,by simp [qbk,hq,h1];omega,by simp [qg2,hq,h2],h3⟩
theorem c70 {T:List (Entry Tryz.prog)} (hT:qag 108 T=some e108.g) (L:List At1) (nm:Str) (hl:L.length≤1000):CallAt (ctx T) 70 [qb7 L,.str nm] ⟨0,[]⟩ (qy1 (qg2 nm L)) ⟨0,[]⟩:=by
 refine qa3 (fn:=Tryz.f70) (s0:=⟨[0,1,4,5,6],[qb7 L,.str nm,.undef,.undef,.undef],[],17,⟨0,[[]]⟩⟩) Tryz.func70 rfl rfl rfl ?_
 repeat apply wq
 refine qa0 qa1 ?_
 simp [zS]
 repeat apply wq
 refine qa0 qa1 ?_
 simp [zS,k108 hT nm hl (qki _ L)]
 repeat apply wq
 refine qa0 qa1 ?_
 simp [zS]
 refine qau rfl (fun h=>?_) fun h=>?_
 ·rcases qk0 (nm:=nm) L 0 with ⟨h1,h2⟩ | ⟨i,hi,h1,h2,h3⟩
  ·simp [qm8,h1] at h
  ·have hp:qm8 L nm=(i:Int):=by simp [qm8,h1]
   simp only [hp]
   repeat apply wq
   refine qa0 qa1 ?_
   simp [zS,atA hi]
   refine qa8 ?_
   simp [qab,Tryz.f70,oneOr]
   exact qa4 rfl (by simp [qy1,h2])
 ·rcases qk0 (nm:=nm) L 0 with ⟨h1,h2⟩ | ⟨i,hi,h1,h2,h3⟩
  ·repeat apply wq
   refine qa7 ?_
   simp
   repeat apply wq
   refine qa0 qa1 ?_
   simp [zS]
   refine qa8 ?_
   simp [qab,Tryz.f70,oneOr]
   exact qa4 rfl (by simp [qy1,h2])
  ·simp [qm8,h1] at h
noncomputable def e70:Entry Tryz.prog:=mkE 70 [[2],[]] (fun x:List At1 × Str=>[qb7 x.1,.str x.2]) (fun x=>x.1.length≤1000) (fun x=>qy1 (qg2 x.2 x.1)) fun x hx=>c70 (T:=[e108]) rfl x.1 x.2 hx
theorem injS (x y:List At1 × Str) (h:[qb7 x.1,.str x.2]=[qb7 y.1,.str y.2]):x=y:=by
 simp at h;exact Prod.ext (qfv h.1) h.2
theorem k70 {T:List (Entry Tryz.prog)} (hT:qag 70 T=some e70.g) {L:List At1} (nm:Str) (hl:L.length≤1000) {H:Heap} {l:AV} (h:qej H [2] l=some (qb7 L)):qb9 (ctx T) (.fn 70) [l,.str nm] H=some (qy1 (qg2 nm L),H):=
 qae hT injS (L,nm) hl rfl (by simp [h])
theorem qy7 {nm:Str} {L:List At1} {i:Nat} (h:i < L.length):qg2 nm (L.drop i)=if L[i].1=nm then some L[i].2 else qg2 nm (L.drop (i+1)):=by
 rw [List.drop_eq_getElem_cons h];rfl
theorem c157 {T:List (Entry Tryz.prog)} (L:List At1) (nm:Str) (hl:L.length≤1000):CallAt (ctx T) 157 [qb7 L,.str nm] ⟨0,[]⟩ (qy1 (qg2 nm L)) ⟨0,[]⟩:=by
 refine qa3 (fn:=Tryz.f157) (s0:=⟨[0,1,4,5,6],[qb7 L,.str nm,.undef,.undef,.undef],[],25,⟨0,[[]]⟩⟩) Tryz.func157 rfl rfl rfl ?_
 repeat apply wq
 refine qa0 qa1 ?_
 simp [zS]
 repeat apply wq
 refine qa0 qa1 ?_
 simp [zS]
 refine qa9 (qax (fun i:Nat=>(⟨[0,1,4,5,6],[qb7 L,.str nm,.str [],.bool false,.int .i64 i],[],25,⟨0,[[]]⟩⟩ : St))
  (fun i=>i≤L.length∧qg2 nm L=qg2 nm (L.drop i)) (fun i=>L.length - i) [] [] 0 ⟨Nat.zero_le _,rfl⟩ ⟨rfl,rfl,rfl,by simp [qb6,qay,qaf,qac],FitH.nothing⟩ ?_)
 rintro i ⟨hi,hx⟩ B hB
 repeat apply wq
 refine qa0 qa1 ?_
 simp [zS,qfo]
 refine qau rfl (fun h=>?_) fun h=>?_
 ·simp at h
  refine qa7 ?_
  simp
  repeat apply wq
  refine qa9 ?_
  repeat apply wq
  refine qa0 qa1 ?_
  simp [zS,atA h]
  refine qau rfl (fun h2=>?_) fun h2=>?_
  ·repeat apply wq
   refine qa0 qa1 ?_
   simp [zS,atA h]
   refine qa8 ?_
   simp [qab,Tryz.f157,oneOr]
   simp at h2
   exact qa4 rfl (by simp [qy1,hx,qy7 h,h2])
  ·repeat apply wq
   refine qa7 ?_
   simp
   refine qa0 qa1 ?_
   simp [zS,qba (show i≤1000000000 by omega)]
   simp at h2
   exact hB _ (i+1) (by omega) ⟨by omega,by rw [hx,qy7 h];simp [h2]⟩ ⟨[],[],⟨rfl,rfl,rfl,by simp [qb6,qay,qaf,qac],FitH.nothing⟩⟩
 ·simp at h
  refine qat ?_
  simp
  repeat apply wq
  refine qa0 qa1 ?_
  simp [zS]
  refine qa8 ?_
  simp [qab,Tryz.f157,oneOr]
  exact qa4 rfl (by simp [qy1,hx,List.drop_eq_nil_of_le h,qg2])
noncomputable def e157:Entry Tryz.prog:=mkE 157 [[2],[]] (fun x:List At1 × Str=>[qb7 x.1,.str x.2]) (fun x=>x.1.length≤1000) (fun x=>qy1 (qg2 x.2 x.1)) fun x hx=>c157 (T:=[]) x.1 x.2 hx
theorem k157 {T:List (Entry Tryz.prog)} (hT:qag 157 T=some e157.g) {L:List At1} (nm:Str) (hl:L.length≤1000) {H:Heap} {l:AV} (h:qej H [2] l=some (qb7 L)):qb9 (ctx T) (.fn 157) [l,.str nm] H=some (qy1 (qg2 nm L),H):=
 qae hT injS (L,nm) hl rfl (by simp [h])
structure Nd where
 kind:Int
 space:Int
 name:Str
 attrs:List At1
 data:Str
 up:Int
 kids:List Int
def qbw (i:Int):AV:=.int .i64 i
abbrev qbs (L:List Int):AV:=.fslc 1 (L.map qbw)
def Nd.cs (n:Nd):List AV:=[qbw n.kind,qbw n.space,.str n.name,qb7 n.attrs,.str n.data,qbw n.up,qbs n.kids]
def qaj (n:Nd):AV:=.agg n.cs
abbrev Tr:=List Nd
abbrev qa5 (t:Tr):AV:=.fslc 7 (t.map qaj)
def qam (t:Tr):AV:=.agg [qa5 t]
@[simp] theorem pure_aInts (L:List Int):qaf (qbs L)=true:=by simp [qbs,qaf]
@[simp] theorem pure_aNode (n:Nd):qaf (qaj n)=true:=by simp [qaj,Nd.cs,qbw,qaf,qac]
@[simp] theorem qd9 (t:Tr):qaf (qa5 t)=true:=by simp [qa5,qaf]
@[simp] theorem qza (t:Tr):qaf (qam t)=true:=by simp [qam,qaf,qac]
@[simp] theorem cells_aNode (n:Nd):(qaj n).cells=n.cs:=rfl
@[simp] theorem cells_aTree (t:Tr):(qam t).cells=[qa5 t]:=rfl
@[simp] theorem cells_aInt (i:Int):(qbw i).cells=[qbw i]:=rfl
@[simp] theorem ok_aNode (n:Nd):okV (qaj n)=true:=by simp [qaj,Nd.cs,qbw,qb7,qbs,okV,qaf,qac]
theorem th_aNode (H:Heap) (n:Nd):qej H [] (qaj n)=some (qaj n):=qar (by simp)
theorem qts {L M:List Int} (h:qbs L=qbs M):L=M:=by
 simp only [qbs,AV.fslc.injEq,true_and] at h
 exact List.map_inj_right (fun x y e=>by simp [qbw] at e;exact e) |>.1 h
theorem qcd {a b:Nd} (h:qaj a=qaj b):a=b:=by
 obtain ⟨k,s,n,at_,d,u,ks⟩:=a
 obtain ⟨k',s',n',at',d',u',ks'⟩:=b
 simp [qaj,Nd.cs,qbw] at h
 obtain ⟨h1,h2,h3,h4,h5,h6,h7⟩:=h
 have h7':qbs ks=qbs ks':=by show AV.fslc 1 _=AV.fslc 1 _;rw [h7]
 simp [h1,h2,h3,qfv h4,h5,h6,qts h7']
theorem qde {a b:Tr} (h:qam a=qam b):a=b:=by
 simp [qam,qa5] at h
 exact List.map_inj_right (fun x y e=>qcd e) |>.1 h
end Go.Proofs.YtgpjifeeneeiaaaGreatDoor
namespace Go.Proofs.YtgpjifeeneeiaaaGreatDoor
set_option linter.unusedSimpArgs false
set_option linter.unusedVariables false
structure Wk where
 l:List Int
 inn:List Int
 out:List Int
 c:Int
def qgk (I:List Int):Nat:=I.countP fun x=>decide (x < 0)
def kl (n:Nat) (g:Nat→Wk→Wk):List Int→Wk→Wk
 | [],w=>w
 | k::r,w=>if 0≤k∧k < (n:Int)∧w.inn.getD k.toNat 0 < 0 then kl n g r (g k.toNat w) else kl n g r w
def into (i:Nat) (w:Wk):Wk:=⟨w.l++[(i:Int)],w.inn.set i w.c,w.out,w.c+1⟩
def outof (i:Nat) (w:Wk):Wk:=⟨w.l,w.inn,w.out.set i w.c,w.c+1⟩
def vis (n:Nat) (ks:Nat→List Int):Nat→Nat→Wk→Wk
 | 0,_,w=>w
 | f+1,i,w=>outof i (kl n (vis n ks f) (ks i) (into i w))
structure WOK (n K:Nat) (w:Wk):Prop where
 li:w.inn.length=n
 lo:w.out.length=n
 c0:0≤w.c
 cb:w.c+2 * (qgk w.inn:Int)≤2 * K
 lb:w.l.length+qgk w.inn≤K
theorem qfn {I:List Int} {i:Nat} {c:Int} (h:i < I.length) (hi:I.getD i 0 < 0) (hc:0≤c):qgk (I.set i c)+1=qgk I:=by
 induction I generalizing i with
 | nil=>simp at h
 | cons x r ih=>
  cases i with
  | zero=>
   have hx:x < 0:=by simpa using hi
   have hc':¬ c < 0:=by omega
   simp [qgk,List.countP_cons,hx,hc']
  | succ j=>
   have:=ih (i:=j) (by simpa using h) (by simpa using hi)
   simp only [qgk,List.set_cons_succ,List.countP_cons] at this ⊢
   omega
theorem WOK.into {n K i:Nat} {w:Wk} (h:WOK n K w) (hi:i < n) (hn:w.inn.getD i 0 < 0):WOK n K (into i w)∧qgk (into i w).inn+1=qgk w.inn∧(into i w).c+2 * (qgk (into i w).inn:Int)+1≤2 * K:=by
 have e:=qfn (I:=w.inn) (by rw [h.li];exact hi) hn h.c0
 have h1:=h.cb
 have h2:=h.lb
 have h3:=h.c0
 refine ⟨⟨by simp [Go.Proofs.YtgpjifeeneeiaaaGreatDoor.into,h.li],h.lo,?_,?_,?_⟩,e,?_⟩ <;> simp only [Go.Proofs.YtgpjifeeneeiaaaGreatDoor.into,List.length_append,List.length_singleton] <;> omega
def Low (n K:Nat) (b:Int) (w:Wk):Prop:=WOK n K w∧w.c+2 * (qgk w.inn:Int)+b≤2 * K
theorem kl_ok {n K f:Nat} {g:Nat→Wk→Wk} (hg:∀ b i w,0≤b→Low n K b w→i < n→w.inn.getD i 0 < 0→qgk w.inn≤f→Low n K b (g i w)∧qgk (g i w).inn≤qgk w.inn) (b:Int) (hb:0≤b) :
  ∀ (ks:List Int) (w:Wk),Low n K b w→qgk w.inn≤f→Low n K b (kl n g ks w)∧qgk (kl n g ks w).inn≤qgk w.inn
 | [],w,h,_=>⟨h,Nat.le_refl _⟩
 | k::r,w,h,hf=>by
  unfold kl
  split
  ·rename_i hk
   obtain ⟨h1,h2⟩:=hg b k.toNat w hb h (by omega) hk.2.2 hf
   obtain ⟨h3,h4⟩:=kl_ok hg b hb r _ h1 (by omega)
   exact ⟨h3,by omega⟩
  ·exact kl_ok hg b hb r w h hf
theorem qpm {n K:Nat} {ks:Nat→List Int}:∀ (f:Nat) (b:Int) (i:Nat) (w:Wk),0≤b→Low n K b w→i < n→w.inn.getD i 0 < 0→qgk w.inn≤f→Low n K b (vis n ks f i w)∧qgk (vis n ks f i w).inn < qgk w.inn
 | 0,b,i,w,hb,h,hi,hn,hf=>by
  have e:=qfn (I:=w.inn) (by rw [h.1.li];exact hi) hn h.1.c0
  omega
 | f+1,b,i,w,hb,h,hi,hn,hf=>by
  obtain ⟨h1,h2,h3⟩:=h.1.into hi hn
  have hl:Low n K (b+1) (into i w):=⟨h1,by have:=h.2;simp only [into] at h2 ⊢;omega⟩
  obtain ⟨h4,h5⟩:=kl_ok (n:=n) (K:=K) (f:=f) (g:=vis n ks f) (fun b' i' w' hb' h' hi' hn' hf'=>let ⟨x,y⟩:=qpm f b' i' w' hb' h' hi' hn' hf';⟨x,Nat.le_of_lt y⟩) (b+1) (by omega) (ks i) (into i w) hl (by omega)
  unfold vis
  refine ⟨⟨⟨h4.1.li,by simp [outof,h4.1.lo],?_,?_,?_⟩,?_⟩,?_⟩
  ·have:=h4.1.c0;simp only [outof];omega
  ·have:=h4.2;simp only [outof];omega
  ·exact h4.1.lb
  ·have:=h4.2;simp only [outof];omega
  ·simp only [outof];omega
abbrev Cfg:=List (Nat × Nat) × List Bool × List Int
def stp (n:Nat) (ks:Nat→List Int):Cfg→Option Cfg
 | ([],_,_)=>none
 | ((i,j)::p,s,a)=>match (ks i)[j]? with
  | none=>some (p,s,a)
  | some k=>if 0≤k∧k < (n:Int)∧s.getD k.toNat true=false then some ((k.toNat,0)::(i,j+1)::p,s.set k.toNat true,a++[k]) else some ((i,j+1)::p,s,a)
inductive Reach (n:Nat) (ks:Nat→List Int):Cfg→Cfg→Prop where
 | refl (c:Cfg):Reach n ks c c
 | step {c d e:Cfg} (h:stp n ks c=some d) (r:Reach n ks d e):Reach n ks c e
theorem Reach.trans {n:Nat} {ks:Nat→List Int} {c d e:Cfg} (h:Reach n ks c d) (r:Reach n ks d e):Reach n ks c e:=by
 induction h with
 | refl=>exact r
 | step h _ ih=>exact .step h (ih r)
theorem Reach.one {n:Nat} {ks:Nat→List Int} {c d e:Cfg} (r:Reach n ks c d) (h:stp n ks d=some e):Reach n ks c e:=r.trans (.step h (.refl _))
theorem Reach.det {n:Nat} {ks:Nat→List Int} {c a b:Cfg} (h:Reach n ks c a) (r:Reach n ks c b) (ha:stp n ks a=none) (hb:stp n ks b=none):a=b:=by
 induction h with
 | refl=>
  cases r with
  | refl=>rfl
  | step h2 r2=>rw [ha] at h2;cases h2
 | step h _ ih=>
  cases r with
  | refl=>rw [hb] at h;cases h
  | step h2 r2=>rw [h] at h2;cases h2;exact ih r2 ha
def qfd (I:List Int):List Bool:=I.map fun x=>decide (0≤x)
theorem qwz {I:List Int} {i:Nat} (h:i < I.length):((qfd I).getD i true=false)↔I.getD i 0 < 0:=by
 simp only [qfd,List.getD_eq_getElem?_getD,List.getElem?_map,List.getElem?_eq_getElem h,Option.map_some,Option.getD_some,decide_eq_false_iff_not]
 omega
theorem seen_set {I:List Int} {i:Nat} {c:Int} (hc:0≤c):qfd (I.set i c)=(qfd I).set i true:=by
 simp [qfd,List.map_set,hc]
theorem qr2 {n K f i:Nat} {ks:Nat→List Int} {p:List (Nat × Nat)} (hg:∀ p i w,Low n K 0 w→i < n→w.inn.getD i 0 < 0→qgk w.inn≤f→Reach n ks ((i,0)::p,(qfd w.inn).set i true,w.l++[(i:Int)]) (p,qfd (vis n ks f i w).inn,(vis n ks f i w).l)) :
  ∀ (r:List Int) (j:Nat) (w:Wk),j≤(ks i).length→(ks i).drop j=r→Low n K 0 w→qgk w.inn≤f→Reach n ks ((i,j)::p,qfd w.inn,w.l) ((i,(ks i).length)::p,qfd (kl n (vis n ks f) r w).inn,(kl n (vis n ks f) r w).l)
 | [],j,w,hj,hr,h,hf=>by
  have:j=(ks i).length:=by have:=congrArg List.length hr;simp at this;omega
  subst this
  exact .refl _
 | k::r,j,w,hj,hr,h,hf=>by
  have hlt:j < (ks i).length:=by have:=congrArg List.length hr;simp at this;omega
  have hk:(ks i)[j]? = some k:=by
   have:=List.drop_eq_getElem_cons hlt
   rw [this] at hr
   simp only [List.cons.injEq] at hr
   rw [List.getElem?_eq_getElem hlt,hr.1]
  have hr':(ks i).drop (j+1)=r:=by
   have:=List.drop_eq_getElem_cons hlt
   rw [this] at hr
   simp only [List.cons.injEq] at hr
   exact hr.2
  unfold kl
  split
  ·rename_i hc
   have hkn:k.toNat < n:=by omega
   have e:((k.toNat:Nat):Int)=k:=by omega
   have hs:(qfd w.inn).getD k.toNat true=false:=(qwz (by rw [h.1.li];exact hkn)).2 hc.2.2
   obtain ⟨h1,h2⟩:=qpm (ks:=ks) f 0 k.toNat w (Int.le_refl 0) h hkn hc.2.2 hf
   have r1:=hg ((i,j+1)::p) k.toNat w h hkn hc.2.2 hf
   rw [e] at r1
   refine .step (d:=((k.toNat,0)::(i,j+1)::p,(qfd w.inn).set k.toNat true,w.l++[k])) ?_ (r1.trans (qr2 hg r (j+1) _ (by omega) hr' h1 (by omega)))
   simp only [stp,hk]
   rw [if_pos ⟨hc.1,hc.2.1,hs⟩]
  ·rename_i hc
   refine .step (d:=((i,j+1)::p,qfd w.inn,w.l)) ?_ (qr2 hg r (j+1) w (by omega) hr' h hf)
   simp only [stp,hk]
   rw [if_neg]
   intro hx
   exact hc ⟨hx.1,hx.2.1,(qwz (by rw [h.1.li];omega)).1 hx.2.2⟩
theorem qsx {n K:Nat} {ks:Nat→List Int}:∀ (f:Nat) (p:List (Nat × Nat)) (i:Nat) (w:Wk),Low n K 0 w→i < n→w.inn.getD i 0 < 0→qgk w.inn≤f →
  Reach n ks ((i,0)::p,(qfd w.inn).set i true,w.l++[(i:Int)]) (p,qfd (vis n ks f i w).inn,(vis n ks f i w).l)
 | 0,p,i,w,h,hi,hn,hf=>by
  have e:=qfn (I:=w.inn) (by rw [h.1.li];exact hi) hn h.1.c0
  omega
 | f+1,p,i,w,h,hi,hn,hf=>by
  obtain ⟨h1,h2,h3⟩:=h.1.into hi hn
  have hl:Low n K 0 (into i w):=⟨h1,by have:=h.2;simp only [into] at h2 ⊢;omega⟩
  have r1:=qr2 (p:=p) (i:=i) (fun p i w a b c d=>qsx (K:=K) f p i w a b c d) (ks i) 0 (into i w) (Nat.zero_le _) rfl hl (by omega)
  simp only [into,seen_set h.1.c0] at r1
  refine r1.one ?_
  simp [stp,vis,outof,into]
def w0 (n:Nat):Wk:=⟨[],List.replicate n (-1),List.replicate n (-1),0⟩
def qav (n:Nat) (ks:Nat→List Int):List Int:=if n=0 then [] else (vis n ks n 0 (w0 n)).l
theorem qgj (n:Nat):qgk (List.replicate n (-1))=n:=by simp [qgk,List.countP_replicate]
theorem qyn (n:Nat):Low n n 0 (w0 n):=by
 refine ⟨⟨by simp [w0],by simp [w0],by simp [w0],?_,?_⟩,?_⟩ <;> simp [w0,qgj]
theorem seen_w0 (n:Nat):qfd (w0 n).inn=List.replicate n false:=by simp [qfd,w0]
theorem qv5 {n:Nat} {ks:Nat→List Int} (hn:0 < n):∃ s,Reach n ks ([(0,0)],(List.replicate n false).set 0 true,[0]) ([],s,qav n ks):=by
 have h:=qsx (K:=n) (ks:=ks) n [] 0 (w0 n) (qyn n) hn (by simp [w0,List.getD_eq_getElem?_getD,hn]) (by simp [w0,qgj])
 rw [seen_w0] at h
 refine ⟨qfd (vis n ks n 0 (w0 n)).inn,?_⟩
 simpa [qav,Nat.ne_of_gt hn,w0] using h
theorem zbr {n:Nat} {ks:Nat→List Int} (hn:0 < n) {s:List Bool} {a:List Int} (h:Reach n ks ([(0,0)],(List.replicate n false).set 0 true,[0]) ([],s,a)):a=qav n ks:=by
 obtain ⟨s2,h2⟩:=qv5 (ks:=ks) hn
 have:=h.det h2 rfl rfl
 simp at this
 exact this.2
end Go.Proofs.YtgpjifeeneeiaaaGreatDoor
namespace Go.Proofs.YtgpjifeeneeiaaaGreatDoor
set_option linter.unusedSimpArgs false
set_option linter.unusedVariables false
open Go Go.RowKit
set_option maxRecDepth 100000
def qbu (L:List Int):List AV:=L.map qbw
@[simp] theorem ints_nil:qbu []=[]:=rfl
theorem qre {L:List Int} (h:L≠[]):qbu L≠[]:=by simpa [qbu] using h
theorem ne_ints {L:List Int} (h:qbu L≠[]):L≠[]:=by simpa [qbu] using h
@[simp] theorem len_ints (L:List Int):(qbu L).length=L.length:=by simp [qbu]
theorem qfk (L:List Int):Elems 1 (qbu L):=.map (sz:=1) (f:=qbw) (by decide) (fun x=>⟨rfl,rfl,fun _=>rfl,fun h=>absurd rfl h⟩) L
@[simp] theorem qe4 (L:List Int):qan (qbu L)=qbu L:=by
 unfold qbu
 induction L with
 | nil=>rfl
 | cons x r ih=>simp only [List.map_cons,qan,ih];rfl
@[simp] theorem qbe (L:List Int):qac (qbu L)=true:=by have:=(qfk L).pure;rwa [qe4] at this
theorem lay1 {L:List Int} {i:Nat} {v:Int} (h:i < L.length):qj5 [.int .i64 v] i (qbu L)=some (qbu (L.set i v)):=by
 have:=lay_at (qfk L) (i:=i) (by simpa using h) (e:=qbw v) rfl
 have e:(qbu L).set i (qbw v)=qbu (L.set i v):=by simp [qbu,List.map_set]
 rw [qe4,e,qe4] at this
 simpa [qbw,AV.cells] using this
theorem atI {L:List Int} {i:Nat} (h:i < L.length):qb1 Tryz.prog 29 (qbs L) (.int .i64 (i:Int))=some (.fptr [.int .i64 L[i]] 0):=by
 simp [qb1,qbs,qc0 h,qgo h,qbw,AV.cells]
theorem atN {t:Tr} {i:Nat} (h:i < t.length):qb1 Tryz.prog 22 (qa5 t) (.int .i64 (i:Int))=some (.fptr (t[i]).cs 0):=by
 simp [qb1,qa5,qc0 h,qgo h]
theorem qm9 {H:Heap} {L:List Int}:qe3 Tryz.prog H 29 (qbs L)=some L.length:=by simp [qe3,qbs]
theorem qfu {H:Heap} {t:Tr}:qe3 Tryz.prog H 22 (qa5 t)=some t.length:=by simp [qe3,qa5]
def qaq (t:Tr) (i:Nat):List Int:=(t[i]?.map Nd.kids).getD []
theorem qdq {t:Tr} {i:Nat} (h:i < t.length):t[i].kids=qaq t i:=by simp [qaq,h]
def lA (b:Nat) (L:List Int):AV:=qjv b 1 (qbu L)
def lF (b:Nat) (L:List Int):List (Nat × Blk):=qgh b (qbu L)
theorem qto {b:Nat} {L:List Int} (h:L≠[]):lA b L=.slc b 0 L.length (.rest 1):=by rw [lA,qju (qre h)];simp
theorem qie {b:Nat} {L:List Int} (h:L≠[]):lF b L=[(b,.cells (qbu L))]:=by rw [lF,qny (qre h),qe4]
theorem app_l {m t b:Nat} {L:List Int} {v:Int} {g1 g:List (Nat × Blk)} (hr:L.length≤1000000000) (h1:∀ e,e∈(t,Blk.cells [AV.int .i64 v])::g1→e.1≠b) (h2:∀ e,e∈g→e.1≠b) :
  qc2 Tryz.prog ⟨m,[(t,.cells [.int .i64 v])::g1,lF b L++g]⟩ 3 (lA b L) (.slc t 0 1 (.ex 1))=some (.slc m 0 (L.length+1) (.rest 1),⟨m+1,[(m,.cells (qbu (L++[v])))::(t,.cells [.int .i64 v])::g1,g]⟩):=by
 have miss:∀ (l:List (Nat × Blk)),(∀ e,e∈l→e.1≠b)→getF b l=none:=by
  intro l
  induction l with
  | nil=>intro _;rfl
  | cons x r ih=>
   intro h
   unfold getF
   rw [qbg (h x (by simp))]
   exact ih fun e he=>h e (by simp [he])
 have hm1:=miss _ h1
 have hg:=miss _ h2
 have hdrop:Heap.drop ⟨m,[(t,.cells [.int .i64 v])::g1,lF b L++g]⟩ b=⟨m,[(t,.cells [.int .i64 v])::g1,g]⟩:=by
  simp only [Heap.drop,qea,hm1]
  cases L with
  | nil=>simp [lF,qgh,hg]
  | cons x r=>simp [lF,qgh,qbu,getF,killF]
 have h:=qj4 (P:=Tryz.prog) (H:=⟨m,[(t,.cells [.int .i64 v])::g1,lF b L++g]⟩) (elem:=3) (b:=b) (n:=0) (es:=qbu L) (cs:=[.int .i64 v]) (x:=.slc t 0 1 (.ex 1)) szT3 byT3 zeT3 rfl (by omega) (by omega) rfl
  (by simp [qbi,readCells,Heap.get,getFs,getF,Blk.rd,qeu,qed]) rfl rfl (qfk L) (by simp;omega) (fun hne=>by
   have hL:L≠[]:=ne_ints hne
   simp only [Heap.get,getFs,hm1,qie hL,qe4]
   simp [getF]) (fun he=>by
   have hL:L=[]:=by simpa [qbu] using he
   subst hL
   rw [hdrop];rfl) (by intro cs;rfl)
 have e:qbu L++[.int .i64 v]=qbu (L++[v]):=by simp [qbu,qbw]
 rw [hdrop,qe4,e] at h
 simpa [lA,Heap.new,pushF] using h
theorem FitH.rows {n:Nat} {σ:List (Nat × Nat)} {H H':Heap} (nd1:(σ.map (·.1)).Nodup) (nd2:(σ.map (·.2)).Nodup) (nd3:(H'.ents.map (·.1)).Nodup) (lt:∀ x,x∈σ→x.2 < H'.n) (idn:∀ x,x∈σ→x.1 < n∨x.2 < n→x.1=x.2) (num:n≤H'.n)
  (src:∀ e,e∈H'.ents→∃ b cs,(b,e.1)∈σ∧H.get b=some (.cells cs)∧e.2=.cells cs∧qac cs=true):FitH n σ [] H H' where
 nd1:=by simpa using nd1
 nd2:=nd2
 nd3:=nd3
 lt:=lt
 idn:=fun x hx h=>idn x hx (.inr h)
 num:=num
 src:=fun e he=>by
  obtain ⟨b,cs,h1,h2,h3,h4⟩:=src e he
  exact ⟨b,_,h1,h2,by rw [h3];exact qak h4⟩
 frz:=fun x h=>by cases h
def hW (L I O:List Int):Heap:=⟨3,[lF 2 L++[(0,.cells (qbu I)),(1,.cells (qbu O))]]⟩
def hW' (L I O:List Int):Heap:=⟨4,[lF 3 L++[(0,.cells (qbu I)),(1,.cells (qbu O))]]⟩
def hL (t:Tr) (L I O:List Int):Heap:=⟨5,[[(4,.cells (qbu L)),(3,.cells [qa5 t])],[(0,.cells (qbu I)),(1,.cells (qbu O))]]⟩
theorem qu5 {t:Tr} {L I O:List Int} {m a:Nat} {f:List (Nat × Blk)} (ha:getF a f=some (.cells (qbu L))) (h3:getF 3 f=some (.cells [qa5 t])) (h0:getF 0 f=none) (h1:getF 1 f=none) (ha4:3 < a) :
  FitH 3 [(a,4),(3,3),(0,0),(1,1)] [] ⟨m,[f,[(0,.cells (qbu I)),(1,.cells (qbu O))]]⟩ (hL t L I O):=by
 refine .rows (by simp;omega) (by simp) (by simp [hL,Heap.ents]) (by simp [hL]) (by simp;omega) (by simp [hL]) ?_
 intro e he
 simp [hL,Heap.ents] at he
 rcases he with rfl | rfl | rfl | rfl
 ·exact ⟨a,_,by simp,by simp [Heap.get,getFs,ha],rfl,qbe _⟩
 ·exact ⟨3,_,by simp,by simp [Heap.get,getFs,h3],rfl,by simp [qac]⟩
 ·exact ⟨0,_,by simp,by simp [Heap.get,getFs,h0,getF],rfl,qbe _⟩
 ·exact ⟨1,_,by simp,by simp [Heap.get,getFs,h1,getF],rfl,qbe _⟩
theorem fit_out {t:Tr} {L I O:List Int} (hne:L≠[]):FitH 3 [(4,3),(0,0),(1,1)] [] (hL t L I O) (hW' L I O):=by
 refine .rows (by simp) (by simp) (by simp [hW',qie hne,Heap.ents]) (by simp [hW']) (by simp) (by simp [hW']) ?_
 intro e he
 simp [hW',qie hne,Heap.ents] at he
 rcases he with rfl | rfl | rfl
 ·exact ⟨4,_,by simp,by simp [hL,Heap.get,getFs,getF],rfl,qbe _⟩
 ·exact ⟨0,_,by simp,by simp [hL,Heap.get,getFs,getF],rfl,qbe _⟩
 ·exact ⟨1,_,by simp,by simp [hL,Heap.get,getFs,getF],rfl,qbe _⟩
theorem call_in {t:Tr} {f:FuncId} {C:Ctx} {n i:Nat} {L I O L' I' O':List Int} {c c':Int} (hne:L≠[]) (hne':L'≠[])
  (h:CallAt C f [qam t,.int .i64 i,lA 2 L,.slc 0 0 n (.ex n),.slc 1 0 n (.ex n),.int .i64 c] (hW L I O) (.tup [lA 3 L',.int .i64 c']) (hW' L' I' O')) :
  CallAt C f [qam t,.int .i64 i,.slc 4 0 L.length (.rest 1),.slc 0 0 n (.ex n),.slc 1 0 n (.ex n),.int .i64 c] (hL t L I O) (.tup [.slc 5 0 L'.length (.rest 1),.int .i64 c'])
   ⟨6,[[(5,.cells (qbu L')),(3,.cells [qa5 t])],[(0,.cells (qbu I')),(1,.cells (qbu O'))]]⟩:=by
 have hf:FitH 0 [(4,2),(0,0),(1,1)] [] (hL t L I O) (hW L I O):=by
  refine .rows (by simp) (by simp) (by simp [hW,qie hne,Heap.ents]) (by simp [hW]) (by simp) (by simp [hW]) ?_
  intro e he
  simp [hW,qie hne,Heap.ents] at he
  rcases he with rfl | rfl | rfl
  ·exact ⟨4,_,by simp,by simp [hL,Heap.get,getFs,getF],rfl,qbe _⟩
  ·exact ⟨0,_,by simp,by simp [hL,Heap.get,getFs,getF],rfl,qbe _⟩
  ·exact ⟨1,_,by simp,by simp [hL,Heap.get,getFs,getF],rfl,qbe _⟩
 have:=h.framed (H:=hL t L I O) (H':=⟨6,[[(5,.cells (qbu L')),(3,.cells [qa5 t])],[(0,.cells (qbu I')),(1,.cells (qbu O'))]]⟩) (σ:=[(4,2),(0,0),(1,1)])
  (args:=[qam t,.int .i64 i,.slc 4 0 L.length (.rest 1),.slc 0 0 n (.ex n),.slc 1 0 n (.ex n),.int .i64 c]) hf ?_ ?_ (by simp [hW,hW'])
 ·simpa [qto hne',qk9,qhy,qfs,qdk,hL,hW] using this
 ·rw [qto hne]
  simp [qb6,qay,qb2,qbb,qaf]
 ·refine ⟨by simp [hL,hW,hW'],by simp [Heap.ents],?_⟩
  intro e he
  have hI:qhy (qfs [(4,2),(0,0),(1,1)] 5 3) (qbu I')=qbu I':=qcr _ (qbe _)
  have hO:qhy (qfs [(4,2),(0,0),(1,1)] 5 3) (qbu O')=qbu O':=qcr _ (qbe _)
  have hL':qhy (qfs [(4,2),(0,0),(1,1)] 5 3) (qbu L')=qbu L':=qcr _ (qbe _)
  simp [Heap.ents] at he
  rcases he with rfl | rfl | rfl | rfl
  ·exact .inl ⟨(3,.cells (qbu L')),by simp [hW',qie hne',Heap.ents],by simp [hL,hW,qpw,hL'];simp [qfs,qdk]⟩
  ·exact .inr ⟨by simp [hL,Heap.ents],by simp⟩
  ·exact .inl ⟨(0,.cells (qbu I')),by simp [hW',qie hne',Heap.ents],by simp [hL,hW,qpw,hI];simp [qfs,qdk]⟩
  ·exact .inl ⟨(1,.cells (qbu O')),by simp [hW',qie hne',Heap.ents],by simp [hL,hW,qpw,hO];simp [qfs,qdk]⟩
theorem get1 {L:List Int} {i:Nat} (h:i < L.length):qcl (qbu L) i=some (.int .i64 L[i]):=by simp [qbu,qgo h,qbw]
theorem ixI {b n i:Nat} {cap:Cap} (h:i < n):qb1 Tryz.prog 29 (.slc b 0 n cap) (.int .i64 (i:Int))=some (.ptr b i):=by
 simp [qb1,qc0 h]
theorem zaj {n:Nat} {ks:Nat→List Int}:∀ (f i:Nat) (w:Wk),w.l≠[]→(vis n ks f i w).l≠[]
 | 0,_,w,h=>h
 | f+1,i,w,h=>by
  have hk:∀ (r:List Int) (w:Wk),w.l≠[]→(kl n (vis n ks f) r w).l≠[]:=by
   intro r
   induction r with
   | nil=>intro w h;exact h
   | cons k r ih=>
    intro w h
    unfold kl
    split
    ·exact ih _ (zaj f _ _ h)
    ·exact ih _ h
  exact hk (ks i) (into i w) (by simp [into])
theorem c156 {T:List (Entry Tryz.prog)} (t:Tr) {K:Nat} (hK:K≤1000) (hkd:∀ x,x∈t→x.kids.length≤1000):∀ (f i:Nat) (w:Wk),Low t.length K 0 w→i < t.length→w.inn.getD i 0 < 0→qgk w.inn≤f →
  CallAt (ctx T) 156 [qam t,.int .i64 i,lA 2 w.l,.slc 0 0 t.length (.ex t.length),.slc 1 0 t.length (.ex t.length),.int .i64 w.c] (hW w.l w.inn w.out)
   (.tup [lA 3 (vis t.length (qaq t) f i w).l,.int .i64 (vis t.length (qaq t) f i w).c]) (hW' (vis t.length (qaq t) f i w).l (vis t.length (qaq t) f i w).inn (vis t.length (qaq t) f i w).out)
 | 0,i,w,h,hi,hn,hf=>by
  have e:=qfn (I:=w.inn) (by rw [h.1.li];exact hi) hn h.1.c0
  omega
 | f+1,i,w,h,hi,hn,hf=>by
  obtain ⟨g1,g2,g3⟩:=h.1.into hi hn
  have hlow:Low t.length K 0 (into i w):=⟨g1,by omega⟩
  have hc:=h.1.c0
  have hcb:=h.1.cb
  have hlb:=h.1.lb
  have hli:=h.1.li
  have hlo:=h.1.lo
  have hkl:(qaq t i).length≤1000:=by rw [← qdq hi];exact hkd _ (List.getElem_mem hi)
  have happ:=app_l (m:=5) (t:=4) (b:=2) (L:=w.l) (v:=(i:Int)) (g1:=[(3,.cells [qa5 t])]) (g:=[(0,.cells (qbu w.inn)),(1,.cells (qbu w.out))]) (by omega) (by simp) (by simp)
  unfold hW
  refine qa3 (fn:=Tryz.f156) (s0:=⟨[0,1,2,3,4,5,6,12,13,14,15],[qam t,.int .i64 i,lA 2 w.l,.slc 0 0 t.length (.ex t.length),.slc 1 0 t.length (.ex t.length),.int .i64 w.c,.undef,.undef,.undef,.undef,.undef],[],79,⟨3,[]::[lF 2 w.l++[(0,.cells (qbu w.inn)),(1,.cells (qbu w.out))]]⟩⟩) Tryz.func156 rfl rfl rfl ?_
  repeat apply wq
  refine qa0 qa1 ?_
  simp [zS,qam]
  repeat apply wq
  refine qa0 qa1 ?_
  simp [zS,happ]
  have hst:=lay1 (L:=w.inn) (i:=i) (v:=w.c) (by omega)
  repeat apply wq
  refine qa0 qa1 ?_
  simp [zS,ixI hi,hst]
  repeat apply wq
  refine qa0 qa1 ?_
  simp [zS,qc6 (show -1000000000000≤w.c+1 by omega) (show w.c+1≤1000000000000 by omega)]
  repeat apply wq
  refine qa0 qa1 ?_
  simp [zS]
  obtain ⟨w2,hw2⟩ : ∃ w2,w2=kl t.length (vis t.length (qaq t) f) (qaq t i) (into i w):=⟨_,rfl⟩
  have hvis:vis t.length (qaq t) (f+1) i w=outof i w2:=by rw [hw2];rfl
  rw [hvis]
  have hb0:0≤(0:Int):=Int.le_refl 0
  refine qa9 (qax (fun x:Nat × Wk=>(⟨[0,1,2,3,4,5,6,12,13,14,15],[qam t,.int .i64 i,.slc 4 0 x.2.l.length (.rest 1),.slc 0 0 t.length (.ex t.length),.slc 1 0 t.length (.ex t.length),.int .i64 x.2.c,.ptr 3 0,.undef,.undef,.int .i64 x.1,.undef],[],79,hL t x.2.l x.2.inn x.2.out⟩ : St))
   (fun x=>x.1≤(qaq t i).length∧x.2.l≠[]∧Low t.length K 1 x.2∧qgk x.2.inn≤f∧kl t.length (vis t.length (qaq t) f) ((qaq t i).drop x.1) x.2=w2) (fun x=>(qaq t i).length - x.1) [(5,4),(3,3),(0,0),(1,1)] [] (0,into i w)
   ⟨Nat.zero_le _,by simp [into],⟨g1,g3⟩,by show qgk (into i w).inn≤f;omega,hw2.symm⟩
   ⟨rfl,rfl,rfl,by simp [qb6,qay,qb2,qaf,into,qam,qac],qu5 (t:=t) (L:=w.l++[(i:Int)]) (I:=w.inn.set i w.c) (O:=w.out) (m:=6) (a:=5) (f:=[(5,.cells (qbu (w.l++[(i:Int)]))),(4,.cells [.int .i64 i]),(3,.cells [qa5 t])]) rfl rfl rfl rfl (by omega)⟩ ?_)
  rintro ⟨j,x⟩ ⟨hj,hne,hx,hfx,hk⟩ B hB
  simp only at hj hne hx hfx hk
  have xli:=hx.1.li
  have xlo:=hx.1.lo
  have xc0:=hx.1.c0
  have xcb:=hx.2
  have hget:∀ m,(hm:m < t.length)→x.inn[m]'(by omega)=x.inn.getD m 0:=fun m hm=>by rw [List.getD_eq_getElem?_getD,List.getElem?_eq_getElem (by omega),Option.getD_some]
  repeat apply wq
  refine qa0 qa1 ?_
  simp [zS,hL,atN hi,qm9,qdq hi,Nd.cs]
  refine qau rfl (fun h=>?_) fun h=>?_
  ·simp at h
   refine qa7 ?_
   simp
   repeat apply wq
   refine qa9 ?_
   obtain ⟨k,hkj⟩ : ∃ k,k=(qaq t i)[j]:=⟨_,rfl⟩
   have hdrop:(qaq t i).drop j=k::(qaq t i).drop (j+1):=by rw [List.drop_eq_getElem_cons h,hkj]
   rw [hdrop] at hk
   unfold kl at hk
   repeat apply wq
   refine qa0 qa1 ?_
   simp [zS,hL,atN hi,qdq hi,Nd.cs,atI h,← hkj]
   by_cases h0:0≤k
   ·obtain ⟨m,rfl⟩:=Int.eq_ofNat_of_zero_le h0
    by_cases h1:m < t.length
    ·have hgm:=hget m h1
     by_cases h2:x.inn.getD m 0 < 0
     ·rw [if_pos ⟨h0,by omega,h2⟩] at hk
      have h2':x.inn[m]'(by omega) < 0:=by rw [hgm];exact h2
      repeat apply wq
      refine qa0 qa1 ?_
      simp [zS,hL,h1,qfu,ixI h1,get1 (show m < x.inn.length by omega),h2']
      refine qai rfl ?_
      have hx0:Low t.length K 0 x:=⟨hx.1,by have:=hx.2;omega⟩
      have ih:=c156 (T:=T) t hK hkd f m x hx0 h1 h2 hfx
      obtain ⟨q1,q2⟩:=qpm (ks:=qaq t) f 1 m x (by omega) hx h1 h2 hfx
      have hkm:(Int.toNat (m:Int))=m:=by simp
      rw [hkm] at hk
      have hny:=zaj (n:=t.length) (ks:=qaq t) f m x hne
      obtain ⟨y,hy⟩ : ∃ y,y=vis t.length (qaq t) f m x:=⟨_,rfl⟩
      rw [← hy] at ih q1 q2 hk hny
      have hcall:=call_in hne hny ih
      refine qa0 (qca [⟨156,_,_,_,_,hcall⟩]) ?_
      simp [zS,qdb,hL,qam]
      refine qa0 qa1 ?_
      simp [zS,qba (show j≤1000000000 by omega)]
      exact hB _ (j+1,y) (by simp;omega) ⟨by simp;omega,hny,q1,by simp only;omega,hk⟩ ⟨[(5,4),(3,3),(0,0),(1,1)],[],rfl,rfl,rfl,by simp [qb6,qay,qb2,qaf,qam,qac],qu5 (t:=t) (L:=y.l) (I:=y.inn) (O:=y.out) (m:=6) (a:=5) (f:=[(5,.cells (qbu y.l)),(3,.cells [qa5 t])]) rfl rfl rfl rfl (by omega)⟩
     ·rw [if_neg (fun hx=>h2 hx.2.2)] at hk
      have h2':¬ x.inn[m]'(by omega) < 0:=by rw [hgm];exact h2
      repeat apply wq
      refine qa0 qa1 ?_
      simp [zS,hL,h1,qfu,ixI h1,get1 (show m < x.inn.length by omega),h2']
      refine qal rfl ?_
      refine qa7 ?_
      simp
      refine qa0 qa1 ?_
      simp [zS,qba (show j≤1000000000 by omega)]
      exact hB _ (j+1,x) (by simp;omega) ⟨by simp;omega,hne,hx,hfx,hk⟩ ⟨[(4,4),(3,3),(0,0),(1,1)],[],rfl,rfl,rfl,by simp [qb6,qay,qb2,qaf,qam,qac],qu5 (t:=t) (L:=x.l) (I:=x.inn) (O:=x.out) (m:=5) (a:=4) (f:=[(4,.cells (qbu x.l)),(3,.cells [qa5 t])]) rfl rfl rfl rfl (by omega)⟩
    ·rw [if_neg (fun hx=>h1 (by omega))] at hk
     repeat apply wq
     refine qa0 qa1 ?_
     simp [zS,hL,h1,qfu]
     refine qal rfl ?_
     refine qa7 ?_
     simp
     refine qa0 qa1 ?_
     simp [zS,qba (show j≤1000000000 by omega)]
     exact hB _ (j+1,x) (by simp;omega) ⟨by simp;omega,hne,hx,hfx,hk⟩ ⟨[(4,4),(3,3),(0,0),(1,1)],[],rfl,rfl,rfl,by simp [qb6,qay,qb2,qaf,qam,qac],qu5 (t:=t) (L:=x.l) (I:=x.inn) (O:=x.out) (m:=5) (a:=4) (f:=[(4,.cells (qbu x.l)),(3,.cells [qa5 t])]) rfl rfl rfl rfl (by omega)⟩
   ·rw [if_neg (fun hx=>h0 hx.1)] at hk
    repeat apply wq
    refine qa0 qa1 ?_
    simp [zS,hL,h0]
    refine qal rfl ?_
    refine qa7 ?_
    simp
    refine qa0 qa1 ?_
    simp [zS,qba (show j≤1000000000 by omega)]
    exact hB _ (j+1,x) (by simp;omega) ⟨by simp;omega,hne,hx,hfx,hk⟩ ⟨[(4,4),(3,3),(0,0),(1,1)],[],rfl,rfl,rfl,by simp [qb6,qay,qb2,qaf,qam,qac],qu5 (t:=t) (L:=x.l) (I:=x.inn) (O:=x.out) (m:=5) (a:=4) (f:=[(4,.cells (qbu x.l)),(3,.cells [qa5 t])]) rfl rfl rfl rfl (by omega)⟩
  ·simp at h
   refine qat ?_
   simp
   have hjl:j=(qaq t i).length:=by omega
   rw [hjl,List.drop_length] at hk
   have hk2:x=w2:=hk
   subst hk2
   have hst:=lay1 (L:=x.out) (i:=i) (v:=x.c) (by omega)
   repeat apply wq
   refine qa0 qa1 ?_
   simp [zS,hL,ixI hi,hst]
   repeat apply wq
   refine qa0 qa1 ?_
   simp [zS,qc6 (show -1000000000000≤x.c+1 by omega) (show x.c+1≤1000000000000 by omega)]
   refine qa8 ?_
   simp [qab,Tryz.f156,oneOr]
   refine ⟨[(4,3),(0,0),(1,1)],[],?_,fit_out (t:=t) (L:=x.l) (I:=x.inn) (O:=x.out.set i x.c) hne⟩
   simp [outof,qto hne,qay,qb6,qb2,qaf]
theorem qst:∀ (n:Nat),replL [.int .i64 0] n=qbu (List.replicate n 0)
 | 0=>rfl
 | n+1=>by simp only [replL,qst n,List.replicate_succ,qbu,List.map_cons];rfl
theorem msInt {n:Nat} (h:n≤1000000):msB Tryz.prog 29 (.int .i64 (n:Int)) (.int .i64 (n:Int))=some (fun b=>.slc b 0 n (.ex n),.cells (qbu (List.replicate n 0))):=by
 have h1:idx (n:Int) 17592186044416=some n:=qc0 (by omega)
 have h2:idx (n:Int) (Nat.succ n)=some n:=qc0 (by omega)
 have h3:qct n 8=true:=by simp [qct];omega
 have hz:qbt Tryz.prog 3=some (.int .i64 0):=zeT3
 have hs:qc7 Tryz.prog 3=some 1:=szT3
 have hb:qce Tryz.prog 3=some 8:=byT3
 simp only [msB,Tryz.underlying29,Option.bind_some,hs,hb,h1,h2,h3,hz]
 simp [AV.cells,qst]
theorem qn1 {σ:List (Nat × Nat)} {Φ:List (Nat × List AV)} {b n:Nat} {cap:Cap} {L:List Int} (h:qc1 b Φ=some (qbu L)) (hn:n=L.length):qay σ Φ (.slc b 0 n cap) (qbs L):=by
 subst hn
 simp only [qbs,qay]
 refine .inl ⟨qbu L,h,?_,by simp,(qfk L).size⟩
 have:=zar (qfk L) (k:=L.length) (by simp)
 rw [qe4,List.take_of_length_le (by simp)] at this
 exact this
theorem vis_ne1 {n:Nat} {ks:Nat→List Int} (f i:Nat) (w:Wk):(vis n ks (f+1) i w).l≠[]:=by
 have hk:∀ (r:List Int) (w:Wk),w.l≠[]→(kl n (vis n ks f) r w).l≠[]:=by
  intro r
  induction r with
  | nil=>intro w h;exact h
  | cons k r ih=>
   intro w h
   unfold kl
   split
   ·exact ih _ (zaj f _ _ h)
   ·exact ih _ h
 exact hk (ks i) (into i w) (by simp [into])
def hA (t:Tr) (I O:List Int):Heap:=⟨3,[[(2,.cells (qbu O)),(1,.cells (qbu I)),(0,.cells [qa5 t])]]⟩
theorem fit_A {t:Tr} {I O:List Int} {m a b:Nat} {f:List (Nat × Blk)} (ha:getF a f=some (.cells (qbu O))) (hb:getF b f=some (.cells (qbu I))) (h0:getF 0 f=some (.cells [qa5 t])) (hab:a≠b) (ha0:a≠0) (hb0:b≠0) :
  FitH 0 [(a,2),(b,1),(0,0)] [] ⟨m,[f]⟩ (hA t I O):=by
 refine .rows (by simp [hab,ha0,hb0]) (by simp) (by simp [hA,Heap.ents]) (by simp [hA]) (by simp) (by simp [hA]) ?_
 intro e he
 simp [hA,Heap.ents] at he
 rcases he with rfl | rfl | rfl
 ·exact ⟨a,_,by simp,by simp [Heap.get,getFs,ha],rfl,qbe _⟩
 ·exact ⟨b,_,by simp,by simp [Heap.get,getFs,hb],rfl,qbe _⟩
 ·exact ⟨0,_,by simp,by simp [Heap.get,getFs,h0],rfl,by simp [qac]⟩
theorem call_all {t:Tr} {f:FuncId} {C:Ctx} {n:Nat} {I O L' I' O':List Int} {c c':Int} (hne':L'≠[])
  (h:CallAt C f [qam t,.int .i64 0,lA 2 [],.slc 0 0 n (.ex n),.slc 1 0 n (.ex n),.int .i64 c] (hW [] I O) (.tup [lA 3 L',.int .i64 c']) (hW' L' I' O')) :
  CallAt C f [qam t,.int .i64 0,.nilS,.slc 1 0 n (.ex n),.slc 2 0 n (.ex n),.int .i64 c] (hA t I O) (.tup [.slc 3 0 L'.length (.rest 1),.int .i64 c'])
   ⟨4,[[(3,.cells (qbu L')),(2,.cells (qbu O')),(1,.cells (qbu I')),(0,.cells [qa5 t])]]⟩:=by
 have hf:FitH 0 [(1,0),(2,1)] [] (hA t I O) (hW [] I O):=by
  refine .rows (by simp) (by simp) (by simp [hW,lF,qgh,Heap.ents]) (by simp [hW]) (by simp) (by simp [hW]) ?_
  intro e he
  simp [hW,lF,qgh,Heap.ents] at he
  rcases he with rfl | rfl
  ·exact ⟨1,_,by simp,by simp [hA,Heap.get,getFs,getF],rfl,qbe _⟩
  ·exact ⟨2,_,by simp,by simp [hA,Heap.get,getFs,getF],rfl,qbe _⟩
 have:=h.framed (H:=hA t I O) (H':=⟨4,[[(3,.cells (qbu L')),(2,.cells (qbu O')),(1,.cells (qbu I')),(0,.cells [qa5 t])]]⟩) (σ:=[(1,0),(2,1)])
  (args:=[qam t,.int .i64 0,.nilS,.slc 1 0 n (.ex n),.slc 2 0 n (.ex n),.int .i64 c]) hf ?_ ?_ (by simp [hW,hW'])
 ·simpa [qto hne',qk9,qhy,qfs,qdk,hA,hW] using this
 ·simp [lA,qjv,qb6,qay,qb2,qbb,qaf]
 ·refine ⟨by simp [hA,hW,hW'],by simp [Heap.ents],?_⟩
  intro e he
  have hI:qhy (qfs [(1,0),(2,1)] 3 3) (qbu I')=qbu I':=qcr _ (qbe _)
  have hO:qhy (qfs [(1,0),(2,1)] 3 3) (qbu O')=qbu O':=qcr _ (qbe _)
  have hL':qhy (qfs [(1,0),(2,1)] 3 3) (qbu L')=qbu L':=qcr _ (qbe _)
  simp [Heap.ents] at he
  rcases he with rfl | rfl | rfl | rfl
  ·exact .inl ⟨(3,.cells (qbu L')),by simp [hW',qie hne',Heap.ents],by simp [hA,hW,qpw,hL'];simp [qfs,qdk]⟩
  ·exact .inl ⟨(1,.cells (qbu O')),by simp [hW',qie hne',Heap.ents],by simp [hA,hW,qpw,hO];simp [qfs,qdk]⟩
  ·exact .inl ⟨(0,.cells (qbu I')),by simp [hW',qie hne',Heap.ents],by simp [hA,hW,qpw,hI];simp [qfs,qdk]⟩
  ·exact .inr ⟨by simp [hA,Heap.ents],by simp⟩
def finW (n:Nat) (ks:Nat→List Int):Wk:=if n=0 then w0 0 else vis n ks n 0 (w0 n)
theorem c125 {T:List (Entry Tryz.prog)} (t:Tr) (hn:t.length≤1000) (hkd:∀ x,x∈t→x.kids.length≤1000) :
  CallAt (ctx T) 125 [qam t] ⟨0,[]⟩ (.tup [qbs (qav t.length (qaq t)),qbs (finW t.length (qaq t)).inn,qbs (finW t.length (qaq t)).out]) ⟨0,[]⟩:=by
 refine qa3 (fn:=Tryz.f125) (s0:=⟨[0,1,2,3,4,5,6,7,8],[qam t,.undef,.undef,.undef,.undef,.undef,.undef,.undef,.undef],[],42,⟨0,[[]]⟩⟩) Tryz.func125 rfl rfl rfl ?_
 repeat apply wq
 refine qa0 qa1 ?_
 simp [zS,qam]
 repeat apply wq
 refine qcm qci qa1 (by decide +kernel) fun B_ hB_=>?_
 simp [zS,qdg,qbz,qje,qg9,qby,qbr,qaw,qch,qcp,qdz,qcb,Heap.lay,qdp,qb4,qb3,qfu,msInt (show t.length≤1000000 by omega)]
 repeat apply wq
 refine qa0 qa1 ?_
 simp [zS]
 refine qa9 (qax (fun x:Nat × List Int × List Int=>(⟨[0,1,2,3,4,5,6,7,8],[qam t,.ptr 0 0,.undef,.undef,.undef,.slc 1 0 t.length (.ex t.length),.slc 2 0 t.length (.ex t.length),.int .i64 x.1,.undef],[],42,hA t x.2.1 x.2.2⟩ : St))
  (fun x=>x.1≤t.length∧x.2.1.length=t.length∧x.2.2.length=t.length∧x.2.1.take x.1=List.replicate x.1 (-1)∧x.2.2.take x.1=List.replicate x.1 (-1)) (fun x=>t.length - x.1) [(8,2),(4,1),(0,0)] [] (0,List.replicate t.length 0,List.replicate t.length 0)
  ⟨Nat.zero_le _,by simp,by simp,by simp,by simp⟩
  ⟨rfl,rfl,rfl,by simp [qb6,qay,qb2,qaf,qam,qac],fit_A (by simp [getF]) (by simp [getF]) (by simp [getF]) (by omega) (by omega) (by omega)⟩ ?_)
 rintro ⟨i,I,O⟩ ⟨hi,hI,hO,hti,hto⟩ B hB
 simp only at hi hI hO hti hto
 repeat apply wq
 refine qa0 qa1 ?_
 simp [zS,hA,qe3]
 refine qau rfl (fun h=>?_) fun h=>?_
 ·simp at h
  refine qa7 ?_
  simp
  repeat apply wq
  refine qa9 ?_
  have l1:=lay1 (L:=I) (i:=i) (v:=-1) (by omega)
  have l2:=lay1 (L:=O) (i:=i) (v:=-1) (by omega)
  refine qa0 qa1 ?_
  simp [zS,ixI h,l1,l2]
  refine qa0 qa1 ?_
  simp [zS,qba (show i≤1000000000 by omega)]
  refine hB _ (i+1,I.set i (-1),O.set i (-1)) (by simp;omega) ⟨by simp;omega,by simp [hI],by simp [hO],?_,?_⟩ ⟨[(2,2),(1,1),(0,0)],[],rfl,rfl,rfl,by simp [qb6,qay,qb2,qaf,qam,qac],fit_A (by simp [getF]) (by simp [getF]) (by simp [getF]) (by omega) (by omega) (by omega)⟩
  ·simp only
   rw [List.take_succ_eq_append_getElem (by simp;omega),List.take_set_of_le (Nat.le_refl _),hti,List.replicate_succ'];simp
  ·simp only
   rw [List.take_succ_eq_append_getElem (by simp;omega),List.take_set_of_le (Nat.le_refl _),hto,List.replicate_succ'];simp
 ·simp at h
  have hin:i=t.length:=by omega
  subst hin
  rw [List.take_of_length_le (by omega)] at hti hto
  subst hti hto
  refine qat ?_
  simp
  repeat apply wq
  refine qa0 qa1 ?_
  simp [zS]
  by_cases hz:t.length=0
  ·have ht:t=[]:=List.length_eq_zero_iff.1 hz
   subst ht
   repeat apply wq
   refine qa0 qa1 ?_
   simp [zS,qe3]
   refine qal rfl ?_
   refine qa7 ?_
   simp
   repeat apply wq
   refine qa0 qa1 ?_
   simp [zS]
   refine qa8 ?_
   simp [qab,Tryz.f125,oneOr]
   exact ⟨[],[],by simp [qay,qb6,qbs,qav,finW,w0],FitH.empty⟩
  ·have hpos:0 < t.length:=by omega
   have hr:qgk (w0 t.length).inn≤t.length:=by simp [w0,qgj]
   have hw:=c156 (T:=T) t hn hkd t.length 0 (w0 t.length) (qyn _) (by omega) (by simp [w0,List.getD_eq_getElem?_getD,Nat.pos_of_ne_zero hz]) hr
   obtain ⟨m,hm⟩ : ∃ m,t.length=m+1:=⟨t.length - 1,by omega⟩
   have hny:(vis t.length (qaq t) t.length 0 (w0 t.length)).l≠[]:=by
    have:=vis_ne1 (n:=t.length) (ks:=qaq t) m 0 (w0 t.length)
    rw [← hm] at this;exact this
   have hvo:qav t.length (qaq t)=(vis t.length (qaq t) t.length 0 (w0 t.length)).l:=by simp [qav,hz]
   have hfo:finW t.length (qaq t)=vis t.length (qaq t) t.length 0 (w0 t.length):=by simp [finW,hz]
   obtain ⟨y1,y2⟩:=qpm (ks:=qaq t) t.length 0 0 (w0 t.length) (by omega) (qyn _) (by omega) (by simp [w0,List.getD_eq_getElem?_getD,Nat.pos_of_ne_zero hz]) hr
   rw [hvo,hfo]
   obtain ⟨y,hy⟩ : ∃ y,y=vis t.length (qaq t) t.length 0 (w0 t.length):=⟨_,rfl⟩
   rw [← hy] at hw hny y1 ⊢
   have hcall:=call_all (t:=t) hny hw
   simp only [w0] at hcall
   repeat apply wq
   refine qa0 qa1 ?_
   simp [zS,qe3,hpos]
   refine qai rfl ?_
   refine qa0 (qca [⟨156,_,_,_,_,hcall⟩]) ?_
   simp [zS,qdb,hA,qam]
   repeat apply wq
   refine qa0 qa1 ?_
   simp [zS]
   refine qa8 ?_
   simp [qab,Tryz.f125,oneOr]
   refine ⟨[],[(3,qbu y.l),(1,qbu y.inn),(2,qbu y.out)],?_,.froze (by simp) fun x hx=>?_⟩
   ·simp only [qay,qb6]
    exact .inl ⟨qn1 (σ:=[]) (cap:=.rest 1) (by simp [qc1]) rfl,qn1 (σ:=[]) (cap:=.ex t.length) (by simp [qc1]) y1.1.li.symm,qn1 (σ:=[]) (cap:=.ex t.length) (by simp [qc1]) y1.1.lo.symm,trivial⟩
   ·simp at hx
    rcases hx with rfl | rfl | rfl
    ·exact ⟨_,by simp [Heap.get,getFs,getF],qak (qbe _),qbe _⟩
    ·exact ⟨_,by simp [Heap.get,getFs,getF],qak (qbe _),qbe _⟩
    ·exact ⟨_,by simp [Heap.get,getFs,getF],qak (qbe _),qbe _⟩
def qmj (t:Tr):Prop:=t.length≤1000∧∀ x,x∈t→x.kids.length≤1000∧x.attrs.length≤1000
def qf2 (t:Tr):Prop:=t.length≤50∧qmj t
noncomputable def e125:Entry Tryz.prog:=mkE 125 [[]] (fun t:Tr=>[qam t]) qmj (fun t=>.tup [qbs (qav t.length (qaq t)),qbs (finW t.length (qaq t)).inn,qbs (finW t.length (qaq t)).out]) fun t ht=>c125 (T:=[]) t ht.1 fun x hx=>(ht.2 x hx).1
@[simp] theorem ok_aTree (t:Tr):okV (qam t)=true:=by simp [qam,qa5,okV,qaf,qac]
theorem qgd (H:Heap) (t:Tr):qej H [] (qam t)=some (qam t):=qar (by simp)
theorem injT (x y:Tr) (h:[qam x]=[qam y]):x=y:=by simp at h;exact qde h
theorem k125 {T:List (Entry Tryz.prog)} (hT:qag 125 T=some e125.g) {t:Tr} (ht:qmj t) (H:Heap):qb9 (ctx T) (.fn 125) [qam t] H=some (.tup [qbs (qav t.length (qaq t)),qbs (finW t.length (qaq t)).inn,qbs (finW t.length (qaq t)).out],H):=
 qdd hT injT t ht (by simp [qac]) (by simp [qfx,qgd]) H
theorem sub_one {q:Nat} (h:q≤1000000000):wr .i64 (((q+1:Nat):Int) - 1)=some (q:Int):=by
 rw [qc6 (by omega) (by omega)];simp
structure FactY (C:Ctx) where
 b:Nat
 args:List AV
 H:Heap
 v:AV
 H':Heap
 ok:qe5 C b args H v H'
open Classical in
noncomputable def qw5 {C:Ctx}:List (FactY C)→qbv→qbv
 | [],call,c,args,H=>call c args H
 | x::r,call,c,args,H=>if c=.yl x.b∧args=x.args∧H=x.H then some (x.v,x.H') else qw5 r call c args H
theorem qrz {C:Ctx} {call:qbv} (hc:CallOK C call):∀ (l:List (FactY C)),CallOK C (qw5 l call)
 | []=>hc
 | x::r=>{
  fn:=fun f args H v H' h=>by
   unfold qw5 at h
   split at h
   ·rename_i hx
    cases hx.1
   ·exact (qrz hc r).fn f args H v H' h
  yl:=fun b args H v H' h=>by
   unfold qw5 at h
   split at h
   ·rename_i hx
    obtain ⟨hf,rfl,rfl⟩:=hx
    simp only [sj,Prod.mk.injEq] at h
    obtain ⟨rfl,rfl⟩:=h
    cases hf
    exact x.ok
   ·exact (qrz hc r).yl b args H v H' h }
theorem qw7 {T:List (Entry Tryz.prog)} (l:List (FactY (ctx T))):CallOK (ctx T) (qw5 l (qb9 (ctx T))):=qrz qa1 l
def frs:List (Nat × Nat)→List AV
 | []=>[]
 | p::r=>.int .i64 (p.1:Int)::.int .i64 (p.2:Int)::frs r
theorem qmu:∀ (l:List (Nat × Nat)),qac (frs l)=true
 | []=>rfl
 | p::r=>by simp only [frs,qac,qaf,qmu r];rfl
theorem qjy:∀ (l:List (Nat × Nat)),(frs l).length=l.length * 2
 | []=>rfl
 | p::r=>by simp only [frs,List.length_cons,qjy r];omega
theorem zcv:∀ (l m:List (Nat × Nat)),frs (l++m)=frs l++frs m
 | [],m=>rfl
 | p::r,m=>by simp only [List.cons_append,frs,zcv r m]
theorem two_s (n:Nat):(n+1) * 2=Nat.succ (Nat.succ (n * 2)):=by omega
theorem qy4 {i j:Nat} {G:List (Nat × Nat)}:∀ (pre:List (Nat × Nat)),qcl (frs (pre++(i,j)::G)) (pre.length * 2)=some (.int .i64 (i:Int))
 | []=>rfl
 | p::r=>by
  rw [List.length_cons,two_s]
  exact qy4 r
theorem qy3 {i j:Nat} {G:List (Nat × Nat)}:∀ (pre:List (Nat × Nat)),qcl (frs (pre++(i,j)::G)) (pre.length * 2+1)=some (.int .i64 (j:Int))
 | []=>rfl
 | p::r=>by
  rw [List.length_cons,two_s]
  exact qy3 r
theorem layFr {i j v:Nat} {G:List (Nat × Nat)}:∀ (pre:List (Nat × Nat)),qj5 [.int .i64 (v:Int)] (pre.length * 2+1) (frs (pre++(i,j)::G))=some (frs (pre++(i,v)::G))
 | []=>rfl
 | p::r=>by
  have h:=layFr (i:=i) (j:=j) (v:=v) (G:=G) r
  rw [List.length_cons,two_s]
  show ((qj5 _ (r.length * 2+1) (frs (r++(i,j)::G))).bind fun r'=>some (_::r')).bind (fun r'=>some (_::r'))=_
  rw [h];rfl
theorem layApp {k:Nat} {g:Nat × Nat} {G:List (Nat × Nat)}:∀ (l:List (Nat × Nat)),qj5 [.int .i64 (k:Int),.int .i64 0] (l.length * 2) (frs (l++g::G))=some (frs (l++(k,0)::G))
 | []=>rfl
 | p::r=>by
  have h:=layApp (k:=k) (g:=g) (G:=G) r
  rw [List.length_cons,two_s]
  show ((qj5 _ (r.length * 2) (frs (r++g::G))).bind fun r'=>some (_::r')).bind (fun r'=>some (_::r'))=_
  rw [h];rfl
theorem subFr (l:List (Nat × Nat)):qeu 0 (l.length * 2) (frs l)=some (frs l):=by
 show qed _ _=_
 rw [List.drop_zero,qfy (by rw [qjy];exact Nat.le_refl _),← qjy l,List.take_length]
def bls (s:List Bool):List AV:=s.map AV.bool
theorem qfa (s:List Bool):qac (bls s)=true:=by
 unfold bls
 induction s with
 | nil=>rfl
 | cons x r ih=>simp only [List.map_cons,qac,qaf,ih];rfl
theorem getB {s:List Bool} {i:Nat} (h:i < s.length):qcl (bls s) i=some (.bool s[i]):=by simp [bls,qgo h]
theorem layB:∀ {s:List Bool} {i:Nat},i < s.length→qj5 [.bool true] i (bls s)=some (bls (s.set i true))
 | [],i,h=>absurd h (Nat.not_lt_zero i)
 | x::r,0,h=>rfl
 | x::r,i+1,h=>by
  show ((qj5 _ i (bls r)).bind fun r'=>some (_::r'))=_
  rw [layB (s:=r) (by simpa using h)];rfl
theorem qx4:∀ (n:Nat),replL [.bool false] n=bls (List.replicate n false)
 | 0=>rfl
 | n+1=>by simp only [replL,qx4 n,List.replicate_succ,bls,List.map_cons];rfl
theorem msBool {n:Nat} (h:n≤1000000):msB Tryz.prog 51 (.int .i64 (n:Int)) (.int .i64 (n:Int))=some (fun b=>.slc b 0 n (.ex n),.cells (bls (List.replicate n false))):=by
 have h1:idx (n:Int) 17592186044416=some n:=qc0 (by omega)
 have h2:idx (n:Int) (Nat.succ n)=some n:=qc0 (by omega)
 have hz:qbt Tryz.prog 4=some (.bool false):=zeT4
 have hs:qc7 Tryz.prog 4=some 1:=szT4
 have hb:qce Tryz.prog 4=some 1:=byT4
 have h3:qct n 1=true:=by simp [qct];omega
 simp only [msB,Tryz.underlying51,Option.bind_some,hs,hb,h1,h2,h3,hz]
 simp [AV.cells,qx4]
theorem ixB {b n i:Nat} {cap:Cap} (h:i < n):qb1 Tryz.prog 51 (.slc b 0 n cap) (.int .i64 (i:Int))=some (.ptr b i):=by simp [qb1,qc0 h]
theorem ixF {b n i:Nat} {cap:Cap} (h:i < n):qb1 Tryz.prog 106 (.slc b 0 n cap) (.int .i64 (i:Int))=some (.ptr b (i * 2)):=by simp [qb1,qc0 h]
def cnt:Nat→Nat
 | 0=>4607182418800017408
 | n+1=>((FloatKind.f64.format.add (cnt n) 4607182418800017408).getD 0)
def cntOK:Nat→Nat→Nat→Bool
 | 0,_,_=>true
 | n+1,k,c=>match FloatKind.f64.format.add c 4607182418800017408 with
  | some r=>cntOK n (k+1) r
  | none=>false
theorem qqi:∀ (n k c:Nat),c=cnt k→cntOK n k c=true→∀ i,k≤i→i < k+n→FloatKind.f64.format.add (cnt i) 4607182418800017408=some (cnt (i+1))
 | 0,k,c,_,_,i,h1,h2=>by omega
 | n+1,k,c,hc,h,i,h1,h2=>by
  unfold cntOK at h
  cases hr:FloatKind.f64.format.add c 4607182418800017408 with
  | none=>rw [hr] at h;cases h
  | some r=>
   rw [hr] at h
   have hk:cnt (k+1)=r:=by show Option.getD _ 0=r;rw [← hc,hr];rfl
   by_cases hi:i=k
   ·subst hi;rw [← hc,hr,hk]
   ·exact qqi n (k+1) r hk.symm h i (by omega) (by omega)
theorem cnt_add {i:Nat} (h:i < 120):FloatKind.f64.format.add (cnt i) 4607182418800017408=some (cnt (i+1)):=
 qqi 120 0 _ rfl (by decide +kernel) i (Nat.zero_le _) (by omega)
def qjp (node up:Int) (c:Nat) (left:Bool):AV:=.agg [.int .i64 node,.int .i64 up,.float .f64 c,.bool left]
def hR (t:Tr) (LB:Blk) (m k:Nat) (f:List (Nat × Blk)) (L:List Int):Heap:=⟨m,[f,[(k,.cells (qbu L)),(2,LB),(1,.cells [.slc k 0 L.length (.rest 1)]),(0,.cells [qa5 t])]]⟩
def h0R (t:Tr) (LB:Blk):Heap:=⟨3,[[],[(2,LB),(1,.cells [.nilS]),(0,.cells [qa5 t])]]⟩
def fR (P:List (Nat × Nat)) (s:List Bool):List (Nat × Blk):=[(6,.cells (frs P)),(5,.cells (bls s))]
structure Rounds (T:List (Entry Tryz.prog)) (t:Tr) (LB:Blk):Prop where
 fit:∀ σ,qb2 0 σ=some 0→qb2 1 σ=some 1→qi0 σ [] LB LB
 first:qe5 (ctx T) 2 [qjp 0 (-1) 0 false] (h0R t LB) (.bool true) ⟨4,[[],[(3,.cells (qbu [0])),(2,LB),(1,.cells [.slc 3 0 1 (.rest 1)]),(0,.cells [qa5 t])]]⟩
 leave:∀ (m:Nat) (_:m=17) (P:List (Nat × Nat)) (s:List Bool) (L:List Int) (node up:Int) (c:Nat),L.length≤1000000→qe5 (ctx T) 2 [qjp node up c true] (hR t LB m 4 (fR P s) L) (.bool true) (hR t LB m 4 (fR P s) L)
 enter:∀ (m:Nat) (_:m=30) (P:List (Nat × Nat)) (s:List Bool) (L:List Int) (node up:Int) (c:Nat),L.length≤1000000→L≠[]→qe5 (ctx T) 2 [qjp node up c false] (hR t LB m 4 (fR P s) L) (.bool true) (hR t LB (m+1) m (fR P s) (L++[node]))
theorem qu6 {t:Tr} {LB:Blk} (hLB:∀ σ,qb2 0 σ=some 0→qb2 1 σ=some 1→qi0 σ [] LB LB) {m a b k:Nat} {f:List (Nat × Blk)} {P:List (Nat × Nat)} {s:List Bool} {L:List Int}
  (ha:getF a f=some (.cells (frs P))) (hb:getF b f=some (.cells (bls s))) (hk:getF k f=none) (h0:getF 0 f=none) (h1:getF 1 f=none) (h2:getF 2 f=none)
  (a3:2 < a) (b3:2 < b) (k3:2 < k) (hab:a≠b) (hak:a≠k) (hbk:b≠k) :
  FitH 3 [(a,6),(b,5),(k,4),(2,2),(1,1),(0,0)] [] (hR t LB m k f L) (hR t LB 7 4 (fR P s) L) where
 nd1:=by simp;omega
 nd2:=by simp
 nd3:=by simp [hR,fR,Heap.ents]
 lt:=by simp [hR]
 idn:=by simp <;> omega
 num:=by simp [hR]
 src:=by
  intro e he
  simp [hR,fR,Heap.ents] at he
  rcases he with rfl | rfl | rfl | rfl | rfl | rfl
  ·exact ⟨a,.cells (frs P),by simp,by simp [hR,Heap.get,getFs,ha],qak (qmu _)⟩
  ·exact ⟨b,.cells (bls s),by simp,by simp [hR,Heap.get,getFs,hb],qak (qfa _)⟩
  ·exact ⟨k,.cells (qbu L),by simp,by simp [hR,Heap.get,getFs,hk,getF],qak (qbe _)⟩
  ·refine ⟨2,LB,by simp,?_,hLB _ ?_ ?_⟩
   ·have:Nat.beq k 2=false:=qbg (by omega)
    simp [hR,Heap.get,getFs,h2,getF,this]
   ·have e1:¬ a=0:=by omega
    have e2:¬ b=0:=by omega
    have e3:¬ k=0:=by omega
    simp [qb2,e1,e2,e3]
   ·have e1:¬ a=1:=by omega
    have e2:¬ b=1:=by omega
    have e3:¬ k=1:=by omega
    simp [qb2,e1,e2,e3]
  ·refine ⟨1,.cells [.slc k 0 L.length (.rest 1)],by simp,?_,?_⟩
   ·have:Nat.beq k 1=false:=qbg (by omega)
    simp [hR,Heap.get,getFs,h1,getF,this]
   ·simp [qi0,qb6,qay,qb2,hak,hbk]
  ·refine ⟨0,.cells [qa5 t],by simp,?_,qak (by simp [qac])⟩
   have:Nat.beq k 0=false:=qbg (by omega)
   simp [hR,Heap.get,getFs,h0,getF,this]
 frz:=fun x h=>by cases h
theorem fit_end {t:Tr} {LB:Blk} (hLB:∀ σ,qb2 0 σ=some 0→qb2 1 σ=some 1→qi0 σ [] LB LB) {m:Nat} {f:List (Nat × Blk)} {L:List Int} (h4:getF 4 f=none) (h0:getF 0 f=none) (h1:getF 1 f=none) (h2:getF 2 f=none) :
  FitH 3 [(4,3),(2,2),(1,1),(0,0)] [] (hR t LB m 4 f L) ⟨4,[[(3,.cells (qbu L)),(2,LB),(1,.cells [.slc 3 0 L.length (.rest 1)]),(0,.cells [qa5 t])]]⟩ where
 nd1:=by simp
 nd2:=by simp
 nd3:=by simp [Heap.ents]
 lt:=by simp
 idn:=by simp
 num:=by simp
 src:=by
  intro e he
  simp [Heap.ents] at he
  rcases he with rfl | rfl | rfl | rfl
  ·exact ⟨4,.cells (qbu L),by simp,by simp [hR,Heap.get,getFs,h4,getF],qak (qbe _)⟩
  ·exact ⟨2,LB,by simp,by simp [hR,Heap.get,getFs,h2,getF],hLB _ (by simp [qb2]) (by simp [qb2])⟩
  ·exact ⟨1,.cells [.slc 4 0 L.length (.rest 1)],by simp,by simp [hR,Heap.get,getFs,h1,getF],by simp [qi0,qb6,qay,qb2]⟩
  ·exact ⟨0,.cells [qa5 t],by simp,by simp [hR,Heap.get,getFs,h0,getF],qak (by simp [qac])⟩
 frz:=fun x h=>by cases h
structure Ls where
 P:List (Nat × Nat)
 G:List (Nat × Nat)
 cap:Cap
 s:List Bool
 a:List Int
 c:Nat
def qhx (s:List Bool):Nat:=s.countP fun x=>!x
def sm:List (Nat × Nat)→Nat
 | []=>0
 | p::r=>(1001 - p.2)+sm r
theorem qpr:∀ (l m:List (Nat × Nat)),sm (l++m)=sm l+sm m
 | [],m=>by simp [sm]
 | p::r,m=>by simp only [List.cons_append,sm,qpr r m];omega
def cap1 (x:Ls):Prop:=x.cap=.rest 2∨(x.cap=.ex 1∧x.P.length+x.G.length=1)
structure Lok (t:Tr) (x:Ls):Prop where
 cap:cap1 x
 s:x.s.length=t.length
 a:x.a≠[]
 r:Reach t.length (qaq t) ([(0,0)],(List.replicate t.length false).set 0 true,[0]) (x.P.reverse,x.s,x.a)
 p:∀ e,e∈x.P→e.1 < t.length∧e.2≤1000
 pu:x.P.length+qhx x.s≤t.length
 au:x.a.length+qhx x.s≤t.length
 cu:x.c+2 * qhx x.s+x.P.length≤2 * t.length
theorem bS1 {x:Int}:qff Tryz.prog 78 [(1,.int .i64 x)]=some (.agg [.int .i64 0,.int .i64 x,.float .f64 0,.bool false]):=by kernel_rfl
theorem bS2 {x:Int} {c:Nat} {b:Bool}:qff Tryz.prog 78 [(0,.int .i64 x),(2,.float .f64 c),(3,.bool b)]=some (.agg [.int .i64 x,.int .i64 0,.float .f64 c,.bool b]):=by kernel_rfl
theorem bS3 {x u:Int} {c:Nat}:qff Tryz.prog 78 [(0,.int .i64 x),(1,.int .i64 u),(2,.float .f64 c)]=some (.agg [.int .i64 x,.int .i64 u,.float .f64 c,.bool false]):=by kernel_rfl
theorem bF0:qff Tryz.prog 105 []=some (.agg [.int .i64 0,.int .i64 0]):=by kernel_rfl
theorem bF1 {x:Int}:qff Tryz.prog 105 [(0,.int .i64 x)]=some (.agg [.int .i64 x,.int .i64 0]):=by kernel_rfl
theorem qov {C:Ctx} {b:Nat} {args:List AV} {H H':Heap} {v:AV} {ok:qe5 C b args H v H'} {r:List (FactY C)} {call:qbv}:qw5 (⟨b,args,H,v,H',ok⟩::r) call (.yl b) args H=some (v,H'):=by simp [qw5]
theorem qlf:∀ {s:List Bool} {i:Nat},i < s.length→s.getD i true=false→qhx (s.set i true)+1=qhx s
 | [],i,h,_=>absurd h (Nat.not_lt_zero i)
 | x::r,0,h,hx=>by
  have hx':x=false:=by simpa using hx
  subst hx'
  simp [qhx,List.countP_cons]
 | x::r,i+1,h,hx=>by
  have:=qlf (s:=r) (i:=i) (by simpa using h) (by simpa using hx)
  simp only [qhx,List.set_cons_succ,List.countP_cons] at this ⊢
  omega
theorem qyo (n:Nat):qhx (List.replicate n false)=n:=by simp [qhx,List.countP_replicate]
theorem mkBool {H:Heap} {n:Nat} (h:n≤1000000):qf6 Tryz.prog H 51 (.int .i64 (n:Int)) (.int .i64 (n:Int))=some (.slc H.n 0 n (.ex n),H.new (.cells (bls (List.replicate n false)))):=by
 unfold qf6
 rw [msBool h];rfl
theorem slPath {H:Heap} {cs:List AV} {q kn:Nat} {cap:Cap} (hb:H.get 6=some (.cells cs)) (hl:cs.length=kn * 2) (hq:q+1≤kn) (hc:cap=.rest 2∨(cap=.ex 1∧kn=1)) :
  qdy Tryz.prog H 106 (.slc 6 0 (q+1) cap) none (some (.int .i64 (q:Int))) none=some (.slc 6 0 q cap):=by
 have hs:qc7 Tryz.prog 105=some 2:=qwp
 have hk:qck H 6=some (kn * 2):=by simp [qck,hb,Blk.rd,hl]
 simp only [qdy,qzp,Tryz.underlying106,Option.bind_some,hs]
 have e2:kn * 2 / 2=kn:=by omega
 rcases hc with rfl | ⟨rfl,rfl⟩
 ·have hi1:idx (q:Int) (Nat.succ kn)=some q:=qc0 (by omega)
  have hn:Nat.ble (kn * 2) 0=false:=by cases kn with
   | zero=>omega
   | succ m=>rfl
  simp only [qhi,hk,Option.bind_some,qcv,Nat.beq_refl,Nat.sub_zero,e2,hi1,Nat.zero_mul,hn,Nat.add_zero]
 ·have hq0:q=0:=by omega
  subst hq0
  simp only [qhi,hk,Option.bind_some]
  rfl
def hP (n:Nat) (f0:List (Nat × Blk)) (m:Int) (s:List Bool) (R:List AV) (top:List (Nat × Blk)):Heap:=⟨n,[top++((31,.cells [.int .i64 m,.int .i64 0])::((6,.cells R)::[(5,.cells (bls s))])),f0]⟩
theorem app0 {n:Nat} (h:n≤1000):qct (n+1) 16=true:=by simp [qct];omega
theorem appP1 {l G:List (Nat × Nat)} {g:Nat × Nat} {m:Nat} {s:List Bool} {f0:List (Nat × Blk)} (hl:l.length≤1000) :
  qc2 Tryz.prog ⟨32,[[(31,.cells [.int .i64 (m:Int),.int .i64 0]),(6,.cells (frs (l++g::G))),(5,.cells (bls s))],f0]⟩ 105 (.slc 6 0 l.length (.rest 2)) (.slc 31 0 1 (.ex 1)) =
   some (.slc 6 0 (l.length+1) (.rest 2),⟨32,[[(31,.cells [.int .i64 (m:Int),.int .i64 0]),(6,.cells (frs (l++(m,0)::G))),(5,.cells (bls s))],f0]⟩):=by
 have hs:qc7 Tryz.prog 105=some 2:=qwp
 have hb:qce Tryz.prog 105=some 16:=ze1
 have hz:qbt Tryz.prog 105=some (.agg [.int .i64 0,.int .i64 0]):=zaa
 have hble:Nat.ble (0+(l.length+1) * 2) (frs (l++g::G)).length=true:=by rw [qjy];simp;omega
 have hlay:=layApp (k:=m) (g:=g) (G:=G) l
 simp only [qc2,hs,hb,hz,Option.bind_some]
 simp [qcc,qbi,readCells,Heap.get,getFs,getF,Blk.rd,qeu,qed,AV.cells,app0 hl,allSingle,AV.single,qck]
 rw [show (Nat.ble ((l.length+1) * 2) (frs (l++g::G)).length)=true by simpa using hble]
 simp [writeCells,Heap.get,getFs,getF,Blk.wt,hlay,Heap.ready,refs,Heap.set,setFs,setF,Blk.re]
 rfl
theorem appP2 {l:List (Nat × Nat)} {m:Nat} {s:List Bool} {f0:List (Nat × Blk)} (hl:l.length≤1000) :
  qc2 Tryz.prog ⟨32,[[(31,.cells [.int .i64 (m:Int),.int .i64 0]),(6,.cells (frs l)),(5,.cells (bls s))],f0]⟩ 105 (.slc 6 0 l.length (.rest 2)) (.slc 31 0 1 (.ex 1)) =
   some (.slc 32 0 (l.length+1) (.rest 2),⟨33,[[(32,.cells (frs (l++[(m,0)]))),(31,.cells [.int .i64 (m:Int),.int .i64 0]),(5,.cells (bls s))],f0]⟩):=by
 have hs:qc7 Tryz.prog 105=some 2:=qwp
 have hb:qce Tryz.prog 105=some 16:=ze1
 have hz:qbt Tryz.prog 105=some (.agg [.int .i64 0,.int .i64 0]):=zaa
 have hble:Nat.ble ((l.length+1) * 2) (frs l).length=false:=by
  rw [qjy]
  cases h:Nat.ble ((l.length+1) * 2) (l.length * 2) with
  | false=>rfl
  | true=>have:=Nat.le_of_ble_eq_true h;omega
 have hbeq:Nat.beq (l.length * 2) (frs l).length=true:=by rw [qjy];exact Nat.beq_refl _
 have hsub:qed (l.length * 2) (frs l)=some (frs l):=by have:=subFr l;simpa [qeu] using this
 simp only [qc2,hs,hb,hz,Option.bind_some]
 simp [qcc,qbi,readCells,Heap.get,getFs,getF,Blk.rd,qeu,qed,AV.cells,app0 hl,allSingle,AV.single,qck]
 rw [hble]
 simp [hbeq,hsub,goOn,Heap.drop,qea,killF,getF,Heap.new,pushF,zcv,frs]
 rfl
theorem appP3 {l:List (Nat × Nat)} {m:Nat} {s:List Bool} {f0:List (Nat × Blk)} (hl:l.length=1) :
  qc2 Tryz.prog ⟨32,[[(31,.cells [.int .i64 (m:Int),.int .i64 0]),(6,.cells (frs l)),(5,.cells (bls s))],f0]⟩ 105 (.slc 6 0 l.length (.ex 1)) (.slc 31 0 1 (.ex 1)) =
   some (.slc 32 0 (l.length+1) (.rest 2),⟨33,[[(32,.cells (frs (l++[(m,0)]))),(31,.cells [.int .i64 (m:Int),.int .i64 0]),(6,.cells (frs l)),(5,.cells (bls s))],f0]⟩):=by
 have hs:qc7 Tryz.prog 105=some 2:=qwp
 have hb:qce Tryz.prog 105=some 16:=ze1
 have hz:qbt Tryz.prog 105=some (.agg [.int .i64 0,.int .i64 0]):=zaa
 obtain ⟨p,rfl⟩:=List.length_eq_one_iff.1 hl
 simp only [qc2,hs,hb,hz,Option.bind_some]
 rfl
theorem FitH.eqL {n:Nat} {σ:List (Nat × Nat)} {Φ:List (Nat × List AV)} {H1 H2 H':Heap} (h:H1=H2) (f:FitH n σ Φ H2 H'):FitH n σ Φ H1 H':=h ▸ f
theorem zds {c:Nat} (h:c < 120):qd4 Tryz.prog .add 76 (.float .f64 (cnt c)) (.float .f64 4607182418800017408)=some (.float .f64 (cnt (c+1))):=by
 simp [qd4,qrk,cnt_add h]
theorem c93 {T:List (Entry Tryz.prog)} (t:Tr) (hn:t.length≤50) (hpos:0 < t.length) (hkd:∀ x,x∈t→x.kids.length≤1000) (LB:Blk) (hR0:Rounds T t LB) :
  CallAt (ctx T) 93 [.yld 2,.fptr [qa5 t] 0] ⟨3,[[(2,LB),(1,.cells [.nilS]),(0,.cells [qa5 t])]]⟩ (.tup [])
   ⟨4,[[(3,.cells (qbu (qav t.length (qaq t)))),(2,LB),(1,.cells [.slc 3 0 (qav t.length (qaq t)).length (.rest 1)]),(0,.cells [qa5 t])]]⟩:=by
 have h1:=hR0.first
 simp only [h0R,qjp] at h1
 refine qa3 (fn:=Tryz.f93) (s0:=⟨[0,1,3,4,5,6,7,8,9],[.yld 2,.fptr [qa5 t] 0,.undef,.undef,.undef,.undef,.undef,.undef,.undef],[],118,⟨3,[]::[[(2,LB),(1,.cells [.nilS]),(0,.cells [qa5 t])]]⟩⟩) Tryz.func93 rfl rfl rfl ?_
 repeat apply wq
 refine qa0 (qw7 [⟨2,_,_,_,_,h1⟩]) ?_
 simp [zS,qfu,bS1,qov,(show ¬ t.length=0 by omega)]
 refine qal rfl ?_
 refine qa7 ?_
 simp
 repeat apply wq
 refine qa0 qa1 ?_
 simp [zS,qfu,mkBool (show t.length≤1000000 by omega)]
 have ix0:∀ b cap,qb1 Tryz.prog 51 (.slc b 0 t.length cap) (.int .i64 0)=some (.ptr b 0):=fun b cap=>by simpa using ixB (b:=b) (cap:=cap) hpos
 have ly0:qj5 [.bool true] 0 (bls (List.replicate t.length false))=some (bls ((List.replicate t.length false).set 0 true)):=layB (by simpa using hpos)
 repeat apply wq
 refine qa0 qa1 ?_
 simp [zS,ix0,ly0]
 repeat apply wq
 refine qa0 qa1 ?_
 simp [zS]
 repeat apply wq
 refine qa0 qa1 ?_
 simp [zS,bF0]
 have hu0:=qlf (s:=List.replicate t.length false) (i:=0) (by simpa using hpos) (by simp [List.getD_eq_getElem?_getD,hpos])
 rw [qyo] at hu0
 refine qa9 (qax (fun x:Ls=>(⟨[0,1,3,4,5,6,7,8,9],[.yld 2,.fptr [qa5 t] 0,.slc 5 0 t.length (.ex t.length),.float .f64 (cnt x.c),.slc 6 0 x.P.length x.cap,.undef,.undef,.undef,.undef],[],118,hR t LB 7 4 (fR (x.P++x.G) x.s) x.a⟩ : St))
  (Lok t) (fun x=>qhx x.s * 1002+sm x.P) [(5,6),(4,5),(3,4),(2,2),(1,1),(0,0)] [] ⟨[(0,0)],[],.ex 1,(List.replicate t.length false).set 0 true,[0],0⟩
  ⟨.inr ⟨rfl,rfl⟩,by simp,by simp,.refl _,by simp;omega,by simp;omega,by simp;omega,by simp;omega⟩
  ⟨rfl,rfl,rfl,by simp [qb6,qay,qb2,qaf,qac,cnt],qu6 (t:=t) (LB:=LB) hR0.fit (m:=6) (a:=5) (b:=4) (k:=3) (P:=[(0,0)]) (s:=(List.replicate t.length false).set 0 true) (L:=[0]) (f:=[(5,.cells [.int .i64 0,.int .i64 0]),(4,.cells (bls ((List.replicate t.length false).set 0 true)))]) rfl rfl rfl rfl rfl rfl (by omega) (by omega) (by omega) (by omega) (by omega) (by omega)⟩ ?_)
 rintro ⟨P,G,cap,s,a,c⟩ hx B hB
 have hcap:=hx.cap
 have hs:=hx.s
 have ha:=hx.a
 have hr:=hx.r
 have hpp:=hx.p
 have hpu:=hx.pu
 have hau:=hx.au
 have hcu:=hx.cu
 simp only [cap1] at hcap hs ha hr hpp hpu hau hcu
 rcases List.eq_nil_or_concat P with rfl | ⟨pre,⟨i,j⟩,rfl⟩
 ·repeat apply wq
  refine qa0 qa1 ?_
  simp [zS,hR,fR,qe3]
  refine qal rfl ?_
  refine qat ?_
  simp
  have hae:a=qav t.length (qaq t):=zbr hpos hr
  rw [← hae]
  exact ⟨[],rfl,[(4,3),(2,2),(1,1),(0,0)],[],by simp [oneOr,qay,qb6],fit_end (t:=t) (LB:=LB) hR0.fit (m:=7) (f:=fR G s) (L:=a) rfl rfl rfl rfl⟩
 ·have hij:=hpp (i,j) (by simp)
  have hi:i < t.length:=hij.1
  have hj:j≤1000:=hij.2
  simp only [List.concat_eq_append,List.length_append,List.length_singleton] at hcap hpu hcu
  have hpl:pre.length≤1000:=by omega
  have hw:wr .i64 (pre.length:Int)=some (pre.length:Int):=qc6 (by omega) (by omega)
  repeat apply wq
  refine qa0 qa1 ?_
  simp [zS,hR,fR,qe3]
  refine qau rfl (fun h=>?_) fun h=>?_
  ·repeat apply wq
   refine qa7 ?_
   simp
   refine qa9 ?_
   repeat apply wq
   refine qa0 qa1 ?_
   simp [zS,qe3,hw,ixF (show pre.length < pre.length+1 by omega)]
   repeat apply wq
   refine qcm qci qa1 (by decide +kernel) fun B_ hB_=>?_
   simp [zS,qdg,qbz,qje,qg9,qby,qbr,qaw,qch,qcp,qdz,qcb,Heap.lay,qdp,qb4,qb3,qy4,atN hi,Nd.cs,qdq hi]
   repeat apply wq
   refine qa0 qa1 ?_
   simp [zS,qy3,qm9]
   simp only [List.concat_eq_append,List.reverse_append,List.reverse_cons,List.reverse_nil,List.nil_append,List.singleton_append] at hr
   by_cases hjk:j < (qaq t i).length
   ·obtain ⟨k,hkj⟩ : ∃ k,k=(qaq t i)[j]:=⟨_,rfl⟩
    have hk? : (qaq t i)[j]? = some k:=by rw [List.getElem?_eq_getElem hjk,hkj]
    have hkl:(qaq t i).length≤1000:=by rw [← qdq hi];exact hkd _ (List.getElem_mem hi)
    refine qau (t:=false) (by simp [qbq,St.get];omega) (fun h=>by cases h) fun _=>?_
    refine qa7 ?_
    simp
    repeat apply wq
    refine qcm qci qa1 (by decide +kernel) fun B_ hB_=>?_
    simp [zS,qdg,qbz,qje,qg9,qby,qbr,qaw,qch,qcp,qdz,qcb,Heap.lay,qdp,qb4,qb3,qy4,qy3,atI hjk,← hkj]
    have hly:qj5 [.int .i64 ((j:Int)+1)] (pre.length * 2+1) (frs (pre++(i,j)::G))=some (frs (pre++(i,j+1)::G)):=by simpa using layFr (i:=i) (j:=j) (v:=j+1) (G:=G) pre
    repeat apply wq
    refine qa0 qa1 ?_
    simp [zS,qy3,qba (show j≤1000000000 by omega),hly]
    have skipit:∀ (hst:stp t.length (qaq t) ((i,j)::pre.reverse,s,a)=some ((i,j+1)::pre.reverse,s,a)),Lok t ⟨pre++[(i,j+1)],G,cap,s,a,c⟩:=fun hst=>
     ⟨by simpa [cap1] using hcap,hs,ha,by simpa using hr.one hst,fun e he=>by
      rcases List.mem_append.1 he with he | he
      ·exact hpp e (by simp [he])
      ·simp at he;subst he;exact ⟨hi,by omega⟩,by simpa using hpu,hau,by simpa using hcu⟩
    by_cases h0:k < 0
    ·have hst:stp t.length (qaq t) ((i,j)::pre.reverse,s,a)=some ((i,j+1)::pre.reverse,s,a):=by
      simp only [stp,hk?];rw [if_neg (fun hx=>by omega)]
     repeat apply wq
     refine qa0 qa1 ?_
     simp [zS,h0]
     refine qai rfl ?_
     refine qat ?_
     simp
     exact hB _ ⟨pre++[(i,j+1)],G,cap,s,a,c⟩ (by simp only [List.concat_eq_append,qpr,sm];omega) (skipit hst) ⟨[(6,6),(5,5),(4,4),(2,2),(1,1),(0,0)],[],rfl,rfl,rfl,by simp [qb6,qay,qb2,qaf,qac],qu6 (t:=t) (LB:=LB) hR0.fit (m:=30) (a:=6) (b:=5) (k:=4) (P:=pre++[(i,j+1)]++G) (s:=s) (L:=a) (f:=[(6,.cells (frs (pre++(i,j+1)::G))),(5,.cells (bls s))]) (by simp [getF]) rfl rfl rfl rfl rfl (by omega) (by omega) (by omega) (by omega) (by omega) (by omega)⟩
    ·obtain ⟨m,rfl⟩:=Int.eq_ofNat_of_zero_le (show 0≤k by omega)
     by_cases h1:m < t.length
     ·have h1':¬ t.length≤m:=by omega
      by_cases h2:s.getD m true=false
      ·have h2':s[m]'(by omega)=false:=by rw [List.getD_eq_getElem?_getD,List.getElem?_eq_getElem (by omega),Option.getD_some] at h2;exact h2
       repeat apply wq
       refine qa0 qa1 ?_
       simp [zS,qfu,(show ¬ ((m:Int) < 0) by omega),h1',ixB h1,getB (show m < s.length by omega),h2']
       refine qal rfl ?_
       refine qa7 ?_
       simp
       have hlb:=layB (s:=s) (i:=m) (by omega)
       repeat apply wq
       refine qa0 qa1 ?_
       simp [zS,ixB h1,hlb]
       have hy:=hR0.enter 30 (by omega) (pre++(i,j+1)::G) (s.set m true) a m i (cnt c) (by omega) ha
       simp only [hR,fR,qjp] at hy
       repeat apply wq
       refine qa0 (qw7 [⟨2,_,_,_,_,hy⟩]) ?_
       simp [zS,bS3,qov]
       refine qal rfl ?_
       refine qa7 ?_
       simp
       repeat apply wq
       refine qa0 qa1 ?_
       simp [zS,zds (show c < 120 by omega)]
       have hus:=qlf (s:=s) (i:=m) (by omega) h2
       have hst:stp t.length (qaq t) ((i,j)::pre.reverse,s,a)=some ((m,0)::(i,j+1)::pre.reverse,s.set m true,a++[(m:Int)]):=by
        simp only [stp,hk?]
        rw [if_pos ⟨by omega,by omega,by simpa using h2⟩]
        simp
       have hok:∀ G' cap',(cap'=.rest 2)→Lok t ⟨pre++[(i,j+1)]++[(m,0)],G',cap',s.set m true,a++[(m:Int)],c+1⟩:=fun G' cap' hc'=>
        ⟨.inl hc',by simp [hs],by simp,by simpa using hr.one hst,fun e he=>by
         simp only [List.mem_append,List.mem_singleton] at he
         rcases he with (he | he) | he
         ·exact hpp e (by simp [he])
         ·subst he;exact ⟨hi,by omega⟩
         ·subst he;exact ⟨h1,Nat.zero_le _⟩,by simp;omega,by simp;omega,by simp;omega⟩
       have hme:qhx (s.set m true) * 1002+sm (pre++[(i,j+1)]++[(m,0)]) < qhx s * 1002+sm (pre.concat (i,j)):=by
        simp only [List.concat_eq_append,qpr,sm];omega
       have hcap2:cap=.rest 2∨(cap=.ex 1∧pre.length+1+G.length=1):=hcap
       rcases hcap2 with hc | ⟨hc,hc1⟩
       ·subst hc
        cases G with
        | cons g G'=>
         have hap:=appP1 (l:=pre++[(i,j+1)]) (G:=G') (g:=g) (m:=m) (s:=s.set m true) (f0:=[(30,.cells (qbu (a++[(m:Int)]))),(2,LB),(1,.cells [.slc 30 0 (a.length+1) (.rest 1)]),(0,.cells [qa5 t])]) (by simp;omega)
         simp only [List.length_append,List.length_singleton,List.append_assoc,List.singleton_append] at hap
         refine qa0 qa1 ?_
         simp [zS,bF1,hap]
         exact hB _ ⟨pre++[(i,j+1)]++[(m,0)],G',.rest 2,s.set m true,a++[(m:Int)],c+1⟩ hme (hok _ _ rfl) ⟨[(6,6),(5,5),(30,4),(2,2),(1,1),(0,0)],[],rfl,rfl,rfl,by simp [qb6,qay,qb2,qaf,qac],FitH.eqL (by simp [hR]) (qu6 (t:=t) (LB:=LB) hR0.fit (m:=32) (a:=6) (b:=5) (k:=30) (P:=pre++[(i,j+1)]++[(m,0)]++G') (s:=s.set m true) (L:=a++[(m:Int)]) (f:=[(31,.cells [.int .i64 (m:Int),.int .i64 0]),(6,.cells (frs (pre++(i,j+1)::(m,0)::G'))),(5,.cells (bls (s.set m true)))]) (by simp [getF]) rfl rfl rfl rfl rfl (by omega) (by omega) (by omega) (by omega) (by omega) (by omega))⟩
        | nil=>
         have hap:=appP2 (l:=pre++[(i,j+1)]) (m:=m) (s:=s.set m true) (f0:=[(30,.cells (qbu (a++[(m:Int)]))),(2,LB),(1,.cells [.slc 30 0 (a.length+1) (.rest 1)]),(0,.cells [qa5 t])]) (by simp;omega)
         simp only [List.length_append,List.length_singleton,List.append_assoc,List.singleton_append] at hap
         refine qa0 qa1 ?_
         simp [zS,bF1,hap]
         exact hB _ ⟨pre++[(i,j+1)]++[(m,0)],[],.rest 2,s.set m true,a++[(m:Int)],c+1⟩ hme (hok _ _ rfl) ⟨[(32,6),(5,5),(30,4),(2,2),(1,1),(0,0)],[],rfl,rfl,rfl,by simp [qb6,qay,qb2,qaf,qac],FitH.eqL (by simp [hR]) (qu6 (t:=t) (LB:=LB) hR0.fit (m:=33) (a:=32) (b:=5) (k:=30) (P:=pre++[(i,j+1)]++[(m,0)]++[]) (s:=s.set m true) (L:=a++[(m:Int)]) (f:=[(32,.cells (frs (pre++[(i,j+1),(m,0)]))),(31,.cells [.int .i64 (m:Int),.int .i64 0]),(5,.cells (bls (s.set m true)))]) (by simp [getF]) rfl rfl rfl rfl rfl (by omega) (by omega) (by omega) (by omega) (by omega) (by omega))⟩
       ·have hG:G=[]:=List.length_eq_zero_iff.1 (by omega)
        have hpre:pre=[]:=List.length_eq_zero_iff.1 (by omega)
        subst hc hG hpre
        have hap:=appP3 (l:=[(i,j+1)]) (m:=m) (s:=s.set m true) (f0:=[(30,.cells (qbu (a++[(m:Int)]))),(2,LB),(1,.cells [.slc 30 0 (a.length+1) (.rest 1)]),(0,.cells [qa5 t])]) rfl
        simp only [List.length_append,List.length_singleton,List.append_assoc,List.singleton_append] at hap
        refine qa0 qa1 ?_
        simp [zS,bF1,hap]
        exact hB _ ⟨[]++[(i,j+1)]++[(m,0)],[],.rest 2,s.set m true,a++[(m:Int)],c+1⟩ hme (hok _ _ rfl) ⟨[(32,6),(5,5),(30,4),(2,2),(1,1),(0,0)],[],rfl,rfl,rfl,by simp [qb6,qay,qb2,qaf,qac],FitH.eqL (by simp [hR]) (qu6 (t:=t) (LB:=LB) hR0.fit (m:=33) (a:=32) (b:=5) (k:=30) (P:=[]++[(i,j+1)]++[(m,0)]++[]) (s:=s.set m true) (L:=a++[(m:Int)]) (f:=[(32,.cells (frs [(i,j+1),(m,0)])),(31,.cells [.int .i64 (m:Int),.int .i64 0]),(6,.cells (frs [(i,j+1)])),(5,.cells (bls (s.set m true)))]) (by simp [getF]) rfl rfl rfl rfl rfl (by omega) (by omega) (by omega) (by omega) (by omega) (by omega))⟩
      ·have h2s:s.getD m true=true:=by cases hh:s.getD m true with
        | true=>rfl
        | false=>exact absurd hh h2
       have h2':s[m]'(by omega)=true:=by rw [List.getD_eq_getElem?_getD,List.getElem?_eq_getElem (by omega),Option.getD_some] at h2s;exact h2s
       have hst:stp t.length (qaq t) ((i,j)::pre.reverse,s,a)=some ((i,j+1)::pre.reverse,s,a):=by
        simp only [stp,hk?];rw [if_neg (fun hx=>h2 (by simpa using hx.2.2))]
       repeat apply wq
       refine qa0 qa1 ?_
       simp [zS,qfu,(show ¬ ((m:Int) < 0) by omega),h1',ixB h1,getB (show m < s.length by omega),h2']
       refine qai rfl ?_
       refine qat ?_
       simp
       exact hB _ ⟨pre++[(i,j+1)],G,cap,s,a,c⟩ (by simp only [List.concat_eq_append,qpr,sm];omega) (skipit hst) ⟨[(6,6),(5,5),(4,4),(2,2),(1,1),(0,0)],[],rfl,rfl,rfl,by simp [qb6,qay,qb2,qaf,qac],qu6 (t:=t) (LB:=LB) hR0.fit (m:=30) (a:=6) (b:=5) (k:=4) (P:=pre++[(i,j+1)]++G) (s:=s) (L:=a) (f:=[(6,.cells (frs (pre++(i,j+1)::G))),(5,.cells (bls s))]) (by simp [getF]) rfl rfl rfl rfl rfl (by omega) (by omega) (by omega) (by omega) (by omega) (by omega)⟩
     ·have h1':t.length≤m:=by omega
      have hst:stp t.length (qaq t) ((i,j)::pre.reverse,s,a)=some ((i,j+1)::pre.reverse,s,a):=by
       simp only [stp,hk?];rw [if_neg (fun hx=>by omega)]
      repeat apply wq
      refine qa0 qa1 ?_
      simp [zS,qfu,(show ¬ ((m:Int) < 0) by omega),h1']
      refine qai rfl ?_
      refine qat ?_
      simp
      exact hB _ ⟨pre++[(i,j+1)],G,cap,s,a,c⟩ (by simp only [List.concat_eq_append,qpr,sm];omega) (skipit hst) ⟨[(6,6),(5,5),(4,4),(2,2),(1,1),(0,0)],[],rfl,rfl,rfl,by simp [qb6,qay,qb2,qaf,qac],qu6 (t:=t) (LB:=LB) hR0.fit (m:=30) (a:=6) (b:=5) (k:=4) (P:=pre++[(i,j+1)]++G) (s:=s) (L:=a) (f:=[(6,.cells (frs (pre++(i,j+1)::G))),(5,.cells (bls s))]) (by simp [getF]) rfl rfl rfl rfl rfl (by omega) (by omega) (by omega) (by omega) (by omega) (by omega)⟩
   ·have hy:=hR0.leave 17 (by omega) (pre++(i,j)::G) s a i 0 (cnt c) (by omega)
    simp only [hR,fR,qjp] at hy
    refine qau (t:=true) (by simp [qbq,St.get];omega) (fun _=>?_) fun h=>by cases h
    repeat apply wq
    refine qa0 (qw7 [⟨2,_,_,_,_,hy⟩]) ?_
    simp [zS,qy4,bS2,qov]
    refine qal rfl ?_
    refine qa7 ?_
    simp
    have hc2:cap=.rest 2∨(cap=.ex 1∧pre.length+1+G.length=1):=hcap
    have hsl:∀ m,qdy Tryz.prog ⟨m,[[(6,.cells (frs (pre++(i,j)::G))),(5,.cells (bls s))],[(4,.cells (qbu a)),(2,LB),(1,.cells [.slc 4 0 a.length (.rest 1)]),(0,.cells [qa5 t])]]⟩ 106 (.slc 6 0 (pre.length+1) cap) none (some (.int .i64 (pre.length:Int))) none=some (.slc 6 0 pre.length cap):=fun m=>
     slPath (cs:=frs (pre++(i,j)::G)) (kn:=pre.length+1+G.length) (by simp [Heap.get,getFs,getF]) (by rw [qjy];simp;omega) (by omega) hc2
    repeat apply wq
    refine qa0 qa1 ?_
    simp [zS,qe3,hw,qhn,hsl]
    repeat apply wq
    refine qa0 qa1 ?_
    simp [zS,zds (show c < 120 by omega)]
    refine qat ?_
    simp
    refine hB _ ⟨pre,(i,j)::G,cap,s,a,c+1⟩ ?_ ⟨?_,hs,ha,?_,fun e he=>hpp e (by simp [he]),by simp only;omega,hau,by simp only;omega⟩ ⟨[(6,6),(5,5),(4,4),(2,2),(1,1),(0,0)],[],rfl,rfl,rfl,by simp [qb6,qay,qb2,qaf,qac],qu6 (t:=t) (LB:=LB) hR0.fit (m:=17) (a:=6) (b:=5) (k:=4) (P:=pre++(i,j)::G) (s:=s) (L:=a) (f:=fR (pre++(i,j)::G) s) rfl rfl rfl rfl rfl rfl (by omega) (by omega) (by omega) (by omega) (by omega) (by omega)⟩
    ·simp only [List.concat_eq_append,qpr,sm];omega
    ·simp only [cap1,List.length_cons];rcases hc2 with h | ⟨h,h'⟩
     ·exact .inl h
     ·exact .inr ⟨h,by omega⟩
    ·refine hr.one ?_
     have:(qaq t i)[j]? = none:=List.getElem?_eq_none (by omega)
     simp [stp,this]
  ·simp at h
end Go.Proofs.YtgpjifeeneeiaaaGreatDoor