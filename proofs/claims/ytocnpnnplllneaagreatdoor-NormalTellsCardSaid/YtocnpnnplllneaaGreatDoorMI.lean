/- How large what is handed in may be: plain.Attrs, plain.Node, plain.Tree. No condition. -/
import Derived.Test.YtocnpnnplllneaaGreatDoorMF
import Derived.Test.YtocnpnnplllneaaGreatDoorChecked
import Derived.Shelf.Strings.Search3
import Derived.Lib.IndexMore
import Derived.Test.YtocnpnnplllneaaGreatDoorProg
namespace Go.Proofs.YtocnpnnplllneaaGreatDoor
noncomputable section
set_option linter.unusedSimpArgs false
set_option linter.unusedVariables false
open Go Go.RowKit Go.ChangeShapes Go.WideShapes Go.ChangeAt
set_option maxRecDepth 100000
abbrev PG:=Tryz.prog
abbrev qIn(f:FuncId) (T:List (Entry PG)) (e:Entry PG):Prop:=qa8 f T=some e.g
abbrev zH:Heap:=⟨0,[]⟩
abbrev uD:AV:=.undef
def keepTbl:List (List Nat):=[[],[],[],[0,1,2],[0,1,2,3],[0,1,2,3,4,5,7,17,18,19],[0,1,2,4],[0,1,2,3,4,6,7,8],[0,1,2,3,4,5],[0,1,2,3],[0,1,2,3],[0,1,2,3,4],[0,1,2,3],[0,1,2,3],[0,1,2,4,6,13,14,15],[0,1,2,3,4,5,6],[0],[0,1,2,3,8],[0,1,3,4],[0,1,2,3,4,5],[0,1,2],[0],[0,1,2,7,8,17,18,19,32],[0,1,2,3,4,5,6,12,13,14,15],[0,1,2],[0,1,2,4,5,6,7],[0,1,2,3,4,5,6,7,8],[0,1,2],[0,1,4,5,6],[0,1,2,4,5],[0,1,2,4],[0,1,2,3,6,7],[0,1,4,5,6,7],[0,1,2,6,7,8],[0,1,4,5],[0,1,2,4,5,6,7],[0,1,2,6,7],[0,1,2,3,7,8],[0,1,2,3,8,9],[0,1,2,3,4,5,6],[0,1,3,4,5,6,7],[0,1,2,3,4,5,8,10,11,12,13,14],[0,1,2,4,5,6,7],[0,1,2,3,4],[0,1,4,5],[0,1,2,4,5,6],[0,1,2,4],[0,2],[0,1,2,3,4,5,6,12,13,14,15],[0,2,4,8,9,10],[0,1,2,3,4,5,8,9,11,57,58,59],[0,2],[0,2,3,4,5],[0,1,2],[0,1,4,5,6],[0,1,4,5],[0,1,2,5,6,7],[0,1,2,3,5,6,8,9,10],[0,1,3,4,5,6,7,52],[0,1,2,3,6,7],[0,2,3,4,5,6],[0,1,3,4,5,7],[0,1,4],[0,1,2],[0,2,3,4,5,6,7,8],[0,1,3,4,5],[0,1,2,4,5,6,7,8,9],[0,1,4,5,6,7],[0,2,3],[0,1,4],[0,2,3],[0,1,4],[0,2,3,5,6,7,8],[0,2,3,4,5,6],[0,1,4,5],[0,1,4],[0,1,4,5],[0,2],[0,1,4],[0,2,3,4,5],[0,1,4],[0,1,4,5,6],[0,2,3],[0,2],[0,1,4],[0,1,2,4],[0,2],[0,1,3,4],[0,1,2,3,8],[0,1,2,3,5,8,9,10],[0,1,3,4,5],[0,1,4,5],[0,1,2,4,5],[0,1,2,3,4,9],[0,1,2,3,4],[0,2,3,4,19,36],[0,1,4,5,14,15,25,49,62,73],[0,2,3,4,5,6,7,8],[0,2],[0,1,4,5,6],[0,1,2],[0,1,2,3,4],[0,1,2,6,7],[0,1,4],[0,2],[0,2,3],[0,2,3],[0,1,4,5],[0,2,3,4],[0,2],[0,1,2,6],[0,2],[0,1,4,5],[0,2,3,4,5],[0,2,3,4,5,6,7,8,9,10,11,12],[0,2,3,4,18],[0],[0,1,4],[0,2,3],[0,1,4],[0,2],[0,1,4],[0,1,4,5,6,7,8],[0,2],[0,1,2,4],[0,1,2,3,6,14,15],[0,1,4,5],[0,1,2,6,7,8,9],[0,2],[0,1,3,4,5,6,7,21,22,23],[0,1,3,4],[0,1,4,5,6],[0,1,4],[0,1,2,5,6],[0,2,3,4],[0,1,4],[0,1,4],[0,1,2],[0,1,4],[0,2],[0,1,4],[0,1,2,6,7],[0,1,4],[0,1,4],[],[0,2,3,4,5,6,7,8,9,10,11,12],[0,1,4,5,6,7,8,9,10,11,12,13,14,15,16,175,176],[0,2,3,4,5,6,75],[0,1,4],[0,1,4],[0,2,3,4],[0,1,4],[0,2],[0,1,4,5,6],[0,1,2,4],[0,1,2,6,7],[],[0,1],[0,2,3],[0,1,4],[0,1,3],[0,2,3,4,5,8,9,10],[0,1,4],[0,1,4,5,7,8],[0,1,2,3],[0,1,2,4,5,6,8,10,11,12],[0,1,2,3],[0,1,2,6,7,10,32,41,42],[0,2],[0,1,4,5,7,8],[0,1,2,3],[0,1,2],[0,1,4,5],[0,1,2],[0,1,4],[0,1,2],[0,1,4],[0,2],[0,2],[],[0,2],[0,1,4,5,6,7,8,9,10,45,46],[0,1,4,5,6,7,8,9,10,11,12,13],[0,1,4,5,7,8],[0,1,4,5,6,7,8,9,10,11,14,15,47,48,49],[0,2],[0,1,4],[0,1,4],[0,1,4,5,6],[0,1,4,5,7,8],[0,1],[0,1,4,5,7,8],[0,1,4],[0,1,2],[0,2],[0,1,4,5,6,7,8,9,10],[0,2,3,4,5,6],[0,2,3],[],[0,1,3],[0,2,3,4,5,6,7,8],[0,2],[],[],[],[],[],[],[],[],[],[],[],[],[],[],[],[],[],[],[],[],[],[]]
@[simp]theorem szT3:qce PG 3=some 1:=rfl
@[simp]theorem agT3:qia PG 3=some false:=rfl
@[simp]theorem byT3:qcq PG 3=some 8:=rfl
@[simp]theorem alT3(H:Heap):alV PG H 3=some (.ptr H.n 0,H.new (.cells [.int .i64 0])):=rfl
@[simp]theorem zeT3:qc0 PG 3=some (.int .i64 0):=rfl
attribute [simp] Tryz.underlying3
@[simp 500]theorem rvF3(H:Heap) (cs:List AV) (o:Nat):qaw PG H 3 (.fptr cs o)=qck cs o:=rfl
@[simp 500]theorem rvP3(H:Heap) (b o:Nat):qaw PG H 3 (.ptr b o)=(H.get b).bind fun k=>k.rd.bind fun cs=>qck cs o:=rfl
@[simp]theorem szT4:qce PG 4=some 1:=rfl
@[simp]theorem agT4:qia PG 4=some false:=rfl
@[simp]theorem byT4:qcq PG 4=some 1:=rfl
@[simp]theorem alT4(H:Heap):alV PG H 4=some (.ptr H.n 0,H.new (.cells [.bool false])):=rfl
@[simp]theorem zeT4:qc0 PG 4=some (.bool false):=rfl
attribute [simp] Tryz.underlying4
@[simp 500]theorem rvF4(H:Heap) (cs:List AV) (o:Nat):qaw PG H 4 (.fptr cs o)=qck cs o:=rfl
@[simp 500]theorem rvP4(H:Heap) (b o:Nat):qaw PG H 4 (.ptr b o)=(H.get b).bind fun k=>k.rd.bind fun cs=>qck cs o:=rfl
@[simp]theorem beq4(a b:Bool):qdm PG .eql 4 (.bool a) (.bool b)=some (.bool (a == b)):=rfl
@[simp]theorem bne4(a b:Bool):qdm PG .neq 4 (.bool a) (.bool b)=some (.bool !(a == b)):=rfl
@[simp]theorem szT5:qce PG 5=some 1:=rfl
@[simp]theorem agT5:qia PG 5=some false:=rfl
@[simp]theorem byT5:qcq PG 5=some 1:=rfl
@[simp]theorem alT5(H:Heap):alV PG H 5=some (.ptr H.n 0,H.new (.cells [.int .u8 0])):=rfl
@[simp]theorem zeT5:qc0 PG 5=some (.int .u8 0):=rfl
attribute [simp] Tryz.underlying5
@[simp 500]theorem rvF5(H:Heap) (cs:List AV) (o:Nat):qaw PG H 5 (.fptr cs o)=qck cs o:=rfl
@[simp 500]theorem rvP5(H:Heap) (b o:Nat):qaw PG H 5 (.ptr b o)=(H.get b).bind fun k=>k.rd.bind fun cs=>qck cs o:=rfl
@[simp]theorem szT9:qce PG 9=some 1:=rfl
@[simp]theorem agT9:qia PG 9=some false:=rfl
@[simp]theorem byT9:qcq PG 9=some 16:=rfl
@[simp]theorem alT9(H:Heap):alV PG H 9=some (.ptr H.n 0,H.new (.cells [.str []])):=rfl
@[simp]theorem zeT9:qc0 PG 9=some (.str []):=rfl
attribute [simp] Tryz.underlying9
@[simp 500]theorem rvF9(H:Heap) (cs:List AV) (o:Nat):qaw PG H 9 (.fptr cs o)=qck cs o:=rfl
@[simp 500]theorem rvP9(H:Heap) (b o:Nat):qaw PG H 9 (.ptr b o)=(H.get b).bind fun k=>k.rd.bind fun cs=>qck cs o:=rfl
@[simp]theorem szT22:qce PG 22=some 1:=rfl
@[simp]theorem agT22:qia PG 22=some false:=rfl
@[simp]theorem byT22:qcq PG 22=some 24:=rfl
@[simp]theorem alT22(H:Heap):alV PG H 22=some (.ptr H.n 0,H.new (.cells [.nilS])):=rfl
@[simp]theorem zeT22:qc0 PG 22=some (.nilS):=rfl
attribute [simp] Tryz.underlying22
@[simp 500]theorem rvF22(H:Heap) (cs:List AV) (o:Nat):qaw PG H 22 (.fptr cs o)=qck cs o:=rfl
@[simp 500]theorem rvP22(H:Heap) (b o:Nat):qaw PG H 22 (.ptr b o)=(H.get b).bind fun k=>k.rd.bind fun cs=>qck cs o:=rfl
@[simp]theorem slz22(sz:Nat) (e:AV) (r:List AV):qdm PG .eql 22 (.fslc sz (e::r)) .nilS=some (.bool false):=rfl
@[simp]theorem sln22(sz:Nat) (e:AV) (r:List AV):qdm PG .neq 22 (.fslc sz (e::r)) .nilS=some (.bool true):=rfl
@[simp]theorem slze22:qdm PG .eql 22 .eslc .nilS=some (.bool false):=rfl
@[simp]theorem slzz22:qdm PG .eql 22 .nilS .nilS=some (.bool true):=rfl
@[simp]theorem szT24:qce PG 24=some 1:=rfl
@[simp]theorem agT24:qia PG 24=some true:=rfl
@[simp]theorem byT24:qcq PG 24=some 24:=rfl
@[simp]theorem alT24(H:Heap):alV PG H 24=some (.ptr H.n 0,H.new (.cells [.nilS])):=rfl
@[simp]theorem zeT24:qc0 PG 24=some (.agg [.nilS]):=rfl
attribute [simp] Tryz.underlying24
@[simp 500]theorem rvF24(H:Heap) (cs:List AV) (o:Nat):qaw PG H 24 (.fptr cs o)=(qex o 1 cs).bind fun cs=>some (.agg cs):=rfl
@[simp 500]theorem rvP24(H:Heap) (b o:Nat):qaw PG H 24 (.ptr b o)=(readCells H b o 1).bind fun cs=>some (.agg cs):=rfl
@[simp]theorem fa24_0(x:AV):qby PG 24 x 0=(match x with | .ptr b o=>some (.ptr b (o+0)) | .fptr cs o=>some (.fptr cs (o+0))|_=>none):=rfl
@[simp]theorem fd24_0(cs:List AV):qdt PG 24 (.agg cs) 0=qck cs 0:=rfl
@[simp]theorem szT30:qce PG 30=some 1:=rfl
@[simp]theorem agT30:qia PG 30=some false:=rfl
@[simp]theorem byT30:qcq PG 30=some 24:=rfl
@[simp]theorem alT30(H:Heap):alV PG H 30=some (.ptr H.n 0,H.new (.cells [.nilS])):=rfl
@[simp]theorem zeT30:qc0 PG 30=some (.nilS):=rfl
attribute [simp] Tryz.underlying30
@[simp 500]theorem rvF30(H:Heap) (cs:List AV) (o:Nat):qaw PG H 30 (.fptr cs o)=qck cs o:=rfl
@[simp 500]theorem rvP30(H:Heap) (b o:Nat):qaw PG H 30 (.ptr b o)=(H.get b).bind fun k=>k.rd.bind fun cs=>qck cs o:=rfl
@[simp]theorem slz30(sz:Nat) (e:AV) (r:List AV):qdm PG .eql 30 (.fslc sz (e::r)) .nilS=some (.bool false):=rfl
@[simp]theorem sln30(sz:Nat) (e:AV) (r:List AV):qdm PG .neq 30 (.fslc sz (e::r)) .nilS=some (.bool true):=rfl
@[simp]theorem slze30:qdm PG .eql 30 .eslc .nilS=some (.bool false):=rfl
@[simp]theorem slzz30:qdm PG .eql 30 .nilS .nilS=some (.bool true):=rfl
@[simp]theorem szT32:qce PG 32=some 1:=rfl
@[simp]theorem agT32:qia PG 32=some false:=rfl
@[simp]theorem byT32:qcq PG 32=some 24:=rfl
@[simp]theorem alT32(H:Heap):alV PG H 32=some (.ptr H.n 0,H.new (.cells [.nilS])):=rfl
@[simp]theorem zeT32:qc0 PG 32=some (.nilS):=rfl
attribute [simp] Tryz.underlying32
@[simp 500]theorem rvF32(H:Heap) (cs:List AV) (o:Nat):qaw PG H 32 (.fptr cs o)=qck cs o:=rfl
@[simp 500]theorem rvP32(H:Heap) (b o:Nat):qaw PG H 32 (.ptr b o)=(H.get b).bind fun k=>k.rd.bind fun cs=>qck cs o:=rfl
@[simp]theorem slz32(sz:Nat) (e:AV) (r:List AV):qdm PG .eql 32 (.fslc sz (e::r)) .nilS=some (.bool false):=rfl
@[simp]theorem sln32(sz:Nat) (e:AV) (r:List AV):qdm PG .neq 32 (.fslc sz (e::r)) .nilS=some (.bool true):=rfl
@[simp]theorem slze32:qdm PG .eql 32 .eslc .nilS=some (.bool false):=rfl
@[simp]theorem slzz32:qdm PG .eql 32 .nilS .nilS=some (.bool true):=rfl
@[simp]theorem qt0:qce PG 34=some 7:=rfl
@[simp]theorem agT34:qia PG 34=some true:=rfl
@[simp]theorem qub:qcq PG 34=some 104:=rfl
@[simp]theorem alT34(H:Heap):alV PG H 34=some (.ptr H.n 0,H.new (.cells [.int .i64 0,.int .i64 0,.str [],.nilS,.str [],.int .i64 0,.nilS])):=rfl
@[simp]theorem qx5:qc0 PG 34=some (.agg [.int .i64 0,.int .i64 0,.str [],.nilS,.str [],.int .i64 0,.nilS]):=rfl
attribute [simp] Tryz.underlying34
@[simp 500]theorem rvF34(H:Heap) (cs:List AV) (o:Nat):qaw PG H 34 (.fptr cs o)=(qex o 7 cs).bind fun cs=>some (.agg cs):=rfl
@[simp 500]theorem rvP34(H:Heap) (b o:Nat):qaw PG H 34 (.ptr b o)=(readCells H b o 7).bind fun cs=>some (.agg cs):=rfl
@[simp]theorem fa34_0(x:AV):qby PG 34 x 0=(match x with | .ptr b o=>some (.ptr b (o+0)) | .fptr cs o=>some (.fptr cs (o+0))|_=>none):=rfl
@[simp]theorem fd34_0(cs:List AV):qdt PG 34 (.agg cs) 0=qck cs 0:=rfl
@[simp]theorem fa34_1(x:AV):qby PG 34 x 1=(match x with | .ptr b o=>some (.ptr b (o+1)) | .fptr cs o=>some (.fptr cs (o+1))|_=>none):=rfl
@[simp]theorem fd34_1(cs:List AV):qdt PG 34 (.agg cs) 1=qck cs 1:=rfl
@[simp]theorem fa34_2(x:AV):qby PG 34 x 2=(match x with | .ptr b o=>some (.ptr b (o+2)) | .fptr cs o=>some (.fptr cs (o+2))|_=>none):=rfl
@[simp]theorem fd34_2(cs:List AV):qdt PG 34 (.agg cs) 2=qck cs 2:=rfl
@[simp]theorem fa34_3(x:AV):qby PG 34 x 3=(match x with | .ptr b o=>some (.ptr b (o+3)) | .fptr cs o=>some (.fptr cs (o+3))|_=>none):=rfl
@[simp]theorem fd34_3(cs:List AV):qdt PG 34 (.agg cs) 3=qck cs 3:=rfl
@[simp]theorem fa34_4(x:AV):qby PG 34 x 4=(match x with | .ptr b o=>some (.ptr b (o+4)) | .fptr cs o=>some (.fptr cs (o+4))|_=>none):=rfl
@[simp]theorem fd34_4(cs:List AV):qdt PG 34 (.agg cs) 4=qck cs 4:=rfl
@[simp]theorem fa34_5(x:AV):qby PG 34 x 5=(match x with | .ptr b o=>some (.ptr b (o+5)) | .fptr cs o=>some (.fptr cs (o+5))|_=>none):=rfl
@[simp]theorem fd34_5(cs:List AV):qdt PG 34 (.agg cs) 5=qck cs 5:=rfl
@[simp]theorem fa34_6(x:AV):qby PG 34 x 6=(match x with | .ptr b o=>some (.ptr b (o+6)) | .fptr cs o=>some (.fptr cs (o+6))|_=>none):=rfl
@[simp]theorem fd34_6(cs:List AV):qdt PG 34 (.agg cs) 6=qck cs 6:=rfl
@[simp]theorem szT36:qce PG 36=some 1:=rfl
@[simp]theorem agT36:qia PG 36=some false:=rfl
@[simp]theorem byT36:qcq PG 36=some 24:=rfl
@[simp]theorem alT36(H:Heap):alV PG H 36=some (.ptr H.n 0,H.new (.cells [.nilS])):=rfl
@[simp]theorem zeT36:qc0 PG 36=some (.nilS):=rfl
attribute [simp] Tryz.underlying36
@[simp 500]theorem rvF36(H:Heap) (cs:List AV) (o:Nat):qaw PG H 36 (.fptr cs o)=qck cs o:=rfl
@[simp 500]theorem rvP36(H:Heap) (b o:Nat):qaw PG H 36 (.ptr b o)=(H.get b).bind fun k=>k.rd.bind fun cs=>qck cs o:=rfl
@[simp]theorem slz36(sz:Nat) (e:AV) (r:List AV):qdm PG .eql 36 (.fslc sz (e::r)) .nilS=some (.bool false):=rfl
@[simp]theorem sln36(sz:Nat) (e:AV) (r:List AV):qdm PG .neq 36 (.fslc sz (e::r)) .nilS=some (.bool true):=rfl
@[simp]theorem slze36:qdm PG .eql 36 .eslc .nilS=some (.bool false):=rfl
@[simp]theorem slzz36:qdm PG .eql 36 .nilS .nilS=some (.bool true):=rfl
@[simp]theorem szT45:qce PG 45=some 1:=rfl
@[simp]theorem agT45:qia PG 45=some false:=rfl
@[simp]theorem byT45:qcq PG 45=some 24:=rfl
@[simp]theorem alT45(H:Heap):alV PG H 45=some (.ptr H.n 0,H.new (.cells [.nilS])):=rfl
@[simp]theorem zeT45:qc0 PG 45=some (.nilS):=rfl
attribute [simp] Tryz.underlying45
@[simp 500]theorem rvF45(H:Heap) (cs:List AV) (o:Nat):qaw PG H 45 (.fptr cs o)=qck cs o:=rfl
@[simp 500]theorem rvP45(H:Heap) (b o:Nat):qaw PG H 45 (.ptr b o)=(H.get b).bind fun k=>k.rd.bind fun cs=>qck cs o:=rfl
@[simp]theorem slz45(sz:Nat) (e:AV) (r:List AV):qdm PG .eql 45 (.fslc sz (e::r)) .nilS=some (.bool false):=rfl
@[simp]theorem sln45(sz:Nat) (e:AV) (r:List AV):qdm PG .neq 45 (.fslc sz (e::r)) .nilS=some (.bool true):=rfl
@[simp]theorem slze45:qdm PG .eql 45 .eslc .nilS=some (.bool false):=rfl
@[simp]theorem slzz45:qdm PG .eql 45 .nilS .nilS=some (.bool true):=rfl
@[simp]theorem zaw:qce PG 71=some 2:=rfl
@[simp]theorem agT71:qia PG 71=some true:=rfl
@[simp]theorem zca:qcq PG 71=some 32:=rfl
@[simp]theorem alT71(H:Heap):alV PG H 71=some (.ptr H.n 0,H.new (.cells [.str [],.str []])):=rfl
@[simp]theorem zao:qc0 PG 71=some (.agg [.str [],.str []]):=rfl
attribute [simp] Tryz.underlying71
@[simp 500]theorem rvF71(H:Heap) (cs:List AV) (o:Nat):qaw PG H 71 (.fptr cs o)=(qex o 2 cs).bind fun cs=>some (.agg cs):=rfl
@[simp 500]theorem rvP71(H:Heap) (b o:Nat):qaw PG H 71 (.ptr b o)=(readCells H b o 2).bind fun cs=>some (.agg cs):=rfl
@[simp]theorem fa71_0(x:AV):qby PG 71 x 0=(match x with | .ptr b o=>some (.ptr b (o+0)) | .fptr cs o=>some (.fptr cs (o+0))|_=>none):=rfl
@[simp]theorem fd71_0(cs:List AV):qdt PG 71 (.agg cs) 0=qck cs 0:=rfl
@[simp]theorem fa71_1(x:AV):qby PG 71 x 1=(match x with | .ptr b o=>some (.ptr b (o+1)) | .fptr cs o=>some (.fptr cs (o+1))|_=>none):=rfl
@[simp]theorem fd71_1(cs:List AV):qdt PG 71 (.agg cs) 1=qck cs 1:=rfl
attribute [simp] opndO_s
def ctx(T:List (Entry PG)):Ctx:=mkC PG (fun f=>(qck keepTbl f).getD []) T
@[simp]theorem mkC_P(T:List (Entry PG)):(ctx T).P=PG:=rfl
theorem mixed:PG.follows .mixedOrders=true:=by decide +kernel
abbrev CA(T:List (Entry PG)):=CallAt (ctx T)
theorem qbf{T:List (Entry PG)}:CallOK (ctx T) (qb6 (ctx T)):=mkC_call _ _ T mixed
theorem qbh{T:List (Entry PG)} (l:List (Fact (ctx T))):CallOK (ctx T) (qcc l (qb6 (ctx T))):=qoy qbf l
def ldR(T:List (Entry PG)) (n:Nat) (r:Option Nat):Code->St->(Out->St->Prop)->Prop
 |.seq c d,s,Q=>ldR T n r c s (qam (fun s=>WpSr (ctx T) n r d s Q) Q)
 |.region _ ops false,s,Q=>∃s',qfs (ctx T) (qb6 (ctx T)) ops ops.toList { s with ts:=[] }=some s'/\Q .normal s'
 |c,s,Q=>WpSr (ctx T) n r c s Q
theorem ra{T:List (Entry PG)} {n:Nat} {r:Option Nat}:∀{c:Code} {s:St} {Q:Out->St->Prop},ldR T n r c s Q->WpSr (ctx T) n r c s Q:=fun {c}=>by
 induction c with
 |seq c d h1 _=>exact fun h=>qal (h1 h)
 |region id ops b=>cases b with
  |false=>exact fun h=>qah qbf h
  |true=>exact fun h=>h
 |_=>exact fun h=>h
@[simp]theorem ldR_seq{T:List (Entry PG)} {n:Nat} {r:Option Nat} {c d:Code} {s:St} {Q:Out->St->Prop}:ldR T n r (.seq c d) s Q=ldR T n r c s (qam (fun s=>WpSr (ctx T) n r d s Q) Q):=rfl
@[simp]theorem ldR_reg{T:List (Entry PG)} {n:Nat} {r:Option Nat} {id:Nat} {ops:Array Oper} {s:St} {Q:Out->St->Prop}:ldR T n r (.region id ops false) s Q=∃s',qfs (ctx T) (qb6 (ctx T)) ops ops.toList { s with ts:=[] }=some s'/\Q .normal s':=rfl
abbrev Str:=List UInt8
@[simp]theorem lenStr(H:Heap) (s:Str):qf6 PG H 9 (.str s)=some s.length:=by simp[qf6]
theorem qjz{s:Str} {i:Nat} (h:i < s.length):qhy PG 9 (.str s) (.int .i64 (i:Int))=some (.int .u8 (s[i]'h).toNat):=by simp[qhy,qbv h,qe0 h]
theorem slStr{H:Heap} {s:Str} {i:Nat} (h:i<=s.length):qdx PG H 9 (.str s) (some (.int .i64 (i:Int))) none none=some (.str (s.drop i)):=by simp[qdx,qzw,qd4,qbv (Nat.lt_succ_of_le h)]
theorem slStrOf{H:Heap} {s:Str} {i j:Nat} (hj:j<=s.length) (hi:i<=j):qdx PG H 9 (.str s) (some (.int .i64 (i:Int))) (some (.int .i64 (j:Int))) none=some (.str ((s.take j).drop i)):=by simp[qdx,qzw,qd4,qbv (Nat.lt_succ_of_le hj),qbv (Nat.lt_succ_of_le hi)]
theorem sl1{s:Str} {i:Nat} (h:i < s.length):(s.take (i+1)).drop i=[s[i]]:=by rw[List.take_succ_eq_append_getElem h,List.drop_append_of_le_length (by simp;omega),List.drop_of_length_le (by simp;omega),List.nil_append]
theorem slStr1{H:Heap} {s:Str} {i:Nat} (h:i < s.length):qdx PG H 9 (.str s) (some (.int .i64 (i:Int))) (some (.int .i64 ((i:Int)+1))) none=some (.str [s[i]]):=by have:=slStrOf (H:=H) (s:=s) (i:=i) (j:=i+1) (by omega) (by omega);rw[sl1 h]at this;simpa using this
theorem zgk{x y:Str} (h:x.length+y.length<=1000000000000):qdm PG .add 9 (.str x) (.str y)=some (.str (x++y)):=by simp[qdm,quv];omega
@[simp]theorem eqStr(x y:Str):qdm PG .eql 9 (.str x) (.str y)=some (.bool (decide (x=y))):=by simp[qdm,quv,qk4]
@[simp]theorem neStr(x y:Str):qdm PG .neq 9 (.str x) (.str y)=some (.bool !(decide (x=y))):=by simp[qdm,quv,qk4]
abbrev qcj(L:List Str):AV:=.fslc 1 (L.map .str)
theorem qmw(L:List Str):Elems 1 (L.map AV.str):=.map (sz:=1) (f:=AV.str) (by decide) (fun x=>⟨rfl,rfl,fun _=>rfl,fun h=>absurd rfl h⟩) L
theorem atS{L:List Str} {i:Nat} (h:i < L.length):qat PG 36 (qcj L) (.int .i64 (i:Int))=some (.fptr [.str L[i]] 0):=by simp[qat,qcj,qbv h,qj0 h,AV.cells]
theorem lenS{H:Heap} {L:List Str}:qf6 PG H 36 (qcj L)=some L.length:=by simp[qf6,qcj]
theorem qxt(x y:Str) (h:[AV.str x]=[AV.str y]):x=y:=by simp at h;exact h
theorem qtl(x y:Str × Str) (h:[AV.str x.1,AV.str x.2]=[AV.str y.1,AV.str y.2]):x=y:=by simp at h;exact Prod.ext h.1 h.2
theorem qzv{L M:List Str} (h:qcj L=qcj M):L=M:=by simp only[qcj,AV.fslc.injEq,true_and]at h;exact List.map_inj_right (fun _ _ h=>by simpa using h) |>.1 h
theorem inj_u8(x y:UInt8) (h:[AV.int .u8 (x.toNat:Int)]=[AV.int .u8 (y.toNat:Int)]):x=y:=by simp only[List.cons.injEq,AV.int.injEq,true_and,and_true]at h;exact UInt8.toNat_inj.1 (by omega)
def sp(c:UInt8):Bool:=decide ((c.toNat:Int)=9) || (decide ((c.toNat:Int)=10) || (decide ((c.toNat:Int)=12) || (decide ((c.toNat:Int)=13) || decide ((c.toNat:Int)=32))))
theorem c111{T:List (Entry PG)} (c:UInt8):CA T 111 [.int .u8 c.toNat] zH (.bool (sp c)) zH:=by
 refine qa0 (s0:=⟨[0,2],[.int .u8 c.toNat,uD],[],21,⟨0,[[]]⟩⟩) Tryz.func111 rfl rfl rfl ?_;apply ra;simp[zS];by_cases h1:(c.toNat:Int)=9<;>by_cases h2:(c.toNat:Int)=10<;>by_cases h3:(c.toNat:Int)=12<;>by_cases h4:(c.toNat:Int)=13<;>by_cases h5:(c.toNat:Int)=32;all_goals first
  |(exfalso;omega)
  | (repeat apply wq
     apply ra;simp[zS,h1,h2,h3,h4,h5];apply qa5;simp[zQ,Tryz.f111];exact qa2 rfl (by simp[sp,h1,h2,h3,h4,h5]))
def e111:Entry PG:=mkE 111 [[]] (fun x:UInt8=>[.int .u8 x.toNat]) (fun _=>True) (fun x=>.bool (sp x)) fun x _=>c111 (T:=[]) x
theorem k111{T:List (Entry PG)} (hT:qIn 111 T e111) (c:UInt8) (H:Heap):qb6 (ctx T) (.fn 111) [.int .u8 c.toNat] H=some (.bool (sp c),H):=
 qac hT inj_u8 c trivial rfl (by simp)
def qhm(st:List Str × Str) (c:UInt8):List Str × Str:=if sp c=true then (if st.2=[] then st.1 else st.1++[st.2],[]) else (st.1,st.2++[c])
def wst(s:Str):List Str × Str:=s.foldl qhm ([],[])
def wfin(st:List Str × Str):List Str:=if st.2=[] then st.1 else st.1++[st.2]
def qbq(s:Str):List Str:=wfin (wst s)
theorem ql2{s:Str} {i:Nat} (h:i < s.length):wst (s.take (i+1))=qhm (wst (s.take i)) s[i]:=by rw[List.take_succ_eq_append_getElem h];simp only[wst,List.foldl_append,List.foldl_cons,List.foldl_nil]
theorem zcn(s:Str):(wst s).2.length<=s.length/\(wst s).1.length<=s.length:=by
 have key:∀(s:Str) (st:List Str × Str),(s.foldl qhm st).2.length<=st.2.length+s.length/\(s.foldl qhm st).1.length<=st.1.length+s.length:=by
  intro s;induction s with
  |nil=>intro st;simp
  |cons c r ih=>
   intro st;have:=ih (qhm st c);simp only[List.foldl_cons,List.length_cons];have h1:(qhm st c).2.length<=st.2.length+1/\(qhm st c).1.length<=st.1.length+1:=by
    unfold qhm;split
    ·split<;>simp
    ·simp
   omega
 have:=key s ([],[]);simp only[wst];simp at this;exact this
theorem c113{T:List (Entry PG)} (hS:qIn 111 T e111) (s:Str) (hl:s.length<=1000000):CA T 113 [.str s] zH (qcx 0 1 ((qbq s).map .str)) ⟨1,[qdd 0 ((qbq s).map .str)]⟩:=by
 refine qa0 (s0:=⟨[0,2,3,4,5],[.str s,uD,uD,uD,uD],[],37,⟨0,[[]]⟩⟩) Tryz.func113 rfl rfl rfl ?_;apply ra;simp[zS];apply ra;simp[zS];apply ra;simp[zS];apply ra;simp[zS];refine qa7 (qb1 (fun i:Nat=>(⟨[0,2,3,4,5],[.str s,uD,qcx 0 1 ((wst (s.take i)).1.map .str),.str (wst (s.take i)).2,.int .i64 i],[],37,⟨1,[qdd 0 ((wst (s.take i)).1.map .str)]⟩⟩ : St))
  (fun i=>i<=s.length) (fun i=>s.length - i) [] [] 0 (Nat.zero_le _)
  ⟨rfl,rfl,rfl,by simp[qax,qas,qab,wst,qcx],.keep0 (by simp[wst,qdd])⟩ ?_)
 rintro i hi B hB;have hlen:=zcn (s.take i);simp only[List.length_take]at hlen;have same:∀(L:List Str),FitH 0 [(0,0)] [] ⟨1,[qdd 0 (L.map AV.str)]⟩ ⟨1,[qdd 0 (L.map AV.str)]⟩:=fun L=>by
  refine .same (by simp) (by simp) (by simp) (by simp) ?_ ?_
  ·cases L.map AV.str<;>simp[Heap.ents,qdd]
  ·cases he:L.map AV.str with
   |nil=>intro e he;simp[Heap.ents,qdd]at he
   |cons x r=>intro e hx;simp[Heap.ents,qdd]at hx;subst hx;exact⟨by simp,by simp[qdd,zG],qak (by rw[<- he];exact(qmw _).pure)⟩
 apply ra;simp[zS];refine qb0 rfl (fun h=>?_) fun h=>?_
 ·simp at h;apply qa4;simp;repeat apply wq
  apply qa7;have hstep:=ql2 h;cases hsp:sp s[i]with
  |false=>have hn:wst (s.take (i+1))=((wst (s.take i)).1,(wst (s.take i)).2++[s[i]]):=(by rw[hstep];simp[qhm,hsp]);apply ra;simp[zS,qjz h,k111 hS,hsp];apply qai rfl;apply ra;simp[zS,qbb (show i<=1000000000 by omega),slStr1 h,zgk (show (wst (s.take i)).2.length+[s[i]].length<=1000000000000 by simp;omega)];apply qar;simp;apply ra;simp[zS,qbb (show i<=1000000000 by omega)];exact hB _ (i+1) (by omega) (by omega) ⟨[(0,0)],[],rfl,rfl,rfl,by rw[hn];simp[qax,qas,qb2,qh3,qab],by rw[hn];exact same _⟩
  |true=>
   apply ra;simp[zS,qjz h,k111 hS,hsp];apply qag rfl;apply qa4;simp;by_cases hc:(wst (s.take i)).2=[]
   ·have hn:wst (s.take (i+1))=((wst (s.take i)).1,[]):=(by rw[hstep];simp[qhm,hsp,hc]);apply ra;simp[zS,hc];apply qag rfl;apply qa4;simp;apply ra;simp[zS];apply ra;simp[zS,qbb (show i<=1000000000 by omega)];exact hB _ (i+1) (by omega) (by omega) ⟨[(0,0)],[],rfl,rfl,rfl,by rw[hn];simp[qax,qas,qb2,qh3,qab],by rw[hn];exact same _⟩
   ·have hn:wst (s.take (i+1))=((wst (s.take i)).1++[(wst (s.take i)).2],[]):=(by rw[hstep];simp[qhm,hsp,hc]);have happ:=qgz (P:=PG) (elem:=9) (b:=0) (t:=1) (m:=2) (es:=(wst (s.take i)).1.map .str) (cs:=[.str (wst (s.take i)).2]) (g:=[]) (fs:=[]) szT9 byT9 zeT9 rfl (by omega) (by omega) rfl rfl (qmw _) (by simp;omega) (by omega) (by simp) (by simp);rw[List.append_nil]at happ;apply ra;simp[zS,hc];apply qai rfl;apply ra;simp[zS,happ];apply ra;simp[zS];apply ra;simp[zS,qbb (show i<=1000000000 by omega)];have hne:(wst (s.take (i+1))).1.map AV.str≠[]:=(by rw[hn];simp);refine hB _ (i+1) (by omega) (by omega) ⟨[(2,0)],[],rfl,rfl,rfl,?_,.grown (qmw _) hne ?_⟩
    ·rw[qbd hne,hn];simp[qax,qas,qb2,qab]
    ·rw[hn,List.map_append,qbj];simp[zG,qa6]
 ·simp at h;apply qar;simp;have hs:s.take i=s:=List.take_of_length_le h;rw[hs]at hlen ⊢;by_cases hc:(wst s).2=[]
  ·have hv:qbq s=(wst s).1:=(by simp[qbq,wfin,hc]);apply ra;simp[zS,hc];apply qag rfl;apply qa4;simp;apply ra;simp[zS];apply qa5;simp[zQ,Tryz.f113];rw[hv];exact⟨[(0,0)],[],qh3 (by simp[qb2]),same _⟩
  ·have hv:qbq s=(wst s).1++[(wst s).2]:=(by simp[qbq,wfin,hc]);have happ:=qgz (P:=PG) (elem:=9) (b:=0) (t:=1) (m:=2) (es:=(wst s).1.map .str) (cs:=[.str (wst s).2]) (g:=[]) (fs:=[]) szT9 byT9 zeT9 rfl (by omega) (by omega) rfl rfl (qmw _) (by simp;omega) (by omega) (by simp) (by simp);rw[List.append_nil]at happ;apply ra;simp[zS,hc];apply qai rfl;apply ra;simp[zS,happ];apply ra;simp[zS];apply qa5;simp[zQ,Tryz.f113];have hne:(qbq s).map AV.str≠[]:=(by rw[hv];simp);refine⟨[(2,0)],[],?_,.grown (qmw _) hne ?_⟩
   ·rw[qbd hne,hv];simp[qax,qas,qb2,qab]
   ·rw[hv,List.map_append,qbj];simp[zG,qa6]
theorem c112{T:List (Entry PG)} (L:List Str) (x:Str) (hl:L.length<=1000000):CA T 112 [qcj L,.str x] zH (.bool (decide (x∈L))) zH:=by
 refine qa0 (s0:=⟨[0,1,4,5],[qcj L,.str x,uD,uD],[],18,⟨0,[[]]⟩⟩) Tryz.func112 rfl rfl rfl ?_;apply ra;simp[zS];apply ra;simp[zS];refine qa7 (qb1 (fun i:Nat=>(⟨[0,1,4,5],[qcj L,.str x,uD,.int .i64 i],[],18,⟨0,[[]]⟩⟩ : St))
  (fun i=>i<=L.length/\decide (x∈L)=decide (x∈L.drop i)) (fun i=>L.length - i) [] [] 0 ⟨Nat.zero_le _,by simp⟩ ⟨rfl,rfl,rfl,by simp[qax,qas,qab,qa9,qcj],FitH.nothing⟩ ?_)
 rintro i ⟨hi,hx⟩ B hB;apply ra;simp[zS,lenS];refine qb0 rfl (fun h=>?_) fun h=>?_
 ·simp at h;apply qa4;simp;repeat apply wq
  apply qa7;apply ra;simp[zS,atS h];refine qb0 rfl (fun h2=>?_) fun h2=>?_
  ·simp at h2;apply ra;simp[zS];apply qa5;simp[zQ,Tryz.f112];exact qa2 rfl (by rw[hx,List.drop_eq_getElem_cons h];simp[h2])
  ·simp at h2;apply qa4;simp;apply ra;simp[zS,qbb (show i<=1000000000 by omega)];exact hB _ (i+1) (by omega) ⟨by omega,by rw[hx,List.drop_eq_getElem_cons h];simp only[List.mem_cons,show ¬ x=L[i] from fun e=>h2 e.symm,false_or]⟩ ⟨[],[],⟨rfl,rfl,rfl,by simp[qax,qas,qab,qa9,qcj],FitH.nothing⟩⟩
 ·simp at h;apply qar;simp;apply ra;simp[zS];apply qa5;simp[zQ,Tryz.f112];exact qa2 rfl (by rw[hx,List.drop_eq_nil_of_le h];simp)
def e113:Entry PG:=mkE 113 [[]] (fun x:Str=>[.str x]) (fun x=>x.length<=1000000) (fun x=>qcj (qbq x)) fun x h=>(c113 (T:=[e111]) rfl x h).froze (qmw _)
theorem k113{T:List (Entry PG)} (hT:qIn 113 T e113) {s:Str} (hl:s.length<=1000000) (H:Heap):qb6 (ctx T) (.fn 113) [.str s] H=some (qcj (qbq s),H):=
 qd1 hT qxt s hl (by simp[qa9,qab]) (by simp) H
def e112:Entry PG:=mkE 112 [[1],[]] (fun x:List Str × Str=>[qcj x.1,.str x.2]) (fun x=>x.1.length<=1000000) (fun x=>.bool (decide (x.2∈x.1))) fun x h=>c112 (T:=[]) x.1 x.2 h
theorem k112{T:List (Entry PG)} (hT:qIn 112 T e112) {L:List Str} (x:Str) (hl:L.length<=1000000) (H:Heap):qb6 (ctx T) (.fn 112) [qcj L,.str x] H=some (.bool (decide (x∈L)),H):=
 qac hT (fun x y h=>by simp at h;exact Prod.ext (qzv (by simpa[qcj]using h.1)) h.2) (L,x) hl rfl (by simp)
def inW(w x:Str):Bool:=decide (x∈qbq w)
theorem qrj(s:Str):(qbq s).length<=s.length+1:=by have:=zcn s;unfold qbq wfin;split<;>simp<;>omega
theorem c71{T:List (Entry PG)} (h1:qIn 113 T e113) (h2:qIn 112 T e112) (w x:Str) (hl:w.length<=900000):CA T 71 [.str w,.str x] zH (.bool (inW w x)) zH:=by refine qa0 (s0:=⟨[0,1,4],[.str w,.str x,uD],[],9,⟨0,[[]]⟩⟩) Tryz.func71 rfl rfl rfl ?_;apply ra;simp[zS];have hs:=qrj w;apply ra;simp[zS,k113 h1 (show w.length<=1000000 by omega),k112 h2 x (show (qbq w).length<=1000000 by omega)];apply qa5;simp[zQ,Tryz.f71];exact qa2 rfl (by simp[inW])
def e71:Entry PG:=mkE 71 [[],[]] (fun x:Str × Str=>[.str x.1,.str x.2]) (fun x=>x.1.length<=900000) (fun x=>.bool (inW x.1 x.2)) fun x h=>c71 (T:=[e113,e112]) rfl rfl x.1 x.2 h
theorem k71{T:List (Entry PG)} (hT:qIn 71 T e71) {w:Str} (x:Str) (hl:w.length<=900000) (H:Heap):qb6 (ctx T) (.fn 71) [.str w,.str x] H=some (.bool (inW w x),H):=
 qac hT qtl (w,x) hl rfl (by simp)
structure WordAt (s x:Str) (p:Nat):Prop where
 room:p+x.length<=s.length
 occ:(s.drop p).take x.length=x
 pre:∀c,0 < p->s[p - 1]? = some c->sp c=true
 post:∀c,s[p+x.length]? = some c->sp c=true
structure WInv (s:Str) (i:Nat) (st:List Str × Str):Prop where
 le:i<=s.length
 words:∀w,w∈st.1->∃p,WordAt s w p
 len:st.2.length<=i
 cur:(s.take i).drop (i - st.2.length)=st.2
 pre:∀c,0 < i - st.2.length->s[i - st.2.length - 1]? = some c->sp c=true
theorem winv{s:Str}:∀(i:Nat),i<=s.length->WInv s i (wst (s.take i))
 |0,_=>by
  have e:wst (s.take 0)=([],[]):=by simp[wst]
  rw[e];exact⟨Nat.zero_le _,fun w h=>(by cases h),Nat.le_refl _,rfl,fun c h=>absurd h (Nat.lt_irrefl 0)⟩
 |i+1,hi=>by
  have ih:=winv (s:=s) i (by omega);have hlt:i < s.length:=by omega
  rw[ql2 hlt];generalize wst (s.take i)=st at ih;obtain⟨W,c⟩:=st;have ihl:=ih.len;have ihc:=ih.cur;have ihp:=ih.pre;simp only at ihl ihc ihp;unfold qhm;by_cases hs:sp s[i]=true
  ·rw[if_pos hs];refine⟨hi,?_,Nat.zero_le _,?_,?_⟩
   ·intro w hw;simp only at hw;by_cases hc:c=[]
    ·rw[if_pos hc]at hw;exact ih.words w hw
    ·rw[if_neg hc]at hw;rcases List.mem_append.1 hw with hw|hw
     ·exact ih.words w hw
     ·rw[List.mem_singleton]at hw;subst hw;refine⟨i - w.length,by omega,?_,fun d h1 h2=>ihp d h1 h2,fun d h=>?_⟩
      ·rw[List.drop_take,show i - (i - w.length)=w.length by omega]at ihc;exact ihc
      ·rw[show i - w.length+w.length=i by omega,List.getElem?_eq_getElem hlt,sj]at h;rw[<- h];exact hs
   ·simp
   ·intro d _ h;simp only[List.length_nil,Nat.sub_zero,Nat.add_sub_cancel]at h;rw[List.getElem?_eq_getElem hlt,sj]at h;rw[<- h];exact hs
  ·rw[if_neg hs];refine⟨hi,ih.words,by simp;omega,?_,?_⟩
   ·simp only[List.length_append,List.length_singleton];rw[show i+1 - (c.length+1)=i - c.length by omega,List.take_succ_eq_append_getElem hlt,List.drop_append_of_le_length (by simp;omega),ihc]
   ·simp only[List.length_append,List.length_singleton];rw[show i+1 - (c.length+1)=i - c.length by omega];exact ihp
theorem word_at{s x:Str} (h:x∈qbq s):∃p,WordAt s x p:=by
 have inv:=winv (s:=s) s.length (Nat.le_refl _);rw[List.take_of_length_le (Nat.le_refl _)]at inv;unfold qbq wfin at h;generalize wst s=st at *;obtain⟨W,c⟩:=st;have il:=inv.len;have ic:=inv.cur;have ip:=inv.pre;simp only at il ic ip h;by_cases hc:c=[]
 ·rw[if_pos hc]at h;exact inv.words x h
 ·rw[if_neg hc]at h;rcases List.mem_append.1 h with h|h
  ·exact inv.words x h
  ·rw[List.mem_singleton]at h;subst h;refine⟨s.length - x.length,by omega,?_,ip,fun d h=>?_⟩
   ·rw[List.take_of_length_le (Nat.le_refl _)]at ic;rw[ic,List.take_of_length_le (Nat.le_refl _)]
   ·rw[show s.length - x.length+x.length=s.length by omega,List.getElem?_eq_none (Nat.le_refl _)]at h;cases h
theorem word_ne{s x:Str} (h:x∈qbq s):x≠[]:=by
 have key:∀(l:Str) (st:List Str × Str),(∀w,w∈st.1->w≠[])->∀w,w∈(l.foldl qhm st).1->w≠[]:=by
  intro l;induction l with
  |nil=>intro st h;exact h
  |cons c r ih=>
   intro st h;rw[List.foldl_cons];refine ih _ ?_;intro w hw;unfold qhm at hw;split at hw
   ·simp only at hw;split at hw
    ·exact h w hw
    ·rename_i hn;rcases List.mem_append.1 hw with hw|hw
     ·exact h w hw
     ·rw[List.mem_singleton]at hw;rw[hw];exact hn
   ·exact h w hw
 unfold qbq wfin at h;split at h
 ·exact key s ([],[]) (fun w h=>by cases h) x h
 ·rename_i hn;rcases List.mem_append.1 h with h|h
  ·exact key s ([],[]) (fun w h=>by cases h) x h
  ·rw[List.mem_singleton]at h;rw[h];exact hn
def qxm:Go.Shelf.Ren:=⟨fun | 143=>149 | 219=>182 | 217=>192 | 225=>179 | 224=>178 | 267=>195 | 266=>198 | 314=>200|n=>n,fun | 9=>9 | 3=>3 | 4=>4 | 5=>5 | 46=>130 | 146=>164 | 51=>163|n=>n,fun | 1=>2|n=>n⟩
theorem lays143:Go.Proofs.Lays.n143 PG qxm where
 mixed:=by kernel_rfl
 f143:=Tryz.func149.trans (congrArg some (by kernel_rfl))
 f217:=Tryz.func192.trans (congrArg some (by kernel_rfl))
 f219:=Tryz.func182.trans (congrArg some (by kernel_rfl))
 f224:=Tryz.func178.trans (congrArg some (by kernel_rfl))
 f225:=Tryz.func179.trans (congrArg some (by kernel_rfl))
 f266:=Tryz.func198.trans (congrArg some (by kernel_rfl))
 f267:=Tryz.func195.trans (congrArg some (by kernel_rfl))
 f314:=Tryz.func200.trans (congrArg some (by kernel_rfl))
 t3:=Tryz.underlying3
 a3:=Tryz.isAgg3
 z3:=Tryz.sizeOf3
 v3:=Tryz.zeroValue3
 t4:=Tryz.underlying4
 a4:=Tryz.isAgg4
 z4:=Tryz.sizeOf4
 v4:=Tryz.zeroValue4
 t5:=Tryz.underlying5
 a5:=Tryz.isAgg5
 z5:=Tryz.sizeOf5
 v5:=Tryz.zeroValue5
 t9:=Tryz.underlying9
 a9:=Tryz.isAgg9
 z9:=Tryz.sizeOf9
 v9:=Tryz.zeroValue9
 t46:=Tryz.underlying130
 a46:=Tryz.isAgg130
 z46:=Tryz.sizeOf130
 v46:=Tryz.zeroValue130
 t51:=Tryz.underlying163
 a51:=Tryz.isAgg163
 z51:=Tryz.sizeOf163
 v51:=Tryz.zeroValue163
 t146:=Tryz.underlying164
 a146:=Tryz.isAgg164
 z146:=Tryz.sizeOf164
 v146:=Tryz.zeroValue164
 g1:=by kernel_rfl
theorem index_at(s sub:ByteArray) (m:Int) (w:World) (hs:s.size < 4294967281) (hm:w.cell? ⟨2,0,none⟩=some (.int .i64 m)) :
  Calls PG 149 #[.string s,.string sub] w fun e w'=>e=.returned (.int .i64 (Lib.index s.data.toList sub.data.toList))/\w'=w:=Any.strings_Index lays143 s sub m w hs hm
theorem c149{T:List (Entry PG)} (s t:Str) (hl:s.length<=1000000):CA T 149 [.str s,.str t] zH (.int .i64 (Lib.index s t)) zH:=by
 intro ρ w xs sm hx
 match xs,hx with
 |[x,y],hx=>
  have h0:=hx.2 0 (by simp) (by simp);have h1:=hx.2 1 (by simp) (by simp);simp only[List.getElem_cons_zero,List.getElem_cons_succ]at h0 h1;cases h0;cases h1;obtain⟨hB,m,hm⟩:=ρ.gl 2 (by simp[globs]);have hc:w.cell? ⟨2,0,none⟩=some (.int .i64 m):=by rw[World.cell?,sm.below 2 hB];exact hm
  have hrun:(callFunc 149 #[.string ⟨s.toArray⟩,.string ⟨t.toArray⟩]).run (ctx T).P w=.ok (.enter 149 #[.string ⟨s.toArray⟩,.string ⟨t.toArray⟩]) w:=by
   have hf:(ctx T).P.funcs[149]? = some Tryz.f149:=Tryz.func149
   have hn : ¬ Tryz.f149.name = "runtime.NumGoroutine" := by decide +kernel
   simp[callFunc,hf,hn,Tryz.f149]
  refine .inr ⟨149,_,hrun,callsIn_wide.2 ((index_at ⟨s.toArray⟩ ⟨t.toArray⟩ m w ?_ hc).mono ?_)⟩
  ·show s.toArray.size < _;simp;omega
  ·rintro e w' ⟨rfl,rfl⟩;exact⟨_,ρ,rfl,.int _ _,sm,Step.refl _ _ _⟩
def e149:Entry PG:=mkE 149 [[],[]] (fun x:Str × Str=>[.str x.1,.str x.2]) (fun x=>x.1.length<=1000000) (fun x=>.int .i64 (Lib.index x.1 x.2)) fun x h=>c149 (T:=[]) x.1 x.2 h
theorem k149{T:List (Entry PG)} (hT:qIn 149 T e149) {s t:Str} (h1:s.length<=1000000) (H:Heap):qb6 (ctx T) (.fn 149) [.str s,.str t] H=some (.int .i64 (Lib.index s t),H):=
 qac hT qtl (s,t) h1 rfl (by simp)
theorem c150{T:List (Entry PG)} (c:UInt8):CA T 150 [.int .u8 c.toNat] zH (.bool (sp c)) zH:=by
 refine qa0 (s0:=⟨[0,2,3,4],[.int .u8 c.toNat,uD,uD,uD],[],10,⟨0,[[]]⟩⟩) Tryz.func150 rfl rfl rfl ?_;apply ra;simp[zS];apply ra;simp[zS];apply qa7;by_cases h1:(c.toNat:Int)=9
 ·(repeat (first
   |(apply qal)
   |(apply qa7)
   |(apply qch;simp only[qam,qaj])
   |((refine qah qbf ?_);simp[zS,h1])
   |apply qai rfl
   |apply qag rfl
   |((apply qa4);simp only[qam,qaj])
   |((apply qar);simp)))
  apply qa5;simp[zQ,Tryz.f150];exact qa2 rfl (by simp[sp,h1])
 by_cases h2:(c.toNat:Int)=10
 ·(repeat (first
   |(apply qal)
   |(apply qa7)
   |(apply qch;simp only[qam,qaj])
   |((refine qah qbf ?_);simp[zS,h1,h2])
   |apply qai rfl
   |apply qag rfl
   |((apply qa4);simp only[qam,qaj])
   |((apply qar);simp)))
  apply qa5;simp[zQ,Tryz.f150];exact qa2 rfl (by simp[sp,h2])
 by_cases h3:(c.toNat:Int)=12
 ·(repeat (first
   |(apply qal)
   |(apply qa7)
   |(apply qch;simp only[qam,qaj])
   |((refine qah qbf ?_);simp[zS,h1,h2,h3])
   |apply qai rfl
   |apply qag rfl
   |((apply qa4);simp only[qam,qaj])
   |((apply qar);simp)))
  apply qa5;simp[zQ,Tryz.f150];exact qa2 rfl (by simp[sp,h3])
 by_cases h4:(c.toNat:Int)=13
 ·(repeat (first
   |(apply qal)
   |(apply qa7)
   |(apply qch;simp only[qam,qaj])
   |((refine qah qbf ?_);simp[zS,h1,h2,h3,h4])
   |apply qai rfl
   |apply qag rfl
   |((apply qa4);simp only[qam,qaj])
   |((apply qar);simp)))
  apply qa5;simp[zQ,Tryz.f150];exact qa2 rfl (by simp[sp,h4])
 by_cases h5:(c.toNat:Int)=32
 ·(repeat (first
   |(apply qal)
   |(apply qa7)
   |(apply qch;simp only[qam,qaj])
   |((refine qah qbf ?_);simp[zS,h1,h2,h3,h4,h5])
   |apply qai rfl
   |apply qag rfl
   |((apply qa4);simp only[qam,qaj])
   |((apply qar);simp)))
  apply qa5;simp[zQ,Tryz.f150];exact qa2 rfl (by simp[sp,h5])
 ·(repeat (first
   |(apply qal)
   |(apply qa7)
   |(apply qch;simp only[qam,qaj])
   |((refine qah qbf ?_);simp[zS,h1,h2,h3,h4,h5])
   |apply qai rfl
   |apply qag rfl
   |((apply qa4);simp only[qam,qaj])
   |((apply qar);simp)))
  apply qa5;simp[zQ,Tryz.f150];exact qa2 rfl (by simp[sp,h1,h2,h3,h4,h5])
def e150:Entry PG:=mkE 150 [[]] (fun x:UInt8=>[.int .u8 x.toNat]) (fun _=>True) (fun x=>.bool (sp x)) fun x _=>c150 (T:=[]) x
theorem k150{T:List (Entry PG)} (hT:qIn 150 T e150) (c:UInt8) (H:Heap):qb6 (ctx T) (.fn 150) [.int .u8 c.toNat] H=some (.bool (sp c),H):=
 qac hT inj_u8 c trivial rfl (by simp)
def zd5:List AV->List Str->Bool
 |[],l=>match l with
  |[]=>true
  |_::_=>false
 |v::r,l=>match v,l with
  |.str s,t::q=>match eqB s t with
   |true=>zd5 r q
   |false=>false
  |_,_=>false
theorem qyv:∀{cs:List AV} {L:List Str},zd5 cs L=true->cs=L.map AV.str
 |[],[],_=>rfl
 |[],_::_,h=>by simp[zd5]at h
 |v::r,L,h=>by
  cases v<;>cases L<;>simp only[zd5]at h<;>first|(cases h;done)|skip
  rename_i s t q;split at h
  next he=>rw[qk4]at he;simp only[decide_eq_true_eq]at he;rw[he,qyv h];rfl
  ·cases h
def qpa(L:List Str):Option (AV × Heap)->Bool
 |some (.slc b 0 len _,H)=>match H.get b with
  |some (.cells cs)=>match zd5 cs L with
   |true=>Nat.beq len L.length
   |false=>false
  |_=>false
 |_=>false
theorem qy8{T:List (Entry PG)} {f:FuncId} {args:List AV} {L:List Str} (h:qpa L (qqw (ctx T) 100000 (.fn f) args zH)=true):CA T f args zH (qcj L) zH:=by
 revert h;cases hr:qqw (ctx T) 100000 (.fn f) args zH with
 |none=>intro h;cases h
 |some r=>
  obtain⟨v,H'⟩:=r;intro h;cases v<;>simp only[qpa]at h<;>first|(cases h;done)|skip
  rename_i b o len cap;cases o with
  |succ o=>simp[qpa]at h
  |zero=>
   simp only[qpa]at h;split at h
   ·rename_i cs hg;split at h
    ·rename_i hs;have hcs:=qyv hs;have hlen:=Nat.eq_of_beq_eq_true h;refine((qyc mixed (qzm _ _ _) 100000).fn f args zH _ _ hr).freeze (Φ:=[(b,cs)]) ?_ (.froze (by simp) fun x hx=>?_)
     ·simp only[qcj,qas];refine .inl ⟨cs,by simp[qca],?_,by simp[hlen],(qmw L).size⟩;have h1:=qt1 (qmw L) (k:=L.length) (by simp);rw[List.take_of_length_le (by simp)]at h1;have h2:qa6 (L.map AV.str)=cs:=by
       rw[hcs];clear h1 hcs hs h hlen;induction L with
       |nil=>rfl
       |cons x r ih=>simp only[List.map_cons,qa6,ih];rfl
      rw[h2]at h1 ⊢;rw[hlen];exact h1
     ·simp only[List.mem_singleton]at hx;subst hx;have hp:qa9 cs=true:=by
       rw[hcs];clear hcs hs h hlen;induction L with
       |nil=>rfl
       |cons x r ih=>simpa[qa9,qab]using ih
      exact⟨cs,hg,qak hp,hp⟩
    ·cases h
   ·cases h
theorem occ_iff{s x:Str} {i:Nat}:Lib.occAt s x i=true↔(s.drop i).take x.length=x:=by unfold Lib.occAt;rw[List.isPrefixOf_iff_prefix,List.prefix_iff_eq_take];exact eq_comm
theorem c122{T:List (Entry PG)} (hI:qIn 149 T e149) (hS:qIn 150 T e150) (W x:Str) (hl:W.length<=100000) (hx1:x.length<=1000000000)
  (hsp:CA T 152 [.str W] zH (qcj (qbq W)) zH) (hco:CA T 151 [qcj (qbq W),.str x] zH (.bool (decide (x∈qbq W))) zH) :
  CA T 122 [.str W,.str x] zH (.bool (inW W x)) zH:=by
 have h1:=hsp.lift (by simp[qa9,qab]) ⟨0,[[]]⟩;have h2:=hco.lift (by simp[qcj,qa9,qab]) ⟨0,[[]]⟩;refine qa0 (s0:=⟨[0,1,4,5,6,7,8],[.str W,.str x,uD,uD,uD,uD,uD],[],52,⟨0,[[]]⟩⟩) Tryz.func122 rfl rfl rfl ?_;apply ra;simp[zS];by_cases hx:x=[]
 ·apply ra;simp[zS,hx];apply qai rfl;apply ra;simp[zS];apply qa5;simp[zQ,Tryz.f122];exact qa2 rfl (by simp only[inW];symm;simp;intro h;exact word_ne h rfl)
 apply ra;simp[zS,hx];apply qag rfl;apply qa4;simp;have hx0:0 < x.length:=List.length_pos_iff.2 hx;apply ra;simp[zS];refine qa7 (qb1 (fun i:Nat=>(⟨[0,1,4,5,6,7,8],[.str W,.str x,uD,.int .i64 i,uD,uD,uD],[],52,⟨0,[[]]⟩⟩ : St))
  (fun i=>i<=W.length/\(x∈qbq W->∃p,i<=p/\WordAt W x p)) (fun i=>W.length+1 - i) [] [] 0 ⟨Nat.zero_le _,fun h=>let ⟨p,hp⟩:=word_at h;⟨p,Nat.zero_le _,hp⟩⟩ ⟨rfl,rfl,rfl,by simp[qax,qas,qab,qa9],FitH.nothing⟩ ?_)
 rintro i ⟨hi,hw⟩ B hB;have hd:(W.drop i).length<=1000000:=by simp;omega
 apply qa7;rcases Lib.index_spec (W.drop i) x with⟨h0,hn⟩|⟨k,h0,hk,ho,hno⟩
 ·have hnot:¬ x∈qbq W:=fun h=>by obtain⟨p,hp,hwa⟩:=hw h;have hr:=hwa.room;have:=hn (p - i) (by simp;omega);have h3:Lib.occAt (W.drop i) x (p - i)=true:=occ_iff.2 (by rw[List.drop_drop,show i+(p - i)=p by omega];exact hwa.occ);rw[h3]at this;cases this
  apply ra;simp[zS,slStr hi,k149 hI hd,h0];apply ra;simp[zS];apply qai rfl;apply ra;simp[zS];apply qa5;simp[zQ,Tryz.f122];exact qa2 rfl (by simp[inW,hnot])
 ·have hk0:¬ (k:Int) < 0:=by omega
  obtain⟨j,hj⟩ : ∃j,j=i+k:=⟨_,rfl⟩;have ho':=occ_iff.1 ho;rw[List.drop_drop,<- hj]at ho';have hroom:j+x.length<=W.length:=by have:=congrArg List.length ho';simp at this;simp at hk;omega
  have a1:wr .i64 ((i:Int)+(k:Int))=some (j:Int):=by rw[qdr (by omega) (by omega),hj];simp
  obtain⟨q,hq⟩ : ∃q,q=j+x.length:=⟨_,rfl⟩;have a2:wr .i64 ((j:Int)+(x.length:Int))=some (q:Int):=by rw[qdr (by omega) (by omega),hq];simp
  have nxt:∀s',¬ WordAt W x j->(∃σ Φ,Fit 0 σ Φ s' (⟨[0,1,4,5,6,7,8],[.str W,.str x,uD,.int .i64 ((j+1:Nat):Int),uD,uD,uD],[],52,⟨0,[[]]⟩⟩ : St))->B s':=fun s' hno2 hf=>
   hB s' (j+1) (by omega) ⟨by omega,fun h=>by
    obtain⟨p,hp,hwa⟩:=hw h;refine⟨p,?_,hwa⟩;have hr:=hwa.room;apply Decidable.byContradiction;intro hlt;rcases Nat.lt_or_ge p j with hpj|hpj
    ·have h3:=hno (p - i) (by omega);have h4:Lib.occAt (W.drop i) x (p - i)=true:=occ_iff.2 (by rw[List.drop_drop,show i+(p - i)=p by omega];exact hwa.occ);rw[h4]at h3;cases h3
    ·have:p=j:=(by omega);subst this;exact hno2 hwa⟩ hf
  apply ra;simp[zS,slStr hi,k149 hI hd,h0];apply ra;simp[zS,hk0];apply qag rfl;apply qa4;simp;apply ra;simp[zS,a1];apply ra;simp[zS,a2];have kS:=fun c H=>k150 hS c H;by_cases c0:j=0
  ·have a4:wr .i64 1=some ((j+1:Nat):Int):=(by rw[c0];rfl);by_cases d0:q=W.length
   ·apply ra;simp[zS,c0,d0];apply qai rfl;repeat apply wq
    refine qah (qbh [⟨152,_,_,_,_,h1⟩,⟨151,_,_,_,_,h2⟩]) ?_;simp[zS,qcc,qcj];apply qa5;simp[zQ,Tryz.f122];exact qa2 rfl (by simp[inW])
   ·have hql:q < W.length:=(by omega);have d0i:¬ (q:Int)=(W.length:Int):=(by omega);rcases Bool.eq_false_or_eq_true (sp W[q])with d1|d1
    ·apply ra;simp[zS,c0,d0i,qjz hql,kS,d1];apply qai rfl;repeat apply wq
     refine qah (qbh [⟨152,_,_,_,_,h1⟩,⟨151,_,_,_,_,h2⟩]) ?_;simp[zS,qcc,qcj];apply qa5;simp[zQ,Tryz.f122];exact qa2 rfl (by simp[inW])
    ·apply ra;simp[zS,c0,d0i,qjz hql,kS,d1];apply qag rfl;apply qa4;simp;apply ra;simp[zS,a4];exact nxt _ (fun hwa=>by have:=hwa.post _ (by rw[<- hq];exact List.getElem?_eq_getElem hql);rw[d1]at this;cases this) ⟨[],[],⟨rfl,rfl,rfl,by simp[qax,qas,qab,qa9],FitH.nothing⟩⟩
  ·obtain⟨q1,hq1⟩ : ∃q1,q1+1=j:=⟨j - 1,by omega⟩;have hq1l:q1 < W.length:=(by omega);have a3:wr .i64 ((j:Int) - 1)=some (q1:Int):=(by rw[qdr (by omega) (by omega)];congr 1;omega);rcases Bool.eq_false_or_eq_true (sp W[q1])with c1|c1
   ·skip
    by_cases d0:q=W.length
    ·apply ra;simp[zS,c0,a3,qjz hq1l,kS,c1,d0];apply qai rfl;repeat apply wq
     refine qah (qbh [⟨152,_,_,_,_,h1⟩,⟨151,_,_,_,_,h2⟩]) ?_;simp[zS,qcc,qcj];apply qa5;simp[zQ,Tryz.f122];exact qa2 rfl (by simp[inW])
    ·have hql:q < W.length:=(by omega);have d0i:¬ (q:Int)=(W.length:Int):=(by omega);rcases Bool.eq_false_or_eq_true (sp W[q])with d1|d1
     ·apply ra;simp[zS,c0,a3,qjz hq1l,kS,c1,d0i,qjz hql,kS,d1];apply qai rfl;repeat apply wq
      refine qah (qbh [⟨152,_,_,_,_,h1⟩,⟨151,_,_,_,_,h2⟩]) ?_;simp[zS,qcc,qcj];apply qa5;simp[zQ,Tryz.f122];exact qa2 rfl (by simp[inW])
     ·apply ra;simp[zS,c0,a3,qjz hq1l,kS,c1,d0i,qjz hql,kS,d1];apply qag rfl;apply qa4;simp;apply ra;simp[zS,qbb (show j<=1000000000 by omega)];exact nxt _ (fun hwa=>by have:=hwa.post _ (by rw[<- hq];exact List.getElem?_eq_getElem hql);rw[d1]at this;cases this) ⟨[],[],⟨rfl,rfl,rfl,by simp[qax,qas,qab,qa9],FitH.nothing⟩⟩
   ·apply ra;simp[zS,c0,a3,qjz hq1l,kS,c1];apply qag rfl;apply qa4;simp;apply ra;simp[zS,qbb (show j<=1000000000 by omega)];exact nxt _ (fun hwa=>by have:=hwa.pre _ (by omega) (by rw[<- hq1,Nat.add_sub_cancel];exact List.getElem?_eq_getElem hq1l);rw[c1]at this;cases this) ⟨[],[],⟨rfl,rfl,rfl,by simp[qax,qas,qab,qa9],FitH.nothing⟩⟩
def qxs:Option (AV × Heap)->Bool
 |some (.bool b,_)=>b
 |_=>false
def eqN:Str->Str->Bool
 |[],l=>match l with|[]=>true|_::_=>false
 |a::x,l=>match l with
  |[]=>false
  |b::y=>match Nat.beq a.toNat b.toNat with
   |true=>eqN x y
   |false=>false
theorem eqN_eq:∀(x y:Str),eqN x y=decide (x=y)
 |[],[]=>rfl
 |[],_::_=>by simp[eqN]
 |_::_,[]=>by simp[eqN]
 |a::x,b::y=>by
  unfold eqN;simp only;split
  next h=>have:=UInt8.toNat_inj.1 (Nat.eq_of_beq_eq_true h);subst this;rw[eqN_eq];simp
  next h=>have:¬ a=b:=fun e=>(by subst e;rw[Nat.beq_refl]at h;cases h);simp[this]
def leftOf:Str->Str->Option Str
 |[],x=>some x
 |a::c,x=>match x with
  |[]=>none
  |b::x=>if b=a then leftOf c x else none
abbrev At1:=Str × Str
def qbw(a:At1):AV:=.agg [.str a.1,.str a.2]
def qaf(L:List At1):AV:=.fslc 2 (L.map qbw)
@[simp]theorem cells_aAttr(a:At1):(qbw a).cells=[.str a.1,.str a.2]:=rfl
@[simp]theorem pure_aAttr(a:At1):qab (qbw a)=true:=by simp[qbw,qab,qa9]
@[simp]theorem pure_aAttrs(L:List At1):qab (qaf L)=true:=by simp[qaf,qab]
@[simp]theorem ok_aAttr(a:At1):okV (qbw a)=true:=by simp[qbw,okV,qab,qa9]
@[simp]theorem ok_aAttrs(L:List At1):okV (qaf L)=true:=by simp[qaf,okV,qab]
theorem qid(H:Heap) (L:List At1):qe9 H [2] (qaf L)=some (qaf L):=qan (by simp)
theorem qqa{a b:At1} (h:qbw a=qbw b):a=b:=by simp[qbw]at h;exact Prod.ext h.1 h.2
theorem qeg{L M:List At1} (h:qaf L=qaf M):L=M:=by simp only[qaf,AV.fslc.injEq,true_and]at h;exact List.map_inj_right (fun _ _=>qqa) |>.1 h
theorem c164{T:List (Entry PG)} (a:At1) (nm:Str):CA T 164 [qbw a,.fptr [.str nm] 0] zH (.bool (decide (a.1=nm))) zH:=by refine qa0 (s0:=⟨[0,1,2,3],[qbw a,.fptr [.str nm] 0,uD,uD],[],8,⟨0,[[]]⟩⟩) Tryz.func164 rfl rfl rfl ?_;apply ra;simp[zS,qbw];apply ra;simp[zS];apply qa5;simp[zQ,Tryz.f164];exact⟨[],[],qb5 rfl,FitH.empty⟩
def qbo{α:Type} (p:α->Bool):List α->Nat->Int
 |[],_=>-1
 |a::r,k=>if p a=true then k else qbo p r (k+1)
theorem qh8{α:Type} {p:α->Bool} {L:List α} {i:Nat} (h:i < L.length):qbo p (L.drop i) i=if p L[i]=true then (i:Int) else qbo p (L.drop (i+1)) (i+1):=by rw[List.drop_eq_getElem_cons h];rfl
theorem atA{L:List At1} {i:Nat} (h:i < L.length):qat PG 32 (qaf L) (.int .i64 (i:Int))=some (.fptr [.str L[i].1,.str L[i].2] 0):=by simp[qat,qaf,qbv h,qj0 h,qbw,AV.cells]
theorem qh1{H:Heap} {L:List At1}:qf6 PG H 32 (qaf L)=some L.length:=by simp[qf6,qaf]
theorem rdA1{H:Heap} (a:At1):qaw PG H 71 (.fptr [.str a.1,.str a.2] 0)=some (qbw a):=by simp[qaw,qex,qew,qbw]
theorem c163{T:List (Entry PG)} (L:List At1) (hl:L.length<=1000) (clo:FuncId) (cap:List AV) (hc:qa9 cap=true) (p:At1->Bool) (hp:∀a,CA T clo (qbw a::cap) zH (.bool (p a)) zH) :
  CA T 163 [qaf L,.func (.func clo) [] cap] zH (.int .i64 (qbo p L 0)) zH:=by
 refine qa0 (s0:=⟨[0,1,4,5,7,8],[qaf L,.func (.func clo) [] cap,uD,uD,uD,uD],[],19,⟨0,[[]]⟩⟩) Tryz.func163 rfl rfl rfl ?_;apply ra;simp[zS];apply ra;simp[zS,qh1];refine qa7 (qb1 (fun i:Nat=>(⟨[0,1,4,5,7,8],[qaf L,.func (.func clo) [] cap,uD,uD,.int .i64 L.length,.int .i64 i],[],19,⟨0,[[]]⟩⟩ : St))
  (fun i=>i<=L.length/\qbo p L 0=qbo p (L.drop i) i) (fun i=>L.length - i) [] [] 0 ⟨Nat.zero_le _,rfl⟩ ⟨rfl,rfl,rfl,by simp[qax,qas,qab,qa9,hc],FitH.nothing⟩ ?_)
 rintro i ⟨hi,hx⟩ B hB;apply ra;simp[zS];repeat apply wq
 refine qb0 rfl (fun h=>?_) fun h=>?_
 ·simp at h;apply qa4;simp;repeat apply wq
  apply qa7;apply ra;simp[zS];repeat apply wq
  refine qah (qoy qbf [⟨clo,[qbw L[i]]++cap,⟨0,[[]]⟩,.bool (p L[i]),⟨0,[[]]⟩,(hp L[i]).lift (by simp[qa9,hc]) _⟩]) ?_;simp[zS,atA h,qcc,rdA1];refine qb0 rfl (fun h2=>?_) fun h2=>?_
  ·apply ra;simp[zS];apply qa5;simp[zQ,Tryz.f163];refine⟨[],[],?_,FitH.empty⟩;rw[hx,qh8 h,if_pos h2];exact qb5 rfl
  ·repeat apply wq
   apply qa4;simp;apply ra;simp[zS,qbb (show i<=1000000000 by omega)];refine hB _ (i+1) (by omega) ⟨by omega,?_⟩ ⟨[],[],⟨rfl,rfl,rfl,by simp[qax,qas,qab,qa9,hc],FitH.nothing⟩⟩;rw[hx,qh8 h,h2];simp
 ·simp at h;apply qar;simp;apply ra;simp[zS];apply qa5;simp[zQ,Tryz.f163];refine⟨[],[],?_,FitH.empty⟩;rw[hx,List.drop_eq_nil_of_le (by omega)];exact qb5 rfl
def qih(L:List At1) (nm:Str):Int:=qbo (fun a=>decide (a.1=nm)) L 0
theorem c130{T:List (Entry PG)} (L:List At1) (nm:Str) (hl:L.length<=1000):CA T 130 [qaf L,.str nm] zH (.int .i64 (qih L nm)) zH:=by
 refine qa0 (s0:=⟨[0,1,3,4],[qaf L,.str nm,uD,uD],[],8,⟨0,[[]]⟩⟩) Tryz.func130 rfl rfl rfl ?_;apply ra;simp[zS];repeat apply wq
 refine qah (qbh [⟨163,[qaf L,.func (.func 164) [] [.ptr 0 0]],⟨1,[[(0,.cells [.str nm])]]⟩,.int .i64 (qih L nm),_,
  CallAt.thaw (c163 L hl 164 [.fptr [.str nm] 0] rfl (fun a=>decide (a.1=nm)) fun a=>c164 a nm) rfl [] (by simp[qan,qp8 (H:=⟨1,[[(0,.cells [.str nm])]]⟩) (b:=0) (cs:=[.str nm]) rfl rfl])⟩]) ?_
 simp[zS,qcc];apply qa5;simp[zQ,Tryz.f130];exact qa2 rfl rfl
def e130:Entry PG:=mkE 130 [[2],[]] (fun x:List At1 × Str=>[qaf x.1,.str x.2]) (fun x=>x.1.length<=1000) (fun x=>.int .i64 (qih x.1 x.2)) fun x hx=>c130 (T:=[]) x.1 x.2 hx
theorem k130{T:List (Entry PG)} (hT:qIn 130 T e130) {L:List At1} (nm:Str) (hl:L.length<=1000) {H:Heap} {l:AV} (h:qe9 H [2] l=some (qaf L)):qb6 (ctx T) (.fn 130) [l,.str nm] H=some (.int .i64 (qih L nm),H):=
 qac hT (fun x y h=>by simp at h;exact Prod.ext (qeg h.1) h.2) (L,nm) hl rfl (by simp[h])
def qh2(nm:Str):List At1->Option Str
 |[]=>none
 |a::r=>if a.1=nm then some a.2 else qh2 nm r
def qxy(x:Option Str):AV:=.tup [.str (x.getD []),.bool x.isSome]
theorem qiz{nm:Str}:∀(L:List At1) (k:Nat),(qbo (fun a=>decide (a.1=nm)) L k = -1/\qh2 nm L=none)\/∃i,∃h:i < L.length,qbo (fun a=>decide (a.1=nm)) L k=(k+i:Nat)/\qh2 nm L=some L[i].2/\L[i].1=nm
 |[],k=>.inl ⟨rfl,rfl⟩
 |a::r,k=>by
  by_cases hq:a.1=nm
  ·exact .inr ⟨0,by simp,by simp[qbo,hq],by simp[qh2,hq],hq⟩
  ·rcases qiz (nm:=nm) r (k+1)with⟨h1,h2⟩|⟨i,h,h1,h2,h3⟩
   ·exact .inl ⟨by simp[qbo,hq,h1],by simp[qh2,hq,h2]⟩
   ·exact .inr ⟨i+1,by simpa using h,by simp[qbo,hq,h1];omega,by simp[qh2,hq,h2],h3⟩
theorem c131{T:List (Entry PG)} (hT:qIn 130 T e130) (L:List At1) (nm:Str) (hl:L.length<=1000):CA T 131 [qaf L,.str nm] zH (qxy (qh2 nm L)) zH:=by
 refine qa0 (s0:=⟨[0,1,4,5,6],[qaf L,.str nm,uD,uD,uD],[],17,⟨0,[[]]⟩⟩) Tryz.func131 rfl rfl rfl ?_;apply ra;simp[zS];apply ra;simp[zS,k130 hT nm hl (qid _ L)];apply ra;simp[zS];refine qb0 rfl (fun h=>?_) fun h=>?_
 ·rcases qiz (nm:=nm) L 0 with⟨h1,h2⟩|⟨i,hi,h1,h2,h3⟩
  ·simp[qih,h1]at h
  ·have hp:qih L nm=(i:Int):=(by simp[qih,h1]);simp only[hp];apply ra;simp[zS,atA hi];apply qa5;simp[zQ,Tryz.f131];exact qa2 rfl (by simp[qxy,h2])
 ·rcases qiz (nm:=nm) L 0 with⟨h1,h2⟩|⟨i,hi,h1,h2,h3⟩
  ·repeat apply wq
   apply qa4;simp;apply ra;simp[zS];apply qa5;simp[zQ,Tryz.f131];exact qa2 rfl (by simp[qxy,h2])
  ·simp[qih,h1]at h
def e131:Entry PG:=mkE 131 [[2],[]] (fun x:List At1 × Str=>[qaf x.1,.str x.2]) (fun x=>x.1.length<=1000) (fun x=>qxy (qh2 x.2 x.1)) fun x hx=>c131 (T:=[e130]) rfl x.1 x.2 hx
theorem injS(x y:List At1 × Str) (h:[qaf x.1,.str x.2]=[qaf y.1,.str y.2]):x=y:=by simp at h;exact Prod.ext (qeg h.1) h.2
theorem k131{T:List (Entry PG)} (hT:qIn 131 T e131) {L:List At1} (nm:Str) (hl:L.length<=1000) {H:Heap} {l:AV} (h:qe9 H [2] l=some (qaf L)):qb6 (ctx T) (.fn 131) [l,.str nm] H=some (qxy (qh2 nm L),H):=
 qac hT injS (L,nm) hl rfl (by simp[h])
theorem za2{nm:Str} {L:List At1} {i:Nat} (h:i < L.length):qh2 nm (L.drop i)=if L[i].1=nm then some L[i].2 else qh2 nm (L.drop (i+1)):=by rw[List.drop_eq_getElem_cons h];rfl
theorem c99{T:List (Entry PG)} (L:List At1) (nm:Str) (hl:L.length<=1000):CA T 99 [qaf L,.str nm] zH (qxy (qh2 nm L)) zH:=by
 refine qa0 (s0:=⟨[0,1,4,5,6],[qaf L,.str nm,uD,uD,uD],[],25,⟨0,[[]]⟩⟩) Tryz.func99 rfl rfl rfl ?_;apply ra;simp[zS];apply ra;simp[zS];refine qa7 (qb1 (fun i:Nat=>(⟨[0,1,4,5,6],[qaf L,.str nm,.str [],.bool false,.int .i64 i],[],25,⟨0,[[]]⟩⟩ : St))
  (fun i=>i<=L.length/\qh2 nm L=qh2 nm (L.drop i)) (fun i=>L.length - i) [] [] 0 ⟨Nat.zero_le _,rfl⟩ ⟨rfl,rfl,rfl,by simp[qax,qas,qab,qa9],FitH.nothing⟩ ?_)
 rintro i ⟨hi,hx⟩ B hB;apply ra;simp[zS,qh1];refine qb0 rfl (fun h=>?_) fun h=>?_
 ·simp at h;apply qa4;simp;repeat apply wq
  apply qa7;apply ra;simp[zS,atA h];refine qb0 rfl (fun h2=>?_) fun h2=>?_
  ·apply ra;simp[zS,atA h];apply qa5;simp[zQ,Tryz.f99];simp at h2;exact qa2 rfl (by simp[qxy,hx,za2 h,h2])
  ·repeat apply wq
   apply qa4;simp;apply ra;simp[zS,qbb (show i<=1000000000 by omega)];simp at h2;exact hB _ (i+1) (by omega) ⟨by omega,by rw[hx,za2 h];simp[h2]⟩ ⟨[],[],⟨rfl,rfl,rfl,by simp[qax,qas,qab,qa9],FitH.nothing⟩⟩
 ·simp at h;apply qar;simp;apply ra;simp[zS];apply qa5;simp[zQ,Tryz.f99];exact qa2 rfl (by simp[qxy,hx,List.drop_eq_nil_of_le h,qh2])
def e99:Entry PG:=mkE 99 [[2],[]] (fun x:List At1 × Str=>[qaf x.1,.str x.2]) (fun x=>x.1.length<=1000) (fun x=>qxy (qh2 x.2 x.1)) fun x hx=>c99 (T:=[]) x.1 x.2 hx
theorem k99{T:List (Entry PG)} (hT:qIn 99 T e99) {L:List At1} (nm:Str) (hl:L.length<=1000) {H:Heap} {l:AV} (h:qe9 H [2] l=some (qaf L)):qb6 (ctx T) (.fn 99) [l,.str nm] H=some (qxy (qh2 nm L),H):=
 qac hT injS (L,nm) hl rfl (by simp[h])
structure Nd where
 kind:Int
 space:Int
 name:Str
 attrs:List At1
 data:Str
 up:Int
 kids:List Int
def qb9(i:Int):AV:=.int .i64 i
abbrev qbc(L:List Int):AV:=.fslc 1 (L.map qb9)
def Nd.cs(n:Nd):List AV:=[qb9 n.kind,qb9 n.space,.str n.name,qaf n.attrs,.str n.data,qb9 n.up,qbc n.kids]
def qa3(n:Nd):AV:=.agg n.cs
abbrev Tr:=List Nd
abbrev qaa(t:Tr):AV:=.fslc 7 (t.map qa3)
def qav(t:Tr):AV:=.agg [qaa t]
@[simp]theorem qgf(L:List Int):qab (qbc L)=true:=by simp[qbc,qab]
@[simp]theorem zbg(n:Nd):qab (qa3 n)=true:=by simp[qa3,Nd.cs,qb9,qab,qa9]
@[simp]theorem qdh(t:Tr):qab (qaa t)=true:=by simp[qaa,qab]
@[simp]theorem pure_aTree(t:Tr):qab (qav t)=true:=by simp[qav,qab,qa9]
@[simp]theorem cells_aNode(n:Nd):(qa3 n).cells=n.cs:=rfl
@[simp]theorem cells_aTree(t:Tr):(qav t).cells=[qaa t]:=rfl
@[simp]theorem zc7(i:Int):(qb9 i).cells=[qb9 i]:=rfl
@[simp]theorem ok_aNode(n:Nd):okV (qa3 n)=true:=by simp[qa3,Nd.cs,qb9,qaf,qbc,okV,qab,qa9]
theorem th_aNode(H:Heap) (n:Nd):qe9 H [] (qa3 n)=some (qa3 n):=qan (by simp)
theorem qmm{L M:List Int} (h:qbc L=qbc M):L=M:=by simp only[qbc,AV.fslc.injEq,true_and]at h;exact List.map_inj_right (fun x y e=>by simp[qb9]at e;exact e) |>.1 h
theorem qci{a b:Nd} (h:qa3 a=qa3 b):a=b:=by
 obtain⟨k,s,n,at_,d,u,ks⟩:=a;obtain⟨k',s',n',at',d',u',ks'⟩:=b;simp[qa3,Nd.cs,qb9]at h;obtain⟨h1,h2,h3,h4,h5,h6,h7⟩:=h;have h7':qbc ks=qbc ks':=by show AV.fslc 1 _=AV.fslc 1 _;rw[h7]
 simp[h1,h2,h3,qeg h4,h5,h6,qmm h7']
theorem qfd{a b:Tr} (h:qav a=qav b):a=b:=by simp[qav,qaa]at h;exact List.map_inj_right (fun x y e=>qci e) |>.1 h
structure Wk where
 l:List Int
 inn:List Int
 out:List Int
 c:Int
def ql7(I:List Int):Nat:=I.countP fun x=>decide (x < 0)
def kl(n:Nat) (g:Nat->Wk->Wk):List Int->Wk->Wk
 |[],w=>w
 |k::r,w=>if 0<=k/\k < (n:Int)/\w.inn.getD k.toNat 0 < 0 then kl n g r (g k.toNat w) else kl n g r w
def into(i:Nat) (w:Wk):Wk:=⟨w.l++[(i:Int)],w.inn.set i w.c,w.out,w.c+1⟩
def outof(i:Nat) (w:Wk):Wk:=⟨w.l,w.inn,w.out.set i w.c,w.c+1⟩
def vis(n:Nat) (ks:Nat->List Int):Nat->Nat->Wk->Wk
 |0,_,w=>w
 |f+1,i,w=>outof i (kl n (vis n ks f) (ks i) (into i w))
structure WOK (n K:Nat) (w:Wk):Prop where
 li:w.inn.length=n
 lo:w.out.length=n
 c0:0<=w.c
 cb:w.c+2 * (ql7 w.inn:Int)<=2 * K
 lb:w.l.length+ql7 w.inn<=K
theorem qmd{I:List Int} {i:Nat} {c:Int} (h:i < I.length) (hi:I.getD i 0 < 0) (hc:0<=c):ql7 (I.set i c)+1=ql7 I:=by
 induction I generalizing i with
 |nil=>simp at h
 |cons x r ih=>
  cases i with
  |zero=>have hx:x < 0:=(by simpa using hi);have hc':¬ c < 0:=(by omega);simp[ql7,List.countP_cons,hx,hc']
  |succ j=>have:=ih (i:=j) (by simpa using h) (by simpa using hi);simp only[ql7,List.set_cons_succ,List.countP_cons]at this ⊢;omega
theorem WOK.into{n K i:Nat} {w:Wk} (h:WOK n K w) (hi:i < n) (hn:w.inn.getD i 0 < 0):WOK n K (into i w)/\ql7 (into i w).inn+1=ql7 w.inn/\(into i w).c+2 * (ql7 (into i w).inn:Int)+1<=2 * K:=by have e:=qmd (I:=w.inn) (by rw[h.li];exact hi) hn h.c0;have h1:=h.cb;have h2:=h.lb;have h3:=h.c0;refine⟨⟨by simp[Go.Proofs.YtocnpnnplllneaaGreatDoor.into,h.li],h.lo,?_,?_,?_⟩,e,?_⟩<;>simp only[Go.Proofs.YtocnpnnplllneaaGreatDoor.into,List.length_append,List.length_singleton]<;>omega
def Low(n K:Nat) (b:Int) (w:Wk):Prop:=WOK n K w/\w.c+2 * (ql7 w.inn:Int)+b<=2 * K
theorem kl_ok{n K f:Nat} {g:Nat->Wk->Wk} (hg:∀b i w,0<=b->Low n K b w->i < n->w.inn.getD i 0 < 0->ql7 w.inn<=f->Low n K b (g i w)/\ql7 (g i w).inn<=ql7 w.inn) (b:Int) (hb:0<=b) :
  ∀(ks:List Int) (w:Wk),Low n K b w->ql7 w.inn<=f->Low n K b (kl n g ks w)/\ql7 (kl n g ks w).inn<=ql7 w.inn
 |[],w,h,_=>⟨h,Nat.le_refl _⟩
 |k::r,w,h,hf=>by
  unfold kl;split
  next hk=>obtain⟨h1,h2⟩:=hg b k.toNat w hb h (by omega) hk.2.2 hf;obtain⟨h3,h4⟩:=kl_ok hg b hb r _ h1 (by omega);exact⟨h3,by omega⟩
  ·exact kl_ok hg b hb r w h hf
theorem vis_ok{n K:Nat} {ks:Nat->List Int}:∀(f:Nat) (b:Int) (i:Nat) (w:Wk),0<=b->Low n K b w->i < n->w.inn.getD i 0 < 0->ql7 w.inn<=f->Low n K b (vis n ks f i w)/\ql7 (vis n ks f i w).inn < ql7 w.inn
 |0,b,i,w,hb,h,hi,hn,hf=>by have e:=qmd (I:=w.inn) (by rw[h.1.li];exact hi) hn h.1.c0;omega
 |f+1,b,i,w,hb,h,hi,hn,hf=>by
  obtain⟨h1,h2,h3⟩:=h.1.into hi hn;have hl:Low n K (b+1) (into i w):=⟨h1,by have:=h.2;simp only[into]at h2 ⊢;omega⟩;obtain⟨h4,h5⟩:=kl_ok (n:=n) (K:=K) (f:=f) (g:=vis n ks f) (fun b' i' w' hb' h' hi' hn' hf'=>let ⟨x,y⟩:=vis_ok f b' i' w' hb' h' hi' hn' hf';⟨x,Nat.le_of_lt y⟩) (b+1) (by omega) (ks i) (into i w) hl (by omega);unfold vis;refine⟨⟨⟨h4.1.li,by simp[outof,h4.1.lo],?_,?_,?_⟩,?_⟩,?_⟩
  ·have:=h4.1.c0;simp only[outof];omega
  ·have:=h4.2;simp only[outof];omega
  ·exact h4.1.lb
  ·have:=h4.2;simp only[outof];omega
  ·simp only[outof];omega
abbrev Cfg:=List (Nat × Nat) × List Bool × List Int
def stp(n:Nat) (ks:Nat->List Int):Cfg->Option Cfg
 |([],_,_)=>none
 |((i,j)::p,s,a)=>match (ks i)[j]? with
  |none=>some (p,s,a)
  |some k=>if 0<=k/\k < (n:Int)/\s.getD k.toNat true=false then some ((k.toNat,0)::(i,j+1)::p,s.set k.toNat true,a++[k]) else some ((i,j+1)::p,s,a)
inductive Reach (n:Nat) (ks:Nat->List Int):Cfg->Cfg->Prop where
 |refl (c:Cfg):Reach n ks c c
 |step {c d e:Cfg} (h:stp n ks c=some d) (r:Reach n ks d e):Reach n ks c e
theorem Reach.trans{n:Nat} {ks:Nat->List Int} {c d e:Cfg} (h:Reach n ks c d) (r:Reach n ks d e):Reach n ks c e:=by
 induction h with
 |refl=>exact r
 |step h _ ih=>exact .step h (ih r)
theorem Reach.one{n:Nat} {ks:Nat->List Int} {c d e:Cfg} (r:Reach n ks c d) (h:stp n ks d=some e):Reach n ks c e:=r.trans (.step h (.refl _))
def w0(n:Nat):Wk:=⟨[],List.replicate n (-1),List.replicate n (-1),0⟩
def qcn(n:Nat) (ks:Nat->List Int):List Int:=if n=0 then [] else (vis n ks n 0 (w0 n)).l
theorem qtg(n:Nat):ql7 (List.replicate n (-1))=n:=by simp[ql7,List.countP_replicate]
theorem w0_ok(n:Nat):Low n n 0 (w0 n):=by refine⟨⟨by simp[w0],by simp[w0],by simp[w0],?_,?_⟩,?_⟩<;>simp[w0,qtg]
def qct(L:List Int):List AV:=L.map qb9
@[simp]theorem ints_nil:qct []=[]:=rfl
theorem zex{L:List Int} (h:L≠[]):qct L≠[]:=by simpa[qct]using h
theorem ne_ints{L:List Int} (h:qct L≠[]):L≠[]:=by simpa[qct]using h
@[simp]theorem qos(L:List Int):(qct L).length=L.length:=by simp[qct]
theorem qjc(L:List Int):Elems 1 (qct L):=.map (sz:=1) (f:=qb9) (by decide) (fun x=>⟨rfl,rfl,fun _=>rfl,fun h=>absurd rfl h⟩) L
@[simp]theorem qeu(L:List Int):qa6 (qct L)=qct L:=by
 unfold qct;induction L with
 |nil=>rfl
 |cons x r ih=>simp only[List.map_cons,qa6,ih];rfl
@[simp]theorem qhd(L:List Int):qa9 (qct L)=true:=by have:=(qjc L).pure;rwa [qeu]at this
theorem atI{L:List Int} {i:Nat} (h:i < L.length):qat PG 30 (qbc L) (.int .i64 (i:Int))=some (.fptr [.int .i64 L[i]] 0):=by simp[qat,qbc,qbv h,qj0 h,qb9,AV.cells]
theorem atN{t:Tr} {i:Nat} (h:i < t.length):qat PG 22 (qaa t) (.int .i64 (i:Int))=some (.fptr (t[i]).cs 0):=by simp[qat,qaa,qbv h,qj0 h]
theorem ql8{H:Heap} {L:List Int}:qf6 PG H 30 (qbc L)=some L.length:=by simp[qf6,qbc]
theorem qhl{H:Heap} {t:Tr}:qf6 PG H 22 (qaa t)=some t.length:=by simp[qf6,qaa]
def qbs(t:Tr) (i:Nat):List Int:=(t[i]?.map Nd.kids).getD []
theorem qee{t:Tr} {i:Nat} (h:i < t.length):t[i].kids=qbs t i:=by simp[qbs,h]
def lA(b:Nat) (L:List Int):AV:=qcx b 1 (qct L)
def lF(b:Nat) (L:List Int):List (Nat × Blk):=qdd b (qct L)
theorem zbo{b:Nat} {L:List Int} (h:L≠[]):lA b L=.slc b 0 L.length (.rest 1):=by rw[lA,qbd (zex h)];simp
theorem qxp{b:Nat} {L:List Int} (h:L≠[]):lF b L=[(b,.cells (qct L))]:=by rw[lF,qbn (zex h),qeu]
theorem app_l{m t b:Nat} {L:List Int} {v:Int} {g1 g:List (Nat × Blk)} (hr:L.length<=1000000000) (h1:∀e,e∈(t,Blk.cells [AV.int .i64 v])::g1->e.1≠b) (h2:∀e,e∈g->e.1≠b) :
  qbz PG ⟨m,[(t,.cells [.int .i64 v])::g1,lF b L++g]⟩ 3 (lA b L) (.slc t 0 1 (.ex 1))=some (.slc m 0 (L.length+1) (.rest 1),⟨m+1,[(m,.cells (qct (L++[v])))::(t,.cells [.int .i64 v])::g1,g]⟩):=by
 have miss:∀(l:List (Nat × Blk)),(∀e,e∈l->e.1≠b)->getF b l=none:=by
  intro l;induction l with
  |nil=>intro _;rfl
  |cons x r ih=>intro h;unfold getF;rw[qao (h x (by simp))];exact ih fun e he=>h e (by simp[he])
 have hm1:=miss _ h1;have hg:=miss _ h2;have hdrop:Heap.drop ⟨m,[(t,.cells [.int .i64 v])::g1,lF b L++g]⟩ b=⟨m,[(t,.cells [.int .i64 v])::g1,g]⟩:=by
  simp only[Heap.drop,qen,hm1];cases L with
  |nil=>simp[lF,qdd,hg]
  |cons x r=>simp[lF,qdd,qct,getF,killF]
 have h:=qii (P:=PG) (H:=⟨m,[(t,.cells [.int .i64 v])::g1,lF b L++g]⟩) (elem:=3) (b:=b) (n:=0) (es:=qct L) (cs:=[.int .i64 v]) (x:=.slc t 0 1 (.ex 1)) szT3 byT3 zeT3 rfl (by omega) (by omega) rfl
  (by simp[qba,readCells,zG,Blk.rd,qex,qew]) rfl rfl (qjc L) (by simp;omega) (fun hne=>by
   have hL:L≠[]:=ne_ints hne;simp only[Heap.get,getFs,hm1,qxp hL,qeu];simp[getF]) (fun he=>by
   have hL:L=[]:=(by simpa[qct]using he);subst hL;rw[hdrop];rfl) (by intro cs;rfl)
 have e:qct L++[.int .i64 v]=qct (L++[v]):=by simp[qct,qb9]
 rw[hdrop,qeu,e]at h;simpa[lA,Heap.new,pushF]using h
theorem FitH.rows{n:Nat} {σ:List (Nat × Nat)} {H H':Heap} (nd1:(σ.map (·.1)).Nodup) (nd2:(σ.map (·.2)).Nodup) (nd3:(H'.ents.map (·.1)).Nodup) (lt:∀x,x∈σ->x.2 < H'.n) (idn:∀x,x∈σ->x.1 < n\/x.2 < n->x.1=x.2) (num:n<=H'.n)
  (src:∀e,e∈H'.ents->∃b cs,(b,e.1)∈σ/\H.get b=some (.cells cs)/\e.2=.cells cs/\qa9 cs=true):FitH n σ [] H H' where
 nd1:=by simpa using nd1
 nd2:=nd2
 nd3:=nd3
 lt:=lt
 idn:=fun x hx h=>idn x hx (.inr h)
 num:=num
 src:=fun e he=>by obtain⟨b,cs,h1,h2,h3,h4⟩:=src e he;exact⟨b,_,h1,h2,by rw[h3];exact qak h4⟩
 frz:=fun x h=>by cases h
def hW(L I O:List Int):Heap:=⟨3,[lF 2 L++[(0,.cells (qct I)),(1,.cells (qct O))]]⟩
def hW'(L I O:List Int):Heap:=⟨4,[lF 3 L++[(0,.cells (qct I)),(1,.cells (qct O))]]⟩
def hL(t:Tr) (L I O:List Int):Heap:=⟨5,[[(4,.cells (qct L)),(3,.cells [qaa t])],[(0,.cells (qct I)),(1,.cells (qct O))]]⟩
theorem ixI{b n i:Nat} {cap:Cap} (h:i < n):qat PG 30 (.slc b 0 n cap) (.int .i64 (i:Int))=some (.ptr b i):=by simp[qat,qbv h]
def hA(t:Tr) (I O:List Int):Heap:=⟨3,[[(2,.cells (qct O)),(1,.cells (qct I)),(0,.cells [qaa t])]]⟩
def okTr(t:Tr):Prop:=t.length<=1000/\∀x,x∈t->x.kids.length<=1000/\x.attrs.length<=1000
def zdg(t:Tr):Prop:=t.length<=50/\okTr t
@[simp]theorem ok_aTree(t:Tr):okV (qav t)=true:=by simp[qav,qaa,okV,qab,qa9]
theorem qok(H:Heap) (t:Tr):qe9 H [] (qav t)=some (qav t):=qan (by simp)
theorem injT(x y:Tr) (h:[qav x]=[qav y]):x=y:=by simp at h;exact qfd h
theorem qt2{q:Nat} (h:q<=1000000000):wr .i64 (((q+1:Nat):Int) - 1)=some (q:Int):=by rw[qdr (by omega) (by omega)];simp
theorem zeq{n:Nat} {g:Nat->Wk->Wk} {P:Wk->Prop} (hg:∀i w,i < n->w.inn.getD i 0 < 0->P w->P (g i w)):∀(ks:List Int) (w:Wk),P w->P (kl n g ks w)
 |[],w,h=>h
 |k::r,w,h=>by
  unfold kl;split
  next hk=>exact zeq hg r _ (hg k.toNat w (by omega) hk.2.2 h)
  ·exact zeq hg r w h
theorem zcu{n:Nat} {ks:Nat->List Int} {P:Wk->Prop} (hin:∀i w,i < n->w.inn.getD i 0 < 0->P w->P (into i w)) (hout:∀i w,P w->P (outof i w)):∀(f i:Nat) (w:Wk),i < n->w.inn.getD i 0 < 0->P w->P (vis n ks f i w)
 |0,i,w,_,_,h=>h
 |f+1,i,w,hi,hn,h=>by unfold vis;exact hout _ _ (zeq (fun i w hi hn h=>zcu hin hout f i w hi hn h) _ _ (hin i w hi hn h))
structure LOK (n:Nat) (w:Wk):Prop where
 li:w.inn.length=n
 c0:0<=w.c
 rng:∀x,x∈w.l->0<=x/\x < (n:Int)/\0<=w.inn.getD x.toNat (-1)
 nd:w.l.Nodup
theorem LOK.into{n i:Nat} {w:Wk} (h:LOK n w) (hi:i < n) (hn:w.inn.getD i 0 < 0):LOK n (into i w) where
 li:=by simp[Go.Proofs.YtocnpnnplllneaaGreatDoor.into,h.li]
 c0:=by have:=h.c0;simp only[Go.Proofs.YtocnpnnplllneaaGreatDoor.into];omega
 rng:=fun x hx=>by
  have hl:=h.li;have hc:=h.c0;simp only[Go.Proofs.YtocnpnnplllneaaGreatDoor.into,List.mem_append,List.mem_singleton]at hx ⊢;have hset:∀j,j < n->(w.inn.set i w.c).getD j (-1)=if i=j then w.c else w.inn.getD j (-1):=fun j hj=>by simp only[List.getD_eq_getElem?_getD,List.getElem?_set];split<;>simp_all
  rcases hx with hx|rfl
  ·obtain⟨h1,h2,h3⟩:=h.rng x hx;refine⟨h1,h2,?_⟩;rw[hset _ (by omega)];split<;>omega
  ·refine⟨by omega,by omega,?_⟩;rw[hset _ (by omega)];simp[hc]
 nd:=by simp only[Go.Proofs.YtocnpnnplllneaaGreatDoor.into];refine List.nodup_append.2 ⟨h.nd,by simp,?_⟩;intro a ha b hb;simp at hb;subst hb;rintro rfl;have h3:=(h.rng _ ha).2.2;have hl:=h.li;simp only[List.getD_eq_getElem?_getD,Int.toNat_natCast]at h3 hn;rw[List.getElem?_eq_getElem (by omega)]at h3 hn;simp at h3 hn;omega
theorem LOK.out{n i:Nat} {w:Wk} (h:LOK n w):LOK n (outof i w):=⟨h.li,by have:=h.c0;simp only[outof];omega,h.rng,h.nd⟩
theorem qvj{n:Nat} {ks:Nat->List Int} (hn:0 < n):LOK n (vis n ks n 0 (w0 n)):=
 zcu (fun i w hi h1 h2=>h2.into hi h1) (fun i w h=>h.out) n 0 (w0 n) hn (by simp[w0,List.getD_eq_getElem?_getD,hn]) ⟨by simp[w0],by simp[w0],by simp[w0],by simp[w0]⟩
theorem qpr{n:Nat} {ks:Nat->List Int} {x:Int} (h:x∈qcn n ks):0<=x/\x < (n:Int):=by
 unfold qcn at h;split at h
 ·simp at h
 ·obtain⟨h1,h2,_⟩:=(qvj (n:=n) (by omega)).rng x h;exact⟨h1,h2⟩
theorem qpq{n:Nat} {ks:Nat->List Int}:(qcn n ks).Nodup:=by
 unfold qcn;split
 ·simp
 ·exact(qvj (n:=n) (by omega)).nd
theorem qps{n:Nat} {ks:Nat->List Int}:(qcn n ks).length<=n:=by
 unfold qcn;split
 ·simp
 ·rename_i hz;have hr:ql7 (w0 n).inn<=n:=by simp[w0,qtg]
  have:=(vis_ok (n:=n) (ks:=ks) n 0 0 (w0 n) (by omega) (w0_ok _) (by omega) (by simp[w0,List.getD_eq_getElem?_getD,Nat.pos_of_ne_zero hz]) hr).1.1.lb;omega
theorem FitH.own1{k b m':Nat} {τ:List (Nat × Nat)} {es:List AV} {sz:Nat} {H:Heap} {g:List (Nat × Blk)} (he:Elems sz es) (hb:es≠[]->H.get b=some (.cells (qa6 es)))
  (n1:(((b,k)::τ).map (·.1)).Nodup) (n2:(((b,k)::τ).map (·.2)).Nodup) (n3:(k::g.map (·.1)).Nodup) (lt:∀x,x∈(b,k)::τ->x.2 < m')
  (src:∀e,e∈g->∃b cs,(b,e.1)∈τ/\H.get b=some (.cells cs)/\e.2=.cells cs/\qa9 cs=true):FitH 0 ((b,k)::τ) [] H ⟨m',[qdd k es++g]⟩:=by
 refine .rows n1 n2 ?_ lt (by simp) (Nat.zero_le _) ?_
 ·cases es with
  |nil=>rw[List.nodup_cons]at n3;simpa[qdd,Heap.ents]using n3.2
  |cons x r=>simpa[qdd,Heap.ents]using n3
 ·intro e h;cases hes:es with
  |nil=>rw[hes]at h;simp[qdd,Heap.ents]at h;obtain⟨b',cs,h1,h2⟩:=src e h;exact⟨b',cs,List.mem_cons_of_mem _ h1,h2⟩
  |cons x r=>
   rw[hes]at h;simp only[qdd,Heap.ents,List.flatten_cons,List.flatten_nil,List.append_nil,List.cons_append,List.nil_append,List.mem_cons]at h;rcases h with rfl|h
   ·exact⟨b,_,List.mem_cons_self,by rw[hb (by simp[hes]),hes],rfl,by rw[<- hes];exact he.pure⟩
   ·obtain⟨b',cs,h1,h2⟩:=src e h;exact⟨b',cs,List.mem_cons_of_mem _ h1,h2⟩
def nd0:Nd:=⟨0,0,[],[],[],0,[]⟩
def qa1(t:Tr) (i:Int):Nd:=t.getD i.toNat nd0
theorem qbt{t:Tr} {i:Nat} (h:i < t.length):qa1 t (i:Int)=t[i]:=by simp[qa1,List.getD_eq_getElem?_getD,List.getElem?_eq_getElem h]
theorem qb3{t:Tr} {i:Int} (h0:0<=i) (h:i < (t.length:Int)):qa1 t i∈t:=by obtain⟨j,rfl⟩ : ∃j:Nat,i=j:=⟨i.toNat,by omega⟩;rw[qbt (by omega)];exact List.getElem_mem _
theorem atX{t:Tr} {i:Int} (h0:0<=i) (h:i < (t.length:Int)):qat PG 22 (qaa t) (.int .i64 i)=some (.fptr (qa1 t i).cs 0):=by obtain⟨j,rfl⟩ : ∃j:Nat,i=j:=⟨i.toNat,by omega⟩;rw[atN (by omega),qbt (by omega)]
@[simp]theorem sub_cs(n:Nd):qex 0 7 n.cs=some n.cs:=rfl
theorem qwb(n:Nd):AV.agg n.cs=qa3 n:=rfl
theorem ints_app{L:List Int} {v:Int}:qct (L++[v])=qct L++[.int .i64 v]:=by simp[qct,qb9]
theorem atIx{L:List Int} {i:Nat} (h:i < L.length):qat PG 30 (qbc L) (.int .i64 (i:Int))=some (.fptr [.int .i64 L[i]] 0):=atI h
def qqo(a:At1):Bool:=decide (a.1.length<=40/\a.2.length<=150)
def qk1(L:List At1):Bool:=decide (L.length<=14) && L.all qqo
def ql0(n:Nd):Bool:=decide (n.name.length<=40) && (decide (n.data.length<=300) && (decide (n.kids.length<=60) && qk1 n.attrs))
def qkz(t:Tr) (m:Int):Bool:=decide ((t.length:Int)<=m) && t.all ql0
theorem c49{T:List (Entry PG)} (L:List At1):CA T 49 [qaf L] zH (.bool (qk1 L)) zH:=by
 refine qa0 (s0:=⟨[0,2,4,8,9,10],[qaf L,uD,uD,uD,uD,uD],[],25,⟨0,[[]]⟩⟩) Tryz.func49 rfl rfl rfl ?_;apply ra;simp[zS];by_cases hl:14 < L.length
 ·have hl':(14:Int) < (L.length:Int):=by omega
  apply ra;simp[zS,qh1,hl'];apply qai rfl;apply ra;simp[zS];apply qa5;simp[zQ,Tryz.f49];exact qa2 rfl (by simp[qk1];omega)
 ·have hl':¬ (14:Int) < (L.length:Int):=by omega
  apply ra;simp[zS,qh1,hl'];apply qag rfl;apply qa4;simp;apply ra;simp[zS,qh1];refine qa7 (qb1 (fun i:Nat=>(⟨[0,2,4,8,9,10],[qaf L,uD,uD,qaf L,.int .i64 (L.length:Nat),.int .i64 i],[],25,⟨0,[[]]⟩⟩ : St))
   (fun i=>i<=L.length/\L.all qqo=(L.drop i).all qqo) (fun i=>L.length - i) [] [] 0 ⟨Nat.zero_le _,by simp⟩ ⟨rfl,rfl,rfl,by simp[qax,qas,qab,qa9,qaf],FitH.nothing⟩ ?_)
  rintro i ⟨hi,he⟩ B hB;apply ra;simp[zS];repeat apply wq
  refine qb0 rfl (fun h=>?_) fun h=>?_
  ·simp at h;rw[List.drop_eq_getElem_cons h,List.all_cons]at he;apply qa4;simp;repeat apply wq
   apply qa7;apply ra;simp[zS,atA h,rdA1];by_cases h1:40 < L[i].1.length
   ·have h1':(40:Int) < (L[i].1.length:Int):=(by omega);have hf:qqo L[i]=false:=(by simp[qqo];omega);apply ra;simp[zS,h1'];apply qai rfl;apply ra;simp[zS];apply qa5;simp[zQ,Tryz.f49];exact qa2 rfl (by simp only[qk1,he,hf];simp)
   ·have h1':¬ (40:Int) < (L[i].1.length:Int):=(by omega);by_cases h2:150 < L[i].2.length
    ·have h2':(150:Int) < (L[i].2.length:Int):=(by omega);have hf:qqo L[i]=false:=(by simp[qqo];omega);apply ra;simp[zS,h1',h2'];apply qai rfl;apply ra;simp[zS];apply qa5;simp[zQ,Tryz.f49];exact qa2 rfl (by simp only[qk1,he,hf];simp)
    ·have h2':¬ (150:Int) < (L[i].2.length:Int):=(by omega);have hf:qqo L[i]=true:=(by simp[qqo];omega);apply ra;simp[zS,h1',h2'];apply qag rfl;apply qa4;simp;apply ra;simp[zS,qbb (show i<=1000000000 by omega)];refine hB _ (i+1) (by omega) ⟨by omega,by rw[he,hf,Bool.true_and]⟩ ⟨[],[],⟨rfl,rfl,rfl,by simp[qax,qas,qab,qa9,qaf],FitH.nothing⟩⟩
  ·simp at h;rw[List.drop_eq_nil_of_le h]at he;apply qar;simp;apply ra;simp[zS];apply qa5;simp[zQ,Tryz.f49];exact qa2 rfl (by simp only[qk1,he];simp;omega)
def e49:Entry PG:=mkE 49 [[2]] (fun x:List At1=>[qaf x]) (fun _=>True) (fun x=>.bool (qk1 x)) fun x _=>c49 (T:=[]) x
theorem injAs(x y:List At1) (h:[qaf x]=[qaf y]):x=y:=by simp only[List.cons.injEq]at h;exact qeg h.1
theorem k49{T:List (Entry PG)} (hT:qIn 49 T e49) (L:List At1) (H:Heap):qb6 (ctx T) (.fn 49) [qaf L] H=some (.bool (qk1 L),H):=
 qac hT injAs L trivial rfl (by simp[qid])
theorem c27{T:List (Entry PG)} (hA:qIn 49 T e49) (n:Nd):CA T 27 [qa3 n] zH (.bool (ql0 n)) zH:=by
 have hk:=fun H=>k49 hA n.attrs H;obtain⟨kind,space,name,attrs,data,up,kids⟩:=n;simp only[qaf]at hk;rcases Bool.eq_false_or_eq_true (decide ((name.length:Int)<=40))with b1|b1<;>rcases Bool.eq_false_or_eq_true (decide ((data.length:Int)<=300))with b2|b2<;>rcases Bool.eq_false_or_eq_true (decide ((kids.length:Int)<=60))with b3|b3;all_goals
  have c1:=b1;have c2:=b2;have c3:=b3;simp only[decide_eq_true_eq,decide_eq_false_iff_not]at c1 c2 c3;refine qa0 (s0:=⟨[0,1,2],[qa3 ⟨kind,space,name,attrs,data,up,kids⟩,uD,uD],[],24,⟨0,[[]]⟩⟩) Tryz.func27 rfl rfl rfl ?_
  (repeat (first
   |(apply qal)
   |(apply qa7)
   |(apply qch;simp only[qam,qaj])
   |((refine qah qbf ?_);simp[zS,qa3,Nd.cs,qb9,qaf,qbc,qf6,c1,c2,c3,hk])
   |apply qai rfl
   |apply qag rfl
   |((apply qa4);simp only[qam,qaj])
   |((apply qar);simp)))
  have e1:(name.length<=40)↔((name.length:Int)<=40):=by omega
  have e2:(data.length<=300)↔((data.length:Int)<=300):=by omega
  have e3:(kids.length<=60)↔((kids.length:Int)<=60):=by omega
  apply qa5;simp[zQ,Tryz.f27];exact qa2 rfl (by simp only[ql0,e1,e2,e3,b1,b2,b3];simp)
theorem injN1(x y:Nd) (h:[qa3 x]=[qa3 y]):x=y:=by simp only[List.cons.injEq]at h;exact qci h.1
def e27:Entry PG:=mkE 27 [[]] (fun x:Nd=>[qa3 x]) (fun _=>True) (fun x=>.bool (ql0 x)) fun x _=>c27 (T:=[e49]) rfl x
theorem k27{T:List (Entry PG)} (hT:qIn 27 T e27) (n:Nd) (H:Heap):qb6 (ctx T) (.fn 27) [qa3 n] H=some (.bool (ql0 n),H):=
 qac hT injN1 n trivial rfl (by simp[th_aNode])
@[simp]theorem len_cs(n:Nd):n.cs.length=7:=rfl
@[simp]theorem sng_cs(n:Nd):allSingle n.cs=true:=rfl
@[simp]theorem lay_cs(n:Nd) (a b c d e f g:AV):qij n.cs [a,b,c,d,e,f,g]=some n.cs:=rfl
@[simp 5000]theorem ready_cs(H:Heap) (b:Nat) (n:Nd):H.ready b n.cs=H:=rfl
theorem c14{T:List (Entry PG)} (hN:qIn 27 T e27) (t:Tr) (m:Int) (hl:m<=1000000):CA T 14 [qav t,.int .i64 m] zH (.bool (qkz t m)) zH:=by
 refine qa0 (s0:=⟨[0,1,2,4,6,13,14,15],[qav t,.int .i64 m,uD,uD,uD,uD,uD,uD],[],23,⟨0,[[]]⟩⟩) Tryz.func14 rfl rfl rfl ?_;apply ra;simp[zS,qav];by_cases hm:m < (t.length:Int)
 ·apply ra;simp[zS,qhl,hm];apply qai rfl;apply ra;simp[zS];apply qa5;simp[zQ,Tryz.f14];exact qa2 rfl (by simp[qkz];omega)
 ·apply ra;simp[zS,qhl,hm];apply qag rfl;apply qa4;simp;apply ra;simp[zS,qhl];refine qa7 (qb1 (fun i:Nat=>(⟨[0,1,2,4,6,13,14,15],[uD,.int .i64 m,uD,uD,uD,qaa t,.int .i64 (t.length:Nat),.int .i64 i],[],23,⟨0,[[]]⟩⟩ : St))
   (fun i=>i<=t.length/\t.all ql0=(t.drop i).all ql0) (fun i=>t.length - i) [] [] 0 ⟨Nat.zero_le _,by simp⟩ ⟨rfl,rfl,rfl,by simp[qax,qas,qab,qa9,qaa],FitH.nothing⟩ ?_)
  rintro i ⟨hi,he⟩ B hB;apply ra;simp[zS];repeat apply wq
  refine qb0 rfl (fun h=>?_) fun h=>?_
  ·simp at h;rw[List.drop_eq_getElem_cons h,List.all_cons]at he;apply qa4;simp;repeat apply wq
   apply qa7;repeat apply wq
   refine qah qbf ?_;simp[zN,atN h];cases hf:ql0 t[i]with
   |false=>apply ra;simp[zS,qwb,k27 hN,hf];apply qai rfl;apply ra;simp[zS];apply qa5;simp[zQ,Tryz.f14];exact qa2 rfl (by simp only[qkz,he,hf];simp)
   |true=>apply ra;simp[zS,qwb,k27 hN,hf];apply qag rfl;apply qa4;simp;apply ra;simp[zS,qbb (show i<=1000000000 by omega)];refine hB _ (i+1) (by omega) ⟨by omega,by rw[he,hf,Bool.true_and]⟩ ⟨[],[],⟨rfl,rfl,rfl,by simp[qax,qas,qab,qa9,qaa],FitH.nothing⟩⟩
  ·simp at h;rw[List.drop_eq_nil_of_le h]at he;apply qar;simp;apply ra;simp[zS];apply qa5;simp[zQ,Tryz.f14];exact qa2 rfl (by simp only[qkz,he];simp;omega)
theorem qtm(x y:Tr × Int) (h:[qav x.1,.int .i64 x.2]=[qav y.1,.int .i64 y.2]):x=y:=by simp at h;exact Prod.ext (qfd h.1) h.2
def e14:Entry PG:=mkE 14 [[],[]] (fun x:Tr × Int=>[qav x.1,.int .i64 x.2]) (fun x=>x.2<=1000000) (fun x=>.bool (qkz x.1 x.2)) fun x hx=>c14 (T:=[e27]) rfl x.1 x.2 hx
theorem k14{T:List (Entry PG)} (hT:qIn 14 T e14) (t:Tr) {m:Int} (hm:m<=1000000) (H:Heap):qb6 (ctx T) (.fn 14) [qav t,.int .i64 m] H=some (.bool (qkz t m),H):=
 qac hT qtm (t,m) hm rfl (by simp[qok])
theorem qwh{t:Tr} {m:Int} (hm:m<=50) (h:qkz t m=true):zdg t:=by simp only[qkz,Bool.and_eq_true,decide_eq_true_eq,List.all_eq_true]at h;refine⟨by omega,by omega,fun x hx=>?_⟩;have:=h.2 x hx;simp only[ql0,qk1,Bool.and_eq_true,decide_eq_true_eq]at this;omega
theorem FitH.id1{m':Nat} {H:Heap} {g:List (Nat × Blk)} (nd:(g.map (·.1)).Nodup) (lt:∀e,e∈g->e.1 < m') (src:∀e,e∈g->∃cs,H.get e.1=some (.cells cs)/\e.2=.cells cs/\qa9 cs=true):FitH 0 (g.map fun e=>(e.1,e.1)) [] H ⟨m',[g]⟩:=by
 refine .rows (by simpa[Function.comp_def]using nd) (by simpa[Function.comp_def]using nd) (by simpa[Heap.ents]using nd) ?_ (by simp) (Nat.zero_le _) ?_
 ·intro x hx;obtain⟨e,he,rfl⟩:=List.mem_map.1 hx;exact lt e he
 ·intro e he;have he:e∈g:=by simpa[Heap.ents]using he
  obtain⟨cs,h1,h2,h3⟩:=src e he;exact⟨e.1,cs,List.mem_map.2 ⟨e,he,rfl⟩,h1,h2,h3⟩
section
variable (n:Nd)
@[simp]theorem gcs0:qck n.cs 0=some (.int .i64 n.kind):=rfl
@[simp]theorem gcs1:qck n.cs 1=some (.int .i64 n.space):=rfl
@[simp]theorem gcs2:qck n.cs 2=some (.str n.name):=rfl
@[simp]theorem gcs3:qck n.cs 3=some (qaf n.attrs):=rfl
@[simp]theorem gcs4:qck n.cs 4=some (.str n.data):=rfl
@[simp]theorem gcs5:qck n.cs 5=some (.int .i64 n.up):=rfl
@[simp]theorem gcs6:qck n.cs 6=some (qbc n.kids):=rfl
@[simp]theorem qe4:qa9 n.cs=true:=by simp[Nd.cs,qa9,qb9,qab]
end
def qf3(L:List Int) (n:Int):Nat:=L.countP fun x=>decide (x=n)
theorem c28{T:List (Entry PG)} (L:List Int) (n:Int) (hl:L.length<=1000000):CA T 28 [qbc L,.int .i64 n] zH (.int .i64 (qf3 L n:Nat)) zH:=by
 refine qa0 (s0:=⟨[0,1,4,5,6],[qbc L,.int .i64 n,uD,uD,uD],[],22,⟨0,[[]]⟩⟩) Tryz.func28 rfl rfl rfl ?_;apply ra;simp[zS];apply ra;simp[zS];apply ra;simp[zS];refine qa7 (qb1 (fun i:Nat=>(⟨[0,1,4,5,6],[qbc L,.int .i64 n,uD,.int .i64 (qf3 (L.take i) n:Nat),.int .i64 i],[],22,⟨0,[[]]⟩⟩ : St))
  (fun i=>i<=L.length) (fun i=>L.length - i) [] [] 0 (Nat.zero_le _) ⟨rfl,rfl,rfl,by simp[qax,qas,qab,qa9,qbc,qf3],FitH.nothing⟩ ?_)
 rintro i hi B hB;have hc:qf3 (L.take i) n<=i:=Nat.le_trans List.countP_le_length (by simp;omega);apply ra;simp[zS,ql8];refine qb0 rfl (fun h=>?_) fun h=>?_
 ·simp at h;apply qa4;simp;repeat apply wq
  apply qa7;by_cases hv:L[i]=n
  ·have hn:qf3 (L.take (i+1)) n=qf3 (L.take i) n+1:=(by rw[List.take_succ_eq_append_getElem h];simp[qf3,hv]);apply ra;simp[zS,atI h,hv];apply qai rfl;apply ra;simp[zS,qbb (show qf3 (L.take i) n<=1000000000 by omega)];apply ra;simp[zS,qbb (show i<=1000000000 by omega)];exact hB _ (i+1) (by omega) (by omega) ⟨[],[],⟨rfl,rfl,rfl,by simp[qax,qas,qab,qa9,qbc,hn],FitH.nothing⟩⟩
  ·have hn:qf3 (L.take (i+1)) n=qf3 (L.take i) n:=(by rw[List.take_succ_eq_append_getElem h];simp only[qf3,List.countP_append,List.countP_cons,List.countP_nil];simp[hv]);apply ra;simp[zS,atI h,hv];apply qag rfl;apply qa4;simp;apply ra;simp[zS,qbb (show i<=1000000000 by omega)];exact hB _ (i+1) (by omega) (by omega) ⟨[],[],⟨rfl,rfl,rfl,by simp[qax,qas,qab,qa9,qbc,hn],FitH.nothing⟩⟩
 ·simp at h;apply qar;simp;apply ra;simp[zS];apply qa5;simp[zQ,Tryz.f28];exact qa2 rfl (by rw[List.take_of_length_le h])
theorem injLI(x y:List Int × Int) (h:[qbc x.1,.int .i64 x.2]=[qbc y.1,.int .i64 y.2]):x=y:=by simp only[List.cons.injEq]at h;obtain⟨h1,h2,_⟩:=h;simp at h2;exact Prod.ext (qmm h1) h2
def e28:Entry PG:=mkE 28 [[1],[]] (fun x:List Int × Int=>[qbc x.1,.int .i64 x.2]) (fun x=>x.1.length<=1000000) (fun x=>.int .i64 (qf3 x.1 x.2:Nat)) fun x hx=>c28 (T:=[]) x.1 x.2 hx
theorem k28{T:List (Entry PG)} (hT:qIn 28 T e28) {L:List Int} (n:Int) (hl:L.length<=1000000) (H:Heap):qb6 (ctx T) (.fn 28) [qbc L,.int .i64 n] H=some (.int .i64 (qf3 L n:Nat),H):=
 qac hT injLI (L,n) hl rfl (by simp[qbc])
def qda(t:Tr):Nat->Int->Bool
 |0,_=>false
 |f+1,i=>if (qa1 t i).up = -1 then true else qda t f (qa1 t i).up
def qsv(t:Tr):Prop:=∀x,x∈t->x.up = -1\/(0<=x.up/\x.up < (t.length:Int))
theorem c29{T:List (Entry PG)} (t:Tr) (hl:t.length<=1000000) (hu:qsv t) (i0:Int) (h0:0<=i0) (h1:i0 < (t.length:Int)):CA T 29 [qav t,.int .i64 i0] zH (.bool (qda t (t.length+1) i0)) zH:=by
 refine qa0 (s0:=⟨[0,1,2,4,5],[qav t,.int .i64 i0,uD,uD,uD],[],26,⟨0,[[]]⟩⟩) Tryz.func29 rfl rfl rfl ?_;apply ra;simp[zS,qav];apply ra;simp[zS];refine qa7 (qb1 (fun x:Nat × Int=>(⟨[0,1,2,4,5],[uD,.int .i64 x.2,.ptr 0 0,uD,.int .i64 x.1],[],26,⟨1,[[(0,.cells [qaa t])]]⟩⟩ : St))
  (fun x=>x.1<=t.length+1/\0<=x.2/\x.2 < (t.length:Int)/\qda t (t.length+1) i0=qda t (t.length+1 - x.1) x.2) (fun x=>t.length+1 - x.1) [(0,0)] [] (0,i0) ⟨Nat.zero_le _,h0,h1,rfl⟩
  ⟨rfl,rfl,rfl,by simp[qax,qas,qb2,qab],.id1 (g:=[(0,.cells [qaa t])]) (by simp) (by simp) (by simp[zG,qa9])⟩ ?_)
 rintro⟨k,i⟩ ⟨hk,j0,j1,he⟩ B hB;simp only at hk j0 j1 he;apply ra;simp[zS,qhl];refine qb0 rfl (fun h=>?_) fun h=>?_
 ·simp at h;apply qa4;simp;repeat apply wq
  apply qa7;rw[show t.length+1 - k=(t.length - k)+1 by omega,show qda t (t.length - k+1) i=if (qa1 t i).up = -1 then true else qda t (t.length - k) (qa1 t i).up from rfl]at he;by_cases hv:(qa1 t i).up = -1
  ·rw[if_pos hv]at he;apply ra;simp[zS,atX j0 j1,hv];apply qai rfl;apply ra;simp[zS];apply qa5;simp[zQ,Tryz.f29];exact qa2 rfl (by rw[he])
  ·rw[if_neg hv]at he;apply ra;simp[zS,atX j0 j1,hv];apply qag rfl;apply qa4;simp;apply ra;simp[zS,atX j0 j1];apply ra;simp[zS,qbb (show k<=1000000000 by omega)];have hup:=(hu _ (qb3 j0 j1)).resolve_left hv;exact hB _ (k+1,(qa1 t i).up) (by simp;omega) ⟨by simp;omega,hup.1,hup.2,by simp only;rw[he];congr 1;omega⟩ ⟨[(0,0)],[],rfl,rfl,rfl,by simp[qax,qas,qb2,qab],.id1 (g:=[(0,.cells [qaa t])]) (by simp) (by simp) (by simp[zG,qa9])⟩
 ·simp at h;apply qar;simp;apply ra;simp[zS];apply qa5;simp[zQ,Tryz.f29];exact qa2 rfl (by rw[he,show t.length+1 - k=0 by omega];rfl)
def e29:Entry PG:=mkE 29 [[],[]] (fun x:Tr × Int=>[qav x.1,.int .i64 x.2]) (fun x=>x.1.length<=1000000/\qsv x.1/\0<=x.2/\x.2 < (x.1.length:Int)) (fun x=>.bool (qda x.1 (x.1.length+1) x.2)) fun x hx=>c29 (T:=[]) x.1 hx.1 hx.2.1 x.2 hx.2.2.1 hx.2.2.2
theorem k29{T:List (Entry PG)} (hT:qIn 29 T e29) {t:Tr} (hl:t.length<=1000000) (hu:qsv t) {i:Int} (h0:0<=i) (h1:i < (t.length:Int)) (H:Heap):qb6 (ctx T) (.fn 29) [qav t,.int .i64 i] H=some (.bool (qda t (t.length+1) i),H):=
 qac hT qtm (t,i) ⟨hl,hu,h0,h1⟩ rfl (by simp[qok])
theorem qyp{C:Ctx} {n:Nat} {r:Option Nat} {c d:Code} {s:St} {Q:Out->St->Prop} (φ:Prop) (s0:St) (h1:φ->WpSr C n r d s0 Q) (h2:(∀s',φ->s'.wT=s0->WpSr C n r d s' Q)->WpSr C n r c s (qam (fun s=>WpSr C n r d s Q) Q)):WpSr C n r (.seq c d) s Q:=
 qal (h2 fun s' hφ e b a w hb ha K hK=>h1 hφ b a w hb (by have:=ha.fresh;rw[<- e];exact this) K hK)
def zcl(t:Tr) (i:Nat):Bool:=decide (0 < i) && (decide ((qa1 t i).kind < 1) || (decide (4 < (qa1 t i).kind) || (decide ((qa1 t i).up < -1) || decide ((t.length:Int)<=(qa1 t i).up))))
def badB(t:Tr) (i:Nat):Bool:=decide (0<=(qa1 t i).up) && (decide (1 < (qa1 t (qa1 t i).up).kind) || decide ((qf3 (qa1 t (qa1 t i).up).kids i:Int)≠1))
def badC(t:Tr) (i:Nat) (k:Int):Bool:=decide (k < 0) || (decide ((t.length:Int)<=k) || decide ((qa1 t k).up≠(i:Int)))
def qn9(t:Tr) (i:Nat):Bool:=!zcl t i && (!badB t i && !(qa1 t i).kids.any (badC t i))
def qbx(t:Tr):Bool:=decide (t≠[]) && (decide ((qa1 t 0).kind=0) && (decide ((qa1 t 0).up = -1) && ((List.range t.length).all (qn9 t) && (List.range t.length).all fun i=>qda t (t.length+1) (i:Int))))
theorem qer{t:Tr} {i:Nat} (h:i < t.length) (hb:qn9 t i=false):qbx t=false:=by have:(List.range t.length).all (qn9 t)=false:=List.all_eq_false.2 ⟨i,by simpa using h,by simp[hb]⟩;simp[qbx,this]
theorem qrv{t:Tr} {i:Nat} (h:i < t.length) (hb:qda t (t.length+1) (i:Int)=false):qbx t=false:=by have:((List.range t.length).all fun i=>qda t (t.length+1) (i:Int))=false:=List.all_eq_false.2 ⟨i,by simpa using h,by simp[hb]⟩;simp[qbx,this]
theorem qru{t:Tr} (h:t≠[]) (h0:(qa1 t 0).kind=0) (h1:(qa1 t 0).up = -1) (h2:∀j,j < t.length->qn9 t j=true) (h3:∀j,j < t.length->qda t (t.length+1) (j:Int)=true):qbx t=true:=by have e1:(List.range t.length).all (qn9 t)=true:=List.all_eq_true.2 fun j hj=>h2 j (by simpa using hj);have e2:((List.range t.length).all fun i=>qda t (t.length+1) (i:Int))=true:=List.all_eq_true.2 fun j hj=>h3 j (by simpa using hj);simp[qbx,h,h0,h1,e1,e2]
theorem zcx{t:Tr} (h1:(qa1 t 0).up = -1) (h2:∀j,j < t.length->qn9 t j=true):qsv t:=by
 intro x hx;obtain⟨j,hj,rfl⟩:=List.getElem_of_mem hx;have:=h2 j hj;rw[<- qbt hj];by_cases hz:j=0
 ·subst hz;exact .inl h1
 ·simp only[qn9,zcl,Bool.and_eq_true,Bool.not_eq_true',Bool.and_eq_false_iff,Bool.or_eq_false_iff,decide_eq_false_iff_not]at this;rcases this.1 with h|h
  ·omega
  ·omega
theorem c15{T:List (Entry PG)} (hT:qIn 28 T e28) (hH:qIn 29 T e29) (t:Tr) (ht:okTr t) :
  CA T 15 [qav t] zH (.bool (qbx t)) zH:=by
 have htl:=ht.1;have g0:∀(m:Nat),FitH 0 [(0,0)] [] ⟨m,[[(0,.cells [qaa t])]]⟩ ⟨1,[[(0,.cells [qaa t])]]⟩:=fun m=>.id1 (g:=[(0,.cells [qaa t])]) (by simp) (by simp) (by simp[zG,qa9]);refine qa0 (s0:=⟨[0,1,2,3,4,5,6],[qav t,uD,uD,uD,uD,uD,uD],[],138,⟨0,[[]]⟩⟩) Tryz.func15 rfl rfl rfl ?_;apply ra;simp[zS,qav];by_cases z0:t=[]
 ·apply ra;simp[zS,qhl,z0];apply qai rfl;apply ra;simp[zS];apply qa5;simp[zQ,Tryz.f15];exact qa2 rfl (by simp[qbx,z0])
 have zl:0 < t.length:=List.length_pos_iff.2 z0;have a0:=atX (t:=t) (i:=0) (by omega) (by omega);by_cases z1:(qa1 t 0).kind=0
 case neg=>
  apply ra;simp[zS,qhl,z0,a0,z1];apply qai rfl;apply ra;simp[zS];apply qa5;simp[zQ,Tryz.f15];exact qa2 rfl (by simp[qbx,z1])
 by_cases z2:(qa1 t 0).up = -1
 case neg=>
  apply ra;simp[zS,qhl,z0,a0,z1,z2];apply qai rfl;apply ra;simp[zS];apply qa5;simp[zQ,Tryz.f15];exact qa2 rfl (by simp[qbx,z2])
 apply ra;simp[zS,qhl,z0,a0,z1,z2];apply qag rfl;apply qa4;simp;apply ra;simp[zS];refine qa7 (qb1 (fun i:Nat=>(⟨[0,1,2,3,4,5,6],[uD,.ptr 0 0,uD,.int .i64 i,uD,uD,uD],[],138,⟨1,[[(0,.cells [qaa t])]]⟩⟩ : St))
  (fun i=>i<=t.length/\∀j,j < i->qn9 t j=true) (fun i=>t.length - i) [(0,0)] [] 0 ⟨Nat.zero_le _,fun j hj=>absurd hj (Nat.not_lt_zero j)⟩ ⟨rfl,rfl,rfl,by simp[qax,qas,qb2,qab],g0 1⟩ ?_)
 rintro i ⟨hi,hall⟩ B hB;apply ra;simp[zS,qhl];refine qb0 rfl (fun h=>?_) fun h=>?_
 ·simp at h;apply qa4;simp;repeat apply wq
  apply qa7;apply qal;have hkd:=(ht.2 _ (qb3 (t:=t) (i:=(i:Int)) (by omega) (by omega))).1;obtain⟨n,hn⟩ : ∃n,n=qa1 t i:=⟨_,rfl⟩;refine qah qbf ?_;simp[zN,atX (t:=t) (i:=(i:Int)) (by omega) (by omega)];rw[<- hn]at hkd ⊢;refine qyp (zcl t i=false) ((⟨[0,1,2,3,4,5,6],[uD,.ptr 0 0,uD,.int .i64 i,.ptr 1 0,uD,uD],[],138,⟨2,[[(1,.cells n.cs),(0,.cells [qaa t])]]⟩⟩ : St)) (fun hbA=>?_) fun hj=>?_
  rotate_left
  ·by_cases c0:0 < i
   ·by_cases c1:n.kind < 1
    ·apply ra;simp[zS,qhl,c0,c1];apply qai rfl;apply ra;simp[zS];apply qa5;simp[zQ,Tryz.f15];exact qa2 rfl (by rw[qer h (by simp[qn9,zcl,c0,<- hn,c1])])
    ·by_cases c2:4 < n.kind
     ·apply ra;simp[zS,qhl,c0,c1,c2];apply qai rfl;apply ra;simp[zS];apply qa5;simp[zQ,Tryz.f15];exact qa2 rfl (by rw[qer h (by simp[qn9,zcl,c0,<- hn,c1,c2])])
     ·by_cases c3:n.up < -1
      ·apply ra;simp[zS,qhl,c0,c1,c2,c3];apply qai rfl;apply ra;simp[zS];apply qa5;simp[zQ,Tryz.f15];exact qa2 rfl (by rw[qer h (by simp[qn9,zcl,c0,<- hn,c1,c2,c3])])
      ·by_cases c4:(t.length:Int)<=n.up
       ·apply ra;simp[zS,qhl,c0,c1,c2,c3,c4];apply qai rfl;apply ra;simp[zS];apply qa5;simp[zQ,Tryz.f15];exact qa2 rfl (by rw[qer h (by simp[qn9,zcl,c0,<- hn,c1,c2,c3,c4])])
       ·apply ra;simp[zS,qhl,c0,c1,c2,c3,c4];apply qag rfl;apply qa4;simp;exact hj _ (by simp[zcl,<- hn,c1,c2,c3,c4]) rfl
   ·apply ra;simp[zS,qhl,c0];apply qag rfl;apply qa4;simp;exact hj _ (by simp[zcl,c0]) rfl
  have hup:n.up < (t.length:Int):=by
   by_cases hz:i=0
   ·subst hz;rw[hn];simp only[Int.natCast_zero,z2];omega
   ·simp only[zcl,<- hn,Bool.and_eq_false_iff,Bool.or_eq_false_iff,decide_eq_false_iff_not]at hbA;omega
  refine qyp (badB t i=false) ((⟨[0,1,2,3,4,5,6],[uD,.ptr 0 0,uD,.int .i64 i,.ptr 1 0,uD,uD],[],138,⟨2,[[(1,.cells n.cs),(0,.cells [qaa t])]]⟩⟩ : St)) (fun hbB=>?_) fun hj=>?_
  rotate_left
  ·by_cases c5:0<=n.up
   ·have hkt:=k28 hT (L:=(qa1 t n.up).kids) (i:Int) (by have:=(ht.2 _ (qb3 c5 hup)).1;omega);generalize hv:qf3 (qa1 t n.up).kids (i:Int)=v at hkt;by_cases c6:1 < (qa1 t n.up).kind
    ·apply ra;simp[zS,c5,atX c5 hup,hkt,c6];apply qai rfl;apply ra;simp[zS];apply qa5;simp[zQ,Tryz.f15];exact qa2 rfl (by rw[qer h (by simp[qn9,badB,<- hn,hv,c5,c6];try (intro _ ;omega))])
    ·by_cases c7:¬ (v:Int)=1
     ·apply ra;simp[zS,c5,atX c5 hup,hkt,c6,c7];apply qai rfl;apply ra;simp[zS];apply qa5;simp[zQ,Tryz.f15];exact qa2 rfl (by rw[qer h (by simp[qn9,badB,<- hn,hv,c5,c6,c7];try (intro _ ;omega))])
     ·have c7:=Decidable.not_not.1 c7;apply ra;simp[zS,c5,atX c5 hup,hkt,c6,c7];apply qag rfl;apply qa4;simp;exact hj _ (by simp[badB,<- hn,hv,c6,c7];try omega) rfl
   ·apply ra;simp[zS,c5];apply qag rfl;apply qa4;simp;exact hj _ (by simp[badB,<- hn,c5]) rfl
  apply ra;simp[zS];have g1:∀(m:Nat),FitH 0 [(1,1),(0,0)] [] ⟨m,[[(1,.cells n.cs),(0,.cells [qaa t])]]⟩ ⟨2,[[(1,.cells n.cs),(0,.cells [qaa t])]]⟩:=fun m=>.id1 (g:=[(1,.cells n.cs),(0,.cells [qaa t])]) (by simp) (by simp) (by simp[zG,qa9]);refine qa7 (qb1 (fun k:Nat=>(⟨[0,1,2,3,4,5,6],[uD,.ptr 0 0,uD,.int .i64 i,.ptr 1 0,.int .i64 k,uD],[],138,⟨2,[[(1,.cells n.cs),(0,.cells [qaa t])]]⟩⟩ : St))
   (fun k=>k<=n.kids.length/\n.kids.any (badC t i)=(n.kids.drop k).any (badC t i)) (fun k=>n.kids.length - k) [(1,1),(0,0)] [] 0 ⟨Nat.zero_le _,rfl⟩ ⟨rfl,rfl,rfl,by simp[qax,qas,qb2,qab],g1 2⟩ ?_)
  rintro k ⟨hk,hany⟩ B2 hB2;apply ra;simp[zS,ql8];refine qb0 rfl (fun h2=>?_) fun h2=>?_
  ·simp at h2;rw[List.drop_eq_getElem_cons h2,List.any_cons]at hany;apply qa4;simp;repeat apply wq
   apply qa7;by_cases d1:n.kids[k] < 0
   ·repeat apply wq
    refine qbu mixed qbf (by decide +kernel) (by decide +kernel) ?_;simp[zS,qcr,qbl,qbi,atI h2,d1];apply qai rfl;apply ra;simp[zS];apply qa5;simp[zQ,Tryz.f15];exact qa2 rfl (by rw[qer h (by simp only[qn9,<- hn,hany];simp[badC,d1])])
   ·by_cases d2:(t.length:Int)<=n.kids[k]
    ·repeat apply wq
     refine qbu mixed qbf (by decide +kernel) (by decide +kernel) ?_;simp[zS,qcr,qbl,qbi,atI h2,qhl,d1,d2];apply qai rfl;apply ra;simp[zS];apply qa5;simp[zQ,Tryz.f15];exact qa2 rfl (by rw[qer h (by simp only[qn9,<- hn,hany];simp[badC,d1,d2])])
    ·have ak:=atX (t:=t) (i:=n.kids[k]) (by omega) (by omega);by_cases d3:(qa1 t n.kids[k]).up=(i:Int)
     ·repeat apply wq
      refine qbu mixed qbf (by decide +kernel) (by decide +kernel) ?_;simp[zS,qcr,qbl,qbi,atI h2,qhl,ak,d1,d2,d3];apply qag rfl;apply qa4;simp;apply ra;simp[zS,qbb (show k<=1000000000 by omega)];refine hB2 _ (k+1) (by omega) ⟨by omega,?_⟩ ⟨[(1,1),(0,0)],[],rfl,rfl,rfl,by simp[qax,qas,qb2,qab],g1 _⟩;rw[hany];simp[badC,d1,d2,d3]
     ·repeat apply wq
      refine qbu mixed qbf (by decide +kernel) (by decide +kernel) ?_;simp[zS,qcr,qbl,qbi,atI h2,qhl,ak,d1,d2,d3];apply qai rfl;apply ra;simp[zS];apply qa5;simp[zQ,Tryz.f15];exact qa2 rfl (by rw[qer h (by simp only[qn9,<- hn,hany];simp[badC,d1,d2,d3])])
  ·simp at h2;rw[List.drop_eq_nil_of_le h2]at hany;apply qar;simp;apply ra;simp[zS,qbb (show i<=1000000000 by omega)];refine hB _ (i+1) (by omega) ⟨by omega,fun j hj=>?_⟩ ⟨[(0,0)],[],rfl,rfl,rfl,by simp[qax,qas,qb2,qab],.id1 (g:=[(0,.cells [qaa t])]) (by simp) (by simp) (by simp[zG,qa9])⟩;by_cases hji:j=i
   ·subst hji;simp[qn9,hbA,hbB,<- hn,hany]
   ·exact hall j (by omega)
 ·simp at h;have hin:i=t.length:=by omega
  subst hin;have hups:=zcx z2 hall;apply qar;simp;apply ra;simp[zS];refine qa7 (qb1 (fun i:Nat=>(⟨[0,1,2,3,4,5,6],[uD,.ptr 0 0,uD,uD,uD,uD,.int .i64 i],[],138,⟨1,[[(0,.cells [qaa t])]]⟩⟩ : St))
   (fun i=>i<=t.length/\∀j,j < i->qda t (t.length+1) (j:Int)=true) (fun i=>t.length - i) [(0,0)] [] 0 ⟨Nat.zero_le _,fun j hj=>absurd hj (Nat.not_lt_zero j)⟩ ⟨rfl,rfl,rfl,by simp[qax,qas,qb2,qab],g0 1⟩ ?_)
  rintro i ⟨hi,hh⟩ B hB;apply ra;simp[zS,qhl];refine qb0 rfl (fun h=>?_) fun h=>?_
  ·simp at h;apply qa4;simp;repeat apply wq
   apply qa7;have kh:=fun H=>k29 hH (t:=t) (by have:=ht.1;omega) hups (i:=(i:Int)) (by omega) (by omega) H;simp only[qav]at kh;cases hv:qda t (t.length+1) (i:Int)with
   |false=>rw[hv]at kh;apply ra;simp[zS,kh];apply qai rfl;apply ra;simp[zS];apply qa5;simp[zQ,Tryz.f15];exact qa2 rfl (by rw[qrv h hv])
   |true=>
    rw[hv]at kh;apply ra;simp[zS,kh];apply qag rfl;apply qa4;simp;apply ra;simp[zS,qbb (show i<=1000000000 by omega)];refine hB _ (i+1) (by omega) ⟨by omega,fun j hj=>?_⟩ ⟨[(0,0)],[],rfl,rfl,rfl,by simp[qax,qas,qb2,qab],g0 _⟩;by_cases hji:j=i
    ·subst hji;exact hv
    ·exact hh j (by omega)
  ·simp at h;have hin:i=t.length:=(by omega);subst hin;apply qar;simp;apply ra;simp[zS];apply qa5;simp[zQ,Tryz.f15];exact qa2 rfl (by rw[qru z0 z1 z2 hall hh])
def e15:Entry PG:=mkE 15 [[]] (fun t:Tr=>[qav t]) okTr (fun t=>.bool (qbx t)) fun t ht=>c15 (T:=[e28,e29]) rfl rfl t ht
theorem k15{T:List (Entry PG)} (hT:qIn 15 T e15) {t:Tr} (ht:okTr t) (H:Heap):qb6 (ctx T) (.fn 15) [qav t] H=some (.bool (qbx t),H):=
 qac hT injT t ht rfl (by simp[qok])
def qrb(t:Tr) (m:Int):Bool:=qkz t m && qbx t
theorem c6{T:List (Entry PG)} (hF:qIn 14 T e14) (hR:qIn 15 T e15) (t:Tr) (m:Int) (hm:m<=50):CA T 6 [qav t,.int .i64 m] zH (.bool (qrb t m)) zH:=by
 have kf:=fun H=>k14 hF t (m:=m) (by omega) H;simp only[qav]at kf;cases hf:qkz t m with
 |false=>
  rw[hf]at kf;refine qa0 (s0:=⟨[0,1,2,4],[qav t,.int .i64 m,uD,uD],[],12,⟨0,[[]]⟩⟩) Tryz.func6 rfl rfl rfl ?_
  (repeat (first
   |(apply qal)
   |(apply qa7)
   |(apply qch;simp only[qam,qaj])
   |((refine qah qbf ?_);simp[zS,qav,kf])
   |apply qai rfl
   |apply qag rfl
   |((apply qa4);simp only[qam,qaj])
   |((apply qar);simp)))
  apply qa5;simp[zQ,Tryz.f6];exact qa2 rfl (by simp[qrb,hf])
 |true=>
  have kr:=fun H=>k15 hR (qwh hm hf).2 H;simp only[qav]at kr;rw[hf]at kf;refine qa0 (s0:=⟨[0,1,2,4],[qav t,.int .i64 m,uD,uD],[],12,⟨0,[[]]⟩⟩) Tryz.func6 rfl rfl rfl ?_
  (repeat (first
   |(apply qal)
   |(apply qa7)
   |(apply qch;simp only[qam,qaj])
   |((refine qah qbf ?_);simp[zS,qav,kf,kr])
   |apply qai rfl
   |apply qag rfl
   |((apply qa4);simp only[qam,qaj])
   |((apply qar);simp)))
  apply qa5;simp[zQ,Tryz.f6];exact qa2 rfl (by simp[qrb,hf])
def e6:Entry PG:=mkE 6 [[],[]] (fun x:Tr × Int=>[qav x.1,.int .i64 x.2]) (fun x=>x.2<=50) (fun x=>.bool (qrb x.1 x.2)) fun x hx=>c6 (T:=[e14,e15]) rfl rfl x.1 x.2 hx
theorem k6{T:List (Entry PG)} (hT:qIn 6 T e6) (t:Tr) {m:Int} (hm:m<=50) (H:Heap):qb6 (ctx T) (.fn 6) [qav t,.int .i64 m] H=some (.bool (qrb t m),H):=
 qac hT qtm (t,m) hm rfl (by simp[qok])
theorem qle{α:Type} {n:Nat} {t e:TypeId} {enc:α->AV} {ag:Bool} (hu:PG.underlying t=some (.slice e)) (hag:qia PG e=some ag) (h:∀cs x,qd6 PG n e cs->qhn ag cs=some x->∃a,x=enc a) {qs:List AV} (hs:qd6 PG (n+1) t qs) :
  ∃L:List α,qs=[.fslc (PG.cellsOf e) (L.map enc)]:=by
 unfold qd6 at hs;simp only[hu]at hs;obtain⟨es,rfl,_,hes⟩:=hs;have key:∀l:List AV,(∀x,x∈l->∃ag cs,qia PG e=some ag/\qhn ag cs=some x/\qd6 PG n e cs)->∃L:List α,l=L.map enc:=by
  intro l;induction l with
  |nil=>intro _;exact⟨[],rfl⟩
  |cons x r ih=>intro hx;obtain⟨ag',cs,h1,h2,h3⟩:=hx x (by simp);rw[hag,sj]at h1;subst h1;obtain⟨a,ha⟩:=h cs x h3 h2;obtain⟨L,hL⟩:=ih fun y hy=>hx y (by simp[hy]);exact⟨a::L,by rw[ha,hL];rfl⟩
 obtain⟨L,rfl⟩:=key es hes;exact⟨L,rfl⟩
theorem qm4{n:Nat} {qs:List AV} (h:qd6 PG (n+1) 9 qs):∃s:Str,qs=[.str s]:=by unfold qd6 at h;simp only[Tryz.underlying9]at h;obtain⟨s,rfl,_⟩:=h;exact⟨s,rfl⟩
theorem qm5{n:Nat} {qs:List AV} (h:qd6 PG (n+1) 3 qs):∃i:Int,qs=[qb9 i]:=by unfold qd6 at h;simp only[Tryz.underlying3]at h;obtain⟨s,rfl,_⟩:=h;exact⟨s,rfl⟩
theorem qya:PG.cellsOf 71=2:=by kernel_rfl
theorem zc8:PG.cellsOf 3=1:=by kernel_rfl
theorem qy9:PG.cellsOf 34=7:=by kernel_rfl
theorem zb7{n:Nat} {qs:List AV} (h:qd6 PG (n+2) 71 qs):∃a:At1,AV.agg qs=qbw a:=by
 unfold qd6 at h;simp only[Tryz.underlying71]at h;cases h with
 |cons f r x y h1 h2=>
  cases h2 with
  |cons f2 r2 x2 y2 h3 h4=>cases h4;obtain⟨s1,rfl⟩:=qm4 h1;obtain⟨s2,rfl⟩:=qm4 h3;exact⟨(s1,s2),rfl⟩
theorem qx9{n:Nat} {qs:List AV} (h:qd6 PG (n+3) 32 qs):∃L:List At1,qs=[qaf L]:=by obtain⟨L,rfl⟩:=qle (enc:=qbw) (ag:=true) Tryz.underlying32 agT71 (fun cs x h hw=>by simp only[qhn,sj]at hw;obtain⟨a,ha⟩:=zb7 h;exact⟨a,by rw[<- hw,ha]⟩) h;exact⟨L,by rw[qya];rfl⟩
theorem zb6{n:Nat} {qs:List AV} (h:qd6 PG (n+2) 30 qs):∃L:List Int,qs=[qbc L]:=by obtain⟨L,rfl⟩:=qle (enc:=qb9) (ag:=false) Tryz.underlying30 agT3 (fun cs x h hw=>by obtain⟨a,rfl⟩:=qm5 h;simp only[qhn,qb9,AV.single,sj]at hw;exact⟨a,hw.symm⟩) h;exact⟨L,by rw[zc8]⟩
theorem zb5{n:Nat} {qs:List AV} (h:qd6 PG (n+4) 34 qs):∃a:Nd,AV.agg qs=qa3 a:=by unfold qd6 at h;simp only[Tryz.underlying34]at h;obtain _|⟨_,_,_,_,h1,h⟩:=h;obtain _|⟨_,_,_,_,h2,h⟩:=h;obtain _|⟨_,_,_,_,h3,h⟩:=h;obtain _|⟨_,_,_,_,h4,h⟩:=h;obtain _|⟨_,_,_,_,h5,h⟩:=h;obtain _|⟨_,_,_,_,h6,h⟩:=h;obtain _|⟨_,_,_,_,h7,h⟩:=h;cases h;obtain⟨x1,rfl⟩:=qm5 h1;obtain⟨x2,rfl⟩:=qm5 h2;obtain⟨x3,rfl⟩:=qm4 h3;obtain⟨x4,rfl⟩:=qx9 (n:=n) h4;obtain⟨x5,rfl⟩:=qm4 h5;obtain⟨x6,rfl⟩:=qm5 h6;obtain⟨x7,rfl⟩:=zb6 (n:=n+1) h7;exact⟨⟨x1,x2,x3,x4,x5,x6,x7⟩,rfl⟩
theorem zb3{n:Nat} {qs:List AV} (h:qd6 PG (n+6) 24 qs):∃t:Tr,AV.agg qs=qav t:=by unfold qd6 at h;simp only[Tryz.underlying24]at h;obtain _|⟨_,_,_,_,h1,h⟩:=h;cases h;obtain⟨L,rfl⟩:=qle (n:=n+4) (enc:=qa3) (ag:=true) Tryz.underlying22 agT34 (fun cs x h hw=>by simp only[qhn,sj]at hw;obtain⟨a,ha⟩:=zb5 h;exact⟨a,by rw[<- hw,ha]⟩) h1;exact⟨L,by rw[qy9];rfl⟩
theorem okTree:zch PG 6 24=true:=by kernel_rfl
section
variable {H:Type} {enc:TypeId × Value->H} {W:World} {hg:GlobsIn W}
theorem argTree{b0 base:Nat} {sp:Nat->Bool} {held:Bool} {v:Value} {d:DataW H} {ps:List MemPlace} (ht:DataW.Trod enc PG W base sp held 24 v d ps) (hv:Value.okWide PG W .any b0 24 v):∃t,VR (start W hg) (qav t) v:=by
 obtain⟨qs,a,h1,h2,h3⟩:=zh4 (hg:=hg) okTree (ag:=true) agT24 (fun h=>by cases h) ht hv;obtain⟨x,hx⟩:=zb3 (n:=0) h1;have:a=qav x:=by simp only[qhn,sj]at h2;rw[<- h2,hx]
 exact⟨x,this ▸ h3⟩
end
theorem zba{C:Ctx} (hP:C.P=PG) (x:Value) (w:World):(callFunc 144 #[x]).run C.P w=.ok (.value x) w:=by
 have hf:C.P.funcs[144]? = some Tryz.f144:=by rw[hP];exact Tryz.func144
 have hn : ¬ Tryz.f144.name = "runtime.NumGoroutine" := by decide +kernel
 have h1:Extern.findNext Tryz.f144=none:=by kernel_rfl
 have h2:Extern.find Tryz.f144=some Extern.AbiNoEscape.same:=by kernel_rfl
 have h3:Tryz.f144.body=none:=by kernel_rfl
 simp[callFunc,hf,hn,h1,h2,h3,Lib.run_noEscape]
def e144:Entry PG:=⟨144,fun args H=>match args with
 |[.ptr b o]=>some (.ptr b o,H)
 |_=>none,fun args H v H' hv=>by
  split at hv
  ·simp only[sj,Prod.mk.injEq]at hv;obtain⟨rfl,rfl⟩:=hv;intro ρ w xs sm hx
   match xs,hx with
   |[x],hx=>have h0:=hx.2 0 (by simp) (by simp);simp only[List.getElem_cons_zero]at h0;exact .inl ⟨x,ρ,w,zba rfl x w,h0,sm,Step.refl _ _ _⟩
  ·cases hv⟩
theorem k144{T:List (Entry PG)} (hT:qIn 144 T e144) (b o:Nat) (H:Heap):qb6 (ctx T) (.fn 144) [.ptr b o] H=some (.ptr b o,H):=by rw[qiq (g:=e144.g) hT];rfl
abbrev qr5:Str:=[97,114,101,97,32,98,97,115,101,32,98,97,115,101,102,111,110,116,32,98,103,115,111,117,110,100,32,98,114,32,99,111,108,32,101,109,98,101,100,32,102,114,97,109,101,32,104,114,32,105,109,103,32,105,110,112,117,116,32,107,101,121,103,101,110,32,108,105,110,107,32,109,101,116,97,32,112,97,114,97,109,32,115,111,117,114,99,101,32,116,114,97,99,107,32,119,98,114]
theorem zaz:qpa (qbq qr5) (qqw (ctx []) 100000 (.fn 152) [.str qr5] zH)=true:=by decide +kernel
theorem c152v{T:List (Entry PG)}:CA T 152 [.str qr5] zH (qcj (qbq qr5)) zH:=qy8 (T:=[]) zaz
theorem c183{T:List (Entry PG)} (L:List Str) (x:Str) (hl:L.length<=1000000):CA T 183 [qcj L,.str x] zH (.int .i64 (qbo (fun y=>decide (x=y)) L 0)) zH:=by
 refine qa0 (s0:=⟨[0,1,4,5,7,8],[qcj L,.str x,uD,uD,uD,uD],[],19,⟨0,[[]]⟩⟩) Tryz.func183 rfl rfl rfl ?_;apply ra;simp[zS];apply ra;simp[zS,lenS];refine qa7 (qb1 (fun i:Nat=>(⟨[0,1,4,5,7,8],[qcj L,.str x,uD,uD,.int .i64 (L.length:Nat),.int .i64 i],[],19,⟨0,[[]]⟩⟩ : St))
  (fun i=>i<=L.length/\qbo (fun y=>decide (x=y)) L 0=qbo (fun y=>decide (x=y)) (L.drop i) i) (fun i=>L.length - i) [] [] 0 ⟨Nat.zero_le _,rfl⟩ ⟨rfl,rfl,rfl,by simp[qax,qas,qab,qa9,qcj],FitH.nothing⟩ ?_)
 rintro i ⟨hi,hx⟩ B hB;apply ra;simp[zS];repeat apply wq
 refine qb0 rfl (fun h=>?_) fun h=>?_
 ·simp at h;rw[qh8 h]at hx;apply qa4;simp;repeat apply wq
  apply qa7;apply ra;simp[zS];by_cases h2:L[i]=x
  ·apply ra;simp[zS,atS h,h2];apply qai rfl;apply ra;simp[zS];apply qa5;simp[zQ,Tryz.f183];exact qa2 rfl (by rw[hx,if_pos (by simp[h2])])
  ·have h2':¬ x=L[i]:=fun e=>h2 e.symm;apply ra;simp[zS,atS h,h2'];apply qag rfl;apply qa4;simp;apply ra;simp[zS,qbb (show i<=1000000000 by omega)];exact hB _ (i+1) (by omega) ⟨by omega,by rw[hx,if_neg (by simp[h2'])]⟩ ⟨[],[],⟨rfl,rfl,rfl,by simp[qax,qas,qab,qa9,qcj],FitH.nothing⟩⟩
 ·simp at h;apply qar;simp;apply ra;simp[zS];apply qa5;simp[zQ,Tryz.f183];exact qa2 rfl (by rw[hx,List.drop_eq_nil_of_le h];rfl)
def e183:Entry PG:=mkE 183 [[1],[]] (fun x:List Str × Str=>[qcj x.1,.str x.2]) (fun x=>x.1.length<=1000000) (fun x=>.int .i64 (qbo (fun y=>decide (x.2=y)) x.1 0)) fun x hx=>c183 (T:=[]) x.1 x.2 hx
theorem injSS(x y:List Str × Str) (h:[qcj x.1,.str x.2]=[qcj y.1,.str y.2]):x=y:=by simp at h;exact Prod.ext (qzv (by simpa[qcj]using h.1)) h.2
theorem k183{T:List (Entry PG)} (hT:qIn 183 T e183) {L:List Str} (x:Str) (hl:L.length<=1000000) (H:Heap):qb6 (ctx T) (.fn 183) [qcj L,.str x] H=some (.int .i64 (qbo (fun y=>decide (x=y)) L 0),H):=
 qac hT injSS (L,x) hl rfl (by simp[qcj])
theorem zf7{x:Str}:∀(L:List Str) (k:Nat),(0<=qbo (fun y=>decide (x=y)) L k)↔x∈L
 |[],k=>by simp[qbo]
 |y::r,k=>by
  unfold qbo;by_cases h:x=y
  ·simp[h]
  ·simp only[h,decide_false,Bool.false_eq_true,if_false,List.mem_cons,false_or];exact zf7 r (k+1)
theorem c151{T:List (Entry PG)} (hI:qIn 183 T e183) (L:List Str) (x:Str) (hl:L.length<=1000000):CA T 151 [qcj L,.str x] zH (.bool (decide (x∈L))) zH:=by
 have hk:=fun H=>k183 hI x hl H;have hm:=zf7 (x:=x) L 0;generalize qbo (fun y=>decide (x=y)) L 0=v at *;simp only[qcj]at hk;refine qa0 (s0:=⟨[0,1,4],[qcj L,.str x,uD],[],9,⟨0,[[]]⟩⟩) Tryz.func151 rfl rfl rfl ?_
 (repeat (first
  |(apply qal)
  |(apply qa7)
  |(apply qch;simp only[qam,qaj])
  |((refine qah qbf ?_);simp[zS,qcj,hk])
  |apply qai rfl
  |apply qag rfl
  |((apply qa4);simp only[qam,qaj])
  |((apply qar);simp)))
 apply qa5;simp[zQ,Tryz.f151];exact qa2 rfl (by simp[hm])
theorem wl_void:(qbq qr5).length<=1000000:=by decide +kernel
def qjg(space:Int) (name:Str):Bool:=decide (space=0) && inW qr5 name
theorem c122v{T:List (Entry PG)} (x:Str) (hx:x.length<=1000000000):CA T 122 [.str qr5,.str x] zH (.bool (inW qr5 x)) zH:=
 c122 (T:=[e149,e150]) rfl rfl qr5 x (by decide) hx (c152v (T:=[])) (c151 (T:=[e183]) rfl _ x wl_void)
theorem c84{T:List (Entry PG)} (space:Int) (name:Str) (hx:name.length<=1000000000):CA T 84 [.int .i64 space,.str name] zH (.bool (qjg space name)) zH:=by
 have h:=(c122v (T:=T) name hx).lift (by simp[qa9,qab]) ⟨0,[[]]⟩;refine qa0 (s0:=⟨[0,1,4],[.int .i64 space,.str name,uD],[],11,⟨0,[[]]⟩⟩) Tryz.func84 rfl rfl rfl ?_;by_cases hs:space=0
 ·apply ra;simp[zS];repeat apply wq
  refine qah (qbh [⟨122,_,_,_,_,h⟩]) ?_;simp[zS,qcc,hs];apply qa5;simp[zQ,Tryz.f84];exact qa2 rfl (by simp[qjg,hs])
 ·apply ra;simp[zS];apply ra;simp[zS,hs];apply qa5;simp[zQ,Tryz.f84];exact qa2 rfl (by simp[qjg,hs])
theorem injIS(x y:Int × Str) (h:[AV.int .i64 x.1,AV.str x.2]=[AV.int .i64 y.1,AV.str y.2]):x=y:=by simp at h;exact Prod.ext h.1 h.2
def e84:Entry PG:=mkE 84 [[],[]] (fun x:Int × Str=>[.int .i64 x.1,.str x.2]) (fun x=>x.2.length<=1000000000) (fun x=>.bool (qjg x.1 x.2)) fun x hx=>c84 (T:=[]) x.1 x.2 hx
theorem k84{T:List (Entry PG)} (hT:qIn 84 T e84) (space:Int) {name:Str} (hx:name.length<=1000000000) (H:Heap):qb6 (ctx T) (.fn 84) [.int .i64 space,.str name] H=some (.bool (qjg space name),H):=
 qac hT injIS (space,name) hx rfl (by simp)
theorem c110{T:List (Entry PG)} (hI:qIn 71 T e71) (space:Int) (name W:Str) (hW:W.length<=900000):CA T 110 [.int .i64 space,.str name,.str W] zH (.bool (decide (space=0) && inW W name)) zH:=by
 have hk:=fun H=>k71 hI name hW H;by_cases hs:space=0
 ·refine qa0 (s0:=⟨[0,1,2,6],[.int .i64 space,.str name,.str W,uD],[],14,⟨0,[[]]⟩⟩) Tryz.func110 rfl rfl rfl ?_
  (repeat (first
   |(apply qal)
   |(apply qa7)
   |(apply qch;simp only[qam,qaj])
   |((refine qah qbf ?_);simp[zS,hk,hs])
   |apply qai rfl
   |apply qag rfl
   |((apply qa4);simp only[qam,qaj])
   |((apply qar);simp)))
  apply qa5;simp[zQ,Tryz.f110];exact qa2 rfl (by simp[hs])
 ·refine qa0 (s0:=⟨[0,1,2,6],[.int .i64 space,.str name,.str W,uD],[],14,⟨0,[[]]⟩⟩) Tryz.func110 rfl rfl rfl ?_
  (repeat (first
   |(apply qal)
   |(apply qa7)
   |(apply qch;simp only[qam,qaj])
   |((refine qah qbf ?_);simp[zS,hk,hs])
   |apply qai rfl
   |apply qag rfl
   |((apply qa4);simp only[qam,qaj])
   |((apply qar);simp)))
  apply qa5;simp[zQ,Tryz.f110];exact qa2 rfl (by simp[hs])
theorem injISS(x y:Int × Str × Str) (h:[AV.int .i64 x.1,AV.str x.2.1,AV.str x.2.2]=[AV.int .i64 y.1,AV.str y.2.1,AV.str y.2.2]):x=y:=by simp at h;exact Prod.ext h.1 (Prod.ext h.2.1 h.2.2)
def e110:Entry PG:=mkE 110 [[],[],[]] (fun x:Int × Str × Str=>[.int .i64 x.1,.str x.2.1,.str x.2.2]) (fun x=>x.2.2.length<=900000) (fun x=>.bool (decide (x.1=0) && inW x.2.2 x.2.1)) fun x hx=>c110 (T:=[e71]) rfl x.1 x.2.1 x.2.2 hx
theorem k110{T:List (Entry PG)} (hT:qIn 110 T e110) (space:Int) (name:Str) {W:Str} (hW:W.length<=900000) (H:Heap):qb6 (ctx T) (.fn 110) [.int .i64 space,.str name,.str W] H=some (.bool (decide (space=0) && inW W name),H):=
 qac hT injISS (space,name,W) hW rfl (by simp)
theorem c69{T:List (Entry PG)} (hH:qIn 110 T e110) (space:Int) (name:Str):CA T 69 [.int .i64 space,.str name] zH (.bool (qjg space name)) zH:=by
 have hk:=fun H=>k110 hH space name (W:=qr5) (by decide) H;refine qa0 (s0:=⟨[0,1,4],[.int .i64 space,.str name,uD],[],8,⟨0,[[]]⟩⟩) Tryz.func69 rfl rfl rfl ?_
 (repeat (first
  |(apply qal)
  |(apply qa7)
  |(apply qch;simp only[qam,qaj])
  |((refine qah qbf ?_);simp[zS,hk])
  |apply qai rfl
  |apply qag rfl
  |((apply qa4);simp only[qam,qaj])
  |((apply qar);simp)))
 apply qa5;simp[zQ,Tryz.f69];exact qa2 rfl (by simp[qjg])
def e69:Entry PG:=mkE 69 [[],[]] (fun x:Int × Str=>[.int .i64 x.1,.str x.2]) (fun _=>True) (fun x=>.bool (qjg x.1 x.2)) fun x _=>c69 (T:=[e110]) rfl x.1 x.2
theorem k69{T:List (Entry PG)} (hT:qIn 69 T e69) (space:Int) (name:Str) (H:Heap):qb6 (ctx T) (.fn 69) [.int .i64 space,.str name] H=some (.bool (qjg space name),H):=
 qac hT injIS (space,name) trivial rfl (by simp)
@[simp]theorem szT21:qce PG 21=some 1:=rfl
@[simp]theorem agT21:qia PG 21=some false:=rfl
@[simp]theorem byT21:qcq PG 21=some 4:=rfl
@[simp]theorem alT21(H:Heap):alV PG H 21=some (.ptr H.n 0,H.new (.cells [.int .i32 0])):=rfl
@[simp]theorem zeT21:qc0 PG 21=some (.int .i32 0):=rfl
attribute [simp] Tryz.underlying21
@[simp 500]theorem rvF21(H:Heap) (cs:List AV) (o:Nat):qaw PG H 21 (.fptr cs o)=qck cs o:=rfl
@[simp 500]theorem rvP21(H:Heap) (b o:Nat):qaw PG H 21 (.ptr b o)=(H.get b).bind fun k=>k.rd.bind fun cs=>qck cs o:=rfl
@[simp]theorem szT158:qce PG 158=some 1:=rfl
@[simp]theorem agT158:qia PG 158=some false:=rfl
@[simp]theorem byT158:qcq PG 158=some 24:=rfl
@[simp]theorem alT158(H:Heap):alV PG H 158=some (.ptr H.n 0,H.new (.cells [.nilS])):=rfl
@[simp]theorem zeT158:qc0 PG 158=some (.nilS):=rfl
attribute [simp] Tryz.underlying158
@[simp 500]theorem rvF158(H:Heap) (cs:List AV) (o:Nat):qaw PG H 158 (.fptr cs o)=qck cs o:=rfl
@[simp 500]theorem rvP158(H:Heap) (b o:Nat):qaw PG H 158 (.ptr b o)=(H.get b).bind fun k=>k.rd.bind fun cs=>qck cs o:=rfl
@[simp]theorem slz158(sz:Nat) (e:AV) (r:List AV):qdm PG .eql 158 (.fslc sz (e::r)) .nilS=some (.bool false):=rfl
@[simp]theorem sln158(sz:Nat) (e:AV) (r:List AV):qdm PG .neq 158 (.fslc sz (e::r)) .nilS=some (.bool true):=rfl
@[simp]theorem slze158:qdm PG .eql 158 .eslc .nilS=some (.bool false):=rfl
@[simp]theorem slzz158:qdm PG .eql 158 .nilS .nilS=some (.bool true):=rfl
@[simp]theorem zd4:qce PG 160=some 2:=rfl
@[simp]theorem agT160:qia PG 160=some true:=rfl
@[simp]theorem zgp:qcq PG 160=some 16:=rfl
@[simp]theorem alT160(H:Heap):alV PG H 160=some (.ptr H.n 0,H.new (.cells [.int .i64 0,.int .i64 0])):=rfl
@[simp]theorem zcm:qc0 PG 160=some (.agg [.int .i64 0,.int .i64 0]):=rfl
attribute [simp] Tryz.underlying160
@[simp 500]theorem rvF160(H:Heap) (cs:List AV) (o:Nat):qaw PG H 160 (.fptr cs o)=(qex o 2 cs).bind fun cs=>some (.agg cs):=rfl
@[simp 500]theorem rvP160(H:Heap) (b o:Nat):qaw PG H 160 (.ptr b o)=(readCells H b o 2).bind fun cs=>some (.agg cs):=rfl
@[simp]theorem fa160_0(x:AV):qby PG 160 x 0=(match x with | .ptr b o=>some (.ptr b (o+0)) | .fptr cs o=>some (.fptr cs (o+0))|_=>none):=rfl
@[simp]theorem fd160_0(cs:List AV):qdt PG 160 (.agg cs) 0=qck cs 0:=rfl
@[simp]theorem fa160_1(x:AV):qby PG 160 x 1=(match x with | .ptr b o=>some (.ptr b (o+1)) | .fptr cs o=>some (.fptr cs (o+1))|_=>none):=rfl
@[simp]theorem fd160_1(cs:List AV):qdt PG 160 (.agg cs) 1=qck cs 1:=rfl
theorem c185{T:List (Entry PG)} (hS:qIn 150 T e150) (c:UInt8) (hc:c.toNat < 128):CA T 185 [.int .i32 (c.toNat:Int)] zH (.bool (sp c)) zH:=by
 have ks:=fun H=>k150 hS c H;have h1:(c.toNat:Int) < 128:=by omega
 have hw:IntKind.u8.wrap (c.toNat:Int)=(c.toNat:Int):=by simp[IntKind.wrap,IntKind.signed,IntKind.bits];omega
 have hcv:∀H,qh5 PG H 21 5 (.int .i32 (c.toNat:Int))=some (.int .u8 (c.toNat:Int),H):=fun H=>by simp[qh5,hw]
 refine qa0 (s0:=⟨[0,2],[.int .i32 (c.toNat:Int),uD],[],10,⟨0,[[]]⟩⟩) Tryz.func185 rfl rfl rfl ?_;apply ra;simp[zS];apply ra;simp[zS,h1,hcv,ks];apply qa5;simp[zQ,Tryz.f185];exact qa2 rfl (by rfl)
def shrB(k k':Blk):Prop:=k=k'\/∃cs G,k=.cells (cs++G)/\k'=.cells cs
def shrL:List (Nat × Blk)->List (Nat × Blk)->Prop
 |[],[]=>True
 |e::r,e'::r'=>e.1=e'.1/\shrB e.2 e'.2/\shrL r r'
 |_,_=>False
theorem qyz:∀{l l':List (Nat × Blk)},shrL l l'->l'.map (·.1)=l.map (·.1)
 |[],[],_=>rfl
 |e::r,e'::r',h=>by simp[h.1,qyz h.2.2]
 |[],_::_,h=>h.elim
 |_::_,[],h=>h.elim
theorem qm3:∀{l l':List (Nat × Blk)} {e':Nat × Blk},shrL l l'->e'∈l'->∃e,e∈l/\e.1=e'.1/\shrB e.2 e'.2
 |e::r,e1::r',e',h,he=>by
  rcases List.mem_cons.1 he with rfl|he
  ·exact⟨e,by simp,h.1,h.2.1⟩
  ·obtain⟨x,h1,h2⟩:=qm3 h.2.2 he;exact⟨x,by simp[h1],h2⟩
 |[],[],_,_,he=>by cases he
 |[],_::_,_,h,_=>h.elim
 |_::_,[],_,h,_=>h.elim
structure Shr (H H':Heap):Prop where
 n:H'.n=H.n
 l:shrL H.ents H'.ents
theorem BlkR.shr{ρ:Place} {w:World} {l:Loc} {k k':Blk} (r:BlkR ρ w l k) (h:shrB k k'):BlkR ρ w l k':=by
 rcases h with rfl|⟨cs,G,rfl,rfl⟩
 ·exact r
 ·refine⟨by have:=r.1;simp at this;omega,r.2.1,fun i hi=>?_⟩;have h2:=r.2.2 i (by simp;omega)
  rwa [List.getElem_append_left hi]at h2
theorem Sim.shr{ρ:Place} {H H':Heap} {w:World} (s:Sim ρ H w) (h:Shr H H'):Sim ρ H' w where
 base:=s.base
 below:=s.below
 os:=s.os
 tape:=s.tape
 output:=s.output
 dom:=fun b hb=>s.dom b (by rw[<- h.n];exact hb)
 nodup:=by rw[qyz h.l];exact s.nodup
 live:=fun e' he'=>by obtain⟨e,he,h1,h2⟩:=qm3 h.l he';obtain⟨l,hl,hb,hlt,hr⟩:=s.live e he;exact⟨l,by rw[<- h1];exact hl,hb,hlt,hr.shr h2⟩
 inj:=fun e1 e2 h1 h2 l1 l2 k1 k2 hcb=>by obtain⟨a1,ha1,b1,_⟩:=qm3 h.l h1;obtain⟨a2,ha2,b2,_⟩:=qm3 h.l h2;rw[<- b1,<- b2];exact s.inj a1 a2 ha1 ha2 l1 l2 (by rw[b1];exact k1) (by rw[b2];exact k2) hcb
theorem Step.shr{ρ:Place} {H H':Heap} {w:World} (s:Sim ρ H w) (h:Shr H H'):Step ρ H w ρ H' w where
 le:=Place.le_refl ρ
 size:=Nat.le_refl _
 keeps:=fun _ _ _=>rfl
 rows:=fun e' he' l' hl'=>by obtain⟨e,he,h1,_⟩:=qm3 h.l he';exact .inl ⟨e,he,l',by rw[h1];exact hl',rfl⟩
 num:=Nat.le_of_eq h.n.symm
 low:=fun _ _=>rfl
 cold:=fun _ h=>.inl h
theorem At.shr{b:Base} {s:St} {a:Act} {w:World} {H':Heap} (h:At b s a w) (k:Shr s.H H'):At b (s.wH H') a w:=by obtain⟨ρ,h1,h2,h3,h4⟩:=h;obtain⟨ks,vs,ts,sz,H⟩:=s;exact⟨ρ,h1.step (Step.shr h2 k),h2.shr k,⟨h3.1,h3.2⟩,h4.step (Step.shr h2 k)⟩
theorem WpSr.shr{C:Ctx} {n:Nat} {r:Option Nat} {c:Code} {s:St} {Q:Out->St->Prop} {H':Heap} (k:Shr s.H H') (h:WpSr C n r c (s.wH H') Q):WpSr C n r c s Q:=
 fun b a w hb ha K hK=>h b a w hb (ha.shr k) K hK
section
variable {σ:List (Nat × Nat)} {Φ:List (Nat × List AV)} {ρ:Place} {H H1:Heap} {w:World}
theorem FitH.step(f:FitH H.n σ Φ H H1) (sm:Sim ρ H w):Step ρ H w (qeb H.n σ Φ ρ w sm.below) H1 w where
 le:=⟨fun b l hb=>by
  have hlt:b < H.n:=by
   rcases Nat.lt_or_ge b H.n with h|h
   ·exact h
   ·rw[sm.dom b h]at hb;cases hb
  show (if b < H.n then ρ b else _)=_;rw[if_pos hlt];exact hb,fun k hk=>⟨.inl hk,sm.below k hk⟩,sm.os,sm.tape,sm.output⟩
 size:=Nat.le_refl _
 keeps:=fun _ _ _=>rfl
 rows:=fun e he l hl=>by obtain⟨c,k,h1,h2,_⟩:=f.src e he;rw[qet f h1]at hl;exact .inl ⟨_,Heap.get_mem h2,l,hl,rfl⟩
 num:=f.num
 low:=fun b hb=>by show (if b < H.n then ρ b else _)=_;rw[if_pos hb]
 cold:=fun k hk=>by
  rcases hk with hk|⟨c,cs,l,h1,h2,rfl⟩
  ·exact .inl hk
  ·obtain⟨cs0,g1,_⟩:=f.frz _ h1;exact .inr (.inl ⟨_,Heap.get_mem g1,l,h2,rfl⟩)
theorem CallAt.drop{C:Ctx} {f:FuncId} {args args':List AV} {v:AV} {H':Heap} (h:CallAt C f args' H1 v H') (fh:(H.ents.map (·.1)).Nodup->FitH H.n σ Φ H H1) (hf:qax σ Φ args args'):CallAt C f args H v H':=by
 intro ρ w xs sm hx;have f:=fh sm.nodup;have hx':VRs (qeb H.n σ Φ ρ w sm.below) args' xs:=by obtain⟨k1,k2⟩:=qds hf;refine⟨by rw[hx.1,k1],fun i h1 h2=>?_⟩;exact Fits.run (f.fits sm) sm _ (Nat.le_refl _) (hx.2 i (by omega) h2) (k2 i (by omega) h1)
 have st:=f.step sm;rcases h _ w xs (f.sim sm (Nat.le_refl _)) hx' with⟨x,ρ',w',h0,h1,h2,h3⟩|⟨g,ys,h0,h1⟩
 ·exact .inl ⟨x,ρ',w',h0,h1,h2,st.trans h3⟩
 ·refine .inr ⟨g,ys,h0,h1.mono ?_⟩;rintro e w' ⟨x,ρ',rfl,m1,m2,m3⟩;exact⟨x,ρ',rfl,m1,m2,st.trans m3⟩
end
structure RgA where
 C:Ctx
 call:qcf
 ops:Array Oper
 bef:Array Nat
 base:Nat
 H0:Heap
open Classical in
def evalA(A:RgA):Nat->List Oper->St->List Pend->Option (St × List Pend)
 |_,[],s,ps=>some (s,ps)
 |i,o::r,s,ps=>match qc6 A.ops s o with
  |none=>none
  |some false=>(match qc3 o.op,qb4 A.bef i ps with
    |.acts,_::_=>none
    |_,_=>match s.put o.dst (.tup [])with
     |none=>none
     |some s'=>evalA A (i+1) r s' ps)
  |some true=>match qc3 o.op with
   |.allocs=>(match qdl A.C o s with
    |none=>none
    |some k=>match s.put o.dst (k.1 (A.base+i))with
     |none=>none
     |some s'=>evalA A (i+1) r s' (⟨i,A.base+i,k.2⟩::ps))
   |.acts=>(match qae A.C A.call o (s.wH (s.H.lay (qb4 A.bef i ps)))with
    |none=>none
    |some v=>if v.2=A.H0 then (match s.put o.dst v.1 with
     |none=>none
     |some s'=>evalA A (i+1) r s' (qaz A.bef i ps)) else none)
   |_=>(match qae A.C A.call o s with
    |none=>none
    |some v=>match s.put o.dst v.1 with
     |none=>none
     |some s'=>evalA A (i+1) r s' ps)
section
variable {A:RgA} {i:Nat} {o:Oper} {r:List Oper} {s s':St} {ps:List Pend} {v:AV} {H:Heap}
def zcg(A:RgA) (i:Nat) (r:List Oper) (ps:List Pend):Option St->Option (St × List Pend)
 |none=>none
 |some s'=>evalA A (i+1) r s' ps
def valA(A:RgA) (i:Nat) (o:Oper) (r:List Oper) (s:St) (ps:List Pend):Option (AV × Heap)->Option (St × List Pend)
 |none=>none
 |some v=>zcg A i r ps (s.put o.dst v.1)
open Classical in
def actA(A:RgA) (i:Nat) (o:Oper) (r:List Oper) (s:St) (ps:List Pend):Option (AV × Heap)->Option (St × List Pend)
 |none=>none
 |some v=>if v.2=A.H0 then zcg A i r (qaz A.bef i ps) (s.put o.dst v.1) else none
def layA(A:RgA) (i:Nat) (o:Oper) (r:List Oper) (s:St) (ps:List Pend):Option ((Nat->AV) × Blk)->Option (St × List Pend)
 |none=>none
 |some k=>zcg A i r (⟨i,A.base+i,k.2⟩::ps) (s.put o.dst (k.1 (A.base+i)))
def clsA(A:RgA) (i:Nat) (o:Oper) (r:List Oper) (s:St) (ps:List Pend):Cls->Option (St × List Pend)
 |.allocs=>layA A i o r s ps (qdl A.C o s)
 |.acts=>actA A i o r s ps (qae A.C A.call o (s.wH (s.H.lay (qb4 A.bef i ps))))
 |_=>valA A i o r s ps (qae A.C A.call o s)
def offA(A:RgA) (i:Nat) (o:Oper) (r:List Oper) (s:St) (ps:List Pend):Cls->List (Nat × Blk)->Option (St × List Pend)
 |.acts,_::_=>none
 |_,_=>zcg A i r ps (s.put o.dst (.tup []))
def zfi(A:RgA) (i:Nat) (o:Oper) (r:List Oper) (s:St) (ps:List Pend):Option Bool->Option (St × List Pend)
 |none=>none
 |some false=>offA A i o r s ps (qc3 o.op) (qb4 A.bef i ps)
 |some true=>clsA A i o r s ps (qc3 o.op)
theorem zg0:evalA A i [] s ps=some (s,ps):=rfl
theorem zg1:evalA A i (o::r) s ps=zfi A i o r s ps (qc6 A.ops s o):=by
 rw[evalA.eq_def];simp only;cases qc6 A.ops s o with
 |none=>rfl
 |some g=>
  cases g with
  |false=>simp only[zfi,offA];cases qc3 o.op<;>cases qb4 A.bef i ps<;>rfl
  |true=>
   simp only[zfi,clsA];cases qc3 o.op with
   |allocs=>simp only[layA];cases qdl A.C o s<;>rfl
   |acts=>simp only[actA];cases qae A.C A.call o (s.wH (s.H.lay (qb4 A.bef i ps)))<;>rfl
   |pure=>simp only[valA];cases qae A.C A.call o s<;>rfl
   |reads=>simp only[valA];cases qae A.C A.call o s<;>rfl
theorem qma:zcg A i r ps (some s')=evalA A (i+1) r s' ps:=rfl
theorem zcv:valA A i o r s ps (some (v,H))=zcg A i r ps (s.put o.dst v):=rfl
theorem actA_s(h:H=A.H0):actA A i o r s ps (some (v,H))=zcg A i r (qaz A.bef i ps) (s.put o.dst v):=by simp only[actA,h,if_true]
theorem layA_s{k:(Nat->AV) × Blk}:layA A i o r s ps (some k)=zcg A i r (⟨i,A.base+i,k.2⟩::ps) (s.put o.dst (k.1 (A.base+i))):=rfl
theorem zfg:zfi A i o r s ps (some true)=clsA A i o r s ps (qc3 o.op):=rfl
theorem zfh:zfi A i o r s ps (some false)=offA A i o r s ps (qc3 o.op) (qb4 A.bef i ps):=rfl
theorem clsA_l:clsA A i o r s ps .allocs=layA A i o r s ps (qdl A.C o s):=rfl
theorem clsA_a:clsA A i o r s ps .acts=actA A i o r s ps (qae A.C A.call o (s.wH (s.H.lay (qb4 A.bef i ps)))):=rfl
theorem clsA_p:clsA A i o r s ps .pure=valA A i o r s ps (qae A.C A.call o s):=rfl
theorem clsA_r:clsA A i o r s ps .reads=valA A i o r s ps (qae A.C A.call o s):=rfl
theorem offA_a:offA A i o r s ps .acts []=zcg A i r ps (s.put o.dst (.tup [])):=rfl
theorem offA_l{w:List (Nat × Blk)}:offA A i o r s ps .allocs w=zcg A i r ps (s.put o.dst (.tup [])):=rfl
theorem offA_p{w:List (Nat × Blk)}:offA A i o r s ps .pure w=zcg A i r ps (s.put o.dst (.tup [])):=rfl
theorem offA_r{w:List (Nat × Blk)}:offA A i o r s ps .reads w=zcg A i r ps (s.put o.dst (.tup [])):=rfl
end
structure InvA (A:RgA) (d:DrawSt) (s:St) (ps:List Pend):Prop where
 s_:d.s=s
 H_:s.H=A.H0
 ps:d.ps=ps
 hs:∀h,h∈d.hs->h.2=A.H0
 rs:∀x,x∈d.rs->∃y,qae A.C A.call x.o { x.s with H:=A.H0 }=some y/\y.1=x.v
theorem qns{bef:Array Nat} {i:Nat}:∀{ps:List Pend},qb4 bef i ps=[]->qaz bef i ps=ps
 |[],_=>rfl
 |p::r,h=>by
  unfold qb4 at h;unfold qaz;cases ha:ahead bef p.i i with
  |true=>rw[ha]at h;cases h
  |false=>rw[ha]at h;simp only at h ⊢;rw[qns h]
theorem zg2{A:RgA}:∀{l:List Oper} {i:Nat} {s s':St} {ps ps':List Pend} {d:DrawSt},evalA A i l s ps=some (s',ps')->InvA A d s ps->∃d',qng A.C A.call A.ops A.bef A.base i l d=some d'/\InvA A d' s' ps'
 |[],i,s,s',ps,ps',d,h,k=>by rw[zg0,sj,Prod.mk.injEq]at h;obtain⟨rfl,rfl⟩:=h;exact⟨d,rfl,k⟩
 |o::r,i,s,s',ps,ps',d,h,k=>by
  have next:∀{s1:St} {ps1:List Pend} {d1:DrawSt},qis A.C A.call A.ops A.bef A.base i o d=some d1->InvA A d1 s1 ps1->evalA A (i+1) r s1 ps1=some (s',ps')->∃d',qng A.C A.call A.ops A.bef A.base i (o::r) d=some d'/\InvA A d' s' ps':=fun h1 h2 h3=>by obtain⟨d2,r1,r2⟩:=zg2 h3 h2;exact⟨d2,by simp only[qng,h1,Option.bind_some];exact r1,r2⟩
  obtain⟨ds,dps,hs,rs⟩:=d;obtain⟨rfl,k2,rfl,k4,k5⟩:=k;simp only at k2 k4 k5 next
  rw[zg1]at h;have putH:∀{dst:Option Tmp} {v:AV} {s1:St},ds.put dst v=some s1->s1.H=A.H0:=fun {dst v s1} hp=>by rw[<- k2];exact St.put_heap hp
  cases hg:qc6 A.ops ds o with
  |none=>rw[hg]at h;cases h
  |some g=>
  rw[hg]at h;cases g with
  |false=>
   rw[zfh]at h;cases hc:qc3 o.op with
   |acts=>
    rw[hc]at h;cases hw:qb4 A.bef i dps with
    |cons a b=>rw[hw]at h;cases h
    |nil=>
     rw[hw,offA_a]at h;cases hp:ds.put o.dst (.tup [])with
     |none=>rw[hp]at h;cases h
     |some s1=>
      rw[hp,qma]at h;refine next (s1:=s1) (ps1:=dps) (d1:=⟨s1.wH s1.H,dps,(i,s1.H)::hs,rs⟩) ?_ ⟨rfl,putH hp,rfl,fun x hx=>?_,k5⟩ h
      ·unfold qis;simp only[hg,Option.bind_some,hp,hc,hw,qns hw,Heap.lay]
      ·rcases List.mem_cons.1 hx with rfl|hx
       ·exact putH hp
       ·exact k4 x hx
   |allocs=>
    rw[hc,offA_l]at h;cases hp:ds.put o.dst (.tup [])with
    |none=>rw[hp]at h;cases h
    |some s1=>
     rw[hp,qma]at h;refine next (s1:=s1) (ps1:=dps) (d1:=⟨s1,dps,hs,rs⟩) ?_ ⟨rfl,putH hp,rfl,k4,k5⟩ h
     unfold qis;simp only[hg,Option.bind_some,hp,hc]
   |pure=>
    rw[hc,offA_p]at h;cases hp:ds.put o.dst (.tup [])with
    |none=>rw[hp]at h;cases h
    |some s1=>
     rw[hp,qma]at h;refine next (s1:=s1) (ps1:=dps) (d1:=⟨s1,dps,hs,rs⟩) ?_ ⟨rfl,putH hp,rfl,k4,k5⟩ h
     unfold qis;simp only[hg,Option.bind_some,hp,hc]
   |reads=>
    rw[hc,offA_r]at h;cases hp:ds.put o.dst (.tup [])with
    |none=>rw[hp]at h;cases h
    |some s1=>
     rw[hp,qma]at h;refine next (s1:=s1) (ps1:=dps) (d1:=⟨s1,dps,hs,rs⟩) ?_ ⟨rfl,putH hp,rfl,k4,k5⟩ h
     unfold qis;simp only[hg,Option.bind_some,hp,hc]
  |true=>
   rw[zfg]at h;cases hc:qc3 o.op with
   |acts=>
    rw[hc,clsA_a]at h;cases hv:qae A.C A.call o (ds.wH (ds.H.lay (qb4 A.bef i dps)))with
    |none=>rw[hv]at h;cases h
    |some v=>
     rw[hv]at h;simp only[actA]at h;split at h
     ·rename_i hH;cases hp:ds.put o.dst v.1 with
      |none=>rw[hp]at h;cases h
      |some s1=>
       rw[hp,qma]at h;have hd:ds.wH v.2=ds:=(by rw[hH,<- k2];rfl);refine next (s1:=s1) (ps1:=qaz A.bef i dps) (d1:=⟨s1,qaz A.bef i dps,(i,s1.H)::hs,rs⟩) ?_ ⟨rfl,putH hp,rfl,fun x hx=>?_,k5⟩ h
       ·unfold qis;simp only[hg,Option.bind_some,hc,hv,hd,hp]
       ·rcases List.mem_cons.1 hx with rfl|hx
        ·exact putH hp
        ·exact k4 x hx
     ·cases h
   |allocs=>
    rw[hc,clsA_l]at h;cases hv:qdl A.C o ds with
    |none=>rw[hv]at h;cases h
    |some k=>
     rw[hv,layA_s]at h;cases hp:ds.put o.dst (k.1 (A.base+i))with
     |none=>rw[hp]at h;cases h
     |some s1=>
      rw[hp,qma]at h;refine next (s1:=s1) (d1:=⟨s1,⟨i,A.base+i,k.2⟩::dps,hs,rs⟩) ?_ ⟨rfl,putH hp,rfl,k4,k5⟩ h
      unfold qis;simp only[hg,Option.bind_some,hc,hv,hp]
   |pure=>
    rw[hc,clsA_p]at h;cases hv:qae A.C A.call o ds with
    |none=>rw[hv]at h;cases h
    |some v=>
     obtain⟨v,Hv⟩:=v;rw[hv,zcv]at h;cases hp:ds.put o.dst v with
     |none=>rw[hp]at h;cases h
     |some s1=>
      rw[hp,qma]at h;refine next (s1:=s1) (ps1:=dps) (d1:=⟨s1,dps,hs,rs⟩) ?_ ⟨rfl,putH hp,rfl,k4,k5⟩ h
      unfold qis;simp only[hg,Option.bind_some,hc,hv,hp]
   |reads=>
    rw[hc,clsA_r]at h;cases hv:qae A.C A.call o ds with
    |none=>rw[hv]at h;cases h
    |some v=>
     obtain⟨v,Hv⟩:=v;rw[hv,zcv]at h;cases hp:ds.put o.dst v with
     |none=>rw[hp]at h;cases h
     |some s1=>
      rw[hp,qma]at h;refine next (s1:=s1) (ps1:=dps) (d1:=⟨s1,dps,hs,⟨i,o,ds,v⟩::rs⟩) ?_ ⟨rfl,putH hp,rfl,k4,fun x hx=>?_⟩ h
      ·unfold qis;simp only[hg,Option.bind_some,hc,hv,hp]
      ·rcases List.mem_cons.1 hx with rfl|hx
       ·simp only;rw[<- k2];exact⟨_,hv,rfl⟩
       ·exact k5 x hx
theorem zcq{C:Ctx} {call:qcf} {ops:Array Oper} {n:Nat} {s:St} {Q:Out->St->Prop} {id:Nat} (hm:C.P.follows .mixedOrders=true) (hC:CallOK C call) (hd:qsl ops=true)
  (hf:qap ops.toList { s with ts:=[] }={ s with ts:=[] })
  (h:∀B:Array Nat,B=Region.before ops->∃s' ps,evalA ⟨C,call,ops,B,s.H.n,⟨s.H.n+ops.size,s.H.fs⟩⟩ 0 ops.toList { s with ts:=[],H:=⟨s.H.n+ops.size,s.H.fs⟩ } []=some (s',ps)/\Q .normal { s' with H:=s'.H.lay (qc5 ps) }):WpS C n (.region id ops true) s Q:=by
 refine qc8 hm hC hd fun B hB=>?_;obtain⟨s',ps,h1,h2⟩:=h B hB;have hr:qbk (qap ops.toList { s with ts:=[] }) ops.size={ s with ts:=[],H:=⟨s.H.n+ops.size,s.H.fs⟩ }:=by rw[hf];rfl
 rw[hr];obtain⟨d,q1,q2⟩:=zg2 (d:=⟨{ s with ts:=[],H:=⟨s.H.n+ops.size,s.H.fs⟩ },[],[],[]⟩) h1 ⟨rfl,rfl,rfl,fun h hh=>(by cases hh),fun x hx=>(by cases hx)⟩;refine⟨d,q1,qxa q2.hs q2.rs,?_⟩;rw[q2.ps,q2.s_];exact h2
def qde(s:Str):Prop:=∀c,c∈s->c.toNat < 128
theorem zg9{s:Str} {i:Nat} (h:i < s.length) (hc:s[i].toNat < 128):Utf8.decode ⟨s.toArray⟩ i=(s[i].toNat,1):=by
 have h0:(ByteArray.get! ⟨s.toArray⟩ (i+0)).toNat=s[i].toNat:=by show (s.toArray[i+0]!).toNat=_;simp[h]
 unfold Utf8.decode;simp only[h0,hc,if_true]
def qr6(L:List (Nat × Nat)):List AV:=L.flatMap fun p=>[.int .i64 (p.1:Int),.int .i64 (p.2:Int)]
def spn(p:Nat × Nat):AV:=.agg [.int .i64 (p.1:Int),.int .i64 (p.2:Int)]
def qr4(n:Nat):List AV:=List.replicate n (.int .i64 0)
def spV(n:Nat):AV:=if n<=32 then .slc 0 0 n (.ex 32) else .slc 0 0 n (.rest 2)
def spB(L:List (Nat × Nat)):List AV:=if L.length<=32 then qr6 L++qr4 (64 - 2 * L.length) else qr6 L
theorem qyx(L:List (Nat × Nat)):(qr6 L).length=2 * L.length:=by
 induction L with
 |nil=>rfl
 |cons a r ih=>simp only[qr6,List.flatMap_cons,List.length_append,List.length_cons,List.length_nil]at ih ⊢;omega
theorem qyy(L:List (Nat × Nat)) (p:Nat × Nat):qr6 (L++[p])=qr6 L++[.int .i64 (p.1:Int),.int .i64 (p.2:Int)]:=by simp[qr6]
theorem quw(L:List (Nat × Nat)):qa9 (qr6 L)=true:=by
 induction L with
 |nil=>rfl
 |cons a r ih=>have:qr6 (a::r)=[.int .i64 (a.1:Int),.int .i64 (a.2:Int)]++qr6 r:=rfl;rw[this,qgo,ih];rfl
theorem zan(n:Nat):qa9 (qr4 n)=true:=by
 induction n with
 |zero=>rfl
 |succ n ih=>simp only[qr4,List.replicate_succ]at ih ⊢;simp[qa9,qab,ih]
theorem qit(L:List (Nat × Nat)):qa9 (spB L)=true:=by
 unfold spB;split
 ·rw[qgo,quw,zan];rfl
 ·exact quw L
theorem za4(L:List (Nat × Nat)):qa6 (L.map spn)=qr6 L:=by
 induction L with
 |nil=>rfl
 |cons a r ih=>simp only[List.map_cons,qa6,ih];rfl
theorem el_spn(L:List (Nat × Nat)):Elems 2 (L.map spn):=.map (sz:=2) (f:=spn) (by decide) (fun x=>⟨rfl,rfl,fun h=>absurd h (by decide),fun _=>⟨_,rfl⟩⟩) L
theorem qx6(L:List (Nat × Nat)):qex 0 (L.length * 2) (spB L)=some (qr6 L):=by
 have h:(qr6 L).length=L.length * 2:=by rw[qyx];omega
 unfold spB;split
 ·rw[qkh (by simp;omega),List.drop_zero,List.take_append_of_le_length (by omega),List.take_of_length_le (by omega)]
 ·rw[qkh (by omega),List.drop_zero,List.take_of_length_le (by omega)]
theorem app_sp{L:List (Nat × Nat)} {p:Nat × Nat} {I:Blk} (hl:L.length<=1000000) :
  ∃b m f,b≠1/\qbz PG ⟨3,[[(2,.cells [.int .i64 (p.1:Int),.int .i64 (p.2:Int)]),(1,I),(0,.cells (spB L))]]⟩ 160 (spV L.length) (.slc 2 0 1 (.ex 1)) =
   some ((if L.length+1<=32 then .slc b 0 (L.length+1) (.ex 32) else .slc b 0 (L.length+1) (.rest 2)),⟨m,f⟩)/\Heap.get ⟨m,f⟩ 1=some I/\Heap.get ⟨m,f⟩ b=some (.cells (spB (L++[p]))):=by
 have hcs:∀H:Heap,Heap.get H 2=some (.cells [.int .i64 (p.1:Int),.int .i64 (p.2:Int)])->qba H 2 1 (.slc 2 0 1 (.ex 1))=some [.int .i64 (p.1:Int),.int .i64 (p.2:Int)]:=fun H h=>by simp[qba,readCells,h]
 have g0:Heap.get ⟨3,[[(2,.cells [.int .i64 (p.1:Int),.int .i64 (p.2:Int)]),(1,I),(0,.cells (spB L))]]⟩ 0=some (.cells (spB L)):=by simp[zG]
 have hsrc:=hcs ⟨3,[[(2,.cells [.int .i64 (p.1:Int),.int .i64 (p.2:Int)]),(1,I),(0,.cells (spB L))]]⟩ (by simp[zG]);have hroom:qcw (L.length+1) 16=true:=by unfold qcw;rw[Nat.ble_eq];omega
 have hrow:∀cs,qom PG 160 cs=.cells cs:=fun cs=>rfl;have h64:(qr6 L).length=2 * L.length:=qyx L;have hlen1:(L++[p]).length=L.length+1:=by simp
 by_cases h1:L.length+1<=32
 ·have hv:spV L.length=.slc 0 0 L.length (.ex 32):=by unfold spV;rw[if_pos (by omega)]
  have hb:Nat.ble (L.length+1) 32=true:=by rw[Nat.ble_eq];exact h1
  have hB:spB L=qr6 L++qr4 2++qr4 (62 - 2 * L.length):=by unfold spB;rw[if_pos (by omega),List.append_assoc];congr 1;simp only[qr4];rw[List.replicate_append_replicate];congr 1;omega
  have hB2:spB (L++[p])=qr6 L++[.int .i64 (p.1:Int),.int .i64 (p.2:Int)]++qr4 (62 - 2 * L.length):=by unfold spB;rw[hlen1,if_pos h1,qyy];congr 2;omega
  have hlay:qh7 [.int .i64 (p.1:Int),.int .i64 (p.2:Int)] (0+L.length * 2) (spB L)=some (spB (L++[p])):=by have:=qhw (a:=qr6 L) (b:=qr4 2) (b':=[.int .i64 (p.1:Int),.int .i64 (p.2:Int)]) (c:=qr4 (62 - 2 * L.length)) rfl;rw[h64]at this;rw[hB,hB2,show 0+L.length * 2=2 * L.length by omega,this]
  refine⟨0,3,[[(2,.cells [.int .i64 (p.1:Int),.int .i64 (p.2:Int)]),(1,I),(0,.cells (spB (L++[p])))]],by omega,?_,by simp[zG],by simp[zG]⟩;rw[if_pos h1,hv];unfold qbz;simp only[zd4,zgp,zcm,Option.bind_some,qc9,hsrc,hroom,hb];simp only[writeCells,g0,Option.bind_some,Blk.wt,hlay,Blk.re];simp[Heap.ready,refs,Heap.set,setFs,setF,allSingle,AV.single];rfl
 ·have hB2:spB (L++[p])=qr6 L++[.int .i64 (p.1:Int),.int .i64 (p.2:Int)]:=by unfold spB;rw[hlen1,if_neg h1,qyy]
  have hread:readCells ⟨3,[[(2,.cells [.int .i64 (p.1:Int),.int .i64 (p.2:Int)]),(1,I),(0,.cells (spB L))]]⟩ 0 0 (L.length * 2)=some (qr6 L):=by unfold readCells;simp only[g0,Option.bind_some,qt8];exact qx6 L
  by_cases h2:L.length=32
  ·have hv:spV L.length=.slc 0 0 L.length (.ex 32):=(by unfold spV;rw[if_pos (by omega)]);have hb:Nat.ble (L.length+1) 32=false:=(by rw[<- Bool.not_eq_true,Nat.ble_eq];exact h1);refine⟨3,4,[[(3,.cells (spB (L++[p]))),(2,.cells [.int .i64 (p.1:Int),.int .i64 (p.2:Int)]),(1,I),(0,.cells (spB L))]],by omega,?_,by simp[zG],by simp[zG]⟩;rw[if_neg h1,hv,hB2];unfold qbz;simp only[zd4,zgp,zcm,Option.bind_some,qc9,hsrc,hroom,hb,hread,hrow];simp[Heap.new,pushF,allSingle,AV.single];rfl
  ·have hv:spV L.length=.slc 0 0 L.length (.rest 2):=(by unfold spV;rw[if_neg (by omega)]);have hB:spB L=qr6 L:=(by unfold spB;rw[if_neg (by omega)]);have hk:qcp ⟨3,[[(2,.cells [.int .i64 (p.1:Int),.int .i64 (p.2:Int)]),(1,I),(0,.cells (spB L))]]⟩ 0=some (2 * L.length):=(by rw[qcp,g0,hB];simp[h64]);have hb1:Nat.ble (0+(L.length+1) * 2) (2 * L.length)=false:=(by rw[<- Bool.not_eq_true,Nat.ble_eq];omega);have hb2:Nat.beq (0+L.length * 2) (2 * L.length)=true:=(by rw[show 0+L.length * 2=2 * L.length by omega];exact Nat.beq_refl _);refine⟨3,4,[[(3,.cells (spB (L++[p]))),(2,.cells [.int .i64 (p.1:Int),.int .i64 (p.2:Int)]),(1,I)]],by omega,?_,by simp[zG],by simp[zG]⟩;rw[if_neg h1,hv,hB2];unfold qbz;simp only[zd4,zgp,zcm,Option.bind_some,qc9,hsrc,hroom,hk,hb1,hb2,hread,g0,qsb];simp[Heap.new,pushF,allSingle,AV.single,Heap.drop,qen,getF,killF];rfl
def qec(s:Str) (p:Nat × Nat):Str:=(s.drop p.1).take (p.2 - p.1)
structure SpOk (s:Str) (i:Nat) (L:List (Nat × Nat)) (st:Int):Prop where
 le:i<=s.length
 few:L.length<=i
 done:L.map (qec s)=(wst (s.take i)).1
 rng:∀p,p∈L->p.1<=p.2/\p.2<=s.length
 lo : -1000001<=st
 cur:(st < 0/\(wst (s.take i)).2=[])\/∃a:Nat,st=a/\a < i/\(wst (s.take i)).2=qec s (a,i)
theorem qwe{H:Heap} {b j:Nat} {s:Str} {cs:List AV} (hb:b≠1) (h1:H.get 1=some (.iter s j)) (h2:H.get b=some (.cells cs)) (hp:qa9 cs=true):FitH 0 [(1,1),(b,0)] [] H ⟨2,[[(1,.iter s j),(0,.cells cs)]]⟩ where
 nd1:=by simp;omega
 nd2:=by simp
 nd3:=by simp[Heap.ents]
 lt:=fun x hx=>by simp at hx;rcases hx with rfl|rfl<;>simp
 idn:=fun x hx h=>by rcases h with h|h<;>exact absurd h (Nat.not_lt_zero _)
 num:=Nat.zero_le _
 src:=fun e he=>by
  simp[Heap.ents]at he;rcases he with rfl|rfl
  ·exact⟨1,_,by simp,h1,by simp[qi1]⟩
  ·exact⟨b,_,by simp,h2,qak hp⟩
 frz:=fun x hx=>by cases hx
theorem word_one{s:Str} {i:Nat} (h:i < s.length):qec s (i,i+1)=[s[i]]:=by unfold qec;simp only;rw[List.drop_eq_getElem_cons h,show i+1 - i=1 by omega];rfl
theorem zcs{s:Str} {a i:Nat} (h:i < s.length) (ha:a<=i):qec s (a,i+1)=qec s (a,i)++[s[i]]:=by unfold qec;simp only;rw[show i+1 - a=(i - a)+1 by omega,List.take_succ_eq_append_getElem (by simp;omega)];congr 2;rw[List.getElem_drop];congr 1;omega
theorem zde{s:Str} {i:Nat} {L:List (Nat × Nat)} {st:Int} (h:i < s.length) (k:SpOk s i L st) (hs:sp s[i]=true) (h0:st < 0):SpOk s (i+1) L st:=by
 have he:(wst (s.take i)).2=[]:=by
  rcases k.cur with⟨_,h⟩|⟨a,ha,_⟩
  ·exact h
  ·omega
 refine⟨by omega,by have:=k.few;omega,?_,k.rng,k.lo,.inl ⟨h0,?_⟩⟩
 ·rw[ql2 h];simp only[qhm,hs,if_true,he,k.done]
 ·rw[ql2 h];simp only[qhm,hs,if_true]
theorem zdd{s:Str} {i a:Nat} {L:List (Nat × Nat)} (h:i < s.length) (k:SpOk s i L (a:Int)) (hs:sp s[i]=true) (hl:s.length<=1000000):SpOk s (i+1) (L++[(a,i)]) (-(a:Int) - 1):=by
 obtain⟨hai,hc⟩ : a < i/\(wst (s.take i)).2=qec s (a,i):=by
  rcases k.cur with⟨h,_⟩|⟨b,hb,h1,h2⟩
  ·omega
  ·have:a=b:=(by omega);subst this;exact⟨h1,h2⟩
 have hne:¬ qec s (a,i)=[]:=by intro e;have:=congrArg List.length e;simp[qec]at this;omega
 refine⟨by omega,by have:=k.few;simp;omega,?_,fun p hp=>?_,by omega,.inl ⟨by omega,?_⟩⟩
 ·rw[ql2 h];simp only[qhm,hs,if_true,hc,hne,if_false,List.map_append,k.done];rfl
 ·rcases List.mem_append.1 hp with hp|hp
  ·exact k.rng p hp
  ·simp at hp;subst hp;exact⟨by simp only;omega,by simp only;omega⟩
 ·rw[ql2 h];simp only[qhm,hs,if_true]
theorem sp_char0{s:Str} {i:Nat} {L:List (Nat × Nat)} {st:Int} (h:i < s.length) (k:SpOk s i L st) (hs:sp s[i]=false) (h0:st < 0):SpOk s (i+1) L (i:Int):=by
 have he:(wst (s.take i)).2=[]:=by
  rcases k.cur with⟨_,h⟩|⟨a,ha,_⟩
  ·exact h
  ·omega
 refine⟨by omega,by have:=k.few;omega,?_,k.rng,by omega,.inr ⟨i,rfl,by omega,?_⟩⟩
 ·rw[ql2 h];simp[qhm,hs,k.done]
 ·rw[ql2 h,word_one h];simp[qhm,hs,he]
theorem sp_char1{s:Str} {i a:Nat} {L:List (Nat × Nat)} (h:i < s.length) (k:SpOk s i L (a:Int)) (hs:sp s[i]=false):SpOk s (i+1) L (a:Int):=by
 obtain⟨hai,hc⟩ : a < i/\(wst (s.take i)).2=qec s (a,i):=by
  rcases k.cur with⟨h,_⟩|⟨b,hb,h1,h2⟩
  ·omega
  ·have:a=b:=(by omega);subst this;exact⟨h1,h2⟩
 refine⟨by omega,by have:=k.few;omega,?_,k.rng,by omega,.inr ⟨a,rfl,by omega,?_⟩⟩
 ·rw[ql2 h];simp[qhm,hs,k.done]
 ·rw[ql2 h,zcs h (by omega)];simp[qhm,hs,hc]
theorem sp_begin(s:Str):SpOk s 0 [] (-1):=⟨Nat.zero_le _,by simp,by simp[wst],by simp,by omega,.inl ⟨by omega,by simp[wst]⟩⟩
theorem sp_end0{s:Str} {L:List (Nat × Nat)} {st:Int} (k:SpOk s s.length L st) (h0:st < 0):L.map (qec s)=qbq s:=by
 have he:(wst (s.take s.length)).2=[]:=by
  rcases k.cur with⟨_,h⟩|⟨a,ha,_⟩
  ·exact h
  ·omega
 have hd:=k.done;rw[List.take_of_length_le (Nat.le_refl _)]at hd he;rw[hd,qbq,wfin,if_pos he]
theorem sp_end1{s:Str} {a:Nat} {L:List (Nat × Nat)} (k:SpOk s s.length L (a:Int)):(L++[(a,s.length)]).map (qec s)=qbq s/\a < s.length:=by
 obtain⟨hai,hc⟩ : a < s.length/\(wst (s.take s.length)).2=qec s (a,s.length):=by
  rcases k.cur with⟨h,_⟩|⟨b,hb,h1,h2⟩
  ·omega
  ·have:a=b:=(by omega);subst this;exact⟨h1,h2⟩
 have hne:¬ qec s (a,s.length)=[]:=by intro e;have:=congrArg List.length e;simp[qec]at this;omega
 have hd:=k.done;rw[List.take_of_length_le (Nat.le_refl _)]at hd hc;refine⟨?_,hai⟩;rw[List.map_append,hd,qbq,wfin,hc,if_neg hne];rfl
theorem xor_not{a:Nat} (h:a<=1000000):unA .xor (.int .i64 (a:Int))=some (.int .i64 (-(a:Int) - 1)):=by
 have h1:(BitVec.ofInt 64 (-1) ^^^ BitVec.ofInt 64 (a:Int)).toNat=18446744073709551615 - a:=by
  have e1:BitVec.ofInt 64 (-1)=BitVec.allOnes 64:=by decide
  have e2:BitVec.ofInt 64 (a:Int)=BitVec.ofNat 64 a:=by simp
  rw[e1,e2,BitVec.allOnes_xor,BitVec.toNat_not,BitVec.toNat_ofNat];omega
 show some (AV.int .i64 (IntKind.i64.wrap ((BitVec.ofInt 64 (-1) ^^^ BitVec.ofInt 64 (a:Int)).toNat:Int)))=_;rw[h1];have h2:IntKind.i64.wrap ((18446744073709551615 - a:Nat):Int) = -(a:Int) - 1:=by
  have h3:((18446744073709551615 - a:Nat):Int)=18446744073709551615 - (a:Int):=by omega
  rw[h3];simp[IntKind.wrap,IntKind.signed,IntKind.bits];omega
 rw[h2]
@[simp]theorem fr_range{d:Option Tmp} {t:TypeId} {l:Operand} {ty:TypeId} {pos:String} {af:Array Edge} {g:Option (Nat × Bool)} {s:St}:qbr s ⟨d,.range t l,ty,pos,af,g⟩=s:=rfl
@[simp]theorem fr_next{d:Option Tmp} {b:Bool} {l:Operand} {ty:TypeId} {pos:String} {af:Array Edge} {g:Option (Nat × Bool)} {s:St}:qbr s ⟨d,.next l b,ty,pos,af,g⟩=s:=rfl
def bl5(n:Nat):List AV:=List.replicate n (.str [])
def sts(L:List Str):List AV:=L.map .str
theorem zaj(n:Nat):qa9 (bl5 n)=true:=by
 induction n with
 |zero=>rfl
 |succ n ih=>simp only[bl5,List.replicate_succ]at ih ⊢;simp[qa9,qab,ih]
theorem qol(L:List Str):qa9 (sts L)=true:=by
 induction L with
 |nil=>rfl
 |cons a r ih=>simp only[sts,List.map_cons]at ih ⊢;simp[qa9,qab,ih]
theorem sts_set{X:List Str} {k:Nat} {w:Str}:(sts X++bl5 (k+1)).set X.length (.str w)=sts (X++[w])++bl5 k:=by rw[List.set_append_right _ _ (by simp[sts])];simp[sts,bl5,List.replicate_succ]
theorem mkStrs{H:Heap} {n:Nat} (h:n<=1000000):qgh PG H 36 (.int .i64 (n:Int)) (.int .i64 (n:Int))=some (.slc H.n 0 n (.ex n),H.new (.cells (bl5 n))):=by
 have hr:∀n,replL [AV.str []] n=bl5 n:=fun n=>by
  induction n with
  |zero=>rfl
  |succ n ih=>simp[replL,ih,bl5,List.replicate_succ]
 have h1:idx (n:Int) 17592186044416=some n:=qbv (by omega);have h2:idx (n:Int) (Nat.succ n)=some n:=qbv (by omega);have h3:qcw n 16=true:=by unfold qcw;rw[Nat.ble_eq];omega
 unfold qgh msB;simp[h1,h2,h3,hr]
theorem mkSp{H:Heap}:qgh PG H 158 (.int .i64 0) (.int .i64 32)=some (.slc H.n 0 0 (.ex 32),H.new (.cells (qr4 64))):=rfl
theorem ixS{b n i:Nat} {c:Cap} (h:i < n):qat PG 36 (.slc b 0 n c) (.int .i64 (i:Int))=some (.ptr b i):=by simp[qat,qbv h]
theorem layS{v:AV}:∀{cs:List AV} {i:Nat},i < cs.length->qh7 [v] i cs=some (cs.set i v)
 |[],_,h=>absurd h (Nat.not_lt_zero _)
 |x::r,0,_=>by simp[qh7,qij]
 |x::r,i+1,h=>by simp only[qh7,layS (cs:=r) (i:=i) (by simpa using h)];rfl
def aSp(L:List (Nat × Nat)):AV:=.fslc 2 (L.map spn)
theorem atSp{L:List (Nat × Nat)} {i:Nat} (h:i < L.length):qat PG 158 (aSp L) (.int .i64 (i:Int))=some (.fptr [.int .i64 ((L[i]).1:Int),.int .i64 ((L[i]).2:Int)] 0):=by simp[qat,aSp,qbv h,qj0 h];simp[spn]
theorem lenSp{H:Heap} {L:List (Nat × Nat)}:qf6 PG H 158 (aSp L)=some L.length:=by simp[qf6,aSp]
theorem slW{H:Heap} {s:Str} {a b:Nat} (h1:a<=b) (h2:b<=s.length):qdx PG H 9 (.str s) (some (.int .i64 (a:Int))) (some (.int .i64 (b:Int))) none=some (.str (qec s (a,b))):=by have i1:idx (b:Int) (Nat.succ s.length)=some b:=qbv (by omega);have i2:idx (a:Int) (Nat.succ b)=some a:=qbv (by omega);simp[qdx,qzw,qd4,i1,i2,qec,List.drop_take]
theorem nx_yes{m i:Nat} {s:Str} {B:Blk} (h:i < s.length) (hc:s[i].toNat < 128):qra ⟨m,[[(1,.iter s i),(0,B)]]⟩ 1=some (.tup [.bool true,.int .i64 i,.int .i32 (s[i].toNat:Int)],⟨m,[[(1,.iter s (i+1)),(0,B)]]⟩):=by
 have hb:Nat.blt i s.length=true:=by simpa using h
 simp[qra,zG,hb,zg9 h hc,Heap.set,setFs,setF]
theorem nx_no{m i:Nat} {s:Str} {B:Blk} (h:¬ i < s.length):qra ⟨m,[[(1,.iter s i),(0,B)]]⟩ 1=some (.tup [.bool false],⟨m,[[(1,.iter s i),(0,B)]]⟩):=by
 have hb:Nat.blt i s.length=false:=by
  cases hq:Nat.blt i s.length with
  |false=>rfl
  |true=>exact absurd (by simpa using hq) h
 simp[qra,zG,hb]
theorem qt4(n:Nat) (b:Nat):∃c,(if n<=32 then AV.slc b 0 n (.ex 32) else AV.slc b 0 n (.rest 2))=.slc b 0 n c/\spV n=.slc 0 0 n c:=by
 unfold spV;split
 ·exact⟨_,rfl,rfl⟩
 ·exact⟨_,rfl,rfl⟩
theorem fit_spV{L:List (Nat × Nat)} {σ:List (Nat × Nat)} {Φ:List (Nat × List AV)} (h:qca 0 Φ=some (spB L)):qas σ Φ (spV L.length) (aSp L):=by obtain⟨c,_,hc⟩:=qt4 L.length 0;rw[hc];simp only[aSp,qas];refine .inl ⟨_,h,?_,by simp,(el_spn L).size⟩;rw[za4,qx6]
theorem zfr{H:Heap} {b:Nat} {cs:List AV} (h:H.get b=some (.cells cs)) (hp:qa9 cs=true):FitH 0 [] [(b,cs)] H ⟨0,[[]]⟩:=by refine⟨by simp,by simp,by simp[Heap.ents],fun x h=>(by cases h),fun x h=>(by cases h),Nat.le_refl _,fun e h=>(by simp[Heap.ents]at h),fun x hx=>?_⟩;rw[List.mem_singleton]at hx;subst hx;exact⟨_,h,qak hp,hp⟩
theorem qtu{n:Nat}:qas [(1,1),(0,0)] [] (spV n) (spV n):=by obtain⟨c,_,hc⟩:=qt4 n 0;rw[hc];simp[qas,qb2]
def sbC:List Nat->Code->Code
 |[],c=>c
 |d::r,c=>match c with
  |.seq a b=>match d with
   |0=>sbC r a
   |_=>sbC r b
  |c=>c
def bdO(f:Func):Code:=match f.body with
 |some c=>c
 |none=>.skip
theorem za3:∀(L:List Str),qa6 (L.map AV.str)=sts L
 |[]=>rfl
 |a::r=>by simp only[List.map_cons,qa6,za3 r];rfl
def cdFF:Code:=sbC [1,1,1,1,1] (bdO Tryz.f184)
theorem zfv{T:List (Entry PG)} (s:Str) (L:List (Nat × Nat)) (hL:L.length<=1000000) (hr:∀p,p∈L->p.1<=p.2/\p.2<=s.length) (W:List Str) (hW:L.map (qec s)=W) :
  WpSr (ctx T) 0 none cdFF ((⟨[0,1,4,5,6,7,8,9,10,11,14,15,47,48,49],[.str s,uD,.nilS,aSp L,uD,uD,uD,uD,uD,uD,uD,uD,uD,uD,uD],[],65,⟨0,[[]]⟩⟩ : St)) (fun x s=>(x=.normal\/x=.ret)/\∃vs,retVal (ctx T) s [.tmp 4]=some vs/\∃σ Φ,qas σ Φ (oneOr vs) (qcj W)/\FitH 0 σ Φ s.H zH):=by
 simp only[cdFF,sbC,bdO,Tryz.f184];have hm:=fun H=>mkStrs (H:=H) (n:=L.length) hL;apply ra;simp[zS,lenSp,hm];apply ra;simp[zS,lenSp];obtain⟨F,hF⟩ : ∃F:Nat->List Str,F=fun i=>(L.take i).map (qec s):=⟨_,rfl⟩;have hF0:F 0=[]:=by rw[hF];simp
 have hFl:∀i,i<=L.length->(F i).length=i:=fun i hi=>by rw[hF];simp;omega
 have hFs:∀(i:Nat) (h:i < L.length),F (i+1)=F i++[qec s L[i]]:=fun i h=>by rw[hF];show (L.take (i+1)).map (qec s)=_;rw[List.take_succ_eq_append_getElem h,List.map_append];rfl
 have hFn:F L.length=W:=by rw[hF,<- hW];simp
 refine qa7 (qb1 (fun i:Nat=>(⟨[0,1,4,5,6,7,8,9,10,11,14,15,47,48,49],[.str s,uD,.nilS,uD,uD,uD,uD,.slc 0 0 L.length (.ex L.length),uD,uD,uD,uD,aSp L,.int .i64 (L.length:Nat),.int .i64 i],[],65,⟨1,[[(0,.cells (sts (F i)++bl5 (L.length - i)))]]⟩⟩ : St))
  (fun i=>i<=L.length) (fun i=>L.length - i) [(0,0)] [] 0 (Nat.zero_le _)
  ⟨rfl,rfl,rfl,by simp[qax,qas,qb2,qab,aSp],.keep1 (b:=0) (by rw[hF0];simp[zG,sts]) (by rw[qgo,qol,zaj];rfl) rfl⟩ ?_)
 rintro i hi B hB;apply ra;simp[zS];repeat apply wq
 refine qb0 rfl (fun h=>?_) fun h=>?_
 ·simp at h;apply qa4;simp;repeat apply wq
  apply qa7;obtain⟨r1,r2⟩:=hr L[i] (List.getElem_mem _);have hw:=fun H=>slW (H:=H) r1 r2;have hlen:i < (sts (F i)++bl5 (L.length - i)).length:=by simp[sts,bl5,hFl i hi];omega
  have hset:(sts (F i)++bl5 (L.length - i)).set i (.str (qec s ((L[i]).1,(L[i]).2)))=sts (F (i+1))++bl5 (L.length - (i+1)):=by have:=sts_set (X:=F i) (k:=L.length - (i+1)) (w:=qec s L[i]);rw[hFl i hi,<- hFs i h]at this;rw[show L.length - i=L.length - (i+1)+1 by omega];exact this
  have hla:=layS (v:=.str (qec s ((L[i]).1,(L[i]).2))) hlen;rw[hset]at hla;generalize sts (F i)++bl5 (L.length - i)=C0 at *;generalize hC1:sts (F (i+1))++bl5 (L.length - (i+1))=C1 at *;apply ra;simp[zS,atSp h];apply ra;simp[zS,hw,ixS h,hla];apply ra;simp[zS,qbb (show i<=1000000000 by omega)];refine hB _ (i+1) (by omega) (by omega) ⟨[(0,0)],[],rfl,rfl,rfl,by simp[qax,qas,qb2,qab,aSp],?_⟩;rw[hC1];exact .keep1 (b:=0) (by simp[zG]) (by rw[<- hC1,qgo,qol,zaj];rfl) rfl
 ·simp at h;have hie:i=L.length:=by omega
  subst hie;have hz:sts (F L.length)++bl5 (L.length - L.length)=sts W:=by rw[Nat.sub_self,hFn];simp[bl5]
  have hlW:W.length=L.length:=by rw[<- hW];simp
  rw[hz,<- hlW];apply qar;simp;apply ra;simp[zS];apply qa5;simp[retVal,oneOr];refine⟨[],[(0,sts W)],?_,.froze (by simp) fun y hy=>?_⟩
  ·have hf:=za3 W;simp only[qas];refine .inl ⟨sts W,by simp[qca],?_,by simp,(qmw W).size⟩;rw[hf,qkh (by simp[sts]),List.drop_zero,List.take_of_length_le (by simp[sts])]
  ·rw[List.mem_singleton]at hy;subst hy;exact⟨_,by simp[zG],qak (qol W),qol W⟩
theorem c184{T:List (Entry PG)} (s:Str) (hs:qde s) (hl:s.length<=900000) (clo:FuncId) (hp:∀c:UInt8,c.toNat < 128->CA T clo [.int .i32 (c.toNat:Int)] zH (.bool (sp c)) zH) :
  CA T 184 [.str s,.func (.func clo) [] []] zH (qcj (qbq s)) zH:=by
 have hm1:wr .i64 (0 - 1)=some (-1):=rfl;refine qa0 (s0:=⟨[0,1,4,5,6,7,8,9,10,11,14,15,47,48,49],[.str s,.func (.func clo) [] [],uD,uD,uD,uD,uD,uD,uD,uD,uD,uD,uD,uD,uD],[],65,⟨0,[[]]⟩⟩) Tryz.func184 rfl rfl rfl ?_;apply ra;simp[zS];apply ra;simp[zS,mkSp];apply ra;simp[zS];apply ra;simp[zS,rgV];refine qa7 (qb1 (fun x:Nat × List (Nat × Nat) × Int=>(⟨[0,1,4,5,6,7,8,9,10,11,14,15,47,48,49],[.str s,.func (.func clo) [] [],.nilS,spV x.2.1.length,.int .i64 x.2.2,uD,uD,uD,uD,uD,.ptr 1 0,uD,uD,uD,uD],[],65,⟨2,[[(1,.iter s x.1),(0,.cells (spB x.2.1))]]⟩⟩ : St))
  (fun x=>SpOk s x.1 x.2.1 x.2.2) (fun x=>s.length - x.1) [(1,1),(0,0)] [] (0,[],-1) (sp_begin s)
  ⟨rfl,rfl,rfl,by simp[qax,qas,qb2,qab,qa9,spV],qwe (by omega) (by simp[zG]) (by simp[zG,spB,qr6]) (qit _)⟩ ?_)
 rintro⟨i,L,st⟩ hk B hB;have hi:=hk.le;have hfew:=hk.few;have hlo:=hk.lo;simp only at hi hfew hlo hk;by_cases h:i < s.length
 ·have hc:s[i].toNat < 128:=hs _ (List.getElem_mem _);have hbu:∀a:Nat,qgq PG 160 [(0,.int .i64 (a:Int)),(1,.int .i64 (i:Int))]=some (.agg [.int .i64 (a:Int),.int .i64 (i:Int)]):=fun a=>rfl;have hcall:=(hp s[i] hc).lift (by simp[qa9,qab]) ⟨2,[[(1,.iter s (i+1)),(0,.cells (spB L))]]⟩;have stay:∀(st':Int) (σ0:Unit),SpOk s (i+1) L st'->∀s':St,Fit 0 [(1,1),(0,0)] [] s' ((⟨[0,1,4,5,6,7,8,9,10,11,14,15,47,48,49],[.str s,.func (.func clo) [] [],.nilS,spV L.length,.int .i64 st',uD,uD,uD,uD,uD,.ptr 1 0,uD,uD,uD,uD],[],65,⟨2,[[(1,.iter s (i+1)),(0,.cells (spB L))]]⟩⟩ : St))->B s':=fun st' _ hok s' hf=>hB s' (i+1,L,st') (by simp only;omega) hok ⟨_,_,hf⟩;apply ra;simp[zS,nxV,nx_yes h hc];repeat apply wq
  apply qai rfl;apply qa4;simp;apply qa7;rcases Bool.eq_false_or_eq_true (sp s[i])with hsp|hsp
  ·rw[hsp]at hcall;apply ra;simp[zS];repeat apply wq
   refine qah (qbh [⟨clo,_,_,_,_,hcall⟩]) ?_;simp[zS,qcc];apply qai rfl;rcases hk.cur with⟨h0,_⟩|⟨a,ha,hai,_⟩
   ·have hge:¬ (0:Int)<=st:=(by omega);apply ra;simp[zS,hge];apply qag rfl;apply qa4;simp;exact stay st () (zde h hk hsp h0) _ ⟨rfl,rfl,rfl,by simp[qax,qas,qb2,qab,qa9,qtu],qwe (by omega) (by simp[zG]) (by simp[zG]) (qit _)⟩
   ·subst ha;have hge:(0:Int)<=(a:Int):=(by omega);obtain⟨b,m,f,hb1,happ,hg1,hg2⟩:=app_sp (L:=L) (p:=(a,i)) (I:=.iter s (i+1)) (by omega);have hxo:=xor_not (a:=a) (by omega);obtain⟨c,e1,e2⟩:=qt4 (L.length+1) b;simp only[e1]at happ;apply ra;simp[zS,hge];refine qai (by simp[qbp,St.get]) ?_;apply ra;simp[zS,hbu,happ];apply ra;simp[zS,hxo];refine hB _ (i+1,L++[(a,i)],-(a:Int) - 1) (by simp only;omega) (zdd h hk hsp (by omega)) ⟨[(1,1),(b,0)],[],rfl,rfl,rfl,?_,qwe hb1 hg1 hg2 (qit _)⟩;simp only[List.length_append,List.length_cons,List.length_nil,Nat.zero_add,e2];simp[qax,qas,qb2,qab,qa9];omega
  ·rw[hsp]at hcall;apply ra;simp[zS];repeat apply wq
   refine qah (qbh [⟨clo,_,_,_,_,hcall⟩]) ?_;simp[zS,qcc];apply qag rfl;rcases hk.cur with⟨h0,_⟩|⟨a,ha,hai,_⟩
   ·apply ra;simp[zS,h0];apply qai rfl;apply ra;simp[zS];exact stay i () (sp_char0 h hk hsp h0) _ ⟨rfl,rfl,rfl,by simp[qax,qas,qb2,qab,qa9,qtu],qwe (by omega) (by simp[zG]) (by simp[zG]) (qit _)⟩
   ·subst ha;have hge:¬ (a:Int) < 0:=(by omega);apply ra;simp[zS,hge];refine qag (by simp[qbp,St.get,hge]) ?_;apply qa4;simp;exact stay a () (sp_char1 h hk hsp) _ ⟨rfl,rfl,rfl,by simp[qax,qas,qb2,qab,qa9,qtu],qwe (by omega) (by simp[zG]) (by simp[zG]) (qit _)⟩
 ·have hie:i=s.length:=by omega
  subst hie;have hbu:∀a:Nat,qgq PG 160 [(0,.int .i64 (a:Int)),(1,.int .i64 (s.length:Int))]=some (.agg [.int .i64 (a:Int),.int .i64 (s.length:Int)]):=fun a=>rfl;apply ra;simp[zS,nxV,nx_no h];repeat apply wq
  apply qag rfl;apply qar;simp;rcases hk.cur with⟨h0,_⟩|⟨a,ha,hai,_⟩
  ·have hge:¬ (0:Int)<=st:=(by omega);apply ra;simp[zS,hge];refine qag (by simp[qbp,St.get,hge]) ?_;apply qa4;simp only[qam];refine WpSr.fit [] [(0,spB L)] (s':=(⟨[0,1,4,5,6,7,8,9,10,11,14,15,47,48,49],[.str s,uD,.nilS,aSp L,uD,uD,uD,uD,uD,uD,uD,uD,uD,uD,uD],[],65,⟨0,[[]]⟩⟩ : St)) ⟨rfl,rfl,rfl,by simp[qax,qas,qab];exact fit_spV (by simp[qca]),?_⟩ (zfv s L (by omega) hk.rng _ (sp_end0 hk h0));exact zfr (by simp[zG]) (qit _)
  ·subst ha;obtain⟨hw,hal⟩:=sp_end1 hk;have hge:(0:Int)<=(a:Int):=(by omega);obtain⟨b,m,f,hb1,happ,hg1,hg2⟩:=app_sp (L:=L) (p:=(a,s.length)) (I:=.iter s s.length) (by omega);obtain⟨c,e1,e2⟩:=qt4 (L.length+1) b;simp only[e1]at happ;apply ra;simp[zS,hge];refine qai (by simp[qbp,St.get]) ?_;apply ra;simp[zS,hbu,happ];have hfv:qas [] [(b,spB (L++[(a,s.length)]))] (.slc b 0 (L.length+1) c) (aSp (L++[(a,s.length)])):=(by simp only[aSp,qas];refine .inl ⟨_,by simp[qca];rfl,?_,by simp,(el_spn _).size⟩;have:=qx6 (L++[(a,s.length)]);rw[za4];simpa using this);refine WpSr.fit [] [(b,spB (L++[(a,s.length)]))] (s':=(⟨[0,1,4,5,6,7,8,9,10,11,14,15,47,48,49],[.str s,uD,.nilS,aSp (L++[(a,s.length)]),uD,uD,uD,uD,uD,uD,uD,uD,uD,uD,uD],[],65,⟨0,[[]]⟩⟩ : St)) ⟨rfl,rfl,rfl,by simp[qax,qas,qab]at hfv ⊢;exact hfv,?_⟩ (zfv s (L++[(a,s.length)]) (by simp;omega) (fun p hp=>?_) _ hw)
   ·exact zfr hg2 (qit _)
   ·rcases List.mem_append.1 hp with hp|hp
    ·exact hk.rng p hp
    ·simp at hp;subst hp;exact⟨by simp only;omega,by simp only;omega⟩
theorem c152{T:List (Entry PG)} (s:Str) (hs:qde s) (hl:s.length<=900000):CA T 152 [.str s] zH (qcj (qbq s)) zH:=by
 have hc:=(c184 (T:=T) s hs hl 185 fun c h=>c185 (T:=[e150]) rfl c h).lift (by simp[qa9,qab]) ⟨0,[[]]⟩;generalize qbq s=W at *;refine qa0 (s0:=⟨[0,2],[.str s,uD],[],5,⟨0,[[]]⟩⟩) Tryz.func152 rfl rfl rfl ?_;apply ra;simp[zS];repeat apply wq
 refine qah (qbh [⟨184,_,_,_,_,hc⟩]) ?_;simp[zS,qcc];apply qa5;simp[zQ,Tryz.f152];first|exact⟨[],[],FitH.empty⟩|exact qa2 rfl (by rfl)
theorem c122a{T:List (Entry PG)} (W x:Str) (hW:qde W) (hl:W.length<=100000) (hx:x.length<=1000000000):CA T 122 [.str W,.str x] zH (.bool (inW W x)) zH:=
 c122 (T:=[e149,e150]) rfl rfl W x hl hx (c152 (T:=[]) W hW (by omega)) (c151 (T:=[e183]) rfl _ x (by have:=qrj W;omega))
def e122a:Entry PG:=mkE 122 [[],[]] (fun x:Str × Str=>[.str x.1,.str x.2]) (fun x=>qde x.1/\x.1.length<=100000/\x.2.length<=1000000000) (fun x=>.bool (inW x.1 x.2)) fun x hx=>c122a (T:=[]) x.1 x.2 hx.1 hx.2.1 hx.2.2
theorem k122a{T:List (Entry PG)} (hT:qa8 122 T=some e122a.g) {W x:Str} (hW:qde W) (hl:W.length<=100000) (hx:x.length<=1000000000) (H:Heap):qb6 (ctx T) (.fn 122) [.str W,.str x] H=some (.bool (inW W x),H):=
 qac hT qtl (W,x) ⟨hW,hl,hx⟩ rfl (by simp)
section
variable {ρ ρ':Place} {H H':Heap} {w w':World} {b:Nat} {k k':Blk}
end
theorem qe1{σ:List (Nat × Nat)} {Φ:List (Nat × List AV)}:∀{a a' b b':List AV},qax σ Φ a a'->qax σ Φ b b'->qax σ Φ (a++b) (a'++b')
 |[],[],_,_,_,h=>h
 |x::a,y::a',b,b',h,k=>by simp only[List.cons_append,qax]at h ⊢;exact⟨h.1,qe1 h.2 k⟩
 |[],_::_,_,_,h,_=>by simp[qax]at h
 |_::_,[],_,_,h,_=>by simp[qax]at h
theorem qz8(τ:Nat->Nat):∀(a b:List AV),qho τ (a++b)=qho τ a++qho τ b
 |[],b=>rfl
 |x::a,b=>by simp[qho,qz8 τ a b]
section
variable {C:Ctx} {f:FuncId} {args:List AV} {v:AV} {H:Heap} {bt nb n n':Nat} {cap cap':Cap} {pre post cs cs':List AV}
end
@[simp]theorem szT74:qce PG 74=some 1:=rfl
@[simp]theorem agT74:qia PG 74=some false:=rfl
@[simp]theorem byT74:qcq PG 74=some 24:=rfl
@[simp]theorem alT74(H:Heap):alV PG H 74=some (.ptr H.n 0,H.new (.cells [.nilS])):=rfl
@[simp]theorem zeT74:qc0 PG 74=some (.nilS):=rfl
attribute [simp] Tryz.underlying74
@[simp 500]theorem rvF74(H:Heap) (cs:List AV) (o:Nat):qaw PG H 74 (.fptr cs o)=qck cs o:=rfl
@[simp 500]theorem rvP74(H:Heap) (b o:Nat):qaw PG H 74 (.ptr b o)=(H.get b).bind fun k=>k.rd.bind fun cs=>qck cs o:=rfl
@[simp]theorem slz74(sz:Nat) (e:AV) (r:List AV):qdm PG .eql 74 (.fslc sz (e::r)) .nilS=some (.bool false):=rfl
@[simp]theorem sln74(sz:Nat) (e:AV) (r:List AV):qdm PG .neq 74 (.fslc sz (e::r)) .nilS=some (.bool true):=rfl
@[simp]theorem slze74:qdm PG .eql 74 .eslc .nilS=some (.bool false):=rfl
@[simp]theorem slzz74:qdm PG .eql 74 .nilS .nilS=some (.bool true):=rfl
@[simp]theorem szT86:qce PG 86=some 1:=rfl
@[simp]theorem agT86:qia PG 86=some false:=rfl
@[simp]theorem byT86:qcq PG 86=some 8:=rfl
@[simp]theorem alT86(H:Heap):alV PG H 86=some (.ptr H.n 0,H.new (.cells [.nilP])):=rfl
@[simp]theorem zeT86:qc0 PG 86=some (.nilP):=rfl
attribute [simp] Tryz.underlying86
@[simp 500]theorem rvF86(H:Heap) (cs:List AV) (o:Nat):qaw PG H 86 (.fptr cs o)=qck cs o:=rfl
@[simp 500]theorem rvP86(H:Heap) (b o:Nat):qaw PG H 86 (.ptr b o)=(H.get b).bind fun k=>k.rd.bind fun cs=>qck cs o:=rfl
@[simp]theorem szT88:qce PG 88=some 2:=rfl
@[simp]theorem agT88:qia PG 88=some true:=rfl
@[simp]theorem byT88:qcq PG 88=some 32:=rfl
@[simp]theorem alT88(H:Heap):alV PG H 88=some (.ptr H.n 0,H.new (.obj 88 [.nilP,.nilS])):=rfl
@[simp]theorem zeT88:qc0 PG 88=some (.agg [.nilP,.nilS]):=rfl
attribute [simp] Tryz.underlying88
@[simp 500]theorem rvF88(H:Heap) (cs:List AV) (o:Nat):qaw PG H 88 (.fptr cs o)=(qex o 2 cs).bind fun cs=>some (.agg cs):=rfl
@[simp 500]theorem rvP88(H:Heap) (b o:Nat):qaw PG H 88 (.ptr b o)=(readCells H b o 2).bind fun cs=>some (.agg cs):=rfl
@[simp]theorem fa88_0(x:AV):qby PG 88 x 0=(match x with | .ptr b o=>some (.ptr b (o+0)) | .fptr cs o=>some (.fptr cs (o+0))|_=>none):=rfl
@[simp]theorem fd88_0(cs:List AV):qdt PG 88 (.agg cs) 0=qck cs 0:=rfl
@[simp]theorem fa88_1(x:AV):qby PG 88 x 1=(match x with | .ptr b o=>some (.ptr b (o+1)) | .fptr cs o=>some (.fptr cs (o+1))|_=>none):=rfl
@[simp]theorem fd88_1(cs:List AV):qdt PG 88 (.agg cs) 1=qck cs 1:=rfl
theorem Sim.perm{ρ:Place} {H H2:Heap} {w:World} (h:Sim ρ H w) (n:H2.n=H.n) (p:H2.ents.Perm H.ents):Sim ρ H2 w where
 base:=h.base
 below:=h.below
 os:=h.os
 tape:=h.tape
 output:=h.output
 dom:=fun b hb=>h.dom b (n ▸ hb)
 nodup:=(p.map _).nodup_iff.2 h.nodup
 live:=fun e he=>h.live e (p.mem_iff.1 he)
 inj:=fun e e' he he'=>h.inj e e' (p.mem_iff.1 he) (p.mem_iff.1 he')
theorem Step.perm{ρ ρ':Place} {H H2 H' H2':Heap} {w w':World} (h:Step ρ H w ρ' H' w') (n:H2.n=H.n) (n':H2'.n=H'.n) (p:H2.ents.Perm H.ents) (p':H2'.ents.Perm H'.ents):Step ρ H2 w ρ' H2' w' where
 le:=h.le
 size:=h.size
 keeps:=fun k hk hn=>h.keeps k hk fun e he=>hn e (p.mem_iff.2 he)
 rows:=fun e' he' l' hl'=>by
  rcases h.rows e' (p'.mem_iff.1 he') l' hl' with⟨e,he,x⟩|x
  ·exact .inl ⟨e,p.mem_iff.2 he,x⟩
  ·exact .inr x
 num:=by rw[n,n'];exact h.num
 low:=fun b hb=>h.low b (n ▸ hb)
 cold:=fun k hk=>by
  rcases h.cold k hk with x|⟨e,he,x⟩|x
  ·exact .inl x
  ·exact .inr (.inl ⟨e,p.mem_iff.2 he,x⟩)
  ·exact .inr (.inr x)
theorem CallAt.perm{C:Ctx} {f:FuncId} {args:List AV} {H H2 H' H2':Heap} {v:AV} (h:CallAt C f args H v H') (n:H2.n=H.n) (n':H2'.n=H'.n) (p:H2.ents.Perm H.ents) (p':H2'.ents.Perm H'.ents):CallAt C f args H2 v H2':=by
 intro ρ w xs sm hx;have sm':=sm.perm n.symm p.symm;rcases h ρ w xs sm' hx with⟨x,ρ',w',h0,h1,h2,h3⟩|⟨g,ys,h0,h1⟩
 ·exact .inl ⟨x,ρ',w',h0,h1,h2.perm n' p',h3.perm n n' p p'⟩
 ·refine .inr ⟨g,ys,h0,h1.mono ?_⟩;rintro e w' ⟨x,ρ',rfl,m1,m2,m3⟩;exact⟨x,ρ',rfl,m1,m2.perm n' p',m3.perm n n' p p'⟩
theorem qzf{x:Nat × Blk} {f B g:List (Nat × Blk)}:(f++(x::(B++g))).Perm (x::(B++(f++g))):=by refine(List.perm_append_comm (l₁:=f) (l₂:=x::(B++g))).trans ?_;show (x::((B++g)++f)).Perm _;refine List.Perm.cons _ ?_;rw[List.append_assoc];exact List.Perm.append_left _ List.perm_append_comm
theorem CallAt.top{C:Ctx} {f:FuncId} {args:List AV} {v:AV} {m m':Nat} {x x':Nat × Blk} {fr B B' g g':List (Nat × Blk)} (h:CallAt C f args ⟨m,[x::(B++(fr++g))]⟩ v ⟨m',[x'::(B'++(fr++g'))]⟩):CallAt C f args ⟨m,[fr,x::(B++g)]⟩ v ⟨m',[fr,x'::(B'++g')]⟩:=
 h.perm rfl rfl (by simpa[Heap.ents]using qzf) (by simpa[Heap.ents]using qzf)
def idn(m:Nat):List (Nat × Nat):=(List.range m).map fun i=>(i,i)
theorem qd8{m i:Nat} (h:i < m):(i,i)∈idn m:=List.mem_map.2 ⟨i,by simpa using h,rfl⟩
theorem qix:∀{σ:List (Nat × Nat)} {i j:Nat},(σ.map (·.1)).Nodup->(i,j)∈σ->qb2 i σ=some j
 |[],_,_,_,h=>by cases h
 |x::r,i,j,nd,h=>by
  rw[List.map_cons,List.nodup_cons]at nd;unfold qb2;rcases List.mem_cons.1 h with rfl|h
  ·simp
  ·have hne:¬ x.1=i:=fun e=>nd.1 (List.mem_map.2 ⟨_,h,e.symm⟩);rw[if_neg hne];exact qix nd.2 h
theorem qhe(m:Nat):((idn m).map (·.1)).Nodup:=by
 have:(idn m).map (·.1)=List.range m:=by simp[idn,Function.comp_def]
 rw[this];exact List.nodup_range
theorem qi5(m:Nat):((idn m).map (·.2)).Nodup:=by
 have:(idn m).map (·.2)=List.range m:=by simp[idn,Function.comp_def]
 rw[this];exact List.nodup_range
theorem qc1{m i:Nat} (h:i < m):qb2 i (idn m)=some i:=qix (qhe m) (qd8 h)
def Idl(m:Nat) (σ:List (Nat × Nat)):Prop:=∀i,i < m->qb2 i σ=some i
theorem qln(m:Nat):Idl m (idn m):=fun i h=>qc1 h
theorem qmn{m k k':Nat} (h:m<=k):Idl m ((k,k')::idn m):=fun i hi=>by
 have:¬ k=i:=by omega
 simp[qb2,this,qc1 hi]
def SelfB(m:Nat) (k:Blk):Prop:=∀σ,Idl m σ->qi1 σ [] k k
theorem SelfB.mono{m m':Nat} {k:Blk} (h:SelfB m k) (hm:m<=m'):SelfB m' k:=fun σ hσ=>h σ fun i hi=>hσ i (by omega)
theorem qjo{m:Nat} {cs:List AV} (h:qa9 cs=true):SelfB m (.cells cs):=fun σ _=>qak h
structure Bs where
 k:Nat
 out:Str
def bV(b:Bs):AV:=match b.out with
 |[]=>.nilS
 |_::_=>.slc b.k 0 b.out.length (.rest 1)
def bF(b:Bs):List (Nat × Blk):=match b.out with
 |[]=>[]
 |_::_=>[(b.k,.buf 5 b.out.length (qad b.out))]
def upd(m:Nat) (b:Bs) (s:Str):Bs:=match s with
 |[]=>b
 |_::_=>⟨m,b.out++s⟩
theorem qd3:∀(s:Str),(qad s).length=s.length
 |[]=>rfl
 |c::r=>by simp[qad,qd3 r]
theorem qqy:∀(s t:Str),qad (s++t)=qad s++qad t
 |[],t=>rfl
 |c::r,t=>by simp[qad,qqy r t]
theorem qnm:∀(s:Str),qa9 (qad s)=true
 |[]=>rfl
 |c::r=>by simp[qad,qa9,qab,qnm r]
theorem qkc:∀(s:Str),allSingle (qad s)=true
 |[]=>rfl
 |c::r=>by simp[qad,allSingle,AV.single,qkc r]
theorem bF_mem{b:Bs} {e:Nat × Blk} (h:e∈bF b):e=(b.k,.buf 5 b.out.length (qad b.out))/\b.out≠[]:=by
 obtain⟨k,out⟩:=b;cases out with
 |nil=>cases h
 |cons c r=>exact⟨by simpa[bF]using h,by simp⟩
theorem zgw{b:Bs} (h:b.out≠[]):bF b=[(b.k,.buf 5 b.out.length (qad b.out))]:=by
 obtain⟨k,out⟩:=b;cases out with
 |nil=>exact absurd rfl h
 |cons c r=>rfl
theorem bV_ne{b:Bs} (h:b.out≠[]):bV b=.slc b.k 0 b.out.length (.rest 1):=by
 obtain⟨k,out⟩:=b;cases out with
 |nil=>exact absurd rfl h
 |cons c r=>rfl
theorem fitWr{m m':Nat} {H:Heap} {σ:List (Nat × Nat)} {wb kc k' fz:Nat} {O O':Blk} {out:Str} {g:List (Nat × Blk)} (hσ:(σ=idn m/\kc=k'/\(out≠[]->kc < m))\/(σ=(kc,m)::idn m/\k'=m/\m<=kc)) (hm:m < m')
  (lw:wb < m) (lg:∀e,e∈g->e.1 < m) (nd:(wb::g.map (·.1)).Nodup) (hk:out≠[]->k' ∉ wb::g.map (·.1)) (hO:H.get wb=some O) (fO:qi1 σ [] O O') (hb:out≠[]->H.get kc=some (.buf 5 fz (qad out))) (hfz:fz<=out.length)
  (hg:∀e,e∈g->H.get e.1=some e.2/\SelfB m e.2):FitH m σ [] H ⟨m',[(wb,O')::(bF ⟨k',out⟩++g)]⟩:=by
 have idl:Idl m σ:=by
  rcases hσ with⟨rfl,_⟩|⟨rfl,_,h⟩
  ·exact qln m
  ·exact qmn h
 have mem:∀i,i < m->(i,i)∈σ:=fun i hi=>by
  rcases hσ with⟨rfl,_⟩|⟨rfl,_,h⟩
  ·exact qd8 hi
  ·exact List.mem_cons_of_mem _ (qd8 hi)
 have memk:out≠[]->(kc,k')∈σ:=fun hne=>by
  rcases hσ with⟨rfl,rfl,h⟩|⟨rfl,rfl,h⟩
  ·exact qd8 (h hne)
  ·exact List.mem_cons_self
 have sub:∀x,x∈σ->x.2 < m+1/\(x.1 < m\/x.2 < m->x.1=x.2):=fun x hx=>by
  have key:x∈idn m->x.2 < m+1/\(x.1 < m\/x.2 < m->x.1=x.2):=fun h=>by obtain⟨i,hi,rfl⟩:=List.mem_map.1 h;have:i < m:=(by simpa using hi);exact⟨by show i < m+1;omega,fun _=>rfl⟩
  rcases hσ with⟨rfl,_⟩|⟨rfl,rfl,h⟩
  ·exact key hx
  ·rcases List.mem_cons.1 hx with rfl|hx
   ·exact⟨by simp,fun h=>by simp at h;omega⟩
   ·exact key hx
 refine⟨?_,?_,?_,fun x hx=>by have:=(sub x hx).1;show x.2 < m';omega,fun x hx h=>(sub x hx).2 (.inr h),by show m<=m';omega,?_,fun x h=>by cases h⟩
 ·rcases hσ with⟨rfl,_⟩|⟨rfl,_,h⟩
  ·simpa using qhe m
  ·simp only[List.map_nil,List.append_nil,List.map_cons,List.nodup_cons];refine⟨?_,qhe m⟩;simp[idn];omega
 ·rcases hσ with⟨rfl,_⟩|⟨rfl,_,h⟩
  ·exact qi5 m
  ·simp only[List.map_cons,List.nodup_cons];refine⟨?_,qi5 m⟩;simp[idn]
 ·simp only[Heap.ents,List.flatten_cons,List.flatten_nil,List.append_nil,List.map_cons,List.map_append];rw[List.nodup_cons]at nd ⊢;by_cases hne:out=[]
  ·subst hne;simpa[bF]using nd
  ·have h1:=hk hne;rw[zgw (b:=⟨k',out⟩) hne];simp only[List.mem_cons,not_or]at h1;refine⟨?_,?_⟩
   ·simp only[List.map_cons,List.map_nil,List.cons_append,List.nil_append,List.mem_cons,not_or];exact⟨fun e=>h1.1 e.symm,nd.1⟩
   ·simp only[List.map_cons,List.map_nil,List.cons_append,List.nil_append,List.nodup_cons];exact⟨h1.2,nd.2⟩
 ·intro e he;simp only[Heap.ents,List.flatten_cons,List.flatten_nil,List.append_nil,List.mem_cons,List.mem_append]at he;rcases he with rfl|he|he
  ·exact⟨wb,O,mem wb lw,hO,fO⟩
  ·obtain⟨rfl,hne⟩:=bF_mem he;exact⟨kc,_,memk hne,hb hne,rfl,hfz,by show out.length<=(qad out).length;rw[qd3];exact Nat.le_refl _,qak (qnm _)⟩
  ·obtain⟨h1,h2⟩:=hg e he;exact⟨e.1,e.2,mem _ (lg e he),h1,h2 σ idl⟩
