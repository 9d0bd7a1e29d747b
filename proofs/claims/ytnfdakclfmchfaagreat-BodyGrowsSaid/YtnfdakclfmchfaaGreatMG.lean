/- The reference's Value; DocsHave's walk. No condition. -/
import Derived.Test.YtnfdakclfmchfaaGreatMF
import Derived.Test.YtnfdakclfmchfaaGreatChecked
namespace Go.Proofs.YtnfdakclfmchfaaGreat
noncomputable section
set_option linter.unusedSimpArgs false
set_option linter.unusedVariables false
open Go Go.RowKit Go.ChangeShapes Go.WideShapes Go.ChangeAt
set_option maxRecDepth 100000
variable {T:List (Entry Tryz.prog)}
abbrev PG:=Tryz.prog
abbrev zH:Heap:=⟨0,[]⟩
abbrev uD:AV:=.undef
def keepTbl:List (List Nat):=[[],[],[],[0,1,4,5,6,7,8,9,10,15,16,17],[0,1,4,5,6,7,8,9,10,23,24,25],[0,1,4,5,6,7,8,13,14,15],[0,2,3,4,5,6,7,11,12,13],[0,2,3,4],[0,2,3,4],[0,1,2],[0,1,2,5,6,7,9],[0,1,2,3,5,7,8,9],[0,1,2,3],[0,1,4,5,6,7],[0,1,2,3,4],[0,1,2,3,4],[0,1,4,5,15,19,39,51],[0,1,4,5],[0,1,4,5,6],[0,1,4,5,6,7],[0,1,4,5,6],[0,1,2],[0,1,4,8],[0,1,2,3,4,5,6],[0],[0,1,3,4],[0,1,2,3,8],[0,2,3,4,7],[0,2,3,4,5,6],[0],[0,1,3,4],[0,1,2,3,8],[0,2,3,4,5],[0,2],[0,2,4,8,9,10],[0,1,2,5,6,13],[0,1,2,3,6,7,8,9,10,11,12,13,14,15,16,29,30,31],[0,1,2,3,6,7,8,9,10,11],[0,1,4,5,6,7,8,9,10,11,12,13,14,15,16],[0,2,4,5,6,33,34,35],[0,2,3,4],[0,1,2,3,4,5,6,7,8],[0,1,4],[0,1,4],[0,2,3],[0,1],[0,1,2,3,5,6,8,9,10,15,16,17],[0,1,4,5,7,8],[0,1,3,4],[0,1,2,6,7],[0,1,2],[0,1,2,6,7,10,32,41,42],[0,1,4,5,6,7,8,9,10,11],[0,1,2,4,6,7,8,9],[0,1,4,5,6],[0,1,4],[0,2,3,5,6,32,33,34],[0],[0,1,2,3,8,9],[0,2],[0,2],[0,1],[0,1,2,6],[0,2],[0,1,2,3,8],[0,2],[0,1,2,4,6,7,8,9],[0],[0,1,4],[0],[0,1,4],[0,1,4],[0,2],[0,1,2,4,5,6,8,9,12,13,14],[0,1,4,5,12,13],[0,1,2,3,4],[0,1,2,3,6,7],[0,1],[0,2],[0,1,4,5],[0,1,2,3,6,7],[0,1],[0,1,4,5],[0,1,4],[0,1,2,6],[0,1,4,8,48,83,104,110,116],[0,1,4,13,14,23],[0,2],[0,1,2,4],[0,1,2,3,6,14,15],[0,1,4,5],[0,1,2,6,7,8,9],[0,1,2,3,8,9,10,17,24],[0,1,2,4],[0,1,2,3,6,7],[0,1,4,5,6,7],[0,1,2,6,7,8],[0,1,2,3,8,9,10,11],[0,1,4,5,6],[0,1,2,6],[0,1],[0,1],[0,1],[0,1,2,4,5],[0,2,3,4,6,7,8],[0,1,4,5,7,9,11,18,19,20,27,28,29,38,39,40],[0,1,2,6,7],[0,2,3],[0,1,2,3,6,7,8],[0,2],[0,1,4],[0,1,4],[0,1,2,3,6,7],[0,1,4,5,6],[0,1,4,5,6],[0,1,4,5,6],[0,1,2,3,8,9,10,11,12,13,14,15],[0,1,4,5,6,7,8],[0,1,4,5],[0,1,2,6,7],[0,1,2],[0,1,2,6],[0,1,4,5,6],[0,1,4],[0,1,2,6,7,8,12,13],[0,1,2],[0,1,2,6,7,8],[0,1,2,3,4,5,6,12,13,14,15],[0,1,4],[0,1,2,3,5,6,7],[0,1,2],[0,1,4,5,6,7],[0,1,3],[0,1,4,5,6,7,8],[0,1,2],[0,1,4],[0,1,4,5,6,7,8,9],[0,1,4,5],[0,1,4,5],[0,1,2,6,8,39,40,41],[0,1,2],[0,1,4],[0,1,2,6],[0,1,3,4],[0,1,2,3,7,8,9],[0,1,2,6],[0],[0,2],[0,1,4],[0,1,4],[0,1,2,3,4,8,9,10],[0,1,4,5,6],[0,1,2,6],[0,1,4,5],[0,2,3,4,5],[0,1,2,3,4,5],[0,1,2],[0,1,2,4],[0,1,2,3,5,6],[0,1,2,4],[0,1,2,3,6,7],[0,1,4],[0,1,4,5],[0,1,2,3,8,10,51,52,53],[0,1,4],[0],[0,1,2,6,7],[0,1,10,14],[0,1,2],[0,1,2],[0,1],[0,1,7,27,41,48],[0,1],[0,1,2,4],[],[0,1],[0,1,4],[0,1,2,4,5,6],[0,1,4,5],[0,1,2,3,6,7],[0,1,2,3,5,6],[0,1,2,3,6],[0,1,2,4],[0,1,4],[0,1,2,6,7],[0,1,2,3,6,7],[0,1,4,5],[0,1,2,3,5],[0,1,3],[0,1,4,5,7,8],[0,1,4],[0,2,3,4],[0,1,4],[0,2],[0,1,4,5],[0,2,3,4,5],[0,2,3,5,6,8,9,10,11,25,26,27],[0,1,3],[0,1,2,3,4,6,7,8,10,11,13,14,15],[0,2],[0,1,2,3,4,5],[0,1,2,3,4,5,8,10,11,12,13,14],[0,1,2,4,5],[0,1,4,5,6],[0,1,4],[0,1,3,4,5],[0,1,4],[0,1,2,4,5,6,7,8,13,22,23,24,42,43,44],[0,1,4],[0,1],[0,1,2,4],[0,1,4,5,6,7],[0,1,4,5,6,7,8,9,10,11,12,13],[0,1,4,5,7,8],[0,1,4,5,6,7,8,9,10,11,14,15,47,48,49],[0,2],[0,1,2,3,5,6,7,8,10,11,12],[0,1,4],[0,1,4,5],[0,1,3,4],[0,1,2,4,5],[0,1,4,8],[0,2,3],[0,1,4],[],[0,2],[0,1,4,5,6,7,8,9,10],[0,1,4,5,7,8],[0,1,2,3],[0,1,4,5,7,8],[0,1,3],[0,2,3,4,5,8,9,10],[0,2],[],[0,2,3,4,5,6,7,8],[],[],[],[],[],[],[],[],[],[],[],[],[],[],[],[]]
@[simp]theorem qmt:qc1 PG 3=some 1:=rfl
@[simp]theorem agT3:qgc PG 3=some false:=rfl
@[simp]theorem qxh:qce PG 3=some 8:=rfl
@[simp]theorem alT3(H:Heap):alV PG H 3=some (.ptr H.n 0,H.new (.cells [.int .i64 0])):=rfl
@[simp]theorem qvk:qbq PG 3=some (.int .i64 0):=rfl
attribute [simp] Tryz.underlying3
@[simp 500]theorem rvF3(H:Heap) (cs:List AV) (o:Nat):qaq PG H 3 (.fptr cs o)=qca cs o:=rfl
@[simp 500]theorem rvP3(H:Heap) (b o:Nat):qaq PG H 3 (.ptr b o)=(H.get b).bind fun k=>k.rd.bind fun cs=>qca cs o:=rfl
@[simp]theorem szT4:qc1 PG 4=some 1:=rfl
@[simp]theorem agT4:qgc PG 4=some false:=rfl
@[simp]theorem byT4:qce PG 4=some 1:=rfl
@[simp]theorem alT4(H:Heap):alV PG H 4=some (.ptr H.n 0,H.new (.cells [.bool false])):=rfl
@[simp]theorem zeT4:qbq PG 4=some (.bool false):=rfl
attribute [simp] Tryz.underlying4
@[simp 500]theorem rvF4(H:Heap) (cs:List AV) (o:Nat):qaq PG H 4 (.fptr cs o)=qca cs o:=rfl
@[simp 500]theorem rvP4(H:Heap) (b o:Nat):qaq PG H 4 (.ptr b o)=(H.get b).bind fun k=>k.rd.bind fun cs=>qca cs o:=rfl
@[simp]theorem beq4(a b:Bool):qda PG .eql 4 (.bool a) (.bool b)=some (.bool (a == b)):=rfl
@[simp]theorem bne4(a b:Bool):qda PG .neq 4 (.bool a) (.bool b)=some (.bool !(a == b)):=rfl
@[simp]theorem szT5:qc1 PG 5=some 1:=rfl
@[simp]theorem agT5:qgc PG 5=some false:=rfl
@[simp]theorem byT5:qce PG 5=some 1:=rfl
@[simp]theorem alT5(H:Heap):alV PG H 5=some (.ptr H.n 0,H.new (.cells [.int .u8 0])):=rfl
@[simp]theorem zeT5:qbq PG 5=some (.int .u8 0):=rfl
attribute [simp] Tryz.underlying5
@[simp 500]theorem rvF5(H:Heap) (cs:List AV) (o:Nat):qaq PG H 5 (.fptr cs o)=qca cs o:=rfl
@[simp 500]theorem rvP5(H:Heap) (b o:Nat):qaq PG H 5 (.ptr b o)=(H.get b).bind fun k=>k.rd.bind fun cs=>qca cs o:=rfl
@[simp]theorem szT9:qc1 PG 9=some 1:=rfl
@[simp]theorem agT9:qgc PG 9=some false:=rfl
@[simp]theorem byT9:qce PG 9=some 16:=rfl
@[simp]theorem alT9(H:Heap):alV PG H 9=some (.ptr H.n 0,H.new (.cells [.str []])):=rfl
@[simp]theorem zeT9:qbq PG 9=some (.str []):=rfl
attribute [simp] Tryz.underlying9
@[simp 500]theorem rvF9(H:Heap) (cs:List AV) (o:Nat):qaq PG H 9 (.fptr cs o)=qca cs o:=rfl
@[simp 500]theorem rvP9(H:Heap) (b o:Nat):qaq PG H 9 (.ptr b o)=(H.get b).bind fun k=>k.rd.bind fun cs=>qca cs o:=rfl
@[simp]theorem szT27:qc1 PG 27=some 1:=rfl
@[simp]theorem agT27:qgc PG 27=some false:=rfl
@[simp]theorem byT27:qce PG 27=some 24:=rfl
@[simp]theorem alT27(H:Heap):alV PG H 27=some (.ptr H.n 0,H.new (.cells [.nilS])):=rfl
@[simp]theorem zeT27:qbq PG 27=some (.nilS):=rfl
attribute [simp] Tryz.underlying27
@[simp 500]theorem rvF27(H:Heap) (cs:List AV) (o:Nat):qaq PG H 27 (.fptr cs o)=qca cs o:=rfl
@[simp 500]theorem rvP27(H:Heap) (b o:Nat):qaq PG H 27 (.ptr b o)=(H.get b).bind fun k=>k.rd.bind fun cs=>qca cs o:=rfl
@[simp]theorem slz27(sz:Nat) (e:AV) (r:List AV):qda PG .eql 27 (.fslc sz (e::r)) .nilS=some (.bool false):=rfl
@[simp]theorem sln27(sz:Nat) (e:AV) (r:List AV):qda PG .neq 27 (.fslc sz (e::r)) .nilS=some (.bool true):=rfl
@[simp]theorem slze27:qda PG .eql 27 .eslc .nilS=some (.bool false):=rfl
@[simp]theorem slzz27:qda PG .eql 27 .nilS .nilS=some (.bool true):=rfl
@[simp]theorem szT35:qc1 PG 35=some 1:=rfl
@[simp]theorem agT35:qgc PG 35=some false:=rfl
@[simp]theorem byT35:qce PG 35=some 24:=rfl
@[simp]theorem alT35(H:Heap):alV PG H 35=some (.ptr H.n 0,H.new (.cells [.nilS])):=rfl
@[simp]theorem zeT35:qbq PG 35=some (.nilS):=rfl
attribute [simp] Tryz.underlying35
@[simp 500]theorem rvF35(H:Heap) (cs:List AV) (o:Nat):qaq PG H 35 (.fptr cs o)=qca cs o:=rfl
@[simp 500]theorem rvP35(H:Heap) (b o:Nat):qaq PG H 35 (.ptr b o)=(H.get b).bind fun k=>k.rd.bind fun cs=>qca cs o:=rfl
@[simp]theorem slz35(sz:Nat) (e:AV) (r:List AV):qda PG .eql 35 (.fslc sz (e::r)) .nilS=some (.bool false):=rfl
@[simp]theorem sln35(sz:Nat) (e:AV) (r:List AV):qda PG .neq 35 (.fslc sz (e::r)) .nilS=some (.bool true):=rfl
@[simp]theorem slze35:qda PG .eql 35 .eslc .nilS=some (.bool false):=rfl
@[simp]theorem slzz35:qda PG .eql 35 .nilS .nilS=some (.bool true):=rfl
@[simp]theorem szT37:qc1 PG 37=some 1:=rfl
@[simp]theorem agT37:qgc PG 37=some true:=rfl
@[simp]theorem byT37:qce PG 37=some 24:=rfl
@[simp]theorem alT37(H:Heap):alV PG H 37=some (.ptr H.n 0,H.new (.cells [.nilS])):=rfl
@[simp]theorem zeT37:qbq PG 37=some (.agg [.nilS]):=rfl
attribute [simp] Tryz.underlying37
@[simp 500]theorem rvF37(H:Heap) (cs:List AV) (o:Nat):qaq PG H 37 (.fptr cs o)=(qf1 o 1 cs).bind fun cs=>some (.agg cs):=rfl
@[simp 500]theorem rvP37(H:Heap) (b o:Nat):qaq PG H 37 (.ptr b o)=(readCells H b o 1).bind fun cs=>some (.agg cs):=rfl
@[simp]theorem fa37_0(x:AV):qaw PG 37 x 0=(match x with | .ptr b o=>some (.ptr b (o+0)) | .fptr cs o=>some (.fptr cs (o+0))|_=>none):=rfl
@[simp]theorem fd37_0(cs:List AV):qc9 PG 37 (.agg cs) 0=qca cs 0:=rfl
@[simp]theorem szT38:qc1 PG 38=some 1:=rfl
@[simp]theorem agT38:qgc PG 38=some false:=rfl
@[simp]theorem byT38:qce PG 38=some 24:=rfl
@[simp]theorem alT38(H:Heap):alV PG H 38=some (.ptr H.n 0,H.new (.cells [.nilS])):=rfl
@[simp]theorem zeT38:qbq PG 38=some (.nilS):=rfl
attribute [simp] Tryz.underlying38
@[simp 500]theorem rvF38(H:Heap) (cs:List AV) (o:Nat):qaq PG H 38 (.fptr cs o)=qca cs o:=rfl
@[simp 500]theorem rvP38(H:Heap) (b o:Nat):qaq PG H 38 (.ptr b o)=(H.get b).bind fun k=>k.rd.bind fun cs=>qca cs o:=rfl
@[simp]theorem slz38(sz:Nat) (e:AV) (r:List AV):qda PG .eql 38 (.fslc sz (e::r)) .nilS=some (.bool false):=rfl
@[simp]theorem sln38(sz:Nat) (e:AV) (r:List AV):qda PG .neq 38 (.fslc sz (e::r)) .nilS=some (.bool true):=rfl
@[simp]theorem slze38:qda PG .eql 38 .eslc .nilS=some (.bool false):=rfl
@[simp]theorem slzz38:qda PG .eql 38 .nilS .nilS=some (.bool true):=rfl
@[simp]theorem szT65:qc1 PG 65=some 7:=rfl
@[simp]theorem agT65:qgc PG 65=some true:=rfl
@[simp]theorem byT65:qce PG 65=some 104:=rfl
@[simp]theorem alT65(H:Heap):alV PG H 65=some (.ptr H.n 0,H.new (.cells [.int .i64 0,.int .i64 0,.str [],.nilS,.str [],.int .i64 0,.nilS])):=rfl
@[simp]theorem zeT65:qbq PG 65=some (.agg [.int .i64 0,.int .i64 0,.str [],.nilS,.str [],.int .i64 0,.nilS]):=rfl
attribute [simp] Tryz.underlying65
@[simp 500]theorem rvF65(H:Heap) (cs:List AV) (o:Nat):qaq PG H 65 (.fptr cs o)=(qf1 o 7 cs).bind fun cs=>some (.agg cs):=rfl
@[simp 500]theorem rvP65(H:Heap) (b o:Nat):qaq PG H 65 (.ptr b o)=(readCells H b o 7).bind fun cs=>some (.agg cs):=rfl
@[simp]theorem fa65_0(x:AV):qaw PG 65 x 0=(match x with | .ptr b o=>some (.ptr b (o+0)) | .fptr cs o=>some (.fptr cs (o+0))|_=>none):=rfl
@[simp]theorem fd65_0(cs:List AV):qc9 PG 65 (.agg cs) 0=qca cs 0:=rfl
@[simp]theorem fa65_1(x:AV):qaw PG 65 x 1=(match x with | .ptr b o=>some (.ptr b (o+1)) | .fptr cs o=>some (.fptr cs (o+1))|_=>none):=rfl
@[simp]theorem fd65_1(cs:List AV):qc9 PG 65 (.agg cs) 1=qca cs 1:=rfl
@[simp]theorem fa65_2(x:AV):qaw PG 65 x 2=(match x with | .ptr b o=>some (.ptr b (o+2)) | .fptr cs o=>some (.fptr cs (o+2))|_=>none):=rfl
@[simp]theorem fd65_2(cs:List AV):qc9 PG 65 (.agg cs) 2=qca cs 2:=rfl
@[simp]theorem fa65_3(x:AV):qaw PG 65 x 3=(match x with | .ptr b o=>some (.ptr b (o+3)) | .fptr cs o=>some (.fptr cs (o+3))|_=>none):=rfl
@[simp]theorem fd65_3(cs:List AV):qc9 PG 65 (.agg cs) 3=qca cs 3:=rfl
@[simp]theorem fa65_4(x:AV):qaw PG 65 x 4=(match x with | .ptr b o=>some (.ptr b (o+4)) | .fptr cs o=>some (.fptr cs (o+4))|_=>none):=rfl
@[simp]theorem fd65_4(cs:List AV):qc9 PG 65 (.agg cs) 4=qca cs 4:=rfl
@[simp]theorem fa65_5(x:AV):qaw PG 65 x 5=(match x with | .ptr b o=>some (.ptr b (o+5)) | .fptr cs o=>some (.fptr cs (o+5))|_=>none):=rfl
@[simp]theorem fd65_5(cs:List AV):qc9 PG 65 (.agg cs) 5=qca cs 5:=rfl
@[simp]theorem fa65_6(x:AV):qaw PG 65 x 6=(match x with | .ptr b o=>some (.ptr b (o+6)) | .fptr cs o=>some (.fptr cs (o+6))|_=>none):=rfl
@[simp]theorem fd65_6(cs:List AV):qc9 PG 65 (.agg cs) 6=qca cs 6:=rfl
@[simp]theorem qzp:qc1 PG 105=some 2:=rfl
@[simp]theorem agT105:qgc PG 105=some true:=rfl
@[simp]theorem zcm:qce PG 105=some 32:=rfl
@[simp]theorem alT105(H:Heap):alV PG H 105=some (.ptr H.n 0,H.new (.cells [.str [],.str []])):=rfl
@[simp]theorem qzc:qbq PG 105=some (.agg [.str [],.str []]):=rfl
attribute [simp] Tryz.underlying105
@[simp 500]theorem rvF105(H:Heap) (cs:List AV) (o:Nat):qaq PG H 105 (.fptr cs o)=(qf1 o 2 cs).bind fun cs=>some (.agg cs):=rfl
@[simp 500]theorem rvP105(H:Heap) (b o:Nat):qaq PG H 105 (.ptr b o)=(readCells H b o 2).bind fun cs=>some (.agg cs):=rfl
@[simp]theorem fa105_0(x:AV):qaw PG 105 x 0=(match x with | .ptr b o=>some (.ptr b (o+0)) | .fptr cs o=>some (.fptr cs (o+0))|_=>none):=rfl
@[simp]theorem fd105_0(cs:List AV):qc9 PG 105 (.agg cs) 0=qca cs 0:=rfl
@[simp]theorem fa105_1(x:AV):qaw PG 105 x 1=(match x with | .ptr b o=>some (.ptr b (o+1)) | .fptr cs o=>some (.fptr cs (o+1))|_=>none):=rfl
@[simp]theorem fd105_1(cs:List AV):qc9 PG 105 (.agg cs) 1=qca cs 1:=rfl
@[simp]theorem szT144:qc1 PG 144=some 1:=rfl
@[simp]theorem agT144:qgc PG 144=some false:=rfl
@[simp]theorem byT144:qce PG 144=some 24:=rfl
@[simp]theorem alT144(H:Heap):alV PG H 144=some (.ptr H.n 0,H.new (.cells [.nilS])):=rfl
@[simp]theorem zeT144:qbq PG 144=some (.nilS):=rfl
attribute [simp] Tryz.underlying144
@[simp 500]theorem rvF144(H:Heap) (cs:List AV) (o:Nat):qaq PG H 144 (.fptr cs o)=qca cs o:=rfl
@[simp 500]theorem rvP144(H:Heap) (b o:Nat):qaq PG H 144 (.ptr b o)=(H.get b).bind fun k=>k.rd.bind fun cs=>qca cs o:=rfl
@[simp]theorem slz144(sz:Nat) (e:AV) (r:List AV):qda PG .eql 144 (.fslc sz (e::r)) .nilS=some (.bool false):=rfl
@[simp]theorem sln144(sz:Nat) (e:AV) (r:List AV):qda PG .neq 144 (.fslc sz (e::r)) .nilS=some (.bool true):=rfl
@[simp]theorem slze144:qda PG .eql 144 .eslc .nilS=some (.bool false):=rfl
@[simp]theorem slzz144:qda PG .eql 144 .nilS .nilS=some (.bool true):=rfl
@[simp]theorem szT164:qc1 PG 164=some 1:=rfl
@[simp]theorem agT164:qgc PG 164=some false:=rfl
@[simp]theorem byT164:qce PG 164=some 24:=rfl
@[simp]theorem alT164(H:Heap):alV PG H 164=some (.ptr H.n 0,H.new (.cells [.nilS])):=rfl
@[simp]theorem zeT164:qbq PG 164=some (.nilS):=rfl
attribute [simp] Tryz.underlying164
@[simp 500]theorem rvF164(H:Heap) (cs:List AV) (o:Nat):qaq PG H 164 (.fptr cs o)=qca cs o:=rfl
@[simp 500]theorem rvP164(H:Heap) (b o:Nat):qaq PG H 164 (.ptr b o)=(H.get b).bind fun k=>k.rd.bind fun cs=>qca cs o:=rfl
@[simp]theorem slz164(sz:Nat) (e:AV) (r:List AV):qda PG .eql 164 (.fslc sz (e::r)) .nilS=some (.bool false):=rfl
@[simp]theorem sln164(sz:Nat) (e:AV) (r:List AV):qda PG .neq 164 (.fslc sz (e::r)) .nilS=some (.bool true):=rfl
@[simp]theorem slze164:qda PG .eql 164 .eslc .nilS=some (.bool false):=rfl
@[simp]theorem slzz164:qda PG .eql 164 .nilS .nilS=some (.bool true):=rfl
attribute [simp] opndO_s
def ctx(T:List (Entry PG)):Ctx:=mkC PG (fun f=>(qca keepTbl f).getD []) T
@[simp]theorem mkC_P(T:List (Entry PG)):(ctx T).P=PG:=rfl
theorem mixed:PG.follows .mixedOrders=true:=by decide +kernel
theorem qb6:CallOK (ctx T) (qat (ctx T)):=mkC_call _ _ T mixed
theorem qbu(l:List (Fact (ctx T))):CallOK (ctx T) (qd9 l (qat (ctx T))):=ql9 qb6 l
def ldR(T:List (Entry PG)) (n:Nat) (r:Option Nat):Code->St->(Out->St->Prop)->Prop
 |.seq c d,s,Q=>ldR T n r c s (qab (fun s=>WpSr (ctx T) n r d s Q) Q)
 |.region _ ops false,s,Q=>∃s',qej (ctx T) (qat (ctx T)) ops ops.toList { s with ts:=[] }=some s'/\Q .normal s'
 |c,s,Q=>WpSr (ctx T) n r c s Q
theorem qR{n:Nat} {r:Option Nat}:∀{c:Code} {s:St} {Q:Out->St->Prop},ldR T n r c s Q->WpSr (ctx T) n r c s Q:=fun {c}=>by
 induction c with
 |seq c d h1 _=>exact fun h=>qaa (h1 h)
 |region id ops b=>cases b with
  |false=>exact fun h=>qam qb6 h
  |true=>exact fun h=>h
 |_=>exact fun h=>h
@[simp]theorem ldR_seq{T:List (Entry PG)} {n:Nat} {r:Option Nat} {c d:Code} {s:St} {Q:Out->St->Prop}:ldR T n r (.seq c d) s Q=ldR T n r c s (qab (fun s=>WpSr (ctx T) n r d s Q) Q):=rfl
@[simp]theorem ldR_reg{T:List (Entry PG)} {n:Nat} {r:Option Nat} {id:Nat} {ops:Array Oper} {s:St} {Q:Out->St->Prop}:ldR T n r (.region id ops false) s Q=∃s',qej (ctx T) (qat (ctx T)) ops ops.toList { s with ts:=[] }=some s'/\Q .normal s':=rfl
abbrev Str:=List UInt8
@[simp]theorem lenStr(H:Heap) (s:Str):qeq PG H 9 (.str s)=some s.length:=by simp[qeq]
theorem qp3{s:Str} {i:Nat} (h:i < s.length):ql1 PG 9 (.str s) (.int .i64 (i:Int))=some (.int .u8 (s[i]'h).toNat):=by simp[ql1,qbj h,qe2 h]
theorem slStr{H:Heap} {s:Str} {i:Nat} (h:i<=s.length):qcs PG H 9 (.str s) (some (.int .i64 (i:Int))) none none=some (.str (s.drop i)):=by simp[qcs,qr3,qch,qbj (Nat.lt_succ_of_le h)]
theorem catStr{x y:Str} (h:x.length+y.length<=1000000000000):qda PG .add 9 (.str x) (.str y)=some (.str (x++y)):=by simp[qda,qs3];omega
@[simp]theorem eqStr(x y:Str):qda PG .eql 9 (.str x) (.str y)=some (.bool (decide (x=y))):=by simp[qda,qs3,ql7]
@[simp]theorem neStr(x y:Str):qda PG .neq 9 (.str x) (.str y)=some (.bool !(decide (x=y))):=by simp[qda,qs3,ql7]
abbrev qd4(L:List Str):AV:=.fslc 1 (L.map .str)
theorem zc8(L:List Str):Elems 1 (L.map AV.str):=.map (sz:=1) (f:=AV.str) (by decide) (fun x=>⟨rfl,rfl,fun _=>rfl,fun h=>absurd rfl h⟩) L
theorem atS{L:List Str} {i:Nat} (h:i < L.length):qan PG 144 (qd4 L) (.int .i64 (i:Int))=some (.fptr [.str L[i]] 0):=by simp[qan,qd4,qbj h,qgn h,AV.cells]
theorem lenS{H:Heap} {L:List Str}:qeq PG H 144 (qd4 L)=some L.length:=by simp[qeq,qd4]
theorem inj_str2(x y:Str × Str) (h:[AV.str x.1,AV.str x.2]=[AV.str y.1,AV.str y.2]):x=y:=by simp at h;exact Prod.ext h.1 h.2
theorem qww{L M:List Str} (h:qd4 L=qd4 M):L=M:=by simp only[qd4,AV.fslc.injEq,true_and]at h;exact List.map_inj_right (fun _ _ h=>by simpa using h) |>.1 h
theorem inj_u8(x y:UInt8) (h:[AV.int .u8 (x.toNat:Int)]=[AV.int .u8 (y.toNat:Int)]):x=y:=by simp only[List.cons.injEq,AV.int.injEq,true_and,and_true]at h;exact UInt8.toNat_inj.1 (by omega)
def sp(c:UInt8):Bool:=decide ((c.toNat:Int)=9) || (decide ((c.toNat:Int)=10) || (decide ((c.toNat:Int)=12) || (decide ((c.toNat:Int)=13) || decide ((c.toNat:Int)=32))))
def qea(st:List Str × Str) (c:UInt8):List Str × Str:=if sp c=true then (if st.2=[] then st.1 else st.1++[st.2],[]) else (st.1,st.2++[c])
def wst(s:Str):List Str × Str:=s.foldl qea ([],[])
def qzi(st:List Str × Str):List Str:=if st.2=[] then st.1 else st.1++[st.2]
def qe5(s:Str):List Str:=qzi (wst s)
theorem qkg{s:Str} {i:Nat} (h:i < s.length):wst (s.take (i+1))=qea (wst (s.take i)) s[i]:=by rw[List.take_succ_eq_append_getElem h];simp only[wst,List.foldl_append,List.foldl_cons,List.foldl_nil]
theorem wst_len(s:Str):(wst s).2.length<=s.length/\(wst s).1.length<=s.length:=by
 have key:∀(s:Str) (st:List Str × Str),(s.foldl qea st).2.length<=st.2.length+s.length/\(s.foldl qea st).1.length<=st.1.length+s.length:=by
  intro s;induction s with
  |nil=>intro st;simp
  |cons c r ih=>
   intro st;have:=ih (qea st c);simp only[List.foldl_cons,List.length_cons];have h1:(qea st c).2.length<=st.2.length+1/\(qea st c).1.length<=st.1.length+1:=by
    unfold qea;split
    ·split<;>simp
    ·simp
   omega
 have:=key s ([],[]);simp only[wst];simp at this;exact this
def inW(w x:Str):Bool:=decide (x∈qe5 w)
theorem qxl(s:Str):(qe5 s).length<=s.length+1:=by have:=wst_len s;unfold qe5 qzi;split<;>simp<;>omega
def qup:Option (AV × Heap)->Bool
 |some (.bool b,_)=>b
 |_=>false
def eqN:Str->Str->Bool
 |[],l=>match l with|[]=>true|_::_=>false
 |a::x,l=>match l with
  |[]=>false
  |b::y=>match Nat.beq a.toNat b.toNat with
   |true=>eqN x y
   |false=>false
theorem eqN_eq:∀(x y:Str),eqN x y=decide (x=y)
 |[],[]=>rfl
 |[],_::_=>by simp[eqN]
 |_::_,[]=>by simp[eqN]
 |a::x,b::y=>by
  unfold eqN;simp only;split
  next h=>have:=UInt8.toNat_inj.1 (Nat.eq_of_beq_eq_true h);subst this;rw[eqN_eq];simp
  next h=>have:¬ a=b:=fun e=>(by subst e;rw[Nat.beq_refl]at h;cases h);simp[this]
def spN(n:Nat):Bool:=match Nat.beq n 32 with
 |true=>true
 |false=>match Nat.beq n 9 with
  |true=>true
  |false=>match Nat.beq n 10 with
   |true=>true
   |false=>match Nat.beq n 12 with
    |true=>true
    |false=>Nat.beq n 13
theorem spN_eq(c:UInt8):spN c.toNat=sp c:=by
 have k:∀m:Nat,Nat.beq c.toNat m=decide ((c.toNat:Int)=(m:Int)):=fun m=>by
  by_cases h:c.toNat=m
  ·subst h;simp
  ·rw[qb4 h];simp;omega
 unfold spN sp;rw[k 32,k 9,k 10,k 12,k 13];simp only[Int.cast_ofNat_Int];by_cases h1:(c.toNat:Int)=9<;>by_cases h2:(c.toNat:Int)=10<;>by_cases h3:(c.toNat:Int)=12<;>by_cases h4:(c.toNat:Int)=13<;>by_cases h5:(c.toNat:Int)=32<;>simp[h1,h2,h3,h4,h5]
def inN(x:Str):Str->Option Str->Bool->Bool
 |[],w,some'=>match some' with
  |true=>match w with
   |some r=>match r with|[]=>true|_::_=>false
   |none=>false
  |false=>false
 |c::r,w,some'=>match spN c.toNat with
  |true=>match some' with
   |true=>match w with
    |some q=>match q with
     |[]=>true
     |_::_=>inN x r (some x) false
    |none=>inN x r (some x) false
   |false=>inN x r (some x) false
  |false=>match w with
   |some q=>match q with
    |[]=>inN x r none true
    |d::q=>match Nat.beq d.toNat c.toNat with
     |true=>inN x r (some q) true
     |false=>inN x r none true
   |none=>inN x r none true
def leftOf:Str->Str->Option Str
 |[],x=>some x
 |a::c,x=>match x with
  |[]=>none
  |b::x=>if b=a then leftOf c x else none
theorem qo4:∀(cur x:Str) (c:UInt8),leftOf (cur++[c]) x=match leftOf cur x with
  |some q=>(match q with|[]=>none|d::q=>if d=c then some q else none)
  |none=>none
 |[],x,c=>by cases x<;>simp[leftOf]
 |a::r,[],c=>by simp[leftOf]
 |a::r,b::x,c=>by
  simp only[List.cons_append,leftOf];by_cases h:b=a
  ·simp only[h,if_true];exact qo4 r x c
  ·simp[h]
theorem qfx:∀(cur x:Str),leftOf cur x=some []↔x=cur
 |[],x=>by simp[leftOf]
 |a::r,[]=>by simp[leftOf]
 |a::r,b::x=>by
  simp only[leftOf];by_cases h:b=a
  ·simp[h,qfx r x]
  ·simp[h]
theorem qwx(x:Str) (hx:x≠[]):∀(r:Str) (st:List Str × Str),x ∉ st.1->inN x r (leftOf st.2 x) (!decide (st.2=[]))=decide (x∈qzi (r.foldl qea st))
 |[],st,hn=>by
  simp only[List.foldl_nil,qzi];unfold inN;by_cases h:st.2=[]
  ·simp[h,hn]
  ·simp only[h,decide_false,Bool.not_false,if_false];cases hl:leftOf st.2 x with
   |none=>have:¬ x=st.2:=fun e=>(by rw[(qfx st.2 x).2 e]at hl;cases hl);simp[hn,this]
   |some q=>
    cases q with
    |nil=>have:=(qfx st.2 x).1 hl;simp[this]
    |cons d q=>have:¬ x=st.2:=fun e=>(by rw[(qfx st.2 x).2 e]at hl;cases hl);simp[hn,this]
 |c::r,st,hn=>by
  show inN x (c::r) _ _=decide (x∈qzi (r.foldl qea (qea st c)));have grow:∀(r:Str) (st:List Str × Str),x∈st.1->x∈(r.foldl qea st).1:=by
   intro r;induction r with
   |nil=>exact fun _ h=>h
   |cons c r ih=>
    intro st h;refine ih _ ?_;unfold qea;split
    ·split
     ·exact h
     ·exact List.mem_append_left _ h
    ·exact h
  rw[show inN x (c::r) (leftOf st.2 x) (!decide (st.2=[]))=(match spN c.toNat with
  |true=>match (!decide (st.2=[]))with
   |true=>match leftOf st.2 x with
    |some q=>match q with
     |[]=>true
     |_::_=>inN x r (some x) false
    |none=>inN x r (some x) false
   |false=>inN x r (some x) false
  |false=>match leftOf st.2 x with
   |some q=>match q with
    |[]=>inN x r none true
    |d::q=>match Nat.beq d.toNat c.toNat with
     |true=>inN x r (some q) true
     |false=>inN x r none true
   |none=>inN x r none true) from rfl,spN_eq]
  cases hs:sp c with
  |true=>
   simp only;by_cases h:st.2=[]
   ·have e:qea st c=(st.1,[]):=(by simp[qea,hs,h]);rw[e];have ih:=qwx x hx r (st.1,[]) hn;simp only[h,decide_true,Bool.not_true];simpa[leftOf]using ih
   ·have e:qea st c=(st.1++[st.2],[]):=(by simp[qea,hs,h]);rw[e];simp only[h,decide_false,Bool.not_false];by_cases hq:x=st.2
    ·rw[(qfx st.2 x).2 hq];simp only;have hm:=grow r (st.1++[st.2],[]) (by rw[hq];simp);unfold qzi;split
     ·simp[hm]
     ·simp[hm]
    ·have hn':x ∉ st.1++[st.2]:=(by simp[hn,hq]);have ih:=qwx x hx r (st.1++[st.2],[]) hn';simp only[leftOf,decide_true,Bool.not_true]at ih;cases hl:leftOf st.2 x with
     |none=>exact ih
     |some q=>
      cases q with
      |nil=>exact absurd ((qfx st.2 x).1 hl) hq
      |cons d q=>exact ih
  |false=>
   simp only;have e:qea st c=(st.1,st.2++[c]):=(by simp[qea,hs]);rw[e];have ih:=qwx x hx r (st.1,st.2++[c]) hn;simp only[List.append_eq_nil_iff,List.cons_ne_nil,and_false,decide_false,Bool.not_false]at ih;rw[qo4]at ih;cases hl:leftOf st.2 x with
   |none=>rw[hl]at ih;exact ih
   |some q=>
    rw[hl]at ih;cases q with
    |nil=>exact ih
    |cons d q=>
     simp only at ih ⊢;by_cases hd:d=c
     ·rw[if_pos hd]at ih;rw[hd,Nat.beq_refl];exact ih
     ·rw[if_neg hd]at ih;rw[qb4 (fun e=>hd (UInt8.toNat_inj.1 e))];exact ih
theorem words_ne(s:Str):[] ∉ qe5 s:=by
 have key:∀(r:Str) (st:List Str × Str),[] ∉ st.1->[] ∉ (r.foldl qea st).1:=by
  intro r;induction r with
  |nil=>exact fun _ h=>h
  |cons c r ih=>
   intro st h;refine ih _ ?_;unfold qea;split
   ·split
    ·exact h
    next h2=>simp only[List.mem_append,List.mem_singleton,not_or];exact⟨h,fun e=>h2 e.symm⟩
   ·exact h
 have:=key s ([],[]) (by simp);unfold qe5 qzi wst;split
 ·exact this
 next h2=>simp only[List.mem_append,List.mem_singleton,not_or];exact⟨this,fun e=>h2 e.symm⟩
def inB(w x:Str):Bool:=match x with
 |[]=>false
 |_::_=>inN x w (some x) false
theorem inB_eq(w x:Str):inB w x=inW w x:=by
 unfold inB;split
 ·simp[inW,words_ne]
 next a r=>have:=qwx (a::r) (by simp) w ([],[]) (by simp);exact(show inN (a::r) w (some (a::r)) false=_ from this).trans (decide_eq_decide.2 Iff.rfl)
abbrev At1:=Str × Str
def qb0(a:At1):AV:=.agg [.str a.1,.str a.2]
def qaf(L:List At1):AV:=.fslc 2 (L.map qb0)
@[simp]theorem cells_aAttr(a:At1):(qb0 a).cells=[.str a.1,.str a.2]:=rfl
@[simp]theorem pure_aAttr(a:At1):qa2 (qb0 a)=true:=by simp[qb0,qa2,qa3]
@[simp]theorem pure_aAttrs(L:List At1):qa2 (qaf L)=true:=by simp[qaf,qa2]
@[simp]theorem ok_aAttr(a:At1):okV (qb0 a)=true:=by simp[qb0,okV,qa2,qa3]
@[simp]theorem ok_aAttrs(L:List At1):okV (qaf L)=true:=by simp[qaf,okV,qa2]
theorem qs1(H:Heap) (L:List At1):qcy H [2] (qaf L)=some (qaf L):=qaj (by simp)
theorem qt5{a b:At1} (h:qb0 a=qb0 b):a=b:=by simp[qb0]at h;exact Prod.ext h.1 h.2
theorem qdv{L M:List At1} (h:qaf L=qaf M):L=M:=by simp only[qaf,AV.fslc.injEq,true_and]at h;exact List.map_inj_right (fun _ _=>qt5) |>.1 h
theorem c228(a:At1) (nm:Str):CallAt (ctx T) 228 [qb0 a,.fptr [.str nm] 0] zH (.bool (decide (a.1=nm))) zH:=by refine qa0 (s0:=⟨[0,1,2,3],[qb0 a,.fptr [.str nm] 0,uD,uD],[],8,⟨0,[[]]⟩⟩) Tryz.func228 rfl rfl rfl ?_;apply qR;simp[zS,qb0];apply qR;simp[zS];apply qa7;simp[zQ,Tryz.f228];exact⟨[],[],qbd rfl,FitH.empty⟩
def qal{α:Type} (p:α->Bool):List α->Nat->Int
 |[],_=>-1
 |a::r,k=>if p a=true then k else qal p r (k+1)
theorem qf9{α:Type} {p:α->Bool} {L:List α} {i:Nat} (h:i < L.length):qal p (L.drop i) i=if p L[i]=true then (i:Int) else qal p (L.drop (i+1)) (i+1):=by rw[List.drop_eq_getElem_cons h];rfl
theorem atA{L:List At1} {i:Nat} (h:i < L.length):qan PG 27 (qaf L) (.int .i64 (i:Int))=some (.fptr [.str L[i].1,.str L[i].2] 0):=by simp[qan,qaf,qbj h,qgn h,qb0,AV.cells]
theorem qsy{H:Heap} {L:List At1}:qeq PG H 27 (qaf L)=some L.length:=by simp[qeq,qaf]
theorem rdA1{H:Heap} (a:At1):qaq PG H 105 (.fptr [.str a.1,.str a.2] 0)=some (qb0 a):=by simp[qaq,qf1,qe8,qb0]
theorem c227(L:List At1) (hl:L.length<=1000) (clo:FuncId) (cap:List AV) (hc:qa3 cap=true) (p:At1->Bool) (hp:∀a,CallAt (ctx T) clo (qb0 a::cap) zH (.bool (p a)) zH) :
  CallAt (ctx T) 227 [qaf L,.func (.func clo) [] cap] zH (.int .i64 (qal p L 0)) zH:=by
 refine qa0 (s0:=⟨[0,1,4,5,7,8],[qaf L,.func (.func clo) [] cap,uD,uD,uD,uD],[],19,⟨0,[[]]⟩⟩) Tryz.func227 rfl rfl rfl ?_;apply qR;simp[zS];apply qR;simp[zS,qsy];refine qa4 (qb1 (fun i:Nat=>(⟨[0,1,4,5,7,8],[qaf L,.func (.func clo) [] cap,uD,uD,.int .i64 L.length,.int .i64 i],[],19,⟨0,[[]]⟩⟩ : St))
  (fun i=>i<=L.length/\qal p L 0=qal p (L.drop i) i) (fun i=>L.length - i) [] [] 0 ⟨Nat.zero_le _,rfl⟩ ⟨rfl,rfl,rfl,by simp[qax,qap,qa2,qa3,hc],FitH.nothing⟩ ?_)
 rintro i ⟨hi,hx⟩ B hB;apply qR;simp[zS];repeat apply wq
 refine qbf rfl (fun h=>?_) fun h=>?_
 ·simp at h;apply qa6;simp;repeat apply wq
  apply qa4;apply qR;simp[zS];repeat apply wq
  refine qam (ql9 qb6 [⟨clo,[qb0 L[i]]++cap,⟨0,[[]]⟩,.bool (p L[i]),⟨0,[[]]⟩,(hp L[i]).lift (by simp[qa3,hc]) _⟩]) ?_;simp[zS,atA h,qd9,rdA1];refine qbf rfl (fun h2=>?_) fun h2=>?_
  ·apply qR;simp[zS];apply qa7;simp[zQ,Tryz.f227];refine⟨[],[],?_,FitH.empty⟩;rw[hx,qf9 h,if_pos h2];exact qbd rfl
  ·repeat apply wq
   apply qa6;simp;apply qR;simp[zS,qbo (show i<=1000000000 by omega)];refine hB _ (i+1) (by omega) ⟨by omega,?_⟩ ⟨[],[],⟨rfl,rfl,rfl,by simp[qax,qap,qa2,qa3,hc],FitH.nothing⟩⟩;rw[hx,qf9 h,h2];simp
 ·simp at h;apply qas;simp;apply qR;simp[zS];apply qa7;simp[zQ,Tryz.f227];refine⟨[],[],?_,FitH.empty⟩;rw[hx,List.drop_eq_nil_of_le (by omega)];exact qbd rfl
def qsk(L:List At1) (nm:Str):Int:=qal (fun a=>decide (a.1=nm)) L 0
theorem c219(L:List At1) (nm:Str) (hl:L.length<=1000):CallAt (ctx T) 219 [qaf L,.str nm] zH (.int .i64 (qsk L nm)) zH:=by
 refine qa0 (s0:=⟨[0,1,3,4],[qaf L,.str nm,uD,uD],[],8,⟨0,[[]]⟩⟩) Tryz.func219 rfl rfl rfl ?_;apply qR;simp[zS];repeat apply wq
 refine qam (qbu [⟨227,[qaf L,.func (.func 228) [] [.ptr 0 0]],⟨1,[[(0,.cells [.str nm])]]⟩,.int .i64 (qsk L nm),_,
  CallAt.thaw (c227 L hl 228 [.fptr [.str nm] 0] rfl (fun a=>decide (a.1=nm)) fun a=>c228 a nm) rfl [] (by simp[qaj,qrz (H:=⟨1,[[(0,.cells [.str nm])]]⟩) (b:=0) (cs:=[.str nm]) rfl rfl])⟩]) ?_
 simp[zS,qd9];apply qa7;simp[zQ,Tryz.f219];exact qak rfl rfl
def e219:Entry PG:=mkE 219 [[2],[]] (fun x:List At1 × Str=>[qaf x.1,.str x.2]) (fun x=>x.1.length<=1000) (fun x=>.int .i64 (qsk x.1 x.2)) fun x hx=>c219 (T:=[]) x.1 x.2 hx
theorem k219(hT:qa9 219 T=some e219.g) {L:List At1} (nm:Str) (hl:L.length<=1000) {H:Heap} {l:AV} (h:qcy H [2] l=some (qaf L)):qat (ctx T) (.fn 219) [l,.str nm] H=some (.int .i64 (qsk L nm),H):=
 qb2 hT (fun x y h=>by simp at h;exact Prod.ext (qdv h.1) h.2) (L,nm) hl rfl (by simp[h])
structure Nd where
 kind:Int
 space:Int
 name:Str
 attrs:List At1
 data:Str
 up:Int
 kids:List Int
def qau(i:Int):AV:=.int .i64 i
abbrev qac(L:List Int):AV:=.fslc 1 (L.map qau)
def Nd.cs(n:Nd):List AV:=[qau n.kind,qau n.space,.str n.name,qaf n.attrs,.str n.data,qau n.up,qac n.kids]
def qag(n:Nd):AV:=.agg n.cs
abbrev Tr:=List Nd
abbrev qcf(t:Tr):AV:=.fslc 7 (t.map qag)
def qba(t:Tr):AV:=.agg [qcf t]
@[simp]theorem qfv(L:List Int):qa2 (qac L)=true:=by simp[qac,qa2]
@[simp]theorem pure_aNode(n:Nd):qa2 (qag n)=true:=by simp[qag,Nd.cs,qau,qa2,qa3]
@[simp]theorem pure_aNodes(t:Tr):qa2 (qcf t)=true:=by simp[qcf,qa2]
@[simp]theorem pure_aTree(t:Tr):qa2 (qba t)=true:=by simp[qba,qa2,qa3]
@[simp]theorem cells_aNode(n:Nd):(qag n).cells=n.cs:=rfl
@[simp]theorem cells_aTree(t:Tr):(qba t).cells=[qcf t]:=rfl
@[simp]theorem cells_aInt(i:Int):(qau i).cells=[qau i]:=rfl
@[simp]theorem ok_aNode(n:Nd):okV (qag n)=true:=by simp[qag,Nd.cs,qau,qaf,qac,okV,qa2,qa3]
theorem qd2{L M:List Int} (h:qac L=qac M):L=M:=by simp only[qac,AV.fslc.injEq,true_and]at h;exact List.map_inj_right (fun x y e=>by simp[qau]at e;exact e) |>.1 h
theorem qh7{a b:Nd} (h:qag a=qag b):a=b:=by
 obtain⟨k,s,n,at_,d,u,ks⟩:=a;obtain⟨k',s',n',at',d',u',ks'⟩:=b;simp[qag,Nd.cs,qau]at h;obtain⟨h1,h2,h3,h4,h5,h6,h7⟩:=h;have h7':qac ks=qac ks':=by show AV.fslc 1 _=AV.fslc 1 _;rw[h7]
 simp[h1,h2,h3,qdv h4,h5,h6,qd2 h7']
theorem qfg{a b:Tr} (h:qba a=qba b):a=b:=by simp[qba,qcf]at h;exact List.map_inj_right (fun x y e=>qh7 e) |>.1 h
structure Wk where
 l:List Int
 inn:List Int
 out:List Int
 c:Int
def negs(I:List Int):Nat:=I.countP fun x=>decide (x < 0)
def into(i:Nat) (w:Wk):Wk:=⟨w.l++[(i:Int)],w.inn.set i w.c,w.out,w.c+1⟩
def outof(i:Nat) (w:Wk):Wk:=⟨w.l,w.inn,w.out.set i w.c,w.c+1⟩
structure WOK (n K:Nat) (w:Wk):Prop where
 li:w.inn.length=n
 lo:w.out.length=n
 c0:0<=w.c
 cb:w.c+2 * (negs w.inn:Int)<=2 * K
 lb:w.l.length+negs w.inn<=K
theorem negs_set{I:List Int} {i:Nat} {c:Int} (h:i < I.length) (hi:I.getD i 0 < 0) (hc:0<=c):negs (I.set i c)+1=negs I:=by
 induction I generalizing i with
 |nil=>simp at h
 |cons x r ih=>
  cases i with
  |zero=>have hx:x < 0:=(by simpa using hi);have hc':¬ c < 0:=(by omega);simp[negs,List.countP_cons,hx,hc']
  |succ j=>have:=ih (i:=j) (by simpa using h) (by simpa using hi);simp only[negs,List.set_cons_succ,List.countP_cons]at this ⊢;omega
theorem WOK.into{n K i:Nat} {w:Wk} (h:WOK n K w) (hi:i < n) (hn:w.inn.getD i 0 < 0):WOK n K (into i w)/\negs (into i w).inn+1=negs w.inn/\(into i w).c+2 * (negs (into i w).inn:Int)+1<=2 * K:=by have e:=negs_set (I:=w.inn) (by rw[h.li];exact hi) hn h.c0;have h1:=h.cb;have h2:=h.lb;have h3:=h.c0;refine⟨⟨by simp[Go.Proofs.YtnfdakclfmchfaaGreat.into,h.li],h.lo,?_,?_,?_⟩,e,?_⟩<;>simp only[Go.Proofs.YtnfdakclfmchfaaGreat.into,List.length_append,List.length_singleton]<;>omega
abbrev Cfg:=List (Nat × Nat) × List Bool × List Int
def stp(n:Nat) (ks:Nat->List Int):Cfg->Option Cfg
 |([],_,_)=>none
 |((i,j)::p,s,a)=>match (ks i)[j]? with
  |none=>some (p,s,a)
  |some k=>if 0<=k/\k < (n:Int)/\s.getD k.toNat true=false then some ((k.toNat,0)::(i,j+1)::p,s.set k.toNat true,a++[k]) else some ((i,j+1)::p,s,a)
inductive Reach (n:Nat) (ks:Nat->List Int):Cfg->Cfg->Prop where
 |refl (c:Cfg):Reach n ks c c
 |step {c d e:Cfg} (h:stp n ks c=some d) (r:Reach n ks d e):Reach n ks c e
theorem Reach.trans{n:Nat} {ks:Nat->List Int} {c d e:Cfg} (h:Reach n ks c d) (r:Reach n ks d e):Reach n ks c e:=by
 induction h with
 |refl=>exact r
 |step h _ ih=>exact .step h (ih r)
theorem Reach.one{n:Nat} {ks:Nat->List Int} {c d e:Cfg} (r:Reach n ks c d) (h:stp n ks d=some e):Reach n ks c e:=r.trans (.step h (.refl _))
def qbm(L:List Int):List AV:=L.map qau
@[simp]theorem ints_nil:qbm []=[]:=rfl
@[simp]theorem qcd(L:List Int):(qbm L).length=L.length:=by simp[qbm]
theorem qg6(L:List Int):Elems 1 (qbm L):=.map (sz:=1) (f:=qau) (by decide) (fun x=>⟨rfl,rfl,fun _=>rfl,fun h=>absurd rfl h⟩) L
@[simp]theorem qc8(L:List Int):qa8 (qbm L)=qbm L:=by
 unfold qbm;induction L with
 |nil=>rfl
 |cons x r ih=>simp only[List.map_cons,qa8,ih];rfl
@[simp]theorem qh1(L:List Int):qa3 (qbm L)=true:=by have:=(qg6 L).pure;rwa [qc8]at this
theorem atI{L:List Int} {i:Nat} (h:i < L.length):qan PG 38 (qac L) (.int .i64 (i:Int))=some (.fptr [.int .i64 L[i]] 0):=by simp[qan,qac,qbj h,qgn h,qau,AV.cells]
theorem atN{t:Tr} {i:Nat} (h:i < t.length):qan PG 35 (qcf t) (.int .i64 (i:Int))=some (.fptr (t[i]).cs 0):=by simp[qan,qcf,qbj h,qgn h]
theorem qn0{H:Heap} {L:List Int}:qeq PG H 38 (qac L)=some L.length:=by simp[qeq,qac]
theorem lenN{H:Heap} {t:Tr}:qeq PG H 35 (qcf t)=some t.length:=by simp[qeq,qcf]
def lA(b:Nat) (L:List Int):AV:=qcv b 1 (qbm L)
def lF(b:Nat) (L:List Int):List (Nat × Blk):=qd6 b (qbm L)
theorem FitH.rows{n:Nat} {σ:List (Nat × Nat)} {H H':Heap} (nd1:(σ.map (·.1)).Nodup) (nd2:(σ.map (·.2)).Nodup) (nd3:(H'.ents.map (·.1)).Nodup) (lt:∀x,x∈σ->x.2 < H'.n) (idn:∀x,x∈σ->x.1 < n\/x.2 < n->x.1=x.2) (num:n<=H'.n)
  (src:∀e,e∈H'.ents->∃b cs,(b,e.1)∈σ/\H.get b=some (.cells cs)/\e.2=.cells cs/\qa3 cs=true):FitH n σ [] H H' where
 nd1:=by simpa using nd1
 nd2:=nd2
 nd3:=nd3
 lt:=lt
 idn:=fun x hx h=>idn x hx (.inr h)
 num:=num
 src:=fun e he=>by obtain⟨b,cs,h1,h2,h3,h4⟩:=src e he;exact⟨b,_,h1,h2,by rw[h3];exact qao h4⟩
 frz:=fun x h=>by cases h
def hW(L I O:List Int):Heap:=⟨3,[lF 2 L++[(0,.cells (qbm I)),(1,.cells (qbm O))]]⟩
def hW'(L I O:List Int):Heap:=⟨4,[lF 3 L++[(0,.cells (qbm I)),(1,.cells (qbm O))]]⟩
def hL(t:Tr) (L I O:List Int):Heap:=⟨5,[[(4,.cells (qbm L)),(3,.cells [qcf t])],[(0,.cells (qbm I)),(1,.cells (qbm O))]]⟩
theorem ixI{b n i:Nat} {cap:Cap} (h:i < n):qan PG 38 (.slc b 0 n cap) (.int .i64 (i:Int))=some (.ptr b i):=by simp[qan,qbj h]
def hA(t:Tr) (I O:List Int):Heap:=⟨3,[[(2,.cells (qbm O)),(1,.cells (qbm I)),(0,.cells [qcf t])]]⟩
@[simp]theorem ok_aTree(t:Tr):okV (qba t)=true:=by simp[qba,qcf,okV,qa2,qa3]
theorem qqa{q:Nat} (h:q<=1000000000):wr .i64 (((q+1:Nat):Int) - 1)=some (q:Int):=by rw[qbs (by omega) (by omega)];simp
structure LOK (n:Nat) (w:Wk):Prop where
 li:w.inn.length=n
 c0:0<=w.c
 rng:∀x,x∈w.l->0<=x/\x < (n:Int)/\0<=w.inn.getD x.toNat (-1)
 nd:w.l.Nodup
theorem LOK.into{n i:Nat} {w:Wk} (h:LOK n w) (hi:i < n) (hn:w.inn.getD i 0 < 0):LOK n (into i w) where
 li:=by simp[Go.Proofs.YtnfdakclfmchfaaGreat.into,h.li]
 c0:=by have:=h.c0;simp only[Go.Proofs.YtnfdakclfmchfaaGreat.into];omega
 rng:=fun x hx=>by
  have hl:=h.li;have hc:=h.c0;simp only[Go.Proofs.YtnfdakclfmchfaaGreat.into,List.mem_append,List.mem_singleton]at hx ⊢;have hset:∀j,j < n->(w.inn.set i w.c).getD j (-1)=if i=j then w.c else w.inn.getD j (-1):=fun j hj=>by simp only[List.getD_eq_getElem?_getD,List.getElem?_set];split<;>simp_all
  rcases hx with hx|rfl
  ·obtain⟨h1,h2,h3⟩:=h.rng x hx;refine⟨h1,h2,?_⟩;rw[hset _ (by omega)];split<;>omega
  ·refine⟨by omega,by omega,?_⟩;rw[hset _ (by omega)];simp[hc]
 nd:=by simp only[Go.Proofs.YtnfdakclfmchfaaGreat.into];refine List.nodup_append.2 ⟨h.nd,by simp,?_⟩;intro a ha b hb;simp at hb;subst hb;rintro rfl;have h3:=(h.rng _ ha).2.2;have hl:=h.li;simp only[List.getD_eq_getElem?_getD,Int.toNat_natCast]at h3 hn;rw[List.getElem?_eq_getElem (by omega)]at h3 hn;simp at h3 hn;omega
theorem LOK.out{n i:Nat} {w:Wk} (h:LOK n w):LOK n (outof i w):=⟨h.li,by have:=h.c0;simp only[outof];omega,h.rng,h.nd⟩
theorem FitH.own1{k b m':Nat} {τ:List (Nat × Nat)} {es:List AV} {sz:Nat} {H:Heap} {g:List (Nat × Blk)} (he:Elems sz es) (hb:es≠[]->H.get b=some (.cells (qa8 es)))
  (n1:(((b,k)::τ).map (·.1)).Nodup) (n2:(((b,k)::τ).map (·.2)).Nodup) (n3:(k::g.map (·.1)).Nodup) (lt:∀x,x∈(b,k)::τ->x.2 < m')
  (src:∀e,e∈g->∃b cs,(b,e.1)∈τ/\H.get b=some (.cells cs)/\e.2=.cells cs/\qa3 cs=true):FitH 0 ((b,k)::τ) [] H ⟨m',[qd6 k es++g]⟩:=by
 refine .rows n1 n2 ?_ lt (by simp) (Nat.zero_le _) ?_
 ·cases es with
  |nil=>rw[List.nodup_cons]at n3;simpa[qd6,Heap.ents]using n3.2
  |cons x r=>simpa[qd6,Heap.ents]using n3
 ·intro e h;cases hes:es with
  |nil=>rw[hes]at h;simp[qd6,Heap.ents]at h;obtain⟨b',cs,h1,h2⟩:=src e h;exact⟨b',cs,List.mem_cons_of_mem _ h1,h2⟩
  |cons x r=>
   rw[hes]at h;simp only[qd6,Heap.ents,List.flatten_cons,List.flatten_nil,List.append_nil,List.cons_append,List.nil_append,List.mem_cons]at h;rcases h with rfl|h
   ·exact⟨b,_,List.mem_cons_self,by rw[hb (by simp[hes]),hes],rfl,by rw[<- hes];exact he.pure⟩
   ·obtain⟨b',cs,h1,h2⟩:=src e h;exact⟨b',cs,List.mem_cons_of_mem _ h1,h2⟩
def nd0:Nd:=⟨0,0,[],[],[],0,[]⟩
def qa1(t:Tr) (i:Int):Nd:=t.getD i.toNat nd0
theorem qfw{t:Tr} {i:Nat} (h:i < t.length):qa1 t (i:Int)=t[i]:=by simp[qa1,List.getD_eq_getElem?_getD,List.getElem?_eq_getElem h]
theorem qh2{t:Tr} {i:Int} (h0:0<=i) (h:i < (t.length:Int)):qa1 t i∈t:=by obtain⟨j,rfl⟩ : ∃j:Nat,i=j:=⟨i.toNat,by omega⟩;rw[qfw (by omega)];exact List.getElem_mem _
theorem atX{t:Tr} {i:Int} (h0:0<=i) (h:i < (t.length:Int)):qan PG 35 (qcf t) (.int .i64 i)=some (.fptr (qa1 t i).cs 0):=by obtain⟨j,rfl⟩ : ∃j:Nat,i=j:=⟨i.toNat,by omega⟩;rw[atN (by omega),qfw (by omega)]
@[simp]theorem sub_cs(n:Nd):qf1 0 7 n.cs=some n.cs:=rfl
theorem atIx{L:List Int} {i:Nat} (h:i < L.length):qan PG 38 (qac L) (.int .i64 (i:Int))=some (.fptr [.int .i64 L[i]] 0):=atI h
def qrc(a:At1):Bool:=decide (a.1.length<=40/\a.2.length<=150)
def ql5(L:List At1):Bool:=decide (L.length<=14) && L.all qrc
theorem c34(L:List At1):CallAt (ctx T) 34 [qaf L] zH (.bool (ql5 L)) zH:=by
 refine qa0 (s0:=⟨[0,2,4,8,9,10],[qaf L,uD,uD,uD,uD,uD],[],25,⟨0,[[]]⟩⟩) Tryz.func34 rfl rfl rfl ?_;apply qR;simp[zS];by_cases hl:14 < L.length
 ·have hl':(14:Int) < (L.length:Int):=by omega
  apply qR;simp[zS,qsy,hl'];apply qah rfl;apply qR;simp[zS];apply qa7;simp[zQ,Tryz.f34];exact qak rfl (by simp[ql5];omega)
 ·have hl':¬ (14:Int) < (L.length:Int):=by omega
  apply qR;simp[zS,qsy,hl'];apply qai rfl;apply qa6;simp;apply qR;simp[zS,qsy];refine qa4 (qb1 (fun i:Nat=>(⟨[0,2,4,8,9,10],[qaf L,uD,uD,qaf L,.int .i64 (L.length:Nat),.int .i64 i],[],25,⟨0,[[]]⟩⟩ : St))
   (fun i=>i<=L.length/\L.all qrc=(L.drop i).all qrc) (fun i=>L.length - i) [] [] 0 ⟨Nat.zero_le _,by simp⟩ ⟨rfl,rfl,rfl,by simp[qax,qap,qa2,qa3,qaf],FitH.nothing⟩ ?_)
  rintro i ⟨hi,he⟩ B hB;apply qR;simp[zS];repeat apply wq
  refine qbf rfl (fun h=>?_) fun h=>?_
  ·simp at h;rw[List.drop_eq_getElem_cons h,List.all_cons]at he;apply qa6;simp;repeat apply wq
   apply qa4;apply qR;simp[zS,atA h,rdA1];by_cases h1:40 < L[i].1.length
   ·have h1':(40:Int) < (L[i].1.length:Int):=(by omega);have hf:qrc L[i]=false:=(by simp[qrc];omega);apply qR;simp[zS,h1'];apply qah rfl;apply qR;simp[zS];apply qa7;simp[zQ,Tryz.f34];exact qak rfl (by simp only[ql5,he,hf];simp)
   ·have h1':¬ (40:Int) < (L[i].1.length:Int):=(by omega);by_cases h2:150 < L[i].2.length
    ·have h2':(150:Int) < (L[i].2.length:Int):=(by omega);have hf:qrc L[i]=false:=(by simp[qrc];omega);apply qR;simp[zS,h1',h2'];apply qah rfl;apply qR;simp[zS];apply qa7;simp[zQ,Tryz.f34];exact qak rfl (by simp only[ql5,he,hf];simp)
    ·have h2':¬ (150:Int) < (L[i].2.length:Int):=(by omega);have hf:qrc L[i]=true:=(by simp[qrc];omega);apply qR;simp[zS,h1',h2'];apply qai rfl;apply qa6;simp;apply qR;simp[zS,qbo (show i<=1000000000 by omega)];refine hB _ (i+1) (by omega) ⟨by omega,by rw[he,hf,Bool.true_and]⟩ ⟨[],[],⟨rfl,rfl,rfl,by simp[qax,qap,qa2,qa3,qaf],FitH.nothing⟩⟩
  ·simp at h;rw[List.drop_eq_nil_of_le h]at he;apply qas;simp;apply qR;simp[zS];apply qa7;simp[zQ,Tryz.f34];exact qak rfl (by simp only[ql5,he];simp;omega)
def e34:Entry PG:=mkE 34 [[2]] (fun x:List At1=>[qaf x]) (fun _=>True) (fun x=>.bool (ql5 x)) fun x _=>c34 (T:=[]) x
theorem injAs(x y:List At1) (h:[qaf x]=[qaf y]):x=y:=by simp only[List.cons.injEq]at h;exact qdv h.1
theorem k34(hT:qa9 34 T=some e34.g) (L:List At1) (H:Heap):qat (ctx T) (.fn 34) [qaf L] H=some (.bool (ql5 L),H):=
 qb2 hT injAs L trivial rfl (by simp[qs1])
@[simp]theorem len_cs(n:Nd):n.cs.length=7:=rfl
@[simp]theorem sng_cs(n:Nd):allSingle n.cs=true:=rfl
@[simp]theorem lay_cs(n:Nd) (a b c d e f g:AV):qhi n.cs [a,b,c,d,e,f,g]=some n.cs:=rfl
@[simp 5000]theorem ready_cs(H:Heap) (b:Nat) (n:Nd):H.ready b n.cs=H:=rfl
theorem injTI(x y:Tr × Int) (h:[qba x.1,.int .i64 x.2]=[qba y.1,.int .i64 y.2]):x=y:=by simp at h;exact Prod.ext (qfg h.1) h.2
theorem FitH.id1{m':Nat} {H:Heap} {g:List (Nat × Blk)} (nd:(g.map (·.1)).Nodup) (lt:∀e,e∈g->e.1 < m') (src:∀e,e∈g->∃cs,H.get e.1=some (.cells cs)/\e.2=.cells cs/\qa3 cs=true):FitH 0 (g.map fun e=>(e.1,e.1)) [] H ⟨m',[g]⟩:=by
 refine .rows (by simpa[Function.comp_def]using nd) (by simpa[Function.comp_def]using nd) (by simpa[Heap.ents]using nd) ?_ (by simp) (Nat.zero_le _) ?_
 ·intro x hx;obtain⟨e,he,rfl⟩:=List.mem_map.1 hx;exact lt e he
 ·intro e he;have he:e∈g:=by simpa[Heap.ents]using he
  obtain⟨cs,h1,h2,h3⟩:=src e he;exact⟨e.1,cs,List.mem_map.2 ⟨e,he,rfl⟩,h1,h2,h3⟩
section
variable (n:Nd)
@[simp]theorem gcs0:qca n.cs 0=some (.int .i64 n.kind):=rfl
@[simp]theorem gcs1:qca n.cs 1=some (.int .i64 n.space):=rfl
@[simp]theorem gcs2:qca n.cs 2=some (.str n.name):=rfl
@[simp]theorem gcs3:qca n.cs 3=some (qaf n.attrs):=rfl
@[simp]theorem gcs4:qca n.cs 4=some (.str n.data):=rfl
@[simp]theorem gcs5:qca n.cs 5=some (.int .i64 n.up):=rfl
@[simp]theorem gcs6:qca n.cs 6=some (qac n.kids):=rfl
@[simp]theorem pure_cs:qa3 n.cs=true:=by simp[Nd.cs,qa3,qau,qa2]
end
theorem qni{α:Type} {n:Nat} {t e:TypeId} {enc:α->AV} {ag:Bool} (hu:PG.underlying t=some (.slice e)) (hag:qgc PG e=some ag) (h:∀cs x,qcu PG n e cs->qgq ag cs=some x->∃a,x=enc a) {qs:List AV} (hs:qcu PG (n+1) t qs) :
  ∃L:List α,qs=[.fslc (PG.cellsOf e) (L.map enc)]:=by
 unfold qcu at hs;simp only[hu]at hs;obtain⟨es,rfl,_,hes⟩:=hs;have key:∀l:List AV,(∀x,x∈l->∃ag cs,qgc PG e=some ag/\qgq ag cs=some x/\qcu PG n e cs)->∃L:List α,l=L.map enc:=by
  intro l;induction l with
  |nil=>intro _;exact⟨[],rfl⟩
  |cons x r ih=>intro hx;obtain⟨ag',cs,h1,h2,h3⟩:=hx x (by simp);rw[hag,sj]at h1;subst h1;obtain⟨a,ha⟩:=h cs x h3 h2;obtain⟨L,hL⟩:=ih fun y hy=>hx y (by simp[hy]);exact⟨a::L,by rw[ha,hL];rfl⟩
 obtain⟨L,rfl⟩:=key es hes;exact⟨L,rfl⟩
theorem qko{n:Nat} {qs:List AV} (h:qcu PG (n+1) 9 qs):∃s:Str,qs=[.str s]:=by unfold qcu at h;simp only[Tryz.underlying9]at h;obtain⟨s,rfl,_⟩:=h;exact⟨s,rfl⟩
theorem za0{n:Nat} {qs:List AV} (h:qcu PG (n+1) 3 qs):∃i:Int,qs=[qau i]:=by unfold qcu at h;simp only[Tryz.underlying3]at h;obtain⟨s,rfl,_⟩:=h;exact⟨s,rfl⟩
theorem qv6:PG.cellsOf 105=2:=by kernel_rfl
theorem qxx{n:Nat} {qs:List AV} (h:qcu PG (n+2) 105 qs):∃a:At1,AV.agg qs=qb0 a:=by
 unfold qcu at h;simp only[Tryz.underlying105]at h;cases h with
 |cons f r x y h1 h2=>
  cases h2 with
  |cons f2 r2 x2 y2 h3 h4=>cases h4;obtain⟨s1,rfl⟩:=qko h1;obtain⟨s2,rfl⟩:=qko h3;exact⟨(s1,s2),rfl⟩
theorem qua{n:Nat} {qs:List AV} (h:qcu PG (n+3) 27 qs):∃L:List At1,qs=[qaf L]:=by obtain⟨L,rfl⟩:=qni (enc:=qb0) (ag:=true) Tryz.underlying27 agT105 (fun cs x h hw=>by simp only[qgq,sj]at hw;obtain⟨a,ha⟩:=qxx h;exact⟨a,by rw[<- hw,ha]⟩) h;exact⟨L,by rw[qv6];rfl⟩
section
variable {H:Type} {enc:TypeId × Value->H} {W:World} {hg:GlobsIn W}
