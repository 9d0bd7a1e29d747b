/- How large what is handed in may be: plain.Attrs, plain.Node, plain.Tree. No condition. -/
import Derived.Test.YtocnpnnplllneaaGreatDoorMF
import Derived.Test.YtocnpnnplllneaaGreatDoorChecked
import Derived.Shelf.Strings.Search3
import Derived.Lib.IndexMore
import Derived.Test.YtocnpnnplllneaaGreatDoorProg
namespace Go.Proofs.YtocnpnnplllneaaGreatDoor
noncomputable section
set_option linter.unusedSimpArgs false
set_option linter.unusedVariables false
open Go Go.RowKit Go.ChangeShapes Go.WideShapes Go.ChangeAt
set_option maxRecDepth 100000
theorem jt:type_of% @List.drop_eq_nil_of_le:=@List.drop_eq_nil_of_le
theorem jw:type_of% @List.take_succ_eq_append_getElem:=@List.take_succ_eq_append_getElem
theorem j8:type_of% @List.length_pos_iff:=@List.length_pos_iff
theorem jG:type_of% @Bool.eq_false_or_eq_true:=@Bool.eq_false_or_eq_true
theorem jQ:type_of% @Bool.true_and:=@Bool.true_and
theorem jU:type_of% @Int.toNat_natCast:=@Int.toNat_natCast
theorem jV:type_of% @Bool.not_eq_true':=@Bool.not_eq_true'
theorem yu:type_of% @List.set_append_right:=@List.set_append_right
theorem yx:type_of% @List.flatMap_cons:=@List.flatMap_cons
theorem yy:type_of% @List.replicate_succ:=@List.replicate_succ
theorem yz:type_of% @Prod.ext:=@Prod.ext
theorem y6:type_of% @List.length_singleton:=@List.length_singleton
theorem y7:type_of% @Bool.and_eq_false_iff:=@Bool.and_eq_false_iff
theorem y9:type_of% @Int.le_refl:=@Int.le_refl
theorem yJ:type_of% @List.countP_cons:=@List.countP_cons
theorem yR:type_of% @List.map_inj_right:=@List.map_inj_right
variable {T:List (Entry Tryz.prog)}
abbrev PG:=Tryz.prog
abbrev qIn(f:FuncId) (T:List (Entry PG)) (e:Entry PG):Prop:=qaa f T=some e.g
abbrev zH:Heap:=⟨0,[]⟩
abbrev uD:AV:=.undef
def keepTbl:List (List Nat):=[[],[],[],[0,1,2],[0,1,2,3],[0,1,2,3,4,5,7,17,18,19],[0,1,2,4],[0,1,2,3,4,6,7,8],[0,1,2,3,4,5],[0,1,2,3],[0,1,2,3],[0,1,2,3,4],[0,1,2,3],[0,1,2,3],[0,1,2,4,6,13,14,15],[0,1,2,3,4,5,6],[0],[0,1,2,3,8],[0,1,3,4],[0,1,2,3,4,5],[0,1,2],[0],[0,1,2,7,8,17,18,19,32],[0,1,2,3,4,5,6,12,13,14,15],[0,1,2],[0,1,2,4,5,6,7],[0,1,2,3,4,5,6,7,8],[0,1,2],[0,1,4,5,6],[0,1,2,4,5],[0,1,2,4],[0,1,2,3,6,7],[0,1,4,5,6,7],[0,1,2,6,7,8],[0,1,4,5],[0,1,2,4,5,6,7],[0,1,2,6,7],[0,1,2,3,7,8],[0,1,2,3,8,9],[0,1,2,3,4,5,6],[0,1,3,4,5,6,7],[0,1,2,3,4,5,8,10,11,12,13,14],[0,1,2,4,5,6,7],[0,1,2,3,4],[0,1,4,5],[0,1,2,4,5,6],[0,1,2,4],[0,2],[0,1,2,3,4,5,6,12,13,14,15],[0,2,4,8,9,10],[0,1,2,3,4,5,8,9,11,57,58,59],[0,2],[0,2,3,4,5],[0,1,2],[0,1,4,5,6],[0,1,4,5],[0,1,2,5,6,7],[0,1,2,3,5,6,8,9,10],[0,1,3,4,5,6,7,52],[0,1,2,3,6,7],[0,2,3,4,5,6],[0,1,3,4,5,7],[0,1,4],[0,1,2],[0,2,3,4,5,6,7,8],[0,1,3,4,5],[0,1,2,4,5,6,7,8,9],[0,1,4,5,6,7],[0,2,3],[0,1,4],[0,2,3],[0,1,4],[0,2,3,5,6,7,8],[0,2,3,4,5,6],[0,1,4,5],[0,1,4],[0,1,4,5],[0,2],[0,1,4],[0,2,3,4,5],[0,1,4],[0,1,4,5,6],[0,2,3],[0,2],[0,1,4],[0,1,2,4],[0,2],[0,1,3,4],[0,1,2,3,8],[0,1,2,3,5,8,9,10],[0,1,3,4,5],[0,1,4,5],[0,1,2,4,5],[0,1,2,3,4,9],[0,1,2,3,4],[0,2,3,4,19,36],[0,1,4,5,14,15,25,49,62,73],[0,2,3,4,5,6,7,8],[0,2],[0,1,4,5,6],[0,1,2],[0,1,2,3,4],[0,1,2,6,7],[0,1,4],[0,2],[0,2,3],[0,2,3],[0,1,4,5],[0,2,3,4],[0,2],[0,1,2,6],[0,2],[0,1,4,5],[0,2,3,4,5],[0,2,3,4,5,6,7,8,9,10,11,12],[0,2,3,4,18],[0],[0,1,4],[0,2,3],[0,1,4],[0,2],[0,1,4],[0,1,4,5,6,7,8],[0,2],[0,1,2,4],[0,1,2,3,6,14,15],[0,1,4,5],[0,1,2,6,7,8,9],[0,2],[0,1,3,4,5,6,7,21,22,23],[0,1,3,4],[0,1,4,5,6],[0,1,4],[0,1,2,5,6],[0,2,3,4],[0,1,4],[0,1,4],[0,1,2],[0,1,4],[0,2],[0,1,4],[0,1,2,6,7],[0,1,4],[0,1,4],[],[0,2,3,4,5,6,7,8,9,10,11,12],[0,1,4,5,6,7,8,9,10,11,12,13,14,15,16,175,176],[0,2,3,4,5,6,75],[0,1,4],[0,1,4],[0,2,3,4],[0,1,4],[0,2],[0,1,4,5,6],[0,1,2,4],[0,1,2,6,7],[],[0,1],[0,2,3],[0,1,4],[0,1,3],[0,2,3,4,5,8,9,10],[0,1,4],[0,1,4,5,7,8],[0,1,2,3],[0,1,2,4,5,6,8,10,11,12],[0,1,2,3],[0,1,2,6,7,10,32,41,42],[0,2],[0,1,4,5,7,8],[0,1,2,3],[0,1,2],[0,1,4,5],[0,1,2],[0,1,4],[0,1,2],[0,1,4],[0,2],[0,2],[],[0,2],[0,1,4,5,6,7,8,9,10,45,46],[0,1,4,5,6,7,8,9,10,11,12,13],[0,1,4,5,7,8],[0,1,4,5,6,7,8,9,10,11,14,15,47,48,49],[0,2],[0,1,4],[0,1,4],[0,1,4,5,6],[0,1,4,5,7,8],[0,1],[0,1,4,5,7,8],[0,1,4],[0,1,2],[0,2],[0,1,4,5,6,7,8,9,10],[0,2,3,4,5,6],[0,2,3],[],[0,1,3],[0,2,3,4,5,6,7,8],[0,2],[],[],[],[],[],[],[],[],[],[],[],[],[],[],[],[],[],[],[],[],[],[]]
@[simp]theorem szT3:qcg PG 3=some 1:=rfl
@[simp]theorem agT3:qi8 PG 3=some false:=rfl
@[simp]theorem byT3:qco PG 3=some 8:=rfl
@[simp]theorem alT3(H:Heap):alV PG H 3=some (.ptr H.n 0,H.new (.cells [.int .i64 0])):=rfl
@[simp]theorem zeT3:qc1 PG 3=some (.int .i64 0):=rfl
attribute [simp] Tryz.underlying3
@[simp 500]theorem rvF3(H:Heap) (cs:List AV) (o:Nat):qb3 PG H 3 (.fptr cs o)=qcy cs o:=rfl
@[simp 500]theorem rvP3(H:Heap) (b o:Nat):qb3 PG H 3 (.ptr b o)=(H.get b).bind fun k=>k.rd.bind fun cs=>qcy cs o:=rfl
@[simp]theorem szT4:qcg PG 4=some 1:=rfl
@[simp]theorem agT4:qi8 PG 4=some false:=rfl
@[simp]theorem byT4:qco PG 4=some 1:=rfl
@[simp]theorem alT4(H:Heap):alV PG H 4=some (.ptr H.n 0,H.new (.cells [.bool false])):=rfl
@[simp]theorem zeT4:qc1 PG 4=some (.bool false):=rfl
attribute [simp] Tryz.underlying4
@[simp 500]theorem rvF4(H:Heap) (cs:List AV) (o:Nat):qb3 PG H 4 (.fptr cs o)=qcy cs o:=rfl
@[simp 500]theorem rvP4(H:Heap) (b o:Nat):qb3 PG H 4 (.ptr b o)=(H.get b).bind fun k=>k.rd.bind fun cs=>qcy cs o:=rfl
@[simp]theorem beq4(a b:Bool):qdy PG .eql 4 (.bool a) (.bool b)=some (.bool (a == b)):=rfl
@[simp]theorem bne4(a b:Bool):qdy PG .neq 4 (.bool a) (.bool b)=some (.bool !(a == b)):=rfl
@[simp]theorem szT5:qcg PG 5=some 1:=rfl
@[simp]theorem agT5:qi8 PG 5=some false:=rfl
@[simp]theorem byT5:qco PG 5=some 1:=rfl
@[simp]theorem alT5(H:Heap):alV PG H 5=some (.ptr H.n 0,H.new (.cells [.int .u8 0])):=rfl
@[simp]theorem zeT5:qc1 PG 5=some (.int .u8 0):=rfl
attribute [simp] Tryz.underlying5
@[simp 500]theorem rvF5(H:Heap) (cs:List AV) (o:Nat):qb3 PG H 5 (.fptr cs o)=qcy cs o:=rfl
@[simp 500]theorem rvP5(H:Heap) (b o:Nat):qb3 PG H 5 (.ptr b o)=(H.get b).bind fun k=>k.rd.bind fun cs=>qcy cs o:=rfl
@[simp]theorem szT9:qcg PG 9=some 1:=rfl
@[simp]theorem agT9:qi8 PG 9=some false:=rfl
@[simp]theorem byT9:qco PG 9=some 16:=rfl
@[simp]theorem alT9(H:Heap):alV PG H 9=some (.ptr H.n 0,H.new (.cells [.str []])):=rfl
@[simp]theorem zeT9:qc1 PG 9=some (.str []):=rfl
attribute [simp] Tryz.underlying9
@[simp 500]theorem rvF9(H:Heap) (cs:List AV) (o:Nat):qb3 PG H 9 (.fptr cs o)=qcy cs o:=rfl
@[simp 500]theorem rvP9(H:Heap) (b o:Nat):qb3 PG H 9 (.ptr b o)=(H.get b).bind fun k=>k.rd.bind fun cs=>qcy cs o:=rfl
@[simp]theorem szT22:qcg PG 22=some 1:=rfl
@[simp]theorem agT22:qi8 PG 22=some false:=rfl
@[simp]theorem byT22:qco PG 22=some 24:=rfl
@[simp]theorem alT22(H:Heap):alV PG H 22=some (.ptr H.n 0,H.new (.cells [.nilS])):=rfl
@[simp]theorem zeT22:qc1 PG 22=some (.nilS):=rfl
attribute [simp] Tryz.underlying22
@[simp 500]theorem rvF22(H:Heap) (cs:List AV) (o:Nat):qb3 PG H 22 (.fptr cs o)=qcy cs o:=rfl
@[simp 500]theorem rvP22(H:Heap) (b o:Nat):qb3 PG H 22 (.ptr b o)=(H.get b).bind fun k=>k.rd.bind fun cs=>qcy cs o:=rfl
@[simp]theorem slz22(sz:Nat) (e:AV) (r:List AV):qdy PG .eql 22 (.fslc sz (e::r)) .nilS=some (.bool false):=rfl
@[simp]theorem sln22(sz:Nat) (e:AV) (r:List AV):qdy PG .neq 22 (.fslc sz (e::r)) .nilS=some (.bool true):=rfl
@[simp]theorem slze22:qdy PG .eql 22 .eslc .nilS=some (.bool false):=rfl
@[simp]theorem slzz22:qdy PG .eql 22 .nilS .nilS=some (.bool true):=rfl
@[simp]theorem szT24:qcg PG 24=some 1:=rfl
@[simp]theorem agT24:qi8 PG 24=some true:=rfl
@[simp]theorem byT24:qco PG 24=some 24:=rfl
@[simp]theorem alT24(H:Heap):alV PG H 24=some (.ptr H.n 0,H.new (.cells [.nilS])):=rfl
@[simp]theorem zeT24:qc1 PG 24=some (.agg [.nilS]):=rfl
attribute [simp] Tryz.underlying24
@[simp 500]theorem rvF24(H:Heap) (cs:List AV) (o:Nat):qb3 PG H 24 (.fptr cs o)=(qek o 1 cs).bind fun cs=>some (.agg cs):=rfl
@[simp 500]theorem rvP24(H:Heap) (b o:Nat):qb3 PG H 24 (.ptr b o)=(readCells H b o 1).bind fun cs=>some (.agg cs):=rfl
@[simp]theorem fa24_0(x:AV):qc2 PG 24 x 0=(match x with | .ptr b o=>some (.ptr b (o+0)) | .fptr cs o=>some (.fptr cs (o+0))|_=>none):=rfl
@[simp]theorem fd24_0(cs:List AV):qe1 PG 24 (.agg cs) 0=qcy cs 0:=rfl
@[simp]theorem szT30:qcg PG 30=some 1:=rfl
@[simp]theorem agT30:qi8 PG 30=some false:=rfl
@[simp]theorem byT30:qco PG 30=some 24:=rfl
@[simp]theorem alT30(H:Heap):alV PG H 30=some (.ptr H.n 0,H.new (.cells [.nilS])):=rfl
@[simp]theorem zeT30:qc1 PG 30=some (.nilS):=rfl
attribute [simp] Tryz.underlying30
@[simp 500]theorem rvF30(H:Heap) (cs:List AV) (o:Nat):qb3 PG H 30 (.fptr cs o)=qcy cs o:=rfl
@[simp 500]theorem rvP30(H:Heap) (b o:Nat):qb3 PG H 30 (.ptr b o)=(H.get b).bind fun k=>k.rd.bind fun cs=>qcy cs o:=rfl
@[simp]theorem slz30(sz:Nat) (e:AV) (r:List AV):qdy PG .eql 30 (.fslc sz (e::r)) .nilS=some (.bool false):=rfl
@[simp]theorem sln30(sz:Nat) (e:AV) (r:List AV):qdy PG .neq 30 (.fslc sz (e::r)) .nilS=some (.bool true):=rfl
@[simp]theorem slze30:qdy PG .eql 30 .eslc .nilS=some (.bool false):=rfl
@[simp]theorem slzz30:qdy PG .eql 30 .nilS .nilS=some (.bool true):=rfl
@[simp]theorem szT32:qcg PG 32=some 1:=rfl
@[simp]theorem agT32:qi8 PG 32=some false:=rfl
@[simp]theorem byT32:qco PG 32=some 24:=rfl
@[simp]theorem alT32(H:Heap):alV PG H 32=some (.ptr H.n 0,H.new (.cells [.nilS])):=rfl
@[simp]theorem zeT32:qc1 PG 32=some (.nilS):=rfl
attribute [simp] Tryz.underlying32
@[simp 500]theorem rvF32(H:Heap) (cs:List AV) (o:Nat):qb3 PG H 32 (.fptr cs o)=qcy cs o:=rfl
@[simp 500]theorem rvP32(H:Heap) (b o:Nat):qb3 PG H 32 (.ptr b o)=(H.get b).bind fun k=>k.rd.bind fun cs=>qcy cs o:=rfl
@[simp]theorem slz32(sz:Nat) (e:AV) (r:List AV):qdy PG .eql 32 (.fslc sz (e::r)) .nilS=some (.bool false):=rfl
@[simp]theorem sln32(sz:Nat) (e:AV) (r:List AV):qdy PG .neq 32 (.fslc sz (e::r)) .nilS=some (.bool true):=rfl
@[simp]theorem slze32:qdy PG .eql 32 .eslc .nilS=some (.bool false):=rfl
@[simp]theorem slzz32:qdy PG .eql 32 .nilS .nilS=some (.bool true):=rfl
@[simp]theorem qvr:qcg PG 34=some 7:=rfl
@[simp]theorem agT34:qi8 PG 34=some true:=rfl
@[simp]theorem qzs:qco PG 34=some 104:=rfl
@[simp]theorem alT34(H:Heap):alV PG H 34=some (.ptr H.n 0,H.new (.cells [.int .i64 0,.int .i64 0,.str [],.nilS,.str [],.int .i64 0,.nilS])):=rfl
@[simp]theorem zei:qc1 PG 34=some (.agg [.int .i64 0,.int .i64 0,.str [],.nilS,.str [],.int .i64 0,.nilS]):=rfl
attribute [simp] Tryz.underlying34
@[simp 500]theorem rvF34(H:Heap) (cs:List AV) (o:Nat):qb3 PG H 34 (.fptr cs o)=(qek o 7 cs).bind fun cs=>some (.agg cs):=rfl
@[simp 500]theorem rvP34(H:Heap) (b o:Nat):qb3 PG H 34 (.ptr b o)=(readCells H b o 7).bind fun cs=>some (.agg cs):=rfl
@[simp]theorem fa34_0(x:AV):qc2 PG 34 x 0=(match x with | .ptr b o=>some (.ptr b (o+0)) | .fptr cs o=>some (.fptr cs (o+0))|_=>none):=rfl
@[simp]theorem fd34_0(cs:List AV):qe1 PG 34 (.agg cs) 0=qcy cs 0:=rfl
@[simp]theorem fa34_1(x:AV):qc2 PG 34 x 1=(match x with | .ptr b o=>some (.ptr b (o+1)) | .fptr cs o=>some (.fptr cs (o+1))|_=>none):=rfl
@[simp]theorem fd34_1(cs:List AV):qe1 PG 34 (.agg cs) 1=qcy cs 1:=rfl
@[simp]theorem fa34_2(x:AV):qc2 PG 34 x 2=(match x with | .ptr b o=>some (.ptr b (o+2)) | .fptr cs o=>some (.fptr cs (o+2))|_=>none):=rfl
@[simp]theorem fd34_2(cs:List AV):qe1 PG 34 (.agg cs) 2=qcy cs 2:=rfl
@[simp]theorem fa34_3(x:AV):qc2 PG 34 x 3=(match x with | .ptr b o=>some (.ptr b (o+3)) | .fptr cs o=>some (.fptr cs (o+3))|_=>none):=rfl
@[simp]theorem fd34_3(cs:List AV):qe1 PG 34 (.agg cs) 3=qcy cs 3:=rfl
@[simp]theorem fa34_4(x:AV):qc2 PG 34 x 4=(match x with | .ptr b o=>some (.ptr b (o+4)) | .fptr cs o=>some (.fptr cs (o+4))|_=>none):=rfl
@[simp]theorem fd34_4(cs:List AV):qe1 PG 34 (.agg cs) 4=qcy cs 4:=rfl
@[simp]theorem fa34_5(x:AV):qc2 PG 34 x 5=(match x with | .ptr b o=>some (.ptr b (o+5)) | .fptr cs o=>some (.fptr cs (o+5))|_=>none):=rfl
@[simp]theorem fd34_5(cs:List AV):qe1 PG 34 (.agg cs) 5=qcy cs 5:=rfl
@[simp]theorem fa34_6(x:AV):qc2 PG 34 x 6=(match x with | .ptr b o=>some (.ptr b (o+6)) | .fptr cs o=>some (.fptr cs (o+6))|_=>none):=rfl
@[simp]theorem fd34_6(cs:List AV):qe1 PG 34 (.agg cs) 6=qcy cs 6:=rfl
@[simp]theorem szT36:qcg PG 36=some 1:=rfl
@[simp]theorem agT36:qi8 PG 36=some false:=rfl
@[simp]theorem byT36:qco PG 36=some 24:=rfl
@[simp]theorem alT36(H:Heap):alV PG H 36=some (.ptr H.n 0,H.new (.cells [.nilS])):=rfl
@[simp]theorem zeT36:qc1 PG 36=some (.nilS):=rfl
attribute [simp] Tryz.underlying36
@[simp 500]theorem rvF36(H:Heap) (cs:List AV) (o:Nat):qb3 PG H 36 (.fptr cs o)=qcy cs o:=rfl
@[simp 500]theorem rvP36(H:Heap) (b o:Nat):qb3 PG H 36 (.ptr b o)=(H.get b).bind fun k=>k.rd.bind fun cs=>qcy cs o:=rfl
@[simp]theorem slz36(sz:Nat) (e:AV) (r:List AV):qdy PG .eql 36 (.fslc sz (e::r)) .nilS=some (.bool false):=rfl
@[simp]theorem sln36(sz:Nat) (e:AV) (r:List AV):qdy PG .neq 36 (.fslc sz (e::r)) .nilS=some (.bool true):=rfl
@[simp]theorem slze36:qdy PG .eql 36 .eslc .nilS=some (.bool false):=rfl
@[simp]theorem slzz36:qdy PG .eql 36 .nilS .nilS=some (.bool true):=rfl
@[simp]theorem szT45:qcg PG 45=some 1:=rfl
@[simp]theorem agT45:qi8 PG 45=some false:=rfl
@[simp]theorem byT45:qco PG 45=some 24:=rfl
@[simp]theorem alT45(H:Heap):alV PG H 45=some (.ptr H.n 0,H.new (.cells [.nilS])):=rfl
@[simp]theorem zeT45:qc1 PG 45=some (.nilS):=rfl
attribute [simp] Tryz.underlying45
@[simp 500]theorem rvF45(H:Heap) (cs:List AV) (o:Nat):qb3 PG H 45 (.fptr cs o)=qcy cs o:=rfl
@[simp 500]theorem rvP45(H:Heap) (b o:Nat):qb3 PG H 45 (.ptr b o)=(H.get b).bind fun k=>k.rd.bind fun cs=>qcy cs o:=rfl
@[simp]theorem slz45(sz:Nat) (e:AV) (r:List AV):qdy PG .eql 45 (.fslc sz (e::r)) .nilS=some (.bool false):=rfl
@[simp]theorem sln45(sz:Nat) (e:AV) (r:List AV):qdy PG .neq 45 (.fslc sz (e::r)) .nilS=some (.bool true):=rfl
@[simp]theorem slze45:qdy PG .eql 45 .eslc .nilS=some (.bool false):=rfl
@[simp]theorem slzz45:qdy PG .eql 45 .nilS .nilS=some (.bool true):=rfl
@[simp]theorem szT71:qcg PG 71=some 2:=rfl
@[simp]theorem agT71:qi8 PG 71=some true:=rfl
@[simp]theorem zjb:qco PG 71=some 32:=rfl
@[simp]theorem alT71(H:Heap):alV PG H 71=some (.ptr H.n 0,H.new (.cells [.str [],.str []])):=rfl
@[simp]theorem zeT71:qc1 PG 71=some (.agg [.str [],.str []]):=rfl
attribute [simp] Tryz.underlying71
@[simp 500]theorem rvF71(H:Heap) (cs:List AV) (o:Nat):qb3 PG H 71 (.fptr cs o)=(qek o 2 cs).bind fun cs=>some (.agg cs):=rfl
@[simp 500]theorem rvP71(H:Heap) (b o:Nat):qb3 PG H 71 (.ptr b o)=(readCells H b o 2).bind fun cs=>some (.agg cs):=rfl
@[simp]theorem fa71_0(x:AV):qc2 PG 71 x 0=(match x with | .ptr b o=>some (.ptr b (o+0)) | .fptr cs o=>some (.fptr cs (o+0))|_=>none):=rfl
@[simp]theorem fd71_0(cs:List AV):qe1 PG 71 (.agg cs) 0=qcy cs 0:=rfl
@[simp]theorem fa71_1(x:AV):qc2 PG 71 x 1=(match x with | .ptr b o=>some (.ptr b (o+1)) | .fptr cs o=>some (.fptr cs (o+1))|_=>none):=rfl
@[simp]theorem fd71_1(cs:List AV):qe1 PG 71 (.agg cs) 1=qcy cs 1:=rfl
attribute [simp] opndO_s
def ctx(T:List (Entry PG)):Ctx:=mkC PG (fun f=>(qcy keepTbl f).getD []) T
@[simp]theorem mkC_P(T:List (Entry PG)):(ctx T).P=PG:=rfl
theorem mixed:PG.follows .mixedOrders=true:=by decide +kernel
abbrev CA(T:List (Entry PG)):=CallAt (ctx T)
theorem qbc:CallOK (ctx T) (qb7 (ctx T)):=mkC_call _ _ T mixed
theorem qbo(l:List (Fact (ctx T))):CallOK (ctx T) (qcu l (qb7 (ctx T))):=qpx qbc l
def ldR(T:List (Entry PG)) (n:Nat) (r:Option Nat):Code->St->(Out->St->Prop)->Prop
 |.seq c d,s,Q=>ldR T n r c s (qan (fun s=>WpSr (ctx T) n r d s Q) Q)
 |.region _ ops false,s,Q=>∃s',qff (ctx T) (qb7 (ctx T)) ops ops.toList { s with ts:=[] }=some s'/\Q .normal s'
 |c,s,Q=>WpSr (ctx T) n r c s Q
theorem qR{n:Nat} {r:Option Nat}:∀{c:Code} {s:St} {Q:Out->St->Prop},ldR T n r c s Q->WpSr (ctx T) n r c s Q:=fun {c}=>by
 induction c with
 |seq c d h1 _=>exact fun h=>qam (h1 h)
 |region id ops b=>cases b with
  |false=>exact fun h=>qai qbc h
  |true=>exact fun h=>h
 |_=>exact fun h=>h
@[simp]theorem ldR_seq{T:List (Entry PG)} {n:Nat} {r:Option Nat} {c d:Code} {s:St} {Q:Out->St->Prop}:ldR T n r (.seq c d) s Q=ldR T n r c s (qan (fun s=>WpSr (ctx T) n r d s Q) Q):=rfl
@[simp]theorem ldR_reg{T:List (Entry PG)} {n:Nat} {r:Option Nat} {id:Nat} {ops:Array Oper} {s:St} {Q:Out->St->Prop}:ldR T n r (.region id ops false) s Q=∃s',qff (ctx T) (qb7 (ctx T)) ops ops.toList { s with ts:=[] }=some s'/\Q .normal s':=rfl
abbrev Str:=List UInt8
@[simp]theorem lenStr(H:Heap) (s:Str):qer PG H 9 (.str s)=some s.length:=by simp[qer]
theorem qjj{s:Str} {i:Nat} (h:i < s.length):qi1 PG 9 (.str s) (.int .i64 (i:Int))=some (.int .u8 (s[i]'h).toNat):=by simp[qi1,qbz h,qf4 h]
theorem slStr{H:Heap} {s:Str} {i:Nat} (h:i<=s.length):qee PG H 9 (.str s) (some (.int .i64 (i:Int))) none none=some (.str (s.drop i)):=by simp[qee,zdn,qdd,qbz (Nat.lt_succ_of_le h)]
theorem slStrOf{H:Heap} {s:Str} {i j:Nat} (hj:j<=s.length) (hi:i<=j):qee PG H 9 (.str s) (some (.int .i64 (i:Int))) (some (.int .i64 (j:Int))) none=some (.str ((s.take j).drop i)):=by simp[qee,zdn,qdd,qbz (Nat.lt_succ_of_le hj),qbz (Nat.lt_succ_of_le hi)]
theorem sl1{s:Str} {i:Nat} (h:i < s.length):(s.take (i+1)).drop i=[s[i]]:=by rw[jw h,y3 (by simp;omega),List.drop_of_length_le (by simp;omega),jq]
theorem slStr1{H:Heap} {s:Str} {i:Nat} (h:i < s.length):qee PG H 9 (.str s) (some (.int .i64 (i:Int))) (some (.int .i64 ((i:Int)+1))) none=some (.str [s[i]]):=by have:=slStrOf (H:=H) (s:=s) (i:=i) (j:=i+1) (by omega) (by omega);rw[sl1 h]at this;simpa using this
theorem catStr{x y:Str} (h:x.length+y.length<=1000000000000):qdy PG .add 9 (.str x) (.str y)=some (.str (x++y)):=by simp[qdy,qvv];omega
@[simp]theorem eqStr(x y:Str):qdy PG .eql 9 (.str x) (.str y)=some (.bool (decide (x=y))):=by simp[qdy,qvv,qkc]
@[simp]theorem neStr(x y:Str):qdy PG .neq 9 (.str x) (.str y)=some (.bool !(decide (x=y))):=by simp[qdy,qvv,qkc]
abbrev qcp(L:List Str):AV:=.fslc 1 (L.map .str)
theorem qnm(L:List Str):Elems 1 (L.map AV.str):=.map (sz:=1) (f:=AV.str) (by decide) (fun x=>⟨rfl,rfl,fun _=>rfl,fun h=>absurd rfl h⟩) L
theorem atS{L:List Str} {i:Nat} (h:i < L.length):qav PG 36 (qcp L) (.int .i64 (i:Int))=some (.fptr [.str L[i]] 0):=by simp[qav,qcp,qbz h,qi2 h,AV.cells]
theorem lenS{H:Heap} {L:List Str}:qer PG H 36 (qcp L)=some L.length:=by simp[qer,qcp]
theorem qz4(x y:Str) (h:[AV.str x]=[AV.str y]):x=y:=by simp at h;exact h
theorem quh(x y:Str × Str) (h:[AV.str x.1,AV.str x.2]=[AV.str y.1,AV.str y.2]):x=y:=by simp at h;exact yz h.1 h.2
theorem zbr{L M:List Str} (h:qcp L=qcp M):L=M:=by simp only[qcp,AV.fslc.injEq,true_and]at h;exact yR (fun _ _ h=>by simpa using h) |>.1 h
theorem inj_u8(x y:UInt8) (h:[AV.int .u8 (x.toNat:Int)]=[AV.int .u8 (y.toNat:Int)]):x=y:=by simp only[j4,AV.int.injEq,true_and,and_true]at h;exact yn.1 (by omega)
def sp(c:UInt8):Bool:=decide ((c.toNat:Int)=9) || (decide ((c.toNat:Int)=10) || (decide ((c.toNat:Int)=12) || (decide ((c.toNat:Int)=13) || decide ((c.toNat:Int)=32))))
theorem c111(c:UInt8):CA T 111 [.int .u8 c.toNat] zH (.bool (sp c)) zH:=by
 refine qa1 (s0:=⟨[0,2],[.int .u8 c.toNat,uD],[],21,⟨0,[[]]⟩⟩) Tryz.func111 rfl rfl rfl ?_;apply qR;simp[zS];by_cases h1:(c.toNat:Int)=9<;>by_cases h2:(c.toNat:Int)=10<;>by_cases h3:(c.toNat:Int)=12<;>by_cases h4:(c.toNat:Int)=13<;>by_cases h5:(c.toNat:Int)=32;all_goals first
  |(exfalso;omega)
  | (repeat apply wq
     apply qR;simp[zS,h1,h2,h3,h4,h5];apply qa3;simp[zQ,Tryz.f111];exact qa2 rfl (by simp[sp,h1,h2,h3,h4,h5]))
def e111:Entry PG:=mkE 111 [[]] (fun x:UInt8=>[.int .u8 x.toNat]) (fun _=>True) (fun x=>.bool (sp x)) fun x _=>c111 (T:=[]) x
theorem k111(hT:qIn 111 T e111) (c:UInt8) (H:Heap):qb7 (ctx T) (.fn 111) [.int .u8 c.toNat] H=some (.bool (sp c),H):=
 qac hT inj_u8 c trivial rfl (by simp)
def qhq(st:List Str × Str) (c:UInt8):List Str × Str:=if sp c=true then (if st.2=[] then st.1 else st.1++[st.2],[]) else (st.1,st.2++[c])
def wst(s:Str):List Str × Str:=s.foldl qhq ([],[])
def wfin(st:List Str × Str):List Str:=if st.2=[] then st.1 else st.1++[st.2]
def qbv(s:Str):List Str:=wfin (wst s)
theorem qle{s:Str} {i:Nat} (h:i < s.length):wst (s.take (i+1))=qhq (wst (s.take i)) s[i]:=by rw[jw h];simp only[wst,List.foldl_append,yB,List.foldl_nil]
theorem zek(s:Str):(wst s).2.length<=s.length/\(wst s).1.length<=s.length:=by
 have key:∀(s:Str) (st:List Str × Str),(s.foldl qhq st).2.length<=st.2.length+s.length/\(s.foldl qhq st).1.length<=st.1.length+s.length:=by
  intro s;induction s with
  |nil=>intro st;simp
  |cons c r ih=>
   intro st;have:=ih (qhq st c);simp only[yB,jx];have h1:(qhq st c).2.length<=st.2.length+1/\(qhq st c).1.length<=st.1.length+1:=by
    unfold qhq;split
    ·split<;>simp
    ·simp
   omega
 have:=key s ([],[]);simp only[wst];simp at this;exact this
theorem c113(hS:qIn 111 T e111) (s:Str) (hl:s.length<=1000000):CA T 113 [.str s] zH (qdo 0 1 ((qbv s).map .str)) ⟨1,[qe4 0 ((qbv s).map .str)]⟩:=by
 refine qa1 (s0:=⟨[0,2,3,4,5],[.str s,uD,uD,uD,uD],[],37,⟨0,[[]]⟩⟩) Tryz.func113 rfl rfl rfl ?_;apply qR;simp[zS];apply qR;simp[zS];apply qR;simp[zS];apply qR;simp[zS];refine qa7 (qb1 (fun i:Nat=>(⟨[0,2,3,4,5],[.str s,uD,qdo 0 1 ((wst (s.take i)).1.map .str),.str (wst (s.take i)).2,.int .i64 i],[],37,⟨1,[qe4 0 ((wst (s.take i)).1.map .str)]⟩⟩ : St))
  (fun i=>i<=s.length) (fun i=>s.length - i) [] [] 0 (jh _)
  ⟨rfl,rfl,rfl,by simp[qaz,qat,qab,wst,qdo],.keep0 (by simp[wst,qe4])⟩ ?_)
 rintro i hi B hB;have hlen:=zek (s.take i);simp only[yh]at hlen;have same:∀(L:List Str),FitH 0 [(0,0)] [] ⟨1,[qe4 0 (L.map AV.str)]⟩ ⟨1,[qe4 0 (L.map AV.str)]⟩:=fun L=>by
  refine .same (by simp) (by simp) (by simp) (by simp) ?_ ?_
  ·cases L.map AV.str<;>simp[Heap.ents,qe4]
  ·cases he:L.map AV.str with
   |nil=>intro e he;simp[Heap.ents,qe4]at he
   |cons x r=>intro e hx;simp[Heap.ents,qe4]at hx;subst hx;exact⟨by simp,by simp[qe4,zG],qaf (by rw[<- he];exact(qnm _).pure)⟩
 apply qR;simp[zS];refine qay rfl (fun h=>?_) fun h=>?_
 ·simp at h;apply qa4;simp;repeat apply wq
  apply qa7;have hstep:=qle h;cases hsp:sp s[i]with
  |false=>have hn:wst (s.take (i+1))=((wst (s.take i)).1,(wst (s.take i)).2++[s[i]]):=(by rw[hstep];simp[qhq,hsp]);apply qR;simp[zS,qjj h,k111 hS,hsp];apply qaj rfl;apply qR;simp[zS,qbd (show i<=1000000000 by omega),slStr1 h,catStr (show (wst (s.take i)).2.length+[s[i]].length<=1000000000000 by simp;omega)];apply qau;simp;apply qR;simp[zS,qbd (show i<=1000000000 by omega)];exact hB _ (i+1) (by omega) (by omega) ⟨[(0,0)],[],rfl,rfl,rfl,by rw[hn];simp[qaz,qat,qb2,qh5,qab],by rw[hn];exact same _⟩
  |true=>
   apply qR;simp[zS,qjj h,k111 hS,hsp];apply qag rfl;apply qa4;simp;by_cases hc:(wst (s.take i)).2=[]
   ·have hn:wst (s.take (i+1))=((wst (s.take i)).1,[]):=(by rw[hstep];simp[qhq,hsp,hc]);apply qR;simp[zS,hc];apply qag rfl;apply qa4;simp;apply qR;simp[zS];apply qR;simp[zS,qbd (show i<=1000000000 by omega)];exact hB _ (i+1) (by omega) (by omega) ⟨[(0,0)],[],rfl,rfl,rfl,by rw[hn];simp[qaz,qat,qb2,qh5,qab],by rw[hn];exact same _⟩
   ·have hn:wst (s.take (i+1))=((wst (s.take i)).1++[(wst (s.take i)).2],[]):=(by rw[hstep];simp[qhq,hsp,hc]);have happ:=qmw (P:=PG) (elem:=9) (b:=0) (t:=1) (m:=2) (es:=(wst (s.take i)).1.map .str) (cs:=[.str (wst (s.take i)).2]) (g:=[]) (fs:=[]) szT9 byT9 zeT9 rfl (by omega) (by omega) rfl rfl (qnm _) (by simp;omega) (by omega) (by simp) (by simp);rw[jg]at happ;apply qR;simp[zS,hc];apply qaj rfl;apply qR;simp[zS,happ];apply qR;simp[zS];apply qR;simp[zS,qbd (show i<=1000000000 by omega)];have hne:(wst (s.take (i+1))).1.map AV.str≠[]:=(by rw[hn];simp);refine hB _ (i+1) (by omega) (by omega) ⟨[(2,0)],[],rfl,rfl,rfl,?_,.grown (qnm _) hne ?_⟩
    ·rw[qch hne,hn];simp[qaz,qat,qb2,qab]
    ·rw[hn,j3,qbq];simp[zG,qa5]
 ·simp at h;apply qau;simp;have hs:s.take i=s:=jz h;rw[hs]at hlen ⊢;by_cases hc:(wst s).2=[]
  ·have hv:qbv s=(wst s).1:=(by simp[qbv,wfin,hc]);apply qR;simp[zS,hc];apply qag rfl;apply qa4;simp;apply qR;simp[zS];apply qa3;simp[zQ,Tryz.f113];rw[hv];exact⟨[(0,0)],[],qh5 (by simp[qb2]),same _⟩
  ·have hv:qbv s=(wst s).1++[(wst s).2]:=(by simp[qbv,wfin,hc]);have happ:=qmw (P:=PG) (elem:=9) (b:=0) (t:=1) (m:=2) (es:=(wst s).1.map .str) (cs:=[.str (wst s).2]) (g:=[]) (fs:=[]) szT9 byT9 zeT9 rfl (by omega) (by omega) rfl rfl (qnm _) (by simp;omega) (by omega) (by simp) (by simp);rw[jg]at happ;apply qR;simp[zS,hc];apply qaj rfl;apply qR;simp[zS,happ];apply qR;simp[zS];apply qa3;simp[zQ,Tryz.f113];have hne:(qbv s).map AV.str≠[]:=(by rw[hv];simp);refine⟨[(2,0)],[],?_,.grown (qnm _) hne ?_⟩
   ·rw[qch hne,hv];simp[qaz,qat,qb2,qab]
   ·rw[hv,j3,qbq];simp[zG,qa5]
theorem c112(L:List Str) (x:Str) (hl:L.length<=1000000):CA T 112 [qcp L,.str x] zH (.bool (decide (x∈L))) zH:=by
 refine qa1 (s0:=⟨[0,1,4,5],[qcp L,.str x,uD,uD],[],18,⟨0,[[]]⟩⟩) Tryz.func112 rfl rfl rfl ?_;apply qR;simp[zS];apply qR;simp[zS];refine qa7 (qb1 (fun i:Nat=>(⟨[0,1,4,5],[qcp L,.str x,uD,.int .i64 i],[],18,⟨0,[[]]⟩⟩ : St))
  (fun i=>i<=L.length/\decide (x∈L)=decide (x∈L.drop i)) (fun i=>L.length - i) [] [] 0 ⟨jh _,by simp⟩ ⟨rfl,rfl,rfl,by simp[qaz,qat,qab,qa9,qcp],FitH.nothing⟩ ?_)
 rintro i ⟨hi,hx⟩ B hB;apply qR;simp[zS,lenS];refine qay rfl (fun h=>?_) fun h=>?_
 ·simp at h;apply qa4;simp;repeat apply wq
  apply qa7;apply qR;simp[zS,atS h];refine qay rfl (fun h2=>?_) fun h2=>?_
  ·simp at h2;apply qR;simp[zS];apply qa3;simp[zQ,Tryz.f112];exact qa2 rfl (by rw[hx,List.drop_eq_getElem_cons h];simp[h2])
  ·simp at h2;apply qa4;simp;apply qR;simp[zS,qbd (show i<=1000000000 by omega)];exact hB _ (i+1) (by omega) ⟨by omega,by rw[hx,List.drop_eq_getElem_cons h];simp only[ja,show ¬ x=L[i] from fun e=>h2 e.symm,false_or]⟩ ⟨[],[],⟨rfl,rfl,rfl,by simp[qaz,qat,qab,qa9,qcp],FitH.nothing⟩⟩
 ·simp at h;apply qau;simp;apply qR;simp[zS];apply qa3;simp[zQ,Tryz.f112];exact qa2 rfl (by rw[hx,jt h];simp)
def e113:Entry PG:=mkE 113 [[]] (fun x:Str=>[.str x]) (fun x=>x.length<=1000000) (fun x=>qcp (qbv x)) fun x h=>(c113 (T:=[e111]) rfl x h).froze (qnm _)
theorem k113(hT:qIn 113 T e113) {s:Str} (hl:s.length<=1000000) (H:Heap):qb7 (ctx T) (.fn 113) [.str s] H=some (qcp (qbv s),H):=
 qd2 hT qz4 s hl (by simp[qa9,qab]) (by simp) H
def e112:Entry PG:=mkE 112 [[1],[]] (fun x:List Str × Str=>[qcp x.1,.str x.2]) (fun x=>x.1.length<=1000000) (fun x=>.bool (decide (x.2∈x.1))) fun x h=>c112 (T:=[]) x.1 x.2 h
theorem k112(hT:qIn 112 T e112) {L:List Str} (x:Str) (hl:L.length<=1000000) (H:Heap):qb7 (ctx T) (.fn 112) [qcp L,.str x] H=some (.bool (decide (x∈L)),H):=
 qac hT (fun x y h=>by simp at h;exact yz (zbr (by simpa[qcp]using h.1)) h.2) (L,x) hl rfl (by simp)
def inW(w x:Str):Bool:=decide (x∈qbv w)
theorem qsh(s:Str):(qbv s).length<=s.length+1:=by have:=zek s;unfold qbv wfin;split<;>simp<;>omega
theorem c71(h1:qIn 113 T e113) (h2:qIn 112 T e112) (w x:Str) (hl:w.length<=900000):CA T 71 [.str w,.str x] zH (.bool (inW w x)) zH:=by refine qa1 (s0:=⟨[0,1,4],[.str w,.str x,uD],[],9,⟨0,[[]]⟩⟩) Tryz.func71 rfl rfl rfl ?_;apply qR;simp[zS];have hs:=qsh w;apply qR;simp[zS,k113 h1 (show w.length<=1000000 by omega),k112 h2 x (show (qbv w).length<=1000000 by omega)];apply qa3;simp[zQ,Tryz.f71];exact qa2 rfl (by simp[inW])
def e71:Entry PG:=mkE 71 [[],[]] (fun x:Str × Str=>[.str x.1,.str x.2]) (fun x=>x.1.length<=900000) (fun x=>.bool (inW x.1 x.2)) fun x h=>c71 (T:=[e113,e112]) rfl rfl x.1 x.2 h
theorem k71(hT:qIn 71 T e71) {w:Str} (x:Str) (hl:w.length<=900000) (H:Heap):qb7 (ctx T) (.fn 71) [.str w,.str x] H=some (.bool (inW w x),H):=
 qac hT quh (w,x) hl rfl (by simp)
structure WordAt (s x:Str) (p:Nat):Prop where
 room:p+x.length<=s.length
 occ:(s.drop p).take x.length=x
 pre:∀c,0 < p->s[p - 1]? = some c->sp c=true
 post:∀c,s[p+x.length]? = some c->sp c=true
structure WInv (s:Str) (i:Nat) (st:List Str × Str):Prop where
 le:i<=s.length
 words:∀w,w∈st.1->∃p,WordAt s w p
 len:st.2.length<=i
 cur:(s.take i).drop (i - st.2.length)=st.2
 pre:∀c,0 < i - st.2.length->s[i - st.2.length - 1]? = some c->sp c=true
theorem winv{s:Str}:∀(i:Nat),i<=s.length->WInv s i (wst (s.take i))
 |0,_=>by
  have e:wst (s.take 0)=([],[]):=by simp[wst]
  rw[e];exact⟨jh _,fun w h=>(by cases h),jc _,rfl,fun c h=>absurd h (yV 0)⟩
 |i+1,hi=>by
  have ih:=winv (s:=s) i (by omega);have hlt:i < s.length:=by omega
  rw[qle hlt];generalize wst (s.take i)=st at ih;obtain⟨W,c⟩:=st;have ihl:=ih.len;have ihc:=ih.cur;have ihp:=ih.pre;simp only at ihl ihc ihp;unfold qhq;by_cases hs:sp s[i]=true
  ·rw[if_pos hs];refine⟨hi,?_,jh _,?_,?_⟩
   ·intro w hw;simp only at hw;by_cases hc:c=[]
    ·rw[if_pos hc]at hw;exact ih.words w hw
    ·rw[if_neg hc]at hw;rcases jl.1 hw with hw|hw
     ·exact ih.words w hw
     ·rw[ju]at hw;subst hw;refine⟨i - w.length,by omega,?_,fun d h1 h2=>ihp d h1 h2,fun d h=>?_⟩
      ·rw[List.drop_take,show i - (i - w.length)=w.length by omega]at ihc;exact ihc
      ·rw[show i - w.length+w.length=i by omega,List.getElem?_eq_getElem hlt,sj]at h;rw[<- h];exact hs
   ·simp
   ·intro d _ h;simp only[jW,Nat.sub_zero,Nat.add_sub_cancel]at h;rw[List.getElem?_eq_getElem hlt,sj]at h;rw[<- h];exact hs
  ·rw[if_neg hs];refine⟨hi,ih.words,by simp;omega,?_,?_⟩
   ·simp only[jo,y6];rw[show i+1 - (c.length+1)=i - c.length by omega,jw hlt,y3 (by simp;omega),ihc]
   ·simp only[jo,y6];rw[show i+1 - (c.length+1)=i - c.length by omega];exact ihp
theorem word_at{s x:Str} (h:x∈qbv s):∃p,WordAt s x p:=by
 have inv:=winv (s:=s) s.length (jc _);rw[jz (jc _)]at inv;unfold qbv wfin at h;generalize wst s=st at *;obtain⟨W,c⟩:=st;have il:=inv.len;have ic:=inv.cur;have ip:=inv.pre;simp only at il ic ip h;by_cases hc:c=[]
 ·rw[if_pos hc]at h;exact inv.words x h
 ·rw[if_neg hc]at h;rcases jl.1 h with h|h
  ·exact inv.words x h
  ·rw[ju]at h;subst h;refine⟨s.length - x.length,by omega,?_,ip,fun d h=>?_⟩
   ·rw[jz (jc _)]at ic;rw[ic,jz (jc _)]
   ·rw[show s.length - x.length+x.length=s.length by omega,List.getElem?_eq_none (jc _)]at h;cases h
theorem word_ne{s x:Str} (h:x∈qbv s):x≠[]:=by
 have key:∀(l:Str) (st:List Str × Str),(∀w,w∈st.1->w≠[])->∀w,w∈(l.foldl qhq st).1->w≠[]:=by
  intro l;induction l with
  |nil=>intro st h;exact h
  |cons c r ih=>
   intro st h;rw[yB];refine ih _ ?_;intro w hw;unfold qhq at hw;split at hw
   ·simp only at hw;split at hw
    ·exact h w hw
    ·rename_i hn;rcases jl.1 hw with hw|hw
     ·exact h w hw
     ·rw[ju]at hw;rw[hw];exact hn
   ·exact h w hw
 unfold qbv wfin at h;split at h
 ·exact key s ([],[]) (fun w h=>by cases h) x h
 ·rename_i hn;rcases jl.1 h with h|h
  ·exact key s ([],[]) (fun w h=>by cases h) x h
  ·rw[ju]at h;rw[h];exact hn
def qyx:Go.Shelf.Ren:=⟨fun | 143=>149 | 219=>182 | 217=>192 | 225=>179 | 224=>178 | 267=>195 | 266=>198 | 314=>200|n=>n,fun | 9=>9 | 3=>3 | 4=>4 | 5=>5 | 46=>130 | 146=>164 | 51=>163|n=>n,fun | 1=>2|n=>n⟩
theorem lays143:Go.Proofs.Lays.n143 PG qyx where
 mixed:=by kernel_rfl
 f143:=Tryz.func149.trans (congrArg some (by kernel_rfl))
 f217:=Tryz.func192.trans (congrArg some (by kernel_rfl))
 f219:=Tryz.func182.trans (congrArg some (by kernel_rfl))
 f224:=Tryz.func178.trans (congrArg some (by kernel_rfl))
 f225:=Tryz.func179.trans (congrArg some (by kernel_rfl))
 f266:=Tryz.func198.trans (congrArg some (by kernel_rfl))
 f267:=Tryz.func195.trans (congrArg some (by kernel_rfl))
 f314:=Tryz.func200.trans (congrArg some (by kernel_rfl))
 t3:=Tryz.underlying3
 a3:=Tryz.isAgg3
 z3:=Tryz.sizeOf3
 v3:=Tryz.zeroValue3
 t4:=Tryz.underlying4
 a4:=Tryz.isAgg4
 z4:=Tryz.sizeOf4
 v4:=Tryz.zeroValue4
 t5:=Tryz.underlying5
 a5:=Tryz.isAgg5
 z5:=Tryz.sizeOf5
 v5:=Tryz.zeroValue5
 t9:=Tryz.underlying9
 a9:=Tryz.isAgg9
 z9:=Tryz.sizeOf9
 v9:=Tryz.zeroValue9
 t46:=Tryz.underlying130
 a46:=Tryz.isAgg130
 z46:=Tryz.sizeOf130
 v46:=Tryz.zeroValue130
 t51:=Tryz.underlying163
 a51:=Tryz.isAgg163
 z51:=Tryz.sizeOf163
 v51:=Tryz.zeroValue163
 t146:=Tryz.underlying164
 a146:=Tryz.isAgg164
 z146:=Tryz.sizeOf164
 v146:=Tryz.zeroValue164
 g1:=by kernel_rfl
theorem index_at(s sub:ByteArray) (m:Int) (w:World) (hs:s.size < 4294967281) (hm:w.cell? ⟨2,0,none⟩=some (.int .i64 m)) :
  Calls PG 149 #[.string s,.string sub] w fun e w'=>e=.returned (.int .i64 (Lib.index s.data.toList sub.data.toList))/\w'=w:=Any.strings_Index lays143 s sub m w hs hm
theorem c149(s t:Str) (hl:s.length<=1000000):CA T 149 [.str s,.str t] zH (.int .i64 (Lib.index s t)) zH:=by
 intro ρ w xs sm hx
 match xs,hx with
 |[x,y],hx=>
  have h0:=hx.2 0 (by simp) (by simp);have h1:=hx.2 1 (by simp) (by simp);simp only[j5,ym]at h0 h1;cases h0;cases h1;obtain⟨hB,m,hm⟩:=ρ.gl 2 (by simp[globs]);have hc:w.cell? ⟨2,0,none⟩=some (.int .i64 m):=by rw[World.cell?,sm.below 2 hB];exact hm
  have hrun:(callFunc 149 #[.string ⟨s.toArray⟩,.string ⟨t.toArray⟩]).run (ctx T).P w=.ok (.enter 149 #[.string ⟨s.toArray⟩,.string ⟨t.toArray⟩]) w:=by
   have hf:(ctx T).P.funcs[149]? = some Tryz.f149:=Tryz.func149
   have hn : ¬ Tryz.f149.name = "runtime.NumGoroutine" := by decide +kernel
   simp[callFunc,hf,hn,Tryz.f149]
  refine .inr ⟨149,_,hrun,callsIn_wide.2 ((index_at ⟨s.toArray⟩ ⟨t.toArray⟩ m w ?_ hc).mono ?_)⟩
  ·show s.toArray.size < _;simp;omega
  ·rintro e w' ⟨rfl,rfl⟩;exact⟨_,ρ,rfl,.int _ _,sm,Step.refl _ _ _⟩
def e149:Entry PG:=mkE 149 [[],[]] (fun x:Str × Str=>[.str x.1,.str x.2]) (fun x=>x.1.length<=1000000) (fun x=>.int .i64 (Lib.index x.1 x.2)) fun x h=>c149 (T:=[]) x.1 x.2 h
theorem k149(hT:qIn 149 T e149) {s t:Str} (h1:s.length<=1000000) (H:Heap):qb7 (ctx T) (.fn 149) [.str s,.str t] H=some (.int .i64 (Lib.index s t),H):=
 qac hT quh (s,t) h1 rfl (by simp)
theorem c150(c:UInt8):CA T 150 [.int .u8 c.toNat] zH (.bool (sp c)) zH:=by
 refine qa1 (s0:=⟨[0,2,3,4],[.int .u8 c.toNat,uD,uD,uD],[],10,⟨0,[[]]⟩⟩) Tryz.func150 rfl rfl rfl ?_;apply qR;simp[zS];apply qR;simp[zS];apply qa7;by_cases h1:(c.toNat:Int)=9
 ·(repeat (first
   |(apply qam)
   |(apply qa7)
   |(apply qcm;simp only[qan,qah])
   |((refine qai qbc ?_);simp[zS,h1])
   |apply qaj rfl
   |apply qag rfl
   |((apply qa4);simp only[qan,qah])
   |((apply qau);simp)))
  apply qa3;simp[zQ,Tryz.f150];exact qa2 rfl (by simp[sp,h1])
 by_cases h2:(c.toNat:Int)=10
 ·(repeat (first
   |(apply qam)
   |(apply qa7)
   |(apply qcm;simp only[qan,qah])
   |((refine qai qbc ?_);simp[zS,h1,h2])
   |apply qaj rfl
   |apply qag rfl
   |((apply qa4);simp only[qan,qah])
   |((apply qau);simp)))
  apply qa3;simp[zQ,Tryz.f150];exact qa2 rfl (by simp[sp,h2])
 by_cases h3:(c.toNat:Int)=12
 ·(repeat (first
   |(apply qam)
   |(apply qa7)
   |(apply qcm;simp only[qan,qah])
   |((refine qai qbc ?_);simp[zS,h1,h2,h3])
   |apply qaj rfl
   |apply qag rfl
   |((apply qa4);simp only[qan,qah])
   |((apply qau);simp)))
  apply qa3;simp[zQ,Tryz.f150];exact qa2 rfl (by simp[sp,h3])
 by_cases h4:(c.toNat:Int)=13
 ·(repeat (first
   |(apply qam)
   |(apply qa7)
   |(apply qcm;simp only[qan,qah])
   |((refine qai qbc ?_);simp[zS,h1,h2,h3,h4])
   |apply qaj rfl
   |apply qag rfl
   |((apply qa4);simp only[qan,qah])
   |((apply qau);simp)))
  apply qa3;simp[zQ,Tryz.f150];exact qa2 rfl (by simp[sp,h4])
 by_cases h5:(c.toNat:Int)=32
 ·(repeat (first
   |(apply qam)
   |(apply qa7)
   |(apply qcm;simp only[qan,qah])
   |((refine qai qbc ?_);simp[zS,h1,h2,h3,h4,h5])
   |apply qaj rfl
   |apply qag rfl
   |((apply qa4);simp only[qan,qah])
   |((apply qau);simp)))
  apply qa3;simp[zQ,Tryz.f150];exact qa2 rfl (by simp[sp,h5])
 ·(repeat (first
   |(apply qam)
   |(apply qa7)
   |(apply qcm;simp only[qan,qah])
   |((refine qai qbc ?_);simp[zS,h1,h2,h3,h4,h5])
   |apply qaj rfl
   |apply qag rfl
   |((apply qa4);simp only[qan,qah])
   |((apply qau);simp)))
  apply qa3;simp[zQ,Tryz.f150];exact qa2 rfl (by simp[sp,h1,h2,h3,h4,h5])
def e150:Entry PG:=mkE 150 [[]] (fun x:UInt8=>[.int .u8 x.toNat]) (fun _=>True) (fun x=>.bool (sp x)) fun x _=>c150 (T:=[]) x
theorem k150(hT:qIn 150 T e150) (c:UInt8) (H:Heap):qb7 (ctx T) (.fn 150) [.int .u8 c.toNat] H=some (.bool (sp c),H):=
 qac hT inj_u8 c trivial rfl (by simp)
def zf8:List AV->List Str->Bool
 |[],l=>match l with
  |[]=>true
  |_::_=>false
 |v::r,l=>match v,l with
  |.str s,t::q=>match eqB s t with
   |true=>zf8 r q
   |false=>false
  |_,_=>false
theorem zae:∀{cs:List AV} {L:List Str},zf8 cs L=true->cs=L.map AV.str
 |[],[],_=>rfl
 |[],_::_,h=>by simp[zf8]at h
 |v::r,L,h=>by
  cases v<;>cases L<;>simp only[zf8]at h<;>first|(cases h;done)|skip
  rename_i s t q;split at h
  next he=>rw[qkc]at he;simp only[decide_eq_true_eq]at he;rw[he,zae h];rfl
  ·cases h
def qqb(L:List Str):Option (AV × Heap)->Bool
 |some (.slc b 0 len _,H)=>match H.get b with
  |some (.cells cs)=>match zf8 cs L with
   |true=>Nat.beq len L.length
   |false=>false
  |_=>false
 |_=>false
theorem qzk{f:FuncId} {args:List AV} {L:List Str} (h:qqb L (qru (ctx T) 100000 (.fn f) args zH)=true):CA T f args zH (qcp L) zH:=by
 revert h;cases hr:qru (ctx T) 100000 (.fn f) args zH with
 |none=>intro h;cases h
 |some r=>
  obtain⟨v,H'⟩:=r;intro h;cases v<;>simp only[qqb]at h<;>first|(cases h;done)|skip
  rename_i b o len cap;cases o with
  |succ o=>simp[qqb]at h
  |zero=>
   simp only[qqb]at h;split at h
   ·rename_i cs hg;split at h
    ·rename_i hs;have hcs:=zae hs;have hlen:=Nat.eq_of_beq_eq_true h;refine((qzo mixed (zbd _ _ _) 100000).fn f args zH _ _ hr).freeze (Φ:=[(b,cs)]) ?_ (.froze (by simp) fun x hx=>?_)
     ·simp only[qcp,qat];refine .inl ⟨cs,by simp[qca],?_,by simp[hlen],(qnm L).size⟩;have h1:=qq9 (qnm L) (k:=L.length) (by simp);rw[jz (by simp)]at h1;have h2:qa5 (L.map AV.str)=cs:=by
       rw[hcs];clear h1 hcs hs h hlen;induction L with
       |nil=>rfl
       |cons x r ih=>simp only[jj,qa5,ih];rfl
      rw[h2]at h1 ⊢;rw[hlen];exact h1
     ·simp only[ju]at hx;subst hx;have hp:qa9 cs=true:=by
       rw[hcs];clear hcs hs h hlen;induction L with
       |nil=>rfl
       |cons x r ih=>simpa[qa9,qab]using ih
      exact⟨cs,hg,qaf hp,hp⟩
    ·cases h
   ·cases h
theorem occ_iff{s x:Str} {i:Nat}:Lib.occAt s x i=true↔(s.drop i).take x.length=x:=by unfold Lib.occAt;rw[List.isPrefixOf_iff_prefix,List.prefix_iff_eq_take];exact eq_comm
theorem c122(hI:qIn 149 T e149) (hS:qIn 150 T e150) (W x:Str) (hl:W.length<=100000) (hx1:x.length<=1000000000)
  (hsp:CA T 152 [.str W] zH (qcp (qbv W)) zH) (hco:CA T 151 [qcp (qbv W),.str x] zH (.bool (decide (x∈qbv W))) zH) :
  CA T 122 [.str W,.str x] zH (.bool (inW W x)) zH:=by
 have h1:=hsp.lift (by simp[qa9,qab]) ⟨0,[[]]⟩;have h2:=hco.lift (by simp[qcp,qa9,qab]) ⟨0,[[]]⟩;refine qa1 (s0:=⟨[0,1,4,5,6,7,8],[.str W,.str x,uD,uD,uD,uD,uD],[],52,⟨0,[[]]⟩⟩) Tryz.func122 rfl rfl rfl ?_;apply qR;simp[zS];by_cases hx:x=[]
 ·apply qR;simp[zS,hx];apply qaj rfl;apply qR;simp[zS];apply qa3;simp[zQ,Tryz.f122];exact qa2 rfl (by simp only[inW];symm;simp;intro h;exact word_ne h rfl)
 apply qR;simp[zS,hx];apply qag rfl;apply qa4;simp;have hx0:0 < x.length:=j8.2 hx;apply qR;simp[zS];refine qa7 (qb1 (fun i:Nat=>(⟨[0,1,4,5,6,7,8],[.str W,.str x,uD,.int .i64 i,uD,uD,uD],[],52,⟨0,[[]]⟩⟩ : St))
  (fun i=>i<=W.length/\(x∈qbv W->∃p,i<=p/\WordAt W x p)) (fun i=>W.length+1 - i) [] [] 0 ⟨jh _,fun h=>let ⟨p,hp⟩:=word_at h;⟨p,jh _,hp⟩⟩ ⟨rfl,rfl,rfl,by simp[qaz,qat,qab,qa9],FitH.nothing⟩ ?_)
 rintro i ⟨hi,hw⟩ B hB;have hd:(W.drop i).length<=1000000:=by simp;omega
 apply qa7;rcases Lib.index_spec (W.drop i) x with⟨h0,hn⟩|⟨k,h0,hk,ho,hno⟩
 ·have hnot:¬ x∈qbv W:=fun h=>by obtain⟨p,hp,hwa⟩:=hw h;have hr:=hwa.room;have:=hn (p - i) (by simp;omega);have h3:Lib.occAt (W.drop i) x (p - i)=true:=occ_iff.2 (by rw[List.drop_drop,show i+(p - i)=p by omega];exact hwa.occ);rw[h3]at this;cases this
  apply qR;simp[zS,slStr hi,k149 hI hd,h0];apply qR;simp[zS];apply qaj rfl;apply qR;simp[zS];apply qa3;simp[zQ,Tryz.f122];exact qa2 rfl (by simp[inW,hnot])
 ·have hk0:¬ (k:Int) < 0:=by omega
  obtain⟨j,hj⟩ : ∃j,j=i+k:=⟨_,rfl⟩;have ho':=occ_iff.1 ho;rw[List.drop_drop,<- hj]at ho';have hroom:j+x.length<=W.length:=by have:=congrArg List.length ho';simp at this;simp at hk;omega
  have a1:wr .i64 ((i:Int)+(k:Int))=some (j:Int):=by rw[qdi (by omega) (by omega),hj];simp
  obtain⟨q,hq⟩ : ∃q,q=j+x.length:=⟨_,rfl⟩;have a2:wr .i64 ((j:Int)+(x.length:Int))=some (q:Int):=by rw[qdi (by omega) (by omega),hq];simp
  have nxt:∀s',¬ WordAt W x j->(∃σ Φ,Fit 0 σ Φ s' (⟨[0,1,4,5,6,7,8],[.str W,.str x,uD,.int .i64 ((j+1:Nat):Int),uD,uD,uD],[],52,⟨0,[[]]⟩⟩ : St))->B s':=fun s' hno2 hf=>
   hB s' (j+1) (by omega) ⟨by omega,fun h=>by
    obtain⟨p,hp,hwa⟩:=hw h;refine⟨p,?_,hwa⟩;have hr:=hwa.room;apply yA;intro hlt;rcases jR p j with hpj|hpj
    ·have h3:=hno (p - i) (by omega);have h4:Lib.occAt (W.drop i) x (p - i)=true:=occ_iff.2 (by rw[List.drop_drop,show i+(p - i)=p by omega];exact hwa.occ);rw[h4]at h3;cases h3
    ·have:p=j:=(by omega);subst this;exact hno2 hwa⟩ hf
  apply qR;simp[zS,slStr hi,k149 hI hd,h0];apply qR;simp[zS,hk0];apply qag rfl;apply qa4;simp;apply qR;simp[zS,a1];apply qR;simp[zS,a2];have kS:=fun c H=>k150 hS c H;by_cases c0:j=0
  ·have a4:wr .i64 1=some ((j+1:Nat):Int):=(by rw[c0];rfl);by_cases d0:q=W.length
   ·apply qR;simp[zS,c0,d0];apply qaj rfl;repeat apply wq
    refine qai (qbo [⟨152,_,_,_,_,h1⟩,⟨151,_,_,_,_,h2⟩]) ?_;simp[zS,qcu,qcp];apply qa3;simp[zQ,Tryz.f122];exact qa2 rfl (by simp[inW])
   ·have hql:q < W.length:=(by omega);have d0i:¬ (q:Int)=(W.length:Int):=(by omega);rcases jG (sp W[q])with d1|d1
    ·apply qR;simp[zS,c0,d0i,qjj hql,kS,d1];apply qaj rfl;repeat apply wq
     refine qai (qbo [⟨152,_,_,_,_,h1⟩,⟨151,_,_,_,_,h2⟩]) ?_;simp[zS,qcu,qcp];apply qa3;simp[zQ,Tryz.f122];exact qa2 rfl (by simp[inW])
    ·apply qR;simp[zS,c0,d0i,qjj hql,kS,d1];apply qag rfl;apply qa4;simp;apply qR;simp[zS,a4];exact nxt _ (fun hwa=>by have:=hwa.post _ (by rw[<- hq];exact List.getElem?_eq_getElem hql);rw[d1]at this;cases this) ⟨[],[],⟨rfl,rfl,rfl,by simp[qaz,qat,qab,qa9],FitH.nothing⟩⟩
  ·obtain⟨q1,hq1⟩ : ∃q1,q1+1=j:=⟨j - 1,by omega⟩;have hq1l:q1 < W.length:=(by omega);have a3:wr .i64 ((j:Int) - 1)=some (q1:Int):=(by rw[qdi (by omega) (by omega)];congr 1;omega);rcases jG (sp W[q1])with c1|c1
   ·skip
    by_cases d0:q=W.length
    ·apply qR;simp[zS,c0,a3,qjj hq1l,kS,c1,d0];apply qaj rfl;repeat apply wq
     refine qai (qbo [⟨152,_,_,_,_,h1⟩,⟨151,_,_,_,_,h2⟩]) ?_;simp[zS,qcu,qcp];apply qa3;simp[zQ,Tryz.f122];exact qa2 rfl (by simp[inW])
    ·have hql:q < W.length:=(by omega);have d0i:¬ (q:Int)=(W.length:Int):=(by omega);rcases jG (sp W[q])with d1|d1
     ·apply qR;simp[zS,c0,a3,qjj hq1l,kS,c1,d0i,qjj hql,kS,d1];apply qaj rfl;repeat apply wq
      refine qai (qbo [⟨152,_,_,_,_,h1⟩,⟨151,_,_,_,_,h2⟩]) ?_;simp[zS,qcu,qcp];apply qa3;simp[zQ,Tryz.f122];exact qa2 rfl (by simp[inW])
     ·apply qR;simp[zS,c0,a3,qjj hq1l,kS,c1,d0i,qjj hql,kS,d1];apply qag rfl;apply qa4;simp;apply qR;simp[zS,qbd (show j<=1000000000 by omega)];exact nxt _ (fun hwa=>by have:=hwa.post _ (by rw[<- hq];exact List.getElem?_eq_getElem hql);rw[d1]at this;cases this) ⟨[],[],⟨rfl,rfl,rfl,by simp[qaz,qat,qab,qa9],FitH.nothing⟩⟩
   ·apply qR;simp[zS,c0,a3,qjj hq1l,kS,c1];apply qag rfl;apply qa4;simp;apply qR;simp[zS,qbd (show j<=1000000000 by omega)];exact nxt _ (fun hwa=>by have:=hwa.pre _ (by omega) (by rw[<- hq1,Nat.add_sub_cancel];exact List.getElem?_eq_getElem hq1l);rw[c1]at this;cases this) ⟨[],[],⟨rfl,rfl,rfl,by simp[qaz,qat,qab,qa9],FitH.nothing⟩⟩
def qz2:Option (AV × Heap)->Bool
 |some (.bool b,_)=>b
 |_=>false
def eqN:Str->Str->Bool
 |[],l=>match l with|[]=>true|_::_=>false
 |a::x,l=>match l with
  |[]=>false
  |b::y=>match Nat.beq a.toNat b.toNat with
   |true=>eqN x y
   |false=>false
theorem eqN_eq:∀(x y:Str),eqN x y=decide (x=y)
 |[],[]=>rfl
 |[],_::_=>by simp[eqN]
 |_::_,[]=>by simp[eqN]
 |a::x,b::y=>by
  unfold eqN;simp only;split
  next h=>have:=yn.1 (Nat.eq_of_beq_eq_true h);subst this;rw[eqN_eq];simp
  next h=>have:¬ a=b:=fun e=>(by subst e;rw[jD]at h;cases h);simp[this]
def leftOf:Str->Str->Option Str
 |[],x=>some x
 |a::c,x=>match x with
  |[]=>none
  |b::x=>if b=a then leftOf c x else none
abbrev At1:=Str × Str
def qcq(a:At1):AV:=.agg [.str a.1,.str a.2]
def qal(L:List At1):AV:=.fslc 2 (L.map qcq)
@[simp]theorem cells_aAttr(a:At1):(qcq a).cells=[.str a.1,.str a.2]:=rfl
@[simp]theorem pure_aAttr(a:At1):qab (qcq a)=true:=by simp[qcq,qab,qa9]
@[simp]theorem pure_aAttrs(L:List At1):qab (qal L)=true:=by simp[qal,qab]
@[simp]theorem ok_aAttr(a:At1):okV (qcq a)=true:=by simp[qcq,okV,qab,qa9]
@[simp]theorem ok_aAttrs(L:List At1):okV (qal L)=true:=by simp[qal,okV,qab]
theorem qjq(H:Heap) (L:List At1):qet H [2] (qal L)=some (qal L):=qao (by simp)
theorem qx3{a b:At1} (h:qcq a=qcq b):a=b:=by simp[qcq]at h;exact yz h.1 h.2
theorem qf3{L M:List At1} (h:qal L=qal M):L=M:=by simp only[qal,AV.fslc.injEq,true_and]at h;exact yR (fun _ _=>qx3) |>.1 h
theorem c164(a:At1) (nm:Str):CA T 164 [qcq a,.fptr [.str nm] 0] zH (.bool (decide (a.1=nm))) zH:=by refine qa1 (s0:=⟨[0,1,2,3],[qcq a,.fptr [.str nm] 0,uD,uD],[],8,⟨0,[[]]⟩⟩) Tryz.func164 rfl rfl rfl ?_;apply qR;simp[zS,qcq];apply qR;simp[zS];apply qa3;simp[zQ,Tryz.f164];exact⟨[],[],qbe rfl,FitH.empty⟩
def qbu{α:Type} (p:α->Bool):List α->Nat->Int
 |[],_=>-1
 |a::r,k=>if p a=true then k else qbu p r (k+1)
theorem qha{α:Type} {p:α->Bool} {L:List α} {i:Nat} (h:i < L.length):qbu p (L.drop i) i=if p L[i]=true then (i:Int) else qbu p (L.drop (i+1)) (i+1):=by rw[List.drop_eq_getElem_cons h];rfl
theorem atA{L:List At1} {i:Nat} (h:i < L.length):qav PG 32 (qal L) (.int .i64 (i:Int))=some (.fptr [.str L[i].1,.str L[i].2] 0):=by simp[qav,qal,qbz h,qi2 h,qcq,AV.cells]
theorem qh2{H:Heap} {L:List At1}:qer PG H 32 (qal L)=some L.length:=by simp[qer,qal]
theorem rdA1{H:Heap} (a:At1):qb3 PG H 71 (.fptr [.str a.1,.str a.2] 0)=some (qcq a):=by simp[qb3,qek,qef,qcq]
theorem c163(L:List At1) (hl:L.length<=1000) (clo:FuncId) (cap:List AV) (hc:qa9 cap=true) (p:At1->Bool) (hp:∀a,CA T clo (qcq a::cap) zH (.bool (p a)) zH) :
  CA T 163 [qal L,.func (.func clo) [] cap] zH (.int .i64 (qbu p L 0)) zH:=by
 refine qa1 (s0:=⟨[0,1,4,5,7,8],[qal L,.func (.func clo) [] cap,uD,uD,uD,uD],[],19,⟨0,[[]]⟩⟩) Tryz.func163 rfl rfl rfl ?_;apply qR;simp[zS];apply qR;simp[zS,qh2];refine qa7 (qb1 (fun i:Nat=>(⟨[0,1,4,5,7,8],[qal L,.func (.func clo) [] cap,uD,uD,.int .i64 L.length,.int .i64 i],[],19,⟨0,[[]]⟩⟩ : St))
  (fun i=>i<=L.length/\qbu p L 0=qbu p (L.drop i) i) (fun i=>L.length - i) [] [] 0 ⟨jh _,rfl⟩ ⟨rfl,rfl,rfl,by simp[qaz,qat,qab,qa9,hc],FitH.nothing⟩ ?_)
 rintro i ⟨hi,hx⟩ B hB;apply qR;simp[zS];repeat apply wq
 refine qay rfl (fun h=>?_) fun h=>?_
 ·simp at h;apply qa4;simp;repeat apply wq
  apply qa7;apply qR;simp[zS];repeat apply wq
  refine qai (qpx qbc [⟨clo,[qcq L[i]]++cap,⟨0,[[]]⟩,.bool (p L[i]),⟨0,[[]]⟩,(hp L[i]).lift (by simp[qa9,hc]) _⟩]) ?_;simp[zS,atA h,qcu,rdA1];refine qay rfl (fun h2=>?_) fun h2=>?_
  ·apply qR;simp[zS];apply qa3;simp[zQ,Tryz.f163];refine⟨[],[],?_,FitH.empty⟩;rw[hx,qha h,if_pos h2];exact qbe rfl
  ·repeat apply wq
   apply qa4;simp;apply qR;simp[zS,qbd (show i<=1000000000 by omega)];refine hB _ (i+1) (by omega) ⟨by omega,?_⟩ ⟨[],[],⟨rfl,rfl,rfl,by simp[qaz,qat,qab,qa9,hc],FitH.nothing⟩⟩;rw[hx,qha h,h2];simp
 ·simp at h;apply qau;simp;apply qR;simp[zS];apply qa3;simp[zQ,Tryz.f163];refine⟨[],[],?_,FitH.empty⟩;rw[hx,jt (by omega)];exact qbe rfl
def qjw(L:List At1) (nm:Str):Int:=qbu (fun a=>decide (a.1=nm)) L 0
theorem c130(L:List At1) (nm:Str) (hl:L.length<=1000):CA T 130 [qal L,.str nm] zH (.int .i64 (qjw L nm)) zH:=by
 refine qa1 (s0:=⟨[0,1,3,4],[qal L,.str nm,uD,uD],[],8,⟨0,[[]]⟩⟩) Tryz.func130 rfl rfl rfl ?_;apply qR;simp[zS];repeat apply wq
 refine qai (qbo [⟨163,[qal L,.func (.func 164) [] [.ptr 0 0]],⟨1,[[(0,.cells [.str nm])]]⟩,.int .i64 (qjw L nm),_,
  CallAt.thaw (c163 L hl 164 [.fptr [.str nm] 0] rfl (fun a=>decide (a.1=nm)) fun a=>c164 a nm) rfl [] (by simp[qao,qq7 (H:=⟨1,[[(0,.cells [.str nm])]]⟩) (b:=0) (cs:=[.str nm]) rfl rfl])⟩]) ?_
 simp[zS,qcu];apply qa3;simp[zQ,Tryz.f130];exact qa2 rfl rfl
def e130:Entry PG:=mkE 130 [[2],[]] (fun x:List At1 × Str=>[qal x.1,.str x.2]) (fun x=>x.1.length<=1000) (fun x=>.int .i64 (qjw x.1 x.2)) fun x hx=>c130 (T:=[]) x.1 x.2 hx
theorem k130(hT:qIn 130 T e130) {L:List At1} (nm:Str) (hl:L.length<=1000) {H:Heap} {l:AV} (h:qet H [2] l=some (qal L)):qb7 (ctx T) (.fn 130) [l,.str nm] H=some (.int .i64 (qjw L nm),H):=
 qac hT (fun x y h=>by simp at h;exact yz (qf3 h.1) h.2) (L,nm) hl rfl (by simp[h])
def qhi(nm:Str):List At1->Option Str
 |[]=>none
 |a::r=>if a.1=nm then some a.2 else qhi nm r
def zbv(x:Option Str):AV:=.tup [.str (x.getD []),.bool x.isSome]
theorem qm2{nm:Str}:∀(L:List At1) (k:Nat),(qbu (fun a=>decide (a.1=nm)) L k = -1/\qhi nm L=none)\/∃i,∃h:i < L.length,qbu (fun a=>decide (a.1=nm)) L k=(k+i:Nat)/\qhi nm L=some L[i].2/\L[i].1=nm
 |[],k=>.inl ⟨rfl,rfl⟩
 |a::r,k=>by
  by_cases hq:a.1=nm
  ·exact .inr ⟨0,by simp,by simp[qbu,hq],by simp[qhi,hq],hq⟩
  ·rcases qm2 (nm:=nm) r (k+1)with⟨h1,h2⟩|⟨i,h,h1,h2,h3⟩
   ·exact .inl ⟨by simp[qbu,hq,h1],by simp[qhi,hq,h2]⟩
   ·exact .inr ⟨i+1,by simpa using h,by simp[qbu,hq,h1];omega,by simp[qhi,hq,h2],h3⟩
theorem c131(hT:qIn 130 T e130) (L:List At1) (nm:Str) (hl:L.length<=1000):CA T 131 [qal L,.str nm] zH (zbv (qhi nm L)) zH:=by
 refine qa1 (s0:=⟨[0,1,4,5,6],[qal L,.str nm,uD,uD,uD],[],17,⟨0,[[]]⟩⟩) Tryz.func131 rfl rfl rfl ?_;apply qR;simp[zS];apply qR;simp[zS,k130 hT nm hl (qjq _ L)];apply qR;simp[zS];refine qay rfl (fun h=>?_) fun h=>?_
 ·rcases qm2 (nm:=nm) L 0 with⟨h1,h2⟩|⟨i,hi,h1,h2,h3⟩
  ·simp[qjw,h1]at h
  ·have hp:qjw L nm=(i:Int):=(by simp[qjw,h1]);simp only[hp];apply qR;simp[zS,atA hi];apply qa3;simp[zQ,Tryz.f131];exact qa2 rfl (by simp[zbv,h2])
 ·rcases qm2 (nm:=nm) L 0 with⟨h1,h2⟩|⟨i,hi,h1,h2,h3⟩
  ·repeat apply wq
   apply qa4;simp;apply qR;simp[zS];apply qa3;simp[zQ,Tryz.f131];exact qa2 rfl (by simp[zbv,h2])
  ·simp[qjw,h1]at h
def e131:Entry PG:=mkE 131 [[2],[]] (fun x:List At1 × Str=>[qal x.1,.str x.2]) (fun x=>x.1.length<=1000) (fun x=>zbv (qhi x.2 x.1)) fun x hx=>c131 (T:=[e130]) rfl x.1 x.2 hx
theorem injS(x y:List At1 × Str) (h:[qal x.1,.str x.2]=[qal y.1,.str y.2]):x=y:=by simp at h;exact yz (qf3 h.1) h.2
theorem k131(hT:qIn 131 T e131) {L:List At1} (nm:Str) (hl:L.length<=1000) {H:Heap} {l:AV} (h:qet H [2] l=some (qal L)):qb7 (ctx T) (.fn 131) [l,.str nm] H=some (zbv (qhi nm L),H):=
 qac hT injS (L,nm) hl rfl (by simp[h])
theorem zby{nm:Str} {L:List At1} {i:Nat} (h:i < L.length):qhi nm (L.drop i)=if L[i].1=nm then some L[i].2 else qhi nm (L.drop (i+1)):=by rw[List.drop_eq_getElem_cons h];rfl
theorem c99(L:List At1) (nm:Str) (hl:L.length<=1000):CA T 99 [qal L,.str nm] zH (zbv (qhi nm L)) zH:=by
 refine qa1 (s0:=⟨[0,1,4,5,6],[qal L,.str nm,uD,uD,uD],[],25,⟨0,[[]]⟩⟩) Tryz.func99 rfl rfl rfl ?_;apply qR;simp[zS];apply qR;simp[zS];refine qa7 (qb1 (fun i:Nat=>(⟨[0,1,4,5,6],[qal L,.str nm,.str [],.bool false,.int .i64 i],[],25,⟨0,[[]]⟩⟩ : St))
  (fun i=>i<=L.length/\qhi nm L=qhi nm (L.drop i)) (fun i=>L.length - i) [] [] 0 ⟨jh _,rfl⟩ ⟨rfl,rfl,rfl,by simp[qaz,qat,qab,qa9],FitH.nothing⟩ ?_)
 rintro i ⟨hi,hx⟩ B hB;apply qR;simp[zS,qh2];refine qay rfl (fun h=>?_) fun h=>?_
 ·simp at h;apply qa4;simp;repeat apply wq
  apply qa7;apply qR;simp[zS,atA h];refine qay rfl (fun h2=>?_) fun h2=>?_
  ·apply qR;simp[zS,atA h];apply qa3;simp[zQ,Tryz.f99];simp at h2;exact qa2 rfl (by simp[zbv,hx,zby h,h2])
  ·repeat apply wq
   apply qa4;simp;apply qR;simp[zS,qbd (show i<=1000000000 by omega)];simp at h2;exact hB _ (i+1) (by omega) ⟨by omega,by rw[hx,zby h];simp[h2]⟩ ⟨[],[],⟨rfl,rfl,rfl,by simp[qaz,qat,qab,qa9],FitH.nothing⟩⟩
 ·simp at h;apply qau;simp;apply qR;simp[zS];apply qa3;simp[zQ,Tryz.f99];exact qa2 rfl (by simp[zbv,hx,jt h,qhi])
def e99:Entry PG:=mkE 99 [[2],[]] (fun x:List At1 × Str=>[qal x.1,.str x.2]) (fun x=>x.1.length<=1000) (fun x=>zbv (qhi x.2 x.1)) fun x hx=>c99 (T:=[]) x.1 x.2 hx
theorem k99(hT:qIn 99 T e99) {L:List At1} (nm:Str) (hl:L.length<=1000) {H:Heap} {l:AV} (h:qet H [2] l=some (qal L)):qb7 (ctx T) (.fn 99) [l,.str nm] H=some (zbv (qhi nm L),H):=
 qac hT injS (L,nm) hl rfl (by simp[h])
structure Nd where
 kind:Int
 space:Int
 name:Str
 attrs:List At1
 data:Str
 up:Int
 kids:List Int
def qbm(i:Int):AV:=.int .i64 i
abbrev qbl(L:List Int):AV:=.fslc 1 (L.map qbm)
def Nd.cs(n:Nd):List AV:=[qbm n.kind,qbm n.space,.str n.name,qal n.attrs,.str n.data,qbm n.up,qbl n.kids]
def qa6(n:Nd):AV:=.agg n.cs
abbrev Tr:=List Nd
abbrev qa8(t:Tr):AV:=.fslc 7 (t.map qa6)
def qak(t:Tr):AV:=.agg [qa8 t]
@[simp]theorem pure_aInts(L:List Int):qab (qbl L)=true:=by simp[qbl,qab]
@[simp]theorem zd9(n:Nd):qab (qa6 n)=true:=by simp[qa6,Nd.cs,qbm,qab,qa9]
@[simp]theorem qdc(t:Tr):qab (qa8 t)=true:=by simp[qa8,qab]
@[simp]theorem pure_aTree(t:Tr):qab (qak t)=true:=by simp[qak,qab,qa9]
@[simp]theorem cells_aNode(n:Nd):(qa6 n).cells=n.cs:=rfl
@[simp]theorem cells_aTree(t:Tr):(qak t).cells=[qa8 t]:=rfl
@[simp]theorem ze3(i:Int):(qbm i).cells=[qbm i]:=rfl
@[simp]theorem ok_aNode(n:Nd):okV (qa6 n)=true:=by simp[qa6,Nd.cs,qbm,qal,qbl,okV,qab,qa9]
theorem th_aNode(H:Heap) (n:Nd):qet H [] (qa6 n)=some (qa6 n):=qao (by simp)
theorem qrc{L M:List Int} (h:qbl L=qbl M):L=M:=by simp only[qbl,AV.fslc.injEq,true_and]at h;exact yR (fun x y e=>by simp[qbm]at e;exact e) |>.1 h
theorem qcw{a b:Nd} (h:qa6 a=qa6 b):a=b:=by
 obtain⟨k,s,n,at_,d,u,ks⟩:=a;obtain⟨k',s',n',at',d',u',ks'⟩:=b;simp[qa6,Nd.cs,qbm]at h;obtain⟨h1,h2,h3,h4,h5,h6,h7⟩:=h;have h7':qbl ks=qbl ks':=by show AV.fslc 1 _=AV.fslc 1 _;rw[h7]
 simp[h1,h2,h3,qf3 h4,h5,h6,qrc h7']
theorem qe9{a b:Tr} (h:qak a=qak b):a=b:=by simp[qak,qa8]at h;exact yR (fun x y e=>qcw e) |>.1 h
structure Wk where
 l:List Int
 inn:List Int
 out:List Int
 c:Int
def qig(I:List Int):Nat:=I.countP fun x=>decide (x < 0)
def kl(n:Nat) (g:Nat->Wk->Wk):List Int->Wk->Wk
 |[],w=>w
 |k::r,w=>if 0<=k/\k < (n:Int)/\w.inn.getD k.toNat 0 < 0 then kl n g r (g k.toNat w) else kl n g r w
def into(i:Nat) (w:Wk):Wk:=⟨w.l++[(i:Int)],w.inn.set i w.c,w.out,w.c+1⟩
def outof(i:Nat) (w:Wk):Wk:=⟨w.l,w.inn,w.out.set i w.c,w.c+1⟩
def vis(n:Nat) (ks:Nat->List Int):Nat->Nat->Wk->Wk
 |0,_,w=>w
 |f+1,i,w=>outof i (kl n (vis n ks f) (ks i) (into i w))
structure WOK (n K:Nat) (w:Wk):Prop where
 li:w.inn.length=n
 lo:w.out.length=n
 c0:0<=w.c
 cb:w.c+2 * (qig w.inn:Int)<=2 * K
 lb:w.l.length+qig w.inn<=K
theorem qi0{I:List Int} {i:Nat} {c:Int} (h:i < I.length) (hi:I.getD i 0 < 0) (hc:0<=c):qig (I.set i c)+1=qig I:=by
 induction I generalizing i with
 |nil=>simp at h
 |cons x r ih=>
  cases i with
  |zero=>have hx:x < 0:=(by simpa using hi);have hc':¬ c < 0:=(by omega);simp[qig,yJ,hx,hc']
  |succ j=>have:=ih (i:=j) (by simpa using h) (by simpa using hi);simp only[qig,List.set_cons_succ,yJ]at this ⊢;omega
theorem WOK.into{n K i:Nat} {w:Wk} (h:WOK n K w) (hi:i < n) (hn:w.inn.getD i 0 < 0):WOK n K (into i w)/\qig (into i w).inn+1=qig w.inn/\(into i w).c+2 * (qig (into i w).inn:Int)+1<=2 * K:=by have e:=qi0 (I:=w.inn) (by rw[h.li];exact hi) hn h.c0;have h1:=h.cb;have h2:=h.lb;have h3:=h.c0;refine⟨⟨by simp[Go.Proofs.YtocnpnnplllneaaGreatDoor.into,h.li],h.lo,?_,?_,?_⟩,e,?_⟩<;>simp only[Go.Proofs.YtocnpnnplllneaaGreatDoor.into,jo,y6]<;>omega
def Low(n K:Nat) (b:Int) (w:Wk):Prop:=WOK n K w/\w.c+2 * (qig w.inn:Int)+b<=2 * K
theorem kl_ok{n K f:Nat} {g:Nat->Wk->Wk} (hg:∀b i w,0<=b->Low n K b w->i < n->w.inn.getD i 0 < 0->qig w.inn<=f->Low n K b (g i w)/\qig (g i w).inn<=qig w.inn) (b:Int) (hb:0<=b) :
  ∀(ks:List Int) (w:Wk),Low n K b w->qig w.inn<=f->Low n K b (kl n g ks w)/\qig (kl n g ks w).inn<=qig w.inn
 |[],w,h,_=>⟨h,jc _⟩
 |k::r,w,h,hf=>by
  unfold kl;split
  next hk=>obtain⟨h1,h2⟩:=hg b k.toNat w hb h (by omega) hk.2.2 hf;obtain⟨h3,h4⟩:=kl_ok hg b hb r _ h1 (by omega);exact⟨h3,by omega⟩
  ·exact kl_ok hg b hb r w h hf
theorem qvm{n K:Nat} {ks:Nat->List Int}:∀(f:Nat) (b:Int) (i:Nat) (w:Wk),0<=b->Low n K b w->i < n->w.inn.getD i 0 < 0->qig w.inn<=f->Low n K b (vis n ks f i w)/\qig (vis n ks f i w).inn < qig w.inn
 |0,b,i,w,hb,h,hi,hn,hf=>by have e:=qi0 (I:=w.inn) (by rw[h.1.li];exact hi) hn h.1.c0;omega
 |f+1,b,i,w,hb,h,hi,hn,hf=>by
  obtain⟨h1,h2,h3⟩:=h.1.into hi hn;have hl:Low n K (b+1) (into i w):=⟨h1,by have:=h.2;simp only[into]at h2 ⊢;omega⟩;obtain⟨h4,h5⟩:=kl_ok (n:=n) (K:=K) (f:=f) (g:=vis n ks f) (fun b' i' w' hb' h' hi' hn' hf'=>let ⟨x,y⟩:=qvm f b' i' w' hb' h' hi' hn' hf';⟨x,yF y⟩) (b+1) (by omega) (ks i) (into i w) hl (by omega);unfold vis;refine⟨⟨⟨h4.1.li,by simp[outof,h4.1.lo],?_,?_,?_⟩,?_⟩,?_⟩
  ·have:=h4.1.c0;simp only[outof];omega
  ·have:=h4.2;simp only[outof];omega
  ·exact h4.1.lb
  ·have:=h4.2;simp only[outof];omega
  ·simp only[outof];omega
abbrev Cfg:=List (Nat × Nat) × List Bool × List Int
def stp(n:Nat) (ks:Nat->List Int):Cfg->Option Cfg
 |([],_,_)=>none
 |((i,j)::p,s,a)=>match (ks i)[j]? with
  |none=>some (p,s,a)
  |some k=>if 0<=k/\k < (n:Int)/\s.getD k.toNat true=false then some ((k.toNat,0)::(i,j+1)::p,s.set k.toNat true,a++[k]) else some ((i,j+1)::p,s,a)
inductive Reach (n:Nat) (ks:Nat->List Int):Cfg->Cfg->Prop where
 |refl (c:Cfg):Reach n ks c c
 |step {c d e:Cfg} (h:stp n ks c=some d) (r:Reach n ks d e):Reach n ks c e
theorem Reach.trans{n:Nat} {ks:Nat->List Int} {c d e:Cfg} (h:Reach n ks c d) (r:Reach n ks d e):Reach n ks c e:=by
 induction h with
 |refl=>exact r
 |step h _ ih=>exact .step h (ih r)
theorem Reach.one{n:Nat} {ks:Nat->List Int} {c d e:Cfg} (r:Reach n ks c d) (h:stp n ks d=some e):Reach n ks c e:=r.trans (.step h (.refl _))
def w0(n:Nat):Wk:=⟨[],List.replicate n (-1),List.replicate n (-1),0⟩
def qb8(n:Nat) (ks:Nat->List Int):List Int:=if n=0 then [] else (vis n ks n 0 (w0 n)).l
theorem qiy(n:Nat):qig (List.replicate n (-1))=n:=by simp[qig,List.countP_replicate]
theorem zer(n:Nat):Low n n 0 (w0 n):=by refine⟨⟨by simp[w0],by simp[w0],by simp[w0],?_,?_⟩,?_⟩<;>simp[w0,qiy]
def qcd(L:List Int):List AV:=L.map qbm
@[simp]theorem ints_nil:qcd []=[]:=rfl
theorem zh7{L:List Int} (h:L≠[]):qcd L≠[]:=by simpa[qcd]using h
theorem ne_ints{L:List Int} (h:qcd L≠[]):L≠[]:=by simpa[qcd]using h
@[simp]theorem len_ints(L:List Int):(qcd L).length=L.length:=by simp[qcd]
theorem qgx(L:List Int):Elems 1 (qcd L):=.map (sz:=1) (f:=qbm) (by decide) (fun x=>⟨rfl,rfl,fun _=>rfl,fun h=>absurd rfl h⟩) L
@[simp]theorem qey(L:List Int):qa5 (qcd L)=qcd L:=by
 unfold qcd;induction L with
 |nil=>rfl
 |cons x r ih=>simp only[jj,qa5,ih];rfl
@[simp]theorem qbj(L:List Int):qa9 (qcd L)=true:=by have:=(qgx L).pure;rwa [qey]at this
theorem lay1{L:List Int} {i:Nat} {v:Int} (h:i < L.length):qho [.int .i64 v] i (qcd L)=some (qcd (L.set i v)):=by
 have:=lay_at (qgx L) (i:=i) (by simpa using h) (e:=qbm v) rfl;have e:(qcd L).set i (qbm v)=qcd (L.set i v):=by simp[qcd,List.map_set]
 rw[qey,e,qey]at this;simpa[qbm,AV.cells]using this
theorem atI{L:List Int} {i:Nat} (h:i < L.length):qav PG 30 (qbl L) (.int .i64 (i:Int))=some (.fptr [.int .i64 L[i]] 0):=by simp[qav,qbl,qbz h,qi2 h,qbm,AV.cells]
theorem atN{t:Tr} {i:Nat} (h:i < t.length):qav PG 22 (qa8 t) (.int .i64 (i:Int))=some (.fptr (t[i]).cs 0):=by simp[qav,qa8,qbz h,qi2 h]
theorem qpb{H:Heap} {L:List Int}:qer PG H 30 (qbl L)=some L.length:=by simp[qer,qbl]
theorem qhn{H:Heap} {t:Tr}:qer PG H 22 (qa8 t)=some t.length:=by simp[qer,qa8]
def qar(t:Tr) (i:Nat):List Int:=(t[i]?.map Nd.kids).getD []
theorem qd7{t:Tr} {i:Nat} (h:i < t.length):t[i].kids=qar t i:=by simp[qar,h]
def lA(b:Nat) (L:List Int):AV:=qdo b 1 (qcd L)
def lF(b:Nat) (L:List Int):List (Nat × Blk):=qe4 b (qcd L)
theorem qnb{b:Nat} {L:List Int} (h:L≠[]):lA b L=.slc b 0 L.length (.rest 1):=by rw[lA,qch (zh7 h)];simp
theorem qhh{b:Nat} {L:List Int} (h:L≠[]):lF b L=[(b,.cells (qcd L))]:=by rw[lF,qci (zh7 h),qey]
theorem app_l{m t b:Nat} {L:List Int} {v:Int} {g1 g:List (Nat × Blk)} (hr:L.length<=1000000000) (h1:∀e,e∈(t,Blk.cells [AV.int .i64 v])::g1->e.1≠b) (h2:∀e,e∈g->e.1≠b) :
  qby PG ⟨m,[(t,.cells [.int .i64 v])::g1,lF b L++g]⟩ 3 (lA b L) (.slc t 0 1 (.ex 1))=some (.slc m 0 (L.length+1) (.rest 1),⟨m+1,[(m,.cells (qcd (L++[v])))::(t,.cells [.int .i64 v])::g1,g]⟩):=by
 have miss:∀(l:List (Nat × Blk)),(∀e,e∈l->e.1≠b)->getF b l=none:=by
  intro l;induction l with
  |nil=>intro _;rfl
  |cons x r ih=>intro h;unfold getF;rw[qaw (h x (by simp))];exact ih fun e he=>h e (by simp[he])
 have hm1:=miss _ h1;have hg:=miss _ h2;have hdrop:Heap.drop ⟨m,[(t,.cells [.int .i64 v])::g1,lF b L++g]⟩ b=⟨m,[(t,.cells [.int .i64 v])::g1,g]⟩:=by
  simp only[Heap.drop,qem,hm1];cases L with
  |nil=>simp[lF,qe4,hg]
  |cons x r=>simp[lF,qe4,qcd,getF,killF]
 have h:=qie (P:=PG) (H:=⟨m,[(t,.cells [.int .i64 v])::g1,lF b L++g]⟩) (elem:=3) (b:=b) (n:=0) (es:=qcd L) (cs:=[.int .i64 v]) (x:=.slc t 0 1 (.ex 1)) szT3 byT3 zeT3 rfl (by omega) (by omega) rfl
  (by simp[qbb,readCells,zG,Blk.rd,qek,qef]) rfl rfl (qgx L) (by simp;omega) (fun hne=>by
   have hL:L≠[]:=ne_ints hne;simp only[Heap.get,getFs,hm1,qhh hL,qey];simp[getF]) (fun he=>by
   have hL:L=[]:=(by simpa[qcd]using he);subst hL;rw[hdrop];rfl) (by intro cs;rfl)
 have e:qcd L++[.int .i64 v]=qcd (L++[v]):=by simp[qcd,qbm]
 rw[hdrop,qey,e]at h;simpa[lA,Heap.new,pushF]using h
theorem FitH.rows{n:Nat} {σ:List (Nat × Nat)} {H H':Heap} (nd1:(σ.map (·.1)).Nodup) (nd2:(σ.map (·.2)).Nodup) (nd3:(H'.ents.map (·.1)).Nodup) (lt:∀x,x∈σ->x.2 < H'.n) (idn:∀x,x∈σ->x.1 < n\/x.2 < n->x.1=x.2) (num:n<=H'.n)
  (src:∀e,e∈H'.ents->∃b cs,(b,e.1)∈σ/\H.get b=some (.cells cs)/\e.2=.cells cs/\qa9 cs=true):FitH n σ [] H H' where
 nd1:=by simpa using nd1
 nd2:=nd2
 nd3:=nd3
 lt:=lt
 idn:=fun x hx h=>idn x hx (.inr h)
 num:=num
 src:=fun e he=>by obtain⟨b,cs,h1,h2,h3,h4⟩:=src e he;exact⟨b,_,h1,h2,by rw[h3];exact qaf h4⟩
 frz:=fun x h=>by cases h
def hW(L I O:List Int):Heap:=⟨3,[lF 2 L++[(0,.cells (qcd I)),(1,.cells (qcd O))]]⟩
def hW'(L I O:List Int):Heap:=⟨4,[lF 3 L++[(0,.cells (qcd I)),(1,.cells (qcd O))]]⟩
def hL(t:Tr) (L I O:List Int):Heap:=⟨5,[[(4,.cells (qcd L)),(3,.cells [qa8 t])],[(0,.cells (qcd I)),(1,.cells (qcd O))]]⟩
theorem qxh{t:Tr} {L I O:List Int} {m a:Nat} {f:List (Nat × Blk)} (ha:getF a f=some (.cells (qcd L))) (h3:getF 3 f=some (.cells [qa8 t])) (h0:getF 0 f=none) (h1:getF 1 f=none) (ha4:3 < a) :
  FitH 3 [(a,4),(3,3),(0,0),(1,1)] [] ⟨m,[f,[(0,.cells (qcd I)),(1,.cells (qcd O))]]⟩ (hL t L I O):=by
 refine .rows (by simp;omega) (by simp) (by simp[hL,Heap.ents]) (by simp[hL]) (by simp;omega) (by simp[hL]) ?_;intro e he;simp[hL,Heap.ents]at he;rcases he with rfl|rfl|rfl|rfl
 ·exact⟨a,_,by simp,by simp[Heap.get,getFs,ha],rfl,qbj _⟩
 ·exact⟨3,_,by simp,by simp[Heap.get,getFs,h3],rfl,by simp[qa9]⟩
 ·exact⟨0,_,by simp,by simp[Heap.get,getFs,h0,getF],rfl,qbj _⟩
 ·exact⟨1,_,by simp,by simp[Heap.get,getFs,h1,getF],rfl,qbj _⟩
theorem fit_out{t:Tr} {L I O:List Int} (hne:L≠[]):FitH 3 [(4,3),(0,0),(1,1)] [] (hL t L I O) (hW' L I O):=by
 refine .rows (by simp) (by simp) (by simp[hW',qhh hne,Heap.ents]) (by simp[hW']) (by simp) (by simp[hW']) ?_;intro e he;simp[hW',qhh hne,Heap.ents]at he;rcases he with rfl|rfl|rfl
 ·exact⟨4,_,by simp,by simp[hL,zG],rfl,qbj _⟩
 ·exact⟨0,_,by simp,by simp[hL,zG],rfl,qbj _⟩
 ·exact⟨1,_,by simp,by simp[hL,zG],rfl,qbj _⟩
theorem call_in{t:Tr} {f:FuncId} {C:Ctx} {n i:Nat} {L I O L' I' O':List Int} {c c':Int} (hne:L≠[]) (hne':L'≠[])
  (h:CallAt C f [qak t,.int .i64 i,lA 2 L,.slc 0 0 n (.ex n),.slc 1 0 n (.ex n),.int .i64 c] (hW L I O) (.tup [lA 3 L',.int .i64 c']) (hW' L' I' O')) :
  CallAt C f [qak t,.int .i64 i,.slc 4 0 L.length (.rest 1),.slc 0 0 n (.ex n),.slc 1 0 n (.ex n),.int .i64 c] (hL t L I O) (.tup [.slc 5 0 L'.length (.rest 1),.int .i64 c'])
   ⟨6,[[(5,.cells (qcd L')),(3,.cells [qa8 t])],[(0,.cells (qcd I')),(1,.cells (qcd O'))]]⟩:=by
 have hf:FitH 0 [(4,2),(0,0),(1,1)] [] (hL t L I O) (hW L I O):=by
  refine .rows (by simp) (by simp) (by simp[hW,qhh hne,Heap.ents]) (by simp[hW]) (by simp) (by simp[hW]) ?_;intro e he;simp[hW,qhh hne,Heap.ents]at he;rcases he with rfl|rfl|rfl
  ·exact⟨4,_,by simp,by simp[hL,zG],rfl,qbj _⟩
  ·exact⟨0,_,by simp,by simp[hL,zG],rfl,qbj _⟩
  ·exact⟨1,_,by simp,by simp[hL,zG],rfl,qbj _⟩
 have:=h.framed (H:=hL t L I O) (H':=⟨6,[[(5,.cells (qcd L')),(3,.cells [qa8 t])],[(0,.cells (qcd I')),(1,.cells (qcd O'))]]⟩) (σ:=[(4,2),(0,0),(1,1)])
  (args:=[qak t,.int .i64 i,.slc 4 0 L.length (.rest 1),.slc 0 0 n (.ex n),.slc 1 0 n (.ex n),.int .i64 c]) hf ?_ ?_ (by simp[hW,hW'])
 ·simpa[qnb hne',qiu,qgr,qg9,qdr,hL,hW]using this
 ·rw[qnb hne];simp[qaz,qat,qb2,qbe,qab]
 ·refine⟨by simp[hL,hW,hW'],by simp[Heap.ents],?_⟩;intro e he;have hI:qgr (qg9 [(4,2),(0,0),(1,1)] 5 3) (qcd I')=qcd I':=qbt _ (qbj _);have hO:qgr (qg9 [(4,2),(0,0),(1,1)] 5 3) (qcd O')=qcd O':=qbt _ (qbj _);have hL':qgr (qg9 [(4,2),(0,0),(1,1)] 5 3) (qcd L')=qcd L':=qbt _ (qbj _);simp[Heap.ents]at he;rcases he with rfl|rfl|rfl|rfl
  ·exact .inl ⟨(3,.cells (qcd L')),by simp[hW',qhh hne',Heap.ents],by simp[hL,hW,qky,hL'];simp[qg9,qdr]⟩
  ·exact .inr ⟨by simp[hL,Heap.ents],by simp⟩
  ·exact .inl ⟨(0,.cells (qcd I')),by simp[hW',qhh hne',Heap.ents],by simp[hL,hW,qky,hI];simp[qg9,qdr]⟩
  ·exact .inl ⟨(1,.cells (qcd O')),by simp[hW',qhh hne',Heap.ents],by simp[hL,hW,qky,hO];simp[qg9,qdr]⟩
theorem get1{L:List Int} {i:Nat} (h:i < L.length):qcy (qcd L) i=some (.int .i64 L[i]):=by simp[qcd,qi2 h,qbm]
theorem ixI{b n i:Nat} {cap:Cap} (h:i < n):qav PG 30 (.slc b 0 n cap) (.int .i64 (i:Int))=some (.ptr b i):=by simp[qav,qbz h]
theorem zet{n:Nat} {ks:Nat->List Int}:∀(f i:Nat) (w:Wk),w.l≠[]->(vis n ks f i w).l≠[]
 |0,_,w,h=>h
 |f+1,i,w,h=>by
  have hk:∀(r:List Int) (w:Wk),w.l≠[]->(kl n (vis n ks f) r w).l≠[]:=by
   intro r;induction r with
   |nil=>intro w h;exact h
   |cons k r ih=>
    intro w h;unfold kl;split
    ·exact ih _ (zet f _ _ h)
    ·exact ih _ h
  exact hk (ks i) (into i w) (by simp[into])
theorem c48(t:Tr) {K:Nat} (hK:K<=1000) (hkd:∀x,x∈t->x.kids.length<=1000):∀(f i:Nat) (w:Wk),Low t.length K 0 w->i < t.length->w.inn.getD i 0 < 0->qig w.inn<=f ->
  CA T 48 [qak t,.int .i64 i,lA 2 w.l,.slc 0 0 t.length (.ex t.length),.slc 1 0 t.length (.ex t.length),.int .i64 w.c] (hW w.l w.inn w.out)
   (.tup [lA 3 (vis t.length (qar t) f i w).l,.int .i64 (vis t.length (qar t) f i w).c]) (hW' (vis t.length (qar t) f i w).l (vis t.length (qar t) f i w).inn (vis t.length (qar t) f i w).out)
 |0,i,w,h,hi,hn,hf=>by have e:=qi0 (I:=w.inn) (by rw[h.1.li];exact hi) hn h.1.c0;omega
 |f+1,i,w,h,hi,hn,hf=>by
  obtain⟨g1,g2,g3⟩:=h.1.into hi hn;have hlow:Low t.length K 0 (into i w):=⟨g1,by omega⟩;have hc:=h.1.c0;have hcb:=h.1.cb;have hlb:=h.1.lb;have hli:=h.1.li;have hlo:=h.1.lo;have hkl:(qar t i).length<=1000:=by rw[<- qd7 hi];exact hkd _ (jy hi)
  have happ:=app_l (m:=5) (t:=4) (b:=2) (L:=w.l) (v:=(i:Int)) (g1:=[(3,.cells [qa8 t])]) (g:=[(0,.cells (qcd w.inn)),(1,.cells (qcd w.out))]) (by omega) (by simp) (by simp);unfold hW;refine qa1 (s0:=⟨[0,1,2,3,4,5,6,12,13,14,15],[qak t,.int .i64 i,lA 2 w.l,.slc 0 0 t.length (.ex t.length),.slc 1 0 t.length (.ex t.length),.int .i64 w.c,uD,uD,uD,uD,uD],[],79,⟨3,[]::[lF 2 w.l++[(0,.cells (qcd w.inn)),(1,.cells (qcd w.out))]]⟩⟩) Tryz.func48 rfl rfl rfl ?_;apply qR;simp[zS,qak];apply qR;simp[zS,happ];have hst:=lay1 (L:=w.inn) (i:=i) (v:=w.c) (by omega);apply qR;simp[zS,ixI hi,hst];apply qR;simp[zS,qdi (show -1000000000000<=w.c+1 by omega) (show w.c+1<=1000000000000 by omega)];apply qR;simp[zS];obtain⟨w2,hw2⟩ : ∃w2,w2=kl t.length (vis t.length (qar t) f) (qar t i) (into i w):=⟨_,rfl⟩;have hvis:vis t.length (qar t) (f+1) i w=outof i w2:=by rw[hw2];rfl
  rw[hvis];have hb0:0<=(0:Int):=y9 0;refine qa7 (qb1 (fun x:Nat × Wk=>(⟨[0,1,2,3,4,5,6,12,13,14,15],[qak t,.int .i64 i,.slc 4 0 x.2.l.length (.rest 1),.slc 0 0 t.length (.ex t.length),.slc 1 0 t.length (.ex t.length),.int .i64 x.2.c,.ptr 3 0,uD,uD,.int .i64 x.1,uD],[],79,hL t x.2.l x.2.inn x.2.out⟩ : St))
   (fun x=>x.1<=(qar t i).length/\x.2.l≠[]/\Low t.length K 1 x.2/\qig x.2.inn<=f/\kl t.length (vis t.length (qar t) f) ((qar t i).drop x.1) x.2=w2) (fun x=>(qar t i).length - x.1) [(5,4),(3,3),(0,0),(1,1)] [] (0,into i w)
   ⟨jh _,by simp[into],⟨g1,g3⟩,by show qig (into i w).inn<=f;omega,hw2.symm⟩
   ⟨rfl,rfl,rfl,by simp[qaz,qat,qb2,qab,into,qak,qa9],qxh (t:=t) (L:=w.l++[(i:Int)]) (I:=w.inn.set i w.c) (O:=w.out) (m:=6) (a:=5) (f:=[(5,.cells (qcd (w.l++[(i:Int)]))),(4,.cells [.int .i64 i]),(3,.cells [qa8 t])]) rfl rfl rfl rfl (by omega)⟩ ?_)
  rintro⟨j,x⟩ ⟨hj,hne,hx,hfx,hk⟩ B hB;simp only at hj hne hx hfx hk;have xli:=hx.1.li;have xlo:=hx.1.lo;have xc0:=hx.1.c0;have xcb:=hx.2;have hget:∀m,(hm:m < t.length)->x.inn[m]'(by omega)=x.inn.getD m 0:=fun m hm=>by rw[List.getD_eq_getElem?_getD,List.getElem?_eq_getElem (by omega),Option.getD_some]
  apply qR;simp[zS,hL,atN hi,qpb,qd7 hi,Nd.cs];refine qay rfl (fun h=>?_) fun h=>?_
  ·simp at h;apply qa4;simp;repeat apply wq
   apply qa7;obtain⟨k,hkj⟩ : ∃k,k=(qar t i)[j]:=⟨_,rfl⟩;have hdrop:(qar t i).drop j=k::(qar t i).drop (j+1):=(by rw[List.drop_eq_getElem_cons h,hkj]);rw[hdrop]at hk;unfold kl at hk;apply qR;simp[zS,hL,atN hi,qd7 hi,Nd.cs,atI h,<- hkj];by_cases h0:0<=k
   ·obtain⟨m,rfl⟩:=Int.eq_ofNat_of_zero_le h0;by_cases h1:m < t.length
    ·have hgm:=hget m h1;by_cases h2:x.inn.getD m 0 < 0
     ·rw[if_pos ⟨h0,by omega,h2⟩]at hk;have h2':x.inn[m]'(by omega) < 0:=(by rw[hgm];exact h2);apply qR;simp[zS,hL,h1,qhn,ixI h1,get1 (show m < x.inn.length by omega),h2'];apply qaj rfl;have hx0:Low t.length K 0 x:=⟨hx.1,by have:=hx.2;omega⟩;have ih:=c48 t hK hkd f m x hx0 h1 h2 hfx;obtain⟨q1,q2⟩:=qvm (ks:=qar t) f 1 m x (by omega) hx h1 h2 hfx;have hkm:(Int.toNat (m:Int))=m:=(by simp);rw[hkm]at hk;have hny:=zet (n:=t.length) (ks:=qar t) f m x hne;obtain⟨y,hy⟩ : ∃y,y=vis t.length (qar t) f m x:=⟨_,rfl⟩;rw[<- hy]at ih q1 q2 hk hny;have hcall:=call_in hne hny ih;refine qai (qbo [⟨48,_,_,_,_,hcall⟩]) ?_;simp[zS,qcu,hL,qak];apply qR;simp[zS,qbd (show j<=1000000000 by omega)];exact hB _ (j+1,y) (by simp;omega) ⟨by simp;omega,hny,q1,by simp only;omega,hk⟩ ⟨[(5,4),(3,3),(0,0),(1,1)],[],rfl,rfl,rfl,by simp[qaz,qat,qb2,qab,qak,qa9],qxh (t:=t) (L:=y.l) (I:=y.inn) (O:=y.out) (m:=6) (a:=5) (f:=[(5,.cells (qcd y.l)),(3,.cells [qa8 t])]) rfl rfl rfl rfl (by omega)⟩
     ·rw[if_neg (fun hx=>h2 hx.2.2)]at hk;have h2':¬ x.inn[m]'(by omega) < 0:=(by rw[hgm];exact h2);apply qR;simp[zS,hL,h1,qhn,ixI h1,get1 (show m < x.inn.length by omega),h2'];apply qag rfl;apply qa4;simp;apply qR;simp[zS,qbd (show j<=1000000000 by omega)];exact hB _ (j+1,x) (by simp;omega) ⟨by simp;omega,hne,hx,hfx,hk⟩ ⟨[(4,4),(3,3),(0,0),(1,1)],[],rfl,rfl,rfl,by simp[qaz,qat,qb2,qab,qak,qa9],qxh (t:=t) (L:=x.l) (I:=x.inn) (O:=x.out) (m:=5) (a:=4) (f:=[(4,.cells (qcd x.l)),(3,.cells [qa8 t])]) rfl rfl rfl rfl (by omega)⟩
    ·rw[if_neg (fun hx=>h1 (by omega))]at hk;apply qR;simp[zS,hL,h1,qhn];apply qag rfl;apply qa4;simp;apply qR;simp[zS,qbd (show j<=1000000000 by omega)];exact hB _ (j+1,x) (by simp;omega) ⟨by simp;omega,hne,hx,hfx,hk⟩ ⟨[(4,4),(3,3),(0,0),(1,1)],[],rfl,rfl,rfl,by simp[qaz,qat,qb2,qab,qak,qa9],qxh (t:=t) (L:=x.l) (I:=x.inn) (O:=x.out) (m:=5) (a:=4) (f:=[(4,.cells (qcd x.l)),(3,.cells [qa8 t])]) rfl rfl rfl rfl (by omega)⟩
   ·rw[if_neg (fun hx=>h0 hx.1)]at hk;apply qR;simp[zS,hL,h0];apply qag rfl;apply qa4;simp;apply qR;simp[zS,qbd (show j<=1000000000 by omega)];exact hB _ (j+1,x) (by simp;omega) ⟨by simp;omega,hne,hx,hfx,hk⟩ ⟨[(4,4),(3,3),(0,0),(1,1)],[],rfl,rfl,rfl,by simp[qaz,qat,qb2,qab,qak,qa9],qxh (t:=t) (L:=x.l) (I:=x.inn) (O:=x.out) (m:=5) (a:=4) (f:=[(4,.cells (qcd x.l)),(3,.cells [qa8 t])]) rfl rfl rfl rfl (by omega)⟩
  ·simp at h;apply qau;simp;have hjl:j=(qar t i).length:=(by omega);rw[hjl,List.drop_length]at hk;have hk2:x=w2:=hk;subst hk2;have hst:=lay1 (L:=x.out) (i:=i) (v:=x.c) (by omega);apply qR;simp[zS,hL,ixI hi,hst];apply qR;simp[zS,qdi (show -1000000000000<=x.c+1 by omega) (show x.c+1<=1000000000000 by omega)];apply qa3;simp[zQ,Tryz.f48];refine⟨[(4,3),(0,0),(1,1)],[],?_,fit_out (t:=t) (L:=x.l) (I:=x.inn) (O:=x.out.set i x.c) hne⟩;simp[outof,qnb hne,qat,qaz,qb2,qab]
theorem qw3:∀(n:Nat),replL [.int .i64 0] n=qcd (List.replicate n 0)
 |0=>rfl
 |n+1=>by simp only[replL,qw3 n,yy,qcd,jj];rfl
theorem msInt{n:Nat} (h:n<=1000000):msB PG 30 (.int .i64 (n:Int)) (.int .i64 (n:Int))=some (fun b=>.slc b 0 n (.ex n),.cells (qcd (List.replicate n 0))):=by
 have h1:idx (n:Int) 17592186044416=some n:=qbz (by omega);have h2:idx (n:Int) (Nat.succ n)=some n:=qbz (by omega);have h3:qcf n 8=true:=by simp[qcf];omega
 have hz:qc1 PG 3=some (.int .i64 0):=zeT3;have hs:qcg PG 3=some 1:=szT3;have hb:qco PG 3=some 8:=byT3;simp only[msB,Tryz.underlying30,jb,hs,hb,h1,h2,h3,hz];simp[AV.cells,qw3]
theorem qus{σ:List (Nat × Nat)} {Φ:List (Nat × List AV)} {b n:Nat} {cap:Cap} {L:List Int} (h:qca b Φ=some (qcd L)) (hn:n=L.length):qat σ Φ (.slc b 0 n cap) (qbl L):=by subst hn;simp only[qbl,qat];refine .inl ⟨qcd L,h,?_,by simp,(qgx L).size⟩;have:=qq9 (qgx L) (k:=L.length) (by simp);rw[qey,jz (by simp)]at this;exact this
theorem vis_ne1{n:Nat} {ks:Nat->List Int} (f i:Nat) (w:Wk):(vis n ks (f+1) i w).l≠[]:=by
 have hk:∀(r:List Int) (w:Wk),w.l≠[]->(kl n (vis n ks f) r w).l≠[]:=by
  intro r;induction r with
  |nil=>intro w h;exact h
  |cons k r ih=>
   intro w h;unfold kl;split
   ·exact ih _ (zet f _ _ h)
   ·exact ih _ h
 exact hk (ks i) (into i w) (by simp[into])
def hA(t:Tr) (I O:List Int):Heap:=⟨3,[[(2,.cells (qcd O)),(1,.cells (qcd I)),(0,.cells [qa8 t])]]⟩
theorem fit_A{t:Tr} {I O:List Int} {m a b:Nat} {f:List (Nat × Blk)} (ha:getF a f=some (.cells (qcd O))) (hb:getF b f=some (.cells (qcd I))) (h0:getF 0 f=some (.cells [qa8 t])) (hab:a≠b) (ha0:a≠0) (hb0:b≠0) :
  FitH 0 [(a,2),(b,1),(0,0)] [] ⟨m,[f]⟩ (hA t I O):=by
 refine .rows (by simp[hab,ha0,hb0]) (by simp) (by simp[hA,Heap.ents]) (by simp[hA]) (by simp) (by simp[hA]) ?_;intro e he;simp[hA,Heap.ents]at he;rcases he with rfl|rfl|rfl
 ·exact⟨a,_,by simp,by simp[Heap.get,getFs,ha],rfl,qbj _⟩
 ·exact⟨b,_,by simp,by simp[Heap.get,getFs,hb],rfl,qbj _⟩
 ·exact⟨0,_,by simp,by simp[Heap.get,getFs,h0],rfl,by simp[qa9]⟩
theorem call_all{t:Tr} {f:FuncId} {C:Ctx} {n:Nat} {I O L' I' O':List Int} {c c':Int} (hne':L'≠[])
  (h:CallAt C f [qak t,.int .i64 0,lA 2 [],.slc 0 0 n (.ex n),.slc 1 0 n (.ex n),.int .i64 c] (hW [] I O) (.tup [lA 3 L',.int .i64 c']) (hW' L' I' O')) :
  CallAt C f [qak t,.int .i64 0,.nilS,.slc 1 0 n (.ex n),.slc 2 0 n (.ex n),.int .i64 c] (hA t I O) (.tup [.slc 3 0 L'.length (.rest 1),.int .i64 c'])
   ⟨4,[[(3,.cells (qcd L')),(2,.cells (qcd O')),(1,.cells (qcd I')),(0,.cells [qa8 t])]]⟩:=by
 have hf:FitH 0 [(1,0),(2,1)] [] (hA t I O) (hW [] I O):=by
  refine .rows (by simp) (by simp) (by simp[hW,lF,qe4,Heap.ents]) (by simp[hW]) (by simp) (by simp[hW]) ?_;intro e he;simp[hW,lF,qe4,Heap.ents]at he;rcases he with rfl|rfl
  ·exact⟨1,_,by simp,by simp[hA,zG],rfl,qbj _⟩
  ·exact⟨2,_,by simp,by simp[hA,zG],rfl,qbj _⟩
 have:=h.framed (H:=hA t I O) (H':=⟨4,[[(3,.cells (qcd L')),(2,.cells (qcd O')),(1,.cells (qcd I')),(0,.cells [qa8 t])]]⟩) (σ:=[(1,0),(2,1)])
  (args:=[qak t,.int .i64 0,.nilS,.slc 1 0 n (.ex n),.slc 2 0 n (.ex n),.int .i64 c]) hf ?_ ?_ (by simp[hW,hW'])
 ·simpa[qnb hne',qiu,qgr,qg9,qdr,hA,hW]using this
 ·simp[lA,qdo,qaz,qat,qb2,qbe,qab]
 ·refine⟨by simp[hA,hW,hW'],by simp[Heap.ents],?_⟩;intro e he;have hI:qgr (qg9 [(1,0),(2,1)] 3 3) (qcd I')=qcd I':=qbt _ (qbj _);have hO:qgr (qg9 [(1,0),(2,1)] 3 3) (qcd O')=qcd O':=qbt _ (qbj _);have hL':qgr (qg9 [(1,0),(2,1)] 3 3) (qcd L')=qcd L':=qbt _ (qbj _);simp[Heap.ents]at he;rcases he with rfl|rfl|rfl|rfl
  ·exact .inl ⟨(3,.cells (qcd L')),by simp[hW',qhh hne',Heap.ents],by simp[hA,hW,qky,hL'];simp[qg9,qdr]⟩
  ·exact .inl ⟨(1,.cells (qcd O')),by simp[hW',qhh hne',Heap.ents],by simp[hA,hW,qky,hO];simp[qg9,qdr]⟩
  ·exact .inl ⟨(0,.cells (qcd I')),by simp[hW',qhh hne',Heap.ents],by simp[hA,hW,qky,hI];simp[qg9,qdr]⟩
  ·exact .inr ⟨by simp[hA,Heap.ents],by simp⟩
def finW(n:Nat) (ks:Nat->List Int):Wk:=if n=0 then w0 0 else vis n ks n 0 (w0 n)
theorem c26(t:Tr) (hn:t.length<=1000) (hkd:∀x,x∈t->x.kids.length<=1000) :
  CA T 26 [qak t] zH (.tup [qbl (qb8 t.length (qar t)),qbl (finW t.length (qar t)).inn,qbl (finW t.length (qar t)).out]) zH:=by
 refine qa1 (s0:=⟨[0,1,2,3,4,5,6,7,8],[qak t,uD,uD,uD,uD,uD,uD,uD,uD],[],42,⟨0,[[]]⟩⟩) Tryz.func26 rfl rfl rfl ?_;apply qR;simp[zS,qak];repeat apply wq
 refine qcc mixed qbc (by decide +kernel) fun B_ hB_=>?_;simp[zS,qdx,qc9,qnl,qib,qc4,qbn,qas,qcb,qcs,qe5,qc8,Heap.lay,qdk,qb4,qb0,qhn,msInt (show t.length<=1000000 by omega)];apply qR;simp[zS];refine qa7 (qb1 (fun x:Nat × List Int × List Int=>(⟨[0,1,2,3,4,5,6,7,8],[qak t,.ptr 0 0,uD,uD,uD,.slc 1 0 t.length (.ex t.length),.slc 2 0 t.length (.ex t.length),.int .i64 x.1,uD],[],42,hA t x.2.1 x.2.2⟩ : St))
  (fun x=>x.1<=t.length/\x.2.1.length=t.length/\x.2.2.length=t.length/\x.2.1.take x.1=List.replicate x.1 (-1)/\x.2.2.take x.1=List.replicate x.1 (-1)) (fun x=>t.length - x.1) [(8,2),(4,1),(0,0)] [] (0,List.replicate t.length 0,List.replicate t.length 0)
  ⟨jh _,by simp,by simp,by simp,by simp⟩
  ⟨rfl,rfl,rfl,by simp[qaz,qat,qb2,qab,qak,qa9],fit_A (by simp[getF]) (by simp[getF]) (by simp[getF]) (by omega) (by omega) (by omega)⟩ ?_)
 rintro⟨i,I,O⟩ ⟨hi,hI,hO,hti,hto⟩ B hB;simp only at hi hI hO hti hto;apply qR;simp[zS,hA,qer];refine qay rfl (fun h=>?_) fun h=>?_
 ·simp at h;apply qa4;simp;repeat apply wq
  apply qa7;have l1:=lay1 (L:=I) (i:=i) (v:=-1) (by omega);have l2:=lay1 (L:=O) (i:=i) (v:=-1) (by omega);apply qR;simp[zS,ixI h,l1,l2];apply qR;simp[zS,qbd (show i<=1000000000 by omega)];refine hB _ (i+1,I.set i (-1),O.set i (-1)) (by simp;omega) ⟨by simp;omega,by simp[hI],by simp[hO],?_,?_⟩ ⟨[(2,2),(1,1),(0,0)],[],rfl,rfl,rfl,by simp[qaz,qat,qb2,qab,qak,qa9],fit_A (by simp[getF]) (by simp[getF]) (by simp[getF]) (by omega) (by omega) (by omega)⟩
  ·simp only;rw[jw (by simp;omega),List.take_set_of_le (jc _),hti,List.replicate_succ'];simp
  ·simp only;rw[jw (by simp;omega),List.take_set_of_le (jc _),hto,List.replicate_succ'];simp
 ·simp at h;have hin:i=t.length:=by omega
  subst hin;rw[jz (by omega)]at hti hto;subst hti hto;apply qau;simp;apply qR;simp[zS];by_cases hz:t.length=0
  ·have ht:t=[]:=List.length_eq_zero_iff.1 hz;subst ht;apply qR;simp[zS,qer];apply qag rfl;apply qa4;simp;apply qR;simp[zS];apply qa3;simp[zQ,Tryz.f26];exact⟨[],[],by simp[qat,qaz,qbl,qb8,finW,w0],FitH.empty⟩
  ·have hpos:0 < t.length:=(by omega);have hr:qig (w0 t.length).inn<=t.length:=(by simp[w0,qiy]);have hw:=c48 (T:=T) t hn hkd t.length 0 (w0 t.length) (zer _) (by omega) (by simp[w0,List.getD_eq_getElem?_getD,Nat.pos_of_ne_zero hz]) hr;obtain⟨m,hm⟩ : ∃m,t.length=m+1:=⟨t.length - 1,by omega⟩;have hny:(vis t.length (qar t) t.length 0 (w0 t.length)).l≠[]:=(by have:=vis_ne1 (n:=t.length) (ks:=qar t) m 0 (w0 t.length);rw[<- hm]at this;exact this);have hvo:qb8 t.length (qar t)=(vis t.length (qar t) t.length 0 (w0 t.length)).l:=(by simp[qb8,hz]);have hfo:finW t.length (qar t)=vis t.length (qar t) t.length 0 (w0 t.length):=(by simp[finW,hz]);obtain⟨y1,y2⟩:=qvm (ks:=qar t) t.length 0 0 (w0 t.length) (by omega) (zer _) (by omega) (by simp[w0,List.getD_eq_getElem?_getD,Nat.pos_of_ne_zero hz]) hr;rw[hvo,hfo];obtain⟨y,hy⟩ : ∃y,y=vis t.length (qar t) t.length 0 (w0 t.length):=⟨_,rfl⟩;rw[<- hy]at hw hny y1 ⊢;have hcall:=call_all (t:=t) hny hw;simp only[w0]at hcall;apply qR;simp[zS,qer,hpos];apply qaj rfl;refine qai (qbo [⟨48,_,_,_,_,hcall⟩]) ?_;simp[zS,qcu,hA,qak];apply qR;simp[zS];apply qa3;simp[zQ,Tryz.f26];refine⟨[],[(3,qcd y.l),(1,qcd y.inn),(2,qcd y.out)],?_,.froze (by simp) fun x hx=>?_⟩
   ·simp only[qat,qaz];exact .inl ⟨qus (σ:=[]) (cap:=.rest 1) (by simp[qca]) rfl,qus (σ:=[]) (cap:=.ex t.length) (by simp[qca]) y1.1.li.symm,qus (σ:=[]) (cap:=.ex t.length) (by simp[qca]) y1.1.lo.symm,trivial⟩
   ·simp at hx;rcases hx with rfl|rfl|rfl
    ·exact⟨_,by simp[zG],qaf (qbj _),qbj _⟩
    ·exact⟨_,by simp[zG],qaf (qbj _),qbj _⟩
    ·exact⟨_,by simp[zG],qaf (qbj _),qbj _⟩
def qwl(t:Tr):Prop:=t.length<=1000/\∀x,x∈t->x.kids.length<=1000/\x.attrs.length<=1000
def zfj(t:Tr):Prop:=t.length<=50/\qwl t
def e26:Entry PG:=mkE 26 [[]] (fun t:Tr=>[qak t]) qwl (fun t=>.tup [qbl (qb8 t.length (qar t)),qbl (finW t.length (qar t)).inn,qbl (finW t.length (qar t)).out]) fun t ht=>c26 (T:=[]) t ht.1 fun x hx=>(ht.2 x hx).1
@[simp]theorem ok_aTree(t:Tr):okV (qak t)=true:=by simp[qak,qa8,okV,qab,qa9]
theorem qip(H:Heap) (t:Tr):qet H [] (qak t)=some (qak t):=qao (by simp)
theorem injT(x y:Tr) (h:[qak x]=[qak y]):x=y:=by simp at h;exact qe9 h
theorem k26(hT:qIn 26 T e26) {t:Tr} (ht:qwl t) (H:Heap):qb7 (ctx T) (.fn 26) [qak t] H=some (.tup [qbl (qb8 t.length (qar t)),qbl (finW t.length (qar t)).inn,qbl (finW t.length (qar t)).out],H):=
 qd2 hT injT t ht (by simp[qa9]) (by simp[qga,qip]) H
theorem qyb{q:Nat} (h:q<=1000000000):wr .i64 (((q+1:Nat):Int) - 1)=some (q:Int):=by rw[qdi (by omega) (by omega)];simp
theorem zh1{n:Nat} {g:Nat->Wk->Wk} {P:Wk->Prop} (hg:∀i w,i < n->w.inn.getD i 0 < 0->P w->P (g i w)):∀(ks:List Int) (w:Wk),P w->P (kl n g ks w)
 |[],w,h=>h
 |k::r,w,h=>by
  unfold kl;split
  next hk=>exact zh1 hg r _ (hg k.toNat w (by omega) hk.2.2 h)
  ·exact zh1 hg r w h
theorem zeu{n:Nat} {ks:Nat->List Int} {P:Wk->Prop} (hin:∀i w,i < n->w.inn.getD i 0 < 0->P w->P (into i w)) (hout:∀i w,P w->P (outof i w)):∀(f i:Nat) (w:Wk),i < n->w.inn.getD i 0 < 0->P w->P (vis n ks f i w)
 |0,i,w,_,_,h=>h
 |f+1,i,w,hi,hn,h=>by unfold vis;exact hout _ _ (zh1 (fun i w hi hn h=>zeu hin hout f i w hi hn h) _ _ (hin i w hi hn h))
structure LOK (n:Nat) (w:Wk):Prop where
 li:w.inn.length=n
 c0:0<=w.c
 rng:∀x,x∈w.l->0<=x/\x < (n:Int)/\0<=w.inn.getD x.toNat (-1)
 nd:w.l.Nodup
theorem LOK.into{n i:Nat} {w:Wk} (h:LOK n w) (hi:i < n) (hn:w.inn.getD i 0 < 0):LOK n (into i w) where
 li:=by simp[Go.Proofs.YtocnpnnplllneaaGreatDoor.into,h.li]
 c0:=by have:=h.c0;simp only[Go.Proofs.YtocnpnnplllneaaGreatDoor.into];omega
 rng:=fun x hx=>by
  have hl:=h.li;have hc:=h.c0;simp only[Go.Proofs.YtocnpnnplllneaaGreatDoor.into,jl,ju]at hx ⊢;have hset:∀j,j < n->(w.inn.set i w.c).getD j (-1)=if i=j then w.c else w.inn.getD j (-1):=fun j hj=>by simp only[List.getD_eq_getElem?_getD,List.getElem?_set];split<;>simp_all
  rcases hx with hx|rfl
  ·obtain⟨h1,h2,h3⟩:=h.rng x hx;refine⟨h1,h2,?_⟩;rw[hset _ (by omega)];split<;>omega
  ·refine⟨by omega,by omega,?_⟩;rw[hset _ (by omega)];simp[hc]
 nd:=by simp only[Go.Proofs.YtocnpnnplllneaaGreatDoor.into];refine yb.2 ⟨h.nd,by simp,?_⟩;intro a ha b hb;simp at hb;subst hb;rintro rfl;have h3:=(h.rng _ ha).2.2;have hl:=h.li;simp only[List.getD_eq_getElem?_getD,jU]at h3 hn;rw[List.getElem?_eq_getElem (by omega)]at h3 hn;simp at h3 hn;omega
theorem LOK.out{n i:Nat} {w:Wk} (h:LOK n w):LOK n (outof i w):=⟨h.li,by have:=h.c0;simp only[outof];omega,h.rng,h.nd⟩
theorem qwj{n:Nat} {ks:Nat->List Int} (hn:0 < n):LOK n (vis n ks n 0 (w0 n)):=
 zeu (fun i w hi h1 h2=>h2.into hi h1) (fun i w h=>h.out) n 0 (w0 n) hn (by simp[w0,List.getD_eq_getElem?_getD,hn]) ⟨by simp[w0],by simp[w0],by simp[w0],by simp[w0]⟩
theorem qhg{n:Nat} {ks:Nat->List Int} {x:Int} (h:x∈qb8 n ks):0<=x/\x < (n:Int):=by
 unfold qb8 at h;split at h
 ·simp at h
 ·obtain⟨h1,h2,_⟩:=(qwj (n:=n) (by omega)).rng x h;exact⟨h1,h2⟩
theorem qlt{n:Nat} {ks:Nat->List Int}:(qb8 n ks).Nodup:=by
 unfold qb8;split
 ·simp
 ·exact(qwj (n:=n) (by omega)).nd
theorem qmx{n:Nat} {ks:Nat->List Int}:(qb8 n ks).length<=n:=by
 unfold qb8;split
 ·simp
 ·rename_i hz;have hr:qig (w0 n).inn<=n:=by simp[w0,qiy]
  have:=(qvm (n:=n) (ks:=ks) n 0 0 (w0 n) (by omega) (zer _) (by omega) (by simp[w0,List.getD_eq_getElem?_getD,Nat.pos_of_ne_zero hz]) hr).1.1.lb;omega
theorem FitH.own1{k b m':Nat} {τ:List (Nat × Nat)} {es:List AV} {sz:Nat} {H:Heap} {g:List (Nat × Blk)} (he:Elems sz es) (hb:es≠[]->H.get b=some (.cells (qa5 es)))
  (n1:(((b,k)::τ).map (·.1)).Nodup) (n2:(((b,k)::τ).map (·.2)).Nodup) (n3:(k::g.map (·.1)).Nodup) (lt:∀x,x∈(b,k)::τ->x.2 < m')
  (src:∀e,e∈g->∃b cs,(b,e.1)∈τ/\H.get b=some (.cells cs)/\e.2=.cells cs/\qa9 cs=true):FitH 0 ((b,k)::τ) [] H ⟨m',[qe4 k es++g]⟩:=by
 refine .rows n1 n2 ?_ lt (by simp) (jh _) ?_
 ·cases es with
  |nil=>rw[jr]at n3;simpa[qe4,Heap.ents]using n3.2
  |cons x r=>simpa[qe4,Heap.ents]using n3
 ·intro e h;cases hes:es with
  |nil=>rw[hes]at h;simp[qe4,Heap.ents]at h;obtain⟨b',cs,h1,h2⟩:=src e h;exact⟨b',cs,jp _ h1,h2⟩
  |cons x r=>
   rw[hes]at h;simp only[qe4,Heap.ents,je,js,jg,List.cons_append,jq,ja]at h;rcases h with rfl|h
   ·exact⟨b,_,jA,by rw[hb (by simp[hes]),hes],rfl,by rw[<- hes];exact he.pure⟩
   ·obtain⟨b',cs,h1,h2⟩:=src e h;exact⟨b',cs,jp _ h1,h2⟩
def nd0:Nd:=⟨0,0,[],[],[],0,[]⟩
def qa0(t:Tr) (i:Int):Nd:=t.getD i.toNat nd0
theorem qba{t:Tr} {i:Nat} (h:i < t.length):qa0 t (i:Int)=t[i]:=by simp[qa0,List.getD_eq_getElem?_getD,List.getElem?_eq_getElem h]
theorem qb5{t:Tr} {i:Int} (h0:0<=i) (h:i < (t.length:Int)):qa0 t i∈t:=by obtain⟨j,rfl⟩ : ∃j:Nat,i=j:=⟨i.toNat,by omega⟩;rw[qba (by omega)];exact jy _
theorem atX{t:Tr} {i:Int} (h0:0<=i) (h:i < (t.length:Int)):qav PG 22 (qa8 t) (.int .i64 i)=some (.fptr (qa0 t i).cs 0):=by obtain⟨j,rfl⟩ : ∃j:Nat,i=j:=⟨i.toNat,by omega⟩;rw[atN (by omega),qba (by omega)]
@[simp]theorem sub_cs(n:Nd):qek 0 7 n.cs=some n.cs:=rfl
theorem qxe(n:Nd):AV.agg n.cs=qa6 n:=rfl
theorem ints_app{L:List Int} {v:Int}:qcd (L++[v])=qcd L++[.int .i64 v]:=by simp[qcd,qbm]
def qro(a:At1):Bool:=decide (a.1.length<=40/\a.2.length<=150)
def qk8(L:List At1):Bool:=decide (L.length<=14) && L.all qro
def qlc(n:Nd):Bool:=decide (n.name.length<=40) && (decide (n.data.length<=300) && (decide (n.kids.length<=60) && qk8 n.attrs))
def qnj(t:Tr) (m:Int):Bool:=decide ((t.length:Int)<=m) && t.all qlc
theorem c49(L:List At1):CA T 49 [qal L] zH (.bool (qk8 L)) zH:=by
 refine qa1 (s0:=⟨[0,2,4,8,9,10],[qal L,uD,uD,uD,uD,uD],[],25,⟨0,[[]]⟩⟩) Tryz.func49 rfl rfl rfl ?_;apply qR;simp[zS];by_cases hl:14 < L.length
 ·have hl':(14:Int) < (L.length:Int):=by omega
  apply qR;simp[zS,qh2,hl'];apply qaj rfl;apply qR;simp[zS];apply qa3;simp[zQ,Tryz.f49];exact qa2 rfl (by simp[qk8];omega)
 ·have hl':¬ (14:Int) < (L.length:Int):=by omega
  apply qR;simp[zS,qh2,hl'];apply qag rfl;apply qa4;simp;apply qR;simp[zS,qh2];refine qa7 (qb1 (fun i:Nat=>(⟨[0,2,4,8,9,10],[qal L,uD,uD,qal L,.int .i64 (L.length:Nat),.int .i64 i],[],25,⟨0,[[]]⟩⟩ : St))
   (fun i=>i<=L.length/\L.all qro=(L.drop i).all qro) (fun i=>L.length - i) [] [] 0 ⟨jh _,by simp⟩ ⟨rfl,rfl,rfl,by simp[qaz,qat,qab,qa9,qal],FitH.nothing⟩ ?_)
  rintro i ⟨hi,he⟩ B hB;apply qR;simp[zS];repeat apply wq
  refine qay rfl (fun h=>?_) fun h=>?_
  ·simp at h;rw[List.drop_eq_getElem_cons h,List.all_cons]at he;apply qa4;simp;repeat apply wq
   apply qa7;apply qR;simp[zS,atA h,rdA1];by_cases h1:40 < L[i].1.length
   ·have h1':(40:Int) < (L[i].1.length:Int):=(by omega);have hf:qro L[i]=false:=(by simp[qro];omega);apply qR;simp[zS,h1'];apply qaj rfl;apply qR;simp[zS];apply qa3;simp[zQ,Tryz.f49];exact qa2 rfl (by simp only[qk8,he,hf];simp)
   ·have h1':¬ (40:Int) < (L[i].1.length:Int):=(by omega);by_cases h2:150 < L[i].2.length
    ·have h2':(150:Int) < (L[i].2.length:Int):=(by omega);have hf:qro L[i]=false:=(by simp[qro];omega);apply qR;simp[zS,h1',h2'];apply qaj rfl;apply qR;simp[zS];apply qa3;simp[zQ,Tryz.f49];exact qa2 rfl (by simp only[qk8,he,hf];simp)
    ·have h2':¬ (150:Int) < (L[i].2.length:Int):=(by omega);have hf:qro L[i]=true:=(by simp[qro];omega);apply qR;simp[zS,h1',h2'];apply qag rfl;apply qa4;simp;apply qR;simp[zS,qbd (show i<=1000000000 by omega)];refine hB _ (i+1) (by omega) ⟨by omega,by rw[he,hf,jQ]⟩ ⟨[],[],⟨rfl,rfl,rfl,by simp[qaz,qat,qab,qa9,qal],FitH.nothing⟩⟩
  ·simp at h;rw[jt h]at he;apply qau;simp;apply qR;simp[zS];apply qa3;simp[zQ,Tryz.f49];exact qa2 rfl (by simp only[qk8,he];simp;omega)
def e49:Entry PG:=mkE 49 [[2]] (fun x:List At1=>[qal x]) (fun _=>True) (fun x=>.bool (qk8 x)) fun x _=>c49 (T:=[]) x
theorem injAs(x y:List At1) (h:[qal x]=[qal y]):x=y:=by simp only[j4]at h;exact qf3 h.1
theorem k49(hT:qIn 49 T e49) (L:List At1) (H:Heap):qb7 (ctx T) (.fn 49) [qal L] H=some (.bool (qk8 L),H):=
 qac hT injAs L trivial rfl (by simp[qjq])
theorem c27(hA:qIn 49 T e49) (n:Nd):CA T 27 [qa6 n] zH (.bool (qlc n)) zH:=by
 have hk:=fun H=>k49 hA n.attrs H;obtain⟨kind,space,name,attrs,data,up,kids⟩:=n;simp only[qal]at hk;rcases jG (decide ((name.length:Int)<=40))with b1|b1<;>rcases jG (decide ((data.length:Int)<=300))with b2|b2<;>rcases jG (decide ((kids.length:Int)<=60))with b3|b3;all_goals
  have c1:=b1;have c2:=b2;have c3:=b3;simp only[decide_eq_true_eq,decide_eq_false_iff_not]at c1 c2 c3;refine qa1 (s0:=⟨[0,1,2],[qa6 ⟨kind,space,name,attrs,data,up,kids⟩,uD,uD],[],24,⟨0,[[]]⟩⟩) Tryz.func27 rfl rfl rfl ?_
  (repeat (first
   |(apply qam)
   |(apply qa7)
   |(apply qcm;simp only[qan,qah])
   |((refine qai qbc ?_);simp[zS,qa6,Nd.cs,qbm,qal,qbl,qer,c1,c2,c3,hk])
   |apply qaj rfl
   |apply qag rfl
   |((apply qa4);simp only[qan,qah])
   |((apply qau);simp)))
  have e1:(name.length<=40)↔((name.length:Int)<=40):=by omega
  have e2:(data.length<=300)↔((data.length:Int)<=300):=by omega
  have e3:(kids.length<=60)↔((kids.length:Int)<=60):=by omega
  apply qa3;simp[zQ,Tryz.f27];exact qa2 rfl (by simp only[qlc,e1,e2,e3,b1,b2,b3];simp)
theorem injN1(x y:Nd) (h:[qa6 x]=[qa6 y]):x=y:=by simp only[j4]at h;exact qcw h.1
def e27:Entry PG:=mkE 27 [[]] (fun x:Nd=>[qa6 x]) (fun _=>True) (fun x=>.bool (qlc x)) fun x _=>c27 (T:=[e49]) rfl x
theorem k27(hT:qIn 27 T e27) (n:Nd) (H:Heap):qb7 (ctx T) (.fn 27) [qa6 n] H=some (.bool (qlc n),H):=
 qac hT injN1 n trivial rfl (by simp[th_aNode])
@[simp]theorem len_cs(n:Nd):n.cs.length=7:=rfl
@[simp]theorem sng_cs(n:Nd):allSingle n.cs=true:=rfl
@[simp]theorem lay_cs(n:Nd) (a b c d e f g:AV):qif n.cs [a,b,c,d,e,f,g]=some n.cs:=rfl
@[simp 5000]theorem ready_cs(H:Heap) (b:Nat) (n:Nd):H.ready b n.cs=H:=rfl
theorem c14(hN:qIn 27 T e27) (t:Tr) (m:Int) (hl:m<=1000000):CA T 14 [qak t,.int .i64 m] zH (.bool (qnj t m)) zH:=by
 refine qa1 (s0:=⟨[0,1,2,4,6,13,14,15],[qak t,.int .i64 m,uD,uD,uD,uD,uD,uD],[],23,⟨0,[[]]⟩⟩) Tryz.func14 rfl rfl rfl ?_;apply qR;simp[zS,qak];by_cases hm:m < (t.length:Int)
 ·apply qR;simp[zS,qhn,hm];apply qaj rfl;apply qR;simp[zS];apply qa3;simp[zQ,Tryz.f14];exact qa2 rfl (by simp[qnj];omega)
 ·apply qR;simp[zS,qhn,hm];apply qag rfl;apply qa4;simp;apply qR;simp[zS,qhn];refine qa7 (qb1 (fun i:Nat=>(⟨[0,1,2,4,6,13,14,15],[uD,.int .i64 m,uD,uD,uD,qa8 t,.int .i64 (t.length:Nat),.int .i64 i],[],23,⟨0,[[]]⟩⟩ : St))
   (fun i=>i<=t.length/\t.all qlc=(t.drop i).all qlc) (fun i=>t.length - i) [] [] 0 ⟨jh _,by simp⟩ ⟨rfl,rfl,rfl,by simp[qaz,qat,qab,qa9,qa8],FitH.nothing⟩ ?_)
  rintro i ⟨hi,he⟩ B hB;apply qR;simp[zS];repeat apply wq
  refine qay rfl (fun h=>?_) fun h=>?_
  ·simp at h;rw[List.drop_eq_getElem_cons h,List.all_cons]at he;apply qa4;simp;repeat apply wq
   apply qa7;repeat apply wq
   refine qai qbc ?_;simp[zN,atN h];cases hf:qlc t[i]with
   |false=>apply qR;simp[zS,qxe,k27 hN,hf];apply qaj rfl;apply qR;simp[zS];apply qa3;simp[zQ,Tryz.f14];exact qa2 rfl (by simp only[qnj,he,hf];simp)
   |true=>apply qR;simp[zS,qxe,k27 hN,hf];apply qag rfl;apply qa4;simp;apply qR;simp[zS,qbd (show i<=1000000000 by omega)];refine hB _ (i+1) (by omega) ⟨by omega,by rw[he,hf,jQ]⟩ ⟨[],[],⟨rfl,rfl,rfl,by simp[qaz,qat,qab,qa9,qa8],FitH.nothing⟩⟩
  ·simp at h;rw[jt h]at he;apply qau;simp;apply qR;simp[zS];apply qa3;simp[zQ,Tryz.f14];exact qa2 rfl (by simp only[qnj,he];simp;omega)
theorem qx4(x y:Tr × Int) (h:[qak x.1,.int .i64 x.2]=[qak y.1,.int .i64 y.2]):x=y:=by simp at h;exact yz (qe9 h.1) h.2
def e14:Entry PG:=mkE 14 [[],[]] (fun x:Tr × Int=>[qak x.1,.int .i64 x.2]) (fun x=>x.2<=1000000) (fun x=>.bool (qnj x.1 x.2)) fun x hx=>c14 (T:=[e27]) rfl x.1 x.2 hx
theorem k14(hT:qIn 14 T e14) (t:Tr) {m:Int} (hm:m<=1000000) (H:Heap):qb7 (ctx T) (.fn 14) [qak t,.int .i64 m] H=some (.bool (qnj t m),H):=
 qac hT qx4 (t,m) hm rfl (by simp[qip])
theorem qxj{t:Tr} {m:Int} (hm:m<=50) (h:qnj t m=true):zfj t:=by simp only[qnj,jd,decide_eq_true_eq,ya]at h;refine⟨by omega,by omega,fun x hx=>?_⟩;have:=h.2 x hx;simp only[qlc,qk8,jd,decide_eq_true_eq]at this;omega
theorem FitH.id1{m':Nat} {H:Heap} {g:List (Nat × Blk)} (nd:(g.map (·.1)).Nodup) (lt:∀e,e∈g->e.1 < m') (src:∀e,e∈g->∃cs,H.get e.1=some (.cells cs)/\e.2=.cells cs/\qa9 cs=true):FitH 0 (g.map fun e=>(e.1,e.1)) [] H ⟨m',[g]⟩:=by
 refine .rows (by simpa[yo]using nd) (by simpa[yo]using nd) (by simpa[Heap.ents]using nd) ?_ (by simp) (jh _) ?_
 ·intro x hx;obtain⟨e,he,rfl⟩:=ji.1 hx;exact lt e he
 ·intro e he;have he:e∈g:=by simpa[Heap.ents]using he
  obtain⟨cs,h1,h2,h3⟩:=src e he;exact⟨e.1,cs,ji.2 ⟨e,he,rfl⟩,h1,h2,h3⟩
section
variable (n:Nd)
@[simp]theorem gcs0:qcy n.cs 0=some (.int .i64 n.kind):=rfl
@[simp]theorem gcs1:qcy n.cs 1=some (.int .i64 n.space):=rfl
@[simp]theorem gcs2:qcy n.cs 2=some (.str n.name):=rfl
@[simp]theorem gcs3:qcy n.cs 3=some (qal n.attrs):=rfl
@[simp]theorem gcs4:qcy n.cs 4=some (.str n.data):=rfl
@[simp]theorem gcs5:qcy n.cs 5=some (.int .i64 n.up):=rfl
@[simp]theorem gcs6:qcy n.cs 6=some (qbl n.kids):=rfl
@[simp]theorem qf8:qa9 n.cs=true:=by simp[Nd.cs,qa9,qbm,qab]
end
def qde(L:List Int) (n:Int):Nat:=L.countP fun x=>decide (x=n)
theorem c28(L:List Int) (n:Int) (hl:L.length<=1000000):CA T 28 [qbl L,.int .i64 n] zH (.int .i64 (qde L n:Nat)) zH:=by
 refine qa1 (s0:=⟨[0,1,4,5,6],[qbl L,.int .i64 n,uD,uD,uD],[],22,⟨0,[[]]⟩⟩) Tryz.func28 rfl rfl rfl ?_;apply qR;simp[zS];apply qR;simp[zS];apply qR;simp[zS];refine qa7 (qb1 (fun i:Nat=>(⟨[0,1,4,5,6],[qbl L,.int .i64 n,uD,.int .i64 (qde (L.take i) n:Nat),.int .i64 i],[],22,⟨0,[[]]⟩⟩ : St))
  (fun i=>i<=L.length) (fun i=>L.length - i) [] [] 0 (jh _) ⟨rfl,rfl,rfl,by simp[qaz,qat,qab,qa9,qbl,qde],FitH.nothing⟩ ?_)
 rintro i hi B hB;have hc:qde (L.take i) n<=i:=jK List.countP_le_length (by simp;omega);apply qR;simp[zS,qpb];refine qay rfl (fun h=>?_) fun h=>?_
 ·simp at h;apply qa4;simp;repeat apply wq
  apply qa7;by_cases hv:L[i]=n
  ·have hn:qde (L.take (i+1)) n=qde (L.take i) n+1:=(by rw[jw h];simp[qde,hv]);apply qR;simp[zS,atI h,hv];apply qaj rfl;apply qR;simp[zS,qbd (show qde (L.take i) n<=1000000000 by omega)];apply qR;simp[zS,qbd (show i<=1000000000 by omega)];exact hB _ (i+1) (by omega) (by omega) ⟨[],[],⟨rfl,rfl,rfl,by simp[qaz,qat,qab,qa9,qbl,hn],FitH.nothing⟩⟩
  ·have hn:qde (L.take (i+1)) n=qde (L.take i) n:=(by rw[jw h];simp only[qde,List.countP_append,yJ,List.countP_nil];simp[hv]);apply qR;simp[zS,atI h,hv];apply qag rfl;apply qa4;simp;apply qR;simp[zS,qbd (show i<=1000000000 by omega)];exact hB _ (i+1) (by omega) (by omega) ⟨[],[],⟨rfl,rfl,rfl,by simp[qaz,qat,qab,qa9,qbl,hn],FitH.nothing⟩⟩
 ·simp at h;apply qau;simp;apply qR;simp[zS];apply qa3;simp[zQ,Tryz.f28];exact qa2 rfl (by rw[jz h])
theorem injLI(x y:List Int × Int) (h:[qbl x.1,.int .i64 x.2]=[qbl y.1,.int .i64 y.2]):x=y:=by simp only[j4]at h;obtain⟨h1,h2,_⟩:=h;simp at h2;exact yz (qrc h1) h2
def e28:Entry PG:=mkE 28 [[1],[]] (fun x:List Int × Int=>[qbl x.1,.int .i64 x.2]) (fun x=>x.1.length<=1000000) (fun x=>.int .i64 (qde x.1 x.2:Nat)) fun x hx=>c28 (T:=[]) x.1 x.2 hx
theorem k28(hT:qIn 28 T e28) {L:List Int} (n:Int) (hl:L.length<=1000000) (H:Heap):qb7 (ctx T) (.fn 28) [qbl L,.int .i64 n] H=some (.int .i64 (qde L n:Nat),H):=
 qac hT injLI (L,n) hl rfl (by simp[qbl])
def qd9(t:Tr):Nat->Int->Bool
 |0,_=>false
 |f+1,i=>if (qa0 t i).up = -1 then true else qd9 t f (qa0 t i).up
def qtm(t:Tr):Prop:=∀x,x∈t->x.up = -1\/(0<=x.up/\x.up < (t.length:Int))
theorem c29(t:Tr) (hl:t.length<=1000000) (hu:qtm t) (i0:Int) (h0:0<=i0) (h1:i0 < (t.length:Int)):CA T 29 [qak t,.int .i64 i0] zH (.bool (qd9 t (t.length+1) i0)) zH:=by
 refine qa1 (s0:=⟨[0,1,2,4,5],[qak t,.int .i64 i0,uD,uD,uD],[],26,⟨0,[[]]⟩⟩) Tryz.func29 rfl rfl rfl ?_;apply qR;simp[zS,qak];apply qR;simp[zS];refine qa7 (qb1 (fun x:Nat × Int=>(⟨[0,1,2,4,5],[uD,.int .i64 x.2,.ptr 0 0,uD,.int .i64 x.1],[],26,⟨1,[[(0,.cells [qa8 t])]]⟩⟩ : St))
  (fun x=>x.1<=t.length+1/\0<=x.2/\x.2 < (t.length:Int)/\qd9 t (t.length+1) i0=qd9 t (t.length+1 - x.1) x.2) (fun x=>t.length+1 - x.1) [(0,0)] [] (0,i0) ⟨jh _,h0,h1,rfl⟩
  ⟨rfl,rfl,rfl,by simp[qaz,qat,qb2,qab],.id1 (g:=[(0,.cells [qa8 t])]) (by simp) (by simp) (by simp[zG,qa9])⟩ ?_)
 rintro⟨k,i⟩ ⟨hk,j0,j1,he⟩ B hB;simp only at hk j0 j1 he;apply qR;simp[zS,qhn];refine qay rfl (fun h=>?_) fun h=>?_
 ·simp at h;apply qa4;simp;repeat apply wq
  apply qa7;rw[show t.length+1 - k=(t.length - k)+1 by omega,show qd9 t (t.length - k+1) i=if (qa0 t i).up = -1 then true else qd9 t (t.length - k) (qa0 t i).up from rfl]at he;by_cases hv:(qa0 t i).up = -1
  ·rw[if_pos hv]at he;apply qR;simp[zS,atX j0 j1,hv];apply qaj rfl;apply qR;simp[zS];apply qa3;simp[zQ,Tryz.f29];exact qa2 rfl (by rw[he])
  ·rw[if_neg hv]at he;apply qR;simp[zS,atX j0 j1,hv];apply qag rfl;apply qa4;simp;apply qR;simp[zS,atX j0 j1];apply qR;simp[zS,qbd (show k<=1000000000 by omega)];have hup:=(hu _ (qb5 j0 j1)).resolve_left hv;exact hB _ (k+1,(qa0 t i).up) (by simp;omega) ⟨by simp;omega,hup.1,hup.2,by simp only;rw[he];congr 1;omega⟩ ⟨[(0,0)],[],rfl,rfl,rfl,by simp[qaz,qat,qb2,qab],.id1 (g:=[(0,.cells [qa8 t])]) (by simp) (by simp) (by simp[zG,qa9])⟩
 ·simp at h;apply qau;simp;apply qR;simp[zS];apply qa3;simp[zQ,Tryz.f29];exact qa2 rfl (by rw[he,show t.length+1 - k=0 by omega];rfl)
def e29:Entry PG:=mkE 29 [[],[]] (fun x:Tr × Int=>[qak x.1,.int .i64 x.2]) (fun x=>x.1.length<=1000000/\qtm x.1/\0<=x.2/\x.2 < (x.1.length:Int)) (fun x=>.bool (qd9 x.1 (x.1.length+1) x.2)) fun x hx=>c29 (T:=[]) x.1 hx.1 hx.2.1 x.2 hx.2.2.1 hx.2.2.2
theorem k29(hT:qIn 29 T e29) {t:Tr} (hl:t.length<=1000000) (hu:qtm t) {i:Int} (h0:0<=i) (h1:i < (t.length:Int)) (H:Heap):qb7 (ctx T) (.fn 29) [qak t,.int .i64 i] H=some (.bool (qd9 t (t.length+1) i),H):=
 qac hT qx4 (t,i) ⟨hl,hu,h0,h1⟩ rfl (by simp[qip])
theorem za9{C:Ctx} {n:Nat} {r:Option Nat} {c d:Code} {s:St} {Q:Out->St->Prop} (φ:Prop) (s0:St) (h1:φ->WpSr C n r d s0 Q) (h2:(∀s',φ->s'.wT=s0->WpSr C n r d s' Q)->WpSr C n r c s (qan (fun s=>WpSr C n r d s Q) Q)):WpSr C n r (.seq c d) s Q:=
 qam (h2 fun s' hφ e b a w hb ha K hK=>h1 hφ b a w hb (by have:=ha.fresh;rw[<- e];exact this) K hK)
def qzz(t:Tr) (i:Nat):Bool:=decide (0 < i) && (decide ((qa0 t i).kind < 1) || (decide (4 < (qa0 t i).kind) || (decide ((qa0 t i).up < -1) || decide ((t.length:Int)<=(qa0 t i).up))))
def zeh(t:Tr) (i:Nat):Bool:=decide (0<=(qa0 t i).up) && (decide (1 < (qa0 t (qa0 t i).up).kind) || decide ((qde (qa0 t (qa0 t i).up).kids i:Int)≠1))
def zeg(t:Tr) (i:Nat) (k:Int):Bool:=decide (k < 0) || (decide ((t.length:Int)<=k) || decide ((qa0 t k).up≠(i:Int)))
def qmd(t:Tr) (i:Nat):Bool:=!qzz t i && (!zeh t i && !(qa0 t i).kids.any (zeg t i))
def qbi(t:Tr):Bool:=decide (t≠[]) && (decide ((qa0 t 0).kind=0) && (decide ((qa0 t 0).up = -1) && ((List.range t.length).all (qmd t) && (List.range t.length).all fun i=>qd9 t (t.length+1) (i:Int))))
theorem qeu{t:Tr} {i:Nat} (h:i < t.length) (hb:qmd t i=false):qbi t=false:=by have:(List.range t.length).all (qmd t)=false:=List.all_eq_false.2 ⟨i,by simpa using h,by simp[hb]⟩;simp[qbi,this]
theorem qss{t:Tr} {i:Nat} (h:i < t.length) (hb:qd9 t (t.length+1) (i:Int)=false):qbi t=false:=by have:((List.range t.length).all fun i=>qd9 t (t.length+1) (i:Int))=false:=List.all_eq_false.2 ⟨i,by simpa using h,by simp[hb]⟩;simp[qbi,this]
theorem qnw{t:Tr} (h:t≠[]) (h0:(qa0 t 0).kind=0) (h1:(qa0 t 0).up = -1) (h2:∀j,j < t.length->qmd t j=true) (h3:∀j,j < t.length->qd9 t (t.length+1) (j:Int)=true):qbi t=true:=by have e1:(List.range t.length).all (qmd t)=true:=ya.2 fun j hj=>h2 j (by simpa using hj);have e2:((List.range t.length).all fun i=>qd9 t (t.length+1) (i:Int))=true:=ya.2 fun j hj=>h3 j (by simpa using hj);simp[qbi,h,h0,h1,e1,e2]
theorem zex{t:Tr} (h1:(qa0 t 0).up = -1) (h2:∀j,j < t.length->qmd t j=true):qtm t:=by
 intro x hx;obtain⟨j,hj,rfl⟩:=yp hx;have:=h2 j hj;rw[<- qba hj];by_cases hz:j=0
 ·subst hz;exact .inl h1
 ·simp only[qmd,qzz,jd,jV,y7,jM,decide_eq_false_iff_not]at this;rcases this.1 with h|h
  ·omega
  ·omega
theorem c15(hT:qIn 28 T e28) (hH:qIn 29 T e29) (t:Tr) (ht:qwl t) :
  CA T 15 [qak t] zH (.bool (qbi t)) zH:=by
 have htl:=ht.1;have g0:∀(m:Nat),FitH 0 [(0,0)] [] ⟨m,[[(0,.cells [qa8 t])]]⟩ ⟨1,[[(0,.cells [qa8 t])]]⟩:=fun m=>.id1 (g:=[(0,.cells [qa8 t])]) (by simp) (by simp) (by simp[zG,qa9]);refine qa1 (s0:=⟨[0,1,2,3,4,5,6],[qak t,uD,uD,uD,uD,uD,uD],[],138,⟨0,[[]]⟩⟩) Tryz.func15 rfl rfl rfl ?_;apply qR;simp[zS,qak];by_cases z0:t=[]
 ·apply qR;simp[zS,qhn,z0];apply qaj rfl;apply qR;simp[zS];apply qa3;simp[zQ,Tryz.f15];exact qa2 rfl (by simp[qbi,z0])
 have zl:0 < t.length:=j8.2 z0;have a0:=atX (t:=t) (i:=0) (by omega) (by omega);by_cases z1:(qa0 t 0).kind=0
 case neg=>
  apply qR;simp[zS,qhn,z0,a0,z1];apply qaj rfl;apply qR;simp[zS];apply qa3;simp[zQ,Tryz.f15];exact qa2 rfl (by simp[qbi,z1])
 by_cases z2:(qa0 t 0).up = -1
 case neg=>
  apply qR;simp[zS,qhn,z0,a0,z1,z2];apply qaj rfl;apply qR;simp[zS];apply qa3;simp[zQ,Tryz.f15];exact qa2 rfl (by simp[qbi,z2])
 apply qR;simp[zS,qhn,z0,a0,z1,z2];apply qag rfl;apply qa4;simp;apply qR;simp[zS];refine qa7 (qb1 (fun i:Nat=>(⟨[0,1,2,3,4,5,6],[uD,.ptr 0 0,uD,.int .i64 i,uD,uD,uD],[],138,⟨1,[[(0,.cells [qa8 t])]]⟩⟩ : St))
  (fun i=>i<=t.length/\∀j,j < i->qmd t j=true) (fun i=>t.length - i) [(0,0)] [] 0 ⟨jh _,fun j hj=>absurd hj (jk j)⟩ ⟨rfl,rfl,rfl,by simp[qaz,qat,qb2,qab],g0 1⟩ ?_)
 rintro i ⟨hi,hall⟩ B hB;apply qR;simp[zS,qhn];refine qay rfl (fun h=>?_) fun h=>?_
 ·simp at h;apply qa4;simp;repeat apply wq
  apply qa7;apply qam;have hkd:=(ht.2 _ (qb5 (t:=t) (i:=(i:Int)) (by omega) (by omega))).1;obtain⟨n,hn⟩ : ∃n,n=qa0 t i:=⟨_,rfl⟩;refine qai qbc ?_;simp[zN,atX (t:=t) (i:=(i:Int)) (by omega) (by omega)];rw[<- hn]at hkd ⊢;refine za9 (qzz t i=false) ((⟨[0,1,2,3,4,5,6],[uD,.ptr 0 0,uD,.int .i64 i,.ptr 1 0,uD,uD],[],138,⟨2,[[(1,.cells n.cs),(0,.cells [qa8 t])]]⟩⟩ : St)) (fun hbA=>?_) fun hj=>?_
  rotate_left
  ·by_cases c0:0 < i
   ·by_cases c1:n.kind < 1
    ·apply qR;simp[zS,qhn,c0,c1];apply qaj rfl;apply qR;simp[zS];apply qa3;simp[zQ,Tryz.f15];exact qa2 rfl (by rw[qeu h (by simp[qmd,qzz,c0,<- hn,c1])])
    ·by_cases c2:4 < n.kind
     ·apply qR;simp[zS,qhn,c0,c1,c2];apply qaj rfl;apply qR;simp[zS];apply qa3;simp[zQ,Tryz.f15];exact qa2 rfl (by rw[qeu h (by simp[qmd,qzz,c0,<- hn,c1,c2])])
     ·by_cases c3:n.up < -1
      ·apply qR;simp[zS,qhn,c0,c1,c2,c3];apply qaj rfl;apply qR;simp[zS];apply qa3;simp[zQ,Tryz.f15];exact qa2 rfl (by rw[qeu h (by simp[qmd,qzz,c0,<- hn,c1,c2,c3])])
      ·by_cases c4:(t.length:Int)<=n.up
       ·apply qR;simp[zS,qhn,c0,c1,c2,c3,c4];apply qaj rfl;apply qR;simp[zS];apply qa3;simp[zQ,Tryz.f15];exact qa2 rfl (by rw[qeu h (by simp[qmd,qzz,c0,<- hn,c1,c2,c3,c4])])
       ·apply qR;simp[zS,qhn,c0,c1,c2,c3,c4];apply qag rfl;apply qa4;simp;exact hj _ (by simp[qzz,<- hn,c1,c2,c3,c4]) rfl
   ·apply qR;simp[zS,qhn,c0];apply qag rfl;apply qa4;simp;exact hj _ (by simp[qzz,c0]) rfl
  have hup:n.up < (t.length:Int):=by
   by_cases hz:i=0
   ·subst hz;rw[hn];simp only[Int.natCast_zero,z2];omega
   ·simp only[qzz,<- hn,y7,jM,decide_eq_false_iff_not]at hbA;omega
  refine za9 (zeh t i=false) ((⟨[0,1,2,3,4,5,6],[uD,.ptr 0 0,uD,.int .i64 i,.ptr 1 0,uD,uD],[],138,⟨2,[[(1,.cells n.cs),(0,.cells [qa8 t])]]⟩⟩ : St)) (fun hbB=>?_) fun hj=>?_
  rotate_left
  ·by_cases c5:0<=n.up
   ·have hkt:=k28 hT (L:=(qa0 t n.up).kids) (i:Int) (by have:=(ht.2 _ (qb5 c5 hup)).1;omega);generalize hv:qde (qa0 t n.up).kids (i:Int)=v at hkt;by_cases c6:1 < (qa0 t n.up).kind
    ·apply qR;simp[zS,c5,atX c5 hup,hkt,c6];apply qaj rfl;apply qR;simp[zS];apply qa3;simp[zQ,Tryz.f15];exact qa2 rfl (by rw[qeu h (by simp[qmd,zeh,<- hn,hv,c5,c6];try (intro _ ;omega))])
    ·by_cases c7:¬ (v:Int)=1
     ·apply qR;simp[zS,c5,atX c5 hup,hkt,c6,c7];apply qaj rfl;apply qR;simp[zS];apply qa3;simp[zQ,Tryz.f15];exact qa2 rfl (by rw[qeu h (by simp[qmd,zeh,<- hn,hv,c5,c6,c7];try (intro _ ;omega))])
     ·have c7:=Decidable.not_not.1 c7;apply qR;simp[zS,c5,atX c5 hup,hkt,c6,c7];apply qag rfl;apply qa4;simp;exact hj _ (by simp[zeh,<- hn,hv,c6,c7];try omega) rfl
   ·apply qR;simp[zS,c5];apply qag rfl;apply qa4;simp;exact hj _ (by simp[zeh,<- hn,c5]) rfl
  apply qR;simp[zS];have g1:∀(m:Nat),FitH 0 [(1,1),(0,0)] [] ⟨m,[[(1,.cells n.cs),(0,.cells [qa8 t])]]⟩ ⟨2,[[(1,.cells n.cs),(0,.cells [qa8 t])]]⟩:=fun m=>.id1 (g:=[(1,.cells n.cs),(0,.cells [qa8 t])]) (by simp) (by simp) (by simp[zG,qa9]);refine qa7 (qb1 (fun k:Nat=>(⟨[0,1,2,3,4,5,6],[uD,.ptr 0 0,uD,.int .i64 i,.ptr 1 0,.int .i64 k,uD],[],138,⟨2,[[(1,.cells n.cs),(0,.cells [qa8 t])]]⟩⟩ : St))
   (fun k=>k<=n.kids.length/\n.kids.any (zeg t i)=(n.kids.drop k).any (zeg t i)) (fun k=>n.kids.length - k) [(1,1),(0,0)] [] 0 ⟨jh _,rfl⟩ ⟨rfl,rfl,rfl,by simp[qaz,qat,qb2,qab],g1 2⟩ ?_)
  rintro k ⟨hk,hany⟩ B2 hB2;apply qR;simp[zS,qpb];refine qay rfl (fun h2=>?_) fun h2=>?_
  ·simp at h2;rw[List.drop_eq_getElem_cons h2,List.any_cons]at hany;apply qa4;simp;repeat apply wq
   apply qa7;by_cases d1:n.kids[k] < 0
   ·repeat apply wq
    refine qbh mixed qbc (by decide +kernel) (by decide +kernel) ?_;simp[zS,qc6,qbf,qb9,atI h2,d1];apply qaj rfl;apply qR;simp[zS];apply qa3;simp[zQ,Tryz.f15];exact qa2 rfl (by rw[qeu h (by simp only[qmd,<- hn,hany];simp[zeg,d1])])
   ·by_cases d2:(t.length:Int)<=n.kids[k]
    ·repeat apply wq
     refine qbh mixed qbc (by decide +kernel) (by decide +kernel) ?_;simp[zS,qc6,qbf,qb9,atI h2,qhn,d1,d2];apply qaj rfl;apply qR;simp[zS];apply qa3;simp[zQ,Tryz.f15];exact qa2 rfl (by rw[qeu h (by simp only[qmd,<- hn,hany];simp[zeg,d1,d2])])
    ·have ak:=atX (t:=t) (i:=n.kids[k]) (by omega) (by omega);by_cases d3:(qa0 t n.kids[k]).up=(i:Int)
     ·repeat apply wq
      refine qbh mixed qbc (by decide +kernel) (by decide +kernel) ?_;simp[zS,qc6,qbf,qb9,atI h2,qhn,ak,d1,d2,d3];apply qag rfl;apply qa4;simp;apply qR;simp[zS,qbd (show k<=1000000000 by omega)];refine hB2 _ (k+1) (by omega) ⟨by omega,?_⟩ ⟨[(1,1),(0,0)],[],rfl,rfl,rfl,by simp[qaz,qat,qb2,qab],g1 _⟩;rw[hany];simp[zeg,d1,d2,d3]
     ·repeat apply wq
      refine qbh mixed qbc (by decide +kernel) (by decide +kernel) ?_;simp[zS,qc6,qbf,qb9,atI h2,qhn,ak,d1,d2,d3];apply qaj rfl;apply qR;simp[zS];apply qa3;simp[zQ,Tryz.f15];exact qa2 rfl (by rw[qeu h (by simp only[qmd,<- hn,hany];simp[zeg,d1,d2,d3])])
  ·simp at h2;rw[jt h2]at hany;apply qau;simp;apply qR;simp[zS,qbd (show i<=1000000000 by omega)];refine hB _ (i+1) (by omega) ⟨by omega,fun j hj=>?_⟩ ⟨[(0,0)],[],rfl,rfl,rfl,by simp[qaz,qat,qb2,qab],.id1 (g:=[(0,.cells [qa8 t])]) (by simp) (by simp) (by simp[zG,qa9])⟩;by_cases hji:j=i
   ·subst hji;simp[qmd,hbA,hbB,<- hn,hany]
   ·exact hall j (by omega)
 ·simp at h;have hin:i=t.length:=by omega
  subst hin;have hups:=zex z2 hall;apply qau;simp;apply qR;simp[zS];refine qa7 (qb1 (fun i:Nat=>(⟨[0,1,2,3,4,5,6],[uD,.ptr 0 0,uD,uD,uD,uD,.int .i64 i],[],138,⟨1,[[(0,.cells [qa8 t])]]⟩⟩ : St))
   (fun i=>i<=t.length/\∀j,j < i->qd9 t (t.length+1) (j:Int)=true) (fun i=>t.length - i) [(0,0)] [] 0 ⟨jh _,fun j hj=>absurd hj (jk j)⟩ ⟨rfl,rfl,rfl,by simp[qaz,qat,qb2,qab],g0 1⟩ ?_)
  rintro i ⟨hi,hh⟩ B hB;apply qR;simp[zS,qhn];refine qay rfl (fun h=>?_) fun h=>?_
  ·simp at h;apply qa4;simp;repeat apply wq
   apply qa7;have kh:=fun H=>k29 hH (t:=t) (by have:=ht.1;omega) hups (i:=(i:Int)) (by omega) (by omega) H;simp only[qak]at kh;cases hv:qd9 t (t.length+1) (i:Int)with
   |false=>rw[hv]at kh;apply qR;simp[zS,kh];apply qaj rfl;apply qR;simp[zS];apply qa3;simp[zQ,Tryz.f15];exact qa2 rfl (by rw[qss h hv])
   |true=>
    rw[hv]at kh;apply qR;simp[zS,kh];apply qag rfl;apply qa4;simp;apply qR;simp[zS,qbd (show i<=1000000000 by omega)];refine hB _ (i+1) (by omega) ⟨by omega,fun j hj=>?_⟩ ⟨[(0,0)],[],rfl,rfl,rfl,by simp[qaz,qat,qb2,qab],g0 _⟩;by_cases hji:j=i
    ·subst hji;exact hv
    ·exact hh j (by omega)
  ·simp at h;have hin:i=t.length:=(by omega);subst hin;apply qau;simp;apply qR;simp[zS];apply qa3;simp[zQ,Tryz.f15];exact qa2 rfl (by rw[qnw z0 z1 z2 hall hh])
def e15:Entry PG:=mkE 15 [[]] (fun t:Tr=>[qak t]) qwl (fun t=>.bool (qbi t)) fun t ht=>c15 (T:=[e28,e29]) rfl rfl t ht
theorem k15(hT:qIn 15 T e15) {t:Tr} (ht:qwl t) (H:Heap):qb7 (ctx T) (.fn 15) [qak t] H=some (.bool (qbi t),H):=
 qac hT injT t ht rfl (by simp[qip])
def qr0(t:Tr) (m:Int):Bool:=qnj t m && qbi t
theorem c6(hF:qIn 14 T e14) (hR:qIn 15 T e15) (t:Tr) (m:Int) (hm:m<=50):CA T 6 [qak t,.int .i64 m] zH (.bool (qr0 t m)) zH:=by
 have kf:=fun H=>k14 hF t (m:=m) (by omega) H;simp only[qak]at kf;cases hf:qnj t m with
 |false=>
  rw[hf]at kf;refine qa1 (s0:=⟨[0,1,2,4],[qak t,.int .i64 m,uD,uD],[],12,⟨0,[[]]⟩⟩) Tryz.func6 rfl rfl rfl ?_
  (repeat (first
   |(apply qam)
   |(apply qa7)
   |(apply qcm;simp only[qan,qah])
   |((refine qai qbc ?_);simp[zS,qak,kf])
   |apply qaj rfl
   |apply qag rfl
   |((apply qa4);simp only[qan,qah])
   |((apply qau);simp)))
  apply qa3;simp[zQ,Tryz.f6];exact qa2 rfl (by simp[qr0,hf])
 |true=>
  have kr:=fun H=>k15 hR (qxj hm hf).2 H;simp only[qak]at kr;rw[hf]at kf;refine qa1 (s0:=⟨[0,1,2,4],[qak t,.int .i64 m,uD,uD],[],12,⟨0,[[]]⟩⟩) Tryz.func6 rfl rfl rfl ?_
  (repeat (first
   |(apply qam)
   |(apply qa7)
   |(apply qcm;simp only[qan,qah])
   |((refine qai qbc ?_);simp[zS,qak,kf,kr])
   |apply qaj rfl
   |apply qag rfl
   |((apply qa4);simp only[qan,qah])
   |((apply qau);simp)))
  apply qa3;simp[zQ,Tryz.f6];exact qa2 rfl (by simp[qr0,hf])
def e6:Entry PG:=mkE 6 [[],[]] (fun x:Tr × Int=>[qak x.1,.int .i64 x.2]) (fun x=>x.2<=50) (fun x=>.bool (qr0 x.1 x.2)) fun x hx=>c6 (T:=[e14,e15]) rfl rfl x.1 x.2 hx
theorem k6(hT:qIn 6 T e6) (t:Tr) {m:Int} (hm:m<=50) (H:Heap):qb7 (ctx T) (.fn 6) [qak t,.int .i64 m] H=some (.bool (qr0 t m),H):=
 qac hT qx4 (t,m) hm rfl (by simp[qip])
theorem qlo{α:Type} {n:Nat} {t e:TypeId} {enc:α->AV} {ag:Bool} (hu:PG.underlying t=some (.slice e)) (hag:qi8 PG e=some ag) (h:∀cs x,qda PG n e cs->qhr ag cs=some x->∃a,x=enc a) {qs:List AV} (hs:qda PG (n+1) t qs) :
  ∃L:List α,qs=[.fslc (PG.cellsOf e) (L.map enc)]:=by
 unfold qda at hs;simp only[hu]at hs;obtain⟨es,rfl,_,hes⟩:=hs;have key:∀l:List AV,(∀x,x∈l->∃ag cs,qi8 PG e=some ag/\qhr ag cs=some x/\qda PG n e cs)->∃L:List α,l=L.map enc:=by
  intro l;induction l with
  |nil=>intro _;exact⟨[],rfl⟩
  |cons x r ih=>intro hx;obtain⟨ag',cs,h1,h2,h3⟩:=hx x (by simp);rw[hag,sj]at h1;subst h1;obtain⟨a,ha⟩:=h cs x h3 h2;obtain⟨L,hL⟩:=ih fun y hy=>hx y (by simp[hy]);exact⟨a::L,by rw[ha,hL];rfl⟩
 obtain⟨L,rfl⟩:=key es hes;exact⟨L,rfl⟩
theorem qml{n:Nat} {qs:List AV} (h:qda PG (n+1) 9 qs):∃s:Str,qs=[.str s]:=by unfold qda at h;simp only[Tryz.underlying9]at h;obtain⟨s,rfl,_⟩:=h;exact⟨s,rfl⟩
theorem qmm{n:Nat} {qs:List AV} (h:qda PG (n+1) 3 qs):∃i:Int,qs=[qbm i]:=by unfold qda at h;simp only[Tryz.underlying3]at h;obtain⟨s,rfl,_⟩:=h;exact⟨s,rfl⟩
theorem qzm:PG.cellsOf 71=2:=by kernel_rfl
theorem ze4:PG.cellsOf 3=1:=by kernel_rfl
theorem qzl:PG.cellsOf 34=7:=by kernel_rfl
theorem zd3{n:Nat} {qs:List AV} (h:qda PG (n+2) 71 qs):∃a:At1,AV.agg qs=qcq a:=by
 unfold qda at h;simp only[Tryz.underlying71]at h;cases h with
 |cons f r x y h1 h2=>
  cases h2 with
  |cons f2 r2 x2 y2 h3 h4=>cases h4;obtain⟨s1,rfl⟩:=qml h1;obtain⟨s2,rfl⟩:=qml h3;exact⟨(s1,s2),rfl⟩
theorem qye{n:Nat} {qs:List AV} (h:qda PG (n+3) 32 qs):∃L:List At1,qs=[qal L]:=by obtain⟨L,rfl⟩:=qlo (enc:=qcq) (ag:=true) Tryz.underlying32 agT71 (fun cs x h hw=>by simp only[qhr,sj]at hw;obtain⟨a,ha⟩:=zd3 h;exact⟨a,by rw[<- hw,ha]⟩) h;exact⟨L,by rw[qzm];rfl⟩
theorem zd2{n:Nat} {qs:List AV} (h:qda PG (n+2) 30 qs):∃L:List Int,qs=[qbl L]:=by obtain⟨L,rfl⟩:=qlo (enc:=qbm) (ag:=false) Tryz.underlying30 agT3 (fun cs x h hw=>by obtain⟨a,rfl⟩:=qmm h;simp only[qhr,qbm,AV.single,sj]at hw;exact⟨a,hw.symm⟩) h;exact⟨L,by rw[ze4]⟩
theorem zd1{n:Nat} {qs:List AV} (h:qda PG (n+4) 34 qs):∃a:Nd,AV.agg qs=qa6 a:=by unfold qda at h;simp only[Tryz.underlying34]at h;obtain _|⟨_,_,_,_,h1,h⟩:=h;obtain _|⟨_,_,_,_,h2,h⟩:=h;obtain _|⟨_,_,_,_,h3,h⟩:=h;obtain _|⟨_,_,_,_,h4,h⟩:=h;obtain _|⟨_,_,_,_,h5,h⟩:=h;obtain _|⟨_,_,_,_,h6,h⟩:=h;obtain _|⟨_,_,_,_,h7,h⟩:=h;cases h;obtain⟨x1,rfl⟩:=qmm h1;obtain⟨x2,rfl⟩:=qmm h2;obtain⟨x3,rfl⟩:=qml h3;obtain⟨x4,rfl⟩:=qye (n:=n) h4;obtain⟨x5,rfl⟩:=qml h5;obtain⟨x6,rfl⟩:=qmm h6;obtain⟨x7,rfl⟩:=zd2 (n:=n+1) h7;exact⟨⟨x1,x2,x3,x4,x5,x6,x7⟩,rfl⟩
theorem zcz{n:Nat} {qs:List AV} (h:qda PG (n+6) 24 qs):∃t:Tr,AV.agg qs=qak t:=by unfold qda at h;simp only[Tryz.underlying24]at h;obtain _|⟨_,_,_,_,h1,h⟩:=h;cases h;obtain⟨L,rfl⟩:=qlo (n:=n+4) (enc:=qa6) (ag:=true) Tryz.underlying22 agT34 (fun cs x h hw=>by simp only[qhr,sj]at hw;obtain⟨a,ha⟩:=zd1 h;exact⟨a,by rw[<- hw,ha]⟩) h1;exact⟨L,by rw[qzl];rfl⟩
theorem okTree:zed PG 6 24=true:=by kernel_rfl
section
variable {H:Type} {enc:TypeId × Value->H} {W:World} {hg:GlobsIn W}
theorem argTree{b0 base:Nat} {sp:Nat->Bool} {held:Bool} {v:Value} {d:DataW H} {ps:List MemPlace} (ht:DataW.Trod enc PG W base sp held 24 v d ps) (hv:Value.okWide PG W .any b0 24 v):∃t,VR (start W hg) (qak t) v:=by
 obtain⟨qs,a,h1,h2,h3⟩:=zjt (hg:=hg) okTree (ag:=true) agT24 (fun h=>by cases h) ht hv;obtain⟨x,hx⟩:=zcz (n:=0) h1;have:a=qak x:=by simp only[qhr,sj]at h2;rw[<- h2,hx]
 exact⟨x,this ▸ h3⟩
end
theorem zd4{C:Ctx} (hP:C.P=PG) (x:Value) (w:World):(callFunc 144 #[x]).run C.P w=.ok (.value x) w:=by
 have hf:C.P.funcs[144]? = some Tryz.f144:=by rw[hP];exact Tryz.func144
 have hn : ¬ Tryz.f144.name = "runtime.NumGoroutine" := by decide +kernel
 have h1:Extern.findNext Tryz.f144=none:=by kernel_rfl
 have h2:Extern.find Tryz.f144=some Extern.AbiNoEscape.same:=by kernel_rfl
 have h3:Tryz.f144.body=none:=by kernel_rfl
 simp[callFunc,hf,hn,h1,h2,h3,Lib.run_noEscape]
def e144:Entry PG:=⟨144,fun args H=>match args with
 |[.ptr b o]=>some (.ptr b o,H)
 |_=>none,fun args H v H' hv=>by
  split at hv
  ·simp only[sj,jf]at hv;obtain⟨rfl,rfl⟩:=hv;intro ρ w xs sm hx
   match xs,hx with
   |[x],hx=>have h0:=hx.2 0 (by simp) (by simp);simp only[j5]at h0;exact .inl ⟨x,ρ,w,zd4 rfl x w,h0,sm,Step.refl _ _ _⟩
  ·cases hv⟩
theorem k144(hT:qIn 144 T e144) (b o:Nat) (H:Heap):qb7 (ctx T) (.fn 144) [.ptr b o] H=some (.ptr b o,H):=by rw[qin (g:=e144.g) hT];rfl
abbrev qs3:Str:=[97,114,101,97,32,98,97,115,101,32,98,97,115,101,102,111,110,116,32,98,103,115,111,117,110,100,32,98,114,32,99,111,108,32,101,109,98,101,100,32,102,114,97,109,101,32,104,114,32,105,109,103,32,105,110,112,117,116,32,107,101,121,103,101,110,32,108,105,110,107,32,109,101,116,97,32,112,97,114,97,109,32,115,111,117,114,99,101,32,116,114,97,99,107,32,119,98,114]
theorem zcv:qqb (qbv qs3) (qru (ctx []) 100000 (.fn 152) [.str qs3] zH)=true:=by decide +kernel
theorem c152v:CA T 152 [.str qs3] zH (qcp (qbv qs3)) zH:=qzk (T:=[]) zcv
theorem c183(L:List Str) (x:Str) (hl:L.length<=1000000):CA T 183 [qcp L,.str x] zH (.int .i64 (qbu (fun y=>decide (x=y)) L 0)) zH:=by
 refine qa1 (s0:=⟨[0,1,4,5,7,8],[qcp L,.str x,uD,uD,uD,uD],[],19,⟨0,[[]]⟩⟩) Tryz.func183 rfl rfl rfl ?_;apply qR;simp[zS];apply qR;simp[zS,lenS];refine qa7 (qb1 (fun i:Nat=>(⟨[0,1,4,5,7,8],[qcp L,.str x,uD,uD,.int .i64 (L.length:Nat),.int .i64 i],[],19,⟨0,[[]]⟩⟩ : St))
  (fun i=>i<=L.length/\qbu (fun y=>decide (x=y)) L 0=qbu (fun y=>decide (x=y)) (L.drop i) i) (fun i=>L.length - i) [] [] 0 ⟨jh _,rfl⟩ ⟨rfl,rfl,rfl,by simp[qaz,qat,qab,qa9,qcp],FitH.nothing⟩ ?_)
 rintro i ⟨hi,hx⟩ B hB;apply qR;simp[zS];repeat apply wq
 refine qay rfl (fun h=>?_) fun h=>?_
 ·simp at h;rw[qha h]at hx;apply qa4;simp;repeat apply wq
  apply qa7;apply qR;simp[zS];by_cases h2:L[i]=x
  ·apply qR;simp[zS,atS h,h2];apply qaj rfl;apply qR;simp[zS];apply qa3;simp[zQ,Tryz.f183];exact qa2 rfl (by rw[hx,if_pos (by simp[h2])])
  ·have h2':¬ x=L[i]:=fun e=>h2 e.symm;apply qR;simp[zS,atS h,h2'];apply qag rfl;apply qa4;simp;apply qR;simp[zS,qbd (show i<=1000000000 by omega)];exact hB _ (i+1) (by omega) ⟨by omega,by rw[hx,if_neg (by simp[h2'])]⟩ ⟨[],[],⟨rfl,rfl,rfl,by simp[qaz,qat,qab,qa9,qcp],FitH.nothing⟩⟩
 ·simp at h;apply qau;simp;apply qR;simp[zS];apply qa3;simp[zQ,Tryz.f183];exact qa2 rfl (by rw[hx,jt h];rfl)
def e183:Entry PG:=mkE 183 [[1],[]] (fun x:List Str × Str=>[qcp x.1,.str x.2]) (fun x=>x.1.length<=1000000) (fun x=>.int .i64 (qbu (fun y=>decide (x.2=y)) x.1 0)) fun x hx=>c183 (T:=[]) x.1 x.2 hx
theorem injSS(x y:List Str × Str) (h:[qcp x.1,.str x.2]=[qcp y.1,.str y.2]):x=y:=by simp at h;exact yz (zbr (by simpa[qcp]using h.1)) h.2
theorem k183(hT:qIn 183 T e183) {L:List Str} (x:Str) (hl:L.length<=1000000) (H:Heap):qb7 (ctx T) (.fn 183) [qcp L,.str x] H=some (.int .i64 (qbu (fun y=>decide (x=y)) L 0),H):=
 qac hT injSS (L,x) hl rfl (by simp[qcp])
theorem zhh{x:Str}:∀(L:List Str) (k:Nat),(0<=qbu (fun y=>decide (x=y)) L k)↔x∈L
 |[],k=>by simp[qbu]
 |y::r,k=>by
  unfold qbu;by_cases h:x=y
  ·simp[h]
  ·simp only[h,decide_false,jC,if_false,ja,false_or];exact zhh r (k+1)
theorem c151(hI:qIn 183 T e183) (L:List Str) (x:Str) (hl:L.length<=1000000):CA T 151 [qcp L,.str x] zH (.bool (decide (x∈L))) zH:=by
 have hk:=fun H=>k183 hI x hl H;have hm:=zhh (x:=x) L 0;generalize qbu (fun y=>decide (x=y)) L 0=v at *;simp only[qcp]at hk;refine qa1 (s0:=⟨[0,1,4],[qcp L,.str x,uD],[],9,⟨0,[[]]⟩⟩) Tryz.func151 rfl rfl rfl ?_
 (repeat (first
  |(apply qam)
  |(apply qa7)
  |(apply qcm;simp only[qan,qah])
  |((refine qai qbc ?_);simp[zS,qcp,hk])
  |apply qaj rfl
  |apply qag rfl
  |((apply qa4);simp only[qan,qah])
  |((apply qau);simp)))
 apply qa3;simp[zQ,Tryz.f151];exact qa2 rfl (by simp[hm])
theorem wl_void:(qbv qs3).length<=1000000:=by decide +kernel
def qjk(space:Int) (name:Str):Bool:=decide (space=0) && inW qs3 name
theorem c122v(x:Str) (hx:x.length<=1000000000):CA T 122 [.str qs3,.str x] zH (.bool (inW qs3 x)) zH:=
 c122 (T:=[e149,e150]) rfl rfl qs3 x (by decide) hx (c152v (T:=[])) (c151 (T:=[e183]) rfl _ x wl_void)
theorem c84(space:Int) (name:Str) (hx:name.length<=1000000000):CA T 84 [.int .i64 space,.str name] zH (.bool (qjk space name)) zH:=by
 have h:=(c122v (T:=T) name hx).lift (by simp[qa9,qab]) ⟨0,[[]]⟩;refine qa1 (s0:=⟨[0,1,4],[.int .i64 space,.str name,uD],[],11,⟨0,[[]]⟩⟩) Tryz.func84 rfl rfl rfl ?_;by_cases hs:space=0
 ·apply qR;simp[zS];repeat apply wq
  refine qai (qbo [⟨122,_,_,_,_,h⟩]) ?_;simp[zS,qcu,hs];apply qa3;simp[zQ,Tryz.f84];exact qa2 rfl (by simp[qjk,hs])
 ·apply qR;simp[zS];apply qR;simp[zS,hs];apply qa3;simp[zQ,Tryz.f84];exact qa2 rfl (by simp[qjk,hs])
theorem injIS(x y:Int × Str) (h:[AV.int .i64 x.1,AV.str x.2]=[AV.int .i64 y.1,AV.str y.2]):x=y:=by simp at h;exact yz h.1 h.2
def e84:Entry PG:=mkE 84 [[],[]] (fun x:Int × Str=>[.int .i64 x.1,.str x.2]) (fun x=>x.2.length<=1000000000) (fun x=>.bool (qjk x.1 x.2)) fun x hx=>c84 (T:=[]) x.1 x.2 hx
theorem k84(hT:qIn 84 T e84) (space:Int) {name:Str} (hx:name.length<=1000000000) (H:Heap):qb7 (ctx T) (.fn 84) [.int .i64 space,.str name] H=some (.bool (qjk space name),H):=
 qac hT injIS (space,name) hx rfl (by simp)
theorem c110(hI:qIn 71 T e71) (space:Int) (name W:Str) (hW:W.length<=900000):CA T 110 [.int .i64 space,.str name,.str W] zH (.bool (decide (space=0) && inW W name)) zH:=by
 have hk:=fun H=>k71 hI name hW H;by_cases hs:space=0
 ·refine qa1 (s0:=⟨[0,1,2,6],[.int .i64 space,.str name,.str W,uD],[],14,⟨0,[[]]⟩⟩) Tryz.func110 rfl rfl rfl ?_
  (repeat (first
   |(apply qam)
   |(apply qa7)
   |(apply qcm;simp only[qan,qah])
   |((refine qai qbc ?_);simp[zS,hk,hs])
   |apply qaj rfl
   |apply qag rfl
   |((apply qa4);simp only[qan,qah])
   |((apply qau);simp)))
  apply qa3;simp[zQ,Tryz.f110];exact qa2 rfl (by simp[hs])
 ·refine qa1 (s0:=⟨[0,1,2,6],[.int .i64 space,.str name,.str W,uD],[],14,⟨0,[[]]⟩⟩) Tryz.func110 rfl rfl rfl ?_
  (repeat (first
   |(apply qam)
   |(apply qa7)
   |(apply qcm;simp only[qan,qah])
   |((refine qai qbc ?_);simp[zS,hk,hs])
   |apply qaj rfl
   |apply qag rfl
   |((apply qa4);simp only[qan,qah])
   |((apply qau);simp)))
  apply qa3;simp[zQ,Tryz.f110];exact qa2 rfl (by simp[hs])
theorem injISS(x y:Int × Str × Str) (h:[AV.int .i64 x.1,AV.str x.2.1,AV.str x.2.2]=[AV.int .i64 y.1,AV.str y.2.1,AV.str y.2.2]):x=y:=by simp at h;exact yz h.1 (yz h.2.1 h.2.2)
def e110:Entry PG:=mkE 110 [[],[],[]] (fun x:Int × Str × Str=>[.int .i64 x.1,.str x.2.1,.str x.2.2]) (fun x=>x.2.2.length<=900000) (fun x=>.bool (decide (x.1=0) && inW x.2.2 x.2.1)) fun x hx=>c110 (T:=[e71]) rfl x.1 x.2.1 x.2.2 hx
theorem k110(hT:qIn 110 T e110) (space:Int) (name:Str) {W:Str} (hW:W.length<=900000) (H:Heap):qb7 (ctx T) (.fn 110) [.int .i64 space,.str name,.str W] H=some (.bool (decide (space=0) && inW W name),H):=
 qac hT injISS (space,name,W) hW rfl (by simp)
theorem c69(hH:qIn 110 T e110) (space:Int) (name:Str):CA T 69 [.int .i64 space,.str name] zH (.bool (qjk space name)) zH:=by
 have hk:=fun H=>k110 hH space name (W:=qs3) (by decide) H;refine qa1 (s0:=⟨[0,1,4],[.int .i64 space,.str name,uD],[],8,⟨0,[[]]⟩⟩) Tryz.func69 rfl rfl rfl ?_
 (repeat (first
  |(apply qam)
  |(apply qa7)
  |(apply qcm;simp only[qan,qah])
  |((refine qai qbc ?_);simp[zS,hk])
  |apply qaj rfl
  |apply qag rfl
  |((apply qa4);simp only[qan,qah])
  |((apply qau);simp)))
 apply qa3;simp[zQ,Tryz.f69];exact qa2 rfl (by simp[qjk])
def e69:Entry PG:=mkE 69 [[],[]] (fun x:Int × Str=>[.int .i64 x.1,.str x.2]) (fun _=>True) (fun x=>.bool (qjk x.1 x.2)) fun x _=>c69 (T:=[e110]) rfl x.1 x.2
theorem k69(hT:qIn 69 T e69) (space:Int) (name:Str) (H:Heap):qb7 (ctx T) (.fn 69) [.int .i64 space,.str name] H=some (.bool (qjk space name),H):=
 qac hT injIS (space,name) trivial rfl (by simp)
@[simp]theorem szT21:qcg PG 21=some 1:=rfl
@[simp]theorem agT21:qi8 PG 21=some false:=rfl
@[simp]theorem byT21:qco PG 21=some 4:=rfl
@[simp]theorem alT21(H:Heap):alV PG H 21=some (.ptr H.n 0,H.new (.cells [.int .i32 0])):=rfl
@[simp]theorem zeT21:qc1 PG 21=some (.int .i32 0):=rfl
attribute [simp] Tryz.underlying21
@[simp 500]theorem rvF21(H:Heap) (cs:List AV) (o:Nat):qb3 PG H 21 (.fptr cs o)=qcy cs o:=rfl
@[simp 500]theorem rvP21(H:Heap) (b o:Nat):qb3 PG H 21 (.ptr b o)=(H.get b).bind fun k=>k.rd.bind fun cs=>qcy cs o:=rfl
@[simp]theorem szT158:qcg PG 158=some 1:=rfl
@[simp]theorem agT158:qi8 PG 158=some false:=rfl
@[simp]theorem byT158:qco PG 158=some 24:=rfl
@[simp]theorem alT158(H:Heap):alV PG H 158=some (.ptr H.n 0,H.new (.cells [.nilS])):=rfl
@[simp]theorem zeT158:qc1 PG 158=some (.nilS):=rfl
attribute [simp] Tryz.underlying158
@[simp 500]theorem rvF158(H:Heap) (cs:List AV) (o:Nat):qb3 PG H 158 (.fptr cs o)=qcy cs o:=rfl
@[simp 500]theorem rvP158(H:Heap) (b o:Nat):qb3 PG H 158 (.ptr b o)=(H.get b).bind fun k=>k.rd.bind fun cs=>qcy cs o:=rfl
@[simp]theorem slz158(sz:Nat) (e:AV) (r:List AV):qdy PG .eql 158 (.fslc sz (e::r)) .nilS=some (.bool false):=rfl
@[simp]theorem sln158(sz:Nat) (e:AV) (r:List AV):qdy PG .neq 158 (.fslc sz (e::r)) .nilS=some (.bool true):=rfl
@[simp]theorem slze158:qdy PG .eql 158 .eslc .nilS=some (.bool false):=rfl
@[simp]theorem slzz158:qdy PG .eql 158 .nilS .nilS=some (.bool true):=rfl
@[simp]theorem zf7:qcg PG 160=some 2:=rfl
@[simp]theorem agT160:qi8 PG 160=some true:=rfl
@[simp]theorem zjc:qco PG 160=some 16:=rfl
@[simp]theorem alT160(H:Heap):alV PG H 160=some (.ptr H.n 0,H.new (.cells [.int .i64 0,.int .i64 0])):=rfl
@[simp]theorem zej:qc1 PG 160=some (.agg [.int .i64 0,.int .i64 0]):=rfl
attribute [simp] Tryz.underlying160
@[simp 500]theorem rvF160(H:Heap) (cs:List AV) (o:Nat):qb3 PG H 160 (.fptr cs o)=(qek o 2 cs).bind fun cs=>some (.agg cs):=rfl
@[simp 500]theorem rvP160(H:Heap) (b o:Nat):qb3 PG H 160 (.ptr b o)=(readCells H b o 2).bind fun cs=>some (.agg cs):=rfl
@[simp]theorem fa160_0(x:AV):qc2 PG 160 x 0=(match x with | .ptr b o=>some (.ptr b (o+0)) | .fptr cs o=>some (.fptr cs (o+0))|_=>none):=rfl
@[simp]theorem fd160_0(cs:List AV):qe1 PG 160 (.agg cs) 0=qcy cs 0:=rfl
@[simp]theorem fa160_1(x:AV):qc2 PG 160 x 1=(match x with | .ptr b o=>some (.ptr b (o+1)) | .fptr cs o=>some (.fptr cs (o+1))|_=>none):=rfl
@[simp]theorem fd160_1(cs:List AV):qe1 PG 160 (.agg cs) 1=qcy cs 1:=rfl
theorem c185(hS:qIn 150 T e150) (c:UInt8) (hc:c.toNat < 128):CA T 185 [.int .i32 (c.toNat:Int)] zH (.bool (sp c)) zH:=by
 have ks:=fun H=>k150 hS c H;have h1:(c.toNat:Int) < 128:=by omega
 have hw:IntKind.u8.wrap (c.toNat:Int)=(c.toNat:Int):=by simp[IntKind.wrap,IntKind.signed,IntKind.bits];omega
 have hcv:∀H,qh7 PG H 21 5 (.int .i32 (c.toNat:Int))=some (.int .u8 (c.toNat:Int),H):=fun H=>by simp[qh7,hw]
 refine qa1 (s0:=⟨[0,2],[.int .i32 (c.toNat:Int),uD],[],10,⟨0,[[]]⟩⟩) Tryz.func185 rfl rfl rfl ?_;apply qR;simp[zS];apply qR;simp[zS,h1,hcv,ks];apply qa3;simp[zQ,Tryz.f185];exact qa2 rfl (by rfl)
def shrB(k k':Blk):Prop:=k=k'\/∃cs G,k=.cells (cs++G)/\k'=.cells cs
def shrL:List (Nat × Blk)->List (Nat × Blk)->Prop
 |[],[]=>True
 |e::r,e'::r'=>e.1=e'.1/\shrB e.2 e'.2/\shrL r r'
 |_,_=>False
theorem zai:∀{l l':List (Nat × Blk)},shrL l l'->l'.map (·.1)=l.map (·.1)
 |[],[],_=>rfl
 |e::r,e'::r',h=>by simp[h.1,zai h.2.2]
 |[],_::_,h=>h.elim
 |_::_,[],h=>h.elim
theorem qmk:∀{l l':List (Nat × Blk)} {e':Nat × Blk},shrL l l'->e'∈l'->∃e,e∈l/\e.1=e'.1/\shrB e.2 e'.2
 |e::r,e1::r',e',h,he=>by
  rcases ja.1 he with rfl|he
  ·exact⟨e,by simp,h.1,h.2.1⟩
  ·obtain⟨x,h1,h2⟩:=qmk h.2.2 he;exact⟨x,by simp[h1],h2⟩
 |[],[],_,_,he=>by cases he
 |[],_::_,_,h,_=>h.elim
 |_::_,[],_,h,_=>h.elim
structure Shr (H H':Heap):Prop where
 n:H'.n=H.n
 l:shrL H.ents H'.ents
theorem BlkR.shr{ρ:Place} {w:World} {l:Loc} {k k':Blk} (r:BlkR ρ w l k) (h:shrB k k'):BlkR ρ w l k':=by
 rcases h with rfl|⟨cs,G,rfl,rfl⟩
 ·exact r
 ·refine⟨by have:=r.1;simp at this;omega,r.2.1,fun i hi=>?_⟩;have h2:=r.2.2 i (by simp;omega)
  rwa [j6 hi]at h2
theorem Sim.shr{ρ:Place} {H H':Heap} {w:World} (s:Sim ρ H w) (h:Shr H H'):Sim ρ H' w where
 base:=s.base
 below:=s.below
 os:=s.os
 tape:=s.tape
 output:=s.output
 dom:=fun b hb=>s.dom b (by rw[<- h.n];exact hb)
 nodup:=by rw[zai h.l];exact s.nodup
 live:=fun e' he'=>by obtain⟨e,he,h1,h2⟩:=qmk h.l he';obtain⟨l,hl,hb,hlt,hr⟩:=s.live e he;exact⟨l,by rw[<- h1];exact hl,hb,hlt,hr.shr h2⟩
 inj:=fun e1 e2 h1 h2 l1 l2 k1 k2 hcb=>by obtain⟨a1,ha1,b1,_⟩:=qmk h.l h1;obtain⟨a2,ha2,b2,_⟩:=qmk h.l h2;rw[<- b1,<- b2];exact s.inj a1 a2 ha1 ha2 l1 l2 (by rw[b1];exact k1) (by rw[b2];exact k2) hcb
theorem Step.shr{ρ:Place} {H H':Heap} {w:World} (s:Sim ρ H w) (h:Shr H H'):Step ρ H w ρ H' w where
 le:=Place.le_refl ρ
 size:=jc _
 keeps:=fun _ _ _=>rfl
 rows:=fun e' he' l' hl'=>by obtain⟨e,he,h1,_⟩:=qmk h.l he';exact .inl ⟨e,he,l',by rw[h1];exact hl',rfl⟩
 num:=Nat.le_of_eq h.n.symm
 low:=fun _ _=>rfl
 cold:=fun _ h=>.inl h
theorem At.shr{b:Base} {s:St} {a:Act} {w:World} {H':Heap} (h:At b s a w) (k:Shr s.H H'):At b (s.wH H') a w:=by obtain⟨ρ,h1,h2,h3,h4⟩:=h;obtain⟨ks,vs,ts,sz,H⟩:=s;exact⟨ρ,h1.step (Step.shr h2 k),h2.shr k,⟨h3.1,h3.2⟩,h4.step (Step.shr h2 k)⟩
theorem WpSr.shr{C:Ctx} {n:Nat} {r:Option Nat} {c:Code} {s:St} {Q:Out->St->Prop} {H':Heap} (k:Shr s.H H') (h:WpSr C n r c (s.wH H') Q):WpSr C n r c s Q:=
 fun b a w hb ha K hK=>h b a w hb (ha.shr k) K hK
section
variable {σ:List (Nat × Nat)} {Φ:List (Nat × List AV)} {ρ:Place} {H H1:Heap} {w:World}
theorem FitH.step(f:FitH H.n σ Φ H H1) (sm:Sim ρ H w):Step ρ H w (qei H.n σ Φ ρ w sm.below) H1 w where
 le:=⟨fun b l hb=>by
  have hlt:b < H.n:=by
   rcases jR b H.n with h|h
   ·exact h
   ·rw[sm.dom b h]at hb;cases hb
  show (if b < H.n then ρ b else _)=_;rw[if_pos hlt];exact hb,fun k hk=>⟨.inl hk,sm.below k hk⟩,sm.os,sm.tape,sm.output⟩
 size:=jc _
 keeps:=fun _ _ _=>rfl
 rows:=fun e he l hl=>by obtain⟨c,k,h1,h2,_⟩:=f.src e he;rw[qew f h1]at hl;exact .inl ⟨_,Heap.get_mem h2,l,hl,rfl⟩
 num:=f.num
 low:=fun b hb=>by show (if b < H.n then ρ b else _)=_;rw[if_pos hb]
 cold:=fun k hk=>by
  rcases hk with hk|⟨c,cs,l,h1,h2,rfl⟩
  ·exact .inl hk
  ·obtain⟨cs0,g1,_⟩:=f.frz _ h1;exact .inr (.inl ⟨_,Heap.get_mem g1,l,h2,rfl⟩)
theorem CallAt.drop{C:Ctx} {f:FuncId} {args args':List AV} {v:AV} {H':Heap} (h:CallAt C f args' H1 v H') (fh:(H.ents.map (·.1)).Nodup->FitH H.n σ Φ H H1) (hf:qaz σ Φ args args'):CallAt C f args H v H':=by
 intro ρ w xs sm hx;have f:=fh sm.nodup;have hx':VRs (qei H.n σ Φ ρ w sm.below) args' xs:=by obtain⟨k1,k2⟩:=qe0 hf;refine⟨by rw[hx.1,k1],fun i h1 h2=>?_⟩;exact Fits.run (f.fits sm) sm _ (jc _) (hx.2 i (by omega) h2) (k2 i (by omega) h1)
 have st:=f.step sm;rcases h _ w xs (f.sim sm (jc _)) hx' with⟨x,ρ',w',h0,h1,h2,h3⟩|⟨g,ys,h0,h1⟩
 ·exact .inl ⟨x,ρ',w',h0,h1,h2,st.trans h3⟩
 ·refine .inr ⟨g,ys,h0,h1.mono ?_⟩;rintro e w' ⟨x,ρ',rfl,m1,m2,m3⟩;exact⟨x,ρ',rfl,m1,m2,st.trans m3⟩
end
structure RgA where
 C:Ctx
 call:qcj
 ops:Array Oper
 bef:Array Nat
 base:Nat
 H0:Heap
open Classical in
def evalA(A:RgA):Nat->List Oper->St->List Pend->Option (St × List Pend)
 |_,[],s,ps=>some (s,ps)
 |i,o::r,s,ps=>match qc9 A.ops s o with
  |none=>none
  |some false=>(match qc4 o.op,qb4 A.bef i ps with
    |.acts,_::_=>none
    |_,_=>match s.put o.dst (.tup [])with
     |none=>none
     |some s'=>evalA A (i+1) r s' ps)
  |some true=>match qc4 o.op with
   |.allocs=>(match qdx A.C o s with
    |none=>none
    |some k=>match s.put o.dst (k.1 (A.base+i))with
     |none=>none
     |some s'=>evalA A (i+1) r s' (⟨i,A.base+i,k.2⟩::ps))
   |.acts=>(match qae A.C A.call o (s.wH (s.H.lay (qb4 A.bef i ps)))with
    |none=>none
    |some v=>if v.2=A.H0 then (match s.put o.dst v.1 with
     |none=>none
     |some s'=>evalA A (i+1) r s' (qb0 A.bef i ps)) else none)
   |_=>(match qae A.C A.call o s with
    |none=>none
    |some v=>match s.put o.dst v.1 with
     |none=>none
     |some s'=>evalA A (i+1) r s' ps)
section
variable {A:RgA} {i:Nat} {o:Oper} {r:List Oper} {s s':St} {ps:List Pend} {v:AV} {H:Heap}
def zec(A:RgA) (i:Nat) (r:List Oper) (ps:List Pend):Option St->Option (St × List Pend)
 |none=>none
 |some s'=>evalA A (i+1) r s' ps
def valA(A:RgA) (i:Nat) (o:Oper) (r:List Oper) (s:St) (ps:List Pend):Option (AV × Heap)->Option (St × List Pend)
 |none=>none
 |some v=>zec A i r ps (s.put o.dst v.1)
open Classical in
def actA(A:RgA) (i:Nat) (o:Oper) (r:List Oper) (s:St) (ps:List Pend):Option (AV × Heap)->Option (St × List Pend)
 |none=>none
 |some v=>if v.2=A.H0 then zec A i r (qb0 A.bef i ps) (s.put o.dst v.1) else none
def layA(A:RgA) (i:Nat) (o:Oper) (r:List Oper) (s:St) (ps:List Pend):Option ((Nat->AV) × Blk)->Option (St × List Pend)
 |none=>none
 |some k=>zec A i r (⟨i,A.base+i,k.2⟩::ps) (s.put o.dst (k.1 (A.base+i)))
def clsA(A:RgA) (i:Nat) (o:Oper) (r:List Oper) (s:St) (ps:List Pend):Cls->Option (St × List Pend)
 |.allocs=>layA A i o r s ps (qdx A.C o s)
 |.acts=>actA A i o r s ps (qae A.C A.call o (s.wH (s.H.lay (qb4 A.bef i ps))))
 |_=>valA A i o r s ps (qae A.C A.call o s)
def offA(A:RgA) (i:Nat) (o:Oper) (r:List Oper) (s:St) (ps:List Pend):Cls->List (Nat × Blk)->Option (St × List Pend)
 |.acts,_::_=>none
 |_,_=>zec A i r ps (s.put o.dst (.tup []))
def zhq(A:RgA) (i:Nat) (o:Oper) (r:List Oper) (s:St) (ps:List Pend):Option Bool->Option (St × List Pend)
 |none=>none
 |some false=>offA A i o r s ps (qc4 o.op) (qb4 A.bef i ps)
 |some true=>clsA A i o r s ps (qc4 o.op)
theorem zih:evalA A i [] s ps=some (s,ps):=rfl
theorem zii:evalA A i (o::r) s ps=zhq A i o r s ps (qc9 A.ops s o):=by
 rw[evalA.eq_def];simp only;cases qc9 A.ops s o with
 |none=>rfl
 |some g=>
  cases g with
  |false=>simp only[zhq,offA];cases qc4 o.op<;>cases qb4 A.bef i ps<;>rfl
  |true=>
   simp only[zhq,clsA];cases qc4 o.op with
   |allocs=>simp only[layA];cases qdx A.C o s<;>rfl
   |acts=>simp only[actA];cases qae A.C A.call o (s.wH (s.H.lay (qb4 A.bef i ps)))<;>rfl
   |pure=>simp only[valA];cases qae A.C A.call o s<;>rfl
   |reads=>simp only[valA];cases qae A.C A.call o s<;>rfl
theorem qmu:zec A i r ps (some s')=evalA A (i+1) r s' ps:=rfl
theorem zev:valA A i o r s ps (some (v,H))=zec A i r ps (s.put o.dst v):=rfl
theorem actA_s(h:H=A.H0):actA A i o r s ps (some (v,H))=zec A i r (qb0 A.bef i ps) (s.put o.dst v):=by simp only[actA,h,if_true]
theorem layA_s{k:(Nat->AV) × Blk}:layA A i o r s ps (some k)=zec A i r (⟨i,A.base+i,k.2⟩::ps) (s.put o.dst (k.1 (A.base+i))):=rfl
theorem zho:zhq A i o r s ps (some true)=clsA A i o r s ps (qc4 o.op):=rfl
theorem zhp:zhq A i o r s ps (some false)=offA A i o r s ps (qc4 o.op) (qb4 A.bef i ps):=rfl
theorem clsA_l:clsA A i o r s ps .allocs=layA A i o r s ps (qdx A.C o s):=rfl
theorem clsA_a:clsA A i o r s ps .acts=actA A i o r s ps (qae A.C A.call o (s.wH (s.H.lay (qb4 A.bef i ps)))):=rfl
theorem clsA_p:clsA A i o r s ps .pure=valA A i o r s ps (qae A.C A.call o s):=rfl
theorem clsA_r:clsA A i o r s ps .reads=valA A i o r s ps (qae A.C A.call o s):=rfl
theorem offA_a:offA A i o r s ps .acts []=zec A i r ps (s.put o.dst (.tup [])):=rfl
theorem offA_l{w:List (Nat × Blk)}:offA A i o r s ps .allocs w=zec A i r ps (s.put o.dst (.tup [])):=rfl
theorem offA_p{w:List (Nat × Blk)}:offA A i o r s ps .pure w=zec A i r ps (s.put o.dst (.tup [])):=rfl
theorem offA_r{w:List (Nat × Blk)}:offA A i o r s ps .reads w=zec A i r ps (s.put o.dst (.tup [])):=rfl
end
structure InvA (A:RgA) (d:DrawSt) (s:St) (ps:List Pend):Prop where
 s_:d.s=s
 H_:s.H=A.H0
 ps:d.ps=ps
 hs:∀h,h∈d.hs->h.2=A.H0
 rs:∀x,x∈d.rs->∃y,qae A.C A.call x.o { x.s with H:=A.H0 }=some y/\y.1=x.v
theorem qoo{bef:Array Nat} {i:Nat}:∀{ps:List Pend},qb4 bef i ps=[]->qb0 bef i ps=ps
 |[],_=>rfl
 |p::r,h=>by
  unfold qb4 at h;unfold qb0;cases ha:ahead bef p.i i with
  |true=>rw[ha]at h;cases h
  |false=>rw[ha]at h;simp only at h ⊢;rw[qoo h]
theorem zij{A:RgA}:∀{l:List Oper} {i:Nat} {s s':St} {ps ps':List Pend} {d:DrawSt},evalA A i l s ps=some (s',ps')->InvA A d s ps->∃d',qnl A.C A.call A.ops A.bef A.base i l d=some d'/\InvA A d' s' ps'
 |[],i,s,s',ps,ps',d,h,k=>by rw[zih,sj,jf]at h;obtain⟨rfl,rfl⟩:=h;exact⟨d,rfl,k⟩
 |o::r,i,s,s',ps,ps',d,h,k=>by
  have next:∀{s1:St} {ps1:List Pend} {d1:DrawSt},qib A.C A.call A.ops A.bef A.base i o d=some d1->InvA A d1 s1 ps1->evalA A (i+1) r s1 ps1=some (s',ps')->∃d',qnl A.C A.call A.ops A.bef A.base i (o::r) d=some d'/\InvA A d' s' ps':=fun h1 h2 h3=>by obtain⟨d2,r1,r2⟩:=zij h3 h2;exact⟨d2,by simp only[qnl,h1,jb];exact r1,r2⟩
  obtain⟨ds,dps,hs,rs⟩:=d;obtain⟨rfl,k2,rfl,k4,k5⟩:=k;simp only at k2 k4 k5 next
  rw[zii]at h;have putH:∀{dst:Option Tmp} {v:AV} {s1:St},ds.put dst v=some s1->s1.H=A.H0:=fun {dst v s1} hp=>by rw[<- k2];exact St.put_heap hp
  cases hg:qc9 A.ops ds o with
  |none=>rw[hg]at h;cases h
  |some g=>
  rw[hg]at h;cases g with
  |false=>
   rw[zhp]at h;cases hc:qc4 o.op with
   |acts=>
    rw[hc]at h;cases hw:qb4 A.bef i dps with
    |cons a b=>rw[hw]at h;cases h
    |nil=>
     rw[hw,offA_a]at h;cases hp:ds.put o.dst (.tup [])with
     |none=>rw[hp]at h;cases h
     |some s1=>
      rw[hp,qmu]at h;refine next (s1:=s1) (ps1:=dps) (d1:=⟨s1.wH s1.H,dps,(i,s1.H)::hs,rs⟩) ?_ ⟨rfl,putH hp,rfl,fun x hx=>?_,k5⟩ h
      ·unfold qib;simp only[hg,jb,hp,hc,hw,qoo hw,Heap.lay]
      ·rcases ja.1 hx with rfl|hx
       ·exact putH hp
       ·exact k4 x hx
   |allocs=>
    rw[hc,offA_l]at h;cases hp:ds.put o.dst (.tup [])with
    |none=>rw[hp]at h;cases h
    |some s1=>
     rw[hp,qmu]at h;refine next (s1:=s1) (ps1:=dps) (d1:=⟨s1,dps,hs,rs⟩) ?_ ⟨rfl,putH hp,rfl,k4,k5⟩ h
     unfold qib;simp only[hg,jb,hp,hc]
   |pure=>
    rw[hc,offA_p]at h;cases hp:ds.put o.dst (.tup [])with
    |none=>rw[hp]at h;cases h
    |some s1=>
     rw[hp,qmu]at h;refine next (s1:=s1) (ps1:=dps) (d1:=⟨s1,dps,hs,rs⟩) ?_ ⟨rfl,putH hp,rfl,k4,k5⟩ h
     unfold qib;simp only[hg,jb,hp,hc]
   |reads=>
    rw[hc,offA_r]at h;cases hp:ds.put o.dst (.tup [])with
    |none=>rw[hp]at h;cases h
    |some s1=>
     rw[hp,qmu]at h;refine next (s1:=s1) (ps1:=dps) (d1:=⟨s1,dps,hs,rs⟩) ?_ ⟨rfl,putH hp,rfl,k4,k5⟩ h
     unfold qib;simp only[hg,jb,hp,hc]
  |true=>
   rw[zho]at h;cases hc:qc4 o.op with
   |acts=>
    rw[hc,clsA_a]at h;cases hv:qae A.C A.call o (ds.wH (ds.H.lay (qb4 A.bef i dps)))with
    |none=>rw[hv]at h;cases h
    |some v=>
     rw[hv]at h;simp only[actA]at h;split at h
     ·rename_i hH;cases hp:ds.put o.dst v.1 with
      |none=>rw[hp]at h;cases h
      |some s1=>
       rw[hp,qmu]at h;have hd:ds.wH v.2=ds:=(by rw[hH,<- k2];rfl);refine next (s1:=s1) (ps1:=qb0 A.bef i dps) (d1:=⟨s1,qb0 A.bef i dps,(i,s1.H)::hs,rs⟩) ?_ ⟨rfl,putH hp,rfl,fun x hx=>?_,k5⟩ h
       ·unfold qib;simp only[hg,jb,hc,hv,hd,hp]
       ·rcases ja.1 hx with rfl|hx
        ·exact putH hp
        ·exact k4 x hx
     ·cases h
   |allocs=>
    rw[hc,clsA_l]at h;cases hv:qdx A.C o ds with
    |none=>rw[hv]at h;cases h
    |some k=>
     rw[hv,layA_s]at h;cases hp:ds.put o.dst (k.1 (A.base+i))with
     |none=>rw[hp]at h;cases h
     |some s1=>
      rw[hp,qmu]at h;refine next (s1:=s1) (d1:=⟨s1,⟨i,A.base+i,k.2⟩::dps,hs,rs⟩) ?_ ⟨rfl,putH hp,rfl,k4,k5⟩ h
      unfold qib;simp only[hg,jb,hc,hv,hp]
   |pure=>
    rw[hc,clsA_p]at h;cases hv:qae A.C A.call o ds with
    |none=>rw[hv]at h;cases h
    |some v=>
     obtain⟨v,Hv⟩:=v;rw[hv,zev]at h;cases hp:ds.put o.dst v with
     |none=>rw[hp]at h;cases h
     |some s1=>
      rw[hp,qmu]at h;refine next (s1:=s1) (ps1:=dps) (d1:=⟨s1,dps,hs,rs⟩) ?_ ⟨rfl,putH hp,rfl,k4,k5⟩ h
      unfold qib;simp only[hg,jb,hc,hv,hp]
   |reads=>
    rw[hc,clsA_r]at h;cases hv:qae A.C A.call o ds with
    |none=>rw[hv]at h;cases h
    |some v=>
     obtain⟨v,Hv⟩:=v;rw[hv,zev]at h;cases hp:ds.put o.dst v with
     |none=>rw[hp]at h;cases h
     |some s1=>
      rw[hp,qmu]at h;refine next (s1:=s1) (ps1:=dps) (d1:=⟨s1,dps,hs,⟨i,o,ds,v⟩::rs⟩) ?_ ⟨rfl,putH hp,rfl,k4,fun x hx=>?_⟩ h
      ·unfold qib;simp only[hg,jb,hc,hv,hp]
      ·rcases ja.1 hx with rfl|hx
       ·simp only;rw[<- k2];exact⟨_,hv,rfl⟩
       ·exact k5 x hx
theorem zen{C:Ctx} {call:qcj} {ops:Array Oper} {n:Nat} {s:St} {Q:Out->St->Prop} {id:Nat} (hm:C.P.follows .mixedOrders=true) (hC:CallOK C call) (hd:qtb ops=true)
  (hf:qas ops.toList { s with ts:=[] }={ s with ts:=[] })
  (h:∀B:Array Nat,B=Region.before ops->∃s' ps,evalA ⟨C,call,ops,B,s.H.n,⟨s.H.n+ops.size,s.H.fs⟩⟩ 0 ops.toList { s with ts:=[],H:=⟨s.H.n+ops.size,s.H.fs⟩ } []=some (s',ps)/\Q .normal { s' with H:=s'.H.lay (qc8 ps) }):WpS C n (.region id ops true) s Q:=by
 refine qcc hm hC hd fun B hB=>?_;obtain⟨s',ps,h1,h2⟩:=h B hB;have hr:qbn (qas ops.toList { s with ts:=[] }) ops.size={ s with ts:=[],H:=⟨s.H.n+ops.size,s.H.fs⟩ }:=by rw[hf];rfl
 rw[hr];obtain⟨d,q1,q2⟩:=zij (d:=⟨{ s with ts:=[],H:=⟨s.H.n+ops.size,s.H.fs⟩ },[],[],[]⟩) h1 ⟨rfl,rfl,rfl,fun h hh=>(by cases hh),fun x hx=>(by cases hx)⟩;refine⟨d,q1,qyh q2.hs q2.rs,?_⟩;rw[q2.ps,q2.s_];exact h2
def qdn(s:Str):Prop:=∀c,c∈s->c.toNat < 128
theorem zir{s:Str} {i:Nat} (h:i < s.length) (hc:s[i].toNat < 128):Utf8.decode ⟨s.toArray⟩ i=(s[i].toNat,1):=by
 have h0:(ByteArray.get! ⟨s.toArray⟩ (i+0)).toNat=s[i].toNat:=by show (s.toArray[i+0]!).toNat=_;simp[h]
 unfold Utf8.decode;simp only[h0,hc,if_true]
def qs4(L:List (Nat × Nat)):List AV:=L.flatMap fun p=>[.int .i64 (p.1:Int),.int .i64 (p.2:Int)]
def spn(p:Nat × Nat):AV:=.agg [.int .i64 (p.1:Int),.int .i64 (p.2:Int)]
def qs2(n:Nat):List AV:=List.replicate n (.int .i64 0)
def spV(n:Nat):AV:=if n<=32 then .slc 0 0 n (.ex 32) else .slc 0 0 n (.rest 2)
def spB(L:List (Nat × Nat)):List AV:=if L.length<=32 then qs4 L++qs2 (64 - 2 * L.length) else qs4 L
theorem zag(L:List (Nat × Nat)):(qs4 L).length=2 * L.length:=by
 induction L with
 |nil=>rfl
 |cons a r ih=>simp only[qs4,yx,jo,jx,jW]at ih ⊢;omega
theorem zah(L:List (Nat × Nat)) (p:Nat × Nat):qs4 (L++[p])=qs4 L++[.int .i64 (p.1:Int),.int .i64 (p.2:Int)]:=by simp[qs4]
theorem qvw(L:List (Nat × Nat)):qa9 (qs4 L)=true:=by
 induction L with
 |nil=>rfl
 |cons a r ih=>have:qs4 (a::r)=[.int .i64 (a.1:Int),.int .i64 (a.2:Int)]++qs4 r:=rfl;rw[this,qgm,ih];rfl
theorem zck(n:Nat):qa9 (qs2 n)=true:=by
 induction n with
 |zero=>rfl
 |succ n ih=>simp only[qs2,yy]at ih ⊢;simp[qa9,qab,ih]
theorem qis(L:List (Nat × Nat)):qa9 (spB L)=true:=by
 unfold spB;split
 ·rw[qgm,qvw,zck];rfl
 ·exact qvw L
theorem zc1(L:List (Nat × Nat)):qa5 (L.map spn)=qs4 L:=by
 induction L with
 |nil=>rfl
 |cons a r ih=>simp only[jj,qa5,ih];rfl
theorem el_spn(L:List (Nat × Nat)):Elems 2 (L.map spn):=.map (sz:=2) (f:=spn) (by decide) (fun x=>⟨rfl,rfl,fun h=>absurd h (by decide),fun _=>⟨_,rfl⟩⟩) L
theorem qya(L:List (Nat × Nat)):qek 0 (L.length * 2) (spB L)=some (qs4 L):=by
 have h:(qs4 L).length=L.length * 2:=by rw[zag];omega
 unfold spB;split
 ·rw[qku (by simp;omega),jF,List.take_append_of_le_length (by omega),jz (by omega)]
 ·rw[qku (by omega),jF,jz (by omega)]
theorem app_sp{L:List (Nat × Nat)} {p:Nat × Nat} {I:Blk} (hl:L.length<=1000000) :
  ∃b m f,b≠1/\qby PG ⟨3,[[(2,.cells [.int .i64 (p.1:Int),.int .i64 (p.2:Int)]),(1,I),(0,.cells (spB L))]]⟩ 160 (spV L.length) (.slc 2 0 1 (.ex 1)) =
   some ((if L.length+1<=32 then .slc b 0 (L.length+1) (.ex 32) else .slc b 0 (L.length+1) (.rest 2)),⟨m,f⟩)/\Heap.get ⟨m,f⟩ 1=some I/\Heap.get ⟨m,f⟩ b=some (.cells (spB (L++[p]))):=by
 have hcs:∀H:Heap,Heap.get H 2=some (.cells [.int .i64 (p.1:Int),.int .i64 (p.2:Int)])->qbb H 2 1 (.slc 2 0 1 (.ex 1))=some [.int .i64 (p.1:Int),.int .i64 (p.2:Int)]:=fun H h=>by simp[qbb,readCells,h]
 have g0:Heap.get ⟨3,[[(2,.cells [.int .i64 (p.1:Int),.int .i64 (p.2:Int)]),(1,I),(0,.cells (spB L))]]⟩ 0=some (.cells (spB L)):=by simp[zG]
 have hsrc:=hcs ⟨3,[[(2,.cells [.int .i64 (p.1:Int),.int .i64 (p.2:Int)]),(1,I),(0,.cells (spB L))]]⟩ (by simp[zG]);have hroom:qcf (L.length+1) 16=true:=by unfold qcf;rw[jN];omega
 have hrow:∀cs,qpi PG 160 cs=.cells cs:=fun cs=>rfl;have h64:(qs4 L).length=2 * L.length:=zag L;have hlen1:(L++[p]).length=L.length+1:=by simp
 by_cases h1:L.length+1<=32
 ·have hv:spV L.length=.slc 0 0 L.length (.ex 32):=by unfold spV;rw[if_pos (by omega)]
  have hb:Nat.ble (L.length+1) 32=true:=by rw[jN];exact h1
  have hB:spB L=qs4 L++qs2 2++qs2 (62 - 2 * L.length):=by unfold spB;rw[if_pos (by omega),List.append_assoc];congr 1;simp only[qs2];rw[List.replicate_append_replicate];congr 1;omega
  have hB2:spB (L++[p])=qs4 L++[.int .i64 (p.1:Int),.int .i64 (p.2:Int)]++qs2 (62 - 2 * L.length):=by unfold spB;rw[hlen1,if_pos h1,zah];congr 2;omega
  have hlay:qho [.int .i64 (p.1:Int),.int .i64 (p.2:Int)] (0+L.length * 2) (spB L)=some (spB (L++[p])):=by have:=qh3 (a:=qs4 L) (b:=qs2 2) (b':=[.int .i64 (p.1:Int),.int .i64 (p.2:Int)]) (c:=qs2 (62 - 2 * L.length)) rfl;rw[h64]at this;rw[hB,hB2,show 0+L.length * 2=2 * L.length by omega,this]
  refine⟨0,3,[[(2,.cells [.int .i64 (p.1:Int),.int .i64 (p.2:Int)]),(1,I),(0,.cells (spB (L++[p])))]],by omega,?_,by simp[zG],by simp[zG]⟩;rw[if_pos h1,hv];unfold qby;simp only[zf7,zjc,zej,jb,qc7,hsrc,hroom,hb];simp only[writeCells,g0,jb,Blk.wt,hlay,Blk.re];simp[Heap.ready,refs,Heap.set,setFs,setF,allSingle,AV.single];rfl
 ·have hB2:spB (L++[p])=qs4 L++[.int .i64 (p.1:Int),.int .i64 (p.2:Int)]:=by unfold spB;rw[hlen1,if_neg h1,zah]
  have hread:readCells ⟨3,[[(2,.cells [.int .i64 (p.1:Int),.int .i64 (p.2:Int)]),(1,I),(0,.cells (spB L))]]⟩ 0 0 (L.length * 2)=some (qs4 L):=by unfold readCells;simp only[g0,jb,qty];exact qya L
  by_cases h2:L.length=32
  ·have hv:spV L.length=.slc 0 0 L.length (.ex 32):=(by unfold spV;rw[if_pos (by omega)]);have hb:Nat.ble (L.length+1) 32=false:=(by rw[<- Bool.not_eq_true,jN];exact h1);refine⟨3,4,[[(3,.cells (spB (L++[p]))),(2,.cells [.int .i64 (p.1:Int),.int .i64 (p.2:Int)]),(1,I),(0,.cells (spB L))]],by omega,?_,by simp[zG],by simp[zG]⟩;rw[if_neg h1,hv,hB2];unfold qby;simp only[zf7,zjc,zej,jb,qc7,hsrc,hroom,hb,hread,hrow];simp[Heap.new,pushF,allSingle,AV.single];rfl
  ·have hv:spV L.length=.slc 0 0 L.length (.rest 2):=(by unfold spV;rw[if_neg (by omega)]);have hB:spB L=qs4 L:=(by unfold spB;rw[if_neg (by omega)]);have hk:qck ⟨3,[[(2,.cells [.int .i64 (p.1:Int),.int .i64 (p.2:Int)]),(1,I),(0,.cells (spB L))]]⟩ 0=some (2 * L.length):=(by rw[qck,g0,hB];simp[h64]);have hb1:Nat.ble (0+(L.length+1) * 2) (2 * L.length)=false:=(by rw[<- Bool.not_eq_true,jN];omega);have hb2:Nat.beq (0+L.length * 2) (2 * L.length)=true:=(by rw[show 0+L.length * 2=2 * L.length by omega];exact jD _);refine⟨3,4,[[(3,.cells (spB (L++[p]))),(2,.cells [.int .i64 (p.1:Int),.int .i64 (p.2:Int)]),(1,I)]],by omega,?_,by simp[zG],by simp[zG]⟩;rw[if_neg h1,hv,hB2];unfold qby;simp only[zf7,zjc,zej,jb,qc7,hsrc,hroom,hk,hb1,hb2,hread,g0,qt3];simp[Heap.new,pushF,allSingle,AV.single,Heap.drop,qem,getF,killF];rfl
def qej(s:Str) (p:Nat × Nat):Str:=(s.drop p.1).take (p.2 - p.1)
structure SpOk (s:Str) (i:Nat) (L:List (Nat × Nat)) (st:Int):Prop where
 le:i<=s.length
 few:L.length<=i
 done:L.map (qej s)=(wst (s.take i)).1
 rng:∀p,p∈L->p.1<=p.2/\p.2<=s.length
 lo : -1000001<=st
 cur:(st < 0/\(wst (s.take i)).2=[])\/∃a:Nat,st=a/\a < i/\(wst (s.take i)).2=qej s (a,i)
theorem qxg{H:Heap} {b j:Nat} {s:Str} {cs:List AV} (hb:b≠1) (h1:H.get 1=some (.iter s j)) (h2:H.get b=some (.cells cs)) (hp:qa9 cs=true):FitH 0 [(1,1),(b,0)] [] H ⟨2,[[(1,.iter s j),(0,.cells cs)]]⟩ where
 nd1:=by simp;omega
 nd2:=by simp
 nd3:=by simp[Heap.ents]
 lt:=fun x hx=>by simp at hx;rcases hx with rfl|rfl<;>simp
 idn:=fun x hx h=>by rcases h with h|h<;>exact absurd h (jk _)
 num:=jh _
 src:=fun e he=>by
  simp[Heap.ents]at he;rcases he with rfl|rfl
  ·exact⟨1,_,by simp,h1,by simp[qhp]⟩
  ·exact⟨b,_,by simp,h2,qaf hp⟩
 frz:=fun x hx=>by cases hx
theorem word_one{s:Str} {i:Nat} (h:i < s.length):qej s (i,i+1)=[s[i]]:=by unfold qej;simp only;rw[List.drop_eq_getElem_cons h,show i+1 - i=1 by omega];rfl
theorem zep{s:Str} {a i:Nat} (h:i < s.length) (ha:a<=i):qej s (a,i+1)=qej s (a,i)++[s[i]]:=by unfold qej;simp only;rw[show i+1 - a=(i - a)+1 by omega,jw (by simp;omega)];congr 2;rw[yc];congr 1;omega
theorem zfh{s:Str} {i:Nat} {L:List (Nat × Nat)} {st:Int} (h:i < s.length) (k:SpOk s i L st) (hs:sp s[i]=true) (h0:st < 0):SpOk s (i+1) L st:=by
 have he:(wst (s.take i)).2=[]:=by
  rcases k.cur with⟨_,h⟩|⟨a,ha,_⟩
  ·exact h
  ·omega
 refine⟨by omega,by have:=k.few;omega,?_,k.rng,k.lo,.inl ⟨h0,?_⟩⟩
 ·rw[qle h];simp only[qhq,hs,if_true,he,k.done]
 ·rw[qle h];simp only[qhq,hs,if_true]
theorem zfg{s:Str} {i a:Nat} {L:List (Nat × Nat)} (h:i < s.length) (k:SpOk s i L (a:Int)) (hs:sp s[i]=true) (hl:s.length<=1000000):SpOk s (i+1) (L++[(a,i)]) (-(a:Int) - 1):=by
 obtain⟨hai,hc⟩ : a < i/\(wst (s.take i)).2=qej s (a,i):=by
  rcases k.cur with⟨h,_⟩|⟨b,hb,h1,h2⟩
  ·omega
  ·have:a=b:=(by omega);subst this;exact⟨h1,h2⟩
 have hne:¬ qej s (a,i)=[]:=by intro e;have:=congrArg List.length e;simp[qej]at this;omega
 refine⟨by omega,by have:=k.few;simp;omega,?_,fun p hp=>?_,by omega,.inl ⟨by omega,?_⟩⟩
 ·rw[qle h];simp only[qhq,hs,if_true,hc,hne,if_false,j3,k.done];rfl
 ·rcases jl.1 hp with hp|hp
  ·exact k.rng p hp
  ·simp at hp;subst hp;exact⟨by simp only;omega,by simp only;omega⟩
 ·rw[qle h];simp only[qhq,hs,if_true]
theorem sp_char0{s:Str} {i:Nat} {L:List (Nat × Nat)} {st:Int} (h:i < s.length) (k:SpOk s i L st) (hs:sp s[i]=false) (h0:st < 0):SpOk s (i+1) L (i:Int):=by
 have he:(wst (s.take i)).2=[]:=by
  rcases k.cur with⟨_,h⟩|⟨a,ha,_⟩
  ·exact h
  ·omega
 refine⟨by omega,by have:=k.few;omega,?_,k.rng,by omega,.inr ⟨i,rfl,by omega,?_⟩⟩
 ·rw[qle h];simp[qhq,hs,k.done]
 ·rw[qle h,word_one h];simp[qhq,hs,he]
theorem sp_char1{s:Str} {i a:Nat} {L:List (Nat × Nat)} (h:i < s.length) (k:SpOk s i L (a:Int)) (hs:sp s[i]=false):SpOk s (i+1) L (a:Int):=by
 obtain⟨hai,hc⟩ : a < i/\(wst (s.take i)).2=qej s (a,i):=by
  rcases k.cur with⟨h,_⟩|⟨b,hb,h1,h2⟩
  ·omega
  ·have:a=b:=(by omega);subst this;exact⟨h1,h2⟩
 refine⟨by omega,by have:=k.few;omega,?_,k.rng,by omega,.inr ⟨a,rfl,by omega,?_⟩⟩
 ·rw[qle h];simp[qhq,hs,k.done]
 ·rw[qle h,zep h (by omega)];simp[qhq,hs,hc]
theorem sp_begin(s:Str):SpOk s 0 [] (-1):=⟨jh _,by simp,by simp[wst],by simp,by omega,.inl ⟨by omega,by simp[wst]⟩⟩
theorem sp_end0{s:Str} {L:List (Nat × Nat)} {st:Int} (k:SpOk s s.length L st) (h0:st < 0):L.map (qej s)=qbv s:=by
 have he:(wst (s.take s.length)).2=[]:=by
  rcases k.cur with⟨_,h⟩|⟨a,ha,_⟩
  ·exact h
  ·omega
 have hd:=k.done;rw[jz (jc _)]at hd he;rw[hd,qbv,wfin,if_pos he]
theorem sp_end1{s:Str} {a:Nat} {L:List (Nat × Nat)} (k:SpOk s s.length L (a:Int)):(L++[(a,s.length)]).map (qej s)=qbv s/\a < s.length:=by
 obtain⟨hai,hc⟩ : a < s.length/\(wst (s.take s.length)).2=qej s (a,s.length):=by
  rcases k.cur with⟨h,_⟩|⟨b,hb,h1,h2⟩
  ·omega
  ·have:a=b:=(by omega);subst this;exact⟨h1,h2⟩
 have hne:¬ qej s (a,s.length)=[]:=by intro e;have:=congrArg List.length e;simp[qej]at this;omega
 have hd:=k.done;rw[jz (jc _)]at hd hc;refine⟨?_,hai⟩;rw[j3,hd,qbv,wfin,hc,if_neg hne];rfl
theorem xor_not{a:Nat} (h:a<=1000000):unA .xor (.int .i64 (a:Int))=some (.int .i64 (-(a:Int) - 1)):=by
 have h1:(BitVec.ofInt 64 (-1) ^^^ BitVec.ofInt 64 (a:Int)).toNat=18446744073709551615 - a:=by
  have e1:BitVec.ofInt 64 (-1)=BitVec.allOnes 64:=by decide
  have e2:BitVec.ofInt 64 (a:Int)=BitVec.ofNat 64 a:=by simp
  rw[e1,e2,BitVec.allOnes_xor,BitVec.toNat_not,BitVec.toNat_ofNat];omega
 show some (AV.int .i64 (IntKind.i64.wrap ((BitVec.ofInt 64 (-1) ^^^ BitVec.ofInt 64 (a:Int)).toNat:Int)))=_;rw[h1];have h2:IntKind.i64.wrap ((18446744073709551615 - a:Nat):Int) = -(a:Int) - 1:=by
  have h3:((18446744073709551615 - a:Nat):Int)=18446744073709551615 - (a:Int):=by omega
  rw[h3];simp[IntKind.wrap,IntKind.signed,IntKind.bits];omega
 rw[h2]
@[simp]theorem fr_range{d:Option Tmp} {t:TypeId} {l:Operand} {ty:TypeId} {pos:String} {af:Array Edge} {g:Option (Nat × Bool)} {s:St}:qbw s ⟨d,.range t l,ty,pos,af,g⟩=s:=rfl
@[simp]theorem fr_next{d:Option Tmp} {b:Bool} {l:Operand} {ty:TypeId} {pos:String} {af:Array Edge} {g:Option (Nat × Bool)} {s:St}:qbw s ⟨d,.next l b,ty,pos,af,g⟩=s:=rfl
def bl5(n:Nat):List AV:=List.replicate n (.str [])
def sts(L:List Str):List AV:=L.map .str
theorem zcf(n:Nat):qa9 (bl5 n)=true:=by
 induction n with
 |zero=>rfl
 |succ n ih=>simp only[bl5,yy]at ih ⊢;simp[qa9,qab,ih]
theorem qph(L:List Str):qa9 (sts L)=true:=by
 induction L with
 |nil=>rfl
 |cons a r ih=>simp only[sts,jj]at ih ⊢;simp[qa9,qab,ih]
theorem sts_set{X:List Str} {k:Nat} {w:Str}:(sts X++bl5 (k+1)).set X.length (.str w)=sts (X++[w])++bl5 k:=by rw[yu _ _ (by simp[sts])];simp[sts,bl5,yy]
theorem mkStrs{H:Heap} {n:Nat} (h:n<=1000000):qgg PG H 36 (.int .i64 (n:Int)) (.int .i64 (n:Int))=some (.slc H.n 0 n (.ex n),H.new (.cells (bl5 n))):=by
 have hr:∀n,replL [AV.str []] n=bl5 n:=fun n=>by
  induction n with
  |zero=>rfl
  |succ n ih=>simp[replL,ih,bl5,yy]
 have h1:idx (n:Int) 17592186044416=some n:=qbz (by omega);have h2:idx (n:Int) (Nat.succ n)=some n:=qbz (by omega);have h3:qcf n 16=true:=by unfold qcf;rw[jN];omega
 unfold qgg msB;simp[h1,h2,h3,hr]
theorem mkSp{H:Heap}:qgg PG H 158 (.int .i64 0) (.int .i64 32)=some (.slc H.n 0 0 (.ex 32),H.new (.cells (qs2 64))):=rfl
theorem ixS{b n i:Nat} {c:Cap} (h:i < n):qav PG 36 (.slc b 0 n c) (.int .i64 (i:Int))=some (.ptr b i):=by simp[qav,qbz h]
theorem layS{v:AV}:∀{cs:List AV} {i:Nat},i < cs.length->qho [v] i cs=some (cs.set i v)
 |[],_,h=>absurd h (jk _)
 |x::r,0,_=>by simp[qho,qif]
 |x::r,i+1,h=>by simp only[qho,layS (cs:=r) (i:=i) (by simpa using h)];rfl
def aSp(L:List (Nat × Nat)):AV:=.fslc 2 (L.map spn)
theorem atSp{L:List (Nat × Nat)} {i:Nat} (h:i < L.length):qav PG 158 (aSp L) (.int .i64 (i:Int))=some (.fptr [.int .i64 ((L[i]).1:Int),.int .i64 ((L[i]).2:Int)] 0):=by simp[qav,aSp,qbz h,qi2 h];simp[spn]
theorem lenSp{H:Heap} {L:List (Nat × Nat)}:qer PG H 158 (aSp L)=some L.length:=by simp[qer,aSp]
theorem slW{H:Heap} {s:Str} {a b:Nat} (h1:a<=b) (h2:b<=s.length):qee PG H 9 (.str s) (some (.int .i64 (a:Int))) (some (.int .i64 (b:Int))) none=some (.str (qej s (a,b))):=by have i1:idx (b:Int) (Nat.succ s.length)=some b:=qbz (by omega);have i2:idx (a:Int) (Nat.succ b)=some a:=qbz (by omega);simp[qee,zdn,qdd,i1,i2,qej,List.drop_take]
theorem nx_yes{m i:Nat} {s:Str} {B:Blk} (h:i < s.length) (hc:s[i].toNat < 128):qs8 ⟨m,[[(1,.iter s i),(0,B)]]⟩ 1=some (.tup [.bool true,.int .i64 i,.int .i32 (s[i].toNat:Int)],⟨m,[[(1,.iter s (i+1)),(0,B)]]⟩):=by
 have hb:Nat.blt i s.length=true:=by simpa using h
 simp[qs8,zG,hb,zir h hc,Heap.set,setFs,setF]
theorem nx_no{m i:Nat} {s:Str} {B:Blk} (h:¬ i < s.length):qs8 ⟨m,[[(1,.iter s i),(0,B)]]⟩ 1=some (.tup [.bool false],⟨m,[[(1,.iter s i),(0,B)]]⟩):=by
 have hb:Nat.blt i s.length=false:=by
  cases hq:Nat.blt i s.length with
  |false=>rfl
  |true=>exact absurd (by simpa using hq) h
 simp[qs8,zG,hb]
theorem qtu(n:Nat) (b:Nat):∃c,(if n<=32 then AV.slc b 0 n (.ex 32) else AV.slc b 0 n (.rest 2))=.slc b 0 n c/\spV n=.slc 0 0 n c:=by
 unfold spV;split
 ·exact⟨_,rfl,rfl⟩
 ·exact⟨_,rfl,rfl⟩
theorem fit_spV{L:List (Nat × Nat)} {σ:List (Nat × Nat)} {Φ:List (Nat × List AV)} (h:qca 0 Φ=some (spB L)):qat σ Φ (spV L.length) (aSp L):=by obtain⟨c,_,hc⟩:=qtu L.length 0;rw[hc];simp only[aSp,qat];refine .inl ⟨_,h,?_,by simp,(el_spn L).size⟩;rw[zc1,qya]
theorem zi4{H:Heap} {b:Nat} {cs:List AV} (h:H.get b=some (.cells cs)) (hp:qa9 cs=true):FitH 0 [] [(b,cs)] H ⟨0,[[]]⟩:=by refine⟨by simp,by simp,by simp[Heap.ents],fun x h=>(by cases h),fun x h=>(by cases h),jc _,fun e h=>(by simp[Heap.ents]at h),fun x hx=>?_⟩;rw[ju]at hx;subst hx;exact⟨_,h,qaf hp,hp⟩
theorem qur{n:Nat}:qat [(1,1),(0,0)] [] (spV n) (spV n):=by obtain⟨c,_,hc⟩:=qtu n 0;rw[hc];simp[qat,qb2]
def sbC:List Nat->Code->Code
 |[],c=>c
 |d::r,c=>match c with
  |.seq a b=>match d with
   |0=>sbC r a
   |_=>sbC r b
  |c=>c
def bdO(f:Func):Code:=match f.body with
 |some c=>c
 |none=>.skip
theorem zc0:∀(L:List Str),qa5 (L.map AV.str)=sts L
 |[]=>rfl
 |a::r=>by simp only[jj,qa5,zc0 r];rfl
def cdFF:Code:=sbC [1,1,1,1,1] (bdO Tryz.f184)
theorem zib(s:Str) (L:List (Nat × Nat)) (hL:L.length<=1000000) (hr:∀p,p∈L->p.1<=p.2/\p.2<=s.length) (W:List Str) (hW:L.map (qej s)=W) :
  WpSr (ctx T) 0 none cdFF ((⟨[0,1,4,5,6,7,8,9,10,11,14,15,47,48,49],[.str s,uD,.nilS,aSp L,uD,uD,uD,uD,uD,uD,uD,uD,uD,uD,uD],[],65,⟨0,[[]]⟩⟩ : St)) (fun x s=>(x=.normal\/x=.ret)/\∃vs,retVal (ctx T) s [.tmp 4]=some vs/\∃σ Φ,qat σ Φ (oneOr vs) (qcp W)/\FitH 0 σ Φ s.H zH):=by
 simp only[cdFF,sbC,bdO,Tryz.f184];have hm:=fun H=>mkStrs (H:=H) (n:=L.length) hL;apply qR;simp[zS,lenSp,hm];apply qR;simp[zS,lenSp];obtain⟨F,hF⟩ : ∃F:Nat->List Str,F=fun i=>(L.take i).map (qej s):=⟨_,rfl⟩;have hF0:F 0=[]:=by rw[hF];simp
 have hFl:∀i,i<=L.length->(F i).length=i:=fun i hi=>by rw[hF];simp;omega
 have hFs:∀(i:Nat) (h:i < L.length),F (i+1)=F i++[qej s L[i]]:=fun i h=>by rw[hF];show (L.take (i+1)).map (qej s)=_;rw[jw h,j3];rfl
 have hFn:F L.length=W:=by rw[hF,<- hW];simp
 refine qa7 (qb1 (fun i:Nat=>(⟨[0,1,4,5,6,7,8,9,10,11,14,15,47,48,49],[.str s,uD,.nilS,uD,uD,uD,uD,.slc 0 0 L.length (.ex L.length),uD,uD,uD,uD,aSp L,.int .i64 (L.length:Nat),.int .i64 i],[],65,⟨1,[[(0,.cells (sts (F i)++bl5 (L.length - i)))]]⟩⟩ : St))
  (fun i=>i<=L.length) (fun i=>L.length - i) [(0,0)] [] 0 (jh _)
  ⟨rfl,rfl,rfl,by simp[qaz,qat,qb2,qab,aSp],.keep1 (b:=0) (by rw[hF0];simp[zG,sts]) (by rw[qgm,qph,zcf];rfl) rfl⟩ ?_)
 rintro i hi B hB;apply qR;simp[zS];repeat apply wq
 refine qay rfl (fun h=>?_) fun h=>?_
 ·simp at h;apply qa4;simp;repeat apply wq
  apply qa7;obtain⟨r1,r2⟩:=hr L[i] (jy _);have hw:=fun H=>slW (H:=H) r1 r2;have hlen:i < (sts (F i)++bl5 (L.length - i)).length:=by simp[sts,bl5,hFl i hi];omega
  have hset:(sts (F i)++bl5 (L.length - i)).set i (.str (qej s ((L[i]).1,(L[i]).2)))=sts (F (i+1))++bl5 (L.length - (i+1)):=by have:=sts_set (X:=F i) (k:=L.length - (i+1)) (w:=qej s L[i]);rw[hFl i hi,<- hFs i h]at this;rw[show L.length - i=L.length - (i+1)+1 by omega];exact this
  have hla:=layS (v:=.str (qej s ((L[i]).1,(L[i]).2))) hlen;rw[hset]at hla;generalize sts (F i)++bl5 (L.length - i)=C0 at *;generalize hC1:sts (F (i+1))++bl5 (L.length - (i+1))=C1 at *;apply qR;simp[zS,atSp h];apply qR;simp[zS,hw,ixS h,hla];apply qR;simp[zS,qbd (show i<=1000000000 by omega)];refine hB _ (i+1) (by omega) (by omega) ⟨[(0,0)],[],rfl,rfl,rfl,by simp[qaz,qat,qb2,qab,aSp],?_⟩;rw[hC1];exact .keep1 (b:=0) (by simp[zG]) (by rw[<- hC1,qgm,qph,zcf];rfl) rfl
 ·simp at h;have hie:i=L.length:=by omega
  subst hie;have hz:sts (F L.length)++bl5 (L.length - L.length)=sts W:=by rw[yN,hFn];simp[bl5]
  have hlW:W.length=L.length:=by rw[<- hW];simp
  rw[hz,<- hlW];apply qau;simp;apply qR;simp[zS];apply qa3;simp[retVal,oneOr];refine⟨[],[(0,sts W)],?_,.froze (by simp) fun y hy=>?_⟩
  ·have hf:=zc0 W;simp only[qat];refine .inl ⟨sts W,by simp[qca],?_,by simp,(qnm W).size⟩;rw[hf,qku (by simp[sts]),jF,jz (by simp[sts])]
  ·rw[ju]at hy;subst hy;exact⟨_,by simp[zG],qaf (qph W),qph W⟩
theorem c184(s:Str) (hs:qdn s) (hl:s.length<=900000) (clo:FuncId) (hp:∀c:UInt8,c.toNat < 128->CA T clo [.int .i32 (c.toNat:Int)] zH (.bool (sp c)) zH) :
  CA T 184 [.str s,.func (.func clo) [] []] zH (qcp (qbv s)) zH:=by
 have hm1:wr .i64 (0 - 1)=some (-1):=rfl;refine qa1 (s0:=⟨[0,1,4,5,6,7,8,9,10,11,14,15,47,48,49],[.str s,.func (.func clo) [] [],uD,uD,uD,uD,uD,uD,uD,uD,uD,uD,uD,uD,uD],[],65,⟨0,[[]]⟩⟩) Tryz.func184 rfl rfl rfl ?_;apply qR;simp[zS];apply qR;simp[zS,mkSp];apply qR;simp[zS];apply qR;simp[zS,rgV];refine qa7 (qb1 (fun x:Nat × List (Nat × Nat) × Int=>(⟨[0,1,4,5,6,7,8,9,10,11,14,15,47,48,49],[.str s,.func (.func clo) [] [],.nilS,spV x.2.1.length,.int .i64 x.2.2,uD,uD,uD,uD,uD,.ptr 1 0,uD,uD,uD,uD],[],65,⟨2,[[(1,.iter s x.1),(0,.cells (spB x.2.1))]]⟩⟩ : St))
  (fun x=>SpOk s x.1 x.2.1 x.2.2) (fun x=>s.length - x.1) [(1,1),(0,0)] [] (0,[],-1) (sp_begin s)
  ⟨rfl,rfl,rfl,by simp[qaz,qat,qb2,qab,qa9,spV],qxg (by omega) (by simp[zG]) (by simp[zG,spB,qs4]) (qis _)⟩ ?_)
 rintro⟨i,L,st⟩ hk B hB;have hi:=hk.le;have hfew:=hk.few;have hlo:=hk.lo;simp only at hi hfew hlo hk;by_cases h:i < s.length
 ·have hc:s[i].toNat < 128:=hs _ (jy _);have hbu:∀a:Nat,qgq PG 160 [(0,.int .i64 (a:Int)),(1,.int .i64 (i:Int))]=some (.agg [.int .i64 (a:Int),.int .i64 (i:Int)]):=fun a=>rfl;have hcall:=(hp s[i] hc).lift (by simp[qa9,qab]) ⟨2,[[(1,.iter s (i+1)),(0,.cells (spB L))]]⟩;have stay:∀(st':Int) (σ0:Unit),SpOk s (i+1) L st'->∀s':St,Fit 0 [(1,1),(0,0)] [] s' ((⟨[0,1,4,5,6,7,8,9,10,11,14,15,47,48,49],[.str s,.func (.func clo) [] [],.nilS,spV L.length,.int .i64 st',uD,uD,uD,uD,uD,.ptr 1 0,uD,uD,uD,uD],[],65,⟨2,[[(1,.iter s (i+1)),(0,.cells (spB L))]]⟩⟩ : St))->B s':=fun st' _ hok s' hf=>hB s' (i+1,L,st') (by simp only;omega) hok ⟨_,_,hf⟩;apply qR;simp[zS,nxV,nx_yes h hc];repeat apply wq
  apply qaj rfl;apply qa4;simp;apply qa7;rcases jG (sp s[i])with hsp|hsp
  ·rw[hsp]at hcall;apply qR;simp[zS];repeat apply wq
   refine qai (qbo [⟨clo,_,_,_,_,hcall⟩]) ?_;simp[zS,qcu];apply qaj rfl;rcases hk.cur with⟨h0,_⟩|⟨a,ha,hai,_⟩
   ·have hge:¬ (0:Int)<=st:=(by omega);apply qR;simp[zS,hge];apply qag rfl;apply qa4;simp;exact stay st () (zfh h hk hsp h0) _ ⟨rfl,rfl,rfl,by simp[qaz,qat,qb2,qab,qa9,qur],qxg (by omega) (by simp[zG]) (by simp[zG]) (qis _)⟩
   ·subst ha;have hge:(0:Int)<=(a:Int):=(by omega);obtain⟨b,m,f,hb1,happ,hg1,hg2⟩:=app_sp (L:=L) (p:=(a,i)) (I:=.iter s (i+1)) (by omega);have hxo:=xor_not (a:=a) (by omega);obtain⟨c,e1,e2⟩:=qtu (L.length+1) b;simp only[e1]at happ;apply qR;simp[zS,hge];refine qaj (by simp[qc0,St.get]) ?_;apply qR;simp[zS,hbu,happ];apply qR;simp[zS,hxo];refine hB _ (i+1,L++[(a,i)],-(a:Int) - 1) (by simp only;omega) (zfg h hk hsp (by omega)) ⟨[(1,1),(b,0)],[],rfl,rfl,rfl,?_,qxg hb1 hg1 hg2 (qis _)⟩;simp only[jo,jx,jW,jO,e2];simp[qaz,qat,qb2,qab,qa9];omega
  ·rw[hsp]at hcall;apply qR;simp[zS];repeat apply wq
   refine qai (qbo [⟨clo,_,_,_,_,hcall⟩]) ?_;simp[zS,qcu];apply qag rfl;rcases hk.cur with⟨h0,_⟩|⟨a,ha,hai,_⟩
   ·apply qR;simp[zS,h0];apply qaj rfl;apply qR;simp[zS];exact stay i () (sp_char0 h hk hsp h0) _ ⟨rfl,rfl,rfl,by simp[qaz,qat,qb2,qab,qa9,qur],qxg (by omega) (by simp[zG]) (by simp[zG]) (qis _)⟩
   ·subst ha;have hge:¬ (a:Int) < 0:=(by omega);apply qR;simp[zS,hge];refine qag (by simp[qc0,St.get,hge]) ?_;apply qa4;simp;exact stay a () (sp_char1 h hk hsp) _ ⟨rfl,rfl,rfl,by simp[qaz,qat,qb2,qab,qa9,qur],qxg (by omega) (by simp[zG]) (by simp[zG]) (qis _)⟩
 ·have hie:i=s.length:=by omega
  subst hie;have hbu:∀a:Nat,qgq PG 160 [(0,.int .i64 (a:Int)),(1,.int .i64 (s.length:Int))]=some (.agg [.int .i64 (a:Int),.int .i64 (s.length:Int)]):=fun a=>rfl;apply qR;simp[zS,nxV,nx_no h];repeat apply wq
  apply qag rfl;apply qau;simp;rcases hk.cur with⟨h0,_⟩|⟨a,ha,hai,_⟩
  ·have hge:¬ (0:Int)<=st:=(by omega);apply qR;simp[zS,hge];refine qag (by simp[qc0,St.get,hge]) ?_;apply qa4;simp only[qan];refine WpSr.fit [] [(0,spB L)] (s':=(⟨[0,1,4,5,6,7,8,9,10,11,14,15,47,48,49],[.str s,uD,.nilS,aSp L,uD,uD,uD,uD,uD,uD,uD,uD,uD,uD,uD],[],65,⟨0,[[]]⟩⟩ : St)) ⟨rfl,rfl,rfl,by simp[qaz,qat,qab];exact fit_spV (by simp[qca]),?_⟩ (zib s L (by omega) hk.rng _ (sp_end0 hk h0));exact zi4 (by simp[zG]) (qis _)
  ·subst ha;obtain⟨hw,hal⟩:=sp_end1 hk;have hge:(0:Int)<=(a:Int):=(by omega);obtain⟨b,m,f,hb1,happ,hg1,hg2⟩:=app_sp (L:=L) (p:=(a,s.length)) (I:=.iter s s.length) (by omega);obtain⟨c,e1,e2⟩:=qtu (L.length+1) b;simp only[e1]at happ;apply qR;simp[zS,hge];refine qaj (by simp[qc0,St.get]) ?_;apply qR;simp[zS,hbu,happ];have hfv:qat [] [(b,spB (L++[(a,s.length)]))] (.slc b 0 (L.length+1) c) (aSp (L++[(a,s.length)])):=(by simp only[aSp,qat];refine .inl ⟨_,by simp[qca];rfl,?_,by simp,(el_spn _).size⟩;have:=qya (L++[(a,s.length)]);rw[zc1];simpa using this);refine WpSr.fit [] [(b,spB (L++[(a,s.length)]))] (s':=(⟨[0,1,4,5,6,7,8,9,10,11,14,15,47,48,49],[.str s,uD,.nilS,aSp (L++[(a,s.length)]),uD,uD,uD,uD,uD,uD,uD,uD,uD,uD,uD],[],65,⟨0,[[]]⟩⟩ : St)) ⟨rfl,rfl,rfl,by simp[qaz,qat,qab]at hfv ⊢;exact hfv,?_⟩ (zib s (L++[(a,s.length)]) (by simp;omega) (fun p hp=>?_) _ hw)
   ·exact zi4 hg2 (qis _)
   ·rcases jl.1 hp with hp|hp
    ·exact hk.rng p hp
    ·simp at hp;subst hp;exact⟨by simp only;omega,by simp only;omega⟩
theorem c152(s:Str) (hs:qdn s) (hl:s.length<=900000):CA T 152 [.str s] zH (qcp (qbv s)) zH:=by
 have hc:=(c184 (T:=T) s hs hl 185 fun c h=>c185 (T:=[e150]) rfl c h).lift (by simp[qa9,qab]) ⟨0,[[]]⟩;generalize qbv s=W at *;refine qa1 (s0:=⟨[0,2],[.str s,uD],[],5,⟨0,[[]]⟩⟩) Tryz.func152 rfl rfl rfl ?_;apply qR;simp[zS];repeat apply wq
 refine qai (qbo [⟨184,_,_,_,_,hc⟩]) ?_;simp[zS,qcu];apply qa3;simp[zQ,Tryz.f152];first|exact⟨[],[],FitH.empty⟩|exact qa2 rfl (by rfl)
theorem c122a(W x:Str) (hW:qdn W) (hl:W.length<=100000) (hx:x.length<=1000000000):CA T 122 [.str W,.str x] zH (.bool (inW W x)) zH:=
 c122 (T:=[e149,e150]) rfl rfl W x hl hx (c152 (T:=[]) W hW (by omega)) (c151 (T:=[e183]) rfl _ x (by have:=qsh W;omega))
def e122a:Entry PG:=mkE 122 [[],[]] (fun x:Str × Str=>[.str x.1,.str x.2]) (fun x=>qdn x.1/\x.1.length<=100000/\x.2.length<=1000000000) (fun x=>.bool (inW x.1 x.2)) fun x hx=>c122a (T:=[]) x.1 x.2 hx.1 hx.2.1 hx.2.2
theorem k122a(hT:qaa 122 T=some e122a.g) {W x:Str} (hW:qdn W) (hl:W.length<=100000) (hx:x.length<=1000000000) (H:Heap):qb7 (ctx T) (.fn 122) [.str W,.str x] H=some (.bool (inW W x),H):=
 qac hT quh (W,x) ⟨hW,hl,hx⟩ rfl (by simp)
section
variable {ρ ρ':Place} {H H':Heap} {w w':World} {b:Nat} {k k':Blk}
end
theorem qdv{σ:List (Nat × Nat)} {Φ:List (Nat × List AV)}:∀{a a' b b':List AV},qaz σ Φ a a'->qaz σ Φ b b'->qaz σ Φ (a++b) (a'++b')
 |[],[],_,_,_,h=>h
 |x::a,y::a',b,b',h,k=>by simp only[List.cons_append,qaz]at h ⊢;exact⟨h.1,qdv h.2 k⟩
 |[],_::_,_,_,h,_=>by simp[qaz]at h
 |_::_,[],_,_,h,_=>by simp[qaz]at h
theorem zas(τ:Nat->Nat):∀(a b:List AV),qgr τ (a++b)=qgr τ a++qgr τ b
 |[],b=>rfl
 |x::a,b=>by simp[qgr,zas τ a b]
section
variable {C:Ctx} {f:FuncId} {args:List AV} {v:AV} {H:Heap} {bt nb n n':Nat} {cap cap':Cap} {pre post cs cs':List AV}
end
@[simp]theorem szT74:qcg PG 74=some 1:=rfl
@[simp]theorem agT74:qi8 PG 74=some false:=rfl
@[simp]theorem byT74:qco PG 74=some 24:=rfl
@[simp]theorem alT74(H:Heap):alV PG H 74=some (.ptr H.n 0,H.new (.cells [.nilS])):=rfl
@[simp]theorem zeT74:qc1 PG 74=some (.nilS):=rfl
attribute [simp] Tryz.underlying74
@[simp 500]theorem rvF74(H:Heap) (cs:List AV) (o:Nat):qb3 PG H 74 (.fptr cs o)=qcy cs o:=rfl
@[simp 500]theorem rvP74(H:Heap) (b o:Nat):qb3 PG H 74 (.ptr b o)=(H.get b).bind fun k=>k.rd.bind fun cs=>qcy cs o:=rfl
@[simp]theorem slz74(sz:Nat) (e:AV) (r:List AV):qdy PG .eql 74 (.fslc sz (e::r)) .nilS=some (.bool false):=rfl
@[simp]theorem sln74(sz:Nat) (e:AV) (r:List AV):qdy PG .neq 74 (.fslc sz (e::r)) .nilS=some (.bool true):=rfl
@[simp]theorem slze74:qdy PG .eql 74 .eslc .nilS=some (.bool false):=rfl
@[simp]theorem slzz74:qdy PG .eql 74 .nilS .nilS=some (.bool true):=rfl
@[simp]theorem szT86:qcg PG 86=some 1:=rfl
@[simp]theorem agT86:qi8 PG 86=some false:=rfl
@[simp]theorem byT86:qco PG 86=some 8:=rfl
@[simp]theorem alT86(H:Heap):alV PG H 86=some (.ptr H.n 0,H.new (.cells [.nilP])):=rfl
@[simp]theorem zeT86:qc1 PG 86=some (.nilP):=rfl
attribute [simp] Tryz.underlying86
@[simp 500]theorem rvF86(H:Heap) (cs:List AV) (o:Nat):qb3 PG H 86 (.fptr cs o)=qcy cs o:=rfl
@[simp 500]theorem rvP86(H:Heap) (b o:Nat):qb3 PG H 86 (.ptr b o)=(H.get b).bind fun k=>k.rd.bind fun cs=>qcy cs o:=rfl
@[simp]theorem szT88:qcg PG 88=some 2:=rfl
@[simp]theorem agT88:qi8 PG 88=some true:=rfl
@[simp]theorem byT88:qco PG 88=some 32:=rfl
@[simp]theorem alT88(H:Heap):alV PG H 88=some (.ptr H.n 0,H.new (.obj 88 [.nilP,.nilS])):=rfl
@[simp]theorem zeT88:qc1 PG 88=some (.agg [.nilP,.nilS]):=rfl
attribute [simp] Tryz.underlying88
@[simp 500]theorem rvF88(H:Heap) (cs:List AV) (o:Nat):qb3 PG H 88 (.fptr cs o)=(qek o 2 cs).bind fun cs=>some (.agg cs):=rfl
@[simp 500]theorem rvP88(H:Heap) (b o:Nat):qb3 PG H 88 (.ptr b o)=(readCells H b o 2).bind fun cs=>some (.agg cs):=rfl
@[simp]theorem fa88_0(x:AV):qc2 PG 88 x 0=(match x with | .ptr b o=>some (.ptr b (o+0)) | .fptr cs o=>some (.fptr cs (o+0))|_=>none):=rfl
@[simp]theorem fd88_0(cs:List AV):qe1 PG 88 (.agg cs) 0=qcy cs 0:=rfl
@[simp]theorem fa88_1(x:AV):qc2 PG 88 x 1=(match x with | .ptr b o=>some (.ptr b (o+1)) | .fptr cs o=>some (.fptr cs (o+1))|_=>none):=rfl
@[simp]theorem fd88_1(cs:List AV):qe1 PG 88 (.agg cs) 1=qcy cs 1:=rfl
theorem Sim.perm{ρ:Place} {H H2:Heap} {w:World} (h:Sim ρ H w) (n:H2.n=H.n) (p:H2.ents.Perm H.ents):Sim ρ H2 w where
 base:=h.base
 below:=h.below
 os:=h.os
 tape:=h.tape
 output:=h.output
 dom:=fun b hb=>h.dom b (n ▸ hb)
 nodup:=(p.map _).nodup_iff.2 h.nodup
 live:=fun e he=>h.live e (p.mem_iff.1 he)
 inj:=fun e e' he he'=>h.inj e e' (p.mem_iff.1 he) (p.mem_iff.1 he')
theorem Step.perm{ρ ρ':Place} {H H2 H' H2':Heap} {w w':World} (h:Step ρ H w ρ' H' w') (n:H2.n=H.n) (n':H2'.n=H'.n) (p:H2.ents.Perm H.ents) (p':H2'.ents.Perm H'.ents):Step ρ H2 w ρ' H2' w' where
 le:=h.le
 size:=h.size
 keeps:=fun k hk hn=>h.keeps k hk fun e he=>hn e (p.mem_iff.2 he)
 rows:=fun e' he' l' hl'=>by
  rcases h.rows e' (p'.mem_iff.1 he') l' hl' with⟨e,he,x⟩|x
  ·exact .inl ⟨e,p.mem_iff.2 he,x⟩
  ·exact .inr x
 num:=by rw[n,n'];exact h.num
 low:=fun b hb=>h.low b (n ▸ hb)
 cold:=fun k hk=>by
  rcases h.cold k hk with x|⟨e,he,x⟩|x
  ·exact .inl x
  ·exact .inr (.inl ⟨e,p.mem_iff.2 he,x⟩)
  ·exact .inr (.inr x)
theorem CallAt.perm{C:Ctx} {f:FuncId} {args:List AV} {H H2 H' H2':Heap} {v:AV} (h:CallAt C f args H v H') (n:H2.n=H.n) (n':H2'.n=H'.n) (p:H2.ents.Perm H.ents) (p':H2'.ents.Perm H'.ents):CallAt C f args H2 v H2':=by
 intro ρ w xs sm hx;have sm':=sm.perm n.symm p.symm;rcases h ρ w xs sm' hx with⟨x,ρ',w',h0,h1,h2,h3⟩|⟨g,ys,h0,h1⟩
 ·exact .inl ⟨x,ρ',w',h0,h1,h2.perm n' p',h3.perm n n' p p'⟩
 ·refine .inr ⟨g,ys,h0,h1.mono ?_⟩;rintro e w' ⟨x,ρ',rfl,m1,m2,m3⟩;exact⟨x,ρ',rfl,m1,m2.perm n' p',m3.perm n n' p p'⟩
theorem zb0{x:Nat × Blk} {f B g:List (Nat × Blk)}:(f++(x::(B++g))).Perm (x::(B++(f++g))):=by refine(yv (l₁:=f) (l₂:=x::(B++g))).trans ?_;show (x::((B++g)++f)).Perm _;refine List.Perm.cons _ ?_;rw[List.append_assoc];exact List.Perm.append_left _ yv
theorem CallAt.top{C:Ctx} {f:FuncId} {args:List AV} {v:AV} {m m':Nat} {x x':Nat × Blk} {fr B B' g g':List (Nat × Blk)} (h:CallAt C f args ⟨m,[x::(B++(fr++g))]⟩ v ⟨m',[x'::(B'++(fr++g'))]⟩):CallAt C f args ⟨m,[fr,x::(B++g)]⟩ v ⟨m',[fr,x'::(B'++g')]⟩:=
 h.perm rfl rfl (by simpa[Heap.ents]using zb0) (by simpa[Heap.ents]using zb0)
def idn(m:Nat):List (Nat × Nat):=(List.range m).map fun i=>(i,i)
theorem qex{m i:Nat} (h:i < m):(i,i)∈idn m:=ji.2 ⟨i,by simpa using h,rfl⟩
theorem zbi:∀{σ:List (Nat × Nat)} {i j:Nat},(σ.map (·.1)).Nodup->(i,j)∈σ->qb2 i σ=some j
 |[],_,_,_,h=>by cases h
 |x::r,i,j,nd,h=>by
  rw[jj,jr]at nd;unfold qb2;rcases ja.1 h with rfl|h
  ·simp
  ·have hne:¬ x.1=i:=fun e=>nd.1 (ji.2 ⟨_,h,e.symm⟩);rw[if_neg hne];exact zbi nd.2 h
theorem qp0(m:Nat):((idn m).map (·.1)).Nodup:=by
 have:(idn m).map (·.1)=List.range m:=by simp[idn,yo]
 rw[this];exact List.nodup_range
theorem qk5(m:Nat):((idn m).map (·.2)).Nodup:=by
 have:(idn m).map (·.2)=List.range m:=by simp[idn,yo]
 rw[this];exact List.nodup_range
theorem qd4{m i:Nat} (h:i < m):qb2 i (idn m)=some i:=zbi (qp0 m) (qex h)
def Idl(m:Nat) (σ:List (Nat × Nat)):Prop:=∀i,i < m->qb2 i σ=some i
theorem qm3(m:Nat):Idl m (idn m):=fun i h=>qd4 h
theorem qps{m k k':Nat} (h:m<=k):Idl m ((k,k')::idn m):=fun i hi=>by
 have:¬ k=i:=by omega
 simp[qb2,this,qd4 hi]
def SelfB(m:Nat) (k:Blk):Prop:=∀σ,Idl m σ->qhp σ [] k k
theorem SelfB.mono{m m':Nat} {k:Blk} (h:SelfB m k) (hm:m<=m'):SelfB m' k:=fun σ hσ=>h σ fun i hi=>hσ i (by omega)
theorem qmo{m:Nat} {cs:List AV} (h:qa9 cs=true):SelfB m (.cells cs):=fun σ _=>qaf h
structure Bs where
 k:Nat
 out:Str
def bV(b:Bs):AV:=match b.out with
 |[]=>.nilS
 |_::_=>.slc b.k 0 b.out.length (.rest 1)
def bF(b:Bs):List (Nat × Blk):=match b.out with
 |[]=>[]
 |_::_=>[(b.k,.buf 5 b.out.length (qad b.out))]
def upd(m:Nat) (b:Bs) (s:Str):Bs:=match s with
 |[]=>b
 |_::_=>⟨m,b.out++s⟩
theorem qd8:∀(s:Str),(qad s).length=s.length
 |[]=>rfl
 |c::r=>by simp[qad,qd8 r]
theorem qrw:∀(s t:Str),qad (s++t)=qad s++qad t
 |[],t=>rfl
 |c::r,t=>by simp[qad,qrw r t]
theorem qoj:∀(s:Str),qa9 (qad s)=true
 |[]=>rfl
 |c::r=>by simp[qad,qa9,qab,qoj r]
theorem qko:∀(s:Str),allSingle (qad s)=true
 |[]=>rfl
 |c::r=>by simp[qad,allSingle,AV.single,qko r]
theorem bF_mem{b:Bs} {e:Nat × Blk} (h:e∈bF b):e=(b.k,.buf 5 b.out.length (qad b.out))/\b.out≠[]:=by
 obtain⟨k,out⟩:=b;cases out with
 |nil=>cases h
 |cons c r=>exact⟨by simpa[bF]using h,by simp⟩
theorem zjo{b:Bs} (h:b.out≠[]):bF b=[(b.k,.buf 5 b.out.length (qad b.out))]:=by
 obtain⟨k,out⟩:=b;cases out with
 |nil=>exact absurd rfl h
 |cons c r=>rfl
theorem bV_ne{b:Bs} (h:b.out≠[]):bV b=.slc b.k 0 b.out.length (.rest 1):=by
 obtain⟨k,out⟩:=b;cases out with
 |nil=>exact absurd rfl h
 |cons c r=>rfl
theorem fitWr{m m':Nat} {H:Heap} {σ:List (Nat × Nat)} {wb kc k' fz:Nat} {O O':Blk} {out:Str} {g:List (Nat × Blk)} (hσ:(σ=idn m/\kc=k'/\(out≠[]->kc < m))\/(σ=(kc,m)::idn m/\k'=m/\m<=kc)) (hm:m < m')
  (lw:wb < m) (lg:∀e,e∈g->e.1 < m) (nd:(wb::g.map (·.1)).Nodup) (hk:out≠[]->k' ∉ wb::g.map (·.1)) (hO:H.get wb=some O) (fO:qhp σ [] O O') (hb:out≠[]->H.get kc=some (.buf 5 fz (qad out))) (hfz:fz<=out.length)
  (hg:∀e,e∈g->H.get e.1=some e.2/\SelfB m e.2):FitH m σ [] H ⟨m',[(wb,O')::(bF ⟨k',out⟩++g)]⟩:=by
 have idl:Idl m σ:=by
  rcases hσ with⟨rfl,_⟩|⟨rfl,_,h⟩
  ·exact qm3 m
  ·exact qps h
 have mem:∀i,i < m->(i,i)∈σ:=fun i hi=>by
  rcases hσ with⟨rfl,_⟩|⟨rfl,_,h⟩
  ·exact qex hi
  ·exact jp _ (qex hi)
 have memk:out≠[]->(kc,k')∈σ:=fun hne=>by
  rcases hσ with⟨rfl,rfl,h⟩|⟨rfl,rfl,h⟩
  ·exact qex (h hne)
  ·exact jA
 have sub:∀x,x∈σ->x.2 < m+1/\(x.1 < m\/x.2 < m->x.1=x.2):=fun x hx=>by
  have key:x∈idn m->x.2 < m+1/\(x.1 < m\/x.2 < m->x.1=x.2):=fun h=>by obtain⟨i,hi,rfl⟩:=ji.1 h;have:i < m:=(by simpa using hi);exact⟨by show i < m+1;omega,fun _=>rfl⟩
  rcases hσ with⟨rfl,_⟩|⟨rfl,rfl,h⟩
  ·exact key hx
  ·rcases ja.1 hx with rfl|hx
   ·exact⟨by simp,fun h=>by simp at h;omega⟩
   ·exact key hx
 refine⟨?_,?_,?_,fun x hx=>by have:=(sub x hx).1;show x.2 < m';omega,fun x hx h=>(sub x hx).2 (.inr h),by show m<=m';omega,?_,fun x h=>by cases h⟩
 ·rcases hσ with⟨rfl,_⟩|⟨rfl,_,h⟩
  ·simpa using qp0 m
  ·simp only[ye,jg,jj,jr];refine⟨?_,qp0 m⟩;simp[idn];omega
 ·rcases hσ with⟨rfl,_⟩|⟨rfl,_,h⟩
  ·exact qk5 m
  ·simp only[jj,jr];refine⟨?_,qk5 m⟩;simp[idn]
 ·simp only[Heap.ents,je,js,jg,jj,j3];rw[jr]at nd ⊢;by_cases hne:out=[]
  ·subst hne;simpa[bF]using nd
  ·have h1:=hk hne;rw[zjo (b:=⟨k',out⟩) hne];simp only[ja,not_or]at h1;refine⟨?_,?_⟩
   ·simp only[jj,ye,List.cons_append,jq,ja,not_or];exact⟨fun e=>h1.1 e.symm,nd.1⟩
   ·simp only[jj,ye,List.cons_append,jq,jr];exact⟨h1.2,nd.2⟩
 ·intro e he;simp only[Heap.ents,je,js,jg,ja,jl]at he;rcases he with rfl|he|he
  ·exact⟨wb,O,mem wb lw,hO,fO⟩
  ·obtain⟨rfl,hne⟩:=bF_mem he;exact⟨kc,_,memk hne,hb hne,rfl,hfz,by show out.length<=(qad out).length;rw[qd8];exact jc _,qaf (qoj _)⟩
  ·obtain⟨h1,h2⟩:=hg e he;exact⟨e.1,e.2,mem _ (lg e he),h1,h2 σ idl⟩
