/- Closed runs that answer a value written out. No condition. -/
import Derived.Test.YtnfdakclfmchfaaGreatME
import Derived.Test.YtnfdakclfmchfaaGreatChecked
import Derived.Shelf.Strings.Search3
import Derived.Lib.IndexMore
import Derived.Test.YtnfdakclfmchfaaGreatProg
namespace Go.Proofs.YtnfdakclfmchfaaGreat
noncomputable section
set_option linter.unusedSimpArgs false
set_option linter.unusedVariables false
open Go Go.RowKit Go.ChangeShapes Go.WideShapes Go.ChangeAt
set_option maxRecDepth 100000
theorem jj:type_of% @List.take_succ_eq_append_getElem:=@List.take_succ_eq_append_getElem
theorem jr:type_of% @Int.toNat_natCast:=@Int.toNat_natCast
theorem jy:type_of% @Int.eq_ofNat_of_zero_le:=@Int.eq_ofNat_of_zero_le
theorem j7:type_of% @List.flatten_nil:=@List.flatten_nil
theorem jJ:type_of% @and_true:=@and_true
theorem ya:type_of% @List.drop_eq_nil_of_le:=@List.drop_eq_nil_of_le
theorem yh:type_of% @decide_eq_false_iff_not:=@decide_eq_false_iff_not
theorem yo:type_of% @List.length_singleton:=@List.length_singleton
theorem yv:type_of% @Prod.ext:=@Prod.ext
theorem yy:type_of% @Bool.eq_false_or_eq_true:=@Bool.eq_false_or_eq_true
theorem yE:type_of% @List.foldl_append:=@List.foldl_append
theorem yF:type_of% @List.flatMap_cons:=@List.flatMap_cons
theorem yI:type_of% @List.filter_eq_self:=@List.filter_eq_self
theorem yS:type_of% @List.replicate_succ:=@List.replicate_succ
theorem yT:type_of% @Bool.true_and:=@Bool.true_and
theorem yU:type_of% @List.filter_append:=@List.filter_append
theorem Jc:type_of% @Bool.not_true:=@Bool.not_true
theorem Jk:type_of% @Bool.not_false:=@Bool.not_false
theorem Js:type_of% @List.countP_cons:=@List.countP_cons
variable {T:List (Entry Tryz.prog)}
noncomputable abbrev PG:=Tryz.prog
abbrev qIn(f:FuncId) (T:List (Entry PG)) (e:Entry PG):Prop:=qac f T=some e.g
abbrev zH:Heap:=⟨0,[]⟩
abbrev uD:AV:=.undef
def keepTbl:List (List Nat):=[[],[],[],[0,1,4,5,6,7,8,9,10,15,16,17],[0,1,4,5,6,7,8,9,10,23,24,25],[0,1,4,5,6,7,8,13,14,15],[0,2,3,4,5,6,7,11,12,13],[0,2,3,4],[0,2,3,4],[0,1,2],[0,1,2,5,6,7,9],[0,1,2,3,5,7,8,9],[0,1,2,3],[0,1,4,5,6,7],[0,1,2,3,4],[0,1,2,3,4],[0,1,4,5,15,19,39,51],[0,1,4,5],[0,1,4,5,6],[0,1,4,5,6,7],[0,1,4,5,6],[0,1,2],[0,1,4,8],[0,1,2,3,4,5,6],[0],[0,1,3,4],[0,1,2,3,8],[0,2,3,4,7],[0,2,3,4,5,6],[0],[0,1,3,4],[0,1,2,3,8],[0,2,3,4,5],[0,2],[0,2,4,8,9,10],[0,1,2,5,6,13],[0,1,2,3,6,7,8,9,10,11,12,13,14,15,16,29,30,31],[0,1,2,3,6,7,8,9,10,11],[0,1,4,5,6,7,8,9,10,11,12,13,14,15,16],[0,2,4,5,6,33,34,35],[0,2,3,4],[0,1,2,3,4,5,6,7,8],[0,1,4],[0,1,4],[0,2,3],[0,1],[0,1,2,3,5,6,8,9,10,15,16,17],[0,1,4,5,7,8],[0,1,3,4],[0,1,2,6,7],[0,1,2],[0,1,2,6,7,10,32,41,42],[0,1,4,5,6,7,8,9,10,11],[0,1,2,4,6,7,8,9],[0,1,4,5,6],[0,1,4],[0,2,3,5,6,32,33,34],[0],[0,1,2,3,8,9],[0,2],[0,2],[0,1],[0,1,2,6],[0,2],[0,1,2,3,8],[0,2],[0,1,2,4,6,7,8,9],[0],[0,1,4],[0],[0,1,4],[0,1,4],[0,2],[0,1,2,4,5,6,8,9,12,13,14],[0,1,4,5,12,13],[0,1,2,3,4],[0,1,2,3,6,7],[0,1],[0,2],[0,1,4,5],[0,1,2,3,6,7],[0,1],[0,1,4,5],[0,1,4],[0,1,2,6],[0,1,4,8,48,83,104,110,116],[0,1,4,13,14,23],[0,2],[0,1,2,4],[0,1,2,3,6,14,15],[0,1,4,5],[0,1,2,6,7,8,9],[0,1,2,3,8,9,10,17,24],[0,1,2,4],[0,1,2,3,6,7],[0,1,4,5,6,7],[0,1,2,6,7,8],[0,1,2,3,8,9,10,11],[0,1,4,5,6],[0,1,2,6],[0,1],[0,1],[0,1],[0,1,2,4,5],[0,2,3,4,6,7,8],[0,1,4,5,7,9,11,18,19,20,27,28,29,38,39,40],[0,1,2,6,7],[0,2,3],[0,1,2,3,6,7,8],[0,2],[0,1,4],[0,1,4],[0,1,2,3,6,7],[0,1,4,5,6],[0,1,4,5,6],[0,1,4,5,6],[0,1,2,3,8,9,10,11,12,13,14,15],[0,1,4,5,6,7,8],[0,1,4,5],[0,1,2,6,7],[0,1,2],[0,1,2,6],[0,1,4,5,6],[0,1,4],[0,1,2,6,7,8,12,13],[0,1,2],[0,1,2,6,7,8],[0,1,2,3,4,5,6,12,13,14,15],[0,1,4],[0,1,2,3,5,6,7],[0,1,2],[0,1,4,5,6,7],[0,1,3],[0,1,4,5,6,7,8],[0,1,2],[0,1,4],[0,1,4,5,6,7,8,9],[0,1,4,5],[0,1,4,5],[0,1,2,6,8,39,40,41],[0,1,2],[0,1,4],[0,1,2,6],[0,1,3,4],[0,1,2,3,7,8,9],[0,1,2,6],[0],[0,2],[0,1,4],[0,1,4],[0,1,2,3,4,8,9,10],[0,1,4,5,6],[0,1,2,6],[0,1,4,5],[0,2,3,4,5],[0,1,2,3,4,5],[0,1,2],[0,1,2,4],[0,1,2,3,5,6],[0,1,2,4],[0,1,2,3,6,7],[0,1,4],[0,1,4,5],[0,1,2,3,8,10,51,52,53],[0,1,4],[0],[0,1,2,6,7],[0,1,10,14],[0,1,2],[0,1,2],[0,1],[0,1,7,27,41,48],[0,1],[0,1,2,4],[],[0,1],[0,1,4],[0,1,2,4,5,6],[0,1,4,5],[0,1,2,3,6,7],[0,1,2,3,5,6],[0,1,2,3,6],[0,1,2,4],[0,1,4],[0,1,2,6,7],[0,1,2,3,6,7],[0,1,4,5],[0,1,2,3,5],[0,1,3],[0,1,4,5,7,8],[0,1,4],[0,2,3,4],[0,1,4],[0,2],[0,1,4,5],[0,2,3,4,5],[0,2,3,5,6,8,9,10,11,25,26,27],[0,1,3],[0,1,2,3,4,6,7,8,10,11,13,14,15],[0,2],[0,1,2,3,4,5],[0,1,2,3,4,5,8,10,11,12,13,14],[0,1,2,4,5],[0,1,4,5,6],[0,1,4],[0,1,3,4,5],[0,1,4],[0,1,2,4,5,6,7,8,13,22,23,24,42,43,44],[0,1,4],[0,1],[0,1,2,4],[0,1,4,5,6,7],[0,1,4,5,6,7,8,9,10,11,12,13],[0,1,4,5,7,8],[0,1,4,5,6,7,8,9,10,11,14,15,47,48,49],[0,2],[0,1,2,3,5,6,7,8,10,11,12],[0,1,4],[0,1,4,5],[0,1,3,4],[0,1,2,4,5],[0,1,4,8],[0,2,3],[0,1,4],[],[0,2],[0,1,4,5,6,7,8,9,10],[0,1,4,5,7,8],[0,1,2,3],[0,1,4,5,7,8],[0,1,3],[0,2,3,4,5,8,9,10],[0,2],[],[0,2,3,4,5,6,7,8],[],[],[],[],[],[],[],[],[],[],[],[],[],[],[],[]]
@[simp]theorem qhz:qcj PG 3=some 1:=rfl
@[simp]theorem agT3:qh4 PG 3=some false:=rfl
@[simp]theorem qk2:qch PG 3=some 8:=rfl
@[simp]theorem alT3(H:Heap):alV PG H 3=some (.ptr H.n 0,H.new (.cells [.int .i64 0])):=rfl
@[simp]theorem qjw:qby PG 3=some (.int .i64 0):=rfl
attribute [simp] Tryz.underlying3
@[simp 500]theorem rvF3(H:Heap) (cs:List AV) (o:Nat):qb2 PG H 3 (.fptr cs o)=qcb cs o:=rfl
@[simp 500]theorem rvP3(H:Heap) (b o:Nat):qb2 PG H 3 (.ptr b o)=(H.get b).bind fun k=>k.rd.bind fun cs=>qcb cs o:=rfl
@[simp]theorem szT4:qcj PG 4=some 1:=rfl
@[simp]theorem agT4:qh4 PG 4=some false:=rfl
@[simp]theorem byT4:qch PG 4=some 1:=rfl
@[simp]theorem alT4(H:Heap):alV PG H 4=some (.ptr H.n 0,H.new (.cells [.bool false])):=rfl
@[simp]theorem zeT4:qby PG 4=some (.bool false):=rfl
attribute [simp] Tryz.underlying4
@[simp 500]theorem rvF4(H:Heap) (cs:List AV) (o:Nat):qb2 PG H 4 (.fptr cs o)=qcb cs o:=rfl
@[simp 500]theorem rvP4(H:Heap) (b o:Nat):qb2 PG H 4 (.ptr b o)=(H.get b).bind fun k=>k.rd.bind fun cs=>qcb cs o:=rfl
@[simp]theorem beq4(a b:Bool):qex PG .eql 4 (.bool a) (.bool b)=some (.bool (a == b)):=rfl
@[simp]theorem bne4(a b:Bool):qex PG .neq 4 (.bool a) (.bool b)=some (.bool !(a == b)):=rfl
@[simp]theorem szT5:qcj PG 5=some 1:=rfl
@[simp]theorem agT5:qh4 PG 5=some false:=rfl
@[simp]theorem byT5:qch PG 5=some 1:=rfl
@[simp]theorem alT5(H:Heap):alV PG H 5=some (.ptr H.n 0,H.new (.cells [.int .u8 0])):=rfl
@[simp]theorem zeT5:qby PG 5=some (.int .u8 0):=rfl
attribute [simp] Tryz.underlying5
@[simp 500]theorem rvF5(H:Heap) (cs:List AV) (o:Nat):qb2 PG H 5 (.fptr cs o)=qcb cs o:=rfl
@[simp 500]theorem rvP5(H:Heap) (b o:Nat):qb2 PG H 5 (.ptr b o)=(H.get b).bind fun k=>k.rd.bind fun cs=>qcb cs o:=rfl
@[simp]theorem szT9:qcj PG 9=some 1:=rfl
@[simp]theorem agT9:qh4 PG 9=some false:=rfl
@[simp]theorem byT9:qch PG 9=some 16:=rfl
@[simp]theorem alT9(H:Heap):alV PG H 9=some (.ptr H.n 0,H.new (.cells [.str []])):=rfl
@[simp]theorem zeT9:qby PG 9=some (.str []):=rfl
attribute [simp] Tryz.underlying9
@[simp 500]theorem rvF9(H:Heap) (cs:List AV) (o:Nat):qb2 PG H 9 (.fptr cs o)=qcb cs o:=rfl
@[simp 500]theorem rvP9(H:Heap) (b o:Nat):qb2 PG H 9 (.ptr b o)=(H.get b).bind fun k=>k.rd.bind fun cs=>qcb cs o:=rfl
@[simp]theorem szT27:qcj PG 27=some 1:=rfl
@[simp]theorem agT27:qh4 PG 27=some false:=rfl
@[simp]theorem byT27:qch PG 27=some 24:=rfl
@[simp]theorem alT27(H:Heap):alV PG H 27=some (.ptr H.n 0,H.new (.cells [.nilS])):=rfl
@[simp]theorem zeT27:qby PG 27=some (.nilS):=rfl
attribute [simp] Tryz.underlying27
@[simp 500]theorem rvF27(H:Heap) (cs:List AV) (o:Nat):qb2 PG H 27 (.fptr cs o)=qcb cs o:=rfl
@[simp 500]theorem rvP27(H:Heap) (b o:Nat):qb2 PG H 27 (.ptr b o)=(H.get b).bind fun k=>k.rd.bind fun cs=>qcb cs o:=rfl
@[simp]theorem slz27(sz:Nat) (e:AV) (r:List AV):qex PG .eql 27 (.fslc sz (e::r)) .nilS=some (.bool false):=rfl
@[simp]theorem sln27(sz:Nat) (e:AV) (r:List AV):qex PG .neq 27 (.fslc sz (e::r)) .nilS=some (.bool true):=rfl
@[simp]theorem slze27:qex PG .eql 27 .eslc .nilS=some (.bool false):=rfl
@[simp]theorem slzz27:qex PG .eql 27 .nilS .nilS=some (.bool true):=rfl
@[simp]theorem szT35:qcj PG 35=some 1:=rfl
@[simp]theorem agT35:qh4 PG 35=some false:=rfl
@[simp]theorem byT35:qch PG 35=some 24:=rfl
@[simp]theorem alT35(H:Heap):alV PG H 35=some (.ptr H.n 0,H.new (.cells [.nilS])):=rfl
@[simp]theorem zeT35:qby PG 35=some (.nilS):=rfl
attribute [simp] Tryz.underlying35
@[simp 500]theorem rvF35(H:Heap) (cs:List AV) (o:Nat):qb2 PG H 35 (.fptr cs o)=qcb cs o:=rfl
@[simp 500]theorem rvP35(H:Heap) (b o:Nat):qb2 PG H 35 (.ptr b o)=(H.get b).bind fun k=>k.rd.bind fun cs=>qcb cs o:=rfl
@[simp]theorem slz35(sz:Nat) (e:AV) (r:List AV):qex PG .eql 35 (.fslc sz (e::r)) .nilS=some (.bool false):=rfl
@[simp]theorem sln35(sz:Nat) (e:AV) (r:List AV):qex PG .neq 35 (.fslc sz (e::r)) .nilS=some (.bool true):=rfl
@[simp]theorem slze35:qex PG .eql 35 .eslc .nilS=some (.bool false):=rfl
@[simp]theorem slzz35:qex PG .eql 35 .nilS .nilS=some (.bool true):=rfl
@[simp]theorem szT37:qcj PG 37=some 1:=rfl
@[simp]theorem agT37:qh4 PG 37=some true:=rfl
@[simp]theorem byT37:qch PG 37=some 24:=rfl
@[simp]theorem alT37(H:Heap):alV PG H 37=some (.ptr H.n 0,H.new (.cells [.nilS])):=rfl
@[simp]theorem zeT37:qby PG 37=some (.agg [.nilS]):=rfl
attribute [simp] Tryz.underlying37
@[simp 500]theorem rvF37(H:Heap) (cs:List AV) (o:Nat):qb2 PG H 37 (.fptr cs o)=(qfe o 1 cs).bind fun cs=>some (.agg cs):=rfl
@[simp 500]theorem rvP37(H:Heap) (b o:Nat):qb2 PG H 37 (.ptr b o)=(readCells H b o 1).bind fun cs=>some (.agg cs):=rfl
@[simp]theorem fa37_0(x:AV):qb1 PG 37 x 0=(match x with | .ptr b o=>some (.ptr b (o+0)) | .fptr cs o=>some (.fptr cs (o+0))|_=>none):=rfl
@[simp]theorem fd37_0(cs:List AV):qbu PG 37 (.agg cs) 0=qcb cs 0:=rfl
@[simp]theorem szT38:qcj PG 38=some 1:=rfl
@[simp]theorem agT38:qh4 PG 38=some false:=rfl
@[simp]theorem byT38:qch PG 38=some 24:=rfl
@[simp]theorem alT38(H:Heap):alV PG H 38=some (.ptr H.n 0,H.new (.cells [.nilS])):=rfl
@[simp]theorem zeT38:qby PG 38=some (.nilS):=rfl
attribute [simp] Tryz.underlying38
@[simp 500]theorem rvF38(H:Heap) (cs:List AV) (o:Nat):qb2 PG H 38 (.fptr cs o)=qcb cs o:=rfl
@[simp 500]theorem rvP38(H:Heap) (b o:Nat):qb2 PG H 38 (.ptr b o)=(H.get b).bind fun k=>k.rd.bind fun cs=>qcb cs o:=rfl
@[simp]theorem slz38(sz:Nat) (e:AV) (r:List AV):qex PG .eql 38 (.fslc sz (e::r)) .nilS=some (.bool false):=rfl
@[simp]theorem sln38(sz:Nat) (e:AV) (r:List AV):qex PG .neq 38 (.fslc sz (e::r)) .nilS=some (.bool true):=rfl
@[simp]theorem slze38:qex PG .eql 38 .eslc .nilS=some (.bool false):=rfl
@[simp]theorem slzz38:qex PG .eql 38 .nilS .nilS=some (.bool true):=rfl
@[simp]theorem szT65:qcj PG 65=some 7:=rfl
@[simp]theorem agT65:qh4 PG 65=some true:=rfl
@[simp]theorem byT65:qch PG 65=some 104:=rfl
@[simp]theorem alT65(H:Heap):alV PG H 65=some (.ptr H.n 0,H.new (.cells [.int .i64 0,.int .i64 0,.str [],.nilS,.str [],.int .i64 0,.nilS])):=rfl
@[simp]theorem zeT65:qby PG 65=some (.agg [.int .i64 0,.int .i64 0,.str [],.nilS,.str [],.int .i64 0,.nilS]):=rfl
attribute [simp] Tryz.underlying65
@[simp 500]theorem rvF65(H:Heap) (cs:List AV) (o:Nat):qb2 PG H 65 (.fptr cs o)=(qfe o 7 cs).bind fun cs=>some (.agg cs):=rfl
@[simp 500]theorem rvP65(H:Heap) (b o:Nat):qb2 PG H 65 (.ptr b o)=(readCells H b o 7).bind fun cs=>some (.agg cs):=rfl
@[simp]theorem fa65_0(x:AV):qb1 PG 65 x 0=(match x with | .ptr b o=>some (.ptr b (o+0)) | .fptr cs o=>some (.fptr cs (o+0))|_=>none):=rfl
@[simp]theorem fd65_0(cs:List AV):qbu PG 65 (.agg cs) 0=qcb cs 0:=rfl
@[simp]theorem fa65_1(x:AV):qb1 PG 65 x 1=(match x with | .ptr b o=>some (.ptr b (o+1)) | .fptr cs o=>some (.fptr cs (o+1))|_=>none):=rfl
@[simp]theorem fd65_1(cs:List AV):qbu PG 65 (.agg cs) 1=qcb cs 1:=rfl
@[simp]theorem fa65_2(x:AV):qb1 PG 65 x 2=(match x with | .ptr b o=>some (.ptr b (o+2)) | .fptr cs o=>some (.fptr cs (o+2))|_=>none):=rfl
@[simp]theorem fd65_2(cs:List AV):qbu PG 65 (.agg cs) 2=qcb cs 2:=rfl
@[simp]theorem fa65_3(x:AV):qb1 PG 65 x 3=(match x with | .ptr b o=>some (.ptr b (o+3)) | .fptr cs o=>some (.fptr cs (o+3))|_=>none):=rfl
@[simp]theorem fd65_3(cs:List AV):qbu PG 65 (.agg cs) 3=qcb cs 3:=rfl
@[simp]theorem fa65_4(x:AV):qb1 PG 65 x 4=(match x with | .ptr b o=>some (.ptr b (o+4)) | .fptr cs o=>some (.fptr cs (o+4))|_=>none):=rfl
@[simp]theorem fd65_4(cs:List AV):qbu PG 65 (.agg cs) 4=qcb cs 4:=rfl
@[simp]theorem fa65_5(x:AV):qb1 PG 65 x 5=(match x with | .ptr b o=>some (.ptr b (o+5)) | .fptr cs o=>some (.fptr cs (o+5))|_=>none):=rfl
@[simp]theorem fd65_5(cs:List AV):qbu PG 65 (.agg cs) 5=qcb cs 5:=rfl
@[simp]theorem fa65_6(x:AV):qb1 PG 65 x 6=(match x with | .ptr b o=>some (.ptr b (o+6)) | .fptr cs o=>some (.fptr cs (o+6))|_=>none):=rfl
@[simp]theorem fd65_6(cs:List AV):qbu PG 65 (.agg cs) 6=qcb cs 6:=rfl
@[simp]theorem szT105:qcj PG 105=some 2:=rfl
@[simp]theorem agT105:qh4 PG 105=some true:=rfl
@[simp]theorem byT105:qch PG 105=some 32:=rfl
@[simp]theorem alT105(H:Heap):alV PG H 105=some (.ptr H.n 0,H.new (.cells [.str [],.str []])):=rfl
@[simp]theorem zeT105:qby PG 105=some (.agg [.str [],.str []]):=rfl
attribute [simp] Tryz.underlying105
@[simp 500]theorem rvF105(H:Heap) (cs:List AV) (o:Nat):qb2 PG H 105 (.fptr cs o)=(qfe o 2 cs).bind fun cs=>some (.agg cs):=rfl
@[simp 500]theorem rvP105(H:Heap) (b o:Nat):qb2 PG H 105 (.ptr b o)=(readCells H b o 2).bind fun cs=>some (.agg cs):=rfl
@[simp]theorem fa105_0(x:AV):qb1 PG 105 x 0=(match x with | .ptr b o=>some (.ptr b (o+0)) | .fptr cs o=>some (.fptr cs (o+0))|_=>none):=rfl
@[simp]theorem fd105_0(cs:List AV):qbu PG 105 (.agg cs) 0=qcb cs 0:=rfl
@[simp]theorem fa105_1(x:AV):qb1 PG 105 x 1=(match x with | .ptr b o=>some (.ptr b (o+1)) | .fptr cs o=>some (.fptr cs (o+1))|_=>none):=rfl
@[simp]theorem fd105_1(cs:List AV):qbu PG 105 (.agg cs) 1=qcb cs 1:=rfl
@[simp]theorem szT144:qcj PG 144=some 1:=rfl
@[simp]theorem agT144:qh4 PG 144=some false:=rfl
@[simp]theorem byT144:qch PG 144=some 24:=rfl
@[simp]theorem alT144(H:Heap):alV PG H 144=some (.ptr H.n 0,H.new (.cells [.nilS])):=rfl
@[simp]theorem zeT144:qby PG 144=some (.nilS):=rfl
attribute [simp] Tryz.underlying144
@[simp 500]theorem rvF144(H:Heap) (cs:List AV) (o:Nat):qb2 PG H 144 (.fptr cs o)=qcb cs o:=rfl
@[simp 500]theorem rvP144(H:Heap) (b o:Nat):qb2 PG H 144 (.ptr b o)=(H.get b).bind fun k=>k.rd.bind fun cs=>qcb cs o:=rfl
@[simp]theorem slz144(sz:Nat) (e:AV) (r:List AV):qex PG .eql 144 (.fslc sz (e::r)) .nilS=some (.bool false):=rfl
@[simp]theorem sln144(sz:Nat) (e:AV) (r:List AV):qex PG .neq 144 (.fslc sz (e::r)) .nilS=some (.bool true):=rfl
@[simp]theorem slze144:qex PG .eql 144 .eslc .nilS=some (.bool false):=rfl
@[simp]theorem slzz144:qex PG .eql 144 .nilS .nilS=some (.bool true):=rfl
@[simp]theorem szT164:qcj PG 164=some 1:=rfl
@[simp]theorem agT164:qh4 PG 164=some false:=rfl
@[simp]theorem byT164:qch PG 164=some 24:=rfl
@[simp]theorem alT164(H:Heap):alV PG H 164=some (.ptr H.n 0,H.new (.cells [.nilS])):=rfl
@[simp]theorem zeT164:qby PG 164=some (.nilS):=rfl
attribute [simp] Tryz.underlying164
@[simp 500]theorem rvF164(H:Heap) (cs:List AV) (o:Nat):qb2 PG H 164 (.fptr cs o)=qcb cs o:=rfl
@[simp 500]theorem rvP164(H:Heap) (b o:Nat):qb2 PG H 164 (.ptr b o)=(H.get b).bind fun k=>k.rd.bind fun cs=>qcb cs o:=rfl
@[simp]theorem slz164(sz:Nat) (e:AV) (r:List AV):qex PG .eql 164 (.fslc sz (e::r)) .nilS=some (.bool false):=rfl
@[simp]theorem sln164(sz:Nat) (e:AV) (r:List AV):qex PG .neq 164 (.fslc sz (e::r)) .nilS=some (.bool true):=rfl
@[simp]theorem slze164:qex PG .eql 164 .eslc .nilS=some (.bool false):=rfl
@[simp]theorem slzz164:qex PG .eql 164 .nilS .nilS=some (.bool true):=rfl
attribute [simp] opndO_s
def ctx(T:List (Entry PG)):Ctx:=mkC PG (fun f=>(qcb keepTbl f).getD []) T
@[simp]theorem mkC_P(T:List (Entry PG)):(ctx T).P=PG:=rfl
theorem mixed:PG.follows .mixedOrders=true:=by decide +kernel
abbrev CA(T:List (Entry PG)):=CallAt (ctx T)
theorem qaz:CallOK (ctx T) (qb5 (ctx T)):=mkC_call _ _ T mixed
theorem qci(l:List (Fact (ctx T))):CallOK (ctx T) (qdz l (qb5 (ctx T))):=qnr qaz l
def ldR(T:List (Entry PG)) (n:Nat) (r:Option Nat):Code->St->(Out->St->Prop)->Prop
 |.seq c d,s,Q=>ldR T n r c s (qab (fun s=>WpSr (ctx T) n r d s Q) Q)
 |.region _ ops false,s,Q=>∃s',qfn (ctx T) (qb5 (ctx T)) ops ops.toList { s with ts:=[] }=some s'/\Q .normal s'
 |c,s,Q=>WpSr (ctx T) n r c s Q
theorem qR{n:Nat} {r:Option Nat}:∀{c:Code} {s:St} {Q:Out->St->Prop},ldR T n r c s Q->WpSr (ctx T) n r c s Q:=fun {c}=>by
 induction c with
 |seq c d h1 _=>exact fun h=>qad (h1 h)
 |region id ops b=>cases b with
  |false=>exact fun h=>qb0 qaz h
  |true=>exact fun h=>h
 |_=>exact fun h=>h
@[simp]theorem ldR_seq{T:List (Entry PG)} {n:Nat} {r:Option Nat} {c d:Code} {s:St} {Q:Out->St->Prop}:ldR T n r (.seq c d) s Q=ldR T n r c s (qab (fun s=>WpSr (ctx T) n r d s Q) Q):=rfl
@[simp]theorem ldR_reg{T:List (Entry PG)} {n:Nat} {r:Option Nat} {id:Nat} {ops:Array Oper} {s:St} {Q:Out->St->Prop}:ldR T n r (.region id ops false) s Q=∃s',qfn (ctx T) (qb5 (ctx T)) ops ops.toList { s with ts:=[] }=some s'/\Q .normal s':=rfl
abbrev Str:=List UInt8
@[simp]theorem lenStr(H:Heap) (s:Str):qf3 PG H 9 (.str s)=some s.length:=by simp[qf3]
theorem qpq{s:Str} {i:Nat} (h:i < s.length):qov PG 9 (.str s) (.int .i64 (i:Int))=some (.int .u8 (s[i]'h).toNat):=by simp[qov,qbn h,qf5 h]
theorem slStr{H:Heap} {s:Str} {i:Nat} (h:i<=s.length):qcq PG H 9 (.str s) (some (.int .i64 (i:Int))) none none=some (.str (s.drop i)):=by simp[qcq,qqe,qdc,qbn (Nat.lt_succ_of_le h)]
theorem slStrOf{H:Heap} {s:Str} {i j:Nat} (hj:j<=s.length) (hi:i<=j):qcq PG H 9 (.str s) (some (.int .i64 (i:Int))) (some (.int .i64 (j:Int))) none=some (.str ((s.take j).drop i)):=by simp[qcq,qqe,qdc,qbn (Nat.lt_succ_of_le hj),qbn (Nat.lt_succ_of_le hi)]
theorem sl1{s:Str} {i:Nat} (h:i < s.length):(s.take (i+1)).drop i=[s[i]]:=by rw[jj h,List.drop_append_of_le_length (by simp;omega),List.drop_of_length_le (by simp;omega),jv]
theorem slStr1{H:Heap} {s:Str} {i:Nat} (h:i < s.length):qcq PG H 9 (.str s) (some (.int .i64 (i:Int))) (some (.int .i64 ((i:Int)+1))) none=some (.str [s[i]]):=by have:=slStrOf (H:=H) (s:=s) (i:=i) (j:=i+1) (by omega) (by omega);rw[sl1 h]at this;simpa using this
theorem zcf{x y:Str} (h:x.length+y.length<=1000000000000):qex PG .add 9 (.str x) (.str y)=some (.str (x++y)):=by simp[qex,qqx];omega
@[simp]theorem eqStr(x y:Str):qex PG .eql 9 (.str x) (.str y)=some (.bool (decide (x=y))):=by simp[qex,qqx,qln]
@[simp]theorem neStr(x y:Str):qex PG .neq 9 (.str x) (.str y)=some (.bool !(decide (x=y))):=by simp[qex,qqx,qln]
abbrev qe1(L:List Str):AV:=.fslc 1 (L.map .str)
theorem qp9(L:List Str):Elems 1 (L.map AV.str):=.map (sz:=1) (f:=AV.str) (by decide) (fun x=>⟨rfl,rfl,fun _=>rfl,fun h=>absurd rfl h⟩) L
theorem atS{L:List Str} {i:Nat} (h:i < L.length):qaq PG 144 (qe1 L) (.int .i64 (i:Int))=some (.fptr [.str L[i]] 0):=by simp[qaq,qe1,qbn h,qge h,AV.cells]
theorem lenS{H:Heap} {L:List Str}:qf3 PG H 144 (qe1 L)=some L.length:=by simp[qf3,qe1]
theorem inj_str(x y:Str) (h:[AV.str x]=[AV.str y]):x=y:=by simp at h;exact h
theorem qx2(x y:Str × Str) (h:[AV.str x.1,AV.str x.2]=[AV.str y.1,AV.str y.2]):x=y:=by simp at h;exact yv h.1 h.2
theorem qx1{L M:List Str} (h:qe1 L=qe1 M):L=M:=by simp only[qe1,AV.fslc.injEq,yc]at h;exact List.map_inj_right (fun _ _ h=>by simpa using h) |>.1 h
theorem inj_u8(x y:UInt8) (h:[AV.int .u8 (x.toNat:Int)]=[AV.int .u8 (y.toNat:Int)]):x=y:=by simp only[jl,AV.int.injEq,yc,jJ]at h;exact UInt8.toNat_inj.1 (by omega)
def sp(c:UInt8):Bool:=decide ((c.toNat:Int)=9) || (decide ((c.toNat:Int)=10) || (decide ((c.toNat:Int)=12) || (decide ((c.toNat:Int)=13) || decide ((c.toNat:Int)=32))))
theorem c199(c:UInt8):CA T 199 [.int .u8 c.toNat] zH (.bool (sp c)) zH:=by
 refine qa1 (s0:=⟨[0,2],[.int .u8 c.toNat,uD],[],21,⟨0,[[]]⟩⟩) Tryz.func199 rfl rfl rfl ?_;apply qR;simp[zS];by_cases h1:(c.toNat:Int)=9<;>by_cases h2:(c.toNat:Int)=10<;>by_cases h3:(c.toNat:Int)=12<;>by_cases h4:(c.toNat:Int)=13<;>by_cases h5:(c.toNat:Int)=32;all_goals first
  |(exfalso;omega)
  | (repeat apply wq
     apply qR;simp[zS,h1,h2,h3,h4,h5];apply qa7;simp[zQ,Tryz.f199];exact qai rfl (by simp[sp,h1,h2,h3,h4,h5]))
def e199:Entry PG:=mkE 199 [[]] (fun x:UInt8=>[.int .u8 x.toNat]) (fun _=>True) (fun x=>.bool (sp x)) fun x _=>c199 (T:=[]) x
theorem k199(hT:qIn 199 T e199) (c:UInt8) (H:Heap):qb5 (ctx T) (.fn 199) [.int .u8 c.toNat] H=some (.bool (sp c),H):=
 qb9 hT inj_u8 c trivial rfl (by simp)
def qee(st:List Str × Str) (c:UInt8):List Str × Str:=if sp c=true then (if st.2=[] then st.1 else st.1++[st.2],[]) else (st.1,st.2++[c])
def wst(s:Str):List Str × Str:=s.foldl qee ([],[])
def qxs(st:List Str × Str):List Str:=if st.2=[] then st.1 else st.1++[st.2]
def qcw(s:Str):List Str:=qxs (wst s)
theorem qk4{s:Str} {i:Nat} (h:i < s.length):wst (s.take (i+1))=qee (wst (s.take i)) s[i]:=by rw[jj h];simp only[wst,yE,yi,List.foldl_nil]
theorem qz5(s:Str):(wst s).2.length<=s.length/\(wst s).1.length<=s.length:=by
 have key:∀(s:Str) (st:List Str × Str),(s.foldl qee st).2.length<=st.2.length+s.length/\(s.foldl qee st).1.length<=st.1.length+s.length:=by
  intro s;induction s with
  |nil=>intro st;simp
  |cons c r ih=>
   intro st;have:=ih (qee st c);simp only[yi,jE];have h1:(qee st c).2.length<=st.2.length+1/\(qee st c).1.length<=st.1.length+1:=by
    unfold qee;split
    ·split<;>simp
    ·simp
   omega
 have:=key s ([],[]);simp only[wst];simp at this;exact this
theorem c154(hS:qIn 199 T e199) (s:Str) (hl:s.length<=1000000):CA T 154 [.str s] zH (qce 0 1 ((qcw s).map .str)) ⟨1,[qcg 0 ((qcw s).map .str)]⟩:=by
 refine qa1 (s0:=⟨[0,2,3,4,5],[.str s,uD,uD,uD,uD],[],37,⟨0,[[]]⟩⟩) Tryz.func154 rfl rfl rfl ?_;apply qR;simp[zS];apply qR;simp[zS];apply qR;simp[zS];apply qR;simp[zS];refine qa3 (qb6 (fun i:Nat=>(⟨[0,2,3,4,5],[.str s,uD,qce 0 1 ((wst (s.take i)).1.map .str),.str (wst (s.take i)).2,.int .i64 i],[],37,⟨1,[qcg 0 ((wst (s.take i)).1.map .str)]⟩⟩ : St))
  (fun i=>i<=s.length) (fun i=>s.length - i) [] [] 0 (jx _)
  ⟨rfl,rfl,rfl,by simp[qb8,qas,qa2,wst,qce],.keep0 (by simp[wst,qcg])⟩ ?_)
 rintro i hi B hB;have hlen:=qz5 (s.take i);simp only[jL]at hlen;have same:∀(L:List Str),FitH 0 [(0,0)] [] ⟨1,[qcg 0 (L.map AV.str)]⟩ ⟨1,[qcg 0 (L.map AV.str)]⟩:=fun L=>by
  refine .same (by simp) (by simp) (by simp) (by simp) ?_ ?_
  ·cases L.map AV.str<;>simp[Heap.ents,qcg]
  ·cases he:L.map AV.str with
   |nil=>intro e he;simp[Heap.ents,qcg]at he
   |cons x r=>intro e hx;simp[Heap.ents,qcg]at hx;subst hx;exact⟨by simp,by simp[qcg,zG],qau (by rw[<- he];exact(qp9 _).pure)⟩
 apply qR;simp[zS];refine qbe rfl (fun h=>?_) fun h=>?_
 ·simp at h;apply qa5;simp;repeat apply wq
  apply qa3;have hstep:=qk4 h;cases hsp:sp s[i]with
  |false=>have hn:wst (s.take (i+1))=((wst (s.take i)).1,(wst (s.take i)).2++[s[i]]):=(by rw[hstep];simp[qee,hsp]);apply qR;simp[zS,qpq h,k199 hS,hsp];apply qag rfl;apply qR;simp[zS,qbb (show i<=1000000000 by omega),slStr1 h,zcf (show (wst (s.take i)).2.length+[s[i]].length<=1000000000000 by simp;omega)];apply qak;simp;apply qR;simp[zS,qbb (show i<=1000000000 by omega)];exact hB _ (i+1) (by omega) (by omega) ⟨[(0,0)],[],rfl,rfl,rfl,by rw[hn];simp[qb8,qas,qaw,qcn,qa2],by rw[hn];exact same _⟩
  |true=>
   apply qR;simp[zS,qpq h,k199 hS,hsp];apply qaj rfl;apply qa5;simp;by_cases hc:(wst (s.take i)).2=[]
   ·have hn:wst (s.take (i+1))=((wst (s.take i)).1,[]):=(by rw[hstep];simp[qee,hsp,hc]);apply qR;simp[zS,hc];apply qaj rfl;apply qa5;simp;apply qR;simp[zS];apply qR;simp[zS,qbb (show i<=1000000000 by omega)];exact hB _ (i+1) (by omega) (by omega) ⟨[(0,0)],[],rfl,rfl,rfl,by rw[hn];simp[qb8,qas,qaw,qcn,qa2],by rw[hn];exact same _⟩
   ·have hn:wst (s.take (i+1))=((wst (s.take i)).1++[(wst (s.take i)).2],[]):=(by rw[hstep];simp[qee,hsp,hc]);have happ:=qf0 (P:=PG) (elem:=9) (b:=0) (t:=1) (m:=2) (es:=(wst (s.take i)).1.map .str) (cs:=[.str (wst (s.take i)).2]) (g:=[]) (fs:=[]) szT9 byT9 zeT9 rfl (by omega) (by omega) rfl rfl (qp9 _) (by simp;omega) (by omega) (by simp) (by simp);rw[jh]at happ;apply qR;simp[zS,hc];apply qag rfl;apply qR;simp[zS,happ];apply qR;simp[zS];apply qR;simp[zS,qbb (show i<=1000000000 by omega)];have hne:(wst (s.take (i+1))).1.map AV.str≠[]:=(by rw[hn];simp);refine hB _ (i+1) (by omega) (by omega) ⟨[(2,0)],[],rfl,rfl,rfl,?_,.grown (qp9 _) hne ?_⟩
    ·rw[qbr hne,hn];simp[qb8,qas,qaw,qa2]
    ·rw[hn,j5,qbv];simp[zG,qaa]
 ·simp at h;apply qak;simp;have hs:s.take i=s:=ju h;rw[hs]at hlen ⊢;by_cases hc:(wst s).2=[]
  ·have hv:qcw s=(wst s).1:=(by simp[qcw,qxs,hc]);apply qR;simp[zS,hc];apply qaj rfl;apply qa5;simp;apply qR;simp[zS];apply qa7;simp[zQ,Tryz.f154];rw[hv];exact⟨[(0,0)],[],qcn (by simp[qaw]),same _⟩
  ·have hv:qcw s=(wst s).1++[(wst s).2]:=(by simp[qcw,qxs,hc]);have happ:=qf0 (P:=PG) (elem:=9) (b:=0) (t:=1) (m:=2) (es:=(wst s).1.map .str) (cs:=[.str (wst s).2]) (g:=[]) (fs:=[]) szT9 byT9 zeT9 rfl (by omega) (by omega) rfl rfl (qp9 _) (by simp;omega) (by omega) (by simp) (by simp);rw[jh]at happ;apply qR;simp[zS,hc];apply qag rfl;apply qR;simp[zS,happ];apply qR;simp[zS];apply qa7;simp[zQ,Tryz.f154];have hne:(qcw s).map AV.str≠[]:=(by rw[hv];simp);refine⟨[(2,0)],[],?_,.grown (qp9 _) hne ?_⟩
   ·rw[qbr hne,hv];simp[qb8,qas,qaw,qa2]
   ·rw[hv,j5,qbv];simp[zG,qaa]
theorem c153(L:List Str) (x:Str) (hl:L.length<=1000000):CA T 153 [qe1 L,.str x] zH (.bool (decide (x∈L))) zH:=by
 refine qa1 (s0:=⟨[0,1,4,5],[qe1 L,.str x,uD,uD],[],18,⟨0,[[]]⟩⟩) Tryz.func153 rfl rfl rfl ?_;apply qR;simp[zS];apply qR;simp[zS];refine qa3 (qb6 (fun i:Nat=>(⟨[0,1,4,5],[qe1 L,.str x,uD,.int .i64 i],[],18,⟨0,[[]]⟩⟩ : St))
  (fun i=>i<=L.length/\decide (x∈L)=decide (x∈L.drop i)) (fun i=>L.length - i) [] [] 0 ⟨jx _,by simp⟩ ⟨rfl,rfl,rfl,by simp[qb8,qas,qa2,qa6,qe1],FitH.nothing⟩ ?_)
 rintro i ⟨hi,hx⟩ B hB;apply qR;simp[zS,lenS];refine qbe rfl (fun h=>?_) fun h=>?_
 ·simp at h;apply qa5;simp;repeat apply wq
  apply qa3;apply qR;simp[zS,atS h];refine qbe rfl (fun h2=>?_) fun h2=>?_
  ·simp at h2;apply qR;simp[zS];apply qa7;simp[zQ,Tryz.f153];exact qai rfl (by rw[hx,List.drop_eq_getElem_cons h];simp[h2])
  ·simp at h2;apply qa5;simp;apply qR;simp[zS,qbb (show i<=1000000000 by omega)];exact hB _ (i+1) (by omega) ⟨by omega,by rw[hx,List.drop_eq_getElem_cons h];simp only[jd,show ¬ x=L[i] from fun e=>h2 e.symm,false_or]⟩ ⟨[],[],⟨rfl,rfl,rfl,by simp[qb8,qas,qa2,qa6,qe1],FitH.nothing⟩⟩
 ·simp at h;apply qak;simp;apply qR;simp[zS];apply qa7;simp[zQ,Tryz.f153];exact qai rfl (by rw[hx,ya h];simp)
def e154:Entry PG:=mkE 154 [[]] (fun x:Str=>[.str x]) (fun x=>x.length<=1000000) (fun x=>qe1 (qcw x)) fun x h=>(c154 (T:=[e199]) rfl x h).froze (qp9 _)
theorem k154(hT:qIn 154 T e154) {s:Str} (hl:s.length<=1000000) (H:Heap):qb5 (ctx T) (.fn 154) [.str s] H=some (qe1 (qcw s),H):=
 qds hT inj_str s hl (by simp[qa6,qa2]) (by simp) H
def e153:Entry PG:=mkE 153 [[1],[]] (fun x:List Str × Str=>[qe1 x.1,.str x.2]) (fun x=>x.1.length<=1000000) (fun x=>.bool (decide (x.2∈x.1))) fun x h=>c153 (T:=[]) x.1 x.2 h
theorem k153(hT:qIn 153 T e153) {L:List Str} (x:Str) (hl:L.length<=1000000) (H:Heap):qb5 (ctx T) (.fn 153) [qe1 L,.str x] H=some (.bool (decide (x∈L)),H):=
 qb9 hT (fun x y h=>by simp at h;exact yv (qx1 (by simpa[qe1]using h.1)) h.2) (L,x) hl rfl (by simp)
def inW(w x:Str):Bool:=decide (x∈qcw w)
theorem qpv(s:Str):(qcw s).length<=s.length+1:=by have:=qz5 s;unfold qcw qxs;split<;>simp<;>omega
theorem c71(h1:qIn 154 T e154) (h2:qIn 153 T e153) (w x:Str) (hl:w.length<=900000):CA T 71 [.str w,.str x] zH (.bool (inW w x)) zH:=by refine qa1 (s0:=⟨[0,1,4],[.str w,.str x,uD],[],9,⟨0,[[]]⟩⟩) Tryz.func71 rfl rfl rfl ?_;apply qR;simp[zS];have hs:=qpv w;apply qR;simp[zS,k154 h1 (show w.length<=1000000 by omega),k153 h2 x (show (qcw w).length<=1000000 by omega)];apply qa7;simp[zQ,Tryz.f71];exact qai rfl (by simp[inW])
def e71:Entry PG:=mkE 71 [[],[]] (fun x:Str × Str=>[.str x.1,.str x.2]) (fun x=>x.1.length<=900000) (fun x=>.bool (inW x.1 x.2)) fun x h=>c71 (T:=[e154,e153]) rfl rfl x.1 x.2 h
theorem k71(hT:qIn 71 T e71) {w:Str} (x:Str) (hl:w.length<=900000) (H:Heap):qb5 (ctx T) (.fn 71) [.str w,.str x] H=some (.bool (inW w x),H):=
 qb9 hT qx2 (w,x) hl rfl (by simp)
structure WordAt (s x:Str) (p:Nat):Prop where
 room:p+x.length<=s.length
 occ:(s.drop p).take x.length=x
 pre:∀c,0 < p->s[p - 1]? = some c->sp c=true
 post:∀c,s[p+x.length]? = some c->sp c=true
structure WInv (s:Str) (i:Nat) (st:List Str × Str):Prop where
 le:i<=s.length
 words:∀w,w∈st.1->∃p,WordAt s w p
 len:st.2.length<=i
 cur:(s.take i).drop (i - st.2.length)=st.2
 pre:∀c,0 < i - st.2.length->s[i - st.2.length - 1]? = some c->sp c=true
theorem winv{s:Str}:∀(i:Nat),i<=s.length->WInv s i (wst (s.take i))
 |0,_=>by
  have e:wst (s.take 0)=([],[]):=by simp[wst]
  rw[e];exact⟨jx _,fun w h=>(by cases h),ja _,rfl,fun c h=>absurd h (Jr 0)⟩
 |i+1,hi=>by
  have ih:=winv (s:=s) i (by omega);have hlt:i < s.length:=by omega
  rw[qk4 hlt];generalize wst (s.take i)=st at ih;obtain⟨W,c⟩:=st;have ihl:=ih.len;have ihc:=ih.cur;have ihp:=ih.pre;simp only at ihl ihc ihp;unfold qee;by_cases hs:sp s[i]=true
  ·rw[jo hs];refine⟨hi,?_,jx _,?_,?_⟩
   ·intro w hw;simp only at hw;by_cases hc:c=[]
    ·rw[jo hc]at hw;exact ih.words w hw
    ·rw[jm hc]at hw;rcases je.1 hw with hw|hw
     ·exact ih.words w hw
     ·rw[j2]at hw;subst hw;refine⟨i - w.length,by omega,?_,fun d h1 h2=>ihp d h1 h2,fun d h=>?_⟩
      ·rw[List.drop_take,show i - (i - w.length)=w.length by omega]at ihc;exact ihc
      ·rw[show i - w.length+w.length=i by omega,List.getElem?_eq_getElem hlt,sj]at h;rw[<- h];exact hs
   ·simp
   ·intro d _ h;simp only[yd,yK,Nat.add_sub_cancel]at h;rw[List.getElem?_eq_getElem hlt,sj]at h;rw[<- h];exact hs
  ·rw[jm hs];refine⟨hi,ih.words,by simp;omega,?_,?_⟩
   ·simp only[js,yo];rw[show i+1 - (c.length+1)=i - c.length by omega,jj hlt,List.drop_append_of_le_length (by simp;omega),ihc]
   ·simp only[js,yo];rw[show i+1 - (c.length+1)=i - c.length by omega];exact ihp
theorem word_at{s x:Str} (h:x∈qcw s):∃p,WordAt s x p:=by
 have inv:=winv (s:=s) s.length (ja _);rw[ju (ja _)]at inv;unfold qcw qxs at h;generalize wst s=st at *;obtain⟨W,c⟩:=st;have il:=inv.len;have ic:=inv.cur;have ip:=inv.pre;simp only at il ic ip h;by_cases hc:c=[]
 ·rw[jo hc]at h;exact inv.words x h
 ·rw[jm hc]at h;rcases je.1 h with h|h
  ·exact inv.words x h
  ·rw[j2]at h;subst h;refine⟨s.length - x.length,by omega,?_,ip,fun d h=>?_⟩
   ·rw[ju (ja _)]at ic;rw[ic,ju (ja _)]
   ·rw[show s.length - x.length+x.length=s.length by omega,List.getElem?_eq_none (ja _)]at h;cases h
theorem word_ne{s x:Str} (h:x∈qcw s):x≠[]:=by
 have key:∀(l:Str) (st:List Str × Str),(∀w,w∈st.1->w≠[])->∀w,w∈(l.foldl qee st).1->w≠[]:=by
  intro l;induction l with
  |nil=>intro st h;exact h
  |cons c r ih=>
   intro st h;rw[yi];refine ih _ ?_;intro w hw;unfold qee at hw;split at hw
   ·simp only at hw;split at hw
    ·exact h w hw
    ·rename_i hn;rcases je.1 hw with hw|hw
     ·exact h w hw
     ·rw[j2]at hw;rw[hw];exact hn
   ·exact h w hw
 unfold qcw qxs at h;split at h
 ·exact key s ([],[]) (fun w h=>by cases h) x h
 ·rename_i hn;rcases je.1 h with h|h
  ·exact key s ([],[]) (fun w h=>by cases h) x h
  ·rw[j2]at h;rw[h];exact hn
def qv6:Go.Shelf.Ren:=⟨fun | 143=>190 | 219=>212 | 217=>223 | 225=>224 | 224=>225 | 267=>226 | 266=>233 | 314=>234|n=>n,fun | 9=>9 | 3=>3 | 4=>4 | 5=>5 | 46=>175 | 146=>184 | 51=>183|n=>n,fun | 1=>0|n=>n⟩
theorem lays143:Go.Proofs.Lays.n143 PG qv6 where
 mixed:=by kernel_rfl
 f143:=Tryz.func190.trans (jR some (by kernel_rfl))
 f217:=Tryz.func223.trans (jR some (by kernel_rfl))
 f219:=Tryz.func212.trans (jR some (by kernel_rfl))
 f224:=Tryz.func225.trans (jR some (by kernel_rfl))
 f225:=Tryz.func224.trans (jR some (by kernel_rfl))
 f266:=Tryz.func233.trans (jR some (by kernel_rfl))
 f267:=Tryz.func226.trans (jR some (by kernel_rfl))
 f314:=Tryz.func234.trans (jR some (by kernel_rfl))
 t3:=Tryz.underlying3
 a3:=Tryz.isAgg3
 z3:=Tryz.sizeOf3
 v3:=Tryz.zeroValue3
 t4:=Tryz.underlying4
 a4:=Tryz.isAgg4
 z4:=Tryz.sizeOf4
 v4:=Tryz.zeroValue4
 t5:=Tryz.underlying5
 a5:=Tryz.isAgg5
 z5:=Tryz.sizeOf5
 v5:=Tryz.zeroValue5
 t9:=Tryz.underlying9
 a9:=Tryz.isAgg9
 z9:=Tryz.sizeOf9
 v9:=Tryz.zeroValue9
 t46:=Tryz.underlying175
 a46:=Tryz.isAgg175
 z46:=Tryz.sizeOf175
 v46:=Tryz.zeroValue175
 t51:=Tryz.underlying183
 a51:=Tryz.isAgg183
 z51:=Tryz.sizeOf183
 v51:=Tryz.zeroValue183
 t146:=Tryz.underlying184
 a146:=Tryz.isAgg184
 z146:=Tryz.sizeOf184
 v146:=Tryz.zeroValue184
 g1:=by kernel_rfl
theorem index_at(s sub:ByteArray) (m:Int) (w:World) (hs:s.size < 4294967281) (hm:w.cell? ⟨0,0,none⟩=some (.int .i64 m)) :
  Calls PG 190 #[.string s,.string sub] w fun e w'=>e=.returned (.int .i64 (Lib.index s.data.toList sub.data.toList))/\w'=w:=Any.strings_Index lays143 s sub m w hs hm
theorem c190(s t:Str) (hl:s.length<=2000000):CA T 190 [.str s,.str t] zH (.int .i64 (Lib.index s t)) zH:=by
 intro ρ w xs sm hx
 match xs,hx with
 |[x,y],hx=>
  have h0:=hx.2 0 (by simp) (by simp);have h1:=hx.2 1 (by simp) (by simp);simp only[jH,yZ]at h0 h1;cases h0;cases h1;obtain⟨hB,m,hm⟩:=ρ.gl 0 (by simp[globs]);have hc:w.cell? ⟨0,0,none⟩=some (.int .i64 m):=by rw[World.cell?,sm.below 0 hB];exact hm
  have hrun:(callFunc 190 #[.string ⟨s.toArray⟩,.string ⟨t.toArray⟩]).run (ctx T).P w=.ok (.enter 190 #[.string ⟨s.toArray⟩,.string ⟨t.toArray⟩]) w:=by
   have hf:(ctx T).P.funcs[190]? = some Tryz.f190:=Tryz.func190
   have hn : ¬ Tryz.f190.name = "runtime.NumGoroutine" := by decide +kernel
   simp[callFunc,hf,hn,Tryz.f190]
  refine .inr ⟨190,_,hrun,callsIn_wide.2 ((index_at ⟨s.toArray⟩ ⟨t.toArray⟩ m w ?_ hc).mono ?_)⟩
  ·show s.toArray.size < _;simp;omega
  ·rintro e w' ⟨rfl,rfl⟩;exact⟨_,ρ,rfl,.int _ _,sm,Step.refl _ _ _⟩
def e190:Entry PG:=mkE 190 [[],[]] (fun x:Str × Str=>[.str x.1,.str x.2]) (fun x=>x.1.length<=2000000) (fun x=>.int .i64 (Lib.index x.1 x.2)) fun x h=>c190 (T:=[]) x.1 x.2 h
theorem k190(hT:qIn 190 T e190) {s t:Str} (h1:s.length<=2000000) (H:Heap):qb5 (ctx T) (.fn 190) [.str s,.str t] H=some (.int .i64 (Lib.index s t),H):=
 qb9 hT qx2 (s,t) h1 rfl (by simp)
theorem c191(c:UInt8):CA T 191 [.int .u8 c.toNat] zH (.bool (sp c)) zH:=by
 refine qa1 (s0:=⟨[0,2,3,4],[.int .u8 c.toNat,uD,uD,uD],[],10,⟨0,[[]]⟩⟩) Tryz.func191 rfl rfl rfl ?_;apply qR;simp[zS];apply qR;simp[zS];apply qa3;by_cases h1:(c.toNat:Int)=9
 ·(repeat (first
   |(apply qad)
   |(apply qa3)
   |(apply qdf;simp only[qab,qa4])
   |((refine qb0 qaz ?_);simp[zS,h1])
   |apply qag rfl
   |apply qaj rfl
   |((apply qa5);simp only[qab,qa4])
   |((apply qak);simp)))
  apply qa7;simp[zQ,Tryz.f191];exact qai rfl (by simp[sp,h1])
 by_cases h2:(c.toNat:Int)=10
 ·(repeat (first
   |(apply qad)
   |(apply qa3)
   |(apply qdf;simp only[qab,qa4])
   |((refine qb0 qaz ?_);simp[zS,h1,h2])
   |apply qag rfl
   |apply qaj rfl
   |((apply qa5);simp only[qab,qa4])
   |((apply qak);simp)))
  apply qa7;simp[zQ,Tryz.f191];exact qai rfl (by simp[sp,h2])
 by_cases h3:(c.toNat:Int)=12
 ·(repeat (first
   |(apply qad)
   |(apply qa3)
   |(apply qdf;simp only[qab,qa4])
   |((refine qb0 qaz ?_);simp[zS,h1,h2,h3])
   |apply qag rfl
   |apply qaj rfl
   |((apply qa5);simp only[qab,qa4])
   |((apply qak);simp)))
  apply qa7;simp[zQ,Tryz.f191];exact qai rfl (by simp[sp,h3])
 by_cases h4:(c.toNat:Int)=13
 ·(repeat (first
   |(apply qad)
   |(apply qa3)
   |(apply qdf;simp only[qab,qa4])
   |((refine qb0 qaz ?_);simp[zS,h1,h2,h3,h4])
   |apply qag rfl
   |apply qaj rfl
   |((apply qa5);simp only[qab,qa4])
   |((apply qak);simp)))
  apply qa7;simp[zQ,Tryz.f191];exact qai rfl (by simp[sp,h4])
 by_cases h5:(c.toNat:Int)=32
 ·(repeat (first
   |(apply qad)
   |(apply qa3)
   |(apply qdf;simp only[qab,qa4])
   |((refine qb0 qaz ?_);simp[zS,h1,h2,h3,h4,h5])
   |apply qag rfl
   |apply qaj rfl
   |((apply qa5);simp only[qab,qa4])
   |((apply qak);simp)))
  apply qa7;simp[zQ,Tryz.f191];exact qai rfl (by simp[sp,h5])
 ·(repeat (first
   |(apply qad)
   |(apply qa3)
   |(apply qdf;simp only[qab,qa4])
   |((refine qb0 qaz ?_);simp[zS,h1,h2,h3,h4,h5])
   |apply qag rfl
   |apply qaj rfl
   |((apply qa5);simp only[qab,qa4])
   |((apply qak);simp)))
  apply qa7;simp[zQ,Tryz.f191];exact qai rfl (by simp[sp,h1,h2,h3,h4,h5])
def e191:Entry PG:=mkE 191 [[]] (fun x:UInt8=>[.int .u8 x.toNat]) (fun _=>True) (fun x=>.bool (sp x)) fun x _=>c191 (T:=[]) x
theorem k191(hT:qIn 191 T e191) (c:UInt8) (H:Heap):qb5 (ctx T) (.fn 191) [.int .u8 c.toNat] H=some (.bool (sp c),H):=
 qb9 hT inj_u8 c trivial rfl (by simp)
def qva:Option (AV × Heap)->Bool
 |some (.bool b,_)=>b
 |_=>false
def eqN:Str->Str->Bool
 |[],l=>match l with|[]=>true|_::_=>false
 |a::x,l=>match l with
  |[]=>false
  |b::y=>match Nat.beq a.toNat b.toNat with
   |true=>eqN x y
   |false=>false
theorem eqN_eq:∀(x y:Str),eqN x y=decide (x=y)
 |[],[]=>rfl
 |[],_::_=>by simp[eqN]
 |_::_,[]=>by simp[eqN]
 |a::x,b::y=>by
  unfold eqN;simp only;split
  next h=>have:=UInt8.toNat_inj.1 (Nat.eq_of_beq_eq_true h);subst this;rw[eqN_eq];simp
  next h=>have:¬ a=b:=fun e=>(by subst e;rw[jC]at h;cases h);simp[this]
def spN(n:Nat):Bool:=match Nat.beq n 32 with
 |true=>true
 |false=>match Nat.beq n 9 with
  |true=>true
  |false=>match Nat.beq n 10 with
   |true=>true
   |false=>match Nat.beq n 12 with
    |true=>true
    |false=>Nat.beq n 13
theorem spN_eq(c:UInt8):spN c.toNat=sp c:=by
 have k:∀m:Nat,Nat.beq c.toNat m=decide ((c.toNat:Int)=(m:Int)):=fun m=>by
  by_cases h:c.toNat=m
  ·subst h;simp
  ·rw[qax h];simp;omega
 unfold spN sp;rw[k 32,k 9,k 10,k 12,k 13];simp only[Int.cast_ofNat_Int];by_cases h1:(c.toNat:Int)=9<;>by_cases h2:(c.toNat:Int)=10<;>by_cases h3:(c.toNat:Int)=12<;>by_cases h4:(c.toNat:Int)=13<;>by_cases h5:(c.toNat:Int)=32<;>simp[h1,h2,h3,h4,h5]
def inN(x:Str):Str->Option Str->Bool->Bool
 |[],w,some'=>match some' with
  |true=>match w with
   |some r=>match r with|[]=>true|_::_=>false
   |none=>false
  |false=>false
 |c::r,w,some'=>match spN c.toNat with
  |true=>match some' with
   |true=>match w with
    |some q=>match q with
     |[]=>true
     |_::_=>inN x r (some x) false
    |none=>inN x r (some x) false
   |false=>inN x r (some x) false
  |false=>match w with
   |some q=>match q with
    |[]=>inN x r none true
    |d::q=>match Nat.beq d.toNat c.toNat with
     |true=>inN x r (some q) true
     |false=>inN x r none true
   |none=>inN x r none true
def leftOf:Str->Str->Option Str
 |[],x=>some x
 |a::c,x=>match x with
  |[]=>none
  |b::x=>if b=a then leftOf c x else none
theorem qoo:∀(cur x:Str) (c:UInt8),leftOf (cur++[c]) x=match leftOf cur x with
  |some q=>(match q with|[]=>none|d::q=>if d=c then some q else none)
  |none=>none
 |[],x,c=>by cases x<;>simp[leftOf]
 |a::r,[],c=>by simp[leftOf]
 |a::r,b::x,c=>by
  simp only[List.cons_append,leftOf];by_cases h:b=a
  ·simp only[h,jQ];exact qoo r x c
  ·simp[h]
theorem qh6:∀(cur x:Str),leftOf cur x=some []↔x=cur
 |[],x=>by simp[leftOf]
 |a::r,[]=>by simp[leftOf]
 |a::r,b::x=>by
  simp only[leftOf];by_cases h:b=a
  ·simp[h,qh6 r x]
  ·simp[h]
theorem qx4(x:Str) (hx:x≠[]):∀(r:Str) (st:List Str × Str),x ∉ st.1->inN x r (leftOf st.2 x) (!decide (st.2=[]))=decide (x∈qxs (r.foldl qee st))
 |[],st,hn=>by
  simp only[List.foldl_nil,qxs];unfold inN;by_cases h:st.2=[]
  ·simp[h,hn]
  ·simp only[h,yr,Jk,jM];cases hl:leftOf st.2 x with
   |none=>have:¬ x=st.2:=fun e=>(by rw[(qh6 st.2 x).2 e]at hl;cases hl);simp[hn,this]
   |some q=>
    cases q with
    |nil=>have:=(qh6 st.2 x).1 hl;simp[this]
    |cons d q=>have:¬ x=st.2:=fun e=>(by rw[(qh6 st.2 x).2 e]at hl;cases hl);simp[hn,this]
 |c::r,st,hn=>by
  show inN x (c::r) _ _=decide (x∈qxs (r.foldl qee (qee st c)));have grow:∀(r:Str) (st:List Str × Str),x∈st.1->x∈(r.foldl qee st).1:=by
   intro r;induction r with
   |nil=>exact fun _ h=>h
   |cons c r ih=>
    intro st h;refine ih _ ?_;unfold qee;split
    ·split
     ·exact h
     ·exact j9 _ h
    ·exact h
  rw[show inN x (c::r) (leftOf st.2 x) (!decide (st.2=[]))=(match spN c.toNat with
  |true=>match (!decide (st.2=[]))with
   |true=>match leftOf st.2 x with
    |some q=>match q with
     |[]=>true
     |_::_=>inN x r (some x) false
    |none=>inN x r (some x) false
   |false=>inN x r (some x) false
  |false=>match leftOf st.2 x with
   |some q=>match q with
    |[]=>inN x r none true
    |d::q=>match Nat.beq d.toNat c.toNat with
     |true=>inN x r (some q) true
     |false=>inN x r none true
   |none=>inN x r none true) from rfl,spN_eq]
  cases hs:sp c with
  |true=>
   simp only;by_cases h:st.2=[]
   ·have e:qee st c=(st.1,[]):=(by simp[qee,hs,h]);rw[e];have ih:=qx4 x hx r (st.1,[]) hn;simp only[h,yz,Jc];simpa[leftOf]using ih
   ·have e:qee st c=(st.1++[st.2],[]):=(by simp[qee,hs,h]);rw[e];simp only[h,yr,Jk];by_cases hq:x=st.2
    ·rw[(qh6 st.2 x).2 hq];simp only;have hm:=grow r (st.1++[st.2],[]) (by rw[hq];simp);unfold qxs;split
     ·simp[hm]
     ·simp[hm]
    ·have hn':x ∉ st.1++[st.2]:=(by simp[hn,hq]);have ih:=qx4 x hx r (st.1++[st.2],[]) hn';simp only[leftOf,yz,Jc]at ih;cases hl:leftOf st.2 x with
     |none=>exact ih
     |some q=>
      cases q with
      |nil=>exact absurd ((qh6 st.2 x).1 hl) hq
      |cons d q=>exact ih
  |false=>
   simp only;have e:qee st c=(st.1,st.2++[c]):=(by simp[qee,hs]);rw[e];have ih:=qx4 x hx r (st.1,st.2++[c]) hn;simp only[List.append_eq_nil_iff,List.cons_ne_nil,and_false,yr,Jk]at ih;rw[qoo]at ih;cases hl:leftOf st.2 x with
   |none=>rw[hl]at ih;exact ih
   |some q=>
    rw[hl]at ih;cases q with
    |nil=>exact ih
    |cons d q=>
     simp only at ih ⊢;by_cases hd:d=c
     ·rw[jo hd]at ih;rw[hd,jC];exact ih
     ·rw[jm hd]at ih;rw[qax (fun e=>hd (UInt8.toNat_inj.1 e))];exact ih
theorem qvy(s:Str):[] ∉ qcw s:=by
 have key:∀(r:Str) (st:List Str × Str),[] ∉ st.1->[] ∉ (r.foldl qee st).1:=by
  intro r;induction r with
  |nil=>exact fun _ h=>h
  |cons c r ih=>
   intro st h;refine ih _ ?_;unfold qee;split
   ·split
    ·exact h
    next h2=>simp only[je,j2,Jh];exact⟨h,fun e=>h2 e.symm⟩
   ·exact h
 have:=key s ([],[]) (by simp);unfold qcw qxs wst;split
 ·exact this
 next h2=>simp only[je,j2,Jh];exact⟨this,fun e=>h2 e.symm⟩
def inB(w x:Str):Bool:=match x with
 |[]=>false
 |_::_=>inN x w (some x) false
theorem inB_eq(w x:Str):inB w x=inW w x:=by
 unfold inB;split
 ·simp[inW,qvy]
 next a r=>have:=qx4 (a::r) (by simp) w ([],[]) (by simp);exact(show inN (a::r) w (some (a::r)) false=_ from this).trans (decide_eq_decide.2 Iff.rfl)
theorem qyt{f:FuncId} (h:qva (qvq (ctx T) 100000 (.fn f) [] zH)=true):CA T f [] zH (.bool true) zH:=by
 revert h;cases hr:qvq (ctx T) 100000 (.fn f) [] zH with
 |none=>intro h;cases h
 |some r=>
  obtain⟨v,H'⟩:=r;intro h;cases v<;>simp only[qva]at h<;>first|(cases h;done)|skip
  subst h;exact((zcg mixed (zav _ _ _) 100000).fn f [] zH _ _ hr).freeze (Φ:=[]) (by simp[qas,qa2]) FitH.empty
def noneL:List AV->Bool
 |[]=>true
 |_::_=>false
mutual
def qmg(Φ:List (Nat × List AV)):AV->AV->Bool
 |.slc b o len cap,v'=>match v' with
  |.undef=>true
  |.fslc sz es=>(match qcp b Φ with
   |some cs=>(match qfe o (len * sz) cs with
    |some x=>AV.beqL x (qaa es) && Nat.beq es.length len && qgm sz es
    |none=>false)
   |none=>false) || (Nat.beq len 0 && noneL es)
  |_=>false
 |.ptr b o,v'=>match v' with
  |.undef=>true
  |.fptr cs o'=>(match qcp b Φ with
   |some c=>AV.beqL c cs
   |none=>false) && Nat.beq o' o
  |_=>false
 |.nilS,v'=>match v' with
  |.undef=>true
  |.nilS=>true
  |.fslc _ es=>noneL es
  |_=>false
 |.fslc sz es,v'=>match v' with
  |.undef=>true
  |.fslc sz' es'=>Nat.beq sz sz' && AV.beqL es es'
  |_=>false
 |.agg cs,v'=>match v' with
  |.undef=>true
  |.agg cs'=>qyo Φ cs cs'
  |_=>false
 |.tup cs,v'=>match v' with
  |.undef=>true
  |.tup cs'=>qyo Φ cs cs'
  |_=>false
 |.int k n,v'=>match v' with
  |.undef=>true
  |.int k' n'=>decide (k'=k) && decide (n'=n)
  |_=>false
 |.str s,v'=>match v' with
  |.undef=>true
  |.str s'=>eqN s' s
  |_=>false
 |.bool s,v'=>match v' with
  |.undef=>true
  |.bool s'=>s' == s
  |_=>false
 |_,v'=>match v' with
  |.undef=>true
  |_=>false
def qyo(Φ:List (Nat × List AV)):List AV->List AV->Bool
 |[],l'=>noneL l'
 |a::r,l'=>match l' with
  |[]=>false
  |a'::r'=>qmg Φ a a' && qyo Φ r r'
end
theorem qr9{l:List AV} (h:noneL l=true):l=[]:=by cases l<;>first|rfl|cases h
mutual
theorem fitVb_ok{Φ:List (Nat × List AV)}:∀{v v':AV},qmg Φ v v'=true->qas [] Φ v v':=by
 intro v v' h;cases v with
 |slc b o len cap=>
  unfold qmg at h;unfold qas;cases v'<;>simp only[jz]at h ⊢;rename_i sz es;simp only[Bool.or_eq_true,jf]at h;rcases h with h|h
  ·left;cases hl:qcp b Φ with
   |none=>rw[hl]at h;cases h
   |some cs=>
    rw[hl]at h;simp only at h;cases hs:qfe o (len * sz) cs with
    |none=>rw[hs]at h;cases h
    |some x=>rw[hs]at h;simp only[jf]at h;exact⟨cs,rfl,by rw[hs,AV.eqL_of_beq _ _ h.1.1],Nat.eq_of_beq_eq_true h.1.2,h.2⟩
  ·exact .inr ⟨Nat.eq_of_beq_eq_true h.1,qr9 h.2⟩
 |fslc sz es=>
  cases v' with
  |undef=>simp[qas]
  |fslc sz' es'=>unfold qmg at h;simp only[jf]at h;have h1:=Nat.eq_of_beq_eq_true h.1;have h2:=AV.eqL_of_beq _ _ h.2;subst h1;subst h2;exact qbo rfl
  |_=>simp[qmg]at h
 |ptr b o=>
  unfold qmg at h;unfold qas;cases v'<;>simp only[jz]at h ⊢;simp only[jf]at h;cases hl:qcp b Φ with
  |none=>rw[hl]at h;cases h.1
  |some cs=>rw[hl]at h;exact⟨by rw[AV.eqL_of_beq _ _ h.1],Nat.eq_of_beq_eq_true h.2⟩
 |nilS=>unfold qmg at h;unfold qas;cases v'<;>simp only[jz]at h ⊢;exact qr9 h
 |agg cs=>unfold qmg at h;unfold qas;cases v'<;>simp only[jz]at h ⊢;exact .inl (qs4 h)
 |tup cs=>unfold qmg at h;unfold qas;cases v'<;>simp only[jz]at h ⊢;exact .inl (qs4 h)
 |int k n=>
  unfold qmg at h;unfold qas;cases v'<;>simp only[jz]at h ⊢
  ·simp
  ·simp only[jf,yk]at h;obtain⟨rfl,rfl⟩:=h;exact .inr ⟨rfl,rfl⟩
 |str s=>
  unfold qmg at h;unfold qas;cases v'<;>simp only[jz]at h ⊢
  ·simp
  ·rw[eqN_eq,yk]at h;subst h;exact .inr ⟨rfl,rfl⟩
 |bool s=>
  unfold qmg at h;unfold qas;cases v'<;>simp only[jz]at h ⊢
  ·simp
  ·simp only[beq_iff_eq]at h;subst h;exact .inr ⟨rfl,rfl⟩
 |_=>unfold qmg at h;cases v'<;>simp only[jz]at h;simp[qas]
theorem qs4{Φ:List (Nat × List AV)}:∀{l l':List AV},qyo Φ l l'=true->qb8 [] Φ l l':=by
 intro l l' h;cases l with
 |nil=>unfold qyo at h;unfold qb8;exact qr9 h
 |cons a r=>
  unfold qyo at h;unfold qb8;cases l' with
  |nil=>cases h
  |cons a' r'=>simp only[jf]at h;exact⟨fitVb_ok h.1,qs4 h.2⟩
end
theorem occ_iff{s x:Str} {i:Nat}:Lib.occAt s x i=true↔(s.drop i).take x.length=x:=by unfold Lib.occAt;rw[List.isPrefixOf_iff_prefix,List.prefix_iff_eq_take];exact eq_comm
theorem c133(hI:qIn 190 T e190) (hS:qIn 191 T e191) (W x:Str) (hl:W.length<=1100000) (hx1:x.length<=1000000000)
  (hsp:CA T 193 [.str W] zH (qe1 (qcw W)) zH) (hco:CA T 192 [qe1 (qcw W),.str x] zH (.bool (decide (x∈qcw W))) zH) :
  CA T 133 [.str W,.str x] zH (.bool (inW W x)) zH:=by
 have h1:=hsp.lift (by simp[qa6,qa2]) ⟨0,[[]]⟩;have h2:=hco.lift (by simp[qe1,qa6,qa2]) ⟨0,[[]]⟩;refine qa1 (s0:=⟨[0,1,4,5,6,7,8],[.str W,.str x,uD,uD,uD,uD,uD],[],52,⟨0,[[]]⟩⟩) Tryz.func133 rfl rfl rfl ?_;apply qR;simp[zS];by_cases hx:x=[]
 ·apply qR;simp[zS,hx];apply qag rfl;apply qR;simp[zS];apply qa7;simp[zQ,Tryz.f133];exact qai rfl (by simp only[inW];symm;simp;intro h;exact word_ne h rfl)
 apply qR;simp[zS,hx];apply qaj rfl;apply qa5;simp;have hx0:0 < x.length:=List.length_pos_iff.2 hx;apply qR;simp[zS];refine qa3 (qb6 (fun i:Nat=>(⟨[0,1,4,5,6,7,8],[.str W,.str x,uD,.int .i64 i,uD,uD,uD],[],52,⟨0,[[]]⟩⟩ : St))
  (fun i=>i<=W.length/\(x∈qcw W->∃p,i<=p/\WordAt W x p)) (fun i=>W.length+1 - i) [] [] 0 ⟨jx _,fun h=>let ⟨p,hp⟩:=word_at h;⟨p,jx _,hp⟩⟩ ⟨rfl,rfl,rfl,by simp[qb8,qas,qa2,qa6],FitH.nothing⟩ ?_)
 rintro i ⟨hi,hw⟩ B hB;have hd:(W.drop i).length<=2000000:=by simp;omega
 apply qa3;rcases Lib.index_spec (W.drop i) x with⟨h0,hn⟩|⟨k,h0,hk,ho,hno⟩
 ·have hnot:¬ x∈qcw W:=fun h=>by obtain⟨p,hp,hwa⟩:=hw h;have hr:=hwa.room;have:=hn (p - i) (by simp;omega);have h3:Lib.occAt (W.drop i) x (p - i)=true:=occ_iff.2 (by rw[List.drop_drop,show i+(p - i)=p by omega];exact hwa.occ);rw[h3]at this;cases this
  apply qR;simp[zS,slStr hi,k190 hI hd,h0];apply qR;simp[zS];apply qag rfl;apply qR;simp[zS];apply qa7;simp[zQ,Tryz.f133];exact qai rfl (by simp[inW,hnot])
 ·have hk0:¬ (k:Int) < 0:=by omega
  obtain⟨j,hj⟩ : ∃j,j=i+k:=⟨_,rfl⟩;have ho':=occ_iff.1 ho;rw[List.drop_drop,<- hj]at ho';have hroom:j+x.length<=W.length:=by have:=jR List.length ho';simp at this;simp at hk;omega
  have a1:wr .i64 ((i:Int)+(k:Int))=some (j:Int):=by rw[qbi (by omega) (by omega),hj];simp
  obtain⟨q,hq⟩ : ∃q,q=j+x.length:=⟨_,rfl⟩;have a2:wr .i64 ((j:Int)+(x.length:Int))=some (q:Int):=by rw[qbi (by omega) (by omega),hq];simp
  have nxt:∀s',¬ WordAt W x j->(∃σ Φ,Fit 0 σ Φ s' (⟨[0,1,4,5,6,7,8],[.str W,.str x,uD,.int .i64 ((j+1:Nat):Int),uD,uD,uD],[],52,⟨0,[[]]⟩⟩ : St))->B s':=fun s' hno2 hf=>
   hB s' (j+1) (by omega) ⟨by omega,fun h=>by
    obtain⟨p,hp,hwa⟩:=hw h;refine⟨p,?_,hwa⟩;have hr:=hwa.room;apply yR;intro hlt;rcases jF p j with hpj|hpj
    ·have h3:=hno (p - i) (by omega);have h4:Lib.occAt (W.drop i) x (p - i)=true:=occ_iff.2 (by rw[List.drop_drop,show i+(p - i)=p by omega];exact hwa.occ);rw[h4]at h3;cases h3
    ·have:p=j:=(by omega);subst this;exact hno2 hwa⟩ hf
  apply qR;simp[zS,slStr hi,k190 hI hd,h0];apply qR;simp[zS,hk0];apply qaj rfl;apply qa5;simp;apply qR;simp[zS,a1];apply qR;simp[zS,a2];have kS:=fun c H=>k191 hS c H;by_cases c0:j=0
  ·have a4:wr .i64 1=some ((j+1:Nat):Int):=(by rw[c0];rfl);by_cases d0:q=W.length
   ·apply qR;simp[zS,c0,d0];apply qag rfl;repeat apply wq
    refine qb0 (qci [⟨193,_,_,_,_,h1⟩,⟨192,_,_,_,_,h2⟩]) ?_;simp[zS,qdz,qe1];apply qa7;simp[zQ,Tryz.f133];exact qai rfl (by simp[inW])
   ·have hql:q < W.length:=(by omega);have d0i:¬ (q:Int)=(W.length:Int):=(by omega);rcases yy (sp W[q])with d1|d1
    ·apply qR;simp[zS,c0,d0i,qpq hql,kS,d1];apply qag rfl;repeat apply wq
     refine qb0 (qci [⟨193,_,_,_,_,h1⟩,⟨192,_,_,_,_,h2⟩]) ?_;simp[zS,qdz,qe1];apply qa7;simp[zQ,Tryz.f133];exact qai rfl (by simp[inW])
    ·apply qR;simp[zS,c0,d0i,qpq hql,kS,d1];apply qaj rfl;apply qa5;simp;apply qR;simp[zS,a4];exact nxt _ (fun hwa=>by have:=hwa.post _ (by rw[<- hq];exact List.getElem?_eq_getElem hql);rw[d1]at this;cases this) ⟨[],[],⟨rfl,rfl,rfl,by simp[qb8,qas,qa2,qa6],FitH.nothing⟩⟩
  ·obtain⟨q1,hq1⟩ : ∃q1,q1+1=j:=⟨j - 1,by omega⟩;have hq1l:q1 < W.length:=(by omega);have a3:wr .i64 ((j:Int) - 1)=some (q1:Int):=(by rw[qbi (by omega) (by omega)];congr 1;omega);rcases yy (sp W[q1])with c1|c1
   ·skip
    by_cases d0:q=W.length
    ·apply qR;simp[zS,c0,a3,qpq hq1l,kS,c1,d0];apply qag rfl;repeat apply wq
     refine qb0 (qci [⟨193,_,_,_,_,h1⟩,⟨192,_,_,_,_,h2⟩]) ?_;simp[zS,qdz,qe1];apply qa7;simp[zQ,Tryz.f133];exact qai rfl (by simp[inW])
    ·have hql:q < W.length:=(by omega);have d0i:¬ (q:Int)=(W.length:Int):=(by omega);rcases yy (sp W[q])with d1|d1
     ·apply qR;simp[zS,c0,a3,qpq hq1l,kS,c1,d0i,qpq hql,kS,d1];apply qag rfl;repeat apply wq
      refine qb0 (qci [⟨193,_,_,_,_,h1⟩,⟨192,_,_,_,_,h2⟩]) ?_;simp[zS,qdz,qe1];apply qa7;simp[zQ,Tryz.f133];exact qai rfl (by simp[inW])
     ·apply qR;simp[zS,c0,a3,qpq hq1l,kS,c1,d0i,qpq hql,kS,d1];apply qaj rfl;apply qa5;simp;apply qR;simp[zS,qbb (show j<=1000000000 by omega)];exact nxt _ (fun hwa=>by have:=hwa.post _ (by rw[<- hq];exact List.getElem?_eq_getElem hql);rw[d1]at this;cases this) ⟨[],[],⟨rfl,rfl,rfl,by simp[qb8,qas,qa2,qa6],FitH.nothing⟩⟩
   ·apply qR;simp[zS,c0,a3,qpq hq1l,kS,c1];apply qaj rfl;apply qa5;simp;apply qR;simp[zS,qbb (show j<=1000000000 by omega)];exact nxt _ (fun hwa=>by have:=hwa.pre _ (by omega) (by rw[<- hq1,Nat.add_sub_cancel];exact List.getElem?_eq_getElem hq1l);rw[c1]at this;cases this) ⟨[],[],⟨rfl,rfl,rfl,by simp[qb8,qas,qa2,qa6],FitH.nothing⟩⟩
abbrev At1:=Str × Str
def qct(a:At1):AV:=.agg [.str a.1,.str a.2]
def qae(L:List At1):AV:=.fslc 2 (L.map qct)
@[simp]theorem cells_aAttr(a:At1):(qct a).cells=[.str a.1,.str a.2]:=rfl
@[simp]theorem pure_aAttr(a:At1):qa2 (qct a)=true:=by simp[qct,qa2,qa6]
@[simp]theorem pure_aAttrs(L:List At1):qa2 (qae L)=true:=by simp[qae,qa2]
@[simp]theorem ok_aAttr(a:At1):okV (qct a)=true:=by simp[qct,okV,qa2,qa6]
@[simp]theorem ok_aAttrs(L:List At1):okV (qae L)=true:=by simp[qae,okV,qa2]
theorem qzj(H:Heap) (L:List At1):qco H [2] (qae L)=some (qae L):=qam (by simp)
theorem zba{a b:At1} (h:qct a=qct b):a=b:=by simp[qct]at h;exact yv h.1 h.2
theorem qdp{L M:List At1} (h:qae L=qae M):L=M:=by simp only[qae,AV.fslc.injEq,yc]at h;exact List.map_inj_right (fun _ _=>zba) |>.1 h
def qb7{α:Type} (p:α->Bool):List α->Nat->Int
 |[],_=>-1
 |a::r,k=>if p a=true then k else qb7 p r (k+1)
theorem qfs{α:Type} {p:α->Bool} {L:List α} {i:Nat} (h:i < L.length):qb7 p (L.drop i) i=if p L[i]=true then (i:Int) else qb7 p (L.drop (i+1)) (i+1):=by rw[List.drop_eq_getElem_cons h];rfl
theorem atA{L:List At1} {i:Nat} (h:i < L.length):qaq PG 27 (qae L) (.int .i64 (i:Int))=some (.fptr [.str L[i].1,.str L[i].2] 0):=by simp[qaq,qae,qbn h,qge h,qct,AV.cells]
theorem qiq{H:Heap} {L:List At1}:qf3 PG H 27 (qae L)=some L.length:=by simp[qf3,qae]
theorem rdA1{H:Heap} (a:At1):qb2 PG H 105 (.fptr [.str a.1,.str a.2] 0)=some (qct a):=by simp[qb2,qfe,qey,qct]
structure Nd where
 kind:Int
 space:Int
 name:Str
 attrs:List At1
 data:Str
 up:Int
 kids:List Int
def qat(i:Int):AV:=.int .i64 i
abbrev qa8(L:List Int):AV:=.fslc 1 (L.map qat)
def Nd.cs(n:Nd):List AV:=[qat n.kind,qat n.space,.str n.name,qae n.attrs,.str n.data,qat n.up,qa8 n.kids]
def qa9(n:Nd):AV:=.agg n.cs
abbrev Tr:=List Nd
abbrev qb3(t:Tr):AV:=.fslc 7 (t.map qa9)
def qao(t:Tr):AV:=.agg [qb3 t]
@[simp]theorem qd0(L:List Int):qa2 (qa8 L)=true:=by simp[qa8,qa2]
@[simp]theorem pure_aNode(n:Nd):qa2 (qa9 n)=true:=by simp[qa9,Nd.cs,qat,qa2,qa6]
@[simp]theorem pure_aNodes(t:Tr):qa2 (qb3 t)=true:=by simp[qb3,qa2]
@[simp]theorem pure_aTree(t:Tr):qa2 (qao t)=true:=by simp[qao,qa2,qa6]
@[simp]theorem cells_aNode(n:Nd):(qa9 n).cells=n.cs:=rfl
@[simp]theorem cells_aTree(t:Tr):(qao t).cells=[qb3 t]:=rfl
@[simp]theorem cells_aInt(i:Int):(qat i).cells=[qat i]:=rfl
@[simp]theorem ok_aNode(n:Nd):okV (qa9 n)=true:=by simp[qa9,Nd.cs,qat,qae,qa8,okV,qa2,qa6]
theorem qdu{L M:List Int} (h:qa8 L=qa8 M):L=M:=by simp only[qa8,AV.fslc.injEq,yc]at h;exact List.map_inj_right (fun x y e=>by simp[qat]at e;exact e) |>.1 h
theorem qgk{a b:Nd} (h:qa9 a=qa9 b):a=b:=by
 obtain⟨k,s,n,at_,d,u,ks⟩:=a;obtain⟨k',s',n',at',d',u',ks'⟩:=b;simp[qa9,Nd.cs,qat]at h;obtain⟨h1,h2,h3,h4,h5,h6,h7⟩:=h;have h7':qa8 ks=qa8 ks':=by show AV.fslc 1 _=AV.fslc 1 _;rw[h7]
 simp[h1,h2,h3,qdp h4,h5,h6,qdu h7']
theorem qem{a b:Tr} (h:qao a=qao b):a=b:=by simp[qao,qb3]at h;exact List.map_inj_right (fun x y e=>qgk e) |>.1 h
structure Wk where
 l:List Int
 inn:List Int
 out:List Int
 c:Int
def qmv(I:List Int):Nat:=I.countP fun x=>decide (x < 0)
def kl(n:Nat) (g:Nat->Wk->Wk):List Int->Wk->Wk
 |[],w=>w
 |k::r,w=>if 0<=k/\k < (n:Int)/\w.inn.getD k.toNat 0 < 0 then kl n g r (g k.toNat w) else kl n g r w
def into(i:Nat) (w:Wk):Wk:=⟨w.l++[(i:Int)],w.inn.set i w.c,w.out,w.c+1⟩
def qoe(i:Nat) (w:Wk):Wk:=⟨w.l,w.inn,w.out.set i w.c,w.c+1⟩
def vis(n:Nat) (ks:Nat->List Int):Nat->Nat->Wk->Wk
 |0,_,w=>w
 |f+1,i,w=>qoe i (kl n (vis n ks f) (ks i) (into i w))
structure WOK (n K:Nat) (w:Wk):Prop where
 li:w.inn.length=n
 lo:w.out.length=n
 c0:0<=w.c
 cb:w.c+2 * (qmv w.inn:Int)<=2 * K
 lb:w.l.length+qmv w.inn<=K
theorem qrf{I:List Int} {i:Nat} {c:Int} (h:i < I.length) (hi:I.getD i 0 < 0) (hc:0<=c):qmv (I.set i c)+1=qmv I:=by
 induction I generalizing i with
 |nil=>simp at h
 |cons x r ih=>
  cases i with
  |zero=>have hx:x < 0:=(by simpa using hi);have hc':¬ c < 0:=(by omega);simp[qmv,Js,hx,hc']
  |succ j=>have:=ih (i:=j) (by simpa using h) (by simpa using hi);simp only[qmv,List.set_cons_succ,Js]at this ⊢;omega
theorem WOK.into{n K i:Nat} {w:Wk} (h:WOK n K w) (hi:i < n) (hn:w.inn.getD i 0 < 0):WOK n K (into i w)/\qmv (into i w).inn+1=qmv w.inn/\(into i w).c+2 * (qmv (into i w).inn:Int)+1<=2 * K:=by have e:=qrf (I:=w.inn) (by rw[h.li];exact hi) hn h.c0;have h1:=h.cb;have h2:=h.lb;have h3:=h.c0;refine⟨⟨by simp[Go.Proofs.YtnfdakclfmchfaaGreat.into,h.li],h.lo,?_,?_,?_⟩,e,?_⟩<;>simp only[Go.Proofs.YtnfdakclfmchfaaGreat.into,js,yo]<;>omega
def Low(n K:Nat) (b:Int) (w:Wk):Prop:=WOK n K w/\w.c+2 * (qmv w.inn:Int)+b<=2 * K
theorem kl_ok{n K f:Nat} {g:Nat->Wk->Wk} (hg:∀b i w,0<=b->Low n K b w->i < n->w.inn.getD i 0 < 0->qmv w.inn<=f->Low n K b (g i w)/\qmv (g i w).inn<=qmv w.inn) (b:Int) (hb:0<=b) :
  ∀(ks:List Int) (w:Wk),Low n K b w->qmv w.inn<=f->Low n K b (kl n g ks w)/\qmv (kl n g ks w).inn<=qmv w.inn
 |[],w,h,_=>⟨h,ja _⟩
 |k::r,w,h,hf=>by
  unfold kl;split
  next hk=>obtain⟨h1,h2⟩:=hg b k.toNat w hb h (by omega) hk.2.2 hf;obtain⟨h3,h4⟩:=kl_ok hg b hb r _ h1 (by omega);exact⟨h3,by omega⟩
  ·exact kl_ok hg b hb r w h hf
theorem qw0{n K:Nat} {ks:Nat->List Int}:∀(f:Nat) (b:Int) (i:Nat) (w:Wk),0<=b->Low n K b w->i < n->w.inn.getD i 0 < 0->qmv w.inn<=f->Low n K b (vis n ks f i w)/\qmv (vis n ks f i w).inn < qmv w.inn
 |0,b,i,w,hb,h,hi,hn,hf=>by have e:=qrf (I:=w.inn) (by rw[h.1.li];exact hi) hn h.1.c0;omega
 |f+1,b,i,w,hb,h,hi,hn,hf=>by
  obtain⟨h1,h2,h3⟩:=h.1.into hi hn;have hl:Low n K (b+1) (into i w):=⟨h1,by have:=h.2;simp only[into]at h2 ⊢;omega⟩;obtain⟨h4,h5⟩:=kl_ok (n:=n) (K:=K) (f:=f) (g:=vis n ks f) (fun b' i' w' hb' h' hi' hn' hf'=>let ⟨x,y⟩:=qw0 f b' i' w' hb' h' hi' hn' hf';⟨x,yW y⟩) (b+1) (by omega) (ks i) (into i w) hl (by omega);unfold vis;refine⟨⟨⟨h4.1.li,by simp[qoe,h4.1.lo],?_,?_,?_⟩,?_⟩,?_⟩
  ·have:=h4.1.c0;simp only[qoe];omega
  ·have:=h4.2;simp only[qoe];omega
  ·exact h4.1.lb
  ·have:=h4.2;simp only[qoe];omega
  ·simp only[qoe];omega
abbrev Cfg:=List (Nat × Nat) × List Bool × List Int
def stp(n:Nat) (ks:Nat->List Int):Cfg->Option Cfg
 |([],_,_)=>none
 |((i,j)::p,s,a)=>match (ks i)[j]? with
  |none=>some (p,s,a)
  |some k=>if 0<=k/\k < (n:Int)/\s.getD k.toNat true=false then some ((k.toNat,0)::(i,j+1)::p,s.set k.toNat true,a++[k]) else some ((i,j+1)::p,s,a)
inductive Reach (n:Nat) (ks:Nat->List Int):Cfg->Cfg->Prop where
 |refl (c:Cfg):Reach n ks c c
 |step {c d e:Cfg} (h:stp n ks c=some d) (r:Reach n ks d e):Reach n ks c e
theorem Reach.trans{n:Nat} {ks:Nat->List Int} {c d e:Cfg} (h:Reach n ks c d) (r:Reach n ks d e):Reach n ks c e:=by
 induction h with
 |refl=>exact r
 |step h _ ih=>exact .step h (ih r)
theorem Reach.one{n:Nat} {ks:Nat->List Int} {c d e:Cfg} (r:Reach n ks c d) (h:stp n ks d=some e):Reach n ks c e:=r.trans (.step h (.refl _))
def w0(n:Nat):Wk:=⟨[],List.replicate n (-1),List.replicate n (-1),0⟩
def qdn(n:Nat) (ks:Nat->List Int):List Int:=if n=0 then [] else (vis n ks n 0 (w0 n)).l
theorem qrg(n:Nat):qmv (List.replicate n (-1))=n:=by simp[qmv,List.countP_replicate]
theorem w0_ok(n:Nat):Low n n 0 (w0 n):=by refine⟨⟨by simp[w0],by simp[w0],by simp[w0],?_,?_⟩,?_⟩<;>simp[w0,qrg]
def qay(L:List Int):List AV:=L.map qat
@[simp]theorem ints_nil:qay []=[]:=rfl
theorem zb5{L:List Int} (h:L≠[]):qay L≠[]:=by simpa[qay]using h
theorem ne_ints{L:List Int} (h:qay L≠[]):L≠[]:=by simpa[qay]using h
@[simp]theorem qcc(L:List Int):(qay L).length=L.length:=by simp[qay]
theorem qca(L:List Int):Elems 1 (qay L):=.map (sz:=1) (f:=qat) (by decide) (fun x=>⟨rfl,rfl,fun _=>rfl,fun h=>absurd rfl h⟩) L
@[simp]theorem qbf(L:List Int):qaa (qay L)=qay L:=by
 unfold qay;induction L with
 |nil=>rfl
 |cons x r ih=>simp only[List.map_cons,qaa,ih];rfl
@[simp]theorem qbq(L:List Int):qa6 (qay L)=true:=by have:=(qca L).pure;rwa [qbf]at this
theorem lay1{L:List Int} {i:Nat} {v:Int} (h:i < L.length):qiz [.int .i64 v] i (qay L)=some (qay (L.set i v)):=by
 have:=lay_at (qca L) (i:=i) (by simpa using h) (e:=qat v) rfl;have e:(qay L).set i (qat v)=qay (L.set i v):=by simp[qay,List.map_set]
 rw[qbf,e,qbf]at this;simpa[qat,AV.cells]using this
theorem atI{L:List Int} {i:Nat} (h:i < L.length):qaq PG 38 (qa8 L) (.int .i64 (i:Int))=some (.fptr [.int .i64 L[i]] 0):=by simp[qaq,qa8,qbn h,qge h,qat,AV.cells]
theorem atN{t:Tr} {i:Nat} (h:i < t.length):qaq PG 35 (qb3 t) (.int .i64 (i:Int))=some (.fptr (t[i]).cs 0):=by simp[qaq,qb3,qbn h,qge h]
theorem qgi{H:Heap} {L:List Int}:qf3 PG H 38 (qa8 L)=some L.length:=by simp[qf3,qa8]
theorem qlv{H:Heap} {t:Tr}:qf3 PG H 35 (qb3 t)=some t.length:=by simp[qf3,qb3]
def qc3(t:Tr) (i:Nat):List Int:=(t[i]?.map Nd.kids).getD []
theorem qld{t:Tr} {i:Nat} (h:i < t.length):t[i].kids=qc3 t i:=by simp[qc3,h]
def lA(b:Nat) (L:List Int):AV:=qce b 1 (qay L)
def lF(b:Nat) (L:List Int):List (Nat × Blk):=qcg b (qay L)
theorem lA_ne{b:Nat} {L:List Int} (h:L≠[]):lA b L=.slc b 0 L.length (.rest 1):=by rw[lA,qbr (zb5 h)];simp
theorem qoq{b:Nat} {L:List Int} (h:L≠[]):lF b L=[(b,.cells (qay L))]:=by rw[lF,qd4 (zb5 h),qbf]
theorem app_l{m t b:Nat} {L:List Int} {v:Int} {g1 g:List (Nat × Blk)} (hr:L.length<=1000000000) (h1:∀e,e∈(t,Blk.cells [AV.int .i64 v])::g1->e.1≠b) (h2:∀e,e∈g->e.1≠b) :
  qbs PG ⟨m,[(t,.cells [.int .i64 v])::g1,lF b L++g]⟩ 3 (lA b L) (.slc t 0 1 (.ex 1))=some (.slc m 0 (L.length+1) (.rest 1),⟨m+1,[(m,.cells (qay (L++[v])))::(t,.cells [.int .i64 v])::g1,g]⟩):=by
 have miss:∀(l:List (Nat × Blk)),(∀e,e∈l->e.1≠b)->getF b l=none:=by
  intro l;induction l with
  |nil=>intro _;rfl
  |cons x r ih=>intro h;unfold getF;rw[qax (h x (by simp))];exact ih fun e he=>h e (by simp[he])
 have hm1:=miss _ h1;have hg:=miss _ h2;have hdrop:Heap.drop ⟨m,[(t,.cells [.int .i64 v])::g1,lF b L++g]⟩ b=⟨m,[(t,.cells [.int .i64 v])::g1,g]⟩:=by
  simp only[Heap.drop,qg0,hm1];cases L with
  |nil=>simp[lF,qcg,hg]
  |cons x r=>simp[lF,qcg,qay,getF,killF]
 have h:=qia (P:=PG) (H:=⟨m,[(t,.cells [.int .i64 v])::g1,lF b L++g]⟩) (elem:=3) (b:=b) (n:=0) (es:=qay L) (cs:=[.int .i64 v]) (x:=.slc t 0 1 (.ex 1)) qhz qk2 qjw rfl (by omega) (by omega) rfl
  (by simp[qbj,readCells,zG,Blk.rd,qfe,qey]) rfl rfl (qca L) (by simp;omega) (fun hne=>by
   have hL:L≠[]:=ne_ints hne;simp only[Heap.get,getFs,hm1,qoq hL,qbf];simp[getF]) (fun he=>by
   have hL:L=[]:=(by simpa[qay]using he);subst hL;rw[hdrop];rfl) (by intro cs;rfl)
 have e:qay L++[.int .i64 v]=qay (L++[v]):=by simp[qay,qat]
 rw[hdrop,qbf,e]at h;simpa[lA,Heap.new,pushF]using h
theorem FitH.rows{n:Nat} {σ:List (Nat × Nat)} {H H':Heap} (nd1:(σ.map (·.1)).Nodup) (nd2:(σ.map (·.2)).Nodup) (nd3:(H'.ents.map (·.1)).Nodup) (lt:∀x,x∈σ->x.2 < H'.n) (idn:∀x,x∈σ->x.1 < n\/x.2 < n->x.1=x.2) (num:n<=H'.n)
  (src:∀e,e∈H'.ents->∃b cs,(b,e.1)∈σ/\H.get b=some (.cells cs)/\e.2=.cells cs/\qa6 cs=true):FitH n σ [] H H' where
 nd1:=by simpa using nd1
 nd2:=nd2
 nd3:=nd3
 lt:=lt
 idn:=fun x hx h=>idn x hx (.inr h)
 num:=num
 src:=fun e he=>by obtain⟨b,cs,h1,h2,h3,h4⟩:=src e he;exact⟨b,_,h1,h2,by rw[h3];exact qau h4⟩
 frz:=fun x h=>by cases h
def hW(L I O:List Int):Heap:=⟨3,[lF 2 L++[(0,.cells (qay I)),(1,.cells (qay O))]]⟩
def hW'(L I O:List Int):Heap:=⟨4,[lF 3 L++[(0,.cells (qay I)),(1,.cells (qay O))]]⟩
def hL(t:Tr) (L I O:List Int):Heap:=⟨5,[[(4,.cells (qay L)),(3,.cells [qb3 t])],[(0,.cells (qay I)),(1,.cells (qay O))]]⟩
theorem qu1{t:Tr} {L I O:List Int} {m a:Nat} {f:List (Nat × Blk)} (ha:getF a f=some (.cells (qay L))) (h3:getF 3 f=some (.cells [qb3 t])) (h0:getF 0 f=none) (h1:getF 1 f=none) (ha4:3 < a) :
  FitH 3 [(a,4),(3,3),(0,0),(1,1)] [] ⟨m,[f,[(0,.cells (qay I)),(1,.cells (qay O))]]⟩ (hL t L I O):=by
 refine .rows (by simp;omega) (by simp) (by simp[hL,Heap.ents]) (by simp[hL]) (by simp;omega) (by simp[hL]) ?_;intro e he;simp[hL,Heap.ents]at he;rcases he with rfl|rfl|rfl|rfl
 ·exact⟨a,_,by simp,by simp[Heap.get,getFs,ha],rfl,qbq _⟩
 ·exact⟨3,_,by simp,by simp[Heap.get,getFs,h3],rfl,by simp[qa6]⟩
 ·exact⟨0,_,by simp,by simp[Heap.get,getFs,h0,getF],rfl,qbq _⟩
 ·exact⟨1,_,by simp,by simp[Heap.get,getFs,h1,getF],rfl,qbq _⟩
theorem fit_out{t:Tr} {L I O:List Int} (hne:L≠[]):FitH 3 [(4,3),(0,0),(1,1)] [] (hL t L I O) (hW' L I O):=by
 refine .rows (by simp) (by simp) (by simp[hW',qoq hne,Heap.ents]) (by simp[hW']) (by simp) (by simp[hW']) ?_;intro e he;simp[hW',qoq hne,Heap.ents]at he;rcases he with rfl|rfl|rfl
 ·exact⟨4,_,by simp,by simp[hL,zG],rfl,qbq _⟩
 ·exact⟨0,_,by simp,by simp[hL,zG],rfl,qbq _⟩
 ·exact⟨1,_,by simp,by simp[hL,zG],rfl,qbq _⟩
theorem call_in{t:Tr} {f:FuncId} {C:Ctx} {n i:Nat} {L I O L' I' O':List Int} {c c':Int} (hne:L≠[]) (hne':L'≠[])
  (h:CallAt C f [qao t,.int .i64 i,lA 2 L,.slc 0 0 n (.ex n),.slc 1 0 n (.ex n),.int .i64 c] (hW L I O) (.tup [lA 3 L',.int .i64 c']) (hW' L' I' O')) :
  CallAt C f [qao t,.int .i64 i,.slc 4 0 L.length (.rest 1),.slc 0 0 n (.ex n),.slc 1 0 n (.ex n),.int .i64 c] (hL t L I O) (.tup [.slc 5 0 L'.length (.rest 1),.int .i64 c'])
   ⟨6,[[(5,.cells (qay L')),(3,.cells [qb3 t])],[(0,.cells (qay I')),(1,.cells (qay O'))]]⟩:=by
 have hf:FitH 0 [(4,2),(0,0),(1,1)] [] (hL t L I O) (hW L I O):=by
  refine .rows (by simp) (by simp) (by simp[hW,qoq hne,Heap.ents]) (by simp[hW]) (by simp) (by simp[hW]) ?_;intro e he;simp[hW,qoq hne,Heap.ents]at he;rcases he with rfl|rfl|rfl
  ·exact⟨4,_,by simp,by simp[hL,zG],rfl,qbq _⟩
  ·exact⟨0,_,by simp,by simp[hL,zG],rfl,qbq _⟩
  ·exact⟨1,_,by simp,by simp[hL,zG],rfl,qbq _⟩
 have:=h.framed (H:=hL t L I O) (H':=⟨6,[[(5,.cells (qay L')),(3,.cells [qb3 t])],[(0,.cells (qay I')),(1,.cells (qay O'))]]⟩) (σ:=[(4,2),(0,0),(1,1)])
  (args:=[qao t,.int .i64 i,.slc 4 0 L.length (.rest 1),.slc 0 0 n (.ex n),.slc 1 0 n (.ex n),.int .i64 c]) hf ?_ ?_ (by simp[hW,hW'])
 ·simpa[lA_ne hne',qlu,qii,qg4,qdt,hL,hW]using this
 ·rw[lA_ne hne];simp[qb8,qas,qaw,qbo,qa2]
 ·refine⟨by simp[hL,hW,hW'],by simp[Heap.ents],?_⟩;intro e he;have hI:qii (qg4 [(4,2),(0,0),(1,1)] 5 3) (qay I')=qay I':=qc2 _ (qbq _);have hO:qii (qg4 [(4,2),(0,0),(1,1)] 5 3) (qay O')=qay O':=qc2 _ (qbq _);have hL':qii (qg4 [(4,2),(0,0),(1,1)] 5 3) (qay L')=qay L':=qc2 _ (qbq _);simp[Heap.ents]at he;rcases he with rfl|rfl|rfl|rfl
  ·exact .inl ⟨(3,.cells (qay L')),by simp[hW',qoq hne',Heap.ents],by simp[hL,hW,qn6,hL'];simp[qg4,qdt]⟩
  ·exact .inr ⟨by simp[hL,Heap.ents],by simp⟩
  ·exact .inl ⟨(0,.cells (qay I')),by simp[hW',qoq hne',Heap.ents],by simp[hL,hW,qn6,hI];simp[qg4,qdt]⟩
  ·exact .inl ⟨(1,.cells (qay O')),by simp[hW',qoq hne',Heap.ents],by simp[hL,hW,qn6,hO];simp[qg4,qdt]⟩
theorem get1{L:List Int} {i:Nat} (h:i < L.length):qcb (qay L) i=some (.int .i64 L[i]):=by simp[qay,qge h,qat]
theorem ixI{b n i:Nat} {cap:Cap} (h:i < n):qaq PG 38 (.slc b 0 n cap) (.int .i64 (i:Int))=some (.ptr b i):=by simp[qaq,qbn h]
theorem qze{n:Nat} {ks:Nat->List Int}:∀(f i:Nat) (w:Wk),w.l≠[]->(vis n ks f i w).l≠[]
 |0,_,w,h=>h
 |f+1,i,w,h=>by
  have hk:∀(r:List Int) (w:Wk),w.l≠[]->(kl n (vis n ks f) r w).l≠[]:=by
   intro r;induction r with
   |nil=>intro w h;exact h
   |cons k r ih=>
    intro w h;unfold kl;split
    ·exact ih _ (qze f _ _ h)
    ·exact ih _ h
  exact hk (ks i) (into i w) (by simp[into])
theorem c127(t:Tr) {K:Nat} (hK:K<=10000) (hkd:∀x,x∈t->x.kids.length<=10000):∀(f i:Nat) (w:Wk),Low t.length K 0 w->i < t.length->w.inn.getD i 0 < 0->qmv w.inn<=f ->
  CA T 127 [qao t,.int .i64 i,lA 2 w.l,.slc 0 0 t.length (.ex t.length),.slc 1 0 t.length (.ex t.length),.int .i64 w.c] (hW w.l w.inn w.out)
   (.tup [lA 3 (vis t.length (qc3 t) f i w).l,.int .i64 (vis t.length (qc3 t) f i w).c]) (hW' (vis t.length (qc3 t) f i w).l (vis t.length (qc3 t) f i w).inn (vis t.length (qc3 t) f i w).out)
 |0,i,w,h,hi,hn,hf=>by have e:=qrf (I:=w.inn) (by rw[h.1.li];exact hi) hn h.1.c0;omega
 |f+1,i,w,h,hi,hn,hf=>by
  obtain⟨g1,g2,g3⟩:=h.1.into hi hn;have hlow:Low t.length K 0 (into i w):=⟨g1,by omega⟩;have hc:=h.1.c0;have hcb:=h.1.cb;have hlb:=h.1.lb;have hli:=h.1.li;have hlo:=h.1.lo;have hkl:(qc3 t i).length<=10000:=by rw[<- qld hi];exact hkd _ (jA hi)
  have happ:=app_l (m:=5) (t:=4) (b:=2) (L:=w.l) (v:=(i:Int)) (g1:=[(3,.cells [qb3 t])]) (g:=[(0,.cells (qay w.inn)),(1,.cells (qay w.out))]) (by omega) (by simp) (by simp);unfold hW;refine qa1 (s0:=⟨[0,1,2,3,4,5,6,12,13,14,15],[qao t,.int .i64 i,lA 2 w.l,.slc 0 0 t.length (.ex t.length),.slc 1 0 t.length (.ex t.length),.int .i64 w.c,uD,uD,uD,uD,uD],[],79,⟨3,[]::[lF 2 w.l++[(0,.cells (qay w.inn)),(1,.cells (qay w.out))]]⟩⟩) Tryz.func127 rfl rfl rfl ?_;apply qR;simp[zS,qao];apply qR;simp[zS,happ];have hst:=lay1 (L:=w.inn) (i:=i) (v:=w.c) (by omega);apply qR;simp[zS,ixI hi,hst];apply qR;simp[zS,qbi (show -1000000000000<=w.c+1 by omega) (show w.c+1<=1000000000000 by omega)];apply qR;simp[zS];obtain⟨w2,hw2⟩ : ∃w2,w2=kl t.length (vis t.length (qc3 t) f) (qc3 t i) (into i w):=⟨_,rfl⟩;have hvis:vis t.length (qc3 t) (f+1) i w=qoe i w2:=by rw[hw2];rfl
  rw[hvis];have hb0:0<=(0:Int):=Int.le_refl 0;refine qa3 (qb6 (fun x:Nat × Wk=>(⟨[0,1,2,3,4,5,6,12,13,14,15],[qao t,.int .i64 i,.slc 4 0 x.2.l.length (.rest 1),.slc 0 0 t.length (.ex t.length),.slc 1 0 t.length (.ex t.length),.int .i64 x.2.c,.ptr 3 0,uD,uD,.int .i64 x.1,uD],[],79,hL t x.2.l x.2.inn x.2.out⟩ : St))
   (fun x=>x.1<=(qc3 t i).length/\x.2.l≠[]/\Low t.length K 1 x.2/\qmv x.2.inn<=f/\kl t.length (vis t.length (qc3 t) f) ((qc3 t i).drop x.1) x.2=w2) (fun x=>(qc3 t i).length - x.1) [(5,4),(3,3),(0,0),(1,1)] [] (0,into i w)
   ⟨jx _,by simp[into],⟨g1,g3⟩,by show qmv (into i w).inn<=f;omega,hw2.symm⟩
   ⟨rfl,rfl,rfl,by simp[qb8,qas,qaw,qa2,into,qao,qa6],qu1 (t:=t) (L:=w.l++[(i:Int)]) (I:=w.inn.set i w.c) (O:=w.out) (m:=6) (a:=5) (f:=[(5,.cells (qay (w.l++[(i:Int)]))),(4,.cells [.int .i64 i]),(3,.cells [qb3 t])]) rfl rfl rfl rfl (by omega)⟩ ?_)
  rintro⟨j,x⟩ ⟨hj,hne,hx,hfx,hk⟩ B hB;simp only at hj hne hx hfx hk;have xli:=hx.1.li;have xlo:=hx.1.lo;have xc0:=hx.1.c0;have xcb:=hx.2;have hget:∀m,(hm:m < t.length)->x.inn[m]'(by omega)=x.inn.getD m 0:=fun m hm=>by rw[List.getD_eq_getElem?_getD,List.getElem?_eq_getElem (by omega),yg]
  apply qR;simp[zS,hL,atN hi,qgi,qld hi,Nd.cs];refine qbe rfl (fun h=>?_) fun h=>?_
  ·simp at h;apply qa5;simp;repeat apply wq
   apply qa3;obtain⟨k,hkj⟩ : ∃k,k=(qc3 t i)[j]:=⟨_,rfl⟩;have hdrop:(qc3 t i).drop j=k::(qc3 t i).drop (j+1):=(by rw[List.drop_eq_getElem_cons h,hkj]);rw[hdrop]at hk;unfold kl at hk;apply qR;simp[zS,hL,atN hi,qld hi,Nd.cs,atI h,<- hkj];by_cases h0:0<=k
   ·obtain⟨m,rfl⟩:=jy h0;by_cases h1:m < t.length
    ·have hgm:=hget m h1;by_cases h2:x.inn.getD m 0 < 0
     ·rw[jo ⟨h0,by omega,h2⟩]at hk;have h2':x.inn[m]'(by omega) < 0:=(by rw[hgm];exact h2);apply qR;simp[zS,hL,h1,qlv,ixI h1,get1 (show m < x.inn.length by omega),h2'];apply qag rfl;have hx0:Low t.length K 0 x:=⟨hx.1,by have:=hx.2;omega⟩;have ih:=c127 t hK hkd f m x hx0 h1 h2 hfx;obtain⟨q1,q2⟩:=qw0 (ks:=qc3 t) f 1 m x (by omega) hx h1 h2 hfx;have hkm:(Int.toNat (m:Int))=m:=(by simp);rw[hkm]at hk;have hny:=qze (n:=t.length) (ks:=qc3 t) f m x hne;obtain⟨y,hy⟩ : ∃y,y=vis t.length (qc3 t) f m x:=⟨_,rfl⟩;rw[<- hy]at ih q1 q2 hk hny;have hcall:=call_in hne hny ih;refine qb0 (qci [⟨127,_,_,_,_,hcall⟩]) ?_;simp[zS,qdz,hL,qao];apply qR;simp[zS,qbb (show j<=1000000000 by omega)];exact hB _ (j+1,y) (by simp;omega) ⟨by simp;omega,hny,q1,by simp only;omega,hk⟩ ⟨[(5,4),(3,3),(0,0),(1,1)],[],rfl,rfl,rfl,by simp[qb8,qas,qaw,qa2,qao,qa6],qu1 (t:=t) (L:=y.l) (I:=y.inn) (O:=y.out) (m:=6) (a:=5) (f:=[(5,.cells (qay y.l)),(3,.cells [qb3 t])]) rfl rfl rfl rfl (by omega)⟩
     ·rw[jm (fun hx=>h2 hx.2.2)]at hk;have h2':¬ x.inn[m]'(by omega) < 0:=(by rw[hgm];exact h2);apply qR;simp[zS,hL,h1,qlv,ixI h1,get1 (show m < x.inn.length by omega),h2'];apply qaj rfl;apply qa5;simp;apply qR;simp[zS,qbb (show j<=1000000000 by omega)];exact hB _ (j+1,x) (by simp;omega) ⟨by simp;omega,hne,hx,hfx,hk⟩ ⟨[(4,4),(3,3),(0,0),(1,1)],[],rfl,rfl,rfl,by simp[qb8,qas,qaw,qa2,qao,qa6],qu1 (t:=t) (L:=x.l) (I:=x.inn) (O:=x.out) (m:=5) (a:=4) (f:=[(4,.cells (qay x.l)),(3,.cells [qb3 t])]) rfl rfl rfl rfl (by omega)⟩
    ·rw[jm (fun hx=>h1 (by omega))]at hk;apply qR;simp[zS,hL,h1,qlv];apply qaj rfl;apply qa5;simp;apply qR;simp[zS,qbb (show j<=1000000000 by omega)];exact hB _ (j+1,x) (by simp;omega) ⟨by simp;omega,hne,hx,hfx,hk⟩ ⟨[(4,4),(3,3),(0,0),(1,1)],[],rfl,rfl,rfl,by simp[qb8,qas,qaw,qa2,qao,qa6],qu1 (t:=t) (L:=x.l) (I:=x.inn) (O:=x.out) (m:=5) (a:=4) (f:=[(4,.cells (qay x.l)),(3,.cells [qb3 t])]) rfl rfl rfl rfl (by omega)⟩
   ·rw[jm (fun hx=>h0 hx.1)]at hk;apply qR;simp[zS,hL,h0];apply qaj rfl;apply qa5;simp;apply qR;simp[zS,qbb (show j<=1000000000 by omega)];exact hB _ (j+1,x) (by simp;omega) ⟨by simp;omega,hne,hx,hfx,hk⟩ ⟨[(4,4),(3,3),(0,0),(1,1)],[],rfl,rfl,rfl,by simp[qb8,qas,qaw,qa2,qao,qa6],qu1 (t:=t) (L:=x.l) (I:=x.inn) (O:=x.out) (m:=5) (a:=4) (f:=[(4,.cells (qay x.l)),(3,.cells [qb3 t])]) rfl rfl rfl rfl (by omega)⟩
  ·simp at h;apply qak;simp;have hjl:j=(qc3 t i).length:=(by omega);rw[hjl,List.drop_length]at hk;have hk2:x=w2:=hk;subst hk2;have hst:=lay1 (L:=x.out) (i:=i) (v:=x.c) (by omega);apply qR;simp[zS,hL,ixI hi,hst];apply qR;simp[zS,qbi (show -1000000000000<=x.c+1 by omega) (show x.c+1<=1000000000000 by omega)];apply qa7;simp[zQ,Tryz.f127];refine⟨[(4,3),(0,0),(1,1)],[],?_,fit_out (t:=t) (L:=x.l) (I:=x.inn) (O:=x.out.set i x.c) hne⟩;simp[qoe,lA_ne hne,qas,qb8,qaw,qa2]
theorem qt7:∀(n:Nat),replL [.int .i64 0] n=qay (List.replicate n 0)
 |0=>rfl
 |n+1=>by simp only[replL,qt7 n,yS,qay,List.map_cons];rfl
theorem msInt{n:Nat} (h:n<=1000000):msB PG 38 (.int .i64 (n:Int)) (.int .i64 (n:Int))=some (fun b=>.slc b 0 n (.ex n),.cells (qay (List.replicate n 0))):=by
 have h1:idx (n:Int) 17592186044416=some n:=qbn (by omega);have h2:idx (n:Int) (Nat.succ n)=some n:=qbn (by omega);have h3:qdg n 8=true:=by simp[qdg];omega
 have hz:qby PG 3=some (.int .i64 0):=qjw;have hs:qcj PG 3=some 1:=qhz;have hb:qch PG 3=some 8:=qk2;simp only[msB,Tryz.underlying38,jc,hs,hb,h1,h2,h3,hz];simp[AV.cells,qt7]
theorem qxg{σ:List (Nat × Nat)} {Φ:List (Nat × List AV)} {b n:Nat} {cap:Cap} {L:List Int} (h:qcp b Φ=some (qay L)) (hn:n=L.length):qas σ Φ (.slc b 0 n cap) (qa8 L):=by subst hn;simp only[qa8,qas];refine .inl ⟨qay L,h,?_,by simp,(qca L).size⟩;have:=qnz (qca L) (k:=L.length) (by simp);rw[qbf,ju (by simp)]at this;exact this
theorem vis_ne1{n:Nat} {ks:Nat->List Int} (f i:Nat) (w:Wk):(vis n ks (f+1) i w).l≠[]:=by
 have hk:∀(r:List Int) (w:Wk),w.l≠[]->(kl n (vis n ks f) r w).l≠[]:=by
  intro r;induction r with
  |nil=>intro w h;exact h
  |cons k r ih=>
   intro w h;unfold kl;split
   ·exact ih _ (qze f _ _ h)
   ·exact ih _ h
 exact hk (ks i) (into i w) (by simp[into])
def hA(t:Tr) (I O:List Int):Heap:=⟨3,[[(2,.cells (qay O)),(1,.cells (qay I)),(0,.cells [qb3 t])]]⟩
theorem fit_A{t:Tr} {I O:List Int} {m a b:Nat} {f:List (Nat × Blk)} (ha:getF a f=some (.cells (qay O))) (hb:getF b f=some (.cells (qay I))) (h0:getF 0 f=some (.cells [qb3 t])) (hab:a≠b) (ha0:a≠0) (hb0:b≠0) :
  FitH 0 [(a,2),(b,1),(0,0)] [] ⟨m,[f]⟩ (hA t I O):=by
 refine .rows (by simp[hab,ha0,hb0]) (by simp) (by simp[hA,Heap.ents]) (by simp[hA]) (by simp) (by simp[hA]) ?_;intro e he;simp[hA,Heap.ents]at he;rcases he with rfl|rfl|rfl
 ·exact⟨a,_,by simp,by simp[Heap.get,getFs,ha],rfl,qbq _⟩
 ·exact⟨b,_,by simp,by simp[Heap.get,getFs,hb],rfl,qbq _⟩
 ·exact⟨0,_,by simp,by simp[Heap.get,getFs,h0],rfl,by simp[qa6]⟩
theorem call_all{t:Tr} {f:FuncId} {C:Ctx} {n:Nat} {I O L' I' O':List Int} {c c':Int} (hne':L'≠[])
  (h:CallAt C f [qao t,.int .i64 0,lA 2 [],.slc 0 0 n (.ex n),.slc 1 0 n (.ex n),.int .i64 c] (hW [] I O) (.tup [lA 3 L',.int .i64 c']) (hW' L' I' O')) :
  CallAt C f [qao t,.int .i64 0,.nilS,.slc 1 0 n (.ex n),.slc 2 0 n (.ex n),.int .i64 c] (hA t I O) (.tup [.slc 3 0 L'.length (.rest 1),.int .i64 c'])
   ⟨4,[[(3,.cells (qay L')),(2,.cells (qay O')),(1,.cells (qay I')),(0,.cells [qb3 t])]]⟩:=by
 have hf:FitH 0 [(1,0),(2,1)] [] (hA t I O) (hW [] I O):=by
  refine .rows (by simp) (by simp) (by simp[hW,lF,qcg,Heap.ents]) (by simp[hW]) (by simp) (by simp[hW]) ?_;intro e he;simp[hW,lF,qcg,Heap.ents]at he;rcases he with rfl|rfl
  ·exact⟨1,_,by simp,by simp[hA,zG],rfl,qbq _⟩
  ·exact⟨2,_,by simp,by simp[hA,zG],rfl,qbq _⟩
 have:=h.framed (H:=hA t I O) (H':=⟨4,[[(3,.cells (qay L')),(2,.cells (qay O')),(1,.cells (qay I')),(0,.cells [qb3 t])]]⟩) (σ:=[(1,0),(2,1)])
  (args:=[qao t,.int .i64 0,.nilS,.slc 1 0 n (.ex n),.slc 2 0 n (.ex n),.int .i64 c]) hf ?_ ?_ (by simp[hW,hW'])
 ·simpa[lA_ne hne',qlu,qii,qg4,qdt,hA,hW]using this
 ·simp[lA,qce,qb8,qas,qaw,qbo,qa2]
 ·refine⟨by simp[hA,hW,hW'],by simp[Heap.ents],?_⟩;intro e he;have hI:qii (qg4 [(1,0),(2,1)] 3 3) (qay I')=qay I':=qc2 _ (qbq _);have hO:qii (qg4 [(1,0),(2,1)] 3 3) (qay O')=qay O':=qc2 _ (qbq _);have hL':qii (qg4 [(1,0),(2,1)] 3 3) (qay L')=qay L':=qc2 _ (qbq _);simp[Heap.ents]at he;rcases he with rfl|rfl|rfl|rfl
  ·exact .inl ⟨(3,.cells (qay L')),by simp[hW',qoq hne',Heap.ents],by simp[hA,hW,qn6,hL'];simp[qg4,qdt]⟩
  ·exact .inl ⟨(1,.cells (qay O')),by simp[hW',qoq hne',Heap.ents],by simp[hA,hW,qn6,hO];simp[qg4,qdt]⟩
  ·exact .inl ⟨(0,.cells (qay I')),by simp[hW',qoq hne',Heap.ents],by simp[hA,hW,qn6,hI];simp[qg4,qdt]⟩
  ·exact .inr ⟨by simp[hA,Heap.ents],by simp⟩
def finW(n:Nat) (ks:Nat->List Int):Wk:=if n=0 then w0 0 else vis n ks n 0 (w0 n)
@[simp]theorem ok_aTree(t:Tr):okV (qao t)=true:=by simp[qao,qb3,okV,qa2,qa6]
theorem injT(x y:Tr) (h:[qao x]=[qao y]):x=y:=by simp at h;exact qem h
theorem qi0{q:Nat} (h:q<=1000000000):wr .i64 (((q+1:Nat):Int) - 1)=some (q:Int):=by rw[qbi (by omega) (by omega)];simp
theorem zb2{n:Nat} {g:Nat->Wk->Wk} {P:Wk->Prop} (hg:∀i w,i < n->w.inn.getD i 0 < 0->P w->P (g i w)):∀(ks:List Int) (w:Wk),P w->P (kl n g ks w)
 |[],w,h=>h
 |k::r,w,h=>by
  unfold kl;split
  next hk=>exact zb2 hg r _ (hg k.toNat w (by omega) hk.2.2 h)
  ·exact zb2 hg r w h
theorem qzf{n:Nat} {ks:Nat->List Int} {P:Wk->Prop} (hin:∀i w,i < n->w.inn.getD i 0 < 0->P w->P (into i w)) (hout:∀i w,P w->P (qoe i w)):∀(f i:Nat) (w:Wk),i < n->w.inn.getD i 0 < 0->P w->P (vis n ks f i w)
 |0,i,w,_,_,h=>h
 |f+1,i,w,hi,hn,h=>by unfold vis;exact hout _ _ (zb2 (fun i w hi hn h=>qzf hin hout f i w hi hn h) _ _ (hin i w hi hn h))
structure LOK (n:Nat) (w:Wk):Prop where
 li:w.inn.length=n
 c0:0<=w.c
 rng:∀x,x∈w.l->0<=x/\x < (n:Int)/\0<=w.inn.getD x.toNat (-1)
 nd:w.l.Nodup
theorem LOK.into{n i:Nat} {w:Wk} (h:LOK n w) (hi:i < n) (hn:w.inn.getD i 0 < 0):LOK n (into i w) where
 li:=by simp[Go.Proofs.YtnfdakclfmchfaaGreat.into,h.li]
 c0:=by have:=h.c0;simp only[Go.Proofs.YtnfdakclfmchfaaGreat.into];omega
 rng:=fun x hx=>by
  have hl:=h.li;have hc:=h.c0;simp only[Go.Proofs.YtnfdakclfmchfaaGreat.into,je,j2]at hx ⊢;have hset:∀j,j < n->(w.inn.set i w.c).getD j (-1)=if i=j then w.c else w.inn.getD j (-1):=fun j hj=>by simp only[List.getD_eq_getElem?_getD,List.getElem?_set];split<;>simp_all
  rcases hx with hx|rfl
  ·obtain⟨h1,h2,h3⟩:=h.rng x hx;refine⟨h1,h2,?_⟩;rw[hset _ (by omega)];split<;>omega
  ·refine⟨by omega,by omega,?_⟩;rw[hset _ (by omega)];simp[hc]
 nd:=by simp only[Go.Proofs.YtnfdakclfmchfaaGreat.into];refine j4.2 ⟨h.nd,by simp,?_⟩;intro a ha b hb;simp at hb;subst hb;rintro rfl;have h3:=(h.rng _ ha).2.2;have hl:=h.li;simp only[List.getD_eq_getElem?_getD,jr]at h3 hn;rw[List.getElem?_eq_getElem (by omega)]at h3 hn;simp at h3 hn;omega
theorem LOK.out{n i:Nat} {w:Wk} (h:LOK n w):LOK n (qoe i w):=⟨h.li,by have:=h.c0;simp only[qoe];omega,h.rng,h.nd⟩
theorem zam{n:Nat} {ks:Nat->List Int} (hn:0 < n):LOK n (vis n ks n 0 (w0 n)):=
 qzf (fun i w hi h1 h2=>h2.into hi h1) (fun i w h=>h.out) n 0 (w0 n) hn (by simp[w0,List.getD_eq_getElem?_getD,hn]) ⟨by simp[w0],by simp[w0],by simp[w0],by simp[w0]⟩
theorem zal{n:Nat} {ks:Nat->List Int} {x:Int} (h:x∈qdn n ks):0<=x/\x < (n:Int):=by
 unfold qdn at h;split at h
 ·simp at h
 ·obtain⟨h1,h2,_⟩:=(zam (n:=n) (by omega)).rng x h;exact⟨h1,h2⟩
theorem zan{n:Nat} {ks:Nat->List Int}:(qdn n ks).length<=n:=by
 unfold qdn;split
 ·simp
 ·rename_i hz;have hr:qmv (w0 n).inn<=n:=by simp[w0,qrg]
  have:=(qw0 (n:=n) (ks:=ks) n 0 0 (w0 n) (by omega) (w0_ok _) (by omega) (by simp[w0,List.getD_eq_getElem?_getD,Nat.pos_of_ne_zero hz]) hr).1.1.lb;omega
theorem FitH.own1{k b m':Nat} {τ:List (Nat × Nat)} {es:List AV} {sz:Nat} {H:Heap} {g:List (Nat × Blk)} (he:Elems sz es) (hb:es≠[]->H.get b=some (.cells (qaa es)))
  (n1:(((b,k)::τ).map (·.1)).Nodup) (n2:(((b,k)::τ).map (·.2)).Nodup) (n3:(k::g.map (·.1)).Nodup) (lt:∀x,x∈(b,k)::τ->x.2 < m')
  (src:∀e,e∈g->∃b cs,(b,e.1)∈τ/\H.get b=some (.cells cs)/\e.2=.cells cs/\qa6 cs=true):FitH 0 ((b,k)::τ) [] H ⟨m',[qcg k es++g]⟩:=by
 refine .rows n1 n2 ?_ lt (by simp) (jx _) ?_
 ·cases es with
  |nil=>rw[jp]at n3;simpa[qcg,Heap.ents]using n3.2
  |cons x r=>simpa[qcg,Heap.ents]using n3
 ·intro e h;cases hes:es with
  |nil=>rw[hes]at h;simp[qcg,Heap.ents]at h;obtain⟨b',cs,h1,h2⟩:=src e h;exact⟨b',cs,ji _ h1,h2⟩
  |cons x r=>
   rw[hes]at h;simp only[qcg,Heap.ents,jq,j7,jh,List.cons_append,jv,jd]at h;rcases h with rfl|h
   ·exact⟨b,_,j8,by rw[hb (by simp[hes]),hes],rfl,by rw[<- hes];exact he.pure⟩
   ·obtain⟨b',cs,h1,h2⟩:=src e h;exact⟨b',cs,ji _ h1,h2⟩
def nd0:Nd:=⟨0,0,[],[],[],0,[]⟩
def qa0(t:Tr) (i:Int):Nd:=t.getD i.toNat nd0
theorem qga{t:Tr} {i:Nat} (h:i < t.length):qa0 t (i:Int)=t[i]:=by simp[qa0,List.getD_eq_getElem?_getD,List.getElem?_eq_getElem h]
theorem qdo{t:Tr} {i:Int} (h0:0<=i) (h:i < (t.length:Int)):qa0 t i∈t:=by obtain⟨j,rfl⟩ : ∃j:Nat,i=j:=⟨i.toNat,by omega⟩;rw[qga (by omega)];exact jA _
theorem atX{t:Tr} {i:Int} (h0:0<=i) (h:i < (t.length:Int)):qaq PG 35 (qb3 t) (.int .i64 i)=some (.fptr (qa0 t i).cs 0):=by obtain⟨j,rfl⟩ : ∃j:Nat,i=j:=⟨i.toNat,by omega⟩;rw[atN (by omega),qga (by omega)]
@[simp]theorem sub_cs(n:Nd):qfe 0 7 n.cs=some n.cs:=rfl
theorem qnm{L:List Int} {v:Int}:qay (L++[v])=qay L++[.int .i64 v]:=by simp[qay,qat]
theorem atIx{L:List Int} {i:Nat} (h:i < L.length):qaq PG 38 (qa8 L) (.int .i64 (i:Int))=some (.fptr [.int .i64 L[i]] 0):=atI h
def qs8(a:At1):Bool:=decide (a.1.length<=40/\a.2.length<=150)
def qjc(L:List At1):Bool:=decide (L.length<=14) && L.all qs8
theorem c34(L:List At1):CA T 34 [qae L] zH (.bool (qjc L)) zH:=by
 refine qa1 (s0:=⟨[0,2,4,8,9,10],[qae L,uD,uD,uD,uD,uD],[],25,⟨0,[[]]⟩⟩) Tryz.func34 rfl rfl rfl ?_;apply qR;simp[zS];by_cases hl:14 < L.length
 ·have hl':(14:Int) < (L.length:Int):=by omega
  apply qR;simp[zS,qiq,hl'];apply qag rfl;apply qR;simp[zS];apply qa7;simp[zQ,Tryz.f34];exact qai rfl (by simp[qjc];omega)
 ·have hl':¬ (14:Int) < (L.length:Int):=by omega
  apply qR;simp[zS,qiq,hl'];apply qaj rfl;apply qa5;simp;apply qR;simp[zS,qiq];refine qa3 (qb6 (fun i:Nat=>(⟨[0,2,4,8,9,10],[qae L,uD,uD,qae L,.int .i64 (L.length:Nat),.int .i64 i],[],25,⟨0,[[]]⟩⟩ : St))
   (fun i=>i<=L.length/\L.all qs8=(L.drop i).all qs8) (fun i=>L.length - i) [] [] 0 ⟨jx _,by simp⟩ ⟨rfl,rfl,rfl,by simp[qb8,qas,qa2,qa6,qae],FitH.nothing⟩ ?_)
  rintro i ⟨hi,he⟩ B hB;apply qR;simp[zS];repeat apply wq
  refine qbe rfl (fun h=>?_) fun h=>?_
  ·simp at h;rw[List.drop_eq_getElem_cons h,List.all_cons]at he;apply qa5;simp;repeat apply wq
   apply qa3;apply qR;simp[zS,atA h,rdA1];by_cases h1:40 < L[i].1.length
   ·have h1':(40:Int) < (L[i].1.length:Int):=(by omega);have hf:qs8 L[i]=false:=(by simp[qs8];omega);apply qR;simp[zS,h1'];apply qag rfl;apply qR;simp[zS];apply qa7;simp[zQ,Tryz.f34];exact qai rfl (by simp only[qjc,he,hf];simp)
   ·have h1':¬ (40:Int) < (L[i].1.length:Int):=(by omega);by_cases h2:150 < L[i].2.length
    ·have h2':(150:Int) < (L[i].2.length:Int):=(by omega);have hf:qs8 L[i]=false:=(by simp[qs8];omega);apply qR;simp[zS,h1',h2'];apply qag rfl;apply qR;simp[zS];apply qa7;simp[zQ,Tryz.f34];exact qai rfl (by simp only[qjc,he,hf];simp)
    ·have h2':¬ (150:Int) < (L[i].2.length:Int):=(by omega);have hf:qs8 L[i]=true:=(by simp[qs8];omega);apply qR;simp[zS,h1',h2'];apply qaj rfl;apply qa5;simp;apply qR;simp[zS,qbb (show i<=1000000000 by omega)];refine hB _ (i+1) (by omega) ⟨by omega,by rw[he,hf,yT]⟩ ⟨[],[],⟨rfl,rfl,rfl,by simp[qb8,qas,qa2,qa6,qae],FitH.nothing⟩⟩
  ·simp at h;rw[ya h]at he;apply qak;simp;apply qR;simp[zS];apply qa7;simp[zQ,Tryz.f34];exact qai rfl (by simp only[qjc,he];simp;omega)
def e34:Entry PG:=mkE 34 [[2]] (fun x:List At1=>[qae x]) (fun _=>True) (fun x=>.bool (qjc x)) fun x _=>c34 (T:=[]) x
theorem injAs(x y:List At1) (h:[qae x]=[qae y]):x=y:=by simp only[jl]at h;exact qdp h.1
theorem k34(hT:qIn 34 T e34) (L:List At1) (H:Heap):qb5 (ctx T) (.fn 34) [qae L] H=some (.bool (qjc L),H):=
 qb9 hT injAs L trivial rfl (by simp[qzj])
@[simp]theorem len_cs(n:Nd):n.cs.length=7:=rfl
@[simp]theorem sng_cs(n:Nd):allSingle n.cs=true:=rfl
@[simp]theorem lay_cs(n:Nd) (a b c d e f g:AV):qin n.cs [a,b,c,d,e,f,g]=some n.cs:=rfl
@[simp 5000]theorem ready_cs(H:Heap) (b:Nat) (n:Nd):H.ready b n.cs=H:=rfl
theorem qrp(x y:Tr × Int) (h:[qao x.1,.int .i64 x.2]=[qao y.1,.int .i64 y.2]):x=y:=by simp at h;exact yv (qem h.1) h.2
theorem FitH.id1{m':Nat} {H:Heap} {g:List (Nat × Blk)} (nd:(g.map (·.1)).Nodup) (lt:∀e,e∈g->e.1 < m') (src:∀e,e∈g->∃cs,H.get e.1=some (.cells cs)/\e.2=.cells cs/\qa6 cs=true):FitH 0 (g.map fun e=>(e.1,e.1)) [] H ⟨m',[g]⟩:=by
 refine .rows (by simpa[yL]using nd) (by simpa[yL]using nd) (by simpa[Heap.ents]using nd) ?_ (by simp) (jx _) ?_
 ·intro x hx;obtain⟨e,he,rfl⟩:=jw.1 hx;exact lt e he
 ·intro e he;have he:e∈g:=by simpa[Heap.ents]using he
  obtain⟨cs,h1,h2,h3⟩:=src e he;exact⟨e.1,cs,jw.2 ⟨e,he,rfl⟩,h1,h2,h3⟩
section
variable (n:Nd)
@[simp]theorem gcs0:qcb n.cs 0=some (.int .i64 n.kind):=rfl
@[simp]theorem gcs1:qcb n.cs 1=some (.int .i64 n.space):=rfl
@[simp]theorem gcs2:qcb n.cs 2=some (.str n.name):=rfl
@[simp]theorem gcs3:qcb n.cs 3=some (qae n.attrs):=rfl
@[simp]theorem gcs4:qcb n.cs 4=some (.str n.data):=rfl
@[simp]theorem gcs5:qcb n.cs 5=some (.int .i64 n.up):=rfl
@[simp]theorem gcs6:qcb n.cs 6=some (qa8 n.kids):=rfl
@[simp]theorem pure_cs:qa6 n.cs=true:=by simp[Nd.cs,qa6,qat,qa2]
end
theorem qo1{α:Type} {n:Nat} {t e:TypeId} {enc:α->AV} {ag:Bool} (hu:PG.underlying t=some (.slice e)) (hag:qh4 PG e=some ag) (h:∀cs x,qda PG n e cs->qhy ag cs=some x->∃a,x=enc a) {qs:List AV} (hs:qda PG (n+1) t qs) :
  ∃L:List α,qs=[.fslc (PG.cellsOf e) (L.map enc)]:=by
 unfold qda at hs;simp only[hu]at hs;obtain⟨es,rfl,_,hes⟩:=hs;have key:∀l:List AV,(∀x,x∈l->∃ag cs,qh4 PG e=some ag/\qhy ag cs=some x/\qda PG n e cs)->∃L:List α,l=L.map enc:=by
  intro l;induction l with
  |nil=>intro _;exact⟨[],rfl⟩
  |cons x r ih=>intro hx;obtain⟨ag',cs,h1,h2,h3⟩:=hx x (by simp);rw[hag,sj]at h1;subst h1;obtain⟨a,ha⟩:=h cs x h3 h2;obtain⟨L,hL⟩:=ih fun y hy=>hx y (by simp[hy]);exact⟨a::L,by rw[ha,hL];rfl⟩
 obtain⟨L,rfl⟩:=key es hes;exact⟨L,rfl⟩
theorem qo0{n:Nat} {qs:List AV} (h:qda PG (n+1) 9 qs):∃s:Str,qs=[.str s]:=by unfold qda at h;simp only[Tryz.underlying9]at h;obtain⟨s,rfl,_⟩:=h;exact⟨s,rfl⟩
theorem qo3{n:Nat} {qs:List AV} (h:qda PG (n+1) 3 qs):∃i:Int,qs=[qat i]:=by unfold qda at h;simp only[Tryz.underlying3]at h;obtain⟨s,rfl,_⟩:=h;exact⟨s,rfl⟩
theorem qvo:PG.cellsOf 105=2:=by kernel_rfl
theorem qy2{n:Nat} {qs:List AV} (h:qda PG (n+2) 105 qs):∃a:At1,AV.agg qs=qct a:=by
 unfold qda at h;simp only[Tryz.underlying105]at h;cases h with
 |cons f r x y h1 h2=>
  cases h2 with
  |cons f2 r2 x2 y2 h3 h4=>cases h4;obtain⟨s1,rfl⟩:=qo0 h1;obtain⟨s2,rfl⟩:=qo0 h3;exact⟨(s1,s2),rfl⟩
theorem quz{n:Nat} {qs:List AV} (h:qda PG (n+3) 27 qs):∃L:List At1,qs=[qae L]:=by obtain⟨L,rfl⟩:=qo1 (enc:=qct) (ag:=true) Tryz.underlying27 agT105 (fun cs x h hw=>by simp only[qhy,sj]at hw;obtain⟨a,ha⟩:=qy2 h;exact⟨a,by rw[<- hw,ha]⟩) h;exact⟨L,by rw[qvo];rfl⟩
section
variable {H:Type} {enc:TypeId × Value->H} {W:World} {hg:GlobsIn W}
theorem vr_str(s:ByteArray):VR (start W hg) (.str s.data.toList) (.string s):=by
 have:=VR.str (ρ:=start W hg) s.data.toList
 rwa [Je]at this
theorem c213(L:List Str) (x:Str) (hl:L.length<=2000000):CA T 213 [qe1 L,.str x] zH (.int .i64 (qb7 (fun y=>decide (x=y)) L 0)) zH:=by
 refine qa1 (s0:=⟨[0,1,4,5,7,8],[qe1 L,.str x,uD,uD,uD,uD],[],19,⟨0,[[]]⟩⟩) Tryz.func213 rfl rfl rfl ?_;apply qR;simp[zS];apply qR;simp[zS,lenS];refine qa3 (qb6 (fun i:Nat=>(⟨[0,1,4,5,7,8],[qe1 L,.str x,uD,uD,.int .i64 (L.length:Nat),.int .i64 i],[],19,⟨0,[[]]⟩⟩ : St))
  (fun i=>i<=L.length/\qb7 (fun y=>decide (x=y)) L 0=qb7 (fun y=>decide (x=y)) (L.drop i) i) (fun i=>L.length - i) [] [] 0 ⟨jx _,rfl⟩ ⟨rfl,rfl,rfl,by simp[qb8,qas,qa2,qa6,qe1],FitH.nothing⟩ ?_)
 rintro i ⟨hi,hx⟩ B hB;apply qR;simp[zS];repeat apply wq
 refine qbe rfl (fun h=>?_) fun h=>?_
 ·simp at h;rw[qfs h]at hx;apply qa5;simp;repeat apply wq
  apply qa3;apply qR;simp[zS];by_cases h2:L[i]=x
  ·apply qR;simp[zS,atS h,h2];apply qag rfl;apply qR;simp[zS];apply qa7;simp[zQ,Tryz.f213];exact qai rfl (by rw[hx,jo (by simp[h2])])
  ·have h2':¬ x=L[i]:=fun e=>h2 e.symm;apply qR;simp[zS,atS h,h2'];apply qaj rfl;apply qa5;simp;apply qR;simp[zS,qbb (show i<=1000000000 by omega)];exact hB _ (i+1) (by omega) ⟨by omega,by rw[hx,jm (by simp[h2'])]⟩ ⟨[],[],⟨rfl,rfl,rfl,by simp[qb8,qas,qa2,qa6,qe1],FitH.nothing⟩⟩
 ·simp at h;apply qak;simp;apply qR;simp[zS];apply qa7;simp[zQ,Tryz.f213];exact qai rfl (by rw[hx,ya h];rfl)
def e213:Entry PG:=mkE 213 [[1],[]] (fun x:List Str × Str=>[qe1 x.1,.str x.2]) (fun x=>x.1.length<=2000000) (fun x=>.int .i64 (qb7 (fun y=>decide (x.2=y)) x.1 0)) fun x hx=>c213 (T:=[]) x.1 x.2 hx
theorem injSS(x y:List Str × Str) (h:[qe1 x.1,.str x.2]=[qe1 y.1,.str y.2]):x=y:=by simp at h;exact yv (qx1 (by simpa[qe1]using h.1)) h.2
theorem k213(hT:qIn 213 T e213) {L:List Str} (x:Str) (hl:L.length<=2000000) (H:Heap):qb5 (ctx T) (.fn 213) [qe1 L,.str x] H=some (.int .i64 (qb7 (fun y=>decide (x=y)) L 0),H):=
 qb9 hT injSS (L,x) hl rfl (by simp[qe1])
theorem zbl{x:Str}:∀(L:List Str) (k:Nat),(0<=qb7 (fun y=>decide (x=y)) L k)↔x∈L
 |[],k=>by simp[qb7]
 |y::r,k=>by
  unfold qb7;by_cases h:x=y
  ·simp[h]
  ·simp only[h,yr,jz,jM,jd,false_or];exact zbl r (k+1)
theorem c192(hI:qIn 213 T e213) (L:List Str) (x:Str) (hl:L.length<=2000000):CA T 192 [qe1 L,.str x] zH (.bool (decide (x∈L))) zH:=by
 have hk:=fun H=>k213 hI x hl H;have hm:=zbl (x:=x) L 0;generalize qb7 (fun y=>decide (x=y)) L 0=v at *;simp only[qe1]at hk;refine qa1 (s0:=⟨[0,1,4],[qe1 L,.str x,uD],[],9,⟨0,[[]]⟩⟩) Tryz.func192 rfl rfl rfl ?_
 (repeat (first
  |(apply qad)
  |(apply qa3)
  |(apply qdf;simp only[qab,qa4])
  |((refine qb0 qaz ?_);simp[zS,qe1,hk])
  |apply qag rfl
  |apply qaj rfl
  |((apply qa5);simp only[qab,qa4])
  |((apply qak);simp)))
 apply qa7;simp[zQ,Tryz.f192];exact qai rfl (by simp[hm])
theorem c152(hI:qIn 71 T e71) (space:Int) (name W:Str) (hW:W.length<=900000):CA T 152 [.int .i64 space,.str name,.str W] zH (.bool (decide (space=0) && inW W name)) zH:=by
 have hk:=fun H=>k71 hI name hW H;by_cases hs:space=0
 ·refine qa1 (s0:=⟨[0,1,2,6],[.int .i64 space,.str name,.str W,uD],[],14,⟨0,[[]]⟩⟩) Tryz.func152 rfl rfl rfl ?_
  (repeat (first
   |(apply qad)
   |(apply qa3)
   |(apply qdf;simp only[qab,qa4])
   |((refine qb0 qaz ?_);simp[zS,hk,hs])
   |apply qag rfl
   |apply qaj rfl
   |((apply qa5);simp only[qab,qa4])
   |((apply qak);simp)))
  apply qa7;simp[zQ,Tryz.f152];exact qai rfl (by simp[hs])
 ·refine qa1 (s0:=⟨[0,1,2,6],[.int .i64 space,.str name,.str W,uD],[],14,⟨0,[[]]⟩⟩) Tryz.func152 rfl rfl rfl ?_
  (repeat (first
   |(apply qad)
   |(apply qa3)
   |(apply qdf;simp only[qab,qa4])
   |((refine qb0 qaz ?_);simp[zS,hk,hs])
   |apply qag rfl
   |apply qaj rfl
   |((apply qa5);simp only[qab,qa4])
   |((apply qak);simp)))
  apply qa7;simp[zQ,Tryz.f152];exact qai rfl (by simp[hs])
theorem injISS(x y:Int × Str × Str) (h:[AV.int .i64 x.1,AV.str x.2.1,AV.str x.2.2]=[AV.int .i64 y.1,AV.str y.2.1,AV.str y.2.2]):x=y:=by simp at h;exact yv h.1 (yv h.2.1 h.2.2)
def e152:Entry PG:=mkE 152 [[],[],[]] (fun x:Int × Str × Str=>[.int .i64 x.1,.str x.2.1,.str x.2.2]) (fun x=>x.2.2.length<=900000) (fun x=>.bool (decide (x.1=0) && inW x.2.2 x.2.1)) fun x hx=>c152 (T:=[e71]) rfl x.1 x.2.1 x.2.2 hx
theorem k152(hT:qIn 152 T e152) (space:Int) (name:Str) {W:Str} (hW:W.length<=900000) (H:Heap):qb5 (ctx T) (.fn 152) [.int .i64 space,.str name,.str W] H=some (.bool (decide (space=0) && inW W name),H):=
 qb9 hT injISS (space,name,W) hW rfl (by simp)
@[simp]theorem szT21:qcj PG 21=some 1:=rfl
@[simp]theorem agT21:qh4 PG 21=some false:=rfl
@[simp]theorem byT21:qch PG 21=some 4:=rfl
@[simp]theorem alT21(H:Heap):alV PG H 21=some (.ptr H.n 0,H.new (.cells [.int .i32 0])):=rfl
@[simp]theorem zeT21:qby PG 21=some (.int .i32 0):=rfl
attribute [simp] Tryz.underlying21
@[simp 500]theorem rvF21(H:Heap) (cs:List AV) (o:Nat):qb2 PG H 21 (.fptr cs o)=qcb cs o:=rfl
@[simp 500]theorem rvP21(H:Heap) (b o:Nat):qb2 PG H 21 (.ptr b o)=(H.get b).bind fun k=>k.rd.bind fun cs=>qcb cs o:=rfl
@[simp]theorem szT176:qcj PG 176=some 1:=rfl
@[simp]theorem agT176:qh4 PG 176=some false:=rfl
@[simp]theorem byT176:qch PG 176=some 24:=rfl
@[simp]theorem alT176(H:Heap):alV PG H 176=some (.ptr H.n 0,H.new (.cells [.nilS])):=rfl
@[simp]theorem zeT176:qby PG 176=some (.nilS):=rfl
attribute [simp] Tryz.underlying176
@[simp 500]theorem rvF176(H:Heap) (cs:List AV) (o:Nat):qb2 PG H 176 (.fptr cs o)=qcb cs o:=rfl
@[simp 500]theorem rvP176(H:Heap) (b o:Nat):qb2 PG H 176 (.ptr b o)=(H.get b).bind fun k=>k.rd.bind fun cs=>qcb cs o:=rfl
@[simp]theorem slz176(sz:Nat) (e:AV) (r:List AV):qex PG .eql 176 (.fslc sz (e::r)) .nilS=some (.bool false):=rfl
@[simp]theorem sln176(sz:Nat) (e:AV) (r:List AV):qex PG .neq 176 (.fslc sz (e::r)) .nilS=some (.bool true):=rfl
@[simp]theorem slze176:qex PG .eql 176 .eslc .nilS=some (.bool false):=rfl
@[simp]theorem slzz176:qex PG .eql 176 .nilS .nilS=some (.bool true):=rfl
@[simp]theorem qzl:qcj PG 178=some 2:=rfl
@[simp]theorem agT178:qh4 PG 178=some true:=rfl
@[simp]theorem zci:qch PG 178=some 16:=rfl
@[simp]theorem alT178(H:Heap):alV PG H 178=some (.ptr H.n 0,H.new (.cells [.int .i64 0,.int .i64 0])):=rfl
@[simp]theorem qz4:qby PG 178=some (.agg [.int .i64 0,.int .i64 0]):=rfl
attribute [simp] Tryz.underlying178
@[simp 500]theorem rvF178(H:Heap) (cs:List AV) (o:Nat):qb2 PG H 178 (.fptr cs o)=(qfe o 2 cs).bind fun cs=>some (.agg cs):=rfl
@[simp 500]theorem rvP178(H:Heap) (b o:Nat):qb2 PG H 178 (.ptr b o)=(readCells H b o 2).bind fun cs=>some (.agg cs):=rfl
@[simp]theorem fa178_0(x:AV):qb1 PG 178 x 0=(match x with | .ptr b o=>some (.ptr b (o+0)) | .fptr cs o=>some (.fptr cs (o+0))|_=>none):=rfl
@[simp]theorem fd178_0(cs:List AV):qbu PG 178 (.agg cs) 0=qcb cs 0:=rfl
@[simp]theorem fa178_1(x:AV):qb1 PG 178 x 1=(match x with | .ptr b o=>some (.ptr b (o+1)) | .fptr cs o=>some (.fptr cs (o+1))|_=>none):=rfl
@[simp]theorem fd178_1(cs:List AV):qbu PG 178 (.agg cs) 1=qcb cs 1:=rfl
theorem c215(hS:qIn 191 T e191) (c:UInt8) (hc:c.toNat < 128):CA T 215 [.int .i32 (c.toNat:Int)] zH (.bool (sp c)) zH:=by
 have ks:=fun H=>k191 hS c H;have h1:(c.toNat:Int) < 128:=by omega
 have hw:IntKind.u8.wrap (c.toNat:Int)=(c.toNat:Int):=by simp[IntKind.wrap,IntKind.signed,IntKind.bits];omega
 have hcv:∀H,zca PG H 21 5 (.int .i32 (c.toNat:Int))=some (.int .u8 (c.toNat:Int),H):=fun H=>by simp[zca,hw]
 refine qa1 (s0:=⟨[0,2],[.int .i32 (c.toNat:Int),uD],[],10,⟨0,[[]]⟩⟩) Tryz.func215 rfl rfl rfl ?_;apply qR;simp[zS];apply qR;simp[zS,h1,hcv,ks];apply qa7;simp[zQ,Tryz.f215];exact qai rfl (by rfl)
def shrB(k k':Blk):Prop:=k=k'\/∃cs G,k=.cells (cs++G)/\k'=.cells cs
def shrL:List (Nat × Blk)->List (Nat × Blk)->Prop
 |[],[]=>True
 |e::r,e'::r'=>e.1=e'.1/\shrB e.2 e'.2/\shrL r r'
 |_,_=>False
theorem qt3:∀(l:List (Nat × Blk)),shrL l l
 |[]=>trivial
 |e::r=>⟨rfl,.inl rfl,qt3 r⟩
theorem qwa:∀{l l':List (Nat × Blk)},shrL l l'->l'.map (·.1)=l.map (·.1)
 |[],[],_=>rfl
 |e::r,e'::r',h=>by simp[h.1,qwa h.2.2]
 |[],_::_,h=>h.elim
 |_::_,[],h=>h.elim
theorem ql1:∀{l l':List (Nat × Blk)} {e':Nat × Blk},shrL l l'->e'∈l'->∃e,e∈l/\e.1=e'.1/\shrB e.2 e'.2
 |e::r,e1::r',e',h,he=>by
  rcases jd.1 he with rfl|he
  ·exact⟨e,by simp,h.1,h.2.1⟩
  ·obtain⟨x,h1,h2⟩:=ql1 h.2.2 he;exact⟨x,by simp[h1],h2⟩
 |[],[],_,_,he=>by cases he
 |[],_::_,_,h,_=>h.elim
 |_::_,[],_,h,_=>h.elim
structure Shr (H H':Heap):Prop where
 n:H'.n=H.n
 l:shrL H.ents H'.ents
theorem BlkR.shr{ρ:Place} {w:World} {l:Loc} {k k':Blk} (r:BlkR ρ w l k) (h:shrB k k'):BlkR ρ w l k':=by
 rcases h with rfl|⟨cs,G,rfl,rfl⟩
 ·exact r
 ·refine⟨by have:=r.1;simp at this;omega,r.2.1,fun i hi=>?_⟩;have h2:=r.2.2 i (by simp;omega)
  rwa [yb hi]at h2
theorem Sim.shr{ρ:Place} {H H':Heap} {w:World} (s:Sim ρ H w) (h:Shr H H'):Sim ρ H' w where
 base:=s.base
 below:=s.below
 os:=s.os
 tape:=s.tape
 output:=s.output
 dom:=fun b hb=>s.dom b (by rw[<- h.n];exact hb)
 nodup:=by rw[qwa h.l];exact s.nodup
 live:=fun e' he'=>by obtain⟨e,he,h1,h2⟩:=ql1 h.l he';obtain⟨l,hl,hb,hlt,hr⟩:=s.live e he;exact⟨l,by rw[<- h1];exact hl,hb,hlt,hr.shr h2⟩
 inj:=fun e1 e2 h1 h2 l1 l2 k1 k2 hcb=>by obtain⟨a1,ha1,b1,_⟩:=ql1 h.l h1;obtain⟨a2,ha2,b2,_⟩:=ql1 h.l h2;rw[<- b1,<- b2];exact s.inj a1 a2 ha1 ha2 l1 l2 (by rw[b1];exact k1) (by rw[b2];exact k2) hcb
theorem Step.shr{ρ:Place} {H H':Heap} {w:World} (s:Sim ρ H w) (h:Shr H H'):Step ρ H w ρ H' w where
 le:=Place.le_refl ρ
 size:=ja _
 keeps:=fun _ _ _=>rfl
 rows:=fun e' he' l' hl'=>by obtain⟨e,he,h1,_⟩:=ql1 h.l he';exact .inl ⟨e,he,l',by rw[h1];exact hl',rfl⟩
 num:=Nat.le_of_eq h.n.symm
 low:=fun _ _=>rfl
 cold:=fun _ h=>.inl h
theorem At.shr{b:Base} {s:St} {a:Act} {w:World} {H':Heap} (h:At b s a w) (k:Shr s.H H'):At b (s.wH H') a w:=by obtain⟨ρ,h1,h2,h3,h4⟩:=h;obtain⟨ks,vs,ts,sz,H⟩:=s;exact⟨ρ,h1.step (Step.shr h2 k),h2.shr k,⟨h3.1,h3.2⟩,h4.step (Step.shr h2 k)⟩
theorem WpSr.shr{C:Ctx} {n:Nat} {r:Option Nat} {c:Code} {s:St} {Q:Out->St->Prop} {H':Heap} (k:Shr s.H H') (h:WpSr C n r c (s.wH H') Q):WpSr C n r c s Q:=
 fun b a w hb ha K hK=>h b a w hb (ha.shr k) K hK
def FitS(n:Nat) (σ:List (Nat × Nat)) (Φ:List (Nat × List AV)) (s s':St):Prop:=∃H',Shr s.H H'/\Fit n σ Φ (s.wH H') s'
theorem At.fitS{b:Base} {s s':St} {a:Act} {w:World} {σ:List (Nat × Nat)} {Φ:List (Nat × List AV)} (h:At b s a w) (f:FitS b.n σ Φ s s'):At b s' a w:=by obtain⟨H',h1,h2⟩:=f;exact(h.shr h1).fit h2
theorem Fit.s{n:Nat} {σ:List (Nat × Nat)} {Φ:List (Nat × List AV)} {s s':St} (h:Fit n σ Φ s s'):FitS n σ Φ s s':=by obtain⟨ks,vs,ts,sz,H⟩:=s;exact⟨H,⟨rfl,qt3 _⟩,h⟩
theorem WpSr.fitS{C:Ctx} {n:Nat} {r:Option Nat} {c:Code} {s s':St} {Q:Out->St->Prop} (σ:List (Nat × Nat)) (Φ:List (Nat × List AV)) (f:FitS n σ Φ s s') (h:WpSr C n r c s' Q):WpSr C n r c s Q:=
 fun b a w hb ha K hK=>h b a w hb (ha.fitS (hb ▸ f)) K hK
section
variable {σ:List (Nat × Nat)} {Φ:List (Nat × List AV)} {ρ:Place} {H H1:Heap} {w:World}
theorem FitH.step(f:FitH H.n σ Φ H H1) (sm:Sim ρ H w):Step ρ H w (qbw H.n σ Φ ρ w sm.below) H1 w where
 le:=⟨fun b l hb=>by
  have hlt:b < H.n:=by
   rcases jF b H.n with h|h
   ·exact h
   ·rw[sm.dom b h]at hb;cases hb
  show (if b < H.n then ρ b else _)=_;rw[jo hlt];exact hb,fun k hk=>⟨.inl hk,sm.below k hk⟩,sm.os,sm.tape,sm.output⟩
 size:=ja _
 keeps:=fun _ _ _=>rfl
 rows:=fun e he l hl=>by obtain⟨c,k,h1,h2,_⟩:=f.src e he;rw[qek f h1]at hl;exact .inl ⟨_,Heap.get_mem h2,l,hl,rfl⟩
 num:=f.num
 low:=fun b hb=>by show (if b < H.n then ρ b else _)=_;rw[jo hb]
 cold:=fun k hk=>by
  rcases hk with hk|⟨c,cs,l,h1,h2,rfl⟩
  ·exact .inl hk
  ·obtain⟨cs0,g1,_⟩:=f.frz _ h1;exact .inr (.inl ⟨_,Heap.get_mem g1,l,h2,rfl⟩)
theorem CallAt.drop{C:Ctx} {f:FuncId} {args args':List AV} {v:AV} {H':Heap} (h:CallAt C f args' H1 v H') (fh:(H.ents.map (·.1)).Nodup->FitH H.n σ Φ H H1) (hf:qb8 σ Φ args args'):CallAt C f args H v H':=by
 intro ρ w xs sm hx;have f:=fh sm.nodup;have hx':VRs (qbw H.n σ Φ ρ w sm.below) args' xs:=by obtain⟨k1,k2⟩:=qd7 hf;refine⟨by rw[hx.1,k1],fun i h1 h2=>?_⟩;exact Fits.run (f.fits sm) sm _ (ja _) (hx.2 i (by omega) h2) (k2 i (by omega) h1)
 have st:=f.step sm;rcases h _ w xs (f.sim sm (ja _)) hx' with⟨x,ρ',w',h0,h1,h2,h3⟩|⟨g,ys,h0,h1⟩
 ·exact .inl ⟨x,ρ',w',h0,h1,h2,st.trans h3⟩
 ·refine .inr ⟨g,ys,h0,h1.mono ?_⟩;rintro e w' ⟨x,ρ',rfl,m1,m2,m3⟩;exact⟨x,ρ',rfl,m1,m2,st.trans m3⟩
end
structure RgA where
 C:Ctx
 call:qck
 ops:Array Oper
 bef:Array Nat
 base:Nat
 H0:Heap
open Classical in
section
variable {A:RgA} {i:Nat} {o:Oper} {r:List Oper} {s s':St} {ps:List Pend} {v:AV} {H:Heap}
open Classical in
end
def qd9(_:Str):Prop:=True
theorem zc6{s:Str} {i:Nat} (h:i < s.length) (hc:s[i].toNat < 128):Utf8.decode ⟨s.toArray⟩ i=(s[i].toNat,1):=by
 have h0:(ByteArray.get! ⟨s.toArray⟩ (i+0)).toNat=s[i].toNat:=by show (s.toArray[i+0]!).toNat=_;simp[h]
 unfold Utf8.decode;simp only[h0,hc,jQ]
def qpm(L:List (Nat × Nat)):List AV:=L.flatMap fun p=>[.int .i64 (p.1:Int),.int .i64 (p.2:Int)]
def spn(p:Nat × Nat):AV:=.agg [.int .i64 (p.1:Int),.int .i64 (p.2:Int)]
def qpl(n:Nat):List AV:=List.replicate n (.int .i64 0)
def spV(n:Nat):AV:=if n<=32 then .slc 0 0 n (.ex 32) else .slc 0 0 n (.rest 2)
def spB(L:List (Nat × Nat)):List AV:=if L.length<=32 then qpm L++qpl (64 - 2 * L.length) else qpm L
theorem qw5(L:List (Nat × Nat)):(qpm L).length=2 * L.length:=by
 induction L with
 |nil=>rfl
 |cons a r ih=>simp only[qpm,yF,js,jE,yd]at ih ⊢;omega
theorem qw6(L:List (Nat × Nat)) (p:Nat × Nat):qpm (L++[p])=qpm L++[.int .i64 (p.1:Int),.int .i64 (p.2:Int)]:=by simp[qpm]
theorem qsz(L:List (Nat × Nat)):qa6 (qpm L)=true:=by
 induction L with
 |nil=>rfl
 |cons a r ih=>have:qpm (a::r)=[.int .i64 (a.1:Int),.int .i64 (a.2:Int)]++qpm r:=rfl;rw[this,qdr,ih];rfl
theorem qxq(n:Nat):qa6 (qpl n)=true:=by
 induction n with
 |zero=>rfl
 |succ n ih=>simp only[qpl,yS]at ih ⊢;simp[qa6,qa2,ih]
theorem qgr(L:List (Nat × Nat)):qa6 (spB L)=true:=by
 unfold spB;split
 ·rw[qdr,qsz,qxq];rfl
 ·exact qsz L
theorem qxb(L:List (Nat × Nat)):qaa (L.map spn)=qpm L:=by
 induction L with
 |nil=>rfl
 |cons a r ih=>simp only[List.map_cons,qaa,ih];rfl
theorem el_spn(L:List (Nat × Nat)):Elems 2 (L.map spn):=.map (sz:=2) (f:=spn) (by decide) (fun x=>⟨rfl,rfl,fun h=>absurd h (by decide),fun _=>⟨_,rfl⟩⟩) L
theorem quv(L:List (Nat × Nat)):qfe 0 (L.length * 2) (spB L)=some (qpm L):=by
 have h:(qpm L).length=L.length * 2:=by rw[qw5];omega
 unfold spB;split
 ·rw[qm4 (by simp;omega),yq,List.take_append_of_le_length (by omega),ju (by omega)]
 ·rw[qm4 (by omega),yq,ju (by omega)]
theorem app_sp{L:List (Nat × Nat)} {p:Nat × Nat} {I:Blk} (hl:L.length<=2000000) :
  ∃b m f,b≠1/\qbs PG ⟨3,[[(2,.cells [.int .i64 (p.1:Int),.int .i64 (p.2:Int)]),(1,I),(0,.cells (spB L))]]⟩ 178 (spV L.length) (.slc 2 0 1 (.ex 1)) =
   some ((if L.length+1<=32 then .slc b 0 (L.length+1) (.ex 32) else .slc b 0 (L.length+1) (.rest 2)),⟨m,f⟩)/\Heap.get ⟨m,f⟩ 1=some I/\Heap.get ⟨m,f⟩ b=some (.cells (spB (L++[p]))):=by
 have hcs:∀H:Heap,Heap.get H 2=some (.cells [.int .i64 (p.1:Int),.int .i64 (p.2:Int)])->qbj H 2 1 (.slc 2 0 1 (.ex 1))=some [.int .i64 (p.1:Int),.int .i64 (p.2:Int)]:=fun H h=>by simp[qbj,readCells,h]
 have g0:Heap.get ⟨3,[[(2,.cells [.int .i64 (p.1:Int),.int .i64 (p.2:Int)]),(1,I),(0,.cells (spB L))]]⟩ 0=some (.cells (spB L)):=by simp[zG]
 have hsrc:=hcs ⟨3,[[(2,.cells [.int .i64 (p.1:Int),.int .i64 (p.2:Int)]),(1,I),(0,.cells (spB L))]]⟩ (by simp[zG]);have hroom:qdg (L.length+1) 16=true:=by unfold qdg;rw[jW];omega
 have hrow:∀cs,qpj PG 178 cs=.cells cs:=fun cs=>rfl;have h64:(qpm L).length=2 * L.length:=qw5 L;have hlen1:(L++[p]).length=L.length+1:=by simp
 by_cases h1:L.length+1<=32
 ·have hv:spV L.length=.slc 0 0 L.length (.ex 32):=by unfold spV;rw[jo (by omega)]
  have hb:Nat.ble (L.length+1) 32=true:=by rw[jW];exact h1
  have hB:spB L=qpm L++qpl 2++qpl (62 - 2 * L.length):=by unfold spB;rw[jo (by omega),List.append_assoc];congr 1;simp only[qpl];rw[List.replicate_append_replicate];congr 1;omega
  have hB2:spB (L++[p])=qpm L++[.int .i64 (p.1:Int),.int .i64 (p.2:Int)]++qpl (62 - 2 * L.length):=by unfold spB;rw[hlen1,jo h1,qw6];congr 2;omega
  have hlay:qiz [.int .i64 (p.1:Int),.int .i64 (p.2:Int)] (0+L.length * 2) (spB L)=some (spB (L++[p])):=by have:=qfz (a:=qpm L) (b:=qpl 2) (b':=[.int .i64 (p.1:Int),.int .i64 (p.2:Int)]) (c:=qpl (62 - 2 * L.length)) rfl;rw[h64]at this;rw[hB,hB2,show 0+L.length * 2=2 * L.length by omega,this]
  refine⟨0,3,[[(2,.cells [.int .i64 (p.1:Int),.int .i64 (p.2:Int)]),(1,I),(0,.cells (spB (L++[p])))]],by omega,?_,by simp[zG],by simp[zG]⟩;rw[jo h1,hv];unfold qbs;simp only[qzl,zci,qz4,jc,qd5,hsrc,hroom,hb];simp only[writeCells,g0,jc,Blk.wt,hlay,Blk.re];simp[Heap.ready,refs,Heap.set,setFs,setF,allSingle,AV.single];rfl
 ·have hB2:spB (L++[p])=qpm L++[.int .i64 (p.1:Int),.int .i64 (p.2:Int)]:=by unfold spB;rw[hlen1,jm h1,qw6]
  have hread:readCells ⟨3,[[(2,.cells [.int .i64 (p.1:Int),.int .i64 (p.2:Int)]),(1,I),(0,.cells (spB L))]]⟩ 0 0 (L.length * 2)=some (qpm L):=by unfold readCells;simp only[g0,jc,qgd];exact quv L
  by_cases h2:L.length=32
  ·have hv:spV L.length=.slc 0 0 L.length (.ex 32):=(by unfold spV;rw[jo (by omega)]);have hb:Nat.ble (L.length+1) 32=false:=(by rw[<- Bool.not_eq_true,jW];exact h1);refine⟨3,4,[[(3,.cells (spB (L++[p]))),(2,.cells [.int .i64 (p.1:Int),.int .i64 (p.2:Int)]),(1,I),(0,.cells (spB L))]],by omega,?_,by simp[zG],by simp[zG]⟩;rw[jm h1,hv,hB2];unfold qbs;simp only[qzl,zci,qz4,jc,qd5,hsrc,hroom,hb,hread,hrow];simp[Heap.new,pushF,allSingle,AV.single];rfl
  ·have hv:spV L.length=.slc 0 0 L.length (.rest 2):=(by unfold spV;rw[jm (by omega)]);have hB:spB L=qpm L:=(by unfold spB;rw[jm (by omega)]);have hk:qbx ⟨3,[[(2,.cells [.int .i64 (p.1:Int),.int .i64 (p.2:Int)]),(1,I),(0,.cells (spB L))]]⟩ 0=some (2 * L.length):=(by rw[qbx,g0,hB];simp[h64]);have hb1:Nat.ble (0+(L.length+1) * 2) (2 * L.length)=false:=(by rw[<- Bool.not_eq_true,jW];omega);have hb2:Nat.beq (0+L.length * 2) (2 * L.length)=true:=(by rw[show 0+L.length * 2=2 * L.length by omega];exact jC _);refine⟨3,4,[[(3,.cells (spB (L++[p]))),(2,.cells [.int .i64 (p.1:Int),.int .i64 (p.2:Int)]),(1,I)]],by omega,?_,by simp[zG],by simp[zG]⟩;rw[jm h1,hv,hB2];unfold qbs;simp only[qzl,zci,qz4,jc,qd5,hsrc,hroom,hk,hb1,hb2,hread,g0,qqf];simp[Heap.new,pushF,allSingle,AV.single,Heap.drop,qg0,getF,killF];rfl
def qe9(s:Str) (p:Nat × Nat):Str:=(s.drop p.1).take (p.2 - p.1)
structure SpOk (s:Str) (i:Nat) (L:List (Nat × Nat)) (st:Int):Prop where
 le:i<=s.length
 few:L.length<=i
 done:L.map (qe9 s)=(wst (s.take i)).1
 rng:∀p,p∈L->p.1<=p.2/\p.2<=s.length
 lo : -2000001<=st
 cur:(st < 0/\(wst (s.take i)).2=[])\/∃a:Nat,st=a/\a < i/\(wst (s.take i)).2=qe9 s (a,i)
theorem qp3{H:Heap} {b j:Nat} {s:Str} {cs:List AV} (hb:b≠1) (h1:H.get 1=some (.iter s j)) (h2:H.get b=some (.cells cs)) (hp:qa6 cs=true):FitH 0 [(1,1),(b,0)] [] H ⟨2,[[(1,.iter s j),(0,.cells cs)]]⟩ where
 nd1:=by simp;omega
 nd2:=by simp
 nd3:=by simp[Heap.ents]
 lt:=fun x hx=>by simp at hx;rcases hx with rfl|rfl<;>simp
 idn:=fun x hx h=>by rcases h with h|h<;>exact absurd h (j3 _)
 num:=jx _
 src:=fun e he=>by
  simp[Heap.ents]at he;rcases he with rfl|rfl
  ·exact⟨1,_,by simp,h1,by simp[qkw]⟩
  ·exact⟨b,_,by simp,h2,qau hp⟩
 frz:=fun x hx=>by cases hx
theorem word_one{s:Str} {i:Nat} (h:i < s.length):qe9 s (i,i+1)=[s[i]]:=by unfold qe9;simp only;rw[List.drop_eq_getElem_cons h,show i+1 - i=1 by omega];rfl
theorem qzb{s:Str} {a i:Nat} (h:i < s.length) (ha:a<=i):qe9 s (a,i+1)=qe9 s (a,i)++[s[i]]:=by unfold qe9;simp only;rw[show i+1 - a=(i - a)+1 by omega,jj (by simp;omega)];congr 2;rw[jU];congr 1;omega
theorem qzs{s:Str} {i:Nat} {L:List (Nat × Nat)} {st:Int} (h:i < s.length) (k:SpOk s i L st) (hs:sp s[i]=true) (h0:st < 0):SpOk s (i+1) L st:=by
 have he:(wst (s.take i)).2=[]:=by
  rcases k.cur with⟨_,h⟩|⟨a,ha,_⟩
  ·exact h
  ·omega
 refine⟨by omega,by have:=k.few;omega,?_,k.rng,k.lo,.inl ⟨h0,?_⟩⟩
 ·rw[qk4 h];simp only[qee,hs,jQ,he,k.done]
 ·rw[qk4 h];simp only[qee,hs,jQ]
theorem qzr{s:Str} {i a:Nat} {L:List (Nat × Nat)} (h:i < s.length) (k:SpOk s i L (a:Int)) (hs:sp s[i]=true) (hl:s.length<=2000000):SpOk s (i+1) (L++[(a,i)]) (-(a:Int) - 1):=by
 obtain⟨hai,hc⟩ : a < i/\(wst (s.take i)).2=qe9 s (a,i):=by
  rcases k.cur with⟨h,_⟩|⟨b,hb,h1,h2⟩
  ·omega
  ·have:a=b:=(by omega);subst this;exact⟨h1,h2⟩
 have hne:¬ qe9 s (a,i)=[]:=by intro e;have:=jR List.length e;simp[qe9]at this;omega
 refine⟨by omega,by have:=k.few;simp;omega,?_,fun p hp=>?_,by omega,.inl ⟨by omega,?_⟩⟩
 ·rw[qk4 h];simp only[qee,hs,jQ,hc,hne,jM,j5,k.done];rfl
 ·rcases je.1 hp with hp|hp
  ·exact k.rng p hp
  ·simp at hp;subst hp;exact⟨by simp only;omega,by simp only;omega⟩
 ·rw[qk4 h];simp only[qee,hs,jQ]
theorem qw8{s:Str} {i:Nat} {L:List (Nat × Nat)} {st:Int} (h:i < s.length) (k:SpOk s i L st) (hs:sp s[i]=false) (h0:st < 0):SpOk s (i+1) L (i:Int):=by
 have he:(wst (s.take i)).2=[]:=by
  rcases k.cur with⟨_,h⟩|⟨a,ha,_⟩
  ·exact h
  ·omega
 refine⟨by omega,by have:=k.few;omega,?_,k.rng,by omega,.inr ⟨i,rfl,by omega,?_⟩⟩
 ·rw[qk4 h];simp[qee,hs,k.done]
 ·rw[qk4 h,word_one h];simp[qee,hs,he]
theorem qw7{s:Str} {i a:Nat} {L:List (Nat × Nat)} (h:i < s.length) (k:SpOk s i L (a:Int)) (hs:sp s[i]=false):SpOk s (i+1) L (a:Int):=by
 obtain⟨hai,hc⟩ : a < i/\(wst (s.take i)).2=qe9 s (a,i):=by
  rcases k.cur with⟨h,_⟩|⟨b,hb,h1,h2⟩
  ·omega
  ·have:a=b:=(by omega);subst this;exact⟨h1,h2⟩
 refine⟨by omega,by have:=k.few;omega,?_,k.rng,by omega,.inr ⟨a,rfl,by omega,?_⟩⟩
 ·rw[qk4 h];simp[qee,hs,k.done]
 ·rw[qk4 h,qzb h (by omega)];simp[qee,hs,hc]
theorem sp_begin(s:Str):SpOk s 0 [] (-1):=⟨jx _,by simp,by simp[wst],by simp,by omega,.inl ⟨by omega,by simp[wst]⟩⟩
theorem sp_end0{s:Str} {L:List (Nat × Nat)} {st:Int} (k:SpOk s s.length L st) (h0:st < 0):L.map (qe9 s)=qcw s:=by
 have he:(wst (s.take s.length)).2=[]:=by
  rcases k.cur with⟨_,h⟩|⟨a,ha,_⟩
  ·exact h
  ·omega
 have hd:=k.done;rw[ju (ja _)]at hd he;rw[hd,qcw,qxs,jo he]
theorem sp_end1{s:Str} {a:Nat} {L:List (Nat × Nat)} (k:SpOk s s.length L (a:Int)):(L++[(a,s.length)]).map (qe9 s)=qcw s/\a < s.length:=by
 obtain⟨hai,hc⟩ : a < s.length/\(wst (s.take s.length)).2=qe9 s (a,s.length):=by
  rcases k.cur with⟨h,_⟩|⟨b,hb,h1,h2⟩
  ·omega
  ·have:a=b:=(by omega);subst this;exact⟨h1,h2⟩
 have hne:¬ qe9 s (a,s.length)=[]:=by intro e;have:=jR List.length e;simp[qe9]at this;omega
 have hd:=k.done;rw[ju (ja _)]at hd hc;refine⟨?_,hai⟩;rw[j5,hd,qcw,qxs,hc,jm hne];rfl
theorem xor_not{a:Nat} (h:a<=2000000):unA .xor (.int .i64 (a:Int))=some (.int .i64 (-(a:Int) - 1)):=by
 have h1:(BitVec.ofInt 64 (-1) ^^^ BitVec.ofInt 64 (a:Int)).toNat=18446744073709551615 - a:=by
  have e1:BitVec.ofInt 64 (-1)=BitVec.allOnes 64:=by decide
  have e2:BitVec.ofInt 64 (a:Int)=BitVec.ofNat 64 a:=by simp
  rw[e1,e2,BitVec.allOnes_xor,BitVec.toNat_not,BitVec.toNat_ofNat];omega
 show some (AV.int .i64 (IntKind.i64.wrap ((BitVec.ofInt 64 (-1) ^^^ BitVec.ofInt 64 (a:Int)).toNat:Int)))=_;rw[h1];have h2:IntKind.i64.wrap ((18446744073709551615 - a:Nat):Int) = -(a:Int) - 1:=by
  have h3:((18446744073709551615 - a:Nat):Int)=18446744073709551615 - (a:Int):=by omega
  rw[h3];simp[IntKind.wrap,IntKind.signed,IntKind.bits];omega
 rw[h2]
@[simp]theorem fr_range{d:Option Tmp} {t:TypeId} {l:Operand} {ty:TypeId} {pos:String} {af:Array Edge} {g:Option (Nat × Bool)} {s:St}:qc0 s ⟨d,.range t l,ty,pos,af,g⟩=s:=rfl
@[simp]theorem fr_next{d:Option Tmp} {b:Bool} {l:Operand} {ty:TypeId} {pos:String} {af:Array Edge} {g:Option (Nat × Bool)} {s:St}:qc0 s ⟨d,.next l b,ty,pos,af,g⟩=s:=rfl
def bl5(n:Nat):List AV:=List.replicate n (.str [])
def sts(L:List Str):List AV:=L.map .str
theorem qxp(n:Nat):qa6 (bl5 n)=true:=by
 induction n with
 |zero=>rfl
 |succ n ih=>simp only[bl5,yS]at ih ⊢;simp[qa6,qa2,ih]
theorem qnc(L:List Str):qa6 (sts L)=true:=by
 induction L with
 |nil=>rfl
 |cons a r ih=>simp only[sts,List.map_cons]at ih ⊢;simp[qa6,qa2,ih]
theorem sts_set{X:List Str} {k:Nat} {w:Str}:(sts X++bl5 (k+1)).set X.length (.str w)=sts (X++[w])++bl5 k:=by rw[List.set_append_right _ _ (by simp[sts])];simp[sts,bl5,yS]
theorem mkStrs{H:Heap} {n:Nat} (h:n<=2000000):qic PG H 144 (.int .i64 (n:Int)) (.int .i64 (n:Int))=some (.slc H.n 0 n (.ex n),H.new (.cells (bl5 n))):=by
 have hr:∀n,replL [AV.str []] n=bl5 n:=fun n=>by
  induction n with
  |zero=>rfl
  |succ n ih=>simp[replL,ih,bl5,yS]
 have h1:idx (n:Int) 17592186044416=some n:=qbn (by omega);have h2:idx (n:Int) (Nat.succ n)=some n:=qbn (by omega);have h3:qdg n 16=true:=by unfold qdg;rw[jW];omega
 unfold qic msB;simp[h1,h2,h3,hr]
theorem mkSp{H:Heap}:qic PG H 176 (.int .i64 0) (.int .i64 32)=some (.slc H.n 0 0 (.ex 32),H.new (.cells (qpl 64))):=rfl
theorem ixS{b n i:Nat} {c:Cap} (h:i < n):qaq PG 144 (.slc b 0 n c) (.int .i64 (i:Int))=some (.ptr b i):=by simp[qaq,qbn h]
theorem layS{v:AV}:∀{cs:List AV} {i:Nat},i < cs.length->qiz [v] i cs=some (cs.set i v)
 |[],_,h=>absurd h (j3 _)
 |x::r,0,_=>by simp[qiz,qin]
 |x::r,i+1,h=>by simp only[qiz,layS (cs:=r) (i:=i) (by simpa using h)];rfl
def aSp(L:List (Nat × Nat)):AV:=.fslc 2 (L.map spn)
theorem atSp{L:List (Nat × Nat)} {i:Nat} (h:i < L.length):qaq PG 176 (aSp L) (.int .i64 (i:Int))=some (.fptr [.int .i64 ((L[i]).1:Int),.int .i64 ((L[i]).2:Int)] 0):=by simp[qaq,aSp,qbn h,qge h];simp[spn]
theorem lenSp{H:Heap} {L:List (Nat × Nat)}:qf3 PG H 176 (aSp L)=some L.length:=by simp[qf3,aSp]
theorem slW{H:Heap} {s:Str} {a b:Nat} (h1:a<=b) (h2:b<=s.length):qcq PG H 9 (.str s) (some (.int .i64 (a:Int))) (some (.int .i64 (b:Int))) none=some (.str (qe9 s (a,b))):=by have i1:idx (b:Int) (Nat.succ s.length)=some b:=qbn (by omega);have i2:idx (a:Int) (Nat.succ b)=some a:=qbn (by omega);simp[qcq,qqe,qdc,i1,i2,qe9,List.drop_take]
theorem nx_yes{m i:Nat} {s:Str} {B:Blk} (h:i < s.length) (hc:s[i].toNat < 128):qtj ⟨m,[[(1,.iter s i),(0,B)]]⟩ 1=some (.tup [.bool true,.int .i64 i,.int .i32 (s[i].toNat:Int)],⟨m,[[(1,.iter s (i+1)),(0,B)]]⟩):=by
 have hb:Nat.blt i s.length=true:=by simpa using h
 simp[qtj,zG,hb,zc6 h hc,Heap.set,setFs,setF]
theorem nx_no{m i:Nat} {s:Str} {B:Blk} (h:¬ i < s.length):qtj ⟨m,[[(1,.iter s i),(0,B)]]⟩ 1=some (.tup [.bool false],⟨m,[[(1,.iter s i),(0,B)]]⟩):=by
 have hb:Nat.blt i s.length=false:=by
  cases hq:Nat.blt i s.length with
  |false=>rfl
  |true=>exact absurd (by simpa using hq) h
 simp[qtj,zG,hb]
theorem qqz(n:Nat) (b:Nat):∃c,(if n<=32 then AV.slc b 0 n (.ex 32) else AV.slc b 0 n (.rest 2))=.slc b 0 n c/\spV n=.slc 0 0 n c:=by
 unfold spV;split
 ·exact⟨_,rfl,rfl⟩
 ·exact⟨_,rfl,rfl⟩
theorem fit_spV{L:List (Nat × Nat)} {σ:List (Nat × Nat)} {Φ:List (Nat × List AV)} (h:qcp 0 Φ=some (spB L)):qas σ Φ (spV L.length) (aSp L):=by obtain⟨c,_,hc⟩:=qqz L.length 0;rw[hc];simp only[aSp,qas];refine .inl ⟨_,h,?_,by simp,(el_spn L).size⟩;rw[qxb,quv]
theorem zbt{H:Heap} {b:Nat} {cs:List AV} (h:H.get b=some (.cells cs)) (hp:qa6 cs=true):FitH 0 [] [(b,cs)] H ⟨0,[[]]⟩:=by refine⟨by simp,by simp,by simp[Heap.ents],fun x h=>(by cases h),fun x h=>(by cases h),ja _,fun e h=>(by simp[Heap.ents]at h),fun x hx=>?_⟩;rw[j2]at hx;subst hx;exact⟨_,h,qau hp,hp⟩
theorem qlj{n:Nat}:qas [(1,1),(0,0)] [] (spV n) (spV n):=by obtain⟨c,_,hc⟩:=qqz n 0;rw[hc];simp[qas,qaw]
def sbC:List Nat->Code->Code
 |[],c=>c
 |d::r,c=>match c with
  |.seq a b=>match d with
   |0=>sbC r a
   |_=>sbC r b
  |c=>c
def bdO(f:Func):Code:=match f.body with
 |some c=>c
 |none=>.skip
theorem qxa:∀(L:List Str),qaa (L.map AV.str)=sts L
 |[]=>rfl
 |a::r=>by simp only[List.map_cons,qaa,qxa r];rfl
def cdFF:Code:=sbC [1,1,1,1,1] (bdO Tryz.f214)
theorem zbw(s:Str) (L:List (Nat × Nat)) (hL:L.length<=2000000) (hr:∀p,p∈L->p.1<=p.2/\p.2<=s.length) (W:List Str) (hW:L.map (qe9 s)=W) :
  WpSr (ctx T) 0 none cdFF ((⟨[0,1,4,5,6,7,8,9,10,11,14,15,47,48,49],[.str s,uD,.nilS,aSp L,uD,uD,uD,uD,uD,uD,uD,uD,uD,uD,uD],[],65,⟨0,[[]]⟩⟩ : St)) (fun x s=>(x=.normal\/x=.ret)/\∃vs,retVal (ctx T) s [.tmp 4]=some vs/\∃σ Φ,qas σ Φ (oneOr vs) (qe1 W)/\FitH 0 σ Φ s.H zH):=by
 simp only[cdFF,sbC,bdO,Tryz.f214];have hm:=fun H=>mkStrs (H:=H) (n:=L.length) hL;apply qR;simp[zS,lenSp,hm];apply qR;simp[zS,lenSp];obtain⟨F,hF⟩ : ∃F:Nat->List Str,F=fun i=>(L.take i).map (qe9 s):=⟨_,rfl⟩;have hF0:F 0=[]:=by rw[hF];simp
 have hFl:∀i,i<=L.length->(F i).length=i:=fun i hi=>by rw[hF];simp;omega
 have hFs:∀(i:Nat) (h:i < L.length),F (i+1)=F i++[qe9 s L[i]]:=fun i h=>by rw[hF];show (L.take (i+1)).map (qe9 s)=_;rw[jj h,j5];rfl
 have hFn:F L.length=W:=by rw[hF,<- hW];simp
 refine qa3 (qb6 (fun i:Nat=>(⟨[0,1,4,5,6,7,8,9,10,11,14,15,47,48,49],[.str s,uD,.nilS,uD,uD,uD,uD,.slc 0 0 L.length (.ex L.length),uD,uD,uD,uD,aSp L,.int .i64 (L.length:Nat),.int .i64 i],[],65,⟨1,[[(0,.cells (sts (F i)++bl5 (L.length - i)))]]⟩⟩ : St))
  (fun i=>i<=L.length) (fun i=>L.length - i) [(0,0)] [] 0 (jx _)
  ⟨rfl,rfl,rfl,by simp[qb8,qas,qaw,qa2,aSp],.keep1 (b:=0) (by rw[hF0];simp[zG,sts]) (by rw[qdr,qnc,qxp];rfl) rfl⟩ ?_)
 rintro i hi B hB;apply qR;simp[zS];repeat apply wq
 refine qbe rfl (fun h=>?_) fun h=>?_
 ·simp at h;apply qa5;simp;repeat apply wq
  apply qa3;obtain⟨r1,r2⟩:=hr L[i] (jA _);have hw:=fun H=>slW (H:=H) r1 r2;have hlen:i < (sts (F i)++bl5 (L.length - i)).length:=by simp[sts,bl5,hFl i hi];omega
  have hset:(sts (F i)++bl5 (L.length - i)).set i (.str (qe9 s ((L[i]).1,(L[i]).2)))=sts (F (i+1))++bl5 (L.length - (i+1)):=by have:=sts_set (X:=F i) (k:=L.length - (i+1)) (w:=qe9 s L[i]);rw[hFl i hi,<- hFs i h]at this;rw[show L.length - i=L.length - (i+1)+1 by omega];exact this
  have hla:=layS (v:=.str (qe9 s ((L[i]).1,(L[i]).2))) hlen;rw[hset]at hla;generalize sts (F i)++bl5 (L.length - i)=C0 at *;generalize hC1:sts (F (i+1))++bl5 (L.length - (i+1))=C1 at *;apply qR;simp[zS,atSp h];apply qR;simp[zS,hw,ixS h,hla];apply qR;simp[zS,qbb (show i<=1000000000 by omega)];refine hB _ (i+1) (by omega) (by omega) ⟨[(0,0)],[],rfl,rfl,rfl,by simp[qb8,qas,qaw,qa2,aSp],?_⟩;rw[hC1];exact .keep1 (b:=0) (by simp[zG]) (by rw[<- hC1,qdr,qnc,qxp];rfl) rfl
 ·simp at h;have hie:i=L.length:=by omega
  subst hie;have hz:sts (F L.length)++bl5 (L.length - L.length)=sts W:=by rw[Jg,hFn];simp[bl5]
  have hlW:W.length=L.length:=by rw[<- hW];simp
  rw[hz,<- hlW];apply qak;simp;apply qR;simp[zS];apply qa7;simp[retVal,oneOr];refine⟨[],[(0,sts W)],?_,.froze (by simp) fun y hy=>?_⟩
  ·have hf:=qxa W;simp only[qas];refine .inl ⟨sts W,by simp[qcp],?_,by simp,(qp9 W).size⟩;rw[hf,qm4 (by simp[sts]),yq,ju (by simp[sts])]
  ·rw[j2]at hy;subst hy;exact⟨_,by simp[zG],qau (qnc W),qnc W⟩
theorem dec_high{s:Str} {i:Nat} (h:i < s.length) (hc:¬ s[i].toNat < 128):∃r w,Utf8.decode ⟨s.toArray⟩ i=(r,w)/\128<=r/\1<=w/\∀k,k < w->∃hk:i+k < s.length,¬ s[i+k].toNat < 128:=by
 have sz:(ByteArray.mk s.toArray).size=s.length:=by simp[ByteArray.size]
 have get:∀k (hk:i+k < s.length),((ByteArray.mk s.toArray).get! (i+k)).toNat=s[i+k].toNat:=fun k hk=>by show (s.toArray[i+k]!).toNat=_;simp[hk]
 have cont:∀k,(decide (i+k < (ByteArray.mk s.toArray).size) && ((ByteArray.mk s.toArray).get! (i+k)).toNat / 64 == 2)=true->∃hk:i+k < s.length,¬ s[i+k].toNat < 128:=fun k hk=>by rw[sz,jf,yk,beq_iff_eq]at hk;obtain⟨h1,h2⟩:=hk;rw[get k h1]at h2;exact⟨h1,by omega⟩
 have z0:∃hk:i+0 < s.length,¬ s[i+0].toNat < 128:=⟨h,hc⟩;have g0:=get 0 h;have b0:¬ ((ByteArray.mk s.toArray).get! (i+0)).toNat < 128:=by rw[g0];exact hc
 have one:∀k,k < 1->∃hk:i+k < s.length,¬ s[i+k].toNat < 128:=fun k hk=>match k,hk with | 0,_=>z0|k+1,hk=>absurd hk (by omega)
 have er:128<=Utf8.runeError:=by decide
 unfold Utf8.decode;simp only[jm b0];split
 ·rename_i h1;rw[jf]at h1;have c1:=cont 1 h1.2;split
  next hx=>exact⟨_,_,rfl,by omega,by omega,fun k hk=>match k,hk with | 0,_=>z0 | 1,_=>c1|k+2,hk=>absurd hk (by omega)⟩
  ·exact⟨_,_,rfl,er,by omega,one⟩
 split
 ·rename_i h1;rw[jf,jf]at h1;have c1:=cont 1 h1.1.2;have c2:=cont 2 h1.2;split
  next hx=>rw[jf,yk]at hx;exact⟨_,_,rfl,by omega,by omega,fun k hk=>match k,hk with | 0,_=>z0 | 1,_=>c1 | 2,_=>c2|k+3,hk=>absurd hk (by omega)⟩
  ·exact⟨_,_,rfl,er,by omega,one⟩
 split
 ·rename_i h1;rw[jf,jf,jf]at h1;have c1:=cont 1 h1.1.1.2;have c2:=cont 2 h1.1.2;have c3:=cont 3 h1.2;split
  next hx=>rw[jf,yk]at hx;exact⟨_,_,rfl,by omega,by omega,fun k hk=>match k,hk with | 0,_=>z0 | 1,_=>c1 | 2,_=>c2 | 3,_=>c3|k+4,hk=>absurd hk (by omega)⟩
  ·exact⟨_,_,rfl,er,by omega,one⟩
 ·exact⟨_,_,rfl,er,by omega,one⟩
theorem nx_high{m i r w:Nat} {s:Str} {B:Blk} (h:i < s.length) (hd:Utf8.decode ⟨s.toArray⟩ i=(r,w)):qtj ⟨m,[[(1,.iter s i),(0,B)]]⟩ 1=some (.tup [.bool true,.int .i64 i,.int .i32 (r:Int)],⟨m,[[(1,.iter s (i+w)),(0,B)]]⟩):=by
 have hb:Nat.blt i s.length=true:=by simpa using h
 simp[qtj,zG,hb,hd,Heap.set,setFs,setF]
theorem qzt{c:UInt8} (h:¬ c.toNat < 128):sp c=false:=by unfold sp;simp only[Bool.or_eq_false_iff,yh];omega
theorem qux{s:Str} {i a:Nat} {L:List (Nat × Nat)} (k:SpOk s i L (a:Int)):∀w,(∀j,j < w->∃hk:i+j < s.length,¬ s[i+j].toNat < 128)->SpOk s (i+w) L (a:Int)
 |0,_=>k
 |w+1,h=>by obtain⟨h1,h2⟩:=h w (by omega);exact qw7 h1 (qux k w fun j hj=>h j (by omega)) (qzt h2)
theorem sp_run0{s:Str} {i:Nat} {L:List (Nat × Nat)} {st:Int} (k:SpOk s i L st) (h0:st < 0) {w:Nat} (hw:1<=w) (h:∀j,j < w->∃hk:i+j < s.length,¬ s[i+j].toNat < 128):SpOk s (i+w) L (i:Int):=by
 obtain⟨h1,h2⟩:=h 0 (by omega);have h1':i < s.length:=by omega
 have h2':¬ s[i].toNat < 128:=by simpa using h2
 have e:=qw8 h1' k (qzt h2') h0;have:=qux e (w - 1) fun j hj=>by obtain⟨g1,g2⟩:=h (j+1) (by omega);exact⟨by omega,by simpa[show i+1+j=i+(j+1) by omega]using g2⟩
 rwa [show i+1+(w - 1)=i+w by omega]at this
theorem c214g(s:Str) (hl:s.length<=1100000) (clo:FuncId) (hp:∀c:UInt8,c.toNat < 128->CA T clo [.int .i32 (c.toNat:Int)] zH (.bool (sp c)) zH) (hr:∀r:Nat,128<=r->CA T clo [.int .i32 (r:Int)] zH (.bool false) zH) :
  CA T 214 [.str s,.func (.func clo) [] []] zH (qe1 (qcw s)) zH:=by
 have hm1:wr .i64 (0 - 1)=some (-1):=rfl;refine qa1 (s0:=⟨[0,1,4,5,6,7,8,9,10,11,14,15,47,48,49],[.str s,.func (.func clo) [] [],uD,uD,uD,uD,uD,uD,uD,uD,uD,uD,uD,uD,uD],[],65,⟨0,[[]]⟩⟩) Tryz.func214 rfl rfl rfl ?_;apply qR;simp[zS];apply qR;simp[zS,mkSp];apply qR;simp[zS];apply qR;simp[zS,rgV];refine qa3 (qb6 (fun x:Nat × List (Nat × Nat) × Int=>(⟨[0,1,4,5,6,7,8,9,10,11,14,15,47,48,49],[.str s,.func (.func clo) [] [],.nilS,spV x.2.1.length,.int .i64 x.2.2,uD,uD,uD,uD,uD,.ptr 1 0,uD,uD,uD,uD],[],65,⟨2,[[(1,.iter s x.1),(0,.cells (spB x.2.1))]]⟩⟩ : St))
  (fun x=>SpOk s x.1 x.2.1 x.2.2) (fun x=>s.length - x.1) [(1,1),(0,0)] [] (0,[],-1) (sp_begin s)
  ⟨rfl,rfl,rfl,by simp[qb8,qas,qaw,qa2,qa6,spV],qp3 (by omega) (by simp[zG]) (by simp[zG,spB,qpm]) (qgr _)⟩ ?_)
 rintro⟨i,L,st⟩ hk B hB;have hi:=hk.le;have hfew:=hk.few;have hlo:=hk.lo;simp only at hi hfew hlo hk;by_cases h:i < s.length
 ·by_cases hc:s[i].toNat < 128
  case neg=>
   obtain⟨r,w,hd,hr1,hw,hk2⟩:=dec_high h hc;have hcall:=(hr r hr1).lift (by simp[qa6,qa2]) ⟨2,[[(1,.iter s (i+w)),(0,.cells (spB L))]]⟩;have stay:∀(st':Int),SpOk s (i+w) L st'->∀s':St,Fit 0 [(1,1),(0,0)] [] s' ((⟨[0,1,4,5,6,7,8,9,10,11,14,15,47,48,49],[.str s,.func (.func clo) [] [],.nilS,spV L.length,.int .i64 st',uD,uD,uD,uD,uD,.ptr 1 0,uD,uD,uD,uD],[],65,⟨2,[[(1,.iter s (i+w)),(0,.cells (spB L))]]⟩⟩ : St))->B s':=fun st' h1 s' h2=>hB s' (i+w,L,st') (by simp only;have:=h1.le;omega) h1 ⟨_,_,h2⟩;apply qR;simp[zS,nxV,nx_high h hd];repeat apply wq
   apply qag rfl;apply qa5;simp;apply qa3;apply qR;simp[zS];repeat apply wq
   refine qb0 (qci [⟨clo,_,_,_,_,hcall⟩]) ?_;simp[zS,qdz];apply qaj rfl;rcases hk.cur with⟨h0,_⟩|⟨a,ha,hai,_⟩
   ·apply qR;simp[zS,h0];apply qag rfl;apply qR;simp[zS];exact stay i (sp_run0 hk h0 hw hk2) _ ⟨rfl,rfl,rfl,by simp[qb8,qas,qaw,qa2,qa6,qlj],qp3 (by omega) (by simp[zG]) (by simp[zG]) (qgr _)⟩
   ·subst ha;have hge:¬ (a:Int) < 0:=(by omega);apply qR;simp[zS,hge];refine qaj (by simp[qc5,St.get,hge]) ?_;apply qa5;simp;exact stay a (qux hk w hk2) _ ⟨rfl,rfl,rfl,by simp[qb8,qas,qaw,qa2,qa6,qlj],qp3 (by omega) (by simp[zG]) (by simp[zG]) (qgr _)⟩
  have hbu:∀a:Nat,qe6 PG 178 [(0,.int .i64 (a:Int)),(1,.int .i64 (i:Int))]=some (.agg [.int .i64 (a:Int),.int .i64 (i:Int)]):=fun a=>rfl;have hcall:=(hp s[i] hc).lift (by simp[qa6,qa2]) ⟨2,[[(1,.iter s (i+1)),(0,.cells (spB L))]]⟩;have stay:∀(st':Int) (σ0:Unit),SpOk s (i+1) L st'->∀s':St,Fit 0 [(1,1),(0,0)] [] s' ((⟨[0,1,4,5,6,7,8,9,10,11,14,15,47,48,49],[.str s,.func (.func clo) [] [],.nilS,spV L.length,.int .i64 st',uD,uD,uD,uD,uD,.ptr 1 0,uD,uD,uD,uD],[],65,⟨2,[[(1,.iter s (i+1)),(0,.cells (spB L))]]⟩⟩ : St))->B s':=fun st' _ hok s' hf=>hB s' (i+1,L,st') (by simp only;omega) hok ⟨_,_,hf⟩;apply qR;simp[zS,nxV,nx_yes h hc];repeat apply wq
  apply qag rfl;apply qa5;simp;apply qa3;rcases yy (sp s[i])with hsp|hsp
  ·rw[hsp]at hcall;apply qR;simp[zS];repeat apply wq
   refine qb0 (qci [⟨clo,_,_,_,_,hcall⟩]) ?_;simp[zS,qdz];apply qag rfl;rcases hk.cur with⟨h0,_⟩|⟨a,ha,hai,_⟩
   ·have hge:¬ (0:Int)<=st:=(by omega);apply qR;simp[zS,hge];apply qaj rfl;apply qa5;simp;exact stay st () (qzs h hk hsp h0) _ ⟨rfl,rfl,rfl,by simp[qb8,qas,qaw,qa2,qa6,qlj],qp3 (by omega) (by simp[zG]) (by simp[zG]) (qgr _)⟩
   ·subst ha;have hge:(0:Int)<=(a:Int):=(by omega);obtain⟨b,m,f,hb1,happ,hg1,hg2⟩:=app_sp (L:=L) (p:=(a,i)) (I:=.iter s (i+1)) (by omega);have hxo:=xor_not (a:=a) (by omega);obtain⟨c,e1,e2⟩:=qqz (L.length+1) b;simp only[e1]at happ;apply qR;simp[zS,hge];refine qag (by simp[qc5,St.get]) ?_;apply qR;simp[zS,hbu,happ];apply qR;simp[zS,hxo];refine hB _ (i+1,L++[(a,i)],-(a:Int) - 1) (by simp only;omega) (qzr h hk hsp (by omega)) ⟨[(1,1),(b,0)],[],rfl,rfl,rfl,?_,qp3 hb1 hg1 hg2 (qgr _)⟩;simp only[js,jE,yd,jS,e2];simp[qb8,qas,qaw,qa2,qa6];omega
  ·rw[hsp]at hcall;apply qR;simp[zS];repeat apply wq
   refine qb0 (qci [⟨clo,_,_,_,_,hcall⟩]) ?_;simp[zS,qdz];apply qaj rfl;rcases hk.cur with⟨h0,_⟩|⟨a,ha,hai,_⟩
   ·apply qR;simp[zS,h0];apply qag rfl;apply qR;simp[zS];exact stay i () (qw8 h hk hsp h0) _ ⟨rfl,rfl,rfl,by simp[qb8,qas,qaw,qa2,qa6,qlj],qp3 (by omega) (by simp[zG]) (by simp[zG]) (qgr _)⟩
   ·subst ha;have hge:¬ (a:Int) < 0:=(by omega);apply qR;simp[zS,hge];refine qaj (by simp[qc5,St.get,hge]) ?_;apply qa5;simp;exact stay a () (qw7 h hk hsp) _ ⟨rfl,rfl,rfl,by simp[qb8,qas,qaw,qa2,qa6,qlj],qp3 (by omega) (by simp[zG]) (by simp[zG]) (qgr _)⟩
 ·have hie:i=s.length:=by omega
  subst hie;have hbu:∀a:Nat,qe6 PG 178 [(0,.int .i64 (a:Int)),(1,.int .i64 (s.length:Int))]=some (.agg [.int .i64 (a:Int),.int .i64 (s.length:Int)]):=fun a=>rfl;apply qR;simp[zS,nxV,nx_no h];repeat apply wq
  apply qaj rfl;apply qak;simp;rcases hk.cur with⟨h0,_⟩|⟨a,ha,hai,_⟩
  ·have hge:¬ (0:Int)<=st:=(by omega);apply qR;simp[zS,hge];refine qaj (by simp[qc5,St.get,hge]) ?_;apply qa5;simp only[qab];refine WpSr.fit [] [(0,spB L)] (s':=(⟨[0,1,4,5,6,7,8,9,10,11,14,15,47,48,49],[.str s,uD,.nilS,aSp L,uD,uD,uD,uD,uD,uD,uD,uD,uD,uD,uD],[],65,⟨0,[[]]⟩⟩ : St)) ⟨rfl,rfl,rfl,by simp[qb8,qas,qa2];exact fit_spV (by simp[qcp]),?_⟩ (zbw s L (by omega) hk.rng _ (sp_end0 hk h0));exact zbt (by simp[zG]) (qgr _)
  ·subst ha;obtain⟨hw,hal⟩:=sp_end1 hk;have hge:(0:Int)<=(a:Int):=(by omega);obtain⟨b,m,f,hb1,happ,hg1,hg2⟩:=app_sp (L:=L) (p:=(a,s.length)) (I:=.iter s s.length) (by omega);obtain⟨c,e1,e2⟩:=qqz (L.length+1) b;simp only[e1]at happ;apply qR;simp[zS,hge];refine qag (by simp[qc5,St.get]) ?_;apply qR;simp[zS,hbu,happ];have hfv:qas [] [(b,spB (L++[(a,s.length)]))] (.slc b 0 (L.length+1) c) (aSp (L++[(a,s.length)])):=(by simp only[aSp,qas];refine .inl ⟨_,by simp[qcp];rfl,?_,by simp,(el_spn _).size⟩;have:=quv (L++[(a,s.length)]);rw[qxb];simpa using this);refine WpSr.fit [] [(b,spB (L++[(a,s.length)]))] (s':=(⟨[0,1,4,5,6,7,8,9,10,11,14,15,47,48,49],[.str s,uD,.nilS,aSp (L++[(a,s.length)]),uD,uD,uD,uD,uD,uD,uD,uD,uD,uD,uD],[],65,⟨0,[[]]⟩⟩ : St)) ⟨rfl,rfl,rfl,by simp[qb8,qas,qa2]at hfv ⊢;exact hfv,?_⟩ (zbw s (L++[(a,s.length)]) (by simp;omega) (fun p hp=>?_) _ hw)
   ·exact zbt hg2 (qgr _)
   ·rcases je.1 hp with hp|hp
    ·exact hk.rng p hp
    ·simp at hp;subst hp;exact⟨by simp only;omega,by simp only;omega⟩
theorem c215h(r:Nat) (h:128<=r):CA T 215 [.int .i32 (r:Int)] zH (.bool false) zH:=by
 have h1:¬ (r:Int) < 128:=by omega
 have h2:¬ r < 128:=by omega
 refine qa1 (s0:=⟨[0,2],[.int .i32 (r:Int),uD],[],10,⟨0,[[]]⟩⟩) Tryz.func215 rfl rfl rfl ?_
 (repeat (first
  |(apply qad)
  |(apply qa3)
  |(apply qdf;simp only[qab,qa4])
  |((refine qb0 qaz ?_);simp[zS,h1,h2])
  |apply qag rfl
  |apply qaj rfl
  |((apply qa5);simp only[qab,qa4])
  |((apply qak);simp)))
 apply qa7;simp[zQ,Tryz.f215];exact qai rfl (by rfl)
theorem c193(s:Str) (hs:qd9 s) (hl:s.length<=1100000):CA T 193 [.str s] zH (qe1 (qcw s)) zH:=by
 have hc:=(c214g (T:=T) s hl 215 (fun c h=>c215 (T:=[e191]) rfl c h) c215h).lift (by simp[qa6,qa2]) ⟨0,[[]]⟩;generalize qcw s=W at *;refine qa1 (s0:=⟨[0,2],[.str s,uD],[],5,⟨0,[[]]⟩⟩) Tryz.func193 rfl rfl rfl ?_;apply qR;simp[zS];repeat apply wq
 refine qb0 (qci [⟨214,_,_,_,_,hc⟩]) ?_;simp[zS,qdz];apply qa7;simp[zQ,Tryz.f193];first|exact⟨[],[],FitH.empty⟩|exact qai rfl (by rfl)
theorem c133a(W x:Str) (hW:qd9 W) (hl:W.length<=1100000) (hx:x.length<=1000000000):CA T 133 [.str W,.str x] zH (.bool (inW W x)) zH:=
 c133 (T:=[e190,e191]) rfl rfl W x hl hx (c193 (T:=[]) W hW (by omega)) (c192 (T:=[e213]) rfl _ x (by have:=qpv W;omega))
def e133a:Entry PG:=mkE 133 [[],[]] (fun x:Str × Str=>[.str x.1,.str x.2]) (fun x=>qd9 x.1/\x.1.length<=1100000/\x.2.length<=1000000000) (fun x=>.bool (inW x.1 x.2)) fun x hx=>c133a (T:=[]) x.1 x.2 hx.1 hx.2.1 hx.2.2
theorem qv8(hT:qac 133 T=some e133a.g) {W x:Str} (hW:qd9 W) (hl:W.length<=1100000) (hx:x.length<=1000000000) (H:Heap):qb5 (ctx T) (.fn 133) [.str W,.str x] H=some (.bool (inW W x),H):=
 qb9 hT qx2 (W,x) ⟨hW,hl,hx⟩ rfl (by simp)
def ascW:Str->Bool
 |[]=>true
 |c::r=>match Nat.blt c.toNat 128 with
  |true=>ascW r
  |false=>false
theorem ascW_ok{W:Str} (_:ascW W=true):qd9 W:=trivial
def r133:Entry PG:=⟨133,fun args H=>match args with
 |[.str W,.str x]=>match ascW W && Nat.ble W.length 100000 && Nat.ble x.length 1000 with
  |true=>some (.bool (inB W x),H)
  |false=>none
 |_=>none,fun args H v H' h=>by
  split at h
  ·rename_i W x;split at h
   next hl=>rw[jf,jf]at hl;simp only[sj,jg]at h;obtain⟨rfl,rfl⟩:=h;rw[inB_eq];exact(c133a (T:=[]) W x (ascW_ok hl.1.1) (by have:=jG hl.1.2;omega) (by have:=jG hl.2;omega)).lift (by simp[qa6,qa2]) H
   ·cases h
  ·cases h⟩
def TW:List (Entry PG):=[r133]
structure RgE where
 C:Ctx
 call:qck
 ops:Array Oper
 bef:Array Nat
 base:Nat
def evE(A:RgE) (i:Nat) (l:List Oper) (s:St) (ps:List Pend) (hs:List (Nat × Heap)) (rs:List Rec):Option DrawSt:=qlm A.C A.call A.ops A.bef A.base i l ⟨s,ps,hs,rs⟩
section
variable {A:RgE} {i:Nat} {o:Oper} {r:List Oper} {s s':St} {ps:List Pend} {hs:List (Nat × Heap)} {rs:List Rec} {v:AV} {H:Heap}
def putE(A:RgE) (i:Nat) (r:List Oper) (ps:List Pend) (hs:List (Nat × Heap)) (rs:List Rec):Option St->Option DrawSt
 |none=>none
 |some s'=>evE A (i+1) r s' ps hs rs
def putX(A:RgE) (i:Nat) (r:List Oper) (ps:List Pend) (hs:List (Nat × Heap)) (rs:List Rec):Option St->Option DrawSt
 |none=>none
 |some s'=>evE A (i+1) r s' ps ((i,s'.H)::hs) rs
def valE(A:RgE) (i:Nat) (o:Oper) (r:List Oper) (s:St) (ps:List Pend) (hs:List (Nat × Heap)) (rs:List Rec):Option (AV × Heap)->Option DrawSt
 |none=>none
 |some v=>putE A i r ps hs rs (s.put o.dst v.1)
def redE(A:RgE) (i:Nat) (o:Oper) (r:List Oper) (s:St) (ps:List Pend) (hs:List (Nat × Heap)) (rs:List Rec):Option (AV × Heap)->Option DrawSt
 |none=>none
 |some v=>putE A i r ps hs (⟨i,o,s,v.1⟩::rs) (s.put o.dst v.1)
def actE(A:RgE) (i:Nat) (o:Oper) (r:List Oper) (s:St) (ps:List Pend) (hs:List (Nat × Heap)) (rs:List Rec):Option (AV × Heap)->Option DrawSt
 |none=>none
 |some v=>putX A i r (qba A.bef i ps) hs rs (St.put (s.wH v.2) o.dst v.1)
def layE(A:RgE) (i:Nat) (o:Oper) (r:List Oper) (s:St) (ps:List Pend) (hs:List (Nat × Heap)) (rs:List Rec):Option ((Nat->AV) × Blk)->Option DrawSt
 |none=>none
 |some k=>putE A i r (⟨i,A.base+i,k.2⟩::ps) hs rs (s.put o.dst (k.1 (A.base+i)))
def clsE(A:RgE) (i:Nat) (o:Oper) (r:List Oper) (s:St) (ps:List Pend) (hs:List (Nat × Heap)) (rs:List Rec):Cls->Option DrawSt
 |.allocs=>layE A i o r s ps hs rs (qbc A.C o s)
 |.acts=>actE A i o r s ps hs rs (qah A.C A.call o (s.wH (s.H.lay (qbd A.bef i ps))))
 |.reads=>redE A i o r s ps hs rs (qah A.C A.call o s)
 |.pure=>valE A i o r s ps hs rs (qah A.C A.call o s)
def clsF(A:RgE) (i:Nat) (o:Oper) (r:List Oper) (ps:List Pend) (hs:List (Nat × Heap)) (rs:List Rec):Cls->Option St->Option DrawSt
 |_,none=>none
 |.acts,some s'=>evE A (i+1) r (s'.wH (s'.H.lay (qbd A.bef i ps))) (qba A.bef i ps) ((i,s'.H.lay (qbd A.bef i ps))::hs) rs
 |.allocs,some s'=>evE A (i+1) r s' ps hs rs
 |.reads,some s'=>evE A (i+1) r s' ps hs rs
 |.pure,some s'=>evE A (i+1) r s' ps hs rs
def qyl(A:RgE) (i:Nat) (o:Oper) (r:List Oper) (s:St) (ps:List Pend) (hs:List (Nat × Heap)) (rs:List Rec):Option Bool->Option DrawSt
 |none=>none
 |some false=>clsF A i o r ps hs rs (qb4 o.op) (s.put o.dst (.tup []))
 |some true=>clsE A i o r s ps hs rs (qb4 o.op)
theorem qhg:evE A i [] s ps hs rs=some ⟨s,ps,hs,rs⟩:=rfl
theorem qhh:evE A i (o::r) s ps hs rs=qyl A i o r s ps hs rs (qar A.ops s o):=by
 show (qi7 A.C A.call A.ops A.bef A.base i o ⟨s,ps,hs,rs⟩).bind (fun d=>qlm A.C A.call A.ops A.bef A.base (Nat.succ i) r d)=_;cases hg:qar A.ops s o with
 |none=>unfold qi7;simp only[hg,qyl];rfl
 |some g=>
  cases g with
  |false=>
   simp only[qyl];unfold qi7;simp only[hg,jc];cases s.put o.dst (.tup [])with
   |none=>cases qb4 o.op<;>rfl
   |some s'=>cases qb4 o.op<;>rfl
  |true=>
   simp only[qyl];unfold qi7;simp only[hg,jc];cases hc:qb4 o.op with
   |allocs=>
    simp only[clsE];cases qbc A.C o s with
    |none=>rfl
    |some k=>simp only[jc,layE];cases s.put o.dst (k.1 (A.base+i))<;>rfl
   |acts=>
    simp only[clsE];cases qah A.C A.call o (s.wH (s.H.lay (qbd A.bef i ps)))with
    |none=>rfl
    |some v=>simp only[jc,actE];cases St.put (s.wH v.2) o.dst v.1<;>rfl
   |reads=>
    simp only[clsE];cases qah A.C A.call o s with
    |none=>rfl
    |some v=>simp only[jc,redE];cases s.put o.dst v.1<;>rfl
   |pure=>
    simp only[clsE];cases qah A.C A.call o s with
    |none=>rfl
    |some v=>simp only[jc,valE];cases s.put o.dst v.1<;>rfl
theorem qei:putE A i r ps hs rs (some s')=evE A (i+1) r s' ps hs rs:=rfl
theorem qeh:putX A i r ps hs rs (some s')=evE A (i+1) r s' ps ((i,s'.H)::hs) rs:=rfl
theorem qef:valE A i o r s ps hs rs (some (v,H))=putE A i r ps hs rs (s.put o.dst v):=rfl
theorem qeg:redE A i o r s ps hs rs (some (v,H))=putE A i r ps hs (⟨i,o,s,v⟩::rs) (s.put o.dst v):=rfl
theorem qew:actE A i o r s ps hs rs (some (v,H))=putX A i r (qba A.bef i ps) hs rs (St.put (s.wH H) o.dst v):=rfl
theorem qel{k:(Nat->AV) × Blk}:layE A i o r s ps hs rs (some k)=putE A i r (⟨i,A.base+i,k.2⟩::ps) hs rs (s.put o.dst (k.1 (A.base+i))):=rfl
theorem qdj:qyl A i o r s ps hs rs (some true)=clsE A i o r s ps hs rs (qb4 o.op):=rfl
theorem qeq:clsF A i o r ps hs rs .acts (some s')=evE A (i+1) r (s'.wH (s'.H.lay (qbd A.bef i ps))) (qba A.bef i ps) ((i,s'.H.lay (qbd A.bef i ps))::hs) rs:=rfl
theorem qep:clsF A i o r ps hs rs .allocs (some s')=evE A (i+1) r s' ps hs rs:=rfl
theorem qen:clsF A i o r ps hs rs .reads (some s')=evE A (i+1) r s' ps hs rs:=rfl
theorem qeo:clsF A i o r ps hs rs .pure (some s')=evE A (i+1) r s' ps hs rs:=rfl
theorem qdk:qyl A i o r s ps hs rs (some false)=clsF A i o r ps hs rs (qb4 o.op) (s.put o.dst (.tup [])):=rfl
theorem qet:clsE A i o r s ps hs rs .allocs=layE A i o r s ps hs rs (qbc A.C o s):=rfl
theorem qeu:clsE A i o r s ps hs rs .acts=actE A i o r s ps hs rs (qah A.C A.call o (s.wH (s.H.lay (qbd A.bef i ps)))):=rfl
theorem qes:clsE A i o r s ps hs rs .pure=valE A i o r s ps hs rs (qah A.C A.call o s):=rfl
theorem qer:clsE A i o r s ps hs rs .reads=redE A i o r s ps hs rs (qah A.C A.call o s):=rfl
end
theorem qhi{C:Ctx} {call:qck} {ops:Array Oper} {s:St} {E:Option DrawSt} {P:DrawSt->Prop} (B:Array Nat)
  (h:evE ⟨C,call,ops,B,s.H.n⟩ 0 ops.toList (qbh (qan ops.toList { s with ts:=[] }) ops.size) [] [] []=E) (k:∃d,E=some d/\P d) :
  ∃d,qlm C call ops B s.H.n 0 ops.toList ⟨qbh (qan ops.toList { s with ts:=[] }) ops.size,[],[],[]⟩=some d/\P d:=by
 subst h;exact k
theorem CallAt.post{C:Ctx} {f:FuncId} {args:List AV} {v v':AV} {H H1 H':Heap} {σ:List (Nat × Nat)} {Φ:List (Nat × List AV)} (h:CallAt C f args H v H1) (fv:qas σ Φ v v') (fh:FitH H.n σ Φ H1 H'):CallAt C f args H v' H':=by
 intro ρ w xs sm hx;have dn:∀{x:Value} {ρ':Place} {w':World},VR ρ' v x->Sim ρ' H1 w'->Step ρ H w ρ' H1 w'->∃ρ'',VR ρ'' v' x/\Sim ρ'' H' w'/\Step ρ H w ρ'' H' w':=fun {x ρ' w'} h1 h2 h3=>by
  have at_low:∀b,b < H.n->(qbw H.n σ Φ ρ' w' h2.below) b=ρ b:=fun b hb=>by show (if b < H.n then ρ' b else _)=_;rw[jo hb];exact h3.low b hb
  refine⟨qbw H.n σ Φ ρ' w' h2.below,Fits.run (fh.fits h2) h2 _ (ja _) h1 fv,fh.sim h2 h3.num,⟨⟨fun b l hb=>?_,fun k hk=>?_,?_,?_,?_⟩,h3.size,h3.keeps,fun e he l hl=>?_,fh.num,at_low,fun k hk=>?_⟩⟩
  ·have hlt:b < H.n:=by
    rcases jF b H.n with hq|hq
    ·exact hq
    ·rw[sm.dom b hq]at hb;cases hb
   rw[at_low b hlt];exact hb
  ·obtain⟨g1,g2⟩:=h3.le.fz k hk;exact⟨.inl g1,(h2.below k g1).trans g2⟩
  ·exact h2.os.trans h3.le.os
  ·exact h2.tape.trans h3.le.tape
  ·exact h2.output.trans h3.le.output
  ·obtain⟨c,k,g1,g2,_⟩:=fh.src e he;rw[qek fh g1]at hl;exact h3.rows _ (Heap.get_mem g2) l hl
  ·rcases hk with hk|⟨b,cs,l,m1,m2,rfl⟩
   ·exact h3.cold k hk
   ·obtain⟨cs0,g1,_⟩:=fh.frz _ m1;rcases h3.rows _ (Heap.get_mem g1) l m2 with⟨e,he,l0,q1,q2⟩|hge
    ·exact .inr (.inl ⟨e,he,l0,q1,q2⟩)
    ·exact .inr (.inr hge)
 rcases h ρ w xs sm hx with⟨x,ρ',w',h0,h1,h2,h3⟩|⟨g,ys,h0,h1⟩
 ·obtain⟨ρ'',k1,k2,k3⟩:=dn h1 h2 h3;exact .inl ⟨x,ρ'',w',h0,k1,k2,k3⟩
 ·refine .inr ⟨g,ys,h0,h1.mono ?_⟩;rintro e w' ⟨x,ρ',rfl,m1,m2,m3⟩;obtain⟨ρ'',k1,k2,k3⟩:=dn m1 m2 m3;exact⟨x,ρ'',rfl,k1,k2,k3⟩
theorem c189(L:List Int) (hl:L.length<=1000) (clo:FuncId) (cap:List AV) (hc:qa6 cap=true) (p:Int->Bool) (hp:∀a,a∈L->CA T clo (.int .i64 a::cap) zH (.bool (p a)) zH) :
  CA T 189 [qa8 L,.func (.func clo) [] cap] zH (.int .i64 (qb7 p L 0)) zH:=by
 refine qa1 (s0:=⟨[0,1,4,5,7,8],[qa8 L,.func (.func clo) [] cap,uD,uD,uD,uD],[],19,⟨0,[[]]⟩⟩) Tryz.func189 rfl rfl rfl ?_;apply qR;simp[zS];apply qR;simp[zS,qgi];refine qa3 (qb6 (fun i:Nat=>(⟨[0,1,4,5,7,8],[qa8 L,.func (.func clo) [] cap,uD,uD,.int .i64 L.length,.int .i64 i],[],19,⟨0,[[]]⟩⟩ : St))
  (fun i=>i<=L.length/\qb7 p L 0=qb7 p (L.drop i) i) (fun i=>L.length - i) [] [] 0 ⟨jx _,rfl⟩ ⟨rfl,rfl,rfl,by simp[qb8,qas,qa2,qa6,hc,qa8],FitH.nothing⟩ ?_)
 rintro i ⟨hi,hx⟩ B hB;apply qR;simp[zS];repeat apply wq
 refine qbe rfl (fun h=>?_) fun h=>?_
 ·simp at h;apply qa5;simp;repeat apply wq
  apply qa3;apply qR;simp[zS];repeat apply wq
  refine qb0 (qnr qaz [⟨clo,[.int .i64 L[i]]++cap,⟨0,[[]]⟩,.bool (p L[i]),⟨0,[[]]⟩,(hp L[i] (jA _)).lift (by simp[qa6,qa2,hc]) _⟩]) ?_;simp[zS,atI h,qdz];refine qbe rfl (fun h2=>?_) fun h2=>?_
  ·apply qR;simp[zS];apply qa7;simp[zQ,Tryz.f189];refine⟨[],[],?_,FitH.empty⟩;rw[hx,qfs h,jo h2];exact qbo rfl
  ·repeat apply wq
   apply qa5;simp;apply qR;simp[zS,qbb (show i<=1000000000 by omega)];refine hB _ (i+1) (by omega) ⟨by omega,?_⟩ ⟨[],[],⟨rfl,rfl,rfl,by simp[qb8,qas,qa2,qa6,hc,qa8],FitH.nothing⟩⟩;rw[hx,qfs h,h2];simp
 ·simp at h;apply qak;simp;apply qR;simp[zS];apply qa7;simp[zQ,Tryz.f189];refine⟨[],[],?_,FitH.empty⟩;rw[hx,ya (by omega)];exact qbo rfl
theorem qow{α:Type} {p:α->Bool}:∀(L:List α) (k:Nat),(qb7 p L k = -1/\∀a,a∈L->p a=false)\/∃i,∃h:i < L.length,qb7 p L k=(k+i:Nat)/\p L[i]=true/\∀a,a∈L.take i->p a=false
 |[],k=>.inl ⟨rfl,fun a ha=>by cases ha⟩
 |x::r,k=>by
  by_cases hx:p x=true
  ·exact .inr ⟨0,by simp,by simp[qb7,hx],by simpa using hx,fun a ha=>by simp at ha⟩
  ·simp only[Bool.not_eq_true]at hx;rcases qow r (k+1)with⟨h1,h2⟩|⟨i,h,h1,h2,h3⟩
   ·refine .inl ⟨by rw[qb7,jm (by simp[hx]),h1],fun a ha=>?_⟩;rcases jd.1 ha with rfl|ha
    ·exact hx
    ·exact h2 a ha
   ·refine .inr ⟨i+1,by simpa using h,by simp[qb7,hx,h1];omega,by simpa using h2,fun a ha=>?_⟩;rw[List.take_succ_cons]at ha;rcases jd.1 ha with rfl|ha
    ·exact hx
    ·exact h3 a ha
def owX(b:Nat) (K:List Int):AV:=match K with
 |[]=>.fslc 1 []
 |_::_=>.slc b 0 K.length (.rest 1)
def owB(b:Nat) (K:List Int):List (Nat × Blk):=match K with
 |[]=>[]
 |_::_=>[(b,.cells (qay K))]
theorem zaj{b:Nat} {K:List Int} (h:K≠[]):owX b K=.slc b 0 K.length (.rest 1):=by cases K<;>first|exact absurd rfl h|rfl
theorem owB_ne{b:Nat} {K:List Int} (h:K≠[]):owB b K=[(b,.cells (qay K))]:=by cases K<;>first|exact absurd rfl h|rfl
theorem thawI{H:Heap} {b:Nat} {r:List Nat} {cap:Cap} {L:List Int} (h:H.get b=some (.cells (qay L))):qco H (1::r) (.slc b 0 L.length cap)=some (qa8 L):=by have:=qsw (r:=r) (cap:=cap) (qca L) (by rw[qbf];exact h);rw[show (qay L).length=L.length by simp[qay]]at this;exact this
theorem ixO{b n i:Nat} {cap:Cap} (h:i < n):qaq PG 38 (.slc b 0 n cap) (.int .i64 (i:Int))=some (.ptr b i):=by simp[qaq,qbn h]
theorem qrk{L:List Int} {i:Nat} {v:Int} (h:i < L.length):qiz [.int .i64 v] i (qay L)=some (qay (L.set i v)):=by have:=lay_at (qca L) (i:=i) (e:=.int .i64 v) (by rw[qcc];exact h) rfl;simp only[Nat.mul_one,qbf,AV.cells]at this;rw[this,show (qay L).set i (.int .i64 v)=qay (L.set i v) by simp[qay,qat],qbf]
structure DelOk (L:List Int) (p:Int->Bool) (i j:Nat) (R:List Int):Prop where
 ij:i < j
 jn:j<=L.length
 len:R.length=L.length
 fr:R.take i=(L.take j).filter fun a=>!p a
 bk:R.drop j=L.drop j
theorem DelOk.at{L R:List Int} {p:Int->Bool} {i j:Nat} (h:DelOk L p i j R) (hj:j < L.length):R[j]'(by rw[h.len];exact hj)=L[j]:=by
 have hR:j < R.length:=by rw[h.len];exact hj
 have:=h.bk;rw[List.drop_eq_getElem_cons hR,List.drop_eq_getElem_cons hj]at this;exact(List.cons.inj this).1
theorem DelOk.keep{L R:List Int} {p:Int->Bool} {i j:Nat} (h:DelOk L p i j R) (hj:j < L.length) (hp:p L[j]=false):DelOk L p (i+1) (j+1) (R.set i L[j]):=by
 have hR:j < R.length:=by rw[h.len];exact hj
 have hij:=h.ij;refine⟨by omega,by omega,by simp[h.len],?_,?_⟩
 ·rw[jj hj,yU,<- h.fr,jj (by simp;omega)];simp[hp,List.take_set_of_le]
 ·rw[List.drop_set_of_lt (by omega)];have:=h.bk;rw[List.drop_eq_getElem_cons hR,List.drop_eq_getElem_cons hj]at this;exact(List.cons.inj this).2
theorem DelOk.pass{L R:List Int} {p:Int->Bool} {i j:Nat} (h:DelOk L p i j R) (hj:j < L.length) (hp:p L[j]=true):DelOk L p i (j+1) R:=by
 have hR:j < R.length:=by rw[h.len];exact hj
 have hij:=h.ij;refine⟨by omega,by omega,h.len,?_,?_⟩
 ·rw[jj hj,yU,<- h.fr];simp[hp]
 ·have:=h.bk;rw[List.drop_eq_getElem_cons hR,List.drop_eq_getElem_cons hj]at this;exact(List.cons.inj this).2
theorem DelOk.start{L:List Int} {p:Int->Bool} {i:Nat} (hi:i < L.length) (hp:p L[i]=true) (hb:∀a,a∈L.take i->p a=false):DelOk L p i (i+1) L:=by
 refine⟨by omega,by omega,rfl,?_,rfl⟩;rw[jj hi,yU];have:(L.take i).filter (fun a=>!p a)=L.take i:=yI.2 fun a ha=>by simp[hb a ha]
 simp[this,hp]
def zrs(n:Nat):List Int:=List.replicate n 0
theorem qwi:∀(n:Nat),replL [.int .i64 0] n=qay (zrs n)
 |0=>rfl
 |n+1=>by simp only[replL,qwi n,zrs,yS,qay,List.map_cons];rfl
theorem qxo{m i n:Nat} {f:List (Nat × Blk)} {R:List Int} (hf:getF 0 f=none) (hs:setF 0 (.cells (qay (R.take i++zrs (n - i)))) f=none) (hR:R.length=n) (hi:i < n) :
  qql PG ⟨m,[f,[(0,.cells (qay R))]]⟩ 38 (.slc 0 i (n - i) (.rest 1))=some ⟨m,[f,[(0,.cells (qay (R.take i++zrs (n - i))))]]⟩:=by
 have hl:=lay_end (qca R) (i:=i) (l:=qay (zrs (n - i))) (by rw[qcc];omega) (by rw[qcc,qcc,hR];simp[zrs]);rw[Nat.mul_one,qbf]at hl;have e:qaa ((qay R).take i)++qay (zrs (n - i))=qay (R.take i++zrs (n - i)):=by rw[show (qay R).take i=qay (R.take i) by simp[qay],qbf];simp[qay]
 rw[e]at hl;have hsng:allSingle (qay (zrs (n - i)))=true:=by
  have:∀(l:List Int),allSingle (qay l)=true:=by
   intro l;induction l with
   |nil=>rfl
   |cons x r ih=>simp only[qay,List.map_cons,allSingle,qat,AV.single]at ih ⊢;exact ih
  exact this _
 have hz:qby PG 3=some (.int .i64 0):=qjw;have hsz:qcj PG 3=some 1:=qhz;have hrf:(qay (zrs (n - i))).flatMap (refs 6)=[]:=by
  have:∀(l:List Int),(qay l).flatMap (refs 6)=[]:=by
   intro l;induction l with
   |nil=>rfl
   |cons x r ih=>simp only[qay,List.map_cons,yF,qat,refs]at ih ⊢;exact ih
  exact this _
 simp only[qql,Tryz.underlying38,jc,hz,hsz];simp[AV.cells,allSingle,AV.single,qwi,writeCells,Heap.get,getFs,hf,getF,Blk.wt,hl,Heap.ready,hrf,Heap.set,setFs,hs,setF,Blk.re]
theorem c1310(clo:FuncId) (cap:List AV) (hc:qa6 cap=true) :
  CA T 131 [.fslc 1 [],.func (.func clo) [] cap] zH (.fslc 1 []) zH:=by
 have hi:=c189 (T:=T) [] (by simp) clo cap hc (fun _=>false) (fun a ha=>by cases ha);have hk:=hi.lift (by simp[qa6,qa2,qa8,hc]) ⟨0,[[]]⟩;simp only[qa8,jP,qb7]at hk;refine qa1 (s0:=⟨[0,1,4,5,6,7],[.fslc 1 [],.func (.func clo) [] cap,uD,uD,uD,uD],[],42,⟨0,[[]]⟩⟩) Tryz.func131 rfl rfl rfl ?_;apply qR;simp[zS];repeat apply wq
 refine qb0 (qci [⟨189,_,_,_,_,hk⟩]) ?_;simp[zS,qdz];apply qR;simp[zS];apply qag rfl;apply qR;simp[zS];apply qa7;simp[zQ,Tryz.f131];exact⟨[],[],by simp[qas,qa2],FitH.empty⟩
theorem fitD{n m:Nat} {f:List (Nat × Blk)} {K:List Int} (hf:getF 0 f=none) (hn:n<=1):FitH n [(0,0)] [] ⟨m,[f,[(0,.cells (qay K))]]⟩ ⟨1,[[],[(0,.cells (qay K))]]⟩:=by refine .same (by simp) (by simp) (by simp) hn (by simp[Heap.ents]) ?_;intro e he;simp[Heap.ents]at he;subst he;exact⟨by simp,by simp[Heap.get,getFs,hf,getF],qau (qbq _)⟩
theorem c131(L:List Int) (hl:L.length<=1000) (hne:L≠[]) (clo:FuncId) (cap:List AV) (hc:qa6 cap=true) (p:Int->Bool) (hp:∀a,a∈L->CA T clo (.int .i64 a::cap) zH (.bool (p a)) zH) :
  CA T 131 [.slc 0 0 L.length (.rest 1),.func (.func clo) [] cap] ⟨1,[[(0,.cells (qay L))]]⟩ (owX 0 (L.filter fun a=>!p a)) ⟨1,[owB 0 (L.filter fun a=>!p a)]⟩:=by
 have hk:=CallAt.thaw (c189 (T:=T) L hl clo cap hc p hp) rfl [[1],[]] (H:=⟨1,[[],[(0,.cells (qay L))]]⟩) (args:=[.slc 0 0 L.length (.rest 1),.func (.func clo) [] cap])
  (by simp[qbl,thawI (H:=⟨1,[[],[(0,.cells (qay L))]]⟩) (b:=0) (r:=[]) (cap:=.rest 1) (L:=L) rfl,qam,okV,qa2,qa6,hc])
 have ends:∀(m:Nat) (K:List Int),K≠[]->FitH 1 [(0,0)] [] ⟨m,[[],[(0,.cells (qay K))]]⟩ ⟨1,[owB 0 K]⟩:=fun m K hK=>by rw[owB_ne hK];refine .same (by simp) (by simp) (by simp) (by simp) (by simp[Heap.ents]) ?_;intro e he;simp[Heap.ents]at he;subst he;exact⟨by simp,by simp[zG],qau (qbq _)⟩
 refine qa1 (s0:=⟨[0,1,4,5,6,7],[.slc 0 0 L.length (.rest 1),.func (.func clo) [] cap,uD,uD,uD,uD],[],42,⟨1,[]::[[(0,.cells (qay L))]]⟩⟩) Tryz.func131 rfl rfl rfl ?_;apply qR;simp[zS];repeat apply wq
 refine qb0 (qci [⟨189,_,_,_,_,hk⟩]) ?_;simp[zS,qdz];rcases qow (p:=p) L 0 with⟨h1,h2⟩|⟨i0,hi0,h1,h2,h3⟩
 ·have hK:(L.filter fun a=>!p a)=L:=yI.2 fun a ha=>by simp[h2 a ha]
  apply qR;simp[zS,h1];apply qag rfl;apply qR;simp[zS];apply qa7;simp[zQ,Tryz.f131];rw[hK];exact⟨[(0,0)],[],by rw[zaj hne];simp[qas,qaw],ends _ L hne⟩
 ·rw[jS]at h1;have hno:¬ ((i0:Int) = -1):=by omega
  apply qR;simp[zS,h1,hno];apply qaj rfl;apply qa5;simp;apply qR;simp[zS,qbb (show i0<=1000000000 by omega)];refine qa3 (qb6 (fun x:Nat × Nat × List Int=>(⟨[0,1,4,5,6,7],[.slc 0 0 L.length (.rest 1),.func (.func clo) [] cap,uD,.int .i64 x.1,.int .i64 x.2.1,uD],[],42,⟨1,[[],[(0,.cells (qay x.2.2))]]⟩⟩ : St))
   (fun x=>DelOk L p x.1 x.2.1 x.2.2) (fun x=>L.length - x.2.1) [(0,0)] [] (i0,i0+1,L) (.start hi0 h2 h3) ⟨rfl,rfl,rfl,by simp[qb8,qas,qaw,qa2,qa6,hc],fitD rfl (by omega)⟩ ?_)
  rintro⟨i,j,R⟩ hx B hB;simp only at hx;have hij:=hx.ij;have hjn:=hx.jn;have hRl:=hx.len;apply qR;simp[zS,qf3];refine qbe rfl (fun h=>?_) fun h=>?_
  ·simp at h;apply qa5;simp;repeat apply wq
   apply qa3;have hR:j < R.length:=(by omega);apply qR;simp[zS,ixO h,get1 hR,hx.at h];have hcall:=(hp L[j] (jA _)).lift (by simp[qa6,qa2,hc]) ⟨1,[[],[(0,.cells (qay R))]]⟩;repeat apply wq
   refine qb0 (qci [⟨clo,_,_,_,_,hcall⟩]) ?_;rcases yy (p L[j])with hv|hv
   case inr=>
    simp[zS,qdz,hv];apply qag rfl;apply qR;simp[zS,ixO (show i < L.length by omega),qrk (L:=R) (show i < R.length by omega),qbb (show i<=1000000000 by omega)];apply qR;simp[zS,qbb (show i<=1000000000 by omega)];apply qR;simp[zS,qbb (show j<=1000000000 by omega)];exact hB _ (i+1,j+1,R.set i L[j]) (by simp;omega) (hx.keep h hv) ⟨[(0,0)],[],rfl,rfl,rfl,by simp[qb8,qas,qaw,qa2,qa6,hc],fitD rfl (by omega)⟩
   case inl=>
    simp[zS,qdz,hv];apply qaj rfl;apply qa5;simp;apply qR;simp[zS,qbb (show j<=1000000000 by omega)];exact hB _ (i,j+1,R) (by simp;omega) (hx.pass h hv) ⟨[(0,0)],[],rfl,rfl,rfl,by simp[qb8,qas,qaw,qa2,qa6,hc],fitD rfl (by omega)⟩
  ·simp at h;have hje:j=L.length:=(by omega);subst hje;have hfr:R.take i=L.filter fun a=>!p a:=(by have:=hx.fr;rwa [yx]at this);apply qak;simp;have hs1:=qq2 (P:=PG) (H:=⟨1,[[],[(0,.cells (qay R))]]⟩) (t:=38) (elem:=3) (sz:=1) (b:=0) (cs:=qay R) (len:=L.length) (i:=i) Tryz.underlying38 qhz (by omega) rfl (by rw[qcc,hRl];omega) (by omega);have hcl:=qxo (m:=1) (i:=i) (n:=L.length) (f:=[]) (R:=R) rfl rfl hRl (by omega);have hs2:=qr0 (P:=PG) (H:=⟨1,[[],[(0,.cells (qay (R.take i++zrs (L.length - i))))]]⟩) (t:=38) (elem:=3) (sz:=1) (b:=0) (cs:=qay (R.take i++zrs (L.length - i))) (len:=L.length) (i:=i) Tryz.underlying38 qhz (by omega) rfl (by rw[qcc];simp[zrs];omega) (by omega) (by omega);apply qR;simp[zS,hs1,hcl,qhd];apply qR;simp[zS,hs2,qhd];rw[<- hfr];have hKl:(R.take i).length=i:=(by simp;omega);generalize R.take i=K at *;cases K with
   |nil=>
    apply qa7;simp[zQ,Tryz.f131];refine⟨[],[],?_,?_⟩
    ·simp only[yd]at hKl;subst hKl;simp[owX,qas]
    ·exact FitH.same (by simp) (by simp) (by simp) (by simp) (by simp[owB,Heap.ents]) (fun e he=>by simp[owB,Heap.ents]at he)
   |cons k K=>refine .shr (H':=⟨1,[[],[(0,.cells (qay (k::K)))]]⟩) ⟨rfl,⟨rfl,.inr ⟨qay (k::K),qay (zrs (L.length - i)),by simp[qay],rfl⟩,trivial⟩⟩ ?_;apply qa7;simp[zQ,Tryz.f131];refine⟨[(0,0)],[],?_,ends _ (k::K) (by simp)⟩;rw[zaj (by simp),hKl];simp[qas,qaw]
section
variable {ρ ρ':Place} {H H':Heap} {w w':World} {b:Nat} {k k':Blk}
end
theorem qgz{σ:List (Nat × Nat)} {Φ:List (Nat × List AV)}:∀{a a' b b':List AV},qb8 σ Φ a a'->qb8 σ Φ b b'->qb8 σ Φ (a++b) (a'++b')
 |[],[],_,_,_,h=>h
 |x::a,y::a',b,b',h,k=>by simp only[List.cons_append,qb8]at h ⊢;exact⟨h.1,qgz h.2 k⟩
 |[],_::_,_,_,h,_=>by simp[qb8]at h
 |_::_,[],_,_,h,_=>by simp[qb8]at h
section
variable {C:Ctx} {f:FuncId} {args:List AV} {v:AV} {H:Heap} {bt nb n n':Nat} {cap cap':Cap} {pre post cs cs':List AV}
end
def isB(t:Tr) (i:Int):Bool:=decide (0<=i) && decide (i < (t.length:Int))
theorem c88(t:Tr) (i:Int):CA T 88 [qao t,.int .i64 i] zH (.bool (isB t i)) zH:=by
 refine qa1 (s0:=⟨[0,1,2,4],[qao t,.int .i64 i,uD,uD],[],14,⟨0,[[]]⟩⟩) Tryz.func88 rfl rfl rfl ?_;apply qR;simp[zS,qao];by_cases h:0<=i
 ·apply qR;simp[zS,qlv,h];apply qa7;simp[zQ,Tryz.f88];exact qai rfl (by simp[isB,h])
 ·apply qR;simp[zS,qlv,h];apply qa7;simp[zQ,Tryz.f88];exact qai rfl (by simp[isB,h])
def qgo(t:Tr) (up:Int):Nat->Int->Bool
 |0,_=>false
 |n+1,kid=>if isB t kid=true then (if kid=up then true else qgo t up n (qa0 t kid).up) else false
def qft(t:Tr) (up kid:Int):Bool:=isB t up && qgo t up (t.length+1) kid
theorem qny(H:Heap) (t:Tr):qco H [7] (qao t)=some (qao t):=qam (by simp)
def e88:Entry PG:=mkE 88 [[7],[]] (fun x:Tr × Int=>[qao x.1,.int .i64 x.2]) (fun _=>True) (fun x=>.bool (isB x.1 x.2)) fun x _=>c88 (T:=[]) x.1 x.2
theorem k88(hT:qIn 88 T e88) (t:Tr) (i:Int) (H:Heap):qb5 (ctx T) (.fn 88) [qao t,.int .i64 i] H=some (.bool (isB t i),H):=
 qb9 hT qrp (t,i) trivial rfl (by simp[qny])
theorem c89(hS:qIn 88 T e88) (t:Tr) (ht:t.length<=1000000) (up kid:Int):CA T 89 [qao t,.int .i64 up,.int .i64 kid] zH (.bool (qft t up kid)) zH:=by
 have ks:=fun i H=>k88 hS t i H;simp only[qao]at ks;refine qa1 (s0:=⟨[0,1,2,3,6,14,15],[qao t,.int .i64 up,.int .i64 kid,uD,uD,uD,uD],[],31,⟨0,[[]]⟩⟩) Tryz.func89 rfl rfl rfl ?_;apply qR;simp[zS,qao];apply qR;simp[zS,qao,ks];cases h0:isB t up with
 |false=>apply qag rfl;apply qR;simp[zS];apply qa7;simp[zQ,Tryz.f89];exact qai rfl (by simp[qft,h0])
 |true=>
  apply qaj rfl;apply qa5;simp;apply qR;simp[zS,qlv,qao,qbb (show t.length<=1000000000 by omega)];refine qa3 (qb6 (fun x:Nat × Int=>(⟨[0,1,2,3,6,14,15],[uD,.int .i64 up,.int .i64 x.2,.ptr 0 0,uD,.int .i64 ((t.length:Int)+1),.int .i64 (x.1:Int)],[],31,⟨1,[[(0,.cells [qb3 t])]]⟩⟩ : St))
   (fun x=>x.1<=t.length+1/\qgo t up (t.length+1) kid=qgo t up (t.length+1 - x.1) x.2) (fun x=>t.length+1 - x.1) [(0,0)] [] (0,kid) ⟨by omega,rfl⟩ ⟨rfl,rfl,rfl,by simp[qb8,qas,qaw,qa2],.id1 (g:=[(0,.cells [qb3 t])]) (by simp) (by simp) (by simp[zG,qa6])⟩ ?_)
  rintro⟨i,k⟩ ⟨hi,hx⟩ B hB;simp only at hi hx;by_cases h:i < t.length+1
  ·have hc:(i:Int) < (t.length:Int)+1:=(by omega);have hs:t.length+1 - i=(t.length - i)+1:=(by omega);rw[hs]at hx;apply qR;simp[zS,hc];repeat apply wq
   apply qag rfl;apply qa5;simp;repeat apply wq
   apply qa3;apply qR;simp[zS,ks];cases h1:isB t k with
   |false=>apply qag rfl;apply qR;simp[zS];apply qa7;simp[zQ,Tryz.f89];exact qai rfl (by unfold qft;rw[h0,hx];simp[h0,qgo,h1])
   |true=>
    apply qaj rfl;apply qa5;simp;by_cases h2:k=up
    ·apply qR;simp[zS,h2];apply qag rfl;apply qR;simp[zS];apply qa7;simp[zQ,Tryz.f89];exact qai rfl (by unfold qft;rw[h0,hx];simp[h0,qgo,h1,h2])
    ·have hk:0<=k/\k < (t.length:Int):=(by simpa[isB]using h1);apply qR;simp[zS,h2];apply qaj rfl;apply qa5;simp;apply qR;simp[zS,atX hk.1 hk.2,Nd.cs,qat];apply qR;simp[zS,qbb (show i<=1000000000 by omega)];refine hB _ (i+1,(qa0 t k).up) (by simp only;omega) ⟨by simp only;omega,?_⟩ ⟨[(0,0)],[],rfl,rfl,rfl,by simp[qb8,qas,qaw,qa2],.id1 (g:=[(0,.cells [qb3 t])]) (by simp) (by simp) (by simp[zG,qa6])⟩;simp only;rw[show t.length+1 - (i+1)=t.length - i by omega,hx];simp[h0,qgo,h1,h2]
  ·have hc:¬ (i:Int) < (t.length:Int)+1:=(by omega);rw[show t.length+1 - i=0 by omega]at hx;apply qR;simp[zS,hc];repeat apply wq
   apply qaj rfl;apply qak;simp;apply qR;simp[zS];apply qa7;simp[zQ,Tryz.f89];exact qai rfl (by unfold qft;rw[h0,hx];simp[h0,qgo])
theorem injTII(x y:Tr × Int × Int) (h:[qao x.1,.int .i64 x.2.1,.int .i64 x.2.2]=[qao y.1,.int .i64 y.2.1,.int .i64 y.2.2]):x=y:=by simp at h;exact yv (qem h.1) (yv h.2.1 h.2.2)
theorem q88(hT:qIn 88 T e88) {a:AV} {H:Heap} {t:Tr} (ha:qco H [7] a=some (qao t)) (i:Int):qb5 (ctx T) (.fn 88) [a,.int .i64 i] H=some (.bool (isB t i),H):=
 qb9 hT qrp (t,i) trivial rfl (by simp[ha])
@[simp]theorem szT186:qcj PG 186=some 1:=rfl
@[simp]theorem agT186:qh4 PG 186=some false:=rfl
@[simp]theorem byT186:qch PG 186=some 24:=rfl
@[simp]theorem alT186(H:Heap):alV PG H 186=some (.ptr H.n 0,H.new (.cells [.nilS])):=rfl
@[simp]theorem zeT186:qby PG 186=some (.nilS):=rfl
attribute [simp] Tryz.underlying186
@[simp 500]theorem rvF186(H:Heap) (cs:List AV) (o:Nat):qb2 PG H 186 (.fptr cs o)=qcb cs o:=rfl
@[simp 500]theorem rvP186(H:Heap) (b o:Nat):qb2 PG H 186 (.ptr b o)=(H.get b).bind fun k=>k.rd.bind fun cs=>qcb cs o:=rfl
@[simp]theorem slz186(sz:Nat) (e:AV) (r:List AV):qex PG .eql 186 (.fslc sz (e::r)) .nilS=some (.bool false):=rfl
@[simp]theorem sln186(sz:Nat) (e:AV) (r:List AV):qex PG .neq 186 (.fslc sz (e::r)) .nilS=some (.bool true):=rfl
@[simp]theorem slze186:qex PG .eql 186 .eslc .nilS=some (.bool false):=rfl
@[simp]theorem slzz186:qex PG .eql 186 .nilS .nilS=some (.bool true):=rfl
theorem Sim.perm{ρ:Place} {H H2:Heap} {w:World} (h:Sim ρ H w) (n:H2.n=H.n) (p:H2.ents.Perm H.ents):Sim ρ H2 w where
 base:=h.base
 below:=h.below
 os:=h.os
 tape:=h.tape
 output:=h.output
 dom:=fun b hb=>h.dom b (n ▸ hb)
 nodup:=(p.map _).nodup_iff.2 h.nodup
 live:=fun e he=>h.live e (p.mem_iff.1 he)
 inj:=fun e e' he he'=>h.inj e e' (p.mem_iff.1 he) (p.mem_iff.1 he')
theorem Step.perm{ρ ρ':Place} {H H2 H' H2':Heap} {w w':World} (h:Step ρ H w ρ' H' w') (n:H2.n=H.n) (n':H2'.n=H'.n) (p:H2.ents.Perm H.ents) (p':H2'.ents.Perm H'.ents):Step ρ H2 w ρ' H2' w' where
 le:=h.le
 size:=h.size
 keeps:=fun k hk hn=>h.keeps k hk fun e he=>hn e (p.mem_iff.2 he)
 rows:=fun e' he' l' hl'=>by
  rcases h.rows e' (p'.mem_iff.1 he') l' hl' with⟨e,he,x⟩|x
  ·exact .inl ⟨e,p.mem_iff.2 he,x⟩
  ·exact .inr x
 num:=by rw[n,n'];exact h.num
 low:=fun b hb=>h.low b (n ▸ hb)
 cold:=fun k hk=>by
  rcases h.cold k hk with x|⟨e,he,x⟩|x
  ·exact .inl x
  ·exact .inr (.inl ⟨e,p.mem_iff.2 he,x⟩)
  ·exact .inr (.inr x)
theorem CallAt.perm{C:Ctx} {f:FuncId} {args:List AV} {H H2 H' H2':Heap} {v:AV} (h:CallAt C f args H v H') (n:H2.n=H.n) (n':H2'.n=H'.n) (p:H2.ents.Perm H.ents) (p':H2'.ents.Perm H'.ents):CallAt C f args H2 v H2':=by
 intro ρ w xs sm hx;have sm':=sm.perm n.symm p.symm;rcases h ρ w xs sm' hx with⟨x,ρ',w',h0,h1,h2,h3⟩|⟨g,ys,h0,h1⟩
 ·exact .inl ⟨x,ρ',w',h0,h1,h2.perm n' p',h3.perm n n' p p'⟩
 ·refine .inr ⟨g,ys,h0,h1.mono ?_⟩;rintro e w' ⟨x,ρ',rfl,m1,m2,m3⟩;exact⟨x,ρ',rfl,m1,m2.perm n' p',m3.perm n n' p p'⟩
theorem qwt{x:Nat × Blk} {f B g:List (Nat × Blk)}:(f++(x::(B++g))).Perm (x::(B++(f++g))):=by refine(List.perm_append_comm (l₁:=f) (l₂:=x::(B++g))).trans ?_;show (x::((B++g)++f)).Perm _;refine List.Perm.cons _ ?_;rw[List.append_assoc];exact List.Perm.append_left _ List.perm_append_comm
theorem CallAt.top{C:Ctx} {f:FuncId} {args:List AV} {v:AV} {m m':Nat} {x x':Nat × Blk} {fr B B' g g':List (Nat × Blk)} (h:CallAt C f args ⟨m,[x::(B++(fr++g))]⟩ v ⟨m',[x'::(B'++(fr++g'))]⟩):CallAt C f args ⟨m,[fr,x::(B++g)]⟩ v ⟨m',[fr,x'::(B'++g')]⟩:=
 h.perm rfl rfl (by simpa[Heap.ents]using qwt) (by simpa[Heap.ents]using qwt)
def idn(m:Nat):List (Nat × Nat):=(List.range m).map fun i=>(i,i)
theorem qe4{m i:Nat} (h:i < m):(i,i)∈idn m:=jw.2 ⟨i,by simpa using h,rfl⟩
theorem qip:∀{σ:List (Nat × Nat)} {i j:Nat},(σ.map (·.1)).Nodup->(i,j)∈σ->qaw i σ=some j
 |[],_,_,_,h=>by cases h
 |x::r,i,j,nd,h=>by
  rw[List.map_cons,jp]at nd;unfold qaw;rcases jd.1 h with rfl|h
  ·simp
  ·have hne:¬ x.1=i:=fun e=>nd.1 (jw.2 ⟨_,h,e.symm⟩);rw[jm hne];exact qip nd.2 h
theorem qie(m:Nat):((idn m).map (·.1)).Nodup:=by
 have:(idn m).map (·.1)=List.range m:=by simp[idn,yL]
 rw[this];exact List.nodup_range
theorem qkm(m:Nat):((idn m).map (·.2)).Nodup:=by
 have:(idn m).map (·.2)=List.range m:=by simp[idn,yL]
 rw[this];exact List.nodup_range
theorem qcm{m i:Nat} (h:i < m):qaw i (idn m)=some i:=qip (qie m) (qe4 h)
def Idl(m:Nat) (σ:List (Nat × Nat)):Prop:=∀i,i < m->qaw i σ=some i
theorem qmf(m:Nat):Idl m (idn m):=fun i h=>qcm h
theorem qx6{m k k':Nat} (h:m<=k):Idl m ((k,k')::idn m):=fun i hi=>by
 have:¬ k=i:=by omega
 simp[qaw,this,qcm hi]
def SelfB(m:Nat) (k:Blk):Prop:=∀σ,Idl m σ->qkw σ [] k k
theorem SelfB.mono{m m':Nat} {k:Blk} (h:SelfB m k) (hm:m<=m'):SelfB m' k:=fun σ hσ=>h σ fun i hi=>hσ i (by omega)
theorem qh9{m:Nat} {cs:List AV} (h:qa6 cs=true):SelfB m (.cells cs):=fun σ _=>qau h
structure Bs where
 k:Nat
 out:Str
def upd(m:Nat) (b:Bs) (s:Str):Bs:=match s with
 |[]=>b
 |_::_=>⟨m,b.out++s⟩
