/- attr.Add: attributes with one more. No condition. -/
import Derived.Test.YtnfdakclfmchfaaGreatML
namespace Go.Proofs.YtnfdakclfmchfaaGreat
noncomputable section
set_option linter.unusedSimpArgs false
set_option linter.unusedVariables false
open Go Go.RowKit
set_option maxRecDepth 100000
variable {T:List (Entry Tryz.prog)}
def qyj(t:Tr) (W:Str) (sc:Int) (i:Int):Option Bool:=if qbv (qbh t i) W=true then some true else if qgi sc (qbh t i).space (qbh t i).name=true then some false else none
def qgb(t:Tr) (L:List Int) (W:Str) (sc:Int):Bool:=(qp1 (fun j=>qyj t W sc (L.getD j 0)) L.length).getD false
def zb8(t:Tr) (L:List Int) (W:Str) (sc:Int):RgK:=⟨[0,1,2,3,4,6,7,8,10,11,13,14,15],[qba t,qac L,.str W,.int .i64 sc,.ptr 0 0,.ptr 1 0,.ptr 2 0,.ptr 3 0,uD,uD,qvf L,uD,uD],31,[14,15],rgA Tryz.f198.body,rgB Tryz.f198.body⟩
def rHas(t:Tr) (W:Str) (sc:Int) (r:Option Bool):List (Nat × Blk):=[(3,.cells [.bool (r.getD false)]),(2,.cells [.int .i64 sc]),(1,.cells [.str W]),(0,.cells [qcf t])]
theorem zb7(t:Tr) (L:List Int) (W:Str) (sc:Int):(zb8 t L W sc).Ok 4 (rHas t W sc) where
 vs:=fun σ hσ=>by simp[zb8,qax,qap,hσ 0 (by omega),hσ 1 (by omega),hσ 2 (by omega),hσ 3 (by omega),qnr,qa2]
 rows:=fun c=>by cases c<;>simp[rHas,qy0,qa3,qa2]
theorem za7(hN:qa9 157 T=some e157.g) (hI:qa9 76 T=some e76.g) (hS:qa9 51 T=some e51.g) (t:Tr) (L:List Int) (W:Str) (sc i:Int) (hW:qbx W) (hl:W.length<=100000) (hx:(qbh t i).name.length<=1000000000) (j:Int) :
  qg8 (ctx T) 4 [.int .i64 j,.int .i64 i] ⟨5,[[],(4,(zb8 t L W sc).blk .ready none [])::rHas t W sc none]⟩ (.bool (qyj t W sc i).isNone) ⟨5,[[],(zb8 t L W sc).rows 4 (rHas t W sc) (qyj t W sc i)]⟩:=by
 have kn:=fun H=>k157 hN t i H;have ki:=fun(H:Heap)=>q76 hI (H:=H) (a:=.agg [qcf t]) (t:=t) (by simp[qcy,okV,qa3,qba]) i hW hl hx;have ks:=fun(H:Heap)=>k51 hS sc (qbh t i).space (qbh t i).name hx H;simp only[qba]at kn;refine quc (zb7 t L W sc) (s1:=⟨[0,1,2,3,4,6,7,8,10,11,13,14,15],[qba t,qac L,.str W,.int .i64 sc,.ptr 0 0,.ptr 1 0,.ptr 2 0,.ptr 3 0,uD,uD,qvf L,.int .i64 j,.int .i64 i],[],31,⟨5,[[],[],(4,(zb8 t L W sc).blk .ready none [])::rHas t W sc none]⟩⟩) rfl fun l=>?_;generalize (zb8 t L W sc).blk .ready none []=B0;generalize (zb8 t L W sc).blk .busy none []=B1;have hg:qyj t W sc i=if qbv (qbh t i) W=true then some true else if qgi sc (qbh t i).space (qbh t i).name=true then some false else none:=rfl;rw[hg];clear hg;generalize qbv (qbh t i) W=b1 at *;generalize qgi sc (qbh t i).space (qbh t i).name=b2 at *;generalize qbh t i=n at *;simp only[zb8,rgA,rgB,qz3,Tryz.f198,Option.bind_some];refine qam qb6 ?_;simp[zN];refine⟨_,_,⟨rfl,rfl⟩,rfl,?_⟩;simp only[rHas,Option.getD_none]
 (repeat' (first
  |with_reducible apply qaa
  |with_reducible apply qa4
  |(with_reducible apply rE;simp[zS, *,Nd.cs,qag,qau];exact rfl)
  |(with_reducible apply qad;simp only[qab,qa5])
  |(refine qbf rfl (fun hc=>?_) (fun hc=>?_)<;>(have hd:=hc;(try simp at hd);(try subst hd)))
  |(with_reducible apply qa6;simp only[qab,qa5])
  |(with_reducible apply qa7;simp[zQ,Tryz.f198])))
 all_goals first|((first|exact⟨6,_,fun i hi=>qc6 (by omega),⟨rfl,rfl⟩,rfl⟩|exact⟨6,_,fun i hi=>qc6 (by omega),rfl,rfl⟩))|(exfalso;omega)
theorem c198(hc0:qa9 157 T=some e157.g) (hc1:qa9 76 T=some e76.g) (hc2:qa9 51 T=some e51.g) (hc3:qa9 130 T=some e130.g) (t:Tr) (L:List Int) (W:Str) (sc:Int) (hW:qbx W) (hl:W.length<=100000) (hL:L.length<=1000000) (hx:∀i,i∈L->(qbh t i).name.length<=1000000000):CallAt (ctx T) 198 [qba t,qac L,.str W,.int .i64 sc] zH (.bool (qgb t L W sc)) zH:=by
 have kc0:=@k157 T hc0;have kc2:=@k51 T hc2;have kc3:=@k130 T hc3;have kb:=fun H=>k130 hc3 L H;clear kc0 kc2 kc3;refine qa0 (s0:=⟨[0,1,2,3,4,6,7,8,10,11,13,14,15],[qba t,qac L,.str W,.int .i64 sc,uD,uD,uD,uD,uD,uD,uD,uD,uD],[],31,⟨0,[[]]⟩⟩) Tryz.func198 rfl rfl rfl ?_;apply qR;simp[zS,qba];apply qR;simp[zS,kb];apply qa4;refine qne (K:=zb8 t L W sc) (b:=4) (R:=rHas t W sc) (zb7 t L W sc) L hL (fun j=>qyj t W sc (L.getD j 0)) (fun j hj=>?_) rfl rfl ?_
 ·have:=za7 hc0 hc1 hc2 t L W sc L[j] hW hl (hx _ (List.getElem_mem hj)) (j:Int);rw[show L.getD j 0=L[j] by simp[List.getD_eq_getElem?_getD,hj]];exact this
 ·obtain⟨r,hr⟩ : ∃r,qp1 (fun j=>qyj t W sc (L.getD j 0)) L.length=r:=⟨_,rfl⟩;unfold qgb;rw[hr];cases r with
  |none=>simp[qrs,zb8,rHas];apply qR;simp[zS];apply qa7;simp[zQ,Tryz.f198];exact⟨[.bool false],rfl,[],[],qbd rfl,FitH.empty⟩
  |some i=>simp[qrs,zb8,rHas,qab,qa5];exact⟨[.bool i],rfl,[],[],qbd rfl,FitH.empty⟩
theorem inj_198(x y:Tr × List Int × Str × Int) (h:(fun z:Tr × List Int × Str × Int=>([qba z.1,qac z.2.1,.str z.2.2.1,.int .i64 z.2.2.2]:List AV)) x=(fun z:Tr × List Int × Str × Int=>([qba z.1,qac z.2.1,.str z.2.2.1,.int .i64 z.2.2.2]:List AV)) y):x=y:=by obtain⟨x0,x1,x2,x3⟩:=x;obtain⟨y0,y1,y2,y3⟩:=y;simp only[List.cons.injEq,and_true]at h;obtain⟨h0,h1,h2,h3⟩:=h;have g0:x0=y0:=qfg h0;have g1:x1=y1:=qd2 h1;have g2:x2=y2:=AV.str.inj h2;have g3:x3=y3:=AV.int.inj h3 |>.2;subst g0 g1 g2 g3;rfl
def e198:Entry PG:=mkE 198 [[7],[1],[],[]] (fun z:Tr × List Int × Str × Int=>[qba z.1,qac z.2.1,.str z.2.2.1,.int .i64 z.2.2.2]) (fun z=>(qbx z.2.2.1)/\(z.2.2.1.length<=100000)/\(z.2.1.length<=1000000)/\(∀i,i∈z.2.1->(qbh z.1 i).name.length<=1000000000)) (fun z=>.bool (qgb z.1 z.2.1 z.2.2.1 z.2.2.2)) fun z h=>c198 (T:=[e157,e76,e51,e130]) rfl rfl rfl rfl z.1 z.2.1 z.2.2.1 z.2.2.2 h.1 h.2.1 h.2.2.1 h.2.2.2
theorem q198(hT:qa9 198 T=some e198.g) {H:Heap} {a0:AV} {t:Tr} (b0:qcy H [7] a0=some (qba t)) {a1:AV} {L:List Int} (b1:qcy H [1] a1=some (qac L)) (W:Str) (sc:Int) (hW:qbx W) (hl:W.length<=100000) (hL:L.length<=1000000) (hx:∀i,i∈L->(qbh t i).name.length<=1000000000):qat (ctx T) (.fn 198) [a0,a1,.str W,.int .i64 sc] H=some (.bool (qgb t L W sc),H):=
 qb2 hT inj_198 (t,L,W,sc) ⟨hW,hl,hL,hx⟩ rfl (by simp[b0,b1])
theorem qj7{H:Heap} {b:Nat} {L:List Int} (h:L≠[]->H.get b=some (.cells (L.map qau))):∃σ Φ,qap σ Φ (qcv b 1 (L.map qau)) (qcv 0 1 (L.map qau))/\FitH 0 σ Φ H ⟨1,[qd6 0 (L.map qau)]⟩:=by
 cases L with
 |nil=>exact⟨[],[],by simp[qcv,qap],.keep0 rfl⟩
 |cons x r=>refine⟨[(b,0)],[],qeg (by simp[qav]),.keep1 (h (by simp)) (qsi _) ?_⟩;simp[qd6,qfk];rw[<- List.map_cons (f:=qau),qfk]
def qmn(t:Tr) (L:List Int) (W:Str):List Int:=(qn9 (fun(b:Bool) _=>!b) (fun b i=>if b=true then true else qbv (qbh t i) W) false L.reverse).1.reverse
def qz8(t:Tr) (W:Str) (b:Bool):List (Nat × Blk):=[(2,.cells [.bool b]),(1,.cells [.str W]),(0,.cells [qcf t])]
theorem cut_pop(hI:qa9 76 T=some e76.g) (t:Tr) (W:Str) (i:Int) (hW:qbx W) (hl:W.length<=100000) (hx:(qbh t i).name.length<=1000000000) (b:Bool) :
  CallAt (ctx T) 187 (.int .i64 i::[.ptr 2 0,.ptr 0 0,.ptr 1 0]) ⟨3,[[],qz8 t W b]⟩ (.bool !b) ⟨3,[[],qz8 t W (if b=true then true else qbv (qbh t i) W)]⟩:=by
 have ki:=fun(H:Heap)=>q76 hI (H:=H) (a:=.agg [qcf t]) (t:=t) (by simp[qcy,okV,qa3,qba]) i hW hl hx;generalize qbv (qbh t i) W=b1 at *;have fin:∀b n,FitH 3 (idn 3) [] ⟨n,[[],[],qz8 t W b]⟩ ⟨3,[[],qz8 t W b]⟩:=fun b n=>qlw (Nat.le_refl 3) (by simp[Heap.ents,qz8]) (fun e he=>by simp[Heap.ents,qz8]at he;rcases he with rfl|rfl|rfl<;>exact⟨by simp,qgz (by simp[qa3,qa2]),by simp[zG,qz8]⟩) (Nat.le_refl 3);unfold qz8 at fin ⊢;cases b with
 |true=>
  refine qa0 (s0:=⟨[0,1,2,3,5],[.int .i64 i,.ptr 2 0,.ptr 0 0,.ptr 1 0,uD],[],11,⟨3,[]::[[],[(2,.cells [.bool true]),(1,.cells [.str W]),(0,.cells [qcf t])]]⟩⟩) Tryz.func187 rfl rfl rfl ?_
  (repeat' (first
   |with_reducible apply qaa
   |(with_reducible apply rE;simp[zS, *];exact rfl)
   |(with_reducible apply qad;simp only[qab,qa5])
   |apply qah rfl
   |(with_reducible apply qa7;simp[zQ,Tryz.f187])))
  all_goals first|(exact⟨_,_,by simp[qap,qa2],fin true _⟩)|(exfalso;omega)
 |false=>
  refine qa0 (s0:=⟨[0,1,2,3,5],[.int .i64 i,.ptr 2 0,.ptr 0 0,.ptr 1 0,uD],[],11,⟨3,[]::[[],[(2,.cells [.bool false]),(1,.cells [.str W]),(0,.cells [qcf t])]]⟩⟩) Tryz.func187 rfl rfl rfl ?_
  (repeat' (first
   |with_reducible apply qaa
   |(with_reducible apply rE;simp[zS, *];exact rfl)
   |(with_reducible apply qad;simp only[qab,qa5])
   |apply qai rfl
   |(with_reducible apply qa6;simp only[qab,qa5])
   |(with_reducible apply qa7;simp[zQ,Tryz.f187])))
  all_goals first|(exact⟨_,_,by simp[qap,qa2],fin b1 _⟩)|(exfalso;omega)
theorem c129(hC:qa9 78 T=some e78.g) (hI:qa9 76 T=some e76.g) (t:Tr) (L:List Int) (W:Str) (hW:qbx W) (hl:W.length<=100000) (hL:L.length<=1000000) (hx:∀i,i∈L->(qbh t i).name.length<=1000000000) :
  CallAt (ctx T) 129 [qba t,qac L,.str W] zH (qcv 0 1 ((qmn t L W).map qau)) ⟨1,[qd6 0 ((qmn t L W).map qau)]⟩:=by
 have hc:=cut_at (T:=T) hC (m:=3) (rows:=qz8 t W) (fn:=187) (cap:=[.ptr 2 0,.ptr 0 0,.ptr 1 0]) (fun x=>⟨by simp[qz8],fun e he=>by simp[qz8]at he;rcases he with rfl|rfl|rfl<;>exact⟨by simp,_,rfl,by simp[qa3,qa2]⟩⟩) L hL (by simp[qax,qap,qdz]) (fun x i hi=>cut_pop hI t W i hW hl (hx i hi) x) false;rw[show (qn9 (fun(b:Bool) _=>!b) (fun b i=>if b=true then true else qbv (qbh t i) W) false L.reverse).1.reverse=qmn t L W from rfl]at hc;generalize (qn9 (fun(b:Bool) _=>!b) (fun b i=>if b=true then true else qbv (qbh t i) W) false L.reverse).2=b at hc;generalize qmn t L W=M at *;unfold qz8 at hc;refine qa0 (s0:=⟨[0,1,2,3,5,6,7],[qba t,qac L,.str W,uD,uD,uD,uD],[],11,⟨0,[[]]⟩⟩) Tryz.func129 rfl rfl rfl ?_;apply qR;simp[zS,qba];apply qR;simp[zS];repeat apply wq
 refine qam (qbu [⟨186,_,_,_,_,hc⟩]) ?_;simp[zS,qd9];apply qa7;simp[zQ,Tryz.f129];exact qj7 fun hne=>by rw[(qk0 hne).2];simp[zG]
theorem zbc(x y:Tr × List Int × Str) (h:([qba x.1,qac x.2.1,.str x.2.2]:List AV)=[qba y.1,qac y.2.1,.str y.2.2]):x=y:=by simp only[List.cons.injEq,and_true,AV.str.injEq]at h;exact Prod.ext (qfg h.1) (Prod.ext (qd2 h.2.1) h.2.2)
def e129:Entry PG:=mkL 129 [[7],[1],[]] (fun x:Tr × List Int × Str=>[qba x.1,qac x.2.1,.str x.2.2]) (fun x=>qbx x.2.2/\x.2.2.length<=100000/\x.2.1.length<=1000000/\∀i,i∈x.2.1->(qbh x.1 i).name.length<=1000000000) (fun x=>qmn x.1 x.2.1 x.2.2)
 fun x h=>c129 (T:=[e78,e76]) rfl rfl x.1 x.2.1 x.2.2 h.1 h.2.1 h.2.2.1 h.2.2.2
theorem k129(hT:qa9 129 T=some e129.g) {t:Tr} {L:List Int} {W:Str} (hW:qbx W) (hl:W.length<=100000) (hL:L.length<=1000000) (hx:∀i,i∈L->(qbh t i).name.length<=1000000000) {a:AV} {H:Heap} (ha:qcy H [7] a=some (qba t)) :
  qat (ctx T) (.fn 129) [a,qac L,.str W] H=some (qac (qmn t L W),H):=
 qsq hT zbc (t,L,W) ⟨hW,hl,hL,hx⟩ (by simp[qbb,ha,qaj])
def qus(t:Tr) (W:Str) (i:Int):Bool:=decide ((qbh t i).kind=1) && qhm (qbh t i).space (qbh t i).name && !inW W (qbh t i).name
def qgt(t:Tr) (L:List Int) (W:Str):List Int:=(qn9 (fun(_:Unit) i=>qus t W i) (fun _ _=>()) () L.reverse).1.reverse
def qz9(t:Tr) (W:Str) (_:Unit):List (Nat × Blk):=[(1,.cells [.str W]),(0,.cells [qcf t])]
theorem cut_imp(hN:qa9 157 T=some e157.g) (hI:qa9 203 T=some e203.g) (hw:qa9 133 T=some e133a.g) (t:Tr) (W:Str) (i:Int) (hW:qbx W) (hl:W.length<=100000) (hx:(qbh t i).name.length<=1000000000) (b:Unit) :
  CallAt (ctx T) 202 (.int .i64 i::[.ptr 0 0,.ptr 1 0]) ⟨2,[[],qz9 t W b]⟩ (.bool (qus t W i)) ⟨2,[[],qz9 t W ()]⟩:=by
 have kn:=fun H=>k157 hN t i H;have ki:=fun H=>k203 hI (qbh t i).space (qbh t i).name H;have kw:=fun H=>qo8 hw (x:=(qbh t i).name) hW hl hx H;have eg:qus t W i=(decide ((qbh t i).kind=1) && qhm (qbh t i).space (qbh t i).name && !inW W (qbh t i).name):=rfl;rw[eg];clear eg;generalize qhm (qbh t i).space (qbh t i).name=b1 at *;generalize inW W (qbh t i).name=b2 at *;generalize qbh t i=n at *;simp only[qba]at kn;have fin:∀f n,(∀j,j < 2->getF j f=none)->FitH 2 (idn 2) [] ⟨n,[f,[],qz9 t W b]⟩ ⟨2,[[],qz9 t W b]⟩:=fun f n hf=>qlw (Nat.le_refl 2) (by simp[Heap.ents,qz9]) (fun e he=>by simp[Heap.ents,qz9]at he;rcases he with rfl|rfl<;>exact⟨by simp,qgz (by simp[qa3,qa2]),by simp[zG,qz9,hf]⟩) (Nat.le_refl 2);unfold qz9 at fin ⊢;refine qa0 (s0:=⟨[0,1,2,4,5],[.int .i64 i,.ptr 0 0,.ptr 1 0,uD,uD],[],26,⟨2,[]::[[],[(1,.cells [.str W]),(0,.cells [qcf t])]]⟩⟩) Tryz.func202 rfl rfl rfl ?_
 (repeat' (first
  |with_reducible apply qaa
  |(with_reducible apply rE;simp[zS, *,qag,Nd.cs,qau];exact rfl)
  |(with_reducible apply qad;simp only[qab,qa5])
  |(with_reducible refine qe3 (fun hc=>?_) (fun hc=>?_)<;>(have hd:=hc;(try simp at hd);(try subst hd);apply qz1;simp[zS, *,qag,Nd.cs,qau];exact rfl))
  |(with_reducible apply qa7;simp[zQ,Tryz.f202])))
 all_goals first|(exact⟨_,_,by first|(simp[qap,qa2, *];done)|(simp_all [qap,qa2];done),fin _ _ fun j hj=>qc6 (by omega)⟩)|(exfalso;omega)
@[simp]theorem szT170:qc1 PG 170=some 1:=rfl
@[simp]theorem agT170:qgc PG 170=some false:=rfl
@[simp]theorem byT170:qce PG 170=some 24:=rfl
@[simp]theorem alT170(H:Heap):alV PG H 170=some (.ptr H.n 0,H.new (.cells [.nilS])):=rfl
@[simp]theorem zeT170:qbq PG 170=some (.nilS):=rfl
attribute [simp] Tryz.underlying170
@[simp 500]theorem rvF170(H:Heap) (cs:List AV) (o:Nat):qaq PG H 170 (.fptr cs o)=qca cs o:=rfl
@[simp 500]theorem rvP170(H:Heap) (b o:Nat):qaq PG H 170 (.ptr b o)=(H.get b).bind fun k=>k.rd.bind fun cs=>qca cs o:=rfl
@[simp]theorem slz170(sz:Nat) (e:AV) (r:List AV):qda PG .eql 170 (.fslc sz (e::r)) .nilS=some (.bool false):=rfl
@[simp]theorem sln170(sz:Nat) (e:AV) (r:List AV):qda PG .neq 170 (.fslc sz (e::r)) .nilS=some (.bool true):=rfl
@[simp]theorem slze170:qda PG .eql 170 .eslc .nilS=some (.bool false):=rfl
@[simp]theorem slzz170:qda PG .eql 170 .nilS .nilS=some (.bool true):=rfl
abbrev qle(L:List Int):List AV:=qa8 (L.map qau)
theorem qqf(L:List Int):(qle L).length=L.length * 1:=by rw[qle,qfk];simp
theorem qsb(L:List Int):qa3 (qle L)=true:=(qg6 L).pure
theorem rwIi_app(A B:List Int):qle (A++B)=qle A++qle B:=by simp only[qle,List.map_append,qbk]
def itZ:List AV:=[.int .i64 0]
def qek(n:Nat):List AV:=replL itZ n
theorem qor(n:Nat):(qek n).length=n * 1:=qsc n
theorem qjd:∀(n:Nat),qa3 (qek n)=true
 |0=>rfl
 |n+1=>by simp only[qek,replL,qdn];have:=qjd n;unfold qek at this;rw[this];rfl
theorem qtr:∀(a b:Nat),qek (a+b)=qek a++qek b
 |0,b=>by simp[qek,replL]
 |a+1,b=>by have:=qtr a b;unfold qek at this ⊢;rw[Nat.add_right_comm];simp only[replL,this,List.append_assoc]
@[simp]theorem blt_capIi{H:Heap}:qc0 PG H .cap #[38] [.nilS]=some (.int .i64 0,H):=by simp[qc0]
theorem grow_Ii{H:Heap} {n:Nat} (h0:0 < n) (h:n<=1000000):qyh PG H 3 .nilS (.int .i64 (n:Int))=some (.slc H.n 0 n (.rest 1),H.new (.cells (qek n))):=by
 obtain⟨q,rfl⟩ : ∃q,n=q+1:=⟨n - 1,by omega⟩;have h1:idx ((q+1:Nat):Int) 140737488355328=some (q+1):=qbj (by omega);obtain⟨by_,hby⟩ : ∃b,qce PG 3=some b:=⟨_,qxh⟩;have hb2:by_=8:=by rw[qxh]at hby;exact(Option.some.inj hby).symm
 have h3:qde (q+1) 8=true:=by unfold qde;rw[Nat.ble_eq];omega
 have hrow:∀cs,qpi PG 3 cs=.cells cs:=fun cs=>rfl;have hzz:qbq PG 3=some (.int .i64 0):=qvk;unfold qyh;simp only[qmt,qxh,hzz,Option.bind_some,h1,h3,hrow];rfl
theorem sl_nilIi{H:Heap}:qcs PG H 38 .nilS none (some (.int .i64 0)) none=some .nilS:=by simp[qcs,qr3,qch];rfl
theorem c2170:CallAt (ctx T) 217 [.nilS,.int .i64 0] zH .nilS zH:=by
 have hl:∀H,qeq PG H 38 .nilS=some 0:=fun H=>by simp[qeq]
 have hw0:wr .i64 0=some 0:=qbs (by omega) (by omega);refine qa0 (s0:=⟨[0,1,4],[.nilS,.int .i64 0,uD],[],27,⟨0,[[]]⟩⟩) Tryz.func217 rfl rfl rfl ?_;apply qR;simp[zS];apply qR;simp[zS];apply qai rfl;apply qa6;simp;apply qR;simp[zS,hl,hw0];apply qR;simp[zS];apply qai rfl;apply qa6;simp;apply qR;simp[zS];apply qa7;simp[zQ,Tryz.f217];exact qak rfl rfl
theorem c217{n:Nat} (h0:0 < n) (h:n<=1000000):CallAt (ctx T) 217 [.nilS,.int .i64 (n:Int)] zH (.slc 0 0 0 (.rest 1)) ⟨1,[[(0,.cells (qek n))]]⟩:=by
 have hg:=fun H=>grow_Ii (H:=H) h0 h;have hp:(0:Int) < (n:Int):=by omega
 have hn:¬ (n:Int) < 0:=by omega
 have hw:wr .i64 (n:Int)=some (n:Int):=qbs (by omega) (by omega);have hl:∀H,qeq PG H 38 .nilS=some 0:=fun H=>by simp[qeq]
 have hb:Heap.get ⟨1,[[(0,.cells (qek n))]]⟩ 0=some (.cells (qek n)):=rfl;have hsl:=qqd (P:=PG) (H:=⟨1,[[(0,.cells (qek n))]]⟩) (t:=38) (b:=0) (len:=n) (i:=0) (cs:=qek n) Tryz.underlying38 qmt (by omega) hb (qor n) (by omega) h0;simp only[Int.natCast_zero,Int.ofNat_zero,Int.cast_ofNat_Int]at hsl;refine qa0 (s0:=⟨[0,1,4],[.nilS,.int .i64 (n:Int),uD],[],27,⟨0,[[]]⟩⟩) Tryz.func217 rfl rfl rfl ?_;apply qR;simp[zS];apply qR;simp[zS,hn];refine qai (by simp[qbr,St.get,hn]) ?_;apply qa6;simp;have hw0:wr .i64 0=some 0:=qbs (by omega) (by omega);apply qR;simp[zS,hl,hw,hw0];apply qR;simp[zS,hp];refine qah (by simp[qbr,St.get,h0]) ?_;apply qR;simp[zS,sl_nilIi,hg,hl,hsl];apply qR;simp[zS];apply qa7;simp[zQ,Tryz.f217];exact⟨[(0,0)],[],by simp[qap,qav],FitH.keep1 (b:=0) (by simp[zG]) (qjd n) rfl⟩
def qou(LL:List (List Int)):AV:=.fslc 1 (LL.map qac)
@[simp]theorem pure_aIIi(LL:List (List Int)):qa2 (qou LL)=true:=by simp[qou,qa2]
theorem atIIi{LL:List (List Int)} {i:Nat} (h:i < LL.length):qan PG 170 (qou LL) (.int .i64 (i:Int))=some (.fptr [qac LL[i]] 0):=by simp[qan,qou,qbj h,qgn h,AV.cells]
theorem zb4{H:Heap} {LL:List (List Int)}:qeq PG H 170 (qou LL)=some LL.length:=by simp[qeq,qou]
theorem qy4{H:Heap} {b:Nat} {L:List Int}:H.ready b (qle L)=H:=by have:(qle L).flatMap (refs 6)=[]:=qdu _ _ (qsb L);unfold Heap.ready;rw[this]
theorem qyx{m b k:Nat} {A B:List Int} {g:List (Nat × Blk)} {fs:List (List (Nat × Blk))} (hk:B.length<=k) (hr:A.length+B.length<=1000000) :
  qby PG ⟨m,((b,.cells (qle A++qek k))::g)::fs⟩ 3 (.slc b 0 A.length (.rest 1)) (qac B)=some (.slc b 0 (A.length+B.length) (.rest 1),⟨m,((b,.cells (qle (A++B)++qek (k - B.length)))::g)::fs⟩):=by
 have hg:Heap.get ⟨m,((b,.cells (qle A++qek k))::g)::fs⟩ b=some (.cells (qle A++qek k)):=by simp[zG]
 have hkn:qbp ⟨m,((b,.cells (qle A++qek k))::g)::fs⟩ b=some (A.length * 1+k * 1):=by rw[qbp,hg];simp only[Option.bind_some,qfc,List.length_append,qqf,qor]
 have hroom:qde (A.length+B.length) 8=true:=by unfold qde;rw[Nat.ble_eq];omega
 have hsrc:∀H,qb3 H 1 B.length (qac B)=some (qle B):=fun H=>by simp[qb3,List.take_of_length_le]
 have hsing:allSingle (qle B)=true:=qpe B;have hble:Nat.ble (0+(A.length+B.length) * 1) (A.length * 1+k * 1)=true:=by rw[Nat.ble_eq];omega
 have hsplit:qek k=qek B.length++qek (k - B.length):=by rw[<- qtr];congr 1;omega
 have hlay:qjh (qle B) (0+A.length * 1) (qle A++qek k)=some (qle (A++B)++qek (k - B.length)):=by have:=qef (a:=qle A) (b:=qek B.length) (b':=qle B) (c:=qek (k - B.length)) (by rw[qor,qqf]);rw[qqf]at this;rw[hsplit,<- List.append_assoc,show 0+A.length * 1=A.length * 1 by omega,this,rwIi_app]
 have hzz:qbq PG 3=some (.int .i64 0):=qvk;unfold qby;simp only[qmt,qxh,hzz,Option.bind_some,qc3,List.length_map,hsrc,hroom,hsing,hkn,hble];simp only[writeCells,hg,Option.bind_some,Blk.wt,hlay,qy4,Blk.re];simp[Heap.set,setFs,setF];rfl
def qmm(LL:List (List Int)) (i:Nat):Nat:=(LL.take i).flatten.length
theorem sumIi_at{LL:List (List Int)} {i:Nat} (h:i < LL.length):qmm LL (i+1)=qmm LL i+LL[i].length:=by unfold qmm;rw[List.take_succ_eq_append_getElem h,List.flatten_append];simp
theorem qvp{LL:List (List Int)} {i:Nat}:qmm LL i<=LL.flatten.length:=by
 unfold qmm;have:LL.flatten=(LL.take i).flatten++(LL.drop i).flatten:=by rw[<- List.flatten_append,List.take_append_drop]
 rw[this,List.length_append];omega
theorem c196(LL:List (List Int)) (hmx:LL.flatten.length<=1000000) (hl:LL.length<=1000):CallAt (ctx T) 196 [qou LL] zH (qcv 0 1 (LL.flatten.map qau)) ⟨1,[qd6 0 (LL.flatten.map qau)]⟩:=by
 obtain⟨M,hM⟩ : ∃M,M=LL.flatten:=⟨_,rfl⟩;rw[<- hM];refine qa0 (s0:=⟨[0,2,3,5,6,8,9,10,11,25,26,27],[qou LL,uD,uD,uD,uD,uD,uD,uD,uD,uD,uD,uD],[],36,⟨0,[[]]⟩⟩) Tryz.func196 rfl rfl rfl ?_;apply qR;simp[zS];apply qR;simp[zS];apply qR;simp[zS,zb4];refine qa4 (qb1 (fun i:Nat=>(⟨[0,2,3,5,6,8,9,10,11,25,26,27],[qou LL,uD,.int .i64 (qmm LL i:Nat),uD,uD,uD,qou LL,.int .i64 (LL.length:Nat),.int .i64 i,uD,uD,uD],[],36,⟨0,[[]]⟩⟩ : St))
  (fun i=>i<=LL.length) (fun i=>LL.length - i) [] [] 0 (Nat.zero_le _) ⟨rfl,rfl,rfl,by simp[qax,qap,qa2,qa3,qou,qmm],FitH.nothing⟩ ?_)
 rintro i hi B hB;apply qR;simp[zS];repeat apply wq
 refine qbf rfl (fun h=>?_) fun h=>?_
 ·simp at h;apply qa6;simp;repeat apply wq
  apply qa4;have hs:=sumIi_at h;have hle:=qvp (LL:=LL) (i:=i+1);have hadd:wr .i64 ((qmm LL i:Int)+(LL[i].length:Int))=some (qmm LL (i+1):Int):=by rw[qbs (by omega) (by omega),hs];simp
  have hneg:¬ ((qmm LL (i+1):Nat):Int) < 0:=by omega
  apply qR;simp[zS,atIIi h];apply qR;simp[zS,qn0,hadd];apply qR;simp[zS,hneg];refine qai (by simp[qbr,St.get,hneg]) ?_;apply qa6;simp;apply qR;simp[zS,qbo (show i<=1000000000 by omega)];exact hB _ (i+1) (by omega) (by omega) ⟨[],[],⟨rfl,rfl,rfl,by simp[qax,qap,qa2,qa3,qou],FitH.nothing⟩⟩
 ·simp at h;have hie:i=LL.length:=by omega
  subst hie;apply qas;simp;have he:qmm LL LL.length=LL.flatten.length:=by simp[qmm]
  obtain⟨F,hF⟩ : ∃F:Nat->List Int,F=fun i=>(LL.take i).flatten:=⟨_,rfl⟩;have hF0:F 0=[]:=by rw[hF];simp
  have hFn:F LL.length=LL.flatten:=by rw[hF];simp
  have hFs:∀(i:Nat) (h:i < LL.length),F (i+1)=F i++LL[i]:=fun i h=>by rw[hF];show (LL.take (i+1)).flatten=_;rw[List.take_succ_eq_append_getElem h,List.flatten_append];simp
  have hFl:∀i,(F i).length<=LL.flatten.length:=fun i=>by rw[hF];exact qvp
  rw[he];by_cases h0:LL.flatten.length=0
  ·have hgr:=(c2170 (T:=T)).lift (by simp[qa3,qa2]) ⟨0,[[]]⟩;have hfl:LL.flatten=[]:=List.eq_nil_of_length_eq_zero h0;have hLi:∀(i:Nat) (h:i < LL.length),LL[i]=[]:=fun i h=>(by have:=hFs i h;have hl1:=hFl (i+1);rw[this,List.length_append]at hl1;exact List.eq_nil_of_length_eq_zero (by omega));rw[h0,hM,hfl];try simp only[Int.natCast_zero,Int.ofNat_zero,Int.cast_ofNat_Int]
   repeat apply wq
   refine qam (qbu [⟨217,_,_,_,_,hgr⟩]) ?_;simp[zS,qd9];apply qR;simp[zS,zb4];refine qa4 (qb1 (fun i:Nat=>(⟨[0,2,3,5,6,8,9,10,11,25,26,27],[uD,uD,uD,uD,.nilS,uD,uD,uD,uD,qou LL,.int .i64 (LL.length:Nat),.int .i64 i],[],36,⟨0,[[]]⟩⟩ : St))
    (fun i=>i<=LL.length) (fun i=>LL.length - i) [] [] 0 (Nat.zero_le _) ⟨rfl,rfl,rfl,by simp[qax,qap,qa2,qa3,qou],FitH.nothing⟩ ?_)
   rintro i hi B hB;apply qR;simp[zS];repeat apply wq
   refine qbf rfl (fun h=>?_) fun h=>?_
   ·simp at h;apply qa6;simp;repeat apply wq
    apply qa4;have happ:∀H,qby PG H 3 .nilS (qac [])=some (.nilS,H):=fun H=>rfl;have hat:=atIIi h;rw[hLi i h]at hat;simp only[qac,List.map_nil]at happ hat;apply qR;simp[zS,hat];apply qR;simp[zS,happ];apply qR;simp[zS,qbo (show i<=1000000000 by omega)];exact hB _ (i+1) (by omega) (by omega) ⟨[],[],⟨rfl,rfl,rfl,by simp[qax,qap,qa2,qa3,qou],FitH.nothing⟩⟩
   ·simp at h;have hie:i=LL.length:=(by omega);subst hie;apply qas;simp;apply qR;simp[zS];apply qa7;simp[zQ,Tryz.f196];exact qj7 (b:=0) (L:=[]) fun hne=>absurd rfl hne
  ·have h0:0 < LL.flatten.length:=(by omega);have hgr:=(c217 (T:=T) h0 hmx).new (by simp[qa3,qa2]) (qjd _) ⟨0,[[]]⟩;obtain⟨n,hn⟩ : ∃n,n=LL.flatten.length:=⟨_,rfl⟩;have hFn2:(F LL.length).length=n:=(by rw[hFn,hn]);rw[<- hn]at hgr h0 hmx hFl ⊢;rw[hM,<- hFn];repeat apply wq
   refine qam (qbu [⟨217,_,_,_,_,hgr⟩]) ?_;simp[zS,qd9];apply qR;simp[zS,zb4];have pr:∀i k,qa3 (qle (F i)++qek k)=true:=fun i k=>(by rw[qdn,qsb,qjd];rfl);refine qa4 (qb1 (fun i:Nat=>(⟨[0,2,3,5,6,8,9,10,11,25,26,27],[uD,uD,uD,uD,.slc 0 0 (F i).length (.rest 1),uD,uD,uD,uD,qou LL,.int .i64 (LL.length:Nat),.int .i64 i],[],36,⟨1,[[(0,.cells (qle (F i)++qek (n - (F i).length)))]]⟩⟩ : St))
    (fun i=>i<=LL.length) (fun i=>LL.length - i) [(0,0)] [] 0 (Nat.zero_le _)
    ⟨rfl,rfl,rfl,by simp[qax,qap,qav,qa2,qou,hF0],.keep1 (by rw[hF0];simp[zG,qle,qa8]) (pr 0 _) rfl⟩ ?_)
   rintro i hi B hB;apply qR;simp[zS];repeat apply wq
   refine qbf rfl (fun h=>?_) fun h=>?_
   ·simp at h;apply qa6;simp;repeat apply wq
    apply qa4;have hs:=hFs i h;have hle:=hFl (i+1);have hs2:(F (i+1)).length=(F i).length+LL[i].length:=(by rw[hs,List.length_append]);have happ:=fun g fs=>qyx (m:=1) (b:=0) (k:=n - (F i).length) (A:=F i) (B:=LL[i]) (g:=g) (fs:=fs) (by omega) (by omega);have hk:n - (F i).length - LL[i].length=n - (F (i+1)).length:=(by rw[hs2];omega);simp only[<- hs,<- hs2,hk]at happ;apply qR;simp[zS,atIIi h];apply qR;simp[zS,happ];apply qR;simp[zS,qbo (show i<=1000000000 by omega)];exact hB _ (i+1) (by omega) (by omega) ⟨[(0,0)],[],rfl,rfl,rfl,by simp[qax,qap,qav,qa2,qou],.keep1 (by simp[zG]) (pr _ _) rfl⟩
   ·simp at h;have hie:i=LL.length:=(by omega);subst hie;have hz:qle (F LL.length)++qek (n - (F LL.length).length)=qle (F LL.length):=(by rw[hFn2,Nat.sub_self];simp[qek,replL]);rw[hz];generalize F LL.length=G at *;apply qas;simp;apply qR;simp[zS];apply qa7;simp[zQ,Tryz.f196];have hGne:G≠[]:=fun e=>(by rw[e]at hFn2;simp at hFn2;omega);have:=qj7 (L:=G) (b:=0) (H:=⟨1,[[(0,.cells (qle G))]]⟩) fun hne=>(by simp[zG,qle,qfk]);rw[(qk0 (k:=0) hGne).1]at this ⊢;exact this
def e196:Entry PG:=mkL 196 [[1]] (fun x:List (List Int)=>[qou x]) (fun x=>x.flatten.length<=1000000/\x.length<=1000) (fun x=>x.flatten) fun x h=>c196 (T:=[]) x h.1 h.2
theorem inj_aIIi(x y:List (List Int)) (h:[qou x]=[qou y]):x=y:=by
 simp only[qou,List.cons.injEq,AV.fslc.injEq,and_true,true_and]at h;have:∀x y:List (List Int),x.map qac=y.map qac->x=y:=by
  intro x;induction x with
  |nil=>intro y h;cases y with
   |nil=>rfl
   |cons a r=>cases h
  |cons a r ih=>intro y h;cases y with
   |nil=>cases h
   |cons b q=>simp only[List.map_cons,List.cons.injEq]at h;rw[qd2 h.1,ih q h.2]
 exact this x y h
theorem k196(hT:qa9 196 T=some e196.g) {LL:List (List Int)} (hl:LL.flatten.length<=1000000) (hn:LL.length<=1000) {a:AV} {H:Heap} (ha:qcy H [1] a=some (qou LL)) :
  qat (ctx T) (.fn 196) [a] H=some (qac LL.flatten,H):=
 qsq hT inj_aIIi LL ⟨hl,hn⟩ (by simp[qbb,ha])
theorem putN0(hT:qa9 144 T=some e144.g) {s:SS} (ne:s.tree≠[]) (up at_ kd:Int) (x:Str) (ok:SOk s) {n k:Nat} {fr:List (Nat × Blk)} (k0:0 < k) (kn:k < n) (of:qga k fr) :
  qat (ctx T) (.fn 144) [.ptr 0 0,.int .i64 up,.int .i64 at_,.agg [.int .i64 kd,.int .i64 0,.str [],.nilS,.str x,.int .i64 0,.nilS]] ⟨n,[fr,VS k s]⟩=some (.int .i64 (s.tree.length:Int),⟨n+1,[fr,VS n { s with tree:=qwh s.tree up at_ ⟨kd,0,[],[],x,0,[]⟩ }]⟩):=
 qct hT zbh (up,at_,⟨kd,0,[],[],x,0,[]⟩) ne ⟨ok,by simp⟩ (by simp[qa3,qa2]) (by simp[qbb,qcy,qjf,qhd,okV,qag,Nd.cs,qau,qaf,qac,qa2,qa3]) k0 kn of
def ntT(t:Tr) (up:Int) (data:Str):Tr:=qwh t up ((qa1 t up).kids.length:Int) ⟨3,0,[],[],data,0,[]⟩
def ntP(s:SS) (up:Int):Int:=if isB s.tree up=true then up else whP s.tree (qgd s.opn)
theorem c84(hc0:qa9 44 T=some e44.g) (hc1:qa9 137 T=some e137.g) (hc2:qa9 162 T=some e162.g) (hc3:qa9 144 T=some e144.g) {s:SS} (ne:s.tree≠[]) (data:Str) (up:Int) (hf:s.foster=false) (ok:SOk s):SC T 84 [.str data,.int .i64 up] s (.tup []) ({ s with tree:=ntT s.tree (ntP s up) data }):=by
 have kc0:=@k44 T hc0;have kc1:=@k137 T hc1;have kc2:=@k162 T hc2;have g0:=@vg0;have v0:=@vset;have kT:=fun H=>kc0 (L:=s.opn) (by have:=ok.op;omega) H;have bld:qdw PG 65 [(0,.int .i64 3),(4,.str data)]=some (.agg [.int .i64 3,.int .i64 0,.str [],.nilS,.str data,.int .i64 0,.nilS]):=rfl;have kP:=fun up at_ n k fr=>@putN0 T hc3 s ne up at_ 3 data ok n k fr;have ln:=fun H k=>lenN' (k:=k) (t:=s.tree) H;have hw:ntP s up=if 0<=up/\up < (s.tree.length:Int) then up else whP s.tree (qgd s.opn):=by unfold ntP isB;simp only[Bool.and_eq_true,decide_eq_true_eq]
 refine qa0 (s0:=⟨[0,1,2,6],[.ptr 0 0,.str data,.int .i64 up,uD],[],41,⟨2,[]::[VS 1 s]⟩⟩) Tryz.func84 rfl rfl rfl ?_
 (repeat' (first
  |with_reducible apply qaa
  |(with_reducible apply rE;simp[zS, *,SS.post,whV,ln];exact rfl)
  |(with_reducible apply qad;simp only[qab,qa5])
  |(with_reducible refine qe3 (fun hc=>?_) (fun hc=>?_)<;>(have hd:=hc;(try simp at hd);(try subst hd);apply qz1;simp[zS, *,SS.post,whV,ln];exact rfl))
  |apply qai rfl
  |(refine qbf rfl (fun hc=>?_) (fun hc=>?_)<;>(have hd:=hc;(try simp at hd);(try subst hd)))))
 all_goals first|((try simp[zQ,Tryz.f84]);exact qbz (by rfl) (by simp only[hw,ntT,hf];split<;>first|rfl|(exfalso;omega)) (by simp[qa2,qa3]) (by decide) (qbi _ _ _ _) rfl rfl)|(exfalso;omega)
theorem inj_84(x y:Str × Int) (h:(fun z:Str × Int=>([.str z.1,.int .i64 z.2]:List AV)) x=(fun z:Str × Int=>([.str z.1,.int .i64 z.2]:List AV)) y):x=y:=by obtain⟨x0,x1⟩:=x;obtain⟨y0,y1⟩:=y;simp only[List.cons.injEq,and_true]at h;obtain⟨h0,h1⟩:=h;have g0:x0=y0:=AV.str.inj h0;have g1:x1=y1:=AV.int.inj h1 |>.2;subst g0 g1;rfl
def e84:Entry PG:=mkS 84 [[],[]] (fun z:Str × Int=>[.str z.1,.int .i64 z.2]) (fun z s=>(s.foster=false)/\(SOk s)) (fun z s=>.tup []) (fun z s=>{ s with tree:=ntT s.tree (ntP s z.2) z.1 }) fun z s ne h=>⟨c84 (T:=[e44,e137,e162,e144]) rfl rfl rfl rfl ne z.1 z.2 h.1 h.2,by simp[qa3,qa2],by simp[qa2,qa3],qbi _ _ _ _⟩
theorem k84(hT:qa9 84 T=some e84.g) {s:SS} (ne:s.tree≠[]) (data:Str) (up:Int) (hf:s.foster=false) (ok:SOk s) {n k:Nat} {fr:List (Nat × Blk)} (k0:0 < k) (kn:k < n) (of:qga k fr):qat (ctx T) (.fn 84) [.ptr 0 0,.str data,.int .i64 up] ⟨n,[fr,VS k s]⟩=some (.tup [],⟨n+1,[fr,VS n ({ s with tree:=ntT s.tree (ntP s up) data })]⟩):=
 qct hT inj_84 (data,up) ne ⟨hf,ok⟩ (by simp[qa3,qa2]) (by simp[qbb,qaj]) k0 kn of
def qp0(t:Tr) (i:Nat) (s:Str):Tr:=t.take i++{ qa1 t i with data:=s }::t.drop (i+1)
theorem qw2(t:Tr) (i:Nat) (s:Str):qp0 t i s≠[]:=by simp[qp0]
theorem za3{t:Tr} {i:Nat} (h:i < t.length) (s:Str):(qp0 t i s).length=t.length:=by simp[qp0];omega
theorem lay_dt{t:Tr} {i:Nat} (h:i < t.length) (x:Str):qjh [.str x] (i * 7+4) (qa8 (t.map qag))=some (qa8 ((qp0 t i x).map qag)):=by
 have hl:(qa8 ((t.take i).map qag)).length=i * 7:=by rw[(qbw _).len];simp;omega
 have e1:qa8 (t.map qag)=(qa8 ((t.take i).map qag)++[qau (qa1 t i).kind,qau (qa1 t i).space,.str (qa1 t i).name,qaf (qa1 t i).attrs])++[.str (qa1 t i).data]++([qau (qa1 t i).up,qac (qa1 t i).kids]++qa8 ((t.drop (i+1)).map qag)):=by
  conv=>lhs;rw[qem h]
  simp[qbk,qa8,Nd.cs]
 have e2:qa8 ((qp0 t i x).map qag)=(qa8 ((t.take i).map qag)++[qau (qa1 t i).kind,qau (qa1 t i).space,.str (qa1 t i).name,qaf (qa1 t i).attrs])++[.str x]++([qau (qa1 t i).up,qac (qa1 t i).kids]++qa8 ((t.drop (i+1)).map qag)):=by unfold qp0;simp[qbk,qa8,Nd.cs]
 rw[e1,e2];have:=qef (a:=qa8 ((t.take i).map qag)++[qau (qa1 t i).kind,qau (qa1 t i).space,.str (qa1 t i).name,qaf (qa1 t i).attrs]) (b:=[.str (qa1 t i).data]) (b':=[.str x]) (c:=[qau (qa1 t i).up,qac (qa1 t i).kids]++qa8 ((t.drop (i+1)).map qag)) rfl;rw[List.length_append,hl]at this;exact this
theorem set_k{s:SS} {k:Nat} {t:Tr} (k0:0 < k) (ne:s.tree≠[]) (hl:t.length=s.tree.length):setF k (.cells (qa8 (t.map qag))) (VS k s)=some (VS k { s with tree:=t }):=by
 have ne':t≠[]:=by intro e;rw[e]at hl;exact ne (List.length_eq_zero_iff.1 hl.symm)
 rw[qf4 ne,qf4 (by exact ne')];have b1:Nat.beq 0 k=false:=qb4 (by omega);simp[setF,b1,hl,SS.post]
def chN(t:Tr) (u:Int) (x:Str):Tr:=qwh t u ((qa1 t u).kids.length:Int) ⟨2,0,[],[],x,0,[]⟩
def chT(t:Tr) (top:Int) (x:Str):Tr:=
 if x=[]\/whP t top=0 then t else match (qa1 t (whP t top)).kids.getLast? with
  |some k=>if (qa1 t k).kind=2 then qp0 t k.toNat ((qa1 t k).data++x) else chN t (whP t top) x
  |none=>chN t (whP t top) x
theorem chT_ne{t:Tr} (ne:t≠[]) (top:Int) (x:Str):chT t top x≠[]:=by
 unfold chT;split
 ·exact ne
 ·split
  ·split
   ·exact qw2 _ _ _
   ·exact qbi _ _ _ _
  ·exact qbi _ _ _ _
structure KOk (t:Tr):Prop where
 kr:∀n,n∈t->∀k,k∈n.kids->0<=k/\k < (t.length:Int)
 dl:∀n,n∈t->n.data.length<=1000000000
theorem c54(hc0:qa9 44 T=some e44.g) (hc1:qa9 137 T=some e137.g) (hc2:qa9 144 T=some e144.g) {s:SS} (ne:s.tree≠[]) (x:Str) (hf:s.foster=false) (ok:SOk s) (kk:KOk s.tree) (hx:x.length<=1000000000):SC T 54 [.str x] s (.tup []) ({ s with tree:=chT s.tree (qgd s.opn) x }):=by
 have kc0:=@k44 T hc0;have kc1:=@k137 T hc1;have g0:=@vg0;have v0:=@vset;have kT:=fun H=>kc0 (L:=s.opn) (by have:=ok.op;omega) H;have bld:qdw PG 65 [(0,.int .i64 2),(4,.str x)]=some (.agg [.int .i64 2,.int .i64 0,.str [],.nilS,.str x,.int .i64 0,.nilS]):=rfl;have kP:=fun up at_ n k fr=>@putN0 T hc2 s ne up at_ 2 x ok n k fr;clear kc0;obtain⟨u,hu,hul⟩:=qzh ne (qgd s.opn);obtain⟨K,hK⟩ : ∃K,K=(qa1 s.tree (u:Int)).kids:=⟨_,rfl⟩;have kr:∀k,k∈K->0<=k/\k < (s.tree.length:Int):=fun k hk=>kk.kr _ (qh2 (by omega) (by omega)) k (hK ▸ hk);have hwv:whV s.tree (u:Int)=.tup [.int .i64 (u:Int),.int .i64 (K.length:Int)]:=by rw[hK];rfl
 have hKl:K.length<=100000:=hK ▸ ok.kd _ (qh2 (by omega) (by omega));by_cases h1:x=[]
 ·have e:chT s.tree (qgd s.opn) x=s.tree:=by unfold chT;rw[if_pos (.inl h1)]
  rw[e];refine qa0 (s0:=⟨[0,1,4,5,6],[.ptr 0 0,.str x,uD,uD,uD],[],63,⟨2,[]::[VS 1 s]⟩⟩) Tryz.func54 rfl rfl rfl ?_
  (repeat' (first
   |with_reducible apply qaa
   |(with_reducible apply rE;simp[zS, *,SS.post];exact rfl)
   |(with_reducible apply qad;simp only[qab,qa5])
   |apply qah rfl
   |(with_reducible apply qa7;simp[zQ,Tryz.f54])))
  all_goals first|((try simp[zQ,Tryz.f54]);exact qbz rfl (by first|rfl|(simp[*];done)) rfl (by decide) ne rfl rfl)|(exfalso;omega)
 ·by_cases h0:u=0
  ·have e:chT s.tree (qgd s.opn) x=s.tree:=(by unfold chT;rw[if_pos (.inr (by rw[hu,h0];rfl))]);rw[e];subst h0;rw[show (((0:Nat)):Int)=0 from rfl]at hwv;refine qa0 (s0:=⟨[0,1,4,5,6],[.ptr 0 0,.str x,uD,uD,uD],[],63,⟨2,[]::[VS 1 s]⟩⟩) Tryz.func54 rfl rfl rfl ?_
   (repeat' (first
    |with_reducible apply qaa
    |(with_reducible apply rE;simp[zS, *,SS.post];exact rfl)
    |(with_reducible apply qad;simp only[qab,qa5])
    |apply qah rfl
    |(with_reducible apply qa7;simp[zQ,Tryz.f54])))
   all_goals first|((try simp[zQ,Tryz.f54]);exact qbz rfl (by first|rfl|(simp[*];done)) rfl (by decide) ne rfl rfl)|(exfalso;omega)
  ·have h0':¬ ((u:Int)=0):=(by omega);have e:chT s.tree (qgd s.opn) x=match K.getLast? with
     |some k=>if (qa1 s.tree k).kind=2 then qp0 s.tree k.toNat ((qa1 s.tree k).data++x) else chN s.tree (u:Int) x
     |none=>chN s.tree (u:Int) x:=by unfold chT;rw[if_neg (by rw[hu];exact fun h=>h.elim h1 h0'),hu,<- hK]
   rw[e];clear e;rcases List.eq_nil_or_concat K with hn|⟨K0,k,hc⟩
   ·rw[hn];simp only[List.getLast?_nil];have e2:chN s.tree (u:Int) x=qwh s.tree (u:Int) (0:Nat) ⟨2,0,[],[],x,0,[]⟩:=(by unfold chN;rw[<- hK,hn];rfl);rw[e2];subst hn;clear e2 hK kr;refine qa0 (s0:=⟨[0,1,4,5,6],[.ptr 0 0,.str x,uD,uD,uD],[],63,⟨2,[]::[VS 1 s]⟩⟩) Tryz.func54 rfl rfl rfl ?_
    (repeat' (first
     |with_reducible apply qaa
     |(with_reducible apply rE;simp[zS, *,SS.post];exact rfl)
     |(with_reducible apply qad;simp only[qab,qa5])
     |apply qai rfl
     |(with_reducible apply qa6;simp only[qab,qa5])))
    all_goals first|((try simp[zQ,Tryz.f54]);exact qbz rfl (by first|rfl|(simp[*];done)) rfl (by decide) (qbi _ _ _ _) rfl rfl)|(exfalso;omega)
   ·rw[List.concat_eq_append]at hc;obtain⟨kn,rfl⟩ : ∃kn:Nat,k=(kn:Int):=⟨k.toNat,by have:=(kr k (by rw[hc];simp)).1;omega⟩;have hkn:kn < s.tree.length:=(by have:=(kr (kn:Int) (by rw[hc];simp)).2;omega);rw[hc];simp only[List.getLast?_append,List.getLast?_singleton,Option.some_or];have hlen:K.length=K0.length+1:=(by rw[hc];simp);have hw:wr .i64 ((K0.length:Int)+1 - 1)=some (K0.length:Int):=by
     have:=qqa (q:=K0.length) (by omega)
     rwa [show (((K0.length+1:Nat):Int) - 1)=(K0.length:Int)+1 - 1 by omega]at this
    have hw2:wr .i64 (K0.length:Int)=some (K0.length:Int):=(by rwa [Int.add_sub_cancel]at hw);have hat:qan PG 38 (qac K) (.int .i64 (K0.length:Int))=some (.fptr [.int .i64 (kn:Int)] 0):=(by rw[atI (by omega)];simp[hc]);have lK:∀H,qeq PG H 38 (qac K)=some (K0.length+1):=fun H=>(by rw[qn0,hlen]);have hpos:(0:Int) < (K0.length:Int)+1:=(by omega);have gk:=fun k=>vgk (k:=k) (s:=s);have ix:=fun k=>ixN (k:=k) hul;have gN:=getN (c:=6) hul (by omega);rw[show (qa1 s.tree (u:Int)).cs=[qau (qa1 s.tree (u:Int)).kind,qau (qa1 s.tree (u:Int)).space,.str (qa1 s.tree (u:Int)).name,qaf (qa1 s.tree (u:Int)).attrs,.str (qa1 s.tree (u:Int)).data,qau (qa1 s.tree (u:Int)).up,qac K] by rw[hK];rfl]at gN;have ix2:=fun k=>ixN (k:=k) hkn;have gN0:=getN (c:=0) hkn (by omega);rw[Nat.add_zero]at gN0;have gN4:=getN (c:=4) hkn (by omega);have hcat:=catStr (x:=(qa1 s.tree (kn:Int)).data) (y:=x) (by have:=kk.dl _ (qh2 (t:=s.tree) (i:=(kn:Int)) (by omega) (by omega));omega);have hld:=lay_dt hkn ((qa1 s.tree (kn:Int)).data++x);have hsk:=fun k k0=>@set_k s k (qp0 s.tree kn ((qa1 s.tree (kn:Int)).data++x)) k0 ne (za3 hkn _);have hwv':whV s.tree (u:Int)=.tup [.int .i64 (u:Int),.int .i64 ((K0.length:Int)+1)]:=(by rw[hwv,hlen];rfl);clear hwv;by_cases h2:(qa1 s.tree (kn:Int)).kind=2
    ·rw[if_pos h2];have e3:(kn:Int).toNat=kn:=(by simp);rw[e3];clear e3 hK hc kr hlen;refine qa0 (s0:=⟨[0,1,4,5,6],[.ptr 0 0,.str x,uD,uD,uD],[],63,⟨2,[]::[VS 1 s]⟩⟩) Tryz.func54 rfl rfl rfl ?_
     (repeat' (first
      |with_reducible apply qaa
      |(with_reducible apply rE;simp[zS, *,SS.post,Nd.cs,qau];exact rfl)
      |(with_reducible apply qad;simp only[qab,qa5])
      |(refine qay mixed qb6 (by decide +kernel) (by decide +kernel) rfl ?_;apply qh0;simp[zS,zW,qb9,qbt,qaz,Heap.lay,qb8, *,SS.post,Nd.cs,qau];exact rfl)
      |(with_reducible apply qbc;refine⟨by repeat first|exact qdi|refine qdj (by decide +kernel) ?_,?_⟩;simp only[qab,qa5,allPend,Heap.lay,qb8])
      |apply qah rfl
      |apply qai rfl
      |(with_reducible apply qa6;simp only[qab,qa5])
      |(with_reducible apply qa7;simp[zQ,Tryz.f54])))
     all_goals first|((try simp[zQ,Tryz.f54]);exact qbz rfl (by first|rfl|(simp[*];done)) rfl (by decide) (qw2 _ _ _) rfl rfl)|(exfalso;omega)
    ·rw[if_neg h2];have e2:chN s.tree (u:Int) x=qwh s.tree (u:Int) ((K0.length:Int)+1) ⟨2,0,[],[],x,0,[]⟩:=(by unfold chN;rw[<- hK,hlen];rfl);rw[e2];clear e2 hK hc kr hlen;refine qa0 (s0:=⟨[0,1,4,5,6],[.ptr 0 0,.str x,uD,uD,uD],[],63,⟨2,[]::[VS 1 s]⟩⟩) Tryz.func54 rfl rfl rfl ?_
     (repeat' (first
      |with_reducible apply qaa
      |(with_reducible apply rE;simp[zS, *,SS.post,Nd.cs,qau];exact rfl)
      |(with_reducible apply qad;simp only[qab,qa5])
      |(refine qay mixed qb6 (by decide +kernel) (by decide +kernel) rfl ?_;apply qh0;simp[zS,zW,qb9,qbt,qaz,Heap.lay,qb8, *,SS.post,Nd.cs,qau];exact rfl)
      |(with_reducible apply qbc;refine⟨by repeat first|exact qdi|refine qdj (by decide +kernel) ?_,?_⟩;simp only[qab,qa5,allPend,Heap.lay,qb8])
      |apply qah rfl
      |apply qai rfl
      |(with_reducible apply qa6;simp only[qab,qa5])))
     all_goals first|((try simp[zQ,Tryz.f54]);exact qbz rfl (by first|rfl|(simp[*];done)) rfl (by decide) (qbi _ _ _ _) rfl rfl)|(exfalso;omega)
def e54:Entry PG:=mkS 54 [[]] (fun z:Str=>[.str z]) (fun z s=>(s.foster=false)/\(SOk s)/\(KOk s.tree)/\(z.length<=1000000000)) (fun z s=>.tup []) (fun z s=>{ s with tree:=chT s.tree (qgd s.opn) z }) fun z s ne h=>⟨c54 (T:=[e44,e137,e144]) rfl rfl rfl ne z h.1 h.2.1 h.2.2.1 h.2.2.2,by simp[qa3,qa2],by simp[qa2,qa3],chT_ne ne _ _⟩
theorem k54(hT:qa9 54 T=some e54.g) {s:SS} (ne:s.tree≠[]) (x:Str) (hf:s.foster=false) (ok:SOk s) (kk:KOk s.tree) (hx:x.length<=1000000000) {n k:Nat} {fr:List (Nat × Blk)} (k0:0 < k) (kn:k < n) (of:qga k fr):qat (ctx T) (.fn 54) [.ptr 0 0,.str x] ⟨n,[fr,VS k s]⟩=some (.tup [],⟨n+1,[fr,VS n ({ s with tree:=chT s.tree (qgd s.opn) x })]⟩):=
 qct hT inj_147 (x) ne ⟨hf,ok,kk,hx⟩ (by simp[qa3,qa2]) (by simp[qbb,qaj]) k0 kn of
def qhc(t:Tr):Prop:=∀i,(qbh t i).name.length<=1000000000
theorem c42(hc0:qa9 44 T=some e44.g) (hc1:qa9 76 T=some e76.g) {s:SS} (ne:s.tree≠[]) (W:Str) (hW:qbx W) (hl:W.length<=100000) (hn:qhc s.tree) (ho:s.opn.length<=100000):SC T 42 [.str W] s (.bool (qbv (qbh s.tree (qgd s.opn)) W)) (s):=by
 have kc0:=@k44 T hc0;have g0:=@vg0;have v0:=@vset;have kT:=fun H=>kc0 (L:=s.opn) (by omega) H;have kI:=fun n k f (k0:0 < k) (hf:getF k f=none)=>q76 hc1 (thS (n:=n) k0 ne hf) (qgd s.opn) hW hl (hn _);refine qa0 (s0:=⟨[0,1,4],[.ptr 0 0,.str W,uD],[],16,⟨2,[]::[VS 1 s]⟩⟩) Tryz.func42 rfl rfl rfl ?_
 (repeat' (first
  |with_reducible apply qaa
  |(with_reducible apply rE;simp[zS, *,SS.post];exact rfl)
  |(with_reducible apply qad;simp only[qab,qa5])
  |(refine qay mixed qb6 (by decide +kernel) (by decide +kernel) rfl ?_;apply qh0;simp[zS,zW,qb9,qbt,qaz,Heap.lay,qb8, *,SS.post];exact rfl)
  |(with_reducible apply qbc;refine⟨by repeat first|exact qdi|refine qdj (by decide +kernel) ?_,?_⟩;simp only[qab,qa5,allPend,Heap.lay,qb8])
  |(with_reducible apply qa7;simp[zQ,Tryz.f42])))
 all_goals first|((try simp[zQ,Tryz.f42]);exact qbz (by simp[*]) (by first|rfl|(simp[*];done)) (by simp[qa2,qa3]) (by decide) (ne) rfl rfl)|(exfalso;omega)
def e42:Entry PG:=mkS 42 [[]] (fun z:Str=>[.str z]) (fun z s=>(qbx z)/\(z.length<=100000)/\(qhc s.tree)/\(s.opn.length<=100000)) (fun z s=>.bool (qbv (qbh s.tree (qgd s.opn)) z)) (fun z s=>s) fun z s ne h=>⟨c42 (T:=[e44,e76]) rfl rfl ne z h.1 h.2.1 h.2.2.1 h.2.2.2,by simp[qa3,qa2],by simp[qa2,qa3],ne⟩
theorem k42(hT:qa9 42 T=some e42.g) {s:SS} (ne:s.tree≠[]) (W:Str) (hW:qbx W) (hl:W.length<=100000) (hn:qhc s.tree) (ho:s.opn.length<=100000) {n k:Nat} {fr:List (Nat × Blk)} (k0:0 < k) (kn:k < n) (of:qga k fr):qat (ctx T) (.fn 42) [.ptr 0 0,.str W] ⟨n,[fr,VS k s]⟩=some (.bool (qbv (qbh s.tree (qgd s.opn)) W),⟨n+1,[fr,VS n (s)]⟩):=
 qct hT inj_147 (W) ne ⟨hW,hl,hn,ho⟩ (by simp[qa3,qa2]) (by simp[qbb,qaj]) k0 kn of
theorem c145(hc0:qa9 198 T=some e198.g) {s:SS} (ne:s.tree≠[]) (W:Str) (sc:Int) (hW:qbx W) (hl:W.length<=100000) (hn:qhc s.tree) (ho:s.opn.length<=100000):SC T 145 [.str W,.int .i64 sc] s (.bool (qgb s.tree s.opn W sc)) (s):=by
 have g0:=@vg0;have v0:=@vset;have kI:=fun n k f (k0:0 < k) (hf:getF k f=none)=>q198 hc0 (thS (n:=n) k0 ne hf) (a1:=qac s.opn) (L:=s.opn) (qaj (by simp[okV,qa2])) W sc hW hl (by omega) (fun i _=>hn i);refine qa0 (s0:=⟨[0,1,2,6],[.ptr 0 0,.str W,.int .i64 sc,uD],[],18,⟨2,[]::[VS 1 s]⟩⟩) Tryz.func145 rfl rfl rfl ?_
 (repeat' (first
  |with_reducible apply qaa
  |(with_reducible apply rE;simp[zS, *,SS.post];exact rfl)
  |(with_reducible apply qad;simp only[qab,qa5])
  |(refine qay mixed qb6 (by decide +kernel) (by decide +kernel) rfl ?_;apply qh0;simp[zS,zW,qb9,qbt,qaz,Heap.lay,qb8, *,SS.post];exact rfl)
  |(with_reducible apply qbc;refine⟨by repeat first|exact qdi|refine qdj (by decide +kernel) ?_,?_⟩;simp only[qab,qa5,allPend,Heap.lay,qb8])
  |(with_reducible apply qa7;simp[zQ,Tryz.f145])))
 all_goals first|((try simp[zQ,Tryz.f145]);exact qbz (by simp[*]) (by first|rfl|(simp[*];done)) (by simp[qa2,qa3]) (by decide) (ne) rfl rfl)|(exfalso;omega)
def e145:Entry PG:=mkS 145 [[],[]] (fun z:Str × Int=>[.str z.1,.int .i64 z.2]) (fun z s=>(qbx z.1)/\(z.1.length<=100000)/\(qhc s.tree)/\(s.opn.length<=100000)) (fun z s=>.bool (qgb s.tree s.opn z.1 z.2)) (fun z s=>s) fun z s ne h=>⟨c145 (T:=[e198]) rfl ne z.1 z.2 h.1 h.2.1 h.2.2.1 h.2.2.2,by simp[qa3,qa2],by simp[qa2,qa3],ne⟩
theorem k145(hT:qa9 145 T=some e145.g) {s:SS} (ne:s.tree≠[]) (W:Str) (sc:Int) (hW:qbx W) (hl:W.length<=100000) (hn:qhc s.tree) (ho:s.opn.length<=100000) {n k:Nat} {fr:List (Nat × Blk)} (k0:0 < k) (kn:k < n) (of:qga k fr):qat (ctx T) (.fn 145) [.ptr 0 0,.str W,.int .i64 sc] ⟨n,[fr,VS k s]⟩=some (.bool (qgb s.tree s.opn W sc),⟨n+1,[fr,VS n (s)]⟩):=
 qct hT inj_84 (W,sc) ne ⟨hW,hl,hn,ho⟩ (by simp[qa3,qa2]) (by simp[qbb,qaj]) k0 kn of
theorem c45(hc0:qa9 129 T=some e129.g) {s:SS} (ne:s.tree≠[]) (W:Str) (hW:qbx W) (hl:W.length<=100000) (hn:qhc s.tree) (ho:s.opn.length<=100000):SC T 45 [.str W] s (.tup []) ({ s with opn:=qmn s.tree s.opn W }):=by
 have g0:=@vg0;have v0:=@vset;have kI:=fun n k f (k0:0 < k) (hf:getF k f=none)=>k129 hc0 hW hl (L:=s.opn) (by omega) (fun i _=>hn i) (thS (n:=n) k0 ne hf);refine qa0 (s0:=⟨[0,1],[.ptr 0 0,.str W],[],17,⟨2,[]::[VS 1 s]⟩⟩) Tryz.func45 rfl rfl rfl ?_
 (repeat' (first
  |(refine qay mixed qb6 (by decide +kernel) (by decide +kernel) rfl ?_;apply qh0;simp[zS,zW,qb9,qbt,qaz,Heap.lay,qb8, *,SS.post];exact rfl)
  |(with_reducible apply qbc;refine⟨by repeat first|exact qdi|refine qdj (by decide +kernel) ?_,?_⟩;simp only[qab,qa5,allPend,Heap.lay,qb8])))
 all_goals first|((try simp[zQ,Tryz.f45]);exact qbz (by simp[*]) (by first|rfl|(simp[*];done)) (by simp[qa2,qa3]) (by decide) (ne) rfl rfl)|(exfalso;omega)
def e45:Entry PG:=mkS 45 [[]] (fun z:Str=>[.str z]) (fun z s=>(qbx z)/\(z.length<=100000)/\(qhc s.tree)/\(s.opn.length<=100000)) (fun z s=>.tup []) (fun z s=>{ s with opn:=qmn s.tree s.opn z }) fun z s ne h=>⟨c45 (T:=[e129]) rfl ne z h.1 h.2.1 h.2.2.1 h.2.2.2,by simp[qa3,qa2],by simp[qa2,qa3],ne⟩
theorem k45(hT:qa9 45 T=some e45.g) {s:SS} (ne:s.tree≠[]) (W:Str) (hW:qbx W) (hl:W.length<=100000) (hn:qhc s.tree) (ho:s.opn.length<=100000) {n k:Nat} {fr:List (Nat × Blk)} (k0:0 < k) (kn:k < n) (of:qga k fr):qat (ctx T) (.fn 45) [.ptr 0 0,.str W] ⟨n,[fr,VS k s]⟩=some (.tup [],⟨n+1,[fr,VS n ({ s with opn:=qmn s.tree s.opn W })]⟩):=
 qct hT inj_147 (W) ne ⟨hW,hl,hn,ho⟩ (by simp[qa3,qa2]) (by simp[qbb,qaj]) k0 kn of
def qnb(L:List At1) (a:At1):List At1:=if qsk L a.1 < 0 then L++[a] else L
theorem addA_len(L:List At1) (a:At1):(qnb L a).length<=L.length+1:=by unfold qnb;split<;>simp
theorem qtd:∀(l L:List At1),(l.foldl qnb L).length<=L.length+l.length
 |[],L=>by simp
 |a::r,L=>by have h1:=qtd r (qnb L a);have h2:=addA_len L a;simp only[List.foldl_cons,List.length_cons];omega
theorem c87o(L:List At1) (hl:L.length<=1000):CallAt (ctx T) 87 [qaf L] zH (qcv 0 2 (L.map qb0)) ⟨1,[qd6 0 (L.map qb0)]⟩:=by
 have happ:=qro (P:=PG) (elem:=105) (b:=0) (m:=1) (es:=L.map qb0) (g:=[]) (fs:=[]) qzp zcm qzc rfl (by omega) (by omega) (qdp _) (qju _) (by simp;omega);cases L with
 |nil=>
  refine qa0 (s0:=⟨[0,2],[.fslc 2 [],uD],[],8,⟨0,[[]]⟩⟩) Tryz.func87 rfl rfl rfl ?_;apply qR;simp[zS];refine qnd (pre:=[]) ?_ ?_
  ·apply qR;simp[zS];apply qah rfl;apply qR;simp[zS];apply qa7;simp[zQ,Tryz.f87];exact qii (.inl rfl)
  ·apply qR;simp[zS];apply qai rfl;apply qa6;simp;have happ:qby PG ⟨1,[[(0,.cells [])]]⟩ 105 (.slc 0 0 0 (.ex 0)) .eslc=some (.slc 0 0 0 (.ex 0),⟨1,[[(0,.cells [])]]⟩):=rfl;apply qR;simp[zS,happ];apply qa7;simp[zQ,Tryz.f87];exact qii (.inr (.inr ⟨_,rfl⟩))
 |cons x r=>
  have e1:litV 0 1 2 ((x::r).map qb0)=.slc 1 0 (r.length+1) (.rest 2):=by simp[litV]
  have e2:qhu ⟨1,[[(0,.cells [])]]⟩ ((x::r).map qb0)=⟨2,[[(1,.cells (qa8 ((x::r).map qb0))),(0,.cells [])]]⟩:=rfl;rw[e1,e2]at happ;refine qa0 (s0:=⟨[0,2],[qaf (x::r),uD],[],8,⟨0,[[]]⟩⟩) Tryz.func87 rfl rfl rfl ?_;apply qR;simp[zS,qaf];apply qR;simp[zS,qaf];apply qai rfl;apply qa6;simp;simp only[List.map_cons]at happ;apply qR;simp[zS,happ];apply qa7;simp[zQ,Tryz.f87];exact qn7 (b:=1) (es:=(x::r).map qb0) (qdp _) (by simp) (by simp) (by simp[zG])
def e87o:Entry PG:=mkOwn 87 [[2]] (fun L:List At1=>[qaf L]) (fun L=>L.length<=1000) 2 (fun L=>L.map qb0) qdp fun L hl=>c87o (T:=[]) L hl
theorem k87o(hT:qa9 87 T=some e87o.g) {L:List At1} (hl:L.length<=1000) (H:Heap):qat (ctx T) (.fn 87) [qaf L] H=some (qcv H.n 2 (L.map qb0),qhu H (L.map qb0)):=
 qwi hT (fun x y h=>by simp at h;exact qdv h) L hl (by simp[qa3]) (by simp[qbb,qaj]) H
theorem c205(hP:qa9 219 T=some e219.g) (hC:qa9 87 T=some e87o.g) (L:List At1) (a:At1) (hl:L.length<=900):CallAt (ctx T) 205 [qaf L,qb0 a] zH (qaf (qnb L a)) zH:=by
 refine CallAt.froze (es:=(qnb L a).map qb0) (qdp _) ?_;refine qa0 (s0:=⟨[0,1,3,4,5],[qaf L,qb0 a,uD,uD,uD],[],18,⟨0,[[]]⟩⟩) Tryz.func205 rfl rfl rfl ?_;apply qR;simp[zS,qb0];apply qR;simp[zS,k87o hC (show L.length<=1000 by omega)];repeat apply wq
 refine .fit (s':=(⟨[0,1,3,4,5],[qaf L,uD,.ptr 0 0,uD,qcv 1 2 (L.map qb0)],[],18,⟨2,[qd6 1 (L.map qb0)++[(0,Blk.cells [.str a.1,.str a.2])]]⟩⟩ : St)) [(1,1),(0,0)] [] ⟨rfl,rfl,rfl,?_,.canon (b:=1) (g:=[(0,.cells [.str a.1,.str a.2])]) (qdp L) (by simp[qji,qax,qap,qa2]) (by simp)⟩ ?_
 ·simp[qax,qap,qav,qeg]
 ·have hp:=k219 hP (L:=L) a.1 (show L.length<=1000 by omega) (H:=⟨2,[qd6 1 (L.map qb0)++[(0,.cells [.str a.1,.str a.2])]]⟩) (qs1 _ L);have hg:getF 0 (qd6 1 (L.map qb0)++[(0,.cells [.str a.1,.str a.2])])=some (.cells [.str a.1,.str a.2]):=by cases L<;>rfl
  apply qR;simp[zS,hp,hg];refine qbf rfl (fun h=>?_) fun h=>?_
  ·simp at h;have happ:=qqk (P:=PG) (elem:=105) (b:=1) (t:=2) (m:=3) (es:=L.map qb0) (cs:=[.str a.1,.str a.2]) (g:=[(0,.cells [.str a.1,.str a.2])]) (fs:=[]) qzp zcm qzc rfl (by omega) (by omega) rfl rfl (qdp L) (by simp;omega) (by omega) (by simp) (by simp);apply qR;simp[zS,hg,happ];apply qR;simp[zS];apply qa7;simp[zQ,Tryz.f205];have e:qnb L a=L++[a]:=if_pos h;have e2:(qnb L a).map qb0=L.map qb0++[qb0 a]:=(by rw[e];simp);exact qn7 (b:=3) (es:=(qnb L a).map qb0) (qdp _) (by rw[e2];simp) (by rw[e2];simp) (by rw[e2,qbk];simp[zG,qa8,Heap.new,pushF,qb0])
  ·simp at h;apply qa6;simp;apply qR;simp[zS];apply qa7;simp[zQ,Tryz.f205];have e:qnb L a=L:=if_neg (by omega);rw[e];cases L with
   |nil=>exact qii (.inr (.inl rfl))
   |cons b r=>exact qn7 (b:=1) (es:=(b::r).map qb0) (qdp _) (by simp) rfl (by simp[zG,qd6])
def e205:Entry PG:=mkE 205 [[2],[0,0]] (fun x:List At1 × At1=>[qaf x.1,qb0 x.2]) (fun x=>x.1.length<=900) (fun x=>qaf (qnb x.1 x.2)) fun x hx=>c205 (T:=[e219,e87o]) rfl rfl x.1 x.2 hx
