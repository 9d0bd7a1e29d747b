/- What may come where, the document's code: searches along a path. No condition. -/
import Derived.Test.YtocnpnnplllneaaGreatDoorMM
import Derived.Shelf.Strings.SlTrimAscii
namespace Go.Proofs.YtocnpnnplllneaaGreatDoor
set_option linter.unusedSimpArgs false
set_option linter.unusedVariables false
open Go Go.RowKit
noncomputable section
set_option maxRecDepth 100000
def conB(s t:Str):Bool:=decide (0<=Lib.index s t)
theorem c121{T:List (Entry PG)} (hI:qIn 149 T e149) (s t:Str) (hl:s.length<=1000000):CA T 121 [.str s,.str t] zH (.bool (conB s t)) zH:=by
 have hk:=fun H=>k149 hI (t:=t) hl H;refine qa0 (s0:=⟨[0,1,4],[.str s,.str t,uD],[],9,⟨0,[[]]⟩⟩) Tryz.func121 rfl rfl rfl ?_
 (repeat (first
  |(apply qal)
  |(apply qa7)
  |(apply qch;simp only[qam,qaj])
  |((refine qah qbf ?_);simp[zS,hk])
  |apply qai rfl
  |apply qag rfl
  |((apply qa4);simp only[qam,qaj])
  |((apply qar);simp)))
 repeat apply wq
 apply qa5;simp[zQ,Tryz.f121];exact qa2 rfl (by simp[conB])
def e121:Entry PG:=mkE 121 [[],[]] (fun x:Str × Str=>[.str x.1,.str x.2]) (fun x=>x.1.length<=1000000) (fun x=>.bool (conB x.1 x.2)) fun x h=>c121 (T:=[e149]) rfl x.1 x.2 h
theorem k121{T:List (Entry PG)} (hT:qIn 121 T e121) {s:Str} (t:Str) (hl:s.length<=1000000) (H:Heap):qb6 (ctx T) (.fn 121) [.str s,.str t] H=some (.bool (conB s t),H):=
 qac hT qtl (s,t) hl rfl (by simp)
@[simp]theorem szT84:qce PG 84=some 1:=rfl
@[simp]theorem agT84:qia PG 84=some false:=rfl
@[simp]theorem byT84:qcq PG 84=some 8:=rfl
@[simp]theorem alT84(H:Heap):alV PG H 84=some (.ptr H.n 0,H.new (.cells [.nilF])):=rfl
@[simp]theorem zeT84:qc0 PG 84=some (.nilF):=rfl
attribute [simp] Tryz.underlying84
@[simp 500]theorem rvF84(H:Heap) (cs:List AV) (o:Nat):qaw PG H 84 (.fptr cs o)=qck cs o:=rfl
@[simp 500]theorem rvP84(H:Heap) (b o:Nat):qaw PG H 84 (.ptr b o)=(H.get b).bind fun k=>k.rd.bind fun cs=>qck cs o:=rfl
theorem qxw{α:Type} {p:α->Bool}:∀(L:List α) (k:Nat),(0<=qbo p L k)↔L.any p=true
 |[],k=>by simp[qbo]
 |y::r,k=>by
  unfold qbo;by_cases h:p y=true
  ·simp[h]
  ·rw[if_neg h,qxw r (k+1)];simp[h]
theorem c191{T:List (Entry PG)} (L:List Str) (hl:L.length<=1000000) (f:FuncId) (cap:List AV) (hc:qa9 cap=true) (p:Str->Bool) (hp:∀s,s∈L->CA T f (.str s::cap) zH (.bool (p s)) zH) :
  CA T 191 [qcj L,.func (.func f) [] cap] zH (.int .i64 (qbo p L 0)) zH:=by
 refine qa0 (s0:=⟨[0,1,4,5,7,8],[qcj L,.func (.func f) [] cap,uD,uD,uD,uD],[],19,⟨0,[[]]⟩⟩) Tryz.func191 rfl rfl rfl ?_;apply ra;simp[zS];apply ra;simp[zS,lenS];refine qa7 (qb1 (fun i:Nat=>(⟨[0,1,4,5,7,8],[qcj L,.func (.func f) [] cap,.int .i64 0,uD,.int .i64 (L.length:Nat),.int .i64 i],[],19,⟨0,[[]]⟩⟩ : St))
  (fun i=>i<=L.length/\qbo p L 0=qbo p (L.drop i) i) (fun i=>L.length - i) [] [] 0 ⟨Nat.zero_le _,rfl⟩ ⟨rfl,rfl,rfl,by simp[qax,qas,qab,qa9,qcj,hc],FitH.nothing⟩ ?_)
 rintro i ⟨hi,hx⟩ B hB;apply ra;simp[zS];repeat apply wq
 refine qb0 rfl (fun h=>?_) fun h=>?_
 ·simp at h;rw[qh8 h]at hx;apply qa4;simp;repeat apply wq
  apply qa7;apply ra;simp[zS];have hcall:=(hp L[i] (List.getElem_mem h)).lift (by simp[qa9,qab,hc]) ⟨0,[[]]⟩
  skip
  rcases Bool.eq_false_or_eq_true (p L[i])with hb|hb
  ·rw[hb]at hcall hx;repeat apply wq
   refine qah (qbh [⟨f,_,_,_,_,hcall⟩]) ?_;simp[zS,atS h, qcc];apply qai rfl;apply ra;simp[zS];apply qa5;simp[zQ,Tryz.f191];exact qa2 rfl (by rw[hx,if_pos rfl])
  ·rw[hb]at hcall hx;repeat apply wq
   refine qah (qbh [⟨f,_,_,_,_,hcall⟩]) ?_;simp[zS,atS h, qcc];apply qag rfl;apply qa4;simp;apply ra;simp[zS,qbb (show i<=1000000000 by omega)];exact hB _ (i+1) (by omega) ⟨by omega,by rw[hx,if_neg (by decide)]⟩ ⟨[],[],⟨rfl,rfl,rfl,by simp[qax,qas,qab,qa9,qcj,hc],FitH.nothing⟩⟩
 ·simp at h;apply qar;simp;apply ra;simp[zS];apply qa5;simp[zQ,Tryz.f191];exact qa2 rfl (by rw[hx,List.drop_eq_nil_of_le h];rfl)
theorem c159{T:List (Entry PG)} (L:List Str) (hl:L.length<=1000000) (f:FuncId) (cap:List AV) (hc:qa9 cap=true) (p:Str->Bool) (hp:∀s,s∈L->CA T f (.str s::cap) zH (.bool (p s)) zH) :
  CA T 159 [qcj L,.func (.func f) [] cap] zH (.bool (L.any p)) zH:=by
 have hk:=(c191 (T:=T) L hl f cap hc p hp).lift (by simp[qa9,qab,hc]) ⟨0,[[]]⟩;have hd:decide (0<=qbo p L 0)=L.any p:=by rw[Bool.eq_iff_iff,decide_eq_true_iff];exact qxw L 0
 generalize qbo p L 0=v at *;refine qa0 (s0:=⟨[0,1,4],[qcj L,.func (.func f) [] cap,uD],[],9,⟨0,[[]]⟩⟩) Tryz.func159 rfl rfl rfl ?_;apply ra;simp[zS];repeat apply wq
 refine qah (qbh [⟨191,_,_,_,_,hk⟩]) ?_;simp[zS,qcc];apply qa5;simp[zQ,Tryz.f159];exact qa2 rfl (by rw[hd])
theorem c169{T:List (Entry PG)} (L:List Nd) (hl:L.length<=1000000) (f:FuncId) (cap:List AV) (hc:qa9 cap=true) (p:Nd->Bool) (hp:∀s,s∈L->CA T f (qa3 s::cap) zH (.bool (p s)) zH) :
  CA T 169 [qaa L,.func (.func f) [] cap] zH (.int .i64 (qbo p L 0)) zH:=by
 refine qa0 (s0:=⟨[0,1,4,5,7,8],[qaa L,.func (.func f) [] cap,uD,uD,uD,uD],[],19,⟨0,[[]]⟩⟩) Tryz.func169 rfl rfl rfl ?_;apply ra;simp[zS];apply ra;simp[zS,qhl];refine qa7 (qb1 (fun i:Nat=>(⟨[0,1,4,5,7,8],[qaa L,.func (.func f) [] cap,.int .i64 0,uD,.int .i64 (L.length:Nat),.int .i64 i],[],19,⟨0,[[]]⟩⟩ : St))
  (fun i=>i<=L.length/\qbo p L 0=qbo p (L.drop i) i) (fun i=>L.length - i) [] [] 0 ⟨Nat.zero_le _,rfl⟩ ⟨rfl,rfl,rfl,by simp[qax,qas,qab,qa9,hc],FitH.nothing⟩ ?_)
 rintro i ⟨hi,hx⟩ B hB;apply ra;simp[zS];repeat apply wq
 refine qb0 rfl (fun h=>?_) fun h=>?_
 ·simp at h;rw[qh8 h]at hx;apply qa4;simp;repeat apply wq
  apply qa7;apply ra;simp[zS];have hcall:=hp L[i] (List.getElem_mem h);have hix:=atX (t:=L) (i:=(i:Int)) (by omega) (by omega);rw[qbt h]at hix;have hpu:qa9 (qa3 L[i]::cap)=true:=by simp[qa9,hc]
  rcases Bool.eq_false_or_eq_true (p L[i])with hb|hb
  ·rw[hb]at hcall hx;repeat apply wq
   refine qah (qj3 [⟨f,_,_,hpu,hcall⟩]) ?_;simp[zS,hix,qaq,qhi];apply qai rfl;apply ra;simp[zS];apply qa5;simp[zQ,Tryz.f169];exact qa2 rfl (by rw[hx,if_pos rfl])
  ·rw[hb]at hcall hx;repeat apply wq
   refine qah (qj3 [⟨f,_,_,hpu,hcall⟩]) ?_;simp[zS,hix,qaq,qhi];apply qag rfl;apply qa4;simp;apply ra;simp[zS,qbb (show i<=1000000000 by omega)];exact hB _ (i+1) (by omega) ⟨by omega,by rw[hx,if_neg (by decide)]⟩ ⟨[],[],⟨rfl,rfl,rfl,by simp[qax,qas,qab,qa9,hc],FitH.nothing⟩⟩
 ·simp at h;apply qar;simp;apply ra;simp[zS];apply qa5;simp[zQ,Tryz.f169];exact qa2 rfl (by rw[hx,List.drop_eq_nil_of_le h];rfl)
theorem c136{T:List (Entry PG)} (L:List Nd) (hl:L.length<=1000000) (f:FuncId) (cap:List AV) (hc:qa9 cap=true) (p:Nd->Bool) (hp:∀s,s∈L->CA T f (qa3 s::cap) zH (.bool (p s)) zH) :
  CA T 136 [qaa L,.func (.func f) [] cap] zH (.bool (L.any p)) zH:=by
 have hk:=c169 (T:=T) L hl f cap hc p hp;have hd:decide (0<=qbo p L 0)=L.any p:=by rw[Bool.eq_iff_iff,decide_eq_true_iff];exact qxw L 0
 generalize qbo p L 0=v at *;refine qa0 (s0:=⟨[0,1,4],[qaa L,.func (.func f) [] cap,uD],[],9,⟨0,[[]]⟩⟩) Tryz.func136 rfl rfl rfl ?_;apply ra;simp[zS];repeat apply wq
 refine qah (qj3 [⟨169,_,_,by simp[qa9,qab,hc],hk⟩]) ?_;simp[zS,qhi];apply qa5;simp[zQ,Tryz.f136];exact qa2 rfl (by rw[hd])
theorem c170{T:List (Entry PG)} (hc0:qIn 85 T e85) (n:Nd) (W:Str) (hW:qde W) (hl:W.length<=100000) (hx:n.name.length<=1000000000):CA T 170 [qa3 n,.fptr [.str W] 0] zH (.bool (elB n W)) zH:=by
 have kc0:=@k85 T hc0;refine qa0 (s0:=⟨[0,1,2,3],[qa3 n,.fptr [.str W] 0,uD,uD],[],7,⟨0,[[]]⟩⟩) Tryz.func170 rfl rfl rfl ?_
 (repeat' (first
  |with_reducible apply qal
  |(with_reducible apply rE;simp[zS, *,qaq];exact rfl)
  |(with_reducible apply qay;simp only[qam,qaj])
  |(with_reducible apply qa5;simp[zQ,Tryz.f170])))
 all_goals first|exact qa2 rfl (by first|(simp[*];done)|(simp_all;done))|(exfalso;omega)
theorem c166{T:List (Entry PG)} (hc0:qIn 167 T e167) (n:Nd) (sc:Int) (hx:n.name.length<=1000000000):CA T 166 [qa3 n,.fptr [.int .i64 sc] 0] zH (.bool (qhr sc n.space n.name)) zH:=by
 have kc0:=@k167 T hc0;refine qa0 (s0:=⟨[0,1,2,3],[qa3 n,.fptr [.int .i64 sc] 0,uD,uD],[],10,⟨0,[[]]⟩⟩) Tryz.func166 rfl rfl rfl ?_
 (repeat' (first
  |with_reducible apply qal
  |(with_reducible apply rE;simp[zS, *,qaq];exact rfl)
  |(with_reducible apply qay;simp only[qam,qaj])
  |(with_reducible apply qa5;simp[zQ,Tryz.f166])))
 all_goals first|exact qa2 rfl (by first|(simp[*];done)|(simp_all;done))|(exfalso;omega)
abbrev lsAdp:Str:=[97,100,100,114,101,115,115,32,100,105,118,32,112]
theorem c171{T:List (Entry PG)} (hc0:qIn 172 T e172) (hc1:qIn 85 T e85) (n:Nd) (hx:n.name.length<=1000000000):CA T 171 [qa3 n] zH (.bool (qdz n.space n.name && !elB n lsAdp)) zH:=by
 have kc0:=@k172 T hc0;have kc1:=@k85 T hc1;have hp:qde lsAdp:=qr0 (by decide);have hq:lsAdp.length<=100000:=by decide
 refine qa0 (s0:=⟨[0,1,2],[qa3 n,uD,uD],[],13,⟨0,[[]]⟩⟩) Tryz.func171 rfl rfl rfl ?_
 (repeat' (first
  |with_reducible apply qal
  |(with_reducible apply rE;simp[zS, *,qaq];exact rfl)
  |(with_reducible apply qay;simp only[qam,qaj])
  |(with_reducible refine qb7 (fun hc=>?_) (fun hc=>?_)<;>(have hd:=hc;(try simp at hd);(try subst hd);apply qfx;simp[zS, *,qaq];exact rfl))
  |(with_reducible apply qa5;simp[zQ,Tryz.f171])))
 all_goals first|exact qa2 rfl (by first|(simp[*];done)|(simp_all;done))|(exfalso;omega)
def qmg(n:Nd):Bool:=decide (n.space=0) && inW qrc n.name
theorem c173{T:List (Entry PG)} (hc0:qIn 174 T e174) (hc1:qIn 85 T e85) (n:Nd) (hx:n.name.length<=1000000000):CA T 173 [qa3 n] zH (.bool (elB n [97] && !qmg n)) zH:=by
 have kc0:=@k174 T hc0;have kc1:=@k85 T hc1;have hp:qde [97]:=qr0 (by decide);refine qa0 (s0:=⟨[0,1,2],[qa3 n,uD,uD],[],13,⟨0,[[]]⟩⟩) Tryz.func173 rfl rfl rfl ?_
 (repeat' (first
  |with_reducible apply qal
  |(with_reducible apply rE;simp[zS, *,qaq];exact rfl)
  |(with_reducible apply qay;simp only[qam,qaj])
  |(with_reducible refine qb7 (fun hc=>?_) (fun hc=>?_)<;>(have hd:=hc;(try simp at hd);(try subst hd);apply qfx;simp[zS, *,qaq];exact rfl))
  |(with_reducible apply qa5;simp[zQ,Tryz.f173])))
 all_goals first|exact qa2 rfl (by first|(simp[qmg, *];done)|(simp_all [qmg];done))|(exfalso;omega)
theorem c175{T:List (Entry PG)} (hc0:qIn 174 T e174) (n:Nd) (hx:n.name.length<=1000000000):CA T 175 [qa3 n] zH (.bool (qmg n)) zH:=by
 have kc0:=@k174 T hc0;refine qa0 (s0:=⟨[0,1,2],[qa3 n,uD,uD],[],8,⟨0,[[]]⟩⟩) Tryz.func175 rfl rfl rfl ?_
 (repeat' (first
  |with_reducible apply qal
  |(with_reducible apply rE;simp[zS, *,qaq];exact rfl)
  |(with_reducible apply qay;simp only[qam,qaj])
  |(with_reducible apply qa5;simp[zQ,Tryz.f175])))
 all_goals first|exact qa2 rfl (by first|(simp[qmg, *];done)|(simp_all [qmg];done))|(exfalso;omega)
theorem c137{T:List (Entry PG)} (W:Str):CA T 137 [.str W] zH (qgr 170 [.fptr [.str W] 0]) zH:=by refine qa0 (s0:=⟨[0,1,2],[.str W,uD,uD],[],4,⟨0,[[]]⟩⟩) Tryz.func137 rfl rfl rfl ?_;apply ra;simp[zS];apply ra;simp[zS];apply qa5;simp[zQ,Tryz.f137];refine⟨[],[(0,[.str W])],by simp[qgr,qas,qax,qca],.froze (by simp) fun x hx=>?_⟩;rw[List.mem_singleton]at hx;subst hx;exact⟨[.str W],by simp[zG],qak (by simp[qa9,qab]),by simp[qa9,qab]⟩
def e137:Entry PG:=mkE 137 [[]] (fun z:Str=>[.str z]) (fun z=>True) (fun z=>qgr 170 [.fptr [.str z] 0]) fun z h=>c137 (T:=[])  z 
theorem k137{T:List (Entry PG)} (hT:qIn 137 T e137) (W:Str) (H:Heap):qb6 (ctx T) (.fn 137) [.str W] H=some (qgr 170 [.fptr [.str W] 0],H):=
 qd1 hT inj_168 (W) trivial (by simp[qa9,qab,qan]) (by simp[qan]) H
def qed(L:List Nd) (W:Str) (sc:Int):Bool:=qvh (fun n=>elB n W) (fun n=>qhr sc n.space n.name) L
theorem c133{T:List (Entry PG)} (hc0:qIn 137 T e137) (hc1:qIn 85 T e85) (hc2:qIn 167 T e167) (hc3:qIn 193 T e193) (L:List Nd) (W:Str) (sc:Int) (hp:okP L) (hW:qde W) (hl:W.length<=100000):CA T 133 [qaa L,.str W,.int .i64 sc] zH (.bool (qed L W sc)) zH:=by
 have kc0:=@k137 T hc0;have kc1:=@k85 T hc1;have kc2:=@k167 T hc2;have kc3:=@k193 T hc3;have hc:=c165 hc3 L (by have:=hp.1;omega) (f1:=170) (c1:=[.fptr [.str W] 0]) (f2:=166) (c2:=[.fptr [.int .i64 sc] 0]) rfl rfl (p:=fun n=>elB n W) (q:=fun n=>qhr sc n.space n.name) (fun n hn=>c170 hc1 n W hW hl (hp.2 n hn).nm) (fun n hn=>c166 hc2 n sc (hp.2 n hn).nm);have hcall:=CallAt.thaw hc rfl [[7],[],[]] (H:=⟨1,[[(0,.cells [.int .i64 sc])]]⟩) (args:=[qaa L,qgr 170 [.fptr [.str W] 0],.func (.func 166) [] [.ptr 0 0]]) (by simp[qgr,qan,okV,qab,qa9,qp8 (H:=⟨1,[[(0,.cells [.int .i64 sc])]]⟩) (b:=0) (cs:=[.int .i64 sc]) rfl rfl]);refine qa0 (s0:=⟨[0,1,2,5,6],[qaa L,.str W,.int .i64 sc,uD,uD],[],12,⟨0,[[]]⟩⟩) Tryz.func133 rfl rfl rfl ?_;apply ra;simp[zS];repeat apply wq
 refine qah (qbh [⟨165,_,_,_,_,hcall⟩]) ?_;simp[zS,qcc,kc0];apply qa5;simp[zQ,Tryz.f133];exact qa2 rfl (by rfl)
theorem inj_133(x y:List Nd × Str × Int) (h:(fun z:List Nd × Str × Int=>([qaa z.1,.str z.2.1,.int .i64 z.2.2]:List AV)) x=(fun z:List Nd × Str × Int=>([qaa z.1,.str z.2.1,.int .i64 z.2.2]:List AV)) y):x=y:=by obtain⟨x0,x1,x2⟩:=x;obtain⟨y0,y1,y2⟩:=y;simp only[List.cons.injEq,and_true]at h;obtain⟨h0,h1,h2⟩:=h;have g0:x0=y0:=qcg h0;have g1:x1=y1:=AV.str.inj h1;have g2:x2=y2:=AV.int.inj h2 |>.2;subst g0 g1 g2;rfl
def e133:Entry PG:=mkE 133 [[7],[],[]] (fun z:List Nd × Str × Int=>[qaa z.1,.str z.2.1,.int .i64 z.2.2]) (fun z=>(okP z.1)/\(qde z.2.1)/\(z.2.1.length<=100000)) (fun z=>.bool (qed z.1 z.2.1 z.2.2)) fun z h=>c133 (T:=[e137,e85,e167,e193]) rfl rfl rfl rfl z.1 z.2.1 z.2.2 h.1 h.2.1 h.2.2
theorem k133{T:List (Entry PG)} (hT:qIn 133 T e133) (L:List Nd) (W:Str) (sc:Int) (hp:okP L) (hW:qde W) (hl:W.length<=100000) (H:Heap):qb6 (ctx T) (.fn 133) [qaa L,.str W,.int .i64 sc] H=some (.bool (qed L W sc),H):=
 qac hT inj_133 (L,W,sc) ⟨hp,hW,hl⟩ rfl (by simp[qan])
def qek(L:List Nd) (W:Str):Bool:=qvh (fun n=>elB n W) (fun n=>qdz n.space n.name && !elB n lsAdp) L
theorem c138{T:List (Entry PG)} (hc0:qIn 137 T e137) (hc1:qIn 85 T e85) (hc2:qIn 172 T e172) (hc3:qIn 193 T e193) (L:List Nd) (W:Str) (hp:okP L) (hW:qde W) (hl:W.length<=100000):CA T 138 [qaa L,.str W] zH (.bool (qek L W)) zH:=by
 have kc0:=@k137 T hc0;have kc1:=@k85 T hc1;have kc2:=@k172 T hc2;have kc3:=@k193 T hc3;have hc:=c165 hc3 L (by have:=hp.1;omega) (f1:=170) (c1:=[.fptr [.str W] 0]) (f2:=171) (c2:=[]) rfl rfl (p:=fun n=>elB n W) (q:=fun n=>qdz n.space n.name && !elB n lsAdp) (fun n hn=>c170 hc1 n W hW hl (hp.2 n hn).nm) (fun n hn=>c171 hc2 hc1 n (hp.2 n hn).nm);refine qa0 (s0:=⟨[0,1,4],[qaa L,.str W,uD],[],9,⟨0,[[]]⟩⟩) Tryz.func138 rfl rfl rfl ?_;apply ra;simp[zS];repeat apply wq
 refine qah (qj3 [⟨165,_,_,by simp[qa9,qgr,qab],hc⟩]) ?_;simp[zS,qog,kc0,qgr];apply qa5;simp[zQ,Tryz.f138];exact qa2 rfl (by rfl)
theorem inj_138(x y:List Nd × Str) (h:(fun z:List Nd × Str=>([qaa z.1,.str z.2]:List AV)) x=(fun z:List Nd × Str=>([qaa z.1,.str z.2]:List AV)) y):x=y:=by obtain⟨x0,x1⟩:=x;obtain⟨y0,y1⟩:=y;simp only[List.cons.injEq,and_true]at h;obtain⟨h0,h1⟩:=h;have g0:x0=y0:=qcg h0;have g1:x1=y1:=AV.str.inj h1;subst g0 g1;rfl
def e138:Entry PG:=mkE 138 [[7],[]] (fun z:List Nd × Str=>[qaa z.1,.str z.2]) (fun z=>(okP z.1)/\(qde z.2)/\(z.2.length<=100000)) (fun z=>.bool (qek z.1 z.2)) fun z h=>c138 (T:=[e137,e85,e172,e193]) rfl rfl rfl rfl z.1 z.2 h.1 h.2.1 h.2.2
theorem k138{T:List (Entry PG)} (hT:qIn 138 T e138) (L:List Nd) (W:Str) (hp:okP L) (hW:qde W) (hl:W.length<=100000) (H:Heap):qb6 (ctx T) (.fn 138) [qaa L,.str W] H=some (.bool (qek L W),H):=
 qac hT inj_138 (L,W) ⟨hp,hW,hl⟩ rfl (by simp[qan])
def qg5(L:List Nd):Bool:=qvh (fun n=>elB n [97] && !qmg n) qmg L
theorem c139{T:List (Entry PG)} (hc0:qIn 174 T e174) (hc1:qIn 85 T e85) (hc2:qIn 193 T e193) (L:List Nd) (hp:okP L):CA T 139 [qaa L] zH (.bool (qg5 L)) zH:=by
 have kc0:=@k174 T hc0;have kc1:=@k85 T hc1;have kc2:=@k193 T hc2;have hc:=c165 hc2 L (by have:=hp.1;omega) (f1:=173) (c1:=[]) (f2:=175) (c2:=[]) rfl rfl (p:=fun n=>elB n [97] && !qmg n) (q:=qmg) (fun n hn=>c173 hc0 hc1 n (hp.2 n hn).nm) (fun n hn=>c175 hc0 n (hp.2 n hn).nm);refine qa0 (s0:=⟨[0,2],[qaa L,uD],[],5,⟨0,[[]]⟩⟩) Tryz.func139 rfl rfl rfl ?_;apply ra;simp[zS];repeat apply wq
 refine qah (qj3 [⟨165,_,_,by simp[qa9,qgr,qab],hc⟩]) ?_;simp[zS,qog,qgr];apply qa5;simp[zQ,Tryz.f139];exact qa2 rfl (by rfl)
def e139:Entry PG:=mkE 139 [[7]] (fun z:List Nd=>[qaa z]) (fun z=>(okP z)) (fun z=>.bool (qg5 z)) fun z h=>c139 (T:=[e174,e85,e193]) rfl rfl rfl z h
theorem k139{T:List (Entry PG)} (hT:qIn 139 T e139) (L:List Nd) (hp:okP L) (H:Heap):qb6 (ctx T) (.fn 139) [qaa L] H=some (.bool (qg5 L),H):=
 qac hT inj_82 (L) hp rfl (by simp[qan])
def qxk:Go.Shelf.Ren:=⟨fun | 119=>177 | 120=>201 | 137=>162 | 151=>119 | 152=>146 | 160=>153 | 197=>118 | 217=>192 | 224=>178 | 225=>179 | 227=>79 | 228=>117 | 231=>78 | 232=>186 | 233=>80 | 234=>187 | 235=>81 | 236=>188 | 260=>145 | 266=>198 | 271=>196|n=>n,fun | 0=>0 | 3=>3 | 4=>4 | 5=>5 | 9=>9 | 21=>21 | 46=>130 | 105=>89 | 116=>101 | 117=>102 | 119=>129 | 124=>105 | 138=>132 | 139=>133|n=>n,fun | 3=>0 | 4=>1|n=>n⟩
theorem lays160:Go.Proofs.Lays.n160 PG qxk where
 mixed:=by kernel_rfl
 f119:=Tryz.func177.trans (congrArg some (by kernel_rfl))
 f120:=Tryz.func201.trans (congrArg some (by kernel_rfl))
 f137:=Tryz.func162.trans (congrArg some (by kernel_rfl))
 f151:=Tryz.func119.trans (congrArg some (by kernel_rfl))
 f152:=Tryz.func146.trans (congrArg some (by kernel_rfl))
 f160:=Tryz.func153.trans (congrArg some (by kernel_rfl))
 f197:=Tryz.func118.trans (congrArg some (by kernel_rfl))
 f217:=Tryz.func192.trans (congrArg some (by kernel_rfl))
 f224:=Tryz.func178.trans (congrArg some (by kernel_rfl))
 f225:=Tryz.func179.trans (congrArg some (by kernel_rfl))
 f227:=Tryz.func79.trans (congrArg some (by kernel_rfl))
 f228:=Tryz.func117.trans (congrArg some (by kernel_rfl))
 f231:=Tryz.func78.trans (congrArg some (by kernel_rfl))
 f232:=Tryz.func186.trans (congrArg some (by kernel_rfl))
 f233:=Tryz.func80.trans (congrArg some (by kernel_rfl))
 f234:=Tryz.func187.trans (congrArg some (by kernel_rfl))
 f235:=Tryz.func81.trans (congrArg some (by kernel_rfl))
 f236:=Tryz.func188.trans (congrArg some (by kernel_rfl))
 f260:=Tryz.func145.trans (congrArg some (by kernel_rfl))
 f266:=Tryz.func198.trans (congrArg some (by kernel_rfl))
 f271:=Tryz.func196.trans (congrArg some (by kernel_rfl))
 t0:=Tryz.underlying0
 a0:=Tryz.isAgg0
 z0:=Tryz.sizeOf0
 v0:=Tryz.zeroValue0
 t3:=Tryz.underlying3
 a3:=Tryz.isAgg3
 z3:=Tryz.sizeOf3
 v3:=Tryz.zeroValue3
 t4:=Tryz.underlying4
 a4:=Tryz.isAgg4
 z4:=Tryz.sizeOf4
 v4:=Tryz.zeroValue4
 t5:=Tryz.underlying5
 a5:=Tryz.isAgg5
 z5:=Tryz.sizeOf5
 v5:=Tryz.zeroValue5
 t9:=Tryz.underlying9
 a9:=Tryz.isAgg9
 z9:=Tryz.sizeOf9
 v9:=Tryz.zeroValue9
 t21:=Tryz.underlying21
 a21:=Tryz.isAgg21
 z21:=Tryz.sizeOf21
 v21:=Tryz.zeroValue21
 t46:=Tryz.underlying130
 a46:=Tryz.isAgg130
 z46:=Tryz.sizeOf130
 v46:=Tryz.zeroValue130
 t105:=Tryz.underlying89
 a105:=Tryz.isAgg89
 z105:=Tryz.sizeOf89
 v105:=Tryz.zeroValue89
 t116:=Tryz.underlying101
 a116:=Tryz.isAgg101
 z116:=Tryz.sizeOf101
 t117:=Tryz.underlying102
 a117:=Tryz.isAgg102
 z117:=Tryz.sizeOf102
 v117:=Tryz.zeroValue102
 t119:=Tryz.underlying129
 a119:=Tryz.isAgg129
 z119:=Tryz.sizeOf129
 t124:=Tryz.underlying105
 a124:=Tryz.isAgg105
 z124:=Tryz.sizeOf105
 v124:=Tryz.zeroValue105
 t138:=Tryz.underlying132
 a138:=Tryz.isAgg132
 z138:=Tryz.sizeOf132
 v138:=Tryz.zeroValue132
 t139:=Tryz.underlying133
 a139:=Tryz.isAgg133
 z139:=Tryz.sizeOf133
 v139:=Tryz.zeroValue133
 g3:=by kernel_rfl
 g4:=by kernel_rfl
abbrev blV:Str:=[9,10,12,13,32]
theorem bl_spV(c:UInt8):blV.contains c=sp c:=by
 have key:∀n:Fin 256,blV.contains (UInt8.ofNat n.val)=sp (UInt8.ofNat n.val):=by decide +kernel
 have:=key ⟨c.toNat,c.toNat_lt⟩;simpa using this
def qsx(s:Str):Str:=((s.reverse.dropWhile sp).reverse).dropWhile sp
theorem c153{T:List (Entry PG)} (s:Str) (hs:s.length<=1000000000):CA T 153 [.str s,.str blV] zH (.str (qsx s)) zH:=by
 intro ρ w xs sm hx
 match xs,hx with
 |[x,y],hx=>
  have h0:=hx.2 0 (by simp) (by simp);have h1:=hx.2 1 (by simp) (by simp);simp only[List.getElem_cons_zero,List.getElem_cons_succ]at h0 h1;cases h0;cases h1;have hrun:(callFunc 153 #[.string ⟨s.toArray⟩,.string ⟨blV.toArray⟩]).run (ctx T).P w=.ok (.enter 153 #[.string ⟨s.toArray⟩,.string ⟨blV.toArray⟩]) w:=by
   have hf:(ctx T).P.funcs[153]? = some Tryz.f153:=Tryz.func153
   have hn : ¬ Tryz.f153.name = "runtime.NumGoroutine" := by decide +kernel
   simp[callFunc,hf,hn,Tryz.f153]
  refine .inr ⟨153,_,hrun,callsIn_wide.2 ?_⟩;refine(Go.Proofs.Any.strings_Trim_ascii lays160 (zero_of_info qz0).1 (zero_of_info qz0).2 ⟨s.toArray⟩ ⟨blV.toArray⟩ w (by show s.length<=_;omega) (by decide) (fun j b hj=>?_)).mono ?_
  ·have hm:b∈blV:=List.mem_of_getElem? hj;simp at hm;rcases hm with rfl|rfl|rfl|rfl|rfl<;>decide
  ·rintro e w' ⟨rfl,hb⟩;have hv:Lib.trimS (⟨s.toArray⟩ : ByteArray).data.toList (⟨blV.toArray⟩ : ByteArray).data.toList=qsx s:=(by have e1:(fun c=>blV.contains c)=sp:=funext bl_spV;show ((s.toArray.toList.reverse.dropWhile (fun c=>blV.contains c)).reverse).dropWhile (fun c=>blV.contains c)=_;rw[e1];rfl);rw[hv];exact⟨_,ρ,rfl,.str _,qn3 sm hb,qld hb⟩
def e153:Entry PG:=mkE 153 [[],[]] (fun x:Str=>[.str x,.str blV]) (fun x=>x.length<=1000000000) (fun x=>.str (qsx x)) fun x h=>c153 (T:=[]) x h
theorem k153{T:List (Entry PG)} (hT:qIn 153 T e153) (s:Str) (hs:s.length<=1000000000) (H:Heap):qb6 (ctx T) (.fn 153) [.str s,.str blV] H=some (.str (qsx s),H):=
 qd1 hT (fun x y h=>by simpa using h) s hs (by simp[qa9,qab]) (by simp) H
theorem zg6{p:UInt8->Bool}:∀(s:Str),s.dropWhile p=[]↔s.all p=true
 |[]=>by simp
 |c::r=>by
  rw[List.dropWhile_cons];by_cases h:p c=true
  ·simp[h,zg6 r]
  ·simp[h]
theorem qyr(s:Str):decide (qsx s=[])=s.all sp:=by
 rw[Bool.eq_iff_iff,decide_eq_true_iff];unfold qsx;rw[zg6,List.all_reverse];constructor
 ·intro h;have e:=List.takeWhile_append_dropWhile (p:=sp) (l:=s.reverse);have:s.reverse.all sp=true:=by rw[<- e,List.all_append,Bool.and_eq_true];exact⟨List.all_takeWhile,h⟩
  simpa using this
 ·intro h;have:s.reverse.dropWhile sp=[]:=(zg6 _).2 (by simpa using h);rw[this];rfl
theorem c123{T:List (Entry PG)} (hc0:qIn 153 T e153) (s:Str) (hs:s.length<=1000000000):CA T 123 [.str s] zH (.str (qsx s)) zH:=by
 have kc0:=@k153 T hc0;refine qa0 (s0:=⟨[0,2],[.str s,uD],[],5,⟨0,[[]]⟩⟩) Tryz.func123 rfl rfl rfl ?_
 (repeat' (first
  |with_reducible apply qal
  |(with_reducible apply rE;simp[zS, *];exact rfl)
  |(with_reducible apply qay;simp only[qam,qaj])
  |(with_reducible apply qa5;simp[zQ,Tryz.f123])))
 all_goals first|exact qa2 rfl (by first|(simp[*];done)|(simp_all;done))|(exfalso;omega)
def e123:Entry PG:=mkE 123 [[]] (fun z:Str=>[.str z]) (fun z=>(z.length<=1000000000)) (fun z=>.str (qsx z)) fun z h=>c123 (T:=[e153]) rfl z h
theorem k123{T:List (Entry PG)} (hT:qIn 123 T e123) (s:Str) (hs:s.length<=1000000000) (H:Heap):qb6 (ctx T) (.fn 123) [.str s] H=some (.str (qsx s),H):=
 qac hT inj_168 (s) hs rfl (by simp[qan])
theorem c86{T:List (Entry PG)} (hc0:qIn 123 T e123) (s:Str) (hs:s.length<=1000000000):CA T 86 [.str s] zH (.bool (s.all sp)) zH:=by
 have kc0:=@k123 T hc0;refine qa0 (s0:=⟨[0,2],[.str s,uD],[],6,⟨0,[[]]⟩⟩) Tryz.func86 rfl rfl rfl ?_
 (repeat' (first
  |with_reducible apply qal
  |(with_reducible apply rE;simp[zS, *];exact rfl)
  |(with_reducible apply qay;simp only[qam,qaj])
  |(with_reducible apply qa5;simp[zQ,Tryz.f86])))
 all_goals first|exact qa2 rfl (by first|(simp[<- qyr, *];done)|(simp_all [<- qyr];done))|(exfalso;omega)
def e86:Entry PG:=mkE 86 [[]] (fun z:Str=>[.str z]) (fun z=>(z.length<=1000000000)) (fun z=>.bool (z.all sp)) fun z h=>c86 (T:=[e123]) rfl z h
theorem k86{T:List (Entry PG)} (hT:qIn 86 T e86) (s:Str) (hs:s.length<=1000000000) (H:Heap):qb6 (ctx T) (.fn 86) [.str s] H=some (.bool (s.all sp),H):=
 qac hT inj_168 (s) hs rfl (by simp[qan])
def qhh(s:Str):Bool:=ql4 s && !conB s [13]
theorem c83{T:List (Entry PG)} (hc0:qIn 120 T e120) (hc1:qIn 121 T e121) (s:Str) (hs:s.length<=900000):CA T 83 [.str s] zH (.bool (qhh s)) zH:=by
 have kc0:=@k120 T hc0;have kc1:=@k121 T hc1;have hs2:s.length<=1000000:=by omega
 refine qa0 (s0:=⟨[0,2],[.str s,uD],[],10,⟨0,[[]]⟩⟩) Tryz.func83 rfl rfl rfl ?_
 (repeat' (first
  |with_reducible apply qal
  |(with_reducible apply rE;simp[zS, *];exact rfl)
  |(with_reducible apply qay;simp only[qam,qaj])
  |(with_reducible refine qb7 (fun hc=>?_) (fun hc=>?_)<;>(have hd:=hc;(try simp at hd);(try subst hd);apply qfx;simp[zS, *];exact rfl))
  |(with_reducible apply qa5;simp[zQ,Tryz.f83])))
 all_goals first|exact qa2 rfl (by first|(simp[qhh, *];done)|(simp_all [qhh];done))|(exfalso;omega)
def e83:Entry PG:=mkE 83 [[]] (fun z:Str=>[.str z]) (fun z=>(z.length<=900000)) (fun z=>.bool (qhh z)) fun z h=>c83 (T:=[e120,e121]) rfl rfl z h
theorem k83{T:List (Entry PG)} (hT:qIn 83 T e83) (s:Str) (hs:s.length<=900000) (H:Heap):qb6 (ctx T) (.fn 83) [.str s] H=some (.bool (qhh s),H):=
 qac hT inj_168 (s) hs rfl (by simp[qan])
def qfv(L:List Nd) (s:Str):Bool:=!decide (s=[]) && qhh s && !(decide ((qau L).kind=1) && qjg (qau L).space (qau L).name) && (!elB (qau L) lsB8 || s.all sp)
theorem qjs{L:List Nd} (h:okP L):okN (qau L):=by
 unfold qau;split
 ·exact⟨by decide,by decide,by decide,fun a ha=>by cases ha⟩
 next hne=>have:0 < L.length:=List.length_pos_iff.2 hne;exact h.2 _ (qb3 (by omega) (by omega))
theorem c55{T:List (Entry PG)} (hc0:qIn 82 T e82) (hc1:qIn 83 T e83) (hc2:qIn 84 T e84) (hc3:qIn 85 T e85) (hc4:qIn 86 T e86) (L:List Nd) (s:Str) (hp:okP L) (hs:s.length<=900000):CA T 55 [qaa L,.str s] zH (.bool (qfv L s)) zH:=by
 have kc0:=@k82 T hc0;have kc1:=@k83 T hc1;have kc2:=@k84 T hc2;have kc3:=@k85 T hc3;have kc4:=@k86 T hc4;have hl:L.length<=1000000:=by have:=hp.1;omega
 have hx:=(qjs hp).nm;have hs2:s.length<=1000000000:=by omega
 have h1:qde lsB8:=qr0 (by decide);refine qa0 (s0:=⟨[0,1,4,5],[qaa L,.str s,uD,uD],[],32,⟨0,[[]]⟩⟩) Tryz.func55 rfl rfl rfl ?_
 (repeat' (first
  |with_reducible apply qal
  |with_reducible apply qa7
  |(with_reducible apply rE;simp[zS, *,qaq];exact rfl)
  |(with_reducible apply qay;simp only[qam,qaj])
  |(with_reducible refine qb7 (fun hc=>?_) (fun hc=>?_)<;>(have hd:=hc;(try simp at hd);(try subst hd);apply qfx;simp[zS, *,qaq];exact rfl))
  |apply qai rfl
  |apply qag rfl
  |(refine qb0 rfl (fun hc=>?_) (fun hc=>?_)<;>(have hd:=hc;(try simp at hd);(try subst hd)))
  |(with_reducible apply qa4;simp only[qam,qaj])
  |(with_reducible apply qa5;simp[zQ,Tryz.f55])))
 all_goals first|exact qa2 rfl (by first|(simp[qfv, *];done)|(simp_all [qfv];done))|(exfalso;omega)
def e55:Entry PG:=mkE 55 [[7],[]] (fun z:List Nd × Str=>[qaa z.1,.str z.2]) (fun z=>(okP z.1)/\(z.2.length<=900000)) (fun z=>.bool (qfv z.1 z.2)) fun z h=>c55 (T:=[e82,e83,e84,e85,e86]) rfl rfl rfl rfl rfl z.1 z.2 h.1 h.2
theorem k55{T:List (Entry PG)} (hT:qIn 55 T e55) (L:List Nd) (s:Str) (hp:okP L) (hs:s.length<=900000) (H:Heap):qb6 (ctx T) (.fn 55) [qaa L,.str s] H=some (.bool (qfv L s),H):=
 qac hT inj_138 (L,s) ⟨hp,hs⟩ rfl (by simp[qan])
theorem q55{T:List (Entry PG)} (hT:qIn 55 T e55) {H:Heap} {a0:AV} {L:List Nd} (b0:qe9 H [7] a0=some (qaa L)) (s:Str) (hp:okP L) (hs:s.length<=900000):qb6 (ctx T) (.fn 55) [a0,.str s] H=some (.bool (qfv L s),H):=
 qac hT inj_138 (L,s) ⟨hp,hs⟩ rfl (by simp[b0])
abbrev qxg:Str:= qrd
def qwm(x:Str):Bool:=decide (x=[104,114]\/x=[116,97,98,108,101]\/x=[102,111,114,109]\/x=[108,105]\/x=[100,100]\/x=[100,116]) || inW qrd x || qdk 0 x
theorem c134{T:List (Entry PG)} (hc0:qIn 168 T e168) (hc1:qIn 135 T e135) (x:Str) (hx:x.length<=1000000000):CA T 134 [.str x] zH (.bool (qwm x)) zH:=by
 have kc0:=@k168 T hc0;have kc1:=@k135 T hc1;refine qa0 (s0:=⟨[0,2,3,4],[.str x,uD,uD,uD],[],17,⟨0,[[]]⟩⟩) Tryz.func134 rfl rfl rfl ?_
 (repeat' (first
  |with_reducible apply qal
  |with_reducible apply qa7
  |(with_reducible apply rE;simp[zS, *];exact rfl)
  |(with_reducible apply qay;simp only[qam,qaj])
  |(with_reducible refine qb7 (fun hc=>?_) (fun hc=>?_)<;>(have hd:=hc;(try simp at hd);(try subst hd);apply qfx;simp[zS, *];exact rfl))
  |apply qai rfl
  |(refine qb0 rfl (fun hc=>?_) (fun hc=>?_)<;>(have hd:=hc;(try simp at hd);(try subst hd)))
  |(with_reducible apply qa4;simp only[qam,qaj])
  |(with_reducible apply qa5;simp[zQ,Tryz.f134])))
 all_goals first|exact qa2 rfl (by first|(simp[qwm, *];done)|(simp_all [qwm];done))|(exfalso;omega)
def e134:Entry PG:=mkE 134 [[]] (fun z:Str=>[.str z]) (fun z=>(z.length<=1000000000)) (fun z=>.bool (qwm z)) fun z h=>c134 (T:=[e168,e135]) rfl rfl z h
theorem k134{T:List (Entry PG)} (hT:qIn 134 T e134) (x:Str) (hx:x.length<=1000000000) (H:Heap):qb6 (ctx T) (.fn 134) [.str x] H=some (.bool (qwm x),H):=
 qac hT inj_168 (x) hx rfl (by simp[qan])
def qky(L:List Nd):Bool:=L.any fun n=>elB n [102,111,114,109]
def qkx(L:List Nd) (x:Str):Bool:=
 if (qwm x && qed L [112] 2)=true then false
 else if x=[99,97,112,116,105,111,110]\/x=[99,111,108]\/x=[99,111,108,103,114,111,117,112]\/x=[116,98,111,100,121]\/x=[116,100]\/x=[116,102,111,111,116]\/x=[116,104]\/x=[116,104,101,97,100]\/x=[116,114] then false
 else if x=[104,49]\/x=[104,50]\/x=[104,51]\/x=[104,52]\/x=[104,53]\/x=[104,54] then !(decide ((qau L).kind=1) && qdk (qau L).space (qau L).name)
 else if x=[102,111,114,109] then !qky L
 else if x=[98,117,116,116,111,110]\/x=[110,111,98,114] then !qed L x 0
 else if x=[108,105] then !qek L x
 else if x=[100,100]\/x=[100,116] then !qek L [100,100,32,100,116]
 else if x=[97] then !qg5 L
 else if x=[111,112,116,105,111,110]\/x=[111,112,116,103,114,111,117,112] then !elB (qau L) [111,112,116,105,111,110] else true
set_option maxHeartbeats 4000000 in
theorem c96{T:List (Entry PG)} (hc0:qIn 82 T e82) (hc1:qIn 134 T e134) (hc2:qIn 133 T e133) (hc3:qIn 85 T e85) (hc4:qIn 138 T e138) (hc5:qIn 139 T e139) (hc6:qIn 135 T e135) (hc7:qIn 137 T e137) (L:List Nd) (x:Str) (hp:okP L) (hx:x.length<=1000000000):CA T 96 [qaa L,.str x] zH (.bool (qkx L x)) zH:=by
 have kc0:=@k82 T hc0;have kc1:=@k134 T hc1;have kc2:=@k133 T hc2;have kc3:=@k85 T hc3;have kc4:=@k138 T hc4;have kc5:=@k139 T hc5;have kc6:=@k135 T hc6;have kc7:=@k137 T hc7;have hl:L.length<=1000000:=by have:=hp.1;omega
 have hpx:=(qjs hp).nm;have a1:qde [112]:=qr0 (by decide);have a2:qde [98,117,116,116,111,110]:=qr0 (by decide);have a3:qde [110,111,98,114]:=qr0 (by decide);have a4:qde [108,105]:=qr0 (by decide);have a5:qde [100,100,32,100,116]:=qr0 (by decide);have a6:qde [111,112,116,105,111,110]:=qr0 (by decide);have hf:=c136 (T:=T) L hl 170 [.fptr [.str [102,111,114,109]] 0] rfl (fun n=>elB n [102,111,114,109]) (fun n hn=>c170 hc3 n [102,111,114,109] (qr0 (by decide)) (by decide) (hp.2 n hn).nm);have hpu:qa9 [qaa L,.func (.func 170) [] [.fptr [.str [102,111,114,109]] 0]]=true:=by simp[qa9,qab]
 have ef:qky L=L.any fun n=>elB n [102,111,114,109]:=rfl;rw[<- ef]at hf;have cv:qgr 170 [.fptr [.str [102,111,114,109]] 0]=.func (.func 170) [] [.fptr [.str [102,111,114,109]] 0]:=rfl;have k0:=fun H=>kc0 L hl H;have k1:=fun H=>kc1 x hx H;have k2:=fun H=>kc2 L [112] 2 hp a1 (by decide) H;have k2x:=fun(hW:qde x) (hq:x.length<=100000) H=>kc2 L x 0 hp hW hq H;have k3:=fun H=>kc3 (qau L) [111,112,116,105,111,110] a6 (by decide) hpx H;have k4:=fun H=>kc4 L [100,100,32,100,116] hp a5 (by decide) H;have k4x:=fun(hW:qde x) (hq:x.length<=100000) H=>kc4 L x hp hW hq H;have k5:=fun H=>kc5 L hp H;have k6:=fun H=>kc6 (qau L).space (qau L).name H;have k7:=fun H=>kc7 [102,111,114,109] H;clear kc0 kc1 kc2 kc3 kc4 kc5 kc6 kc7 hc0 hc1 hc2 hc3 hc4 hc5 hc6 hc7 ef;unfold qkx;generalize qdk (qau L).space (qau L).name=b6 at *;generalize elB (qau L) [111,112,116,105,111,110]=b3 at *;generalize qau L=up at *;generalize qg5 L=b5 at *;generalize qek L [100,100,32,100,116]=b4 at *;generalize qek L x=b4x at *;generalize qed L [112] 2=b2 at *;generalize qed L x 0=b2x at *;generalize qky L=bf at *;generalize qwm x=b1 at *;refine qa0 (s0:=⟨[0,1,4,5,14,15,25,49,62,73],[qaa L,.str x,uD,uD,uD,uD,uD,uD,uD,uD],[],79,⟨0,[[]]⟩⟩) Tryz.func96 rfl rfl rfl ?_
 (repeat' (first
  |with_reducible apply qal
  |with_reducible apply qa7
  |(with_reducible refine qah (qj3 [⟨136,_,_,hpu,hf⟩]) ?_;apply qfx;simp[zS, *,qaq,qog];exact rfl)
  |(with_reducible apply qay;simp only[qam,qaj])
  |(with_reducible refine qb7 (fun hc=>?_) (fun hc=>?_)<;>(have hd:=hc;(try simp at hd);(try subst hd);apply qfx;simp[zS, *,qaq,qog];exact rfl))
  |apply qai rfl
  |apply qag rfl
  |(refine qb0 rfl (fun hc=>?_) (fun hc=>?_)<;>(have hd:=hc;(try simp at hd);(try subst hd)))
  |(with_reducible apply qa4;simp only[qam,qaj])
  |(with_reducible apply qa5;simp[zQ,Tryz.f96])))
 all_goals first|exact qa2 rfl (by first|(simp[*];done)|(simp_all;done))|(exfalso;omega)
def e96:Entry PG:=mkE 96 [[7],[]] (fun z:List Nd × Str=>[qaa z.1,.str z.2]) (fun z=>(okP z.1)/\(z.2.length<=1000000000)) (fun z=>.bool (qkx z.1 z.2)) fun z h=>c96 (T:=[e82,e134,e133,e85,e138,e139,e135,e137]) rfl rfl rfl rfl rfl rfl rfl rfl z.1 z.2 h.1 h.2
theorem k96{T:List (Entry PG)} (hT:qIn 96 T e96) (L:List Nd) (x:Str) (hp:okP L) (hx:x.length<=1000000000) (H:Heap):qb6 (ctx T) (.fn 96) [qaa L,.str x] H=some (.bool (qkx L x),H):=
 qac hT inj_138 (L,x) ⟨hp,hx⟩ rfl (by simp[qan])
def qd7(L:List Nd):Str × Bool:=
 let up:=qau L
 if up.kind≠1 then ([],false)
 else if qjg up.space up.name=true then ([],true)
 else if up.space≠0 then ([],false)
 else if up.name=[116,101,120,116,97,114,101,97] then ([],true)
 else if up.name=[111,112,116,105,111,110] then ([],qed L [115,101,108,101,99,116] 4)
 else if up.name=[111,112,116,103,114,111,117,112] then ([111,112,116,105,111,110],qed L [115,101,108,101,99,116] 4)
 else if up.name=[115,101,108,101,99,116] then (lsB6,true)
 else if up.name=[116,97,98,108,101] then (lsB18,true)
 else if up.name=[99,111,108,103,114,111,117,112] then ([99,111,108],true)
 else if up.name=[116,98,111,100,121]\/up.name=[116,102,111,111,116]\/up.name=[116,104,101,97,100] then ([116,114],true)
 else if up.name=[116,114] then ([116,100,32,116,104],true) else ([],false)
theorem c95{T:List (Entry PG)} (hc0:qIn 82 T e82) (hc1:qIn 84 T e84) (hc2:qIn 133 T e133) (L:List Nd) (hp:okP L):CA T 95 [qaa L] zH (.tup [.str (qd7 L).1,.bool (qd7 L).2]) zH:=by
 have kc0:=@k82 T hc0;have kc1:=@k84 T hc1;have kc2:=@k133 T hc2;have hl:L.length<=1000000:=by have:=hp.1;omega
 have hpx:=(qjs hp).nm;have k0:=fun H=>kc0 L hl H;have k1:=fun H=>kc1 (qau L).space hpx H;have k2:=fun H=>kc2 L [115,101,108,101,99,116] 4 hp (qr0 (by decide)) (by decide) H;clear kc0 kc1 kc2 hc0 hc1 hc2;simp only[qd7];generalize qed L [115,101,108,101,99,116] 4=b2 at *;generalize qjg (qau L).space (qau L).name=b1 at *;generalize qau L=up at *;refine qa0 (s0:=⟨[0,2,3,4,19,36],[qaa L,uD,uD,uD,uD,uD],[],42,⟨0,[[]]⟩⟩) Tryz.func95 rfl rfl rfl ?_
 (repeat' (first
  |with_reducible apply qal
  |with_reducible apply qa7
  |(with_reducible apply rE;simp[zS, *,qaq];exact rfl)
  |(with_reducible apply qay;simp only[qam,qaj])
  |apply qag rfl
  |(refine qb0 rfl (fun hc=>?_) (fun hc=>?_)<;>(have hd:=hc;(try simp at hd);(try subst hd)))
  |(with_reducible apply qa4;simp only[qam,qaj])
  |(with_reducible apply qa5;simp[zQ,Tryz.f95])))
 all_goals first|exact qa2 rfl (by first|(simp[*];done)|(simp_all;done))|(exfalso;omega)
def e95:Entry PG:=mkE 95 [[7]] (fun z:List Nd=>[qaa z]) (fun z=>(okP z)) (fun z=>.tup [.str (qd7 z).1,.bool (qd7 z).2]) fun z h=>c95 (T:=[e82,e84,e133]) rfl rfl rfl z h
theorem k95{T:List (Entry PG)} (hT:qIn 95 T e95) (L:List Nd) (hp:okP L) (H:Heap):qb6 (ctx T) (.fn 95) [qaa L] H=some (.tup [.str (qd7 L).1,.bool (qd7 L).2],H):=
 qd1 hT inj_82 (L) hp (by simp[qa9,qab,qan]) (by simp[qan]) H
theorem ite_P{α:Type} {P:α->Prop} {c:Prop} [Decidable c] {a b:α} (ha:P a) (hb:P b):P (if c then a else b):=by
 split
 ·exact ha
 ·exact hb
theorem qnu(L:List Nd):qde (qd7 L).1/\(qd7 L).1.length<=100000:=by
 have key:∀W:Str,∀b:Bool,W.all (fun c=>decide (c.toNat < 128))=true->W.length<=100000->(fun z:Str × Bool=>qde z.1/\z.1.length<=100000) (W,b):=fun W b h1 h2=>⟨qr0 h1,h2⟩;show (fun z:Str × Bool=>qde z.1/\z.1.length<=100000) (qd7 L);simp only[qd7]
 repeat' (first|exact key _ _ (by decide) (by decide)|apply ite_P (P:=fun z:Str × Bool=>qde z.1/\z.1.length<=100000))
def zal(u n:Nd):Bool:=decide (n.space=u.space) || (decide (u.space=2) && decide (u.name=[97,110,110,111,116,97,116,105,111,110,45,120,109,108]) && decide (n.space=1) && decide (n.name=[115,118,103]))
def qny(L:List Nd) (n:Nd):Bool:=
 let up:=qau L
 if n.kind≠1\/qll n.space n.name=false then false
 else if (up.kind≠1\/up.space≠0)/\qg9 up=false/\qf4 up=false then zal up n
 else if (qd7 L).2=true then elB n (qd7 L).1
 else if n.space=1 then decide (n.name=[115,118,103]) else if n.space=2 then decide (n.name=[109,97,116,104]) else qkx L n.name
set_option maxHeartbeats 2000000 in
theorem c58{T:List (Entry PG)} (hc0:qIn 82 T e82) (hc1:qIn 91 T e91) (hc2:qIn 92 T e92) (hc3:qIn 93 T e93) (hc4:qIn 94 T e94) (hc5:qIn 95 T e95) (hc6:qIn 85 T e85) (hc7:qIn 96 T e96) (L:List Nd) (n:Nd) (hp:okP L) (hn:okN n):CA T 58 [qaa L,qa3 n] zH (.bool (qny L n)) zH:=by
 have kc0:=@k82 T hc0;have kc1:=@k91 T hc1;have kc2:=@k92 T hc2;have kc3:=@k93 T hc3;have kc4:=@k94 T hc4;have kc5:=@k95 T hc5;have kc6:=@k85 T hc6;have kc7:=@k96 T hc7;have hl:L.length<=1000000:=by have:=hp.1;omega
 have hpo:=qjs hp;have hnx:=hn.nm;obtain⟨a1,a2⟩:=qnu L;have k0:=fun H=>kc0 L hl H;have k1:=fun H=>kc1 n.space n.name hnx H;have k2:=fun H=>kc2 (qau L) H;have k3:=fun H=>kc3 (qau L) hpo H;have k4:=fun H=>kc4 (qau L) n H;have k5:=fun H=>kc5 L hp H;have k6:=fun H=>kc6 n (qd7 L).1 a1 a2 hnx H;have k7:=fun H=>kc7 L n.name hp hnx H;have ea:(decide (n.space=(qau L).space) || (decide ((qau L).space=2) && decide ((qau L).name=[97,110,110,111,116,97,116,105,111,110,45,120,109,108]) && decide (n.space=1) && decide (n.name=[115,118,103])))=zal (qau L) n:=rfl;simp only[ea]at k4;clear kc0 kc1 kc2 kc3 kc4 kc5 kc6 kc7 hc0 hc1 hc2 hc3 hc4 hc5 hc6 hc7 a1 a2 ea hpo;simp only[qny];generalize elB n (qd7 L).1=b6 at *;generalize qd7 L=st at *;obtain⟨s1,s2⟩:=st;generalize qkx L n.name=b7 at *;generalize qf4 (qau L)=b3 at *;generalize qg9 (qau L)=b2 at *;generalize zal (qau L) n=b4 at *;generalize qll n.space n.name=b1 at *;generalize qau L=up at *;simp only at *;refine qa0 (s0:=⟨[0,1,3,4,5,6,7,52],[qaa L,qa3 n,uD,uD,uD,uD,uD,uD],[],67,⟨0,[[]]⟩⟩) Tryz.func58 rfl rfl rfl ?_
 (repeat' (first
  |with_reducible apply qal
  |with_reducible apply qa7
  |(with_reducible apply rE;simp[zS, *,qaq];exact rfl)
  |(with_reducible apply qay;simp only[qam,qaj])
  |(with_reducible refine qb7 (fun hc=>?_) (fun hc=>?_)<;>(have hd:=hc;(try simp at hd);(try subst hd);apply qfx;simp[zS, *,qaq];exact rfl))
  |apply qai rfl
  |apply qag rfl
  |(refine qb0 rfl (fun hc=>?_) (fun hc=>?_)<;>(have hd:=hc;(try simp at hd);(try subst hd)))
  |(with_reducible apply qa4;simp only[qam,qaj])
  |(with_reducible apply qa5;simp[zQ,Tryz.f58])))
 all_goals first|exact qa2 rfl (by first|(simp[*];done)|(simp_all;done))|(exfalso;omega)
theorem inj_58(x y:List Nd × Nd) (h:(fun z:List Nd × Nd=>([qaa z.1,qa3 z.2]:List AV)) x=(fun z:List Nd × Nd=>([qaa z.1,qa3 z.2]:List AV)) y):x=y:=by obtain⟨x0,x1⟩:=x;obtain⟨y0,y1⟩:=y;simp only[List.cons.injEq,and_true]at h;obtain⟨h0,h1⟩:=h;have g0:x0=y0:=qcg h0;have g1:x1=y1:=qci h1;subst g0 g1;rfl
def e58:Entry PG:=mkE 58 [[7],[0,0,0,2,0,0,1]] (fun z:List Nd × Nd=>[qaa z.1,qa3 z.2]) (fun z=>(okP z.1)/\(okN z.2)) (fun z=>.bool (qny z.1 z.2)) fun z h=>c58 (T:=[e82,e91,e92,e93,e94,e95,e85,e96]) rfl rfl rfl rfl rfl rfl rfl rfl z.1 z.2 h.1 h.2
theorem k58{T:List (Entry PG)} (hT:qIn 58 T e58) (L:List Nd) (n:Nd) (hp:okP L) (hn:okN n) (H:Heap):qb6 (ctx T) (.fn 58) [qaa L,qa3 n] H=some (.bool (qny L n),H):=
 qac hT inj_58 (L,n) ⟨hp,hn⟩ rfl (by simp[qan])
theorem q58{T:List (Entry PG)} (hT:qIn 58 T e58) {H:Heap} {a0:AV} {L:List Nd} (b0:qe9 H [7] a0=some (qaa L)) {a1:AV} {n:Nd} (b1:qe9 H [0,0,0,2,0,0,1] a1=some (qa3 n))  (hp:okP L) (hn:okN n):qb6 (ctx T) (.fn 58) [a0,a1] H=some (.bool (qny L n),H):=
 qac hT inj_58 (L,n) ⟨hp,hn⟩ rfl (by simp[b0,b1])
theorem FitH.fsV{n:Nat} {σ:List (Nat × Nat)} {Φ:List (Nat × List AV)} {H:Heap} {m:Nat} {f g:List (List (Nat × Blk))} (h:FitH n σ Φ H ⟨m,f⟩) (e:f.flatten=g.flatten):FitH n σ Φ H ⟨m,g⟩ where
 nd1:=h.nd1
 nd2:=h.nd2
 nd3:=by have:=h.nd3;simp only[Heap.ents]at this ⊢;rw[<- e];exact this
 lt:=h.lt
 idn:=h.idn
 num:=h.num
 src:=by have:=h.src;simp only[Heap.ents]at this ⊢;rw[<- e];exact this
 frz:=h.frz
def qmy(s:Str):AV:=.fslc 1 (qad s)
theorem qso:∀(s:Str),qem 1 (qad s)=true
 |[]=>rfl
 |c::r=>by simp[qad,qem,qso r]
theorem zby{σ:List (Nat × Nat)} {Φ:List (Nat × List AV)} {b:Nat} {s:Str} {cap:Cap} (h:qca b Φ=some (qad s)):qas σ Φ (.slc b 0 s.length cap) (qmy s):=by simp only[qas,qmy];refine .inl ⟨qad s,h,?_,qd3 s,qso s⟩;have:=qco (qad s);rw[qd3]at this;simp only[qex,List.drop_zero,Nat.mul_one,this,qkp]
theorem qpm(s:Str):qab (qmy s)=true:=by simp[qmy,qab,qkp,qh6]
theorem atBy{s:Str} {i:Nat} (h:i < s.length):qat PG 74 (qmy s) (.int .i64 (i:Int))=some (.fptr [.int .u8 s[i].toNat] 0):=by
 have hb:i < (qad s).length:=by rw[qd3];exact h
 simp[qat,qmy,qbv hb,qdp h,AV.cells]
def qgc(sp:Int):List Str:=if sp=1 then [[118,105,101,119,66,111,120],lsB7,[103,114,97,100,105,101,110,116,85,110,105,116,115]] else if sp=2 then [[100,101,102,105,110,105,116,105,111,110,85,82,76]] else []
theorem spel_len(sp:Int):(qgc sp).length<=3:=by
 unfold qgc;split
 ·exact Nat.le_refl 3
 split
 ·exact(by decide:1<=3)
 ·exact Nat.zero_le _
theorem c158{T:List (Entry PG)} (sp:Int):CA T 158 [.int .i64 sp] zH (qcj (qgc sp)) zH:=by
 by_cases h1:sp=1
 ·refine qa0 (s0:=⟨[0,2,3],[.int .i64 sp,uD,uD],[],10,⟨0,[[]]⟩⟩) Tryz.func158 rfl rfl rfl ?_
  (repeat' (first
   |with_reducible apply qal
   |with_reducible apply qa7
   |(with_reducible apply rE;simp[zS, *];exact rfl)
   |(with_reducible apply qay;simp only[qam,qaj])
   |apply qai rfl
   |(with_reducible apply qa5;simp[zQ,Tryz.f158])))
  all_goals first|(skip)|(exfalso;omega)
  simp[qgc,h1];exact qsh rfl (by simp[qa6]) (by simp[qa9,qab]) rfl (by simp[qem]) rfl
 ·by_cases h2:sp=2
  ·refine qa0 (s0:=⟨[0,2,3],[.int .i64 sp,uD,uD],[],10,⟨0,[[]]⟩⟩) Tryz.func158 rfl rfl rfl ?_
   (repeat' (first
    |with_reducible apply qal
    |with_reducible apply qa7
    |(with_reducible apply rE;simp[zS, *];exact rfl)
    |(with_reducible apply qay;simp only[qam,qaj])
    |apply qai rfl
    |apply qag rfl
    |(with_reducible apply qa5;simp[zQ,Tryz.f158])))
   all_goals first|(skip)|(exfalso;omega)
   simp[qgc,h2];exact qsh rfl (by simp[qa6]) (by simp[qa9,qab]) rfl (by simp[qem]) rfl
  ·refine qa0 (s0:=⟨[0,2,3],[.int .i64 sp,uD,uD],[],10,⟨0,[[]]⟩⟩) Tryz.func158 rfl rfl rfl ?_
   (repeat' (first
    |with_reducible apply qal
    |with_reducible apply qa7
    |(with_reducible apply rE;simp[zS, *];exact rfl)
    |(with_reducible apply qay;simp only[qam,qaj])
    |apply qag rfl
    |(with_reducible apply qa4;simp only[qam,qaj])
    |(with_reducible apply qa5;simp[zQ,Tryz.f158])))
   all_goals first|(skip)|(exfalso;omega)
   simp[qgc,h1,h2];exact ends_nil
theorem inj_158(x y:Int) (h:(fun z:Int=>([.int .i64 z]:List AV)) x=(fun z:Int=>([.int .i64 z]:List AV)) y):x=y:=by simp only[List.cons.injEq,and_true]at h;exact AV.int.inj h |>.2
def e158:Entry PG:=mkE 158 [[]] (fun z:Int=>[.int .i64 z]) (fun z=>True) (fun z=>qcj (qgc z)) fun z h=>c158 (T:=[])  z 
theorem k158{T:List (Entry PG)} (hT:qIn 158 T e158) (sp:Int) (H:Heap):qb6 (ctx T) (.fn 158) [.int .i64 sp] H=some (qcj (qgc sp),H):=
 qd1 hT inj_158 (sp) trivial (by simp[qa9,qab,qan]) (by simp[qan]) H
theorem c160{T:List (Entry PG)} (hL:qIn 161 T e161) (x s:Str) (hx:x.length<=1000000):CA T 160 [.str x,.fptr [.str s] 0] zH (.bool (decide (qfy x=s))) zH:=by
 have kl:=fun H=>k161 hL hx H;refine qa0 (s0:=⟨[0,1,3],[.str x,.fptr [.str s] 0,uD],[],8,⟨0,[[]]⟩⟩) Tryz.func160 rfl rfl rfl ?_;apply ra;simp[zS];repeat apply wq
 refine zcq mixed qbf (by decide +kernel) rfl fun B_ hB_=>?_;have hD_:ahead B_ 1 2=false/\ahead B_ 2 1=false:=by rw[hB_];decide +kernel
 simp[zS,qdl,qc6,qc3,qb4,qaz,qc5,Heap.lay,qd9,zg1,zg0,qma,zcv,actA_s,layA_s,zfg,zfh,clsA_l,clsA_a,clsA_p,clsA_r,offA_a,offA_l,offA_p,offA_r,hD_,kl];refine⟨_,_,⟨rfl,rfl⟩,?_⟩;simp[qc5,Heap.lay,qd9,qam];apply qa5;simp[zQ,Tryz.f160];exact qa2 rfl (by rfl)
abbrev qq1:Str:=[48,49,50,51,52,53,54,55,56,57,45,95,58]
def okCh(i:Nat) (c:UInt8):Bool:=(decide (97<=(c.toNat:Int)) && decide ((c.toNat:Int)<=122)) || (decide (0 < (i:Int)) && decide (0<=Lib.indexByte qq1 c))
def qk8:Str->Nat->Bool
 |[],_=>true
 |c::r,i=>okCh i c && qk8 r (i+1)
def qxh(L:List Str) (s:Str):Bool:=L.any fun x=>decide (qfy x=s)
def qod(sp:Int) (s:Str):Bool:=decide (s∈qgc sp) || (!(decide (s=[]) || qxh (qgc sp) s) && qk8 s 0)
theorem c129{T:List (Entry PG)} (hc0:qIn 158 T e158) (hc1:qIn 183 T e183) (hc2:qIn 161 T e161) (hc3:qIn 162 T e162) (sp:Int) (s:Str) (hs:s.length<=1000000):CA T 129 [.int .i64 sp,.str s] zH (.bool (qod sp s)) zH:=by
 have kc0:=@k158 T hc0;have kc1:=@k183 T hc1;have kc2:=@k161 T hc2;have kc3:=@k162 T hc3;have k0:=fun H=>kc0 sp H;have k3:=fun c H=>kc3 qq1 c H;have hsl:=spel_len sp;have hml:∀x,x∈qgc sp->x.length<=1000000:=by
  unfold qgc;intro x hx;split at hx
  ·simp at hx;rcases hx with rfl|rfl|rfl<;>decide
  ·split at hx
   ·simp at hx;subst hx;decide
   ·cases hx
 have hC:=c151 hc1 (qgc sp) s (by omega);have hF:=c159 (T:=T) (qgc sp) (by omega) 160 [.fptr [.str s] 0] rfl (fun x=>decide (qfy x=s)) (fun x hx=>c160 hc2 x s (hml x hx));have hF2:=CallAt.thaw hF rfl [[1],[]] (H:=⟨1,[[(0,.cells [.str s])]]⟩) (args:=[qcj (qgc sp),.func (.func 160) [] [.ptr 0 0]]) (by simp[qan,okV,qab,qa9,qp8 (H:=⟨1,[[(0,.cells [.str s])]]⟩) (b:=0) (cs:=[.str s]) rfl rfl]);have el:(qgc sp).any (fun x=>decide (qfy x=s))=qxh (qgc sp) s:=rfl;rw[el]at hF2;have hpu:qa9 [qcj (qgc sp),.str s]=true:=by simp[qa9,qab]
 unfold qod;clear hF el hml hsl kc0 kc1 kc2 kc3;generalize qxh (qgc sp) s=lb at *;generalize decide (s∈qgc sp)=db at *;generalize qgc sp=l at *;have cb:qh5 PG ⟨1,[[(0,.cells [.str s])]]⟩ 9 74 (.str s)=some (.slc 1 0 s.length (.rest 1),⟨2,[[(1,.cells (qad s)),(0,.cells [.str s])]]⟩):=by
  have hr:qcw s.length 1=true:=by simp[qcw];omega
  simp[qh5,hr,Heap.new,pushF]
 have ls:∀H,qf6 PG H 74 (.slc 1 0 s.length (.rest 1))=some s.length:=fun H=>rfl;refine qa0 (s0:=⟨[0,1,3,4,5,6,7,21,22,23],[.int .i64 sp,.str s,uD,uD,uD,uD,uD,uD,uD,uD],[],44,⟨0,[[]]⟩⟩) Tryz.func129 rfl rfl rfl ?_;apply ra;simp[zS];apply ra;simp[zS,k0];repeat apply wq
 refine qah (qj3 [⟨151,_,_,hpu,hC⟩]) ?_;simp[zS,qog];cases db with
 |true=>apply qai rfl;apply ra;simp[zS];apply qa5;simp[zQ,Tryz.f129];exact qa2 rfl (by rfl)
 |false=>
  apply qag rfl;apply qa4;simp;repeat apply wq
  refine qah (qbh [⟨159,_,_,_,_,hF2⟩]) ?_;by_cases he:s=[]
  ·simp[zS,qcc,he];apply qai rfl;apply ra;simp[zS];apply qa5;simp[zQ,Tryz.f129];exact qa2 rfl (by simp)
  ·cases lb with
   |true=>simp[zS,qcc,he];apply qai rfl;apply ra;simp[zS];apply qa5;simp[zQ,Tryz.f129];exact qa2 rfl (by simp)
   |false=>
    simp[zS,qcc,he];apply qag rfl;apply qa4;simp;apply ra;simp[zS,cb,ls];refine qa7 (qb1 (fun i:Nat=>(⟨[0,1,3,4,5,6,7,21,22,23],[.int .i64 sp,.str s,.fptr [.str s] 0,.bool false,qcj l,uD,uD,qmy s,.int .i64 (s.length:Nat),.int .i64 (i:Int)],[],44,⟨0,[[]]⟩⟩ : St))
     (fun i=>i<=s.length/\qk8 s 0=qk8 (s.drop i) i) (fun i=>s.length - i) [] [(1,qad s),(0,[.str s])] 0 ⟨Nat.zero_le _,rfl⟩ ⟨rfl,rfl,rfl,?_,?_⟩ ?_)
    ·simp[qax,zby,qca,qab,qa9];simp[qas,qca,qa9,qab]
    ·refine FitH.fsV (.froze (by simp) fun x hx=>?_) rfl;simp at hx;rcases hx with rfl|rfl
     ·exact⟨qad s,by simp[zG],qak (qh6 s),qh6 s⟩
     ·exact⟨[.str s],by simp[zG],qak rfl,rfl⟩
    rintro i ⟨hi,hx⟩ B hB;clear hC hF2 cb ls k0;apply ra;simp[zS];repeat apply wq
    refine qb0 rfl (fun h=>?_) fun h=>?_
    ·simp at h;have hix:=atBy h;rw[List.drop_eq_getElem_cons h]at hx;simp only[qk8]at hx;have ha:=qbb (show i<=1000000000 by omega);have w1:wr .i64 1=some 1:=rfl;have hfit:(∃σ Φ,Fit 0 σ Φ (⟨[0,1,3,4,5,6,7,21,22,23],[.int .i64 sp,.str s,.fptr [.str s] 0,.bool false,qcj l,uD,uD,qmy s,.int .i64 (s.length:Nat),.int .i64 ((i+1:Nat):Int)],[],44,⟨0,[[]]⟩⟩ : St) (⟨[0,1,3,4,5,6,7,21,22,23],[.int .i64 sp,.str s,.fptr [.str s] 0,.bool false,qcj l,uD,uD,qmy s,.int .i64 (s.length:Nat),.int .i64 ((i+1:Nat):Int)],[],44,⟨0,[[]]⟩⟩ : St)):=⟨[],[],⟨rfl,rfl,rfl,by simp[qax,qas,qab,qa9,qpm],FitH.nothing⟩⟩;unfold okCh at hx;generalize s[i]=c at *;have k3c:=fun H=>k3 c H;clear k3;generalize Lib.indexByte qq1 c=ib at *;apply qa4;simp only[qam,qaj]
     (repeat' (first
      |with_reducible apply qal
      |with_reducible apply qa7
      |(with_reducible apply rE;simp[zS, *];exact rfl)
      |(with_reducible apply qay;simp only[qam,qaj])
      |(with_reducible refine qb7 (fun hc=>?_) (fun hc=>?_)<;>(have hd:=hc;(try simp at hd);(try subst hd);apply qfx;simp[zS, *];exact rfl))
      |(with_reducible refine qkm (fun hc=>?_) (fun hc=>?_)<;>(have hd:=hc;(try simp at hd);(try subst hd);apply qfx;simp[zS, *];exact rfl))
      |apply qai rfl
      |apply qag rfl
      |(refine qb0 rfl (fun hc=>?_) (fun hc=>?_)<;>(have hd:=hc;(try simp at hd);(try subst hd)))
      |(with_reducible apply qa4;simp only[qam,qaj])
      |(with_reducible apply qar;simp)
      |(with_reducible apply qa5;simp[zQ,Tryz.f129])))
     all_goals first|exact qa2 rfl (by rw[hx];simp[*])|(exact hB _ (i+1) (by omega) ⟨by omega,by rw[hx];simp[*]⟩ ⟨[],[],⟨rfl,rfl,rfl,by simp[qax,qas,qab,qa9,qpm],FitH.nothing⟩⟩)|(exfalso;omega)
    ·simp at h;apply qar;simp;apply ra;simp[zS];apply qa5;simp[zQ,Tryz.f129];exact qa2 rfl (by rw[hx,List.drop_eq_nil_of_le h];simp[qk8,he])
def e129:Entry PG:=mkE 129 [[],[]] (fun z:Int × Str=>[.int .i64 z.1,.str z.2]) (fun z=>(z.2.length<=1000000)) (fun z=>.bool (qod z.1 z.2)) fun z h=>c129 (T:=[e158,e183,e161,e162]) rfl rfl rfl rfl z.1 z.2 h
theorem k129{T:List (Entry PG)} (hT:qIn 129 T e129) (sp:Int) (s:Str) (hs:s.length<=1000000) (H:Heap):qb6 (ctx T) (.fn 129) [.int .i64 sp,.str s] H=some (.bool (qod sp s),H):=
 qac hT inj_172 (sp,s) hs rfl (by simp[qan])
@[simp]theorem szT124:qce PG 124=some 1:=rfl
@[simp]theorem agT124:qia PG 124=some false:=rfl
@[simp]theorem byT124:qcq PG 124=some 8:=rfl
@[simp]theorem alT124(H:Heap):alV PG H 124=some (.ptr H.n 0,H.new (.cells [.nilM])):=rfl
@[simp]theorem zeT124:qc0 PG 124=some (.nilM):=rfl
attribute [simp] Tryz.underlying124
@[simp 500]theorem rvF124(H:Heap) (cs:List AV) (o:Nat):qaw PG H 124 (.fptr cs o)=qck cs o:=rfl
@[simp 500]theorem rvP124(H:Heap) (b o:Nat):qaw PG H 124 (.ptr b o)=(H.get b).bind fun k=>k.rd.bind fun cs=>qck cs o:=rfl
def qjd(_:Unit):AV:=.int .i64 1
def mapSV:MapT PG 124 AV.str qjd where
 tk:=9
 te:=3
 kd:=_
 hu:=Tryz.underlying124
 hk:=Tryz.underlying9
 eq:=fun a b=>by show some (eqB a b)=_;rw[qk4]
 pure:=fun a v=>rfl
def qgi(L:List Str):List (Str × Unit):=L.map fun s=>(s,())
theorem qqf{x:Str}:∀{L:List Str},getM x (qgi L)=if x∈L then some () else none
 |[]=>rfl
 |y::r=>by
  unfold qgi;rw[List.map_cons];unfold getM;by_cases h:y=x
  ·simp[h]
  ·have h2:¬ x=y:=fun e=>h e.symm;have:=qqf (x:=x) (L:=r);unfold qgi at this;simp[h,h2,this]
theorem set_keys{x:Str} {L:List Str} (h:x ∉ L):setM x () (qgi L)=qgi (L++[x]):=by
 have hi:qne x (qgi L)=none:=by
  cases hq:qne x (qgi L)with
  |none=>rfl
  |some i=>obtain⟨h1,h2,h3⟩:=qou hq;rw[qqf,if_neg h]at h3;cases h3
 rw[qt6 hi];simp[qgi]
theorem zft(σ:List (Nat × Nat)) (Φ:List (Nat × List AV)) (S:List Str):qi1 σ Φ (.map (qdb AV.str qjd (qgi S))) (.map (qdb AV.str qjd (qgi S))):=by
 have e1:(qdb AV.str qjd (qgi S)).map (·.1)=S.map AV.str:=by simp[qdb,qgi,Function.comp_def]
 have e2:(qdb AV.str qjd (qgi S)).map (·.2)=S.map fun _=>AV.int .i64 1:=by simp[qdb,qgi,Function.comp_def,qjd]
 have p1:qa9 ((qdb AV.str qjd (qgi S)).map (·.1))=true:=by
  rw[e1];clear e1 e2;induction S with
  |nil=>rfl
  |cons a r ih=>simp only[List.map_cons,qa9,qab,Bool.true_and];exact ih
 have p2:qa9 ((qdb AV.str qjd (qgi S)).map (·.2))=true:=by
  rw[e2];clear e1 e2 p1;induction S with
  |nil=>rfl
  |cons a r ih=>simp only[List.map_cons,qa9,qab,Bool.true_and];exact ih
 exact⟨qak p1,qak p2⟩
def attG(sp:Int):List Str->List At1->Bool
 |_,[]=>true
 |S,a::r=>!decide (a.1∈S) && qod sp a.1 && qhh a.2 && attG sp (S++[a.1]) r
def qg8(n:Nd):Bool:=attG n.space [] n.attrs
def qcz(L:List At1):List Str:=L.map (·.1)
theorem c89{T:List (Entry PG)} (hc0:qIn 129 T e129) (hc1:qIn 83 T e83) (n:Nd) (h:okN n):CA T 89 [qa3 n] zH (.bool (qg8 n)) zH:=by
 have kc0:=@k129 T hc0;have kc1:=@k83 T hc1;have zi:qc0 PG (mapSV).te=some (.int .i64 0):=rfl;obtain⟨sp,hsp⟩ : ∃sp,sp=n.space:=⟨_,rfl⟩;refine qa0 (s0:=⟨[0,1,2,3,5,8,9,10],[qa3 n,uD,uD,uD,uD,uD,uD,uD],[],37,⟨0,[[]]⟩⟩) Tryz.func89 rfl rfl rfl ?_;apply ra;simp[zS,qaq];apply ra;simp[zS];apply ra;simp[zS,qh1];refine qa7 (qb1 (fun i:Nat=>(⟨[0,1,2,3,5,8,9,10],[qa3 n,.fptr n.cs 0,.bool false,.map 0,uD,qaf n.attrs,.int .i64 (n.attrs.length:Nat),.int .i64 (i:Int)],[],37,⟨1,[[(0,.map (qdb AV.str qjd (qgi (qcz (n.attrs.take i)))))]]⟩⟩ : St))
  (fun i=>i<=n.attrs.length/\qg8 n=attG n.space (qcz (n.attrs.take i)) (n.attrs.drop i)) (fun i=>n.attrs.length - i) [(1,0)] [(0,n.cs)] 0 ⟨Nat.zero_le _,by simp[qg8,qcz]⟩ ⟨rfl,rfl,rfl,?_,?_⟩ ?_)
 ·simp[qax,qas,qb2,qca,qab,qa9]
 ·exact {
   nd1:=by simp
   nd2:=by simp
   nd3:=by simp[Heap.ents]
   lt:=by simp
   idn:=by simp
   num:=by simp
   src:=fun e he=>by simp[Heap.ents]at he;subst he;exact⟨1,.map [],by simp,by simp[zG],by simp[qi1,qax,qdb,qgi,qcz]⟩
   frz:=fun x hx=>by simp at hx;subst hx;exact⟨n.cs,by simp[zG],qak (qe4 n),qe4 n⟩ }
 rintro i ⟨hi,hx⟩ B hB;apply ra;simp[zS];repeat apply wq
 refine qb0 rfl (fun h2=>?_) fun h2=>?_
 ·simp at h2;have hix:=atA h2;rw[List.drop_eq_getElem_cons h2]at hx;simp only[attG]at hx;obtain⟨l1,l2⟩:=h.2.2.2 _ (List.getElem_mem h2);have hT:qcz (n.attrs.take (i+1))=qcz (n.attrs.take i)++[n.attrs[i].1]:=by rw[List.take_succ_eq_append_getElem h2];unfold qcz;rw[List.map_append];rfl
  have ha:=qbb (show i<=1000000000 by have:=h.2.1;omega);have kn:=fun H=>kc0 n.space n.attrs[i].1 (by omega) H;have kl:=fun H=>kc1 n.attrs[i].2 (by omega) H;generalize n.attrs[i]=a at *;obtain⟨x,y⟩:=a;simp only at hT l1 l2 kn kl hx hix;have hlen:=h.2.1;generalize hS:qcz (n.attrs.take i)=S at *;clear kc0 kc1 hc0 hc1 hS;have lu:qju PG ⟨2,[[(1,.cells [.str x,.str y]),(0,.map (qdb AV.str qjd (qgi S)))]]⟩ 124 (.map 0) (.str x) false=some (.int .i64 (if x∈S then 1 else 0)):=by
   rw[mapSV.look (b:=0) (M:=qgi S) zi (by simp[zG]) x,qqf];by_cases hm:x∈S
   ·simp[hm,qjd]
   ·simp[hm]
  by_cases hm:x∈S
  ·simp only[hm,if_true,decide_true,Bool.not_true,Bool.false_and]at lu hx;apply qa4;simp only[qam,qaj]
   (repeat' (first
    |with_reducible apply qal
    |with_reducible apply qa7
    |(with_reducible apply rE;simp[zS, *];exact rfl)
    |(with_reducible apply qay;simp only[qam,qaj])
    |apply qai rfl
    |(with_reducible apply qa5;simp[zQ,Tryz.f89])))
   all_goals first|exact qa2 rfl (by rw[hx])|(exfalso;omega)
  ·simp only[hm,if_false,decide_false,Bool.not_false,Bool.true_and]at lu hx;have mu:qiw PG ⟨2,[[(1,.cells [.str x,.str y]),(0,.map (qdb AV.str qjd (qgi S)))]]⟩ 124 (.map 0) (.str x) (.int .i64 1)=some ⟨2,[[(1,.cells [.str x,.str y]),(0,.map (qdb AV.str qjd (qgi (S++[x]))))]]⟩:=(by have:=mapSV.update (b:=0) (M:=qgi S) (H:=⟨2,[[(1,.cells [.str x,.str y]),(0,.map (qdb AV.str qjd (qgi S)))]]⟩) (by simp[zG]) x ();rw[set_keys hm]at this;rw[show AV.int .i64 1=qjd () from rfl,this];simp[Heap.set,setFs,setF]);have hfit:∀(v:Int) (w:List (Nat × AV)),v=((i+1:Nat):Int)->Fit 0 [(0,0)] [] ⟨[0,1,2,3,5,8,9,10],[qa3 n,.fptr n.cs 0,.bool false,.map 0,.ptr 1 0,qaf n.attrs,.int .i64 (n.attrs.length:Nat),.int .i64 v],w,37,⟨2,[[(1,.cells [.str x,.str y]),(0,.map (qdb AV.str qjd (qgi (S++[x]))))]]⟩⟩
     (⟨[0,1,2,3,5,8,9,10],[qa3 n,.fptr n.cs 0,.bool false,.map 0,uD,qaf n.attrs,.int .i64 (n.attrs.length:Nat),.int .i64 ((i+1:Nat):Int)],[],37,⟨1,[[(0,.map (qdb AV.str qjd (qgi (qcz (n.attrs.take (i+1))))))]]⟩⟩ : St):=by
    rintro v w rfl;rw[hT];refine⟨rfl,rfl,rfl,by simp[qax,qas,qb2,qca,qab,qa9],?_⟩;exact {
     nd1:=by simp
     nd2:=by simp
     nd3:=by simp[Heap.ents]
     lt:=by simp
     idn:=by simp
     num:=by simp
     src:=fun e he=>by simp[Heap.ents]at he;subst he;exact⟨0,.map (qdb AV.str qjd (qgi (S++[x]))),by simp,by simp[zG],zft _ _ _⟩
     frz:=fun x hx=>by cases hx }
   have hnx:qod n.space x=true->qhh y=true->qg8 n=attG n.space (qcz (n.attrs.take (i+1))) (n.attrs.drop (i+1)):=fun q1 q2=>(by rw[hx,hT,q1,q2];rfl);generalize qod n.space x=b1 at *;generalize qhh y=b2 at *;apply qa4;simp only[qam,qaj]
   (repeat' (first
    |with_reducible apply qal
    |with_reducible apply qa7
    |(with_reducible apply rE;simp[zS, *];exact rfl)
    |(with_reducible apply qay;simp only[qam,qaj])
    |(with_reducible refine qb7 (fun hc=>?_) (fun hc=>?_)<;>(have hd:=hc;(try simp at hd);(try subst hd);apply qfx;simp[zS, *];exact rfl))
    |apply qai rfl
    |(refine qb0 rfl (fun hc=>?_) (fun hc=>?_)<;>(have hd:=hc;(try simp at hd);(try subst hd)))
    |(with_reducible apply qa4;simp only[qam,qaj])
    |(with_reducible apply qa5;simp[zQ,Tryz.f89])))
   all_goals first|exact qa2 rfl (by rw[hx];simp[*])|(exact hB _ (i+1) (by omega) ⟨by omega,hnx rfl rfl⟩ ⟨_,_,hfit _ _ (by simp)⟩)|(exfalso;omega)
 ·simp at h2;apply qar;simp;apply ra;simp[zS];apply qa5;simp[zQ,Tryz.f89];exact qa2 rfl (by rw[hx,List.drop_eq_nil_of_le h2];rfl)
def e89:Entry PG:=mkE 89 [[0,0,0,2,0,0,1]] (fun z:Nd=>[qa3 z]) (fun z=>(okN z)) (fun z=>.bool (qg8 z)) fun z h=>c89 (T:=[e129,e83]) rfl rfl z h
theorem k89{T:List (Entry PG)} (hT:qIn 89 T e89) (n:Nd) (h:okN n) (H:Heap):qb6 (ctx T) (.fn 89) [qa3 n] H=some (.bool (qg8 n),H):=
 qac hT inj_92 (n) h rfl (by simp[qan])
theorem c62{T:List (Entry PG)} (hc0:qIn 71 T e71) (sp:Int) (x:Str):CA T 62 [.int .i64 sp,.str x] zH (.bool (qll sp x)) zH:=by
 have kw0:=fun(x:Str) (H:Heap)=>k71 hc0 (w:= lsB16) x (by decide) H;have kw1:=fun(x:Str) (H:Heap)=>k71 hc0 (w:= lsB17) x (by decide) H;have kw2:=fun(x:Str) (H:Heap)=>k71 hc0 (w:= lsB13) x (by decide) H;refine qa0 (s0:=⟨[0,1,4],[.int .i64 sp,.str x,uD],[],19,⟨0,[[]]⟩⟩) Tryz.func62 rfl rfl rfl ?_
 (repeat' (first
  |with_reducible apply qal
  |(with_reducible apply rE;simp[zS, *];exact rfl)
  |(with_reducible apply qay;simp only[qam,qaj])
  |(with_reducible refine qb7 (fun hc=>?_) (fun hc=>?_)<;>(have hd:=hc;(try simp at hd);(try subst hd);apply qfx;simp[zS, *];exact rfl))
  |(refine qb0 rfl (fun hc=>?_) (fun hc=>?_)<;>(have hd:=hc;(try simp at hd);(try subst hd)))
  |(with_reducible apply qa4;simp only[qam,qaj])
  |(with_reducible apply qa5;simp[zQ,Tryz.f62])))
 all_goals first|exact qa2 rfl (by first|(simp[qll, *];done)|(simp_all [qll];done))|(exfalso;omega)
def e62:Entry PG:=mkE 62 [[],[]] (fun z:Int × Str=>[.int .i64 z.1,.str z.2]) (fun z=>True) (fun z=>.bool (qll z.1 z.2)) fun z h=>c62 (T:=[e71]) rfl z.1 z.2 
theorem k62{T:List (Entry PG)} (hT:qIn 62 T e62) (sp:Int) (x:Str) (H:Heap):qb6 (ctx T) (.fn 62) [.int .i64 sp,.str x] H=some (.bool (qll sp x),H):=
 qac hT inj_172 (sp,x) trivial rfl (by simp[qan])
theorem c46{T:List (Entry PG)} (hc0:qIn 71 T e71) (n:Nd) (W:Str) (hl:W.length<=900000):CA T 46 [qa3 n,.str W] zH (.bool (elB n W)) zH:=by
 have kc0:=@k71 T hc0;refine qa0 (s0:=⟨[0,1,2,4],[qa3 n,.str W,uD,uD],[],19,⟨0,[[]]⟩⟩) Tryz.func46 rfl rfl rfl ?_
 (repeat' (first
  |with_reducible apply qal
  |(with_reducible apply rE;simp[zS, *,qaq];exact rfl)
  |(with_reducible apply qay;simp only[qam,qaj])
  |(with_reducible refine qb7 (fun hc=>?_) (fun hc=>?_)<;>(have hd:=hc;(try simp at hd);(try subst hd);apply qfx;simp[zS, *,qaq];exact rfl))
  |(with_reducible apply qa5;simp[zQ,Tryz.f46])))
 all_goals first|exact qa2 rfl (by first|(simp[elB, *];done)|(simp_all [elB];done))|(exfalso;omega)
def e46:Entry PG:=mkE 46 [[0,0,0,2,0,0,1],[]] (fun z:Nd × Str=>[qa3 z.1,.str z.2]) (fun z=>(z.2.length<=900000)) (fun z=>.bool (elB z.1 z.2)) fun z h=>c46 (T:=[e71]) rfl z.1 z.2 h
theorem k46{T:List (Entry PG)} (hT:qIn 46 T e46) (n:Nd) (W:Str) (hl:W.length<=900000) (H:Heap):qb6 (ctx T) (.fn 46) [qa3 n,.str W] H=some (.bool (elB n W),H):=
 qac hT inj_85 (n,W) hl rfl (by simp[qan])
theorem c47{T:List (Entry PG)} (L:List Nd) (hl:L.length<=1000000):CA T 47 [qaa L] zH (qa3 (qau L)) zH:=by
 by_cases he:L=[]
 ·subst he;have bld:qgq PG 34 [(0,.int .i64 1),(2,.str [100,105,118])]=some (.agg [.int .i64 1,.int .i64 0,.str [100,105,118],.nilS,.str [],.int .i64 0,.nilS]):=rfl;have l0:∀H,qf6 PG H 22 (qaa [])=some 0:=fun H=>rfl;refine qa0 (s0:=⟨[0,2],[qaa [],uD],[],13,⟨0,[[]]⟩⟩) Tryz.func47 rfl rfl rfl ?_;apply ra;simp[zS];apply ra;simp[zS,l0];apply qai rfl;apply ra;simp[zS,bld];apply qa5;simp[zQ,Tryz.f47,readCells,zG,Blk.rd];refine⟨[],[],?_,FitH.empty⟩;simp[qau,qa3,Nd.cs,qb9,qbc,qaf,qas,qax,qab]
 ·have h:0 < L.length:=List.length_pos_iff.2 he;have hi:¬ (L.length:Int)=0:=by omega
  have hj:¬ L.length=0:=by omega
  have hs:=qus h (by omega);have ha:=atX (t:=L) (i:=((L.length - 1:Nat):Int)) (by omega) (by omega);have hp:qau L=qa1 L ((L.length - 1:Nat):Int):=by unfold qau;rw[if_neg he]
  rw[hp];refine qa0 (s0:=⟨[0,2],[qaa L,uD],[],13,⟨0,[[]]⟩⟩) Tryz.func47 rfl rfl rfl ?_;apply ra;simp[zS];apply ra;simp[zS,qhl,hi,hj,he];refine qag (by simp[qbp,St.get,hi,hj,he]) ?_;apply qa4;simp;apply ra;simp[zS,qhl,hs,ha,qaq];apply qa5;simp[zQ,Tryz.f47,readCells,zG,Blk.rd,qaq];exact⟨[],[],FitH.empty⟩
def e47:Entry PG:=mkE 47 [[7]] (fun z:List Nd=>[qaa z]) (fun z=>(z.length<=1000000)) (fun z=>qa3 (qau z)) fun z h=>c47 (T:=[])  z h
theorem k47{T:List (Entry PG)} (hT:qIn 47 T e47) (L:List Nd) (hl:L.length<=1000000) (H:Heap):qb6 (ctx T) (.fn 47) [qaa L] H=some (qa3 (qau L),H):=
 qd1 hT inj_82 (L) hl (by simp[qa9,qab,qan]) (by simp[qan]) H
theorem qpp(p q:Nd->Bool) (L:List Nd) (j:Nat):(quj (qmp p q L) (j+1)).getD false=if p (qa1 L j)=true then true else if q (qa1 L j)=true then false else (quj (qmp p q L) j).getD false:=by
 simp only[quj];unfold qmp;by_cases h1:p (qa1 L j)=true
 ·simp[h1]
 ·by_cases h2:q (qa1 L j)=true
  ·simp[h1,h2]
  ·simp[h1,h2]
theorem c102{T:List (Entry PG)} (hc0:qIn 46 T e46) (hc1:qIn 141 T e141) (L:List Nd) (W:Str) (sc:Int) (hl:L.length<=1000000) (hW:W.length<=900000):CA T 102 [qaa L,.str W,.int .i64 sc] zH (.bool (qed L W sc)) zH:=by
 have kc0:=@k46 T hc0;have kc1:=@k141 T hc1;obtain⟨w,hw⟩ : ∃w:Int,w=(L.length:Int) - 1:=⟨_,rfl⟩;have hws:wr .i64 ((L.length:Int) - 1)=some w:=by rw[hw];exact qdr (by omega) (by omega)
 refine qa0 (s0:=⟨[0,1,2,6,7],[qaa L,.str W,.int .i64 sc,uD,uD],[],33,⟨0,[[]]⟩⟩) Tryz.func102 rfl rfl rfl ?_;apply ra;simp[zS];apply ra;simp[zS,qhl,hws];refine qa7 (qb1 (fun x:Nat × Int=>(⟨[0,1,2,6,7],[qaa L,.str W,.int .i64 sc,.bool false,.int .i64 x.2],[],33,⟨0,[[]]⟩⟩ : St))
  (fun x=>x.1<=L.length/\x.2=(x.1:Int) - 1/\qed L W sc=(quj (qmp (fun n=>elB n W) (fun n=>qhr sc n.space n.name) L) x.1).getD false) (fun x=>x.1) [] [] (L.length,w) ⟨Nat.le_refl _,hw,rfl⟩ ⟨rfl,rfl,rfl,by simp[qax,qas,qab,qa9],FitH.nothing⟩ ?_)
 rintro⟨j,v⟩ ⟨hj,hv,hx⟩ B hB;simp only at hj hv hx;cases j with
 |zero=>
  have hn:¬ 0<=v:=by omega
  (repeat' (first
   |with_reducible apply qal
   |(with_reducible apply rE;simp[zS, *];exact rfl)
   |(with_reducible apply qay;simp only[qam,qaj])
   |apply qag rfl
   |(with_reducible apply qar;simp)
   |(with_reducible apply qa5;simp[zQ,Tryz.f102])))
  all_goals first|exact qa2 rfl (by rw[hx];rfl)|(exfalso;omega)
 |succ r=>
  have hvq:v=(r:Int):=by omega
  subst hvq;clear hv;have hn:(0:Int)<=(r:Int):=by omega
  have hix:=atX (t:=L) (i:=(r:Int)) (by omega) (by omega);have hs1:wr .i64 ((r:Int) - 1)=some ((r:Int) - 1):=qdr (by omega) (by omega);rw[qpp]at hx;have ki:=fun H=>kc0 (qa1 L (r:Int)) W hW H;have ks:=fun H=>kc1 sc (qa1 L (r:Int)).space (qa1 L (r:Int)).name H;clear kc0 kc1;generalize qhr sc (qa1 L (r:Int)).space (qa1 L (r:Int)).name=b2 at *;generalize elB (qa1 L (r:Int)) W=b1 at *
  (repeat' (first
   |with_reducible apply qal
   |with_reducible apply qa7
   |(with_reducible apply rE;simp[zS, *,qaq];exact rfl)
   |(refine qbu mixed qbf (by decide +kernel) (by decide +kernel) ?_;apply qfx;simp[zS,qcr,qbl,qbi, *,qaq];exact rfl)
   |(with_reducible apply qay;simp only[qam,qaj])
   |apply qai rfl
   |(refine qb0 rfl (fun hc=>?_) (fun hc=>?_)<;>(have hd:=hc;(try simp at hd);(try subst hd)))
   |(with_reducible apply qa4;simp only[qam,qaj])
   |(with_reducible apply qa5;simp[zQ,Tryz.f102])))
  all_goals first|exact qa2 rfl (by rw[hx];simp[*])|(exact hB _ (r,(r:Int) - 1) (by simp) ⟨by simp only;omega,rfl,by rw[hx];simp[*]⟩ ⟨[],[],⟨rfl,rfl,rfl,by simp[qax,qas,qab,qa9],FitH.nothing⟩⟩)|(exfalso;omega)
def e102:Entry PG:=mkE 102 [[7],[],[]] (fun z:List Nd × Str × Int=>[qaa z.1,.str z.2.1,.int .i64 z.2.2]) (fun z=>(z.1.length<=1000000)/\(z.2.1.length<=900000)) (fun z=>.bool (qed z.1 z.2.1 z.2.2)) fun z h=>c102 (T:=[e46,e141]) rfl rfl z.1 z.2.1 z.2.2 h.1 h.2
theorem k102{T:List (Entry PG)} (hT:qIn 102 T e102) (L:List Nd) (W:Str) (sc:Int) (hl:L.length<=1000000) (hW:W.length<=900000) (H:Heap):qb6 (ctx T) (.fn 102) [qaa L,.str W,.int .i64 sc] H=some (.bool (qed L W sc),H):=
 qac hT inj_133 (L,W,sc) ⟨hl,hW⟩ rfl (by simp[qan])
theorem c107{T:List (Entry PG)} (hc0:qIn 46 T e46) (hc1:qIn 143 T e143) (L:List Nd) (W:Str) (hl:L.length<=1000000) (hW:W.length<=900000):CA T 107 [qaa L,.str W] zH (.bool (!qek L W)) zH:=by
 have kc0:=@k46 T hc0;have kc1:=@k143 T hc1;obtain⟨w,hw⟩ : ∃w:Int,w=(L.length:Int) - 1:=⟨_,rfl⟩;have hws:wr .i64 ((L.length:Int) - 1)=some w:=by rw[hw];exact qdr (by omega) (by omega)
 refine qa0 (s0:=⟨[0,1,4,5],[qaa L,.str W,uD,uD],[],38,⟨0,[[]]⟩⟩) Tryz.func107 rfl rfl rfl ?_;apply ra;simp[zS];apply ra;simp[zS,qhl,hws];refine qa7 (qb1 (fun x:Nat × Int=>(⟨[0,1,4,5],[qaa L,.str W,.bool false,.int .i64 x.2],[],38,⟨0,[[]]⟩⟩ : St))
  (fun x=>x.1<=L.length/\x.2=(x.1:Int) - 1/\qek L W=(quj (qmp (fun n=>elB n W) (fun n=>qdz n.space n.name && !elB n lsAdp) L) x.1).getD false) (fun x=>x.1) [] [] (L.length,w) ⟨Nat.le_refl _,hw,rfl⟩ ⟨rfl,rfl,rfl,by simp[qax,qas,qab,qa9],FitH.nothing⟩ ?_)
 rintro⟨j,v⟩ ⟨hj,hv,hx⟩ B hB;simp only at hj hv hx;cases j with
 |zero=>
  have hn:¬ 0<=v:=by omega
  (repeat' (first
   |with_reducible apply qal
   |(with_reducible apply rE;simp[zS, *];exact rfl)
   |(with_reducible apply qay;simp only[qam,qaj])
   |apply qag rfl
   |(with_reducible apply qar;simp)
   |(with_reducible apply qa5;simp[zQ,Tryz.f107])))
  all_goals first|exact qa2 rfl (by rw[hx];rfl)|(exfalso;omega)
 |succ r=>
  have hvq:v=(r:Int):=by omega
  subst hvq;clear hv;have hn:(0:Int)<=(r:Int):=by omega
  have hix:=atX (t:=L) (i:=(r:Int)) (by omega) (by omega);have hs1:wr .i64 ((r:Int) - 1)=some ((r:Int) - 1):=qdr (by omega) (by omega);rw[qpp]at hx;have k1:=fun H=>kc0 (qa1 L (r:Int)) W hW H;have k2:=fun H=>kc0 (qa1 L (r:Int)) lsAdp (by decide) H;have k3:=fun H=>kc1 (qa1 L (r:Int)).space (qa1 L (r:Int)).name H;clear kc0 kc1;generalize elB (qa1 L (r:Int)) W=b1 at *;generalize elB (qa1 L (r:Int)) lsAdp=b2 at *;generalize qdz (qa1 L (r:Int)).space (qa1 L (r:Int)).name=b3 at *
  (repeat' (first
   |with_reducible apply qal
   |with_reducible apply qa7
   |(with_reducible apply rE;simp[zS, *,qaq];exact rfl)
   |(refine qbu mixed qbf (by decide +kernel) (by decide +kernel) ?_;apply qfx;simp[zS,qcr,qbl,qbi, *,qaq];exact rfl)
   |(with_reducible apply qay;simp only[qam,qaj])
   |(with_reducible refine qqi (fun hc=>?_) (fun hc=>?_)<;>(have hd:=hc;(try simp at hd);(try subst hd);apply qfx;simp[zS,qcr,qbl,qbi, *,qaq];exact rfl))
   |apply qai rfl
   |apply qag rfl
   |(refine qb0 rfl (fun hc=>?_) (fun hc=>?_)<;>(have hd:=hc;(try simp at hd);(try subst hd)))
   |(with_reducible apply qa4;simp only[qam,qaj])
   |(with_reducible apply qa5;simp[zQ,Tryz.f107])))
  all_goals first|exact qa2 rfl (by rw[hx];simp[*])|(exact hB _ (r,(r:Int) - 1) (by simp) ⟨by simp only;omega,rfl,by rw[hx];simp[*]⟩ ⟨[],[],⟨rfl,rfl,rfl,by simp[qax,qas,qab,qa9],FitH.nothing⟩⟩)|(exfalso;omega)
def e107:Entry PG:=mkE 107 [[7],[]] (fun z:List Nd × Str=>[qaa z.1,.str z.2]) (fun z=>(z.1.length<=1000000)/\(z.2.length<=900000)) (fun z=>.bool (!qek z.1 z.2)) fun z h=>c107 (T:=[e46,e143]) rfl rfl z.1 z.2 h.1 h.2
theorem k107{T:List (Entry PG)} (hT:qIn 107 T e107) (L:List Nd) (W:Str) (hl:L.length<=1000000) (hW:W.length<=900000) (H:Heap):qb6 (ctx T) (.fn 107) [qaa L,.str W] H=some (.bool (!qek L W),H):=
 qac hT inj_138 (L,W) ⟨hl,hW⟩ rfl (by simp[qan])
theorem c106{T:List (Entry PG)} (hc0:qIn 46 T e46) (hc1:qIn 142 T e142) (L:List Nd) (hl:L.length<=1000000):CA T 106 [qaa L] zH (.bool (!qg5 L)) zH:=by
 have kc0:=@k46 T hc0;have kc1:=@k142 T hc1;obtain⟨w,hw⟩ : ∃w:Int,w=(L.length:Int) - 1:=⟨_,rfl⟩;have hws:wr .i64 ((L.length:Int) - 1)=some w:=by rw[hw];exact qdr (by omega) (by omega)
 refine qa0 (s0:=⟨[0,2,3],[qaa L,uD,uD],[],27,⟨0,[[]]⟩⟩) Tryz.func106 rfl rfl rfl ?_;apply ra;simp[zS];apply ra;simp[zS,qhl,hws];refine qa7 (qb1 (fun x:Nat × Int=>(⟨[0,2,3],[qaa L,.bool false,.int .i64 x.2],[],27,⟨0,[[]]⟩⟩ : St))
  (fun x=>x.1<=L.length/\x.2=(x.1:Int) - 1/\qg5 L=(quj (qmp (fun n=>elB n [97] && !qmg n) qmg L) x.1).getD false) (fun x=>x.1) [] [] (L.length,w) ⟨Nat.le_refl _,hw,rfl⟩ ⟨rfl,rfl,rfl,by simp[qax,qas,qab,qa9],FitH.nothing⟩ ?_)
 rintro⟨j,v⟩ ⟨hj,hv,hx⟩ B hB;simp only at hj hv hx;cases j with
 |zero=>
  have hn:¬ 0<=v:=by omega
  (repeat' (first
   |with_reducible apply qal
   |(with_reducible apply rE;simp[zS, *];exact rfl)
   |(with_reducible apply qay;simp only[qam,qaj])
   |apply qag rfl
   |(with_reducible apply qar;simp)
   |(with_reducible apply qa5;simp[zQ,Tryz.f106])))
  all_goals first|exact qa2 rfl (by rw[hx];rfl)|(exfalso;omega)
 |succ r=>
  have hvq:v=(r:Int):=by omega
  subst hvq;clear hv;have hn:(0:Int)<=(r:Int):=by omega
  have hix:=atX (t:=L) (i:=(r:Int)) (by omega) (by omega);have hs1:wr .i64 ((r:Int) - 1)=some ((r:Int) - 1):=qdr (by omega) (by omega);rw[qpp]at hx;have k1:=fun H=>kc0 (qa1 L (r:Int)) [97] (by decide) H;have k3:=fun H=>kc1 (qa1 L (r:Int)).space (qa1 L (r:Int)).name H;have em:(decide ((qa1 L (r:Int)).space=0) && inW qrc (qa1 L (r:Int)).name)=qmg (qa1 L (r:Int)):=rfl;rw[em]at k3;clear em;clear kc0 kc1;generalize elB (qa1 L (r:Int)) [97]=b1 at *;generalize qmg (qa1 L (r:Int))=b3 at *
  (repeat' (first
   |with_reducible apply qal
   |with_reducible apply qa7
   |(with_reducible apply rE;simp[zS, *,qaq];exact rfl)
   |(refine qbu mixed qbf (by decide +kernel) (by decide +kernel) ?_;apply qfx;simp[zS,qcr,qbl,qbi, *,qaq];exact rfl)
   |(with_reducible apply qay;simp only[qam,qaj])
   |apply qai rfl
   |(refine qb0 rfl (fun hc=>?_) (fun hc=>?_)<;>(have hd:=hc;(try simp at hd);(try subst hd)))
   |(with_reducible apply qa4;simp only[qam,qaj])
   |(with_reducible apply qa5;simp[zQ,Tryz.f106])))
  all_goals first|exact qa2 rfl (by rw[hx];simp[*])|(exact hB _ (r,(r:Int) - 1) (by simp) ⟨by simp only;omega,rfl,by rw[hx];simp[*]⟩ ⟨[],[],⟨rfl,rfl,rfl,by simp[qax,qas,qab,qa9],FitH.nothing⟩⟩)|(exfalso;omega)
def e106:Entry PG:=mkE 106 [[7]] (fun z:List Nd=>[qaa z]) (fun z=>(z.length<=1000000)) (fun z=>.bool (!qg5 z)) fun z h=>c106 (T:=[e46,e142]) rfl rfl z h
theorem k106{T:List (Entry PG)} (hT:qIn 106 T e106) (L:List Nd) (hl:L.length<=1000000) (H:Heap):qb6 (ctx T) (.fn 106) [qaa L] H=some (.bool (!qg5 L),H):=
 qac hT inj_82 (L) hl rfl (by simp[qan])
theorem c105{T:List (Entry PG)} (hc0:qIn 46 T e46) (L:List Nd) (hl:L.length<=1000000):CA T 105 [qaa L] zH (.bool (!qky L)) zH:=by
 have kc0:=@k46 T hc0;refine qa0 (s0:=⟨[0,2,3],[qaa L,uD,uD],[],15,⟨0,[[]]⟩⟩) Tryz.func105 rfl rfl rfl ?_;apply ra;simp[zS];apply ra;simp[zS];refine qa7 (qb1 (fun i:Nat=>(⟨[0,2,3],[qaa L,.bool false,.int .i64 (i:Int)],[],15,⟨0,[[]]⟩⟩ : St))
  (fun i=>i<=L.length/\qky L=qky (L.drop i)) (fun i=>L.length - i) [] [] 0 ⟨Nat.zero_le _,rfl⟩ ⟨rfl,rfl,rfl,by simp[qax,qas,qab,qa9],FitH.nothing⟩ ?_)
 rintro i ⟨hi,hx⟩ B hB;by_cases h:i < L.length
 ·have hc:(i:Int) < (L.length:Int):=by omega
  have hix:=atX (t:=L) (i:=(i:Int)) (by omega) (by omega);rw[qbt h]at hix;have ha:=qbb (show i<=1000000000 by omega);have hd:qky (L.drop i)=(elB L[i] [102,111,114,109] || qky (L.drop (i+1))):=by rw[List.drop_eq_getElem_cons h];rfl
  rw[hd]at hx;have k1:=fun H=>kc0 L[i] [102,111,114,109] (by decide) H;clear kc0 hd;generalize L[i]=n at *;generalize elB n [102,111,114,109]=b1 at *
  (repeat' (first
   |with_reducible apply qal
   |with_reducible apply qa7
   |(with_reducible apply rE;simp[zS, *,qaq,qhl];exact rfl)
   |(with_reducible apply qay;simp only[qam,qaj])
   |apply qai rfl
   |(refine qb0 rfl (fun hc=>?_) (fun hc=>?_)<;>(have hd:=hc;(try simp at hd);(try subst hd)))
   |(with_reducible apply qa4;simp only[qam,qaj])
   |(with_reducible apply qa5;simp[zQ,Tryz.f105])))
  all_goals first|exact qa2 rfl (by rw[hx];simp[*])|(exact hB _ (i+1) (by omega) ⟨by omega,by rw[hx];simp[*]⟩ ⟨[],[],⟨rfl,rfl,rfl,by simp[qax,qas,qab,qa9],FitH.nothing⟩⟩)|(exfalso;omega)
 ·have hc:¬ (i:Int) < (L.length:Int):=by omega
  (repeat' (first
   |with_reducible apply qal
   |(with_reducible apply rE;simp[zS, *,qaq,qhl];exact rfl)
   |(with_reducible apply qay;simp only[qam,qaj])
   |apply qag rfl
   |(with_reducible apply qar;simp)
   |(with_reducible apply qa5;simp[zQ,Tryz.f105])))
  all_goals first|exact qa2 rfl (by rw[hx,List.drop_eq_nil_of_le (by omega)];rfl)|(exfalso;omega)
def e105:Entry PG:=mkE 105 [[7]] (fun z:List Nd=>[qaa z]) (fun z=>(z.length<=1000000)) (fun z=>.bool (!qky z)) fun z h=>c105 (T:=[e46]) rfl z h
theorem k105{T:List (Entry PG)} (hT:qIn 105 T e105) (L:List Nd) (hl:L.length<=1000000) (H:Heap):qb6 (ctx T) (.fn 105) [qaa L] H=some (.bool (!qky L),H):=
 qac hT inj_82 (L) hl rfl (by simp[qan])
theorem c100{T:List (Entry PG)} (hc0:qIn 71 T e71) (n:Nd):CA T 100 [qa3 n] zH (.bool (qg9 n)) zH:=by
 have kw0:=fun(x:Str) (H:Heap)=>k71 hc0 (w:= lsB4) x (by decide) H;refine qa0 (s0:=⟨[0,1,2],[qa3 n,uD,uD],[],16,⟨0,[[]]⟩⟩) Tryz.func100 rfl rfl rfl ?_
 (repeat' (first
  |with_reducible apply qal
  |(with_reducible apply rE;simp[zS, *,qaq];exact rfl)
  |(with_reducible apply qay;simp only[qam,qaj])
  |(with_reducible refine qb7 (fun hc=>?_) (fun hc=>?_)<;>(have hd:=hc;(try simp at hd);(try subst hd);apply qfx;simp[zS, *,qaq];exact rfl))
  |(with_reducible apply qa5;simp[zQ,Tryz.f100])))
 all_goals first|exact qa2 rfl (by first|(simp[qg9, *];done)|(simp_all [qg9];done))|(exfalso;omega)
def e100:Entry PG:=mkE 100 [[0,0,0,2,0,0,1]] (fun z:Nd=>[qa3 z]) (fun z=>True) (fun z=>.bool (qg9 z)) fun z h=>c100 (T:=[e71]) rfl z 
theorem k100{T:List (Entry PG)} (hT:qIn 100 T e100) (n:Nd) (H:Heap):qb6 (ctx T) (.fn 100) [qa3 n] H=some (.bool (qg9 n),H):=
 qac hT inj_92 (n) trivial rfl (by simp[qan])
theorem c108{T:List (Entry PG)} (s:Str) (hl:s.length<=1000000):CA T 108 [.str s] zH (.str (qfy s)) zH:=by
 refine qa0 (s0:=⟨[0,2,3,4],[.str s,uD,uD,uD],[],33,⟨0,[[]]⟩⟩) Tryz.func108 rfl rfl rfl ?_;apply ra;simp[zS];apply ra;simp[zS,conv1 hl];apply ra;simp[zS];refine qa7 (qb1 (fun i:Nat=>(⟨[0,2,3,4],[.str s,.str [],.slc 0 0 s.length (.rest 1),.int .i64 i],[],33,qeo 1 (qvp s i)⟩ : St))
  (fun i=>i<=s.length) (fun i=>s.length - i) [(0,0)] [] 0 (Nat.zero_le _) ⟨rfl,rfl,rfl,by simp[qax,qas,qo5,qb2,qab],by simpa[qvp]using qi0 (n:=1) (s:=s) rfl⟩ ?_)
 rintro i hi B hB;by_cases h:i < s.length
 ·have hc:(i:Int) < (s.length:Int):=by omega
  have hm:i < (qvp s i).length:=by rw[qme];exact h
  apply ra;simp[zS,len52,hc,h];apply qai rfl;apply qa4;simp;repeat apply wq
  apply qa7;by_cases h1:65<=s[i].toNat/\s[i].toNat<=90
  ·have e1:(65:Int)<=s[i].toNat:=(by omega);have e2:(s[i].toNat:Int)<=90:=(by omega);apply ra;simp[zS,qeo,ix52 h,qdp hm,qgl h,e1,e2];apply qai rfl;apply ra;simp[zS,qeo,ix52 h,qdp hm,qgl h,add8 h1.1 h1.2,qnb hm];apply ra;simp[zS,qbb (show i<=1000000000 by omega)];exact hB _ (i+1) (by omega) (by omega) ⟨[(0,0)],[],rfl,rfl,rfl,by simp[qax,qas,qo5,qb2,qab],qi0 (qpz h)⟩
  ·by_cases e1:(65:Int)<=s[i].toNat
   ·have e2:¬ (s[i].toNat:Int)<=90:=(by omega);apply ra;simp[zS,qeo,ix52 h,qdp hm,qgl h,e1,e2];apply qag rfl;apply qa4;simp;apply ra;simp[zS,qbb (show i<=1000000000 by omega)];exact hB _ (i+1) (by omega) (by omega) ⟨[(0,0)],[],rfl,rfl,rfl,by simp[qax,qas,qo5,qb2,qab],qi0 (qmf h (qti h1)).symm⟩
   ·apply ra;simp[zS,qeo,ix52 h,qdp hm,qgl h,e1];apply qag rfl;apply qa4;simp;apply ra;simp[zS,qbb (show i<=1000000000 by omega)];exact hB _ (i+1) (by omega) (by omega) ⟨[(0,0)],[],rfl,rfl,rfl,by simp[qax,qas,qo5,qb2,qab],qi0 (qmf h (qti h1)).symm⟩
 ·have hc:¬ (i:Int) < (s.length:Int):=by omega
  apply ra;simp[zS,len52,hc,h];apply qag rfl;apply qar;simp;apply ra;simp[zS,conv2 (qme s i)];apply qa5;simp[zQ,Tryz.f108];exact qa2 rfl (by rw[show i=s.length by omega,qzn])
def e108:Entry PG:=mkE 108 [[]] (fun z:Str=>[.str z]) (fun z=>(z.length<=1000000)) (fun z=>.str (qfy z)) fun z h=>c108 (T:=[])  z h
theorem k108{T:List (Entry PG)} (hT:qIn 108 T e108) (s:Str) (hl:s.length<=1000000) (H:Heap):qb6 (ctx T) (.fn 108) [.str s] H=some (.str (qfy s),H):=
 qac hT inj_168 (s) hl rfl (by simp[qan])
theorem zfl(a b:Str):qof a b=decide (qfy a=qfy b):=by
 unfold qof;by_cases h:qfy a=qfy b
 ·have:=congrArg List.length h;simp[qfy]at this;simp[h,this]
 ·simp[h]
theorem c140{T:List (Entry PG)} (hc0:qIn 108 T e108) (a:Str) (b:Str) (ha:a.length<=1000000) (hb:b.length<=1000000):CA T 140 [.str a,.str b] zH (.bool (qof a b)) zH:=by
 have kc0:=@k108 T hc0;refine qa0 (s0:=⟨[0,1,4],[.str a,.str b,uD],[],10,⟨0,[[]]⟩⟩) Tryz.func140 rfl rfl rfl ?_
 (repeat' (first
  |with_reducible apply qal
  |(with_reducible apply rE;simp[zS, *];exact rfl)
  |(with_reducible apply qay;simp only[qam,qaj])
  |(with_reducible apply qa5;simp[zQ,Tryz.f140])))
 all_goals first|exact qa2 rfl (by first|(simp[zfl, *];done)|(simp_all [zfl];done))|(exfalso;omega)
theorem inj_140(x y:Str × Str) (h:(fun z:Str × Str=>([.str z.1,.str z.2]:List AV)) x=(fun z:Str × Str=>([.str z.1,.str z.2]:List AV)) y):x=y:=by obtain⟨x0,x1⟩:=x;obtain⟨y0,y1⟩:=y;simp only[List.cons.injEq,and_true]at h;obtain⟨h0,h1⟩:=h;have g0:x0=y0:=AV.str.inj h0;have g1:x1=y1:=AV.str.inj h1;subst g0 g1;rfl
def e140:Entry PG:=mkE 140 [[],[]] (fun z:Str × Str=>[.str z.1,.str z.2]) (fun z=>(z.1.length<=1000000)/\(z.2.length<=1000000)) (fun z=>.bool (qof z.1 z.2)) fun z h=>c140 (T:=[e108]) rfl z.1 z.2 h.1 h.2
theorem k140{T:List (Entry PG)} (hT:qIn 140 T e140) (a:Str) (b:Str) (ha:a.length<=1000000) (hb:b.length<=1000000) (H:Heap):qb6 (ctx T) (.fn 140) [.str a,.str b] H=some (.bool (qof a b),H):=
 qac hT inj_140 (a,b) ⟨ha,hb⟩ rfl (by simp[qan])
theorem c101{T:List (Entry PG)} (hc0:qIn 71 T e71) (hc1:qIn 99 T e99) (hc2:qIn 140 T e140) (n:Nd) (h:okN n):CA T 101 [qa3 n] zH (.bool (qf4 n)) zH:=by
 have kw0:=fun(x:Str) (H:Heap)=>k71 hc0 (w:= lsB0) x (by decide) H;have kc1:=@k99 T hc1;have kc2:=@k140 T hc2;have hg:=fun H=>k99 (nm:=[101,110,99,111,100,105,110,103]) hc1 h.2.1 (qid H n.attrs);have lu:lsSvg.length<=900000:=by decide
 cases hv:qh2 [101,110,99,111,100,105,110,103] n.attrs with
 |none=>
  rw[hv]at hg;simp only[qxy]at hg;refine qa0 (s0:=⟨[0,1,2,3,4],[qa3 n,uD,uD,uD,uD],[],48,⟨0,[[]]⟩⟩) Tryz.func101 rfl rfl rfl ?_
  (repeat' (first
   |with_reducible apply qal
   |(with_reducible apply rE;simp[zS, *,qaq];exact rfl)
   |(with_reducible apply qay;simp only[qam,qaj])
   |(with_reducible refine qb7 (fun hc=>?_) (fun hc=>?_)<;>(have hd:=hc;(try simp at hd);(try subst hd);apply qfx;simp[zS, *,qaq];exact rfl))
   |apply qag rfl
   |(refine qb0 rfl (fun hc=>?_) (fun hc=>?_)<;>(have hd:=hc;(try simp at hd);(try subst hd)))
   |(with_reducible apply qa4;simp only[qam,qaj])
   |(with_reducible apply qa5;simp[zQ,Tryz.f101])))
  all_goals first|exact qa2 rfl (by first|(simp[qf4, *];done)|(simp_all [qf4];done))|(exfalso;omega)
 |some v=>
  rw[hv]at hg;have lv:v.length<=1000000:=by have:=qqh h.2.2.2 hv;omega
  simp only[qxy]at hg;refine qa0 (s0:=⟨[0,1,2,3,4],[qa3 n,uD,uD,uD,uD],[],48,⟨0,[[]]⟩⟩) Tryz.func101 rfl rfl rfl ?_
  (repeat' (first
   |with_reducible apply qal
   |(with_reducible apply rE;simp[zS, *,qaq];exact rfl)
   |(with_reducible apply qay;simp only[qam,qaj])
   |(with_reducible refine qb7 (fun hc=>?_) (fun hc=>?_)<;>(have hd:=hc;(try simp at hd);(try subst hd);apply qfx;simp[zS, *,qaq];exact rfl))
   |apply qag rfl
   |(refine qb0 rfl (fun hc=>?_) (fun hc=>?_)<;>(have hd:=hc;(try simp at hd);(try subst hd)))
   |(with_reducible apply qa4;simp only[qam,qaj])
   |(with_reducible apply qa5;simp[zQ,Tryz.f101])))
  all_goals first|exact qa2 rfl (by first|(simp[qf4, *];done)|(simp_all [qf4];done))|(exfalso;omega)
def e101:Entry PG:=mkE 101 [[0,0,0,2,0,0,1]] (fun z:Nd=>[qa3 z]) (fun z=>(okN z)) (fun z=>.bool (qf4 z)) fun z h=>c101 (T:=[e71,e99,e140]) rfl rfl rfl z h
theorem k101{T:List (Entry PG)} (hT:qIn 101 T e101) (n:Nd) (h:okN n) (H:Heap):qb6 (ctx T) (.fn 101) [qa3 n] H=some (.bool (qf4 n),H):=
 qac hT inj_92 (n) h rfl (by simp[qan])
theorem con13:∀(s:Str),conB s [13]=s.any fun c=>decide (c=13)
 |[]=>rfl
 |b::l=>by
  have ih:=con13 l;have hg:=Lib.index_ge l [13];rw[List.any_cons,<- ih];unfold conB
  conv=>lhs;unfold Lib.index
  by_cases h:b=13
  ·subst h;simp[List.isPrefixOf]
  ·have h':(13 == b)=false:=(by simpa using fun e=>h e.symm);simp only[List.isPrefixOf,h',Bool.false_and,Bool.false_eq_true,if_false,h,decide_false,Bool.false_or];by_cases hq:Lib.index l [13] = -1
   ·simp[hq]
   ·have:(Lib.index l [13] == -1)=false:=(by simpa using hq);simp only[this,Bool.false_eq_true,if_false];rw[Bool.eq_iff_iff];simp only[decide_eq_true_eq];omega
theorem u13(c:UInt8):((c.toNat:Int)=13)↔c=13:=by
 constructor
 ·intro e;have h:c.toNat=(13:UInt8).toNat:=by show c.toNat=13;omega
  exact UInt8.toNat_inj.1 h
 ·intro e;rw[e];rfl
theorem c68{T:List (Entry PG)} (hc0:qIn 109 T e109) (s:Str) (hs:s.length<=1000000):CA T 68 [.str s] zH (.bool (qhh s)) zH:=by
 have kc0:=@k109 T hc0;have kv:=fun H=>k109 hc0 hs H;refine qa0 (s0:=⟨[0,2,3],[.str s,uD,uD],[],16,⟨0,[[]]⟩⟩) Tryz.func68 rfl rfl rfl ?_;apply ra;simp[zS];apply ra;simp[zS];refine qa7 (qb1 (fun i:Nat=>(⟨[0,2,3],[.str s,.bool false,.int .i64 (i:Int)],[],16,⟨0,[[]]⟩⟩ : St))
  (fun i=>i<=s.length/\conB s [13]=(s.drop i).any fun c=>decide (c=13)) (fun i=>s.length - i) [] [] 0 ⟨Nat.zero_le _,con13 s⟩ ⟨rfl,rfl,rfl,by simp[qax,qas,qab,qa9],FitH.nothing⟩ ?_)
 rintro i ⟨hi,hx⟩ B hB;by_cases h:i < s.length
 ·have hc:(i:Int) < (s.length:Int):=by omega
  have hix:=qjz h;have ha:=qbb (show i<=1000000000 by omega);rw[List.drop_eq_getElem_cons h,List.any_cons]at hx;have h13:=u13 s[i];clear kc0;generalize s[i]=c at *;by_cases e:c=13
  ·have e1:(c.toNat:Int)=13:=h13.2 e;simp only[e,decide_true,Bool.true_or]at hx;clear h13
   (repeat' (first
    |with_reducible apply qal
    |with_reducible apply qa7
    |(with_reducible apply rE;simp[zS, *];exact rfl)
    |(with_reducible apply qay;simp only[qam,qaj])
    |apply qai rfl
    |(with_reducible apply qa4;simp only[qam,qaj])
    |(with_reducible apply qa5;simp[zQ,Tryz.f68])))
   all_goals first|exact qa2 rfl (by unfold qhh;rw[hx];simp)|(exfalso;omega)
  ·have e1:¬ (c.toNat:Int)=13:=fun q=>e (h13.1 q);simp only[e,decide_false,Bool.false_or]at hx;clear h13
   (repeat' (first
    |with_reducible apply qal
    |with_reducible apply qa7
    |(with_reducible apply rE;simp[zS, *];exact rfl)
    |(with_reducible apply qay;simp only[qam,qaj])
    |apply qai rfl
    |apply qag rfl
    |(with_reducible apply qa4;simp only[qam,qaj])))
   all_goals first|(exact hB _ (i+1) (by omega) ⟨by omega,hx⟩ ⟨[],[],⟨rfl,rfl,rfl,by simp[qax,qas,qab,qa9],FitH.nothing⟩⟩)|(exfalso;omega)
 ·have hc:¬ (i:Int) < (s.length:Int):=by omega
  rw[List.drop_eq_nil_of_le (by omega)]at hx
  (repeat' (first
   |with_reducible apply qal
   |(with_reducible apply rE;simp[zS, *];exact rfl)
   |(with_reducible apply qay;simp only[qam,qaj])
   |apply qag rfl
   |(with_reducible apply qar;simp)
   |(with_reducible apply qa5;simp[zQ,Tryz.f68])))
  all_goals first|exact qa2 rfl (by unfold qhh;rw[hx];simp)|(exfalso;omega)
def e68:Entry PG:=mkE 68 [[]] (fun z:Str=>[.str z]) (fun z=>(z.length<=1000000)) (fun z=>.bool (qhh z)) fun z h=>c68 (T:=[e109]) rfl z h
theorem k68{T:List (Entry PG)} (hT:qIn 68 T e68) (s:Str) (hs:s.length<=1000000) (H:Heap):qb6 (ctx T) (.fn 68) [.str s] H=some (.bool (qhh s),H):=
 qac hT inj_168 (s) hs rfl (by simp[qan])
theorem c70{T:List (Entry PG)} (hc0:qIn 111 T e111) (s:Str) (hs:s.length<=1000000):CA T 70 [.str s] zH (.bool (s.all sp)) zH:=by
 have kc0:=@k111 T hc0;refine qa0 (s0:=⟨[0,2,3],[.str s,uD,uD],[],15,⟨0,[[]]⟩⟩) Tryz.func70 rfl rfl rfl ?_;apply ra;simp[zS];apply ra;simp[zS];refine qa7 (qb1 (fun i:Nat=>(⟨[0,2,3],[.str s,.bool false,.int .i64 (i:Int)],[],15,⟨0,[[]]⟩⟩ : St))
  (fun i=>i<=s.length/\s.all sp=(s.drop i).all sp) (fun i=>s.length - i) [] [] 0 ⟨Nat.zero_le _,rfl⟩ ⟨rfl,rfl,rfl,by simp[qax,qas,qab,qa9],FitH.nothing⟩ ?_)
 rintro i ⟨hi,hx⟩ B hB;by_cases h:i < s.length
 ·have hc:(i:Int) < (s.length:Int):=by omega
  have hix:=qjz h;have ha:=qbb (show i<=1000000000 by omega);rw[List.drop_eq_getElem_cons h,List.all_cons]at hx;generalize s[i]=c at *;have k1:=fun H=>kc0 c H;clear kc0;generalize sp c=b1 at *
  (repeat' (first
   |with_reducible apply qal
   |with_reducible apply qa7
   |(with_reducible apply rE;simp[zS, *];exact rfl)
   |(with_reducible apply qay;simp only[qam,qaj])
   |apply qai rfl
   |(refine qb0 rfl (fun hc=>?_) (fun hc=>?_)<;>(have hd:=hc;(try simp at hd);(try subst hd)))
   |(with_reducible apply qa4;simp only[qam,qaj])
   |(with_reducible apply qa5;simp[zQ,Tryz.f70])))
  all_goals first|exact qa2 rfl (by rw[hx];simp[*])|(exact hB _ (i+1) (by omega) ⟨by omega,by rw[hx];simp[*]⟩ ⟨[],[],⟨rfl,rfl,rfl,by simp[qax,qas,qab,qa9],FitH.nothing⟩⟩)|(exfalso;omega)
 ·have hc:¬ (i:Int) < (s.length:Int):=by omega
  rw[List.drop_eq_nil_of_le (by omega)]at hx
  (repeat' (first
   |with_reducible apply qal
   |(with_reducible apply rE;simp[zS, *];exact rfl)
   |(with_reducible apply qay;simp only[qam,qaj])
   |apply qag rfl
   |(with_reducible apply qar;simp)
   |(with_reducible apply qa5;simp[zQ,Tryz.f70])))
  all_goals first|exact qa2 rfl (by rw[hx];rfl)|(exfalso;omega)
def e70:Entry PG:=mkE 70 [[]] (fun z:Str=>[.str z]) (fun z=>(z.length<=1000000)) (fun z=>.bool (z.all sp)) fun z h=>c70 (T:=[e111]) rfl z h
theorem k70{T:List (Entry PG)} (hT:qIn 70 T e70) (s:Str) (hs:s.length<=1000000) (H:Heap):qb6 (ctx T) (.fn 70) [.str s] H=some (.bool (s.all sp),H):=
 qac hT inj_168 (s) hs rfl (by simp[qan])
theorem c44{T:List (Entry PG)} (hc0:qIn 47 T e47) (hc1:qIn 68 T e68) (hc2:qIn 69 T e69) (hc3:qIn 46 T e46) (hc4:qIn 70 T e70) (L:List Nd) (s:Str) (hp:okP L) (hs:s.length<=900000):CA T 44 [qaa L,.str s] zH (.bool (qfv L s)) zH:=by
 have kc0:=@k47 T hc0;have kc1:=@k68 T hc1;have kc2:=@k69 T hc2;have kc3:=@k46 T hc3;have kc4:=@k70 T hc4;have hl:L.length<=1000000:=by have:=hp.1;omega
 have hs2:s.length<=1000000:=by omega
 refine qa0 (s0:=⟨[0,1,4,5],[qaa L,.str s,uD,uD],[],34,⟨0,[[]]⟩⟩) Tryz.func44 rfl rfl rfl ?_
 (repeat' (first
  |with_reducible apply qal
  |(with_reducible apply rE;simp[zS, *,qaq];exact rfl)
  |(with_reducible apply qay;simp only[qam,qaj])
  |(with_reducible refine qb7 (fun hc=>?_) (fun hc=>?_)<;>(have hd:=hc;(try simp at hd);(try subst hd);apply qfx;simp[zS, *,qaq];exact rfl))
  |apply qai rfl
  |apply qag rfl
  |(refine qb0 rfl (fun hc=>?_) (fun hc=>?_)<;>(have hd:=hc;(try simp at hd);(try subst hd)))
  |(with_reducible apply qa4;simp only[qam,qaj])
  |(with_reducible apply qa5;simp[zQ,Tryz.f44])))
 all_goals first|exact qa2 rfl (by first|(simp[qfv, *];done)|(simp_all [qfv];done))|(exfalso;omega)
def e44:Entry PG:=mkE 44 [[7],[]] (fun z:List Nd × Str=>[qaa z.1,.str z.2]) (fun z=>(okP z.1)/\(z.2.length<=900000)) (fun z=>.bool (qfv z.1 z.2)) fun z h=>c44 (T:=[e47,e68,e69,e46,e70]) rfl rfl rfl rfl rfl z.1 z.2 h.1 h.2
theorem k44{T:List (Entry PG)} (hT:qIn 44 T e44) (L:List Nd) (s:Str) (hp:okP L) (hs:s.length<=900000) (H:Heap):qb6 (ctx T) (.fn 44) [qaa L,.str s] H=some (.bool (qfv L s),H):=
 qac hT inj_138 (L,s) ⟨hp,hs⟩ rfl (by simp[qan])
theorem c63{T:List (Entry PG)} (hc0:qIn 100 T e100) (hc1:qIn 101 T e101) (n:Nd) (h:okN n):CA T 63 [qa3 n] zH (.bool (decide (n.kind=1) && decide (n.space=0) || qg9 n || qf4 n)) zH:=by
 have kc0:=@k100 T hc0;have kc1:=@k101 T hc1;refine qa0 (s0:=⟨[0,1,2],[qa3 n,uD,uD],[],19,⟨0,[[]]⟩⟩) Tryz.func63 rfl rfl rfl ?_
 (repeat' (first
  |with_reducible apply qal
  |(with_reducible apply rE;simp[zS, *,qaq];exact rfl)
  |(with_reducible apply qay;simp only[qam,qaj])
  |(with_reducible refine qb7 (fun hc=>?_) (fun hc=>?_)<;>(have hd:=hc;(try simp at hd);(try subst hd);apply qfx;simp[zS, *,qaq];exact rfl))
  |(with_reducible apply qa5;simp[zQ,Tryz.f63])))
 all_goals first|exact qa2 rfl (by first|(simp[*];done)|(simp_all;done))|(exfalso;omega)
def e63:Entry PG:=mkE 63 [[0,0,0,2,0,0,1]] (fun z:Nd=>[qa3 z]) (fun z=>(okN z)) (fun z=>.bool (decide (z.kind=1) && decide (z.space=0) || qg9 z || qf4 z)) fun z h=>c63 (T:=[e100,e101]) rfl rfl z h
theorem k63{T:List (Entry PG)} (hT:qIn 63 T e63) (n:Nd) (h:okN n) (H:Heap):qb6 (ctx T) (.fn 63) [qa3 n] H=some (.bool (decide (n.kind=1) && decide (n.space=0) || qg9 n || qf4 n),H):=
 qac hT inj_92 (n) h rfl (by simp[qan])
