/- A variable and its rows stay, all else is left. No condition. -/
import Derived.Test.YtocnpnnplllneaaGreatDoorMI
namespace Go.Proofs.YtocnpnnplllneaaGreatDoor
noncomputable section
set_option linter.unusedSimpArgs false
set_option linter.unusedVariables false
open Go Go.RowKit
set_option maxRecDepth 100000
theorem jL:type_of% @List.not_mem_nil:=@List.not_mem_nil
theorem jP:type_of% @Bool.eq_iff_iff:=@Bool.eq_iff_iff
variable {T:List (Entry Tryz.prog)}
mutual
theorem qms:∀(n:Nat) (v:AV),qab v=true->refs n v=[]
 |0,_,_=>rfl
 |n+1,v,h=>by
  cases v with
  |func fn a c=>simp only[qab,jd]at h;simp only[refs,qe7 n a h.1,qe7 n c h.2,jg]
  |iface t v=>simp only[qab]at h;simp only[refs,qms n v h]
  |agg cs=>simp only[qab]at h;simp only[refs,qe7 n cs h]
  |tup cs=>simp only[qab]at h;simp only[refs,qe7 n cs h]
  |_=>first|rfl|(simp[qab]at h)
theorem qe7:∀(n:Nat) (l:List AV),qa9 l=true->l.flatMap (refs n)=[]
 |_,[],_=>rfl
 |n,v::r,h=>by simp only[qa9,jd]at h;rw[yx,qms n v h.1,qe7 n r h.2];rfl
end
def VE(pb:Nat) (pre:List AV) (k sz:Nat) (es:List AV) (post:List AV) (g:List (Nat × Blk)):List (Nat × Blk):=(pb,.cells (pre++qdo k sz es::post))::(qe4 k es++g)
structure Eok (m pb:Nat) (pre:List AV) (k sz:Nat) (es:List AV) (post:List AV) (g:List (Nat × Blk)):Prop where
 lp:pb < m
 lk:k < m/\k ∉ pb::g.map (·.1)
 lg:∀e,e∈g->e.1 < m
 nd:(pb::g.map (·.1)).Nodup
 sg:∀e,e∈g->SelfB m e.2
 sp:∀σ,Idl m σ->qaz σ [] pre pre
 sq:∀σ,Idl m σ->qaz σ [] post post
 el:Elems sz es
section
variable {m n pb k sz:Nat} {pre post es:List AV} {g f:List (Nat × Blk)}
theorem VE_p:getF pb (VE pb pre k sz es post g)=some (.cells (pre++qdo k sz es::post)):=by simp[VE,getF]
theorem zhr{b:Nat}:∀{l:List (Nat × Blk)},b ∉ l.map (·.1)->getF b l=none
 |[],_=>rfl
 |e::r,h=>by simp only[jj,ja,not_or]at h;unfold getF;rw[qaw fun x=>h.1 x.symm];exact zhr h.2
theorem Eok.k_p(h:Eok m pb pre k sz es post g):Nat.beq pb k=false:=qaw fun e=>h.lk.2 (by simp[e])
theorem VE_k(h:Eok m pb pre k sz es post g) (hne:es≠[]):getF k (VE pb pre k sz es post g)=some (.cells (qa5 es)):=by unfold VE getF;rw[h.k_p,qci hne];simp[getF]
theorem qse{l:List (Nat × Blk)} (nd:(l.map (·.1)).Nodup) {e:Nat × Blk} (he:e∈l):getF e.1 l=some e.2:=by
 have:=qgi (fs:=[l]) (b:=e.1) (k:=e.2) (by simpa using nd) (by simpa using he);simp only[getFs]at this;revert this;cases getF e.1 l with
 |none=>intro h;cases h
 |some x=>intro h;exact h
theorem drop_E(h:Eok m pb pre k sz es post g) (hf:∀i,i < m->getF i f=none):Heap.drop ⟨n,[f,VE pb pre k sz es post g]⟩ k=⟨n,[f,(pb,.cells (pre++qdo k sz es::post))::g]⟩:=by
 have h1:getF k f=none:=hf k h.lk.1;have h2:=h.lk.2;simp only[ja,not_or]at h2;unfold Heap.drop;simp only;unfold qem;rw[h1];simp only;unfold qem;unfold VE getF;rw[h.k_p];cases es with
 |nil=>simp only[qe4,jq];rw[zhr h2.2];simp[qem]
 |cons y r=>rw[qci (by simp)];simp[getF,killF,h.k_p]
theorem app_E{P:Program} {elem:TypeId} {by_:Nat} {z:AV} (hsz:qcg P elem=some sz) (hby:qco P elem=some by_) (hz:qc1 P elem=some z) (hzl:z.cells.length=sz) (hb0:by_≠0) (h:Eok m pb pre k sz es post g) {t:Nat} {e:AV} (hel:e.cells.length=sz) (hsg:allSingle e.cells=true)
  (hf:∀i,i < m->getF i f=none) (ht:getF t f=some (.cells e.cells)) (hl:(es.length+1) * by_<=17592186044416) (hrow:∀cs,qpi P elem cs=.cells cs) :
  qby P ⟨n,[f,VE pb pre k sz es post g]⟩ elem (qdo k sz es) (.slc t 0 1 (.ex 1)) =
   some (.slc n 0 (es.length+1) (.rest sz),⟨n+1,[(n,.cells (qa5 (es++[e])))::f,(pb,.cells (pre++qdo k sz es::post))::g]⟩):=by
 have hd:=drop_E (n:=n) h hf;have hsub:qek 0 (1 * sz) e.cells=some e.cells:=by have:=qcn e.cells;rw[hel]at this;rw[Nat.one_mul];unfold qek;rw[jF];exact this
 have:=qie (P:=P) (H:=⟨n,[f,VE pb pre k sz es post g]⟩) (elem:=elem) (b:=k) (n:=0) (es:=es) (x:=.slc t 0 1 (.ex 1)) (cs:=e.cells) hsz hby hz hzl h.el.sz0 hb0 rfl
  (by simp[qbb,readCells,Heap.get,getFs,ht,hsub];simpa using hsub) (by simpa using hel) hsg h.el (by simpa using hl)
  (fun hne=>by simp only[Heap.get,getFs];rw[hf k h.lk.1,VE_k h hne])
  (fun he=>by subst he;rw[hd];rfl) hrow
 rw[hd]at this;have e1:qa5 (es++[e])=qa5 es++e.cells:=by rw[qbq];simp[qa5]
 rw[e1];simpa[Heap.new,pushF]using this
theorem prom_E(hp:pb < m) {c:Nat} {row vrow:List AV} (hc:m<=c) (hf:∀i,i < m->getF i f=none) (hr:qa9 row=true) :
  qdj pb [c] [] [(c,.cells row)::f,(pb,.cells vrow)::g]=[f,(c,.cells row)::(pb,.cells vrow)::g]:=by
 have hcp:Nat.beq c pb=false:=qaw (by omega);have g1:getF pb f=none:=hf pb hp;have r1:qgu 100000 [c] ((c,.cells row)::f) []=([(c,.cells row)],f):=by have hk:qs5 (.cells row)=[]:=qe7 4 _ hr;show qgu (Nat.succ (Nat.succ 99998)) [c] ((c,.cells row)::f) []=_;unfold qgu;simp only[getF,jD,hk,jq,killF];unfold qgu;rfl
 have e1:qqh [((c,.cells row):Nat × Blk)]++[c]=[c]:=by have hk:qs5 (.cells row)=[]:=qe7 4 _ hr;simp[qqh,hk]
 have n1:getF pb ((c,Blk.cells row)::f)=none:=by simp[getF,hcp,g1]
 unfold qdj;rw[n1];simp only[r1,e1];unfold qdj;simp[getF]
theorem fit_E{c:Nat} {H:Heap} {es' cs0:List AV} (h:Eok m pb pre k sz es post g) (hc:m<=c) (hne:es'≠[]) (hcs:∀σ,qaz σ [] cs0 (qa5 es')) (hp:H.get pb=some (.cells (pre++.slc c 0 es'.length (.rest sz)::post))) (hk:H.get c=some (.cells cs0))
  (hg:∀e,e∈g->H.get e.1=some e.2):FitH m ((c,m)::idn m) [] H ⟨m+1,[VE pb pre m sz es' post g]⟩:=by
 have idl:=qps (m:=m) (k:=c) (k':=m) hc;have nd:=h.nd;rw[jr]at nd;refine⟨?_,?_,?_,?_,?_,by show m<=m+1;omega,?_,fun x h=>by cases h⟩
 ·simp only[ye,jg,jj,jr];refine⟨?_,qp0 m⟩;simp[idn];omega
 ·simp only[jj,jr];refine⟨?_,qk5 m⟩;simp[idn]
 ·simp only[Heap.ents,je,js,jg,VE,qci hne,jj,j3,ye,List.cons_append,jq,jr,ja,not_or];refine⟨⟨by have:=h.lp;omega,nd.1⟩,?_,nd.2⟩;intro hx;obtain⟨e,he,hx⟩:=ji.1 hx;have:=h.lg e he;omega
 ·intro x hx;rcases ja.1 hx with rfl|hx
  ·exact jX m
  ·obtain⟨i,hi,rfl⟩:=ji.1 hx;have:i < m:=(by simpa using hi);show i < m+1;omega
 ·intro x hx hlt;rcases ja.1 hx with rfl|hx
  ·simp at hlt
  ·obtain⟨i,hi,rfl⟩:=ji.1 hx;rfl
 ·intro e he;simp only[Heap.ents,je,js,jg,VE,qci hne,List.cons_append,jq,ja]at he;rcases he with rfl|rfl|he
  ·refine⟨pb,_,jp _ (qex h.lp),hp,?_⟩;show qaz _ _ _ _;rw[qch hne];refine qdv (h.sp _ idl) ?_;simp only[qaz];exact⟨by simp[qat,qb2],h.sq _ idl⟩
  ·exact⟨c,_,jA,hk,hcs _⟩
  ·exact⟨e.1,e.2,jp _ (qex (h.lg e he)),hg e he,h.sg e he _ idl⟩
theorem Eok.next(h:Eok m pb pre k sz es post g) {es':List AV} (he:Elems sz es'):Eok (m+1) pb pre m sz es' post g where
 lp:=by have:=h.lp;omega
 lk:=⟨jX m,fun hx=>by
  rcases ja.1 hx with hx|hx
  ·have:=h.lp;omega
  ·obtain⟨e,he,hx⟩:=ji.1 hx;have:=h.lg e he;omega⟩
 lg:=fun e he=>by have:=h.lg e he;omega
 nd:=h.nd
 sg:=fun e he=>(h.sg e he).mono (yK m)
 sp:=fun σ hσ=>h.sp σ fun i hi=>hσ i (by omega)
 sq:=fun σ hσ=>h.sq σ fun i hi=>hσ i (by omega)
 el:=he
theorem Eok.mono(h:Eok m pb pre k sz es post g) {m':Nat} (hm:m<=m') {es':List AV} (he:Elems sz es'):Eok m' pb pre k sz es' post g where
 lp:=jI h.lp hm
 lk:=⟨jI h.lk.1 hm,h.lk.2⟩
 lg:=fun e he=>jI (h.lg e he) hm
 nd:=h.nd
 sg:=fun e he=>(h.sg e he).mono hm
 sp:=fun σ hσ=>h.sp σ fun i hi=>hσ i (by omega)
 sq:=fun σ hσ=>h.sq σ fun i hi=>hσ i (by omega)
 el:=he
theorem fit_W{m':Nat} {H:Heap} {es':List AV} (h:Eok m pb pre k sz es post g) (hm:m<=m') (hne:es'≠[]) (he':Elems sz es') (hp:H.get pb=some (.cells (pre++qdo k sz es'::post))) (hk:H.get k=some (.cells (qa5 es')))
  (hg:∀e,e∈g->H.get e.1=some e.2):FitH m (idn m) [] H ⟨m',[VE pb pre k sz es' post g]⟩:=by
 have idl:=qm3 m;have nd:=h.nd;have hkk:=h.lk.2;simp only[ja,not_or]at hkk;rw[jr]at nd;refine⟨by simpa using qp0 m,qk5 m,?_,?_,?_,hm,?_,fun x h=>by cases h⟩
 ·simp only[Heap.ents,je,js,jg,VE,qci hne,jj,j3,ye,List.cons_append,jq,jr,ja,not_or];exact⟨⟨fun e=>hkk.1 e.symm,nd.1⟩,hkk.2,nd.2⟩
 ·intro x hx;obtain⟨i,hi,rfl⟩:=ji.1 hx;have:i < m:=by simpa using hi
  show i < m';omega
 ·intro x hx hlt;obtain⟨i,hi,rfl⟩:=ji.1 hx;rfl
 ·intro e he;simp only[Heap.ents,je,js,jg,VE,qci hne,List.cons_append,jq,ja]at he;rcases he with rfl|rfl|he
  ·refine⟨pb,_,qex h.lp,hp,?_⟩;show qaz _ _ _ _;rw[qch hne];refine qdv (h.sp _ idl) ?_;simp only[qaz];exact⟨by simp[qat,qd4 h.lk.1],h.sq _ idl⟩
  ·exact⟨k,_,qex h.lk.1,hk,qaf he'.pure⟩
  ·exact⟨e.1,e.2,qex (h.lg e he),hg e he,h.sg e he _ idl⟩
end
section
variable {C:Ctx} {call:qcj} {ops:Array Oper} {s:St} {o:Oper} {l:List Oper} {P:St->Prop}
theorem qf6{E R:Option St} (h:E=R) (k:∃s',R=some s'/\P s'):∃s',E=some s'/\P s':=by subst h;exact k
theorem qax(h:P s):∃s',some s=some s'/\P s':=⟨s,rfl,h⟩
theorem qb6{b:Bool} (h1:b=true->∃s',qjn C call ops (qsd C call s o (some true)) l=some s'/\P s') (h2:b=false->∃s',qjn C call ops (qsd C call s o (some false)) l=some s'/\P s') :
  ∃s',qjn C call ops (qsd C call s o (some b)) l=some s'/\P s':=by
 cases b with
 |true=>exact h1 rfl
 |false=>exact h2 rfl
theorem ql0{H:Heap} {d:Option Tmp} {p q:Option AV} {b:Bool} (h1:b=true->∃s',qjn C call ops (putV s d (zdb H (some (.bool true)) p q)) l=some s'/\P s') (h2:b=false->∃s',qjn C call ops (putV s d (zdb H (some (.bool false)) p q)) l=some s'/\P s') :
  ∃s',qjn C call ops (putV s d (zdb H (some (.bool b)) p q)) l=some s'/\P s':=by
 cases b with
 |true=>exact h1 rfl
 |false=>exact h2 rfl
theorem rE{n:Nat} {r:Option Nat} {id:Nat} {ops:Array Oper} {s:St} {Q:Out->St->Prop} {R:Option St} (h:qff (ctx T) (qb7 (ctx T)) ops ops.toList { s with ts:=[] }=R) (k:∃s1,R=some s1/\Q .normal s1):WpSr (ctx T) n r (.region id ops false) s Q:=qai qbc (qf6 h k)
end
theorem qry{W:Str} (h:W.all (fun c=>decide (c.toNat < 128))=true):qdn W:=by unfold qdn;simpa using h
theorem qcl{a b:List Nd} (h:qa8 a=qa8 b):a=b:=qe9 (by simpa[qak]using h)
section
variable (n:Nd)
@[simp]theorem nd_cells:(qa6 n).cells=n.cs:=rfl
@[simp]theorem nd_len:n.cs.length=7:=rfl
@[simp]theorem nd_single:allSingle n.cs=true:=rfl
@[simp]theorem nd_over{a b c d e f g:AV}:qif n.cs [a,b,c,d,e,f,g]=some n.cs:=rfl
@[simp]theorem nd_lay{a b c d e f g:AV}:qho n.cs 0 [a,b,c,d,e,f,g]=some n.cs:=rfl
@[simp]theorem nd_over'{m:Nd}:qif n.cs m.cs=some n.cs:=rfl
@[simp]theorem nd_lay'{m:Nd}:qho n.cs 0 m.cs=some n.cs:=rfl
@[simp]theorem nd_refs:n.cs.flatMap (refs 6)=[]:=qe7 6 _ (qf8 n)
@[simp]theorem nd_take:qef 7 n.cs=some n.cs:=rfl
@[simp]theorem nd_sub:qek 0 7 n.cs=some n.cs:=rfl
theorem qaq:AV.agg n.cs=qa6 n:=rfl
@[simp]theorem nd_f0:qe1 PG 34 (qa6 n) 0=some (.int .i64 n.kind):=rfl
@[simp]theorem nd_f1:qe1 PG 34 (qa6 n) 1=some (.int .i64 n.space):=rfl
@[simp]theorem nd_f2:qe1 PG 34 (qa6 n) 2=some (.str n.name):=rfl
@[simp]theorem nd_f3:qe1 PG 34 (qa6 n) 3=some (qal n.attrs):=rfl
@[simp]theorem nd_f4:qe1 PG 34 (qa6 n) 4=some (.str n.data):=rfl
@[simp]theorem nd_f5:qe1 PG 34 (qa6 n) 5=some (.int .i64 n.up):=rfl
@[simp]theorem nd_f6:qe1 PG 34 (qa6 n) 6=some (qbl n.kids):=rfl
end
def isB(t:Tr) (i:Int):Bool:=decide (0<=i) && decide (i < (t.length:Int))
theorem c124(t:Tr) (i:Int):CA T 124 [qak t,.int .i64 i] zH (.bool (isB t i)) zH:=by
 refine qa1 (s0:=⟨[0,1,2,4],[qak t,.int .i64 i,uD,uD],[],14,⟨0,[[]]⟩⟩) Tryz.func124 rfl rfl rfl ?_;apply qR;simp[zS,qak];by_cases h:0<=i
 ·apply qR;simp[zS,qhn,h];apply qa3;simp[zQ,Tryz.f124];exact qa2 rfl (by simp[isB,h])
 ·apply qR;simp[zS,qhn,h];apply qa3;simp[zQ,Tryz.f124];exact qa2 rfl (by simp[isB,h])
def qli(t:Tr) (up:Int):Nat->Int->Bool
 |0,_=>false
 |n+1,kid=>if isB t kid=true then (if kid=up then true else qli t up n (qa0 t kid).up) else false
def qk6(t:Tr) (up kid:Int):Bool:=isB t up && qli t up (t.length+1) kid
theorem zf3(H:Heap) (t:Tr):qet H [7] (qak t)=some (qak t):=qao (by simp)
def e124:Entry PG:=mkE 124 [[7],[]] (fun x:Tr × Int=>[qak x.1,.int .i64 x.2]) (fun _=>True) (fun x=>.bool (isB x.1 x.2)) fun x _=>c124 (T:=[]) x.1 x.2
theorem k124(hT:qIn 124 T e124) (t:Tr) (i:Int) (H:Heap):qb7 (ctx T) (.fn 124) [qak t,.int .i64 i] H=some (.bool (isB t i),H):=
 qac hT qx4 (t,i) trivial rfl (by simp[zf3])
theorem c125(hS:qIn 124 T e124) (t:Tr) (ht:t.length<=1000000) (up kid:Int):CA T 125 [qak t,.int .i64 up,.int .i64 kid] zH (.bool (qk6 t up kid)) zH:=by
 have ks:=fun i H=>k124 hS t i H;simp only[qak]at ks;refine qa1 (s0:=⟨[0,1,2,3,6,14,15],[qak t,.int .i64 up,.int .i64 kid,uD,uD,uD,uD],[],31,⟨0,[[]]⟩⟩) Tryz.func125 rfl rfl rfl ?_;apply qR;simp[zS,qak];apply qR;simp[zS,qak,ks];cases h0:isB t up with
 |false=>apply qaj rfl;apply qR;simp[zS];apply qa3;simp[zQ,Tryz.f125];exact qa2 rfl (by simp[qk6,h0])
 |true=>
  apply qag rfl;apply qa4;simp;apply qR;simp[zS,qhn,qak,qbd (show t.length<=1000000000 by omega)];refine qa7 (qb1 (fun x:Nat × Int=>(⟨[0,1,2,3,6,14,15],[uD,.int .i64 up,.int .i64 x.2,.ptr 0 0,uD,.int .i64 ((t.length:Int)+1),.int .i64 (x.1:Int)],[],31,⟨1,[[(0,.cells [qa8 t])]]⟩⟩ : St))
   (fun x=>x.1<=t.length+1/\qli t up (t.length+1) kid=qli t up (t.length+1 - x.1) x.2) (fun x=>t.length+1 - x.1) [(0,0)] [] (0,kid) ⟨by omega,rfl⟩ ⟨rfl,rfl,rfl,by simp[qaz,qat,qb2,qab],.id1 (g:=[(0,.cells [qa8 t])]) (by simp) (by simp) (by simp[zG,qa9])⟩ ?_)
  rintro⟨i,k⟩ ⟨hi,hx⟩ B hB;simp only at hi hx;by_cases h:i < t.length+1
  ·have hc:(i:Int) < (t.length:Int)+1:=(by omega);have hs:t.length+1 - i=(t.length - i)+1:=(by omega);rw[hs]at hx;apply qR;simp[zS,hc];repeat apply wq
   apply qaj rfl;apply qa4;simp;repeat apply wq
   apply qa7;apply qR;simp[zS,ks];cases h1:isB t k with
   |false=>apply qaj rfl;apply qR;simp[zS];apply qa3;simp[zQ,Tryz.f125];exact qa2 rfl (by unfold qk6;rw[h0,hx];simp[h0,qli,h1])
   |true=>
    apply qag rfl;apply qa4;simp;by_cases h2:k=up
    ·apply qR;simp[zS,h2];apply qaj rfl;apply qR;simp[zS];apply qa3;simp[zQ,Tryz.f125];exact qa2 rfl (by unfold qk6;rw[h0,hx];simp[h0,qli,h1,h2])
    ·have hk:0<=k/\k < (t.length:Int):=(by simpa[isB]using h1);apply qR;simp[zS,h2];apply qag rfl;apply qa4;simp;apply qR;simp[zS,atX hk.1 hk.2,Nd.cs,qbm];apply qR;simp[zS,qbd (show i<=1000000000 by omega)];refine hB _ (i+1,(qa0 t k).up) (by simp only;omega) ⟨by simp only;omega,?_⟩ ⟨[(0,0)],[],rfl,rfl,rfl,by simp[qaz,qat,qb2,qab],.id1 (g:=[(0,.cells [qa8 t])]) (by simp) (by simp) (by simp[zG,qa9])⟩;simp only;rw[show t.length+1 - (i+1)=t.length - i by omega,hx];simp[h0,qli,h1,h2]
  ·have hc:¬ (i:Int) < (t.length:Int)+1:=(by omega);rw[show t.length+1 - i=0 by omega]at hx;apply qR;simp[zS,hc];repeat apply wq
   apply qag rfl;apply qau;simp;apply qR;simp[zS];apply qa3;simp[zQ,Tryz.f125];exact qa2 rfl (by unfold qk6;rw[h0,hx];simp[h0,qli])
theorem injTII(x y:Tr × Int × Int) (h:[qak x.1,.int .i64 x.2.1,.int .i64 x.2.2]=[qak y.1,.int .i64 y.2.1,.int .i64 y.2.2]):x=y:=by simp at h;exact yz (qe9 h.1) (yz h.2.1 h.2.2)
theorem q124(hT:qIn 124 T e124) {a:AV} {H:Heap} {t:Tr} (ha:qet H [7] a=some (qak t)) (i:Int):qb7 (ctx T) (.fn 124) [a,.int .i64 i] H=some (.bool (isB t i),H):=
 qac hT qx4 (t,i) trivial rfl (by simp[ha])
structure RgE where
 C:Ctx
 call:qcj
 ops:Array Oper
 bef:Array Nat
 base:Nat
def evE(A:RgE) (i:Nat) (l:List Oper) (s:St) (ps:List Pend) (hs:List (Nat × Heap)) (rs:List Rec):Option DrawSt:=qnl A.C A.call A.ops A.bef A.base i l ⟨s,ps,hs,rs⟩
section
variable {A:RgE} {i:Nat} {o:Oper} {r:List Oper} {s s':St} {ps:List Pend} {hs:List (Nat × Heap)} {rs:List Rec} {v:AV} {H:Heap}
def putE(A:RgE) (i:Nat) (r:List Oper) (ps:List Pend) (hs:List (Nat × Heap)) (rs:List Rec):Option St->Option DrawSt
 |none=>none
 |some s'=>evE A (i+1) r s' ps hs rs
def putX(A:RgE) (i:Nat) (r:List Oper) (ps:List Pend) (hs:List (Nat × Heap)) (rs:List Rec):Option St->Option DrawSt
 |none=>none
 |some s'=>evE A (i+1) r s' ps ((i,s'.H)::hs) rs
def valE(A:RgE) (i:Nat) (o:Oper) (r:List Oper) (s:St) (ps:List Pend) (hs:List (Nat × Heap)) (rs:List Rec):Option (AV × Heap)->Option DrawSt
 |none=>none
 |some v=>putE A i r ps hs rs (s.put o.dst v.1)
def redE(A:RgE) (i:Nat) (o:Oper) (r:List Oper) (s:St) (ps:List Pend) (hs:List (Nat × Heap)) (rs:List Rec):Option (AV × Heap)->Option DrawSt
 |none=>none
 |some v=>putE A i r ps hs (⟨i,o,s,v.1⟩::rs) (s.put o.dst v.1)
def actE(A:RgE) (i:Nat) (o:Oper) (r:List Oper) (s:St) (ps:List Pend) (hs:List (Nat × Heap)) (rs:List Rec):Option (AV × Heap)->Option DrawSt
 |none=>none
 |some v=>putX A i r (qb0 A.bef i ps) hs rs (St.put (s.wH v.2) o.dst v.1)
def layE(A:RgE) (i:Nat) (o:Oper) (r:List Oper) (s:St) (ps:List Pend) (hs:List (Nat × Heap)) (rs:List Rec):Option ((Nat->AV) × Blk)->Option DrawSt
 |none=>none
 |some k=>putE A i r (⟨i,A.base+i,k.2⟩::ps) hs rs (s.put o.dst (k.1 (A.base+i)))
def clsE(A:RgE) (i:Nat) (o:Oper) (r:List Oper) (s:St) (ps:List Pend) (hs:List (Nat × Heap)) (rs:List Rec):Cls->Option DrawSt
 |.allocs=>layE A i o r s ps hs rs (qdx A.C o s)
 |.acts=>actE A i o r s ps hs rs (qae A.C A.call o (s.wH (s.H.lay (qb4 A.bef i ps))))
 |.reads=>redE A i o r s ps hs rs (qae A.C A.call o s)
 |.pure=>valE A i o r s ps hs rs (qae A.C A.call o s)
def clsF(A:RgE) (i:Nat) (o:Oper) (r:List Oper) (ps:List Pend) (hs:List (Nat × Heap)) (rs:List Rec):Cls->Option St->Option DrawSt
 |_,none=>none
 |.acts,some s'=>evE A (i+1) r (s'.wH (s'.H.lay (qb4 A.bef i ps))) (qb0 A.bef i ps) ((i,s'.H.lay (qb4 A.bef i ps))::hs) rs
 |.allocs,some s'=>evE A (i+1) r s' ps hs rs
 |.reads,some s'=>evE A (i+1) r s' ps hs rs
 |.pure,some s'=>evE A (i+1) r s' ps hs rs
def zdo(A:RgE) (i:Nat) (o:Oper) (r:List Oper) (s:St) (ps:List Pend) (hs:List (Nat × Heap)) (rs:List Rec):Option Bool->Option DrawSt
 |none=>none
 |some false=>clsF A i o r ps hs rs (qc4 o.op) (s.put o.dst (.tup []))
 |some true=>clsE A i o r s ps hs rs (qc4 o.op)
theorem qik:evE A i [] s ps hs rs=some ⟨s,ps,hs,rs⟩:=rfl
theorem qil:evE A i (o::r) s ps hs rs=zdo A i o r s ps hs rs (qc9 A.ops s o):=by
 show (qib A.C A.call A.ops A.bef A.base i o ⟨s,ps,hs,rs⟩).bind (fun d=>qnl A.C A.call A.ops A.bef A.base (Nat.succ i) r d)=_;cases hg:qc9 A.ops s o with
 |none=>unfold qib;simp only[hg,zdo];rfl
 |some g=>
  cases g with
  |false=>
   simp only[zdo];unfold qib;simp only[hg,jb];cases s.put o.dst (.tup [])with
   |none=>cases qc4 o.op<;>rfl
   |some s'=>cases qc4 o.op<;>rfl
  |true=>
   simp only[zdo];unfold qib;simp only[hg,jb];cases hc:qc4 o.op with
   |allocs=>
    simp only[clsE];cases qdx A.C o s with
    |none=>rfl
    |some k=>simp only[jb,layE];cases s.put o.dst (k.1 (A.base+i))<;>rfl
   |acts=>
    simp only[clsE];cases qae A.C A.call o (s.wH (s.H.lay (qb4 A.bef i ps)))with
    |none=>rfl
    |some v=>simp only[jb,actE];cases St.put (s.wH v.2) o.dst v.1<;>rfl
   |reads=>
    simp only[clsE];cases qae A.C A.call o s with
    |none=>rfl
    |some v=>simp only[jb,redE];cases s.put o.dst v.1<;>rfl
   |pure=>
    simp only[clsE];cases qae A.C A.call o s with
    |none=>rfl
    |some v=>simp only[jb,valE];cases s.put o.dst v.1<;>rfl
theorem qfm:putE A i r ps hs rs (some s')=evE A (i+1) r s' ps hs rs:=rfl
theorem qfl:putX A i r ps hs rs (some s')=evE A (i+1) r s' ps ((i,s'.H)::hs) rs:=rfl
theorem qfi:valE A i o r s ps hs rs (some (v,H))=putE A i r ps hs rs (s.put o.dst v):=rfl
theorem qfk:redE A i o r s ps hs rs (some (v,H))=putE A i r ps hs (⟨i,o,s,v⟩::rs) (s.put o.dst v):=rfl
theorem qfz:actE A i o r s ps hs rs (some (v,H))=putX A i r (qb0 A.bef i ps) hs rs (St.put (s.wH H) o.dst v):=rfl
theorem qfp{k:(Nat->AV) × Blk}:layE A i o r s ps hs rs (some k)=putE A i r (⟨i,A.base+i,k.2⟩::ps) hs rs (s.put o.dst (k.1 (A.base+i))):=rfl
theorem qea:zdo A i o r s ps hs rs (some true)=clsE A i o r s ps hs rs (qc4 o.op):=rfl
theorem qft:clsF A i o r ps hs rs .acts (some s')=evE A (i+1) r (s'.wH (s'.H.lay (qb4 A.bef i ps))) (qb0 A.bef i ps) ((i,s'.H.lay (qb4 A.bef i ps))::hs) rs:=rfl
theorem qfs:clsF A i o r ps hs rs .allocs (some s')=evE A (i+1) r s' ps hs rs:=rfl
theorem qfq:clsF A i o r ps hs rs .reads (some s')=evE A (i+1) r s' ps hs rs:=rfl
theorem qfr:clsF A i o r ps hs rs .pure (some s')=evE A (i+1) r s' ps hs rs:=rfl
theorem qeb:zdo A i o r s ps hs rs (some false)=clsF A i o r ps hs rs (qc4 o.op) (s.put o.dst (.tup [])):=rfl
theorem qfw:clsE A i o r s ps hs rs .allocs=layE A i o r s ps hs rs (qdx A.C o s):=rfl
theorem qfx:clsE A i o r s ps hs rs .acts=actE A i o r s ps hs rs (qae A.C A.call o (s.wH (s.H.lay (qb4 A.bef i ps)))):=rfl
theorem qfv:clsE A i o r s ps hs rs .pure=valE A i o r s ps hs rs (qae A.C A.call o s):=rfl
theorem qfu:clsE A i o r s ps hs rs .reads=redE A i o r s ps hs rs (qae A.C A.call o s):=rfl
end
theorem qim{C:Ctx} {call:qcj} {ops:Array Oper} {s:St} {E:Option DrawSt} {P:DrawSt->Prop} (B:Array Nat)
  (h:evE ⟨C,call,ops,B,s.H.n⟩ 0 ops.toList (qbn (qas ops.toList { s with ts:=[] }) ops.size) [] [] []=E) (k:∃d,E=some d/\P d) :
  ∃d,qnl C call ops B s.H.n 0 ops.toList ⟨qbn (qas ops.toList { s with ts:=[] }) ops.size,[],[],[]⟩=some d/\P d:=by
 subst h;exact k
@[simp]theorem szT38:qcg PG 38=some 1:=rfl
@[simp]theorem agT38:qi8 PG 38=some false:=rfl
@[simp]theorem byT38:qco PG 38=some 8:=rfl
@[simp]theorem alT38(H:Heap):alV PG H 38=some (.ptr H.n 0,H.new (.cells [.nilP])):=rfl
@[simp]theorem zeT38:qc1 PG 38=some (.nilP):=rfl
attribute [simp] Tryz.underlying38
@[simp 500]theorem rvF38(H:Heap) (cs:List AV) (o:Nat):qb3 PG H 38 (.fptr cs o)=qcy cs o:=rfl
@[simp 500]theorem rvP38(H:Heap) (b o:Nat):qb3 PG H 38 (.ptr b o)=(H.get b).bind fun k=>k.rd.bind fun cs=>qcy cs o:=rfl
@[simp]theorem szT76:qcg PG 76=some 1:=rfl
@[simp]theorem agT76:qi8 PG 76=some false:=rfl
@[simp]theorem byT76:qco PG 76=some 8:=rfl
@[simp]theorem alT76(H:Heap):alV PG H 76=some (.ptr H.n 0,H.new (.cells [.nilP])):=rfl
@[simp]theorem zeT76:qc1 PG 76=some (.nilP):=rfl
attribute [simp] Tryz.underlying76
@[simp 500]theorem rvF76(H:Heap) (cs:List AV) (o:Nat):qb3 PG H 76 (.fptr cs o)=qcy cs o:=rfl
@[simp 500]theorem rvP76(H:Heap) (b o:Nat):qb3 PG H 76 (.ptr b o)=(H.get b).bind fun k=>k.rd.bind fun cs=>qcy cs o:=rfl
theorem qfg(L:List At1):Elems 2 (L.map qcq):=.map (sz:=2) (f:=qcq) (by decide) (fun x=>⟨rfl,by simp[qcq,AV.cells,qa9,qab],fun h=>absurd h (by decide),fun _=>⟨_,rfl⟩⟩) L
theorem qbk(L:List Nd):Elems 7 (L.map qa6):=.map (sz:=7) (f:=qa6) (by decide) (fun x=>⟨rfl,by simp[qa6,Nd.cs,AV.cells,qa9,qab,qbm,qal],fun h=>absurd h (by decide),fun _=>⟨_,rfl⟩⟩) L
theorem qit:∀(L:List At1),allSingle (qa5 (L.map qcq))=true
 |[]=>rfl
 |a::r=>by simp only[jj,qa5,qd1,qit r];rfl
theorem c51(L:List At1) (hl:L.length<=1000000):CA T 51 [qal L] zH (qal L) zH:=by
 have happ:=qvd (P:=PG) (elem:=71) (b:=0) (m:=1) (es:=L.map qcq) (g:=[]) (fs:=[]) szT71 zjb zeT71 rfl (by omega) (by omega) (qfg _) (qit _) (by simp;omega);cases L with
 |nil=>
  refine qa1 (s0:=⟨[0,2],[.fslc 2 [],uD],[],8,⟨0,[[]]⟩⟩) Tryz.func51 rfl rfl rfl ?_;apply qR;simp[zS];refine qq0 (pre:=[]) ?_ ?_
  ·apply qR;simp[zS];apply qaj rfl;apply qR;simp[zS];apply qa3;simp[zQ,Tryz.f51];exact⟨[],[],by simp[qat,qal],FitH.empty⟩
  ·apply qR;simp[zS];apply qag rfl;apply qa4;simp;have happ:qby PG ⟨1,[[(0,.cells [])]]⟩ 71 (.slc 0 0 0 (.ex 0)) .eslc=some (.slc 0 0 0 (.ex 0),⟨1,[[(0,.cells [])]]⟩):=rfl;apply qR;simp[zS,happ];apply qa3;simp[zQ,Tryz.f51];exact qt9 (es:=[]) (len:=0) (qfg []) (by simp[zG,qa5]) (by simp) (by simp)
 |cons x r=>
  have e1:litV 0 1 2 ((x::r).map qcq)=.slc 1 0 (r.length+1) (.rest 2):=by simp[litV]
  have e2:qy8 ⟨1,[[(0,.cells [])]]⟩ ((x::r).map qcq)=⟨2,[[(1,.cells (qa5 ((x::r).map qcq))),(0,.cells [])]]⟩:=rfl;rw[e1,e2]at happ;refine qa1 (s0:=⟨[0,2],[qal (x::r),uD],[],8,⟨0,[[]]⟩⟩) Tryz.func51 rfl rfl rfl ?_;apply qR;simp[zS,qal];apply qR;simp[zS,qal];apply qag rfl;apply qa4;simp;simp only[jj]at happ;apply qR;simp[zS,happ];apply qa3;simp[zQ,Tryz.f51];exact qt9 (es:=(x::r).map qcq) (len:=r.length+1) (qfg _) (by simp[zG]) (by simp) (by rw[jz (by simp)];rfl)
def e51:Entry PG:=mkE 51 [[2]] (fun L:List At1=>[qal L]) (fun L=>L.length<=1000000) (fun L=>qal L) fun L hl=>c51 (T:=[]) L hl
theorem k51(hT:qIn 51 T e51) {L:List At1} (hl:L.length<=1000000) (H:Heap):qb7 (ctx T) (.fn 51) [qal L] H=some (qal L,H):=
 qd2 hT (fun x y h=>by simp only[j4]at h;exact qf3 h.1) L hl (by simp[qa9]) (by simp[qao]) H
def fresh(nd:Nd):Nd:={ nd with up:=-1,kids:=[] }
def qu6(nd:Nd):AV:=.agg [qbm nd.kind,qbm nd.space,.str nd.name,qal nd.attrs,.str nd.data,qbm (-1),.nilS]
theorem c87(hC:qIn 51 T e51) {m pb k:Nat} {pre post:List AV} {L:List Nd} {g:List (Nat × Blk)} (h:Eok m pb pre k 7 (L.map qa6) post g) (hl:L.length+1<=1000000) (nd:Nd) (ha:nd.attrs.length<=1000000) :
  CA T 87 [.ptr pb pre.length,qa6 nd] ⟨m,[VE pb pre k 7 (L.map qa6) post g]⟩ (.int .i64 (L.length:Int)) ⟨m+1,[VE pb pre m 7 ((L++[fresh nd]).map qa6) post g]⟩:=by
 have kc:=fun H=>k51 hC ha H;have lp:=h.lp;have hgv:∀n f,(∀i,i < m->getF i f=none)->Heap.get ⟨n,[f,VE pb pre k 7 (L.map qa6) post g]⟩ pb=some (.cells (pre++qdo k 7 (L.map qa6)::post)):=fun n f hf=>by simp only[Heap.get,getFs];rw[hf pb lp,VE_p]
 have fl1:∀cs:List AV,∀i,i < m->getF i [(m,.cells cs)]=none:=fun cs i hi=>by unfold getF;rw[qaw (show m≠i by omega)];rfl
 have fl2:∀(j:Nat) (ds cs:List AV),∀i,i < m->getF i [(m+j,.cells ds),(m,.cells cs)]=none:=fun j ds cs i hi=>by unfold getF;rw[qaw (show m+j≠i by omega)];exact fl1 cs i hi
 have gx:qcy (pre++qdo k 7 (L.map qa6)::post) pre.length=some (qdo k 7 (L.map qa6)):=by rw[qf4 (by simp),jv (by omega)];simp
 have hes:Elems 7 (L.map qa6++[qu6 nd]):=by exact(qbk L).append ⟨by omega,fun v hv=>by simp only[ju]at hv;subst hv;exact⟨rfl,by simp[qu6,AV.cells,qbm,qal,qa9,qab],fun h=>by omega,fun _=>⟨_,rfl⟩⟩⟩
 have rd2:∀n,qb3 PG ⟨n,[[(m,.cells nd.cs)],VE pb pre k 7 (L.map qa6) post g]⟩ 22 (.ptr pb pre.length)=some (qdo k 7 (L.map qa6)):=fun n=>by simp[hgv n _ (fl1 _),gx]
 have hf2:=fl2 (1+17) (qu6 nd).cells nd.cs;rw[<- Nat.add_assoc]at hf2;obtain⟨f,hfd⟩ : ∃f,f=[(m+1+17,Blk.cells (qu6 nd).cells),(m,.cells nd.cs)]:=⟨_,rfl⟩;rw[<- hfd]at hf2;have happ:=app_E (P:=PG) (elem:=34) (n:=m+1+22) (f:=f) qvr qzs zei rfl (by omega) h (t:=m+1+17) (e:=qu6 nd) rfl rfl hf2 (by rw[hfd];simp[getF]) (by simp;omega) (fun _=>rfl);have pr:=prom_E (f:=f) (g:=g) (c:=m+1+22) (row:=qa5 (L.map qa6++[qu6 nd])) (vrow:=pre++qdo k 7 (L.map qa6)::post) lp (by omega) hf2 hes.pure;have hly:qho [.slc (m+1+22) 0 (L.length+1) (.rest 7)] pre.length (pre++qdo k 7 (L.map qa6)::post)=some (pre++.slc (m+1+22) 0 (L.length+1) (.rest 7)::post):=by have:=qh3 (a:=pre) (b:=[qdo k 7 (L.map qa6)]) (b':=[.slc (m+1+22) 0 (L.length+1) (.rest 7)]) (c:=post) rfl;simpa using this
 obtain⟨R,hR⟩ : ∃R,R=qa5 (L.map qa6++[qu6 nd]):=⟨_,rfl⟩;rw[<- hR]at happ pr;simp only[jJ]at happ;have q1:Nat.beq (m+1+22) pb=false:=qaw (by omega);have q2:Nat.beq (m+1+17) pb=false:=qaw (by omega);have q3:Nat.beq m pb=false:=qaw (by omega);have c0:qcy nd.cs 0=some (.int .i64 nd.kind):=rfl;have c1:qcy nd.cs 1=some (.int .i64 nd.space):=rfl;have c2:qcy nd.cs 2=some (.str nd.name):=rfl;have c3:qcy nd.cs 3=some (qal nd.attrs):=rfl;have c4:qcy nd.cs 4=some (.str nd.data):=rfl;have bld:qgq PG 34 [(0,.int .i64 nd.kind),(1,.int .i64 nd.space),(2,.str nd.name),(3,qal nd.attrs),(4,.str nd.data),(5,.int .i64 (-1))]=some (.agg [.int .i64 nd.kind,.int .i64 nd.space,.str nd.name,qal nd.attrs,.str nd.data,.int .i64 (-1),.nilS]):=rfl;refine qa1 (s0:=⟨[0,1,3,4],[.ptr pb pre.length,qa6 nd,uD,uD],[],32,⟨m,[]::[VE pb pre k 7 (L.map qa6) post g]⟩⟩) Tryz.func87 rfl rfl rfl ?_;apply qR;simp[zS];rw[hfd]at happ pr;simp only[qu6,AV.cells,qbm]at happ pr;have sg:(qal nd.attrs).single=true:=rfl;repeat apply wq
 refine qcc mixed qbc (by decide +kernel) fun B_ hB_=>?_;have hD_:ahead B_ 4 13=false/\ahead B_ 4 18=true/\ahead B_ 4 21=true/\ahead B_ 6 13=false/\ahead B_ 6 18=true/\ahead B_ 6 21=true/\ahead B_ 8 13=false/\ahead B_ 8 18=true/\ahead B_ 8 21=true/\ahead B_ 10 13=false/\ahead B_ 10 18=true/\ahead B_ 10 21=true/\ahead B_ 12 13=true/\ahead B_ 12 18=true/\ahead B_ 12 21=true/\ahead B_ 13 4=false/\ahead B_ 13 6=false/\ahead B_ 13 8=false/\ahead B_ 13 10=false/\ahead B_ 13 12=false/\ahead B_ 13 15=false/\ahead B_ 15 13=false/\ahead B_ 15 18=true/\ahead B_ 15 21=true/\ahead B_ 17 13=false/\ahead B_ 17 18=true/\ahead B_ 17 21=true/\ahead B_ 18 4=false/\ahead B_ 18 6=false/\ahead B_ 18 8=false/\ahead B_ 18 10=false/\ahead B_ 18 12=false/\ahead B_ 18 15=false/\ahead B_ 21 4=false/\ahead B_ 21 6=false/\ahead B_ 21 8=false/\ahead B_ 21 10=false/\ahead B_ 21 12=false/\ahead B_ 21 15=false:=by rw[hB_];decide +kernel
 apply qim B_;simp[zS,qdx,qc9,qc4,qbn,qas,qb4,qb0,Heap.lay,qdk,qil,qik,qfm,qfl,qfi,qfk,qfz,qfp,qea,qeb,qft,qfs,qfq,qfr,qfw,qfx,qfv,qfu,hD_,rd2,bld,sg,kc,happ,q1,q2,q3,pr,hly,c0,c1,c2,c3,c4];exact rfl;refine⟨_,rfl,?_,?_⟩;simp[zS,qbn,qas,qcb,qcs,qe5,hD_,rd2,bld,sg,kc,happ,q1,q2,q3,pr,hly,c0,c1,c2,c3,c4];simp[qc8,Heap.lay,qdk,qan];have g3:Heap.get ⟨m+1+22+1,[[(m+1+17,.cells [.int .i64 nd.kind,.int .i64 nd.space,.str nd.name,qal nd.attrs,.str nd.data,.int .i64 (-1),.nilS]),(m,.cells nd.cs)],(m+1+22,.cells R)::(pb,.cells (pre++.slc (m+1+22) 0 (L.length+1) (.rest 7)::post))::g]⟩ pb=some (.cells (pre++.slc (m+1+22) 0 (L.length+1) (.rest 7)::post)):=by simp[zG,q1,q2,q3]
 have gx3:qcy (pre++.slc (m+1+22) 0 (L.length+1) (.rest 7)::post) pre.length=some (.slc (m+1+22) 0 (L.length+1) (.rest 7)):=by rw[qf4 (by simp),jv (by omega)];simp
 have hfit:=fit_E (es':=(L++[fresh nd]).map qa6) (c:=m+1+22) (cs0:=R) (H:=⟨m+1+22+1,[[(m+1+17,.cells [.int .i64 nd.kind,.int .i64 nd.space,.str nd.name,qal nd.attrs,.str nd.data,.int .i64 (-1),.nilS]),(m,.cells nd.cs)],(m+1+22,.cells R)::(pb,.cells (pre++.slc (m+1+22) 0 (L.length+1) (.rest 7)::post))::g]⟩) h (by omega) (by simp)
  (fun σ=>by subst hR;rw[j3,qbq,qbq];refine qdv (qaf (qbk L).pure) ?_;simp[qa5,qu6,qa6,fresh,Nd.cs,AV.cells,qaz,qat,qbm,qab])
  (by rw[g3];simp)
  (by simp[zG,show Nat.beq (m+1+17) (m+1+22)=false from qaw (by omega),show Nat.beq m (m+1+22)=false from qaw (by omega)])
  (fun e he=>by have:=h.lg e he;have nd:=h.nd;rw[jr]at nd;have e1:pb≠e.1:=fun x=>nd.1 (ji.2 ⟨e,he,x.symm⟩);simp[zG,qaw (show m+1+22≠e.1 by omega),qaw (show m+1+17≠e.1 by omega),qaw (show m≠e.1 by omega),qaw e1,qse nd.2 he])
 have rd3:qb3 PG ⟨m+1+22+1,[[(m+1+17,.cells [.int .i64 nd.kind,.int .i64 nd.space,.str nd.name,qal nd.attrs,.str nd.data,.int .i64 (-1),.nilS]),(m,.cells nd.cs)],(m+1+22,.cells R)::(pb,.cells (pre++.slc (m+1+22) 0 (L.length+1) (.rest 7)::post))::g]⟩ 22 (.ptr pb pre.length)=some (.slc (m+1+22) 0 (L.length+1) (.rest 7)):=by simp[g3,gx3]
 have hsub:wr .i64 (L.length:Int)=some (L.length:Int):=by have:=qyb (q:=L.length) (by omega);simpa using this
 have hlen:∀H,qer PG H 22 (.slc (m+1+22) 0 (L.length+1) (.rest 7))=some (L.length+1):=fun H=>rfl;apply qR;simp[zS,rd3,hsub,hlen];apply qa3;simp[zQ,Tryz.f87];rw[j3]at hfit;refine⟨_,_,?_,hfit⟩;simp[qat,qab]
theorem qjo{H:Heap} {k:Nat} {t:Tr} (hne:t≠[]) (hk:H.get k=some (.cells (qa5 (t.map qa6)))):qet H [7] (.agg [qdo k 7 (t.map qa6)])=some (qak t):=by have el:=qbk t;have e1:=qq9 el (jc _);rw[jz (jc _)]at e1;have e2:=el.chunk;rw[jJ]at e1 e2;rw[qch (by simp[hne])];simp[qet,okV,qa9,qab,qq5,qll,hk,el.pure,e1,e2,el.size,qak]
theorem c154(hS:qIn 124 T e124) (t:Tr) (i:Int) (hi:isB t i=true) (hu:(qa0 t i).up = -1):CA T 154 [qak t,.int .i64 i] zH (.int .i64 (-1)) zH:=by
 have ks:=fun i H=>k124 hS t i H;have hk:0<=i/\i < (t.length:Int):=by simpa[isB]using hi
 have hm:isB t (-1)=false:=by simp[isB]
 simp only[qak]at ks;refine qa1 (s0:=⟨[0,1,2,4],[qak t,.int .i64 i,uD,uD],[],33,⟨0,[[]]⟩⟩) Tryz.func154 rfl rfl rfl ?_;apply qR;simp[zS,qak];repeat apply wq
 refine qcc mixed qbc (by decide +kernel) fun B_ hB_=>?_;have hD_:ahead B_ 0 2=true/\ahead B_ 0 12=true/\ahead B_ 2 0=false/\ahead B_ 2 5=true/\ahead B_ 2 7=true/\ahead B_ 2 11=true/\ahead B_ 5 2=false/\ahead B_ 5 12=true/\ahead B_ 7 2=false/\ahead B_ 7 12=true/\ahead B_ 11 2=false/\ahead B_ 11 12=true/\ahead B_ 12 0=false/\ahead B_ 12 5=false/\ahead B_ 12 7=false/\ahead B_ 12 11=false:=by rw[hB_];decide +kernel
 apply qim B_;simp[zS,qdx,qc9,qc4,qbn,qas,qb4,qb0,Heap.lay,qdk,qil,qik,qfm,qfl,qfi,qfk,qfz,qfp,qea,qeb,qft,qfs,qfq,qfr,qfw,qfx,qfv,qfu,hD_,ks,hi,hm,atX hk.1 hk.2,Nd.cs,qbm,hu];exact rfl;refine⟨_,rfl,?_,?_⟩;simp[zS,qbn,qas,qcb,qcs,qe5,hD_,ks,hi,hm,atX hk.1 hk.2,Nd.cs,qbm,hu];simp[qc8,Heap.lay,qdk,qan];apply qaj rfl;apply qR;simp[zS];apply qa3;simp[zQ,Tryz.f154];exact qa2 rfl (by rfl)
def e154:Entry PG:=mkE 154 [[7],[]] (fun x:Tr × Int=>[qak x.1,.int .i64 x.2]) (fun x=>isB x.1 x.2=true/\(qa0 x.1 x.2).up = -1) (fun _=>.int .i64 (-1)) fun x h=>c154 (T:=[e124]) rfl x.1 x.2 h.1 h.2
theorem q154(hT:qIn 154 T e154) {a:AV} {H:Heap} {t:Tr} (ha:qet H [7] a=some (qak t)) {i:Int} (hi:isB t i=true) (hu:(qa0 t i).up = -1):qb7 (ctx T) (.fn 154) [a,.int .i64 i] H=some (.int .i64 (-1),H):=
 qac hT qx4 (t,i) ⟨hi,hu⟩ rfl (by simp[ha])
def e125:Entry PG:=mkE 125 [[7],[],[]] (fun x:Tr × Int × Int=>[qak x.1,.int .i64 x.2.1,.int .i64 x.2.2]) (fun x=>x.1.length<=1000000) (fun x=>.bool (qk6 x.1 x.2.1 x.2.2)) fun x h=>c125 (T:=[e124]) rfl x.1 h x.2.1 x.2.2
theorem q125(hT:qIn 125 T e125) {a:AV} {H:Heap} {t:Tr} (ha:qet H [7] a=some (qak t)) (ht:t.length<=1000000) (up kid:Int):qb7 (ctx T) (.fn 125) [a,.int .i64 up,.int .i64 kid] H=some (.bool (qk6 t up kid),H):=
 qac hT injTII (t,up,kid) ht rfl (by simp[ha])
def qgy(t:Tr) (i:Nat) (u:Int):Tr:=t.take i++{ qa0 t i with up:=u }::t.drop (i+1)
theorem qf1{t:Tr} {i:Nat} (h:i < t.length):t=t.take i++qa0 t i::t.drop (i+1):=by
 have:qa0 t i=t[i]:=by simp[qa0,h]
 rw[this,List.getElem_cons_drop,yt]
theorem lay_up{t:Tr} {i:Nat} (h:i < t.length) (u:Int):qho [.int .i64 u] (i * 7+5) (qa5 (t.map qa6))=some (qa5 ((qgy t i u).map qa6)):=by
 have hl:(qa5 ((t.take i).map qa6)).length=i * 7:=by rw[(qbk _).len];simp;omega
 have e1:qa5 (t.map qa6)=(qa5 ((t.take i).map qa6)++[qbm (qa0 t i).kind,qbm (qa0 t i).space,.str (qa0 t i).name,qal (qa0 t i).attrs,.str (qa0 t i).data])++[qbm (qa0 t i).up]++(qbl (qa0 t i).kids::qa5 ((t.drop (i+1)).map qa6)):=by
  conv=>lhs;rw[qf1 h]
  simp[qbq,qa5,Nd.cs]
 have e2:qa5 ((qgy t i u).map qa6)=(qa5 ((t.take i).map qa6)++[qbm (qa0 t i).kind,qbm (qa0 t i).space,.str (qa0 t i).name,qal (qa0 t i).attrs,.str (qa0 t i).data])++[.int .i64 u]++(qbl (qa0 t i).kids::qa5 ((t.drop (i+1)).map qa6)):=by simp[qgy,qbq,qa5,Nd.cs,qbm]
 rw[e1,e2];have:=qh3 (a:=qa5 ((t.take i).map qa6)++[qbm (qa0 t i).kind,qbm (qa0 t i).space,.str (qa0 t i).name,qal (qa0 t i).attrs,.str (qa0 t i).data]) (b:=[qbm (qa0 t i).up]) (b':=[.int .i64 u]) (c:=qbl (qa0 t i).kids::qa5 ((t.drop (i+1)).map qa6)) rfl;rw[jo,hl]at this;exact this
theorem qnu{b:Nat} {k:Blk}:∀{f:List (Nat × Blk)},getF b f=none->setF b k f=none
 |[],_=>rfl
 |x::r,h=>by
  unfold getF at h;unfold setF;cases hx:Nat.beq x.1 b with
  |true=>rw[hx]at h;cases h
  |false=>rw[hx]at h;simp only at h ⊢;rw[qnu h];rfl
theorem qqe{t:Tr} {i:Nat} (h:i < t.length) (u:Int):(qgy t i u).length=t.length:=by simp[qgy];omega
theorem za8{m n pb k:Nat} {pre post:List AV} {g f:List (Nat × Blk)} {t:Tr} (h:Eok m pb pre k 7 (t.map qa6) post g) {i:Nat} (hi:i < t.length) (u:Int) (hf:∀j,j < m->getF j f=none) :
  writeVar PG ⟨n,[f,VE pb pre k 7 (t.map qa6) post g]⟩ 3 (.ptr k (i * 7+5)) (.int .i64 u)=some ⟨n,[f,VE pb pre k 7 ((qgy t i u).map qa6) post g]⟩:=by
 have hne:t.map qa6≠[]:=by intro e;have:=congrArg List.length e;simp at this;subst this;simp at hi
 have hne':(qgy t i u).map qa6≠[]:=by simp[qgy]
 have hk:getF k f=none:=hf k h.lk.1;have hg:Heap.get ⟨n,[f,VE pb pre k 7 (t.map qa6) post g]⟩ k=some (.cells (qa5 (t.map qa6))):=by simp only[Heap.get,getFs];rw[hk,VE_k h hne]
 have hs:Heap.set ⟨n,[f,VE pb pre k 7 (t.map qa6) post g]⟩ k (.cells (qa5 ((qgy t i u).map qa6)))=some ⟨n,[f,VE pb pre k 7 ((qgy t i u).map qa6) post g]⟩:=by simp only[Heap.set,setFs];rw[qnu hk];unfold VE;rw[qci hne,qci hne',qch hne,qch hne'];simp[setF,h.k_p,qqe hi]
 unfold writeVar;simp[AV.cells,allSingle,AV.single,writeCells,hg,Blk.wt,lay_up hi u,Heap.ready,refs,hs,Blk.re]
theorem qqk{m n pb k:Nat} {pre post es:List AV} {g f:List (Nat × Blk)} (h:Eok m pb pre k 7 es post g) (hf:∀j,j < m->getF j f=none) :
  qb3 PG ⟨n,[f,VE pb pre k 7 es post g]⟩ 24 (.ptr pb pre.length)=some (.agg [qdo k 7 es])/\qb3 PG ⟨n,[f,VE pb pre k 7 es post g]⟩ 22 (.ptr pb pre.length)=some (qdo k 7 es):=by
 have hgv:Heap.get ⟨n,[f,VE pb pre k 7 es post g]⟩ pb=some (.cells (pre++qdo k 7 es::post)):=by simp only[Heap.get,getFs];rw[hf pb h.lp,VE_p]
 have gx:qcy (pre++qdo k 7 es::post) pre.length=some (qdo k 7 es):=by rw[qf4 (by simp),jv (by omega)];simp
 have sx:qek pre.length 1 (pre++qdo k 7 es::post)=some [qdo k 7 es]:=by simp[qek,qef]
 constructor
 ·simp[qb3,hgv,gx,sx,readCells,Blk.rd]
 ·simp[hgv,gx]
theorem c126(hP:qIn 154 T e154) (hS:qIn 124 T e124) {m pb k:Nat} {pre post:List AV} {g:List (Nat × Blk)} {t:Tr} (h:Eok m pb pre k 7 (t.map qa6) post g) {i:Nat} (hi:i < t.length) (h0:i≠0) (hu:(qa0 t (i:Int)).up = -1) :
  CA T 126 [.ptr pb pre.length,.int .i64 (i:Int)] ⟨m,[VE pb pre k 7 (t.map qa6) post g]⟩ (.tup []) ⟨m,[VE pb pre k 7 (t.map qa6) post g]⟩:=by
 have hne:t≠[]:=by intro e;subst e;simp at hi
 have hne':t.map qa6≠[]:=by simpa using hne
 have hb:isB t (i:Int)=true:=by simp[isB,hi]
 have nf:∀j,j < m->getF j ([]:List (Nat × Blk))=none:=fun _ _=>rfl;have rdT:=fun n=>(qqk (n:=n) h nf).1;have rdN:=fun n=>(qqk (n:=n) h nf).2;have hk:∀n,Heap.get ⟨n,[[],VE pb pre k 7 (t.map qa6) post g]⟩ k=some (.cells (qa5 (t.map qa6))):=fun n=>by simp only[Heap.get,getFs];rw[nf k h.lk.1,VE_k h hne']
 have kp:=fun n=>q154 hP (qjo hne (hk n)) hb hu;have ks:=fun n=>q124 hS (qjo hne (hk n)) (i:Int);rw[hb]at ks;have sU:qgy t i (-1)=t:=by
  have e:({ qa0 t i with up:=-1 }:Nd)=qa0 t i:=by rw[<- hu]
  unfold qgy;rw[e,<- qf1 hi]
 have hw:=fun n=>za8 (n:=n) h hi (-1) nf;rw[sU]at hw;have ix:qav PG 22 (qdo k 7 (t.map qa6)) (.int .i64 (i:Int))=some (.ptr k (i * 7)):=by rw[qch hne'];simp[qav,qbz hi]
 have hfit:=fit_W (H:=⟨m,[[],VE pb pre k 7 (t.map qa6) post g]⟩) h (jc m) hne' (qbk t) (by simp only[Heap.get,getFs];rw[nf pb h.lp,VE_p]) (hk m) (fun e he=>by have nd:=h.nd;rw[jr]at nd;have e1:pb≠e.1:=fun x=>nd.1 (ji.2 ⟨e,he,x.symm⟩);have e2:k≠e.1:=fun x=>h.lk.2 (by rw[x];exact jp _ (ji.2 ⟨e,he,rfl⟩));simp[Heap.get,getFs,VE,qci hne',getF,qaw e1,qaw e2,qse nd.2 he]);refine qa1 (s0:=⟨[0,1,4,5],[.ptr pb pre.length,.int .i64 (i:Int),uD,uD],[],54,⟨m,[]::[VE pb pre k 7 (t.map qa6) post g]⟩⟩) Tryz.func126 rfl rfl rfl ?_;apply qR;simp[zS,rdT,kp];apply qR;simp[zS];apply qag rfl;apply qa4;simp;apply qR;simp[zS,rdT,ks,h0];apply qaj rfl;apply qR;simp[zS,rdN,ix,hw];refine⟨_,rfl,_,_,?_,hfit⟩;simp[oneOr,qat,qaz]
theorem qjg(L:List Int):Elems 1 (L.map qbm):=.map (sz:=1) (f:=qbm) (by decide) (fun x=>⟨rfl,by simp[qbm,AV.cells,qa9,qab],fun _=>rfl,fun h=>absurd rfl h⟩) L
theorem qso:∀(L:List Int),allSingle (qa5 (L.map qbm))=true
 |[]=>rfl
 |a::r=>by simp only[jj,qa5,qd1,qso r];rfl
theorem c128(L:List Int) (hl:L.length<=1000000):CA T 128 [qbl L] zH (qdo 0 1 (L.map qbm)) ⟨1,[qe4 0 (L.map qbm)]⟩:=by
 have happ:=qvd (P:=PG) (elem:=3) (b:=0) (m:=1) (es:=L.map qbm) (g:=[]) (fs:=[]) szT3 byT3 zeT3 rfl (by omega) (by omega) (qjg _) (qso _) (by simp;omega);cases L with
 |nil=>
  refine qa1 (s0:=⟨[0,2],[.fslc 1 [],uD],[],8,⟨0,[[]]⟩⟩) Tryz.func128 rfl rfl rfl ?_;apply qR;simp[zS];refine qq0 (pre:=[]) ?_ ?_
  ·apply qR;simp[zS];apply qaj rfl;apply qR;simp[zS];apply qa3;simp[zQ,Tryz.f128];exact qkd (.inl rfl)
  ·apply qR;simp[zS];apply qag rfl;apply qa4;simp;have happ:qby PG ⟨1,[[(0,.cells [])]]⟩ 3 (.slc 0 0 0 (.ex 0)) .eslc=some (.slc 0 0 0 (.ex 0),⟨1,[[(0,.cells [])]]⟩):=rfl;apply qR;simp[zS,happ];apply qa3;simp[zQ,Tryz.f128];exact qkd (.inr (.inr ⟨_,rfl⟩))
 |cons x r=>
  have e1:litV 0 1 1 ((x::r).map qbm)=.slc 1 0 (r.length+1) (.rest 1):=by simp[litV]
  have e2:qy8 ⟨1,[[(0,.cells [])]]⟩ ((x::r).map qbm)=⟨2,[[(1,.cells (qa5 ((x::r).map qbm))),(0,.cells [])]]⟩:=rfl;rw[e1,e2]at happ;refine qa1 (s0:=⟨[0,2],[qbl (x::r),uD],[],8,⟨0,[[]]⟩⟩) Tryz.func128 rfl rfl rfl ?_;apply qR;simp[zS,qbl];apply qR;simp[zS,qbl];apply qag rfl;apply qa4;simp;simp only[jj]at happ;apply qR;simp[zS,happ];apply qa3;simp[zQ,Tryz.f128];exact qpw (b:=1) (es:=(x::r).map qbm) (qjg _) (by simp) (by simp) (by simp[zG])
def e128:Entry PG:=mkOwn 128 [[1]] (fun L:List Int=>[qbl L]) (fun L=>L.length<=1000000) 1 (fun L=>L.map qbm) qjg fun L hl=>c128 (T:=[]) L hl
theorem k128(hT:qIn 128 T e128) {L:List Int} (hl:L.length<=1000000) (H:Heap):qb7 (ctx T) (.fn 128) [qbl L] H=some (qdo H.n 1 (L.map qbm),qy8 H (L.map qbm)):=
 zbc hT (fun x y h=>by simp only[j4]at h;exact qrc h.1) L hl (by simp[qa9]) (by simp[qao]) H
theorem fit_ins{row row':List AV} {x:AV} (hp:qa9 row'=true) (hx:qab x=true) (he:row=row'):FitH 2 (idn 3) [] ⟨3,[[(2,.cells row)],[(1,.cells [x])]]⟩ ⟨3,[[(2,.cells row'),(1,.cells [x])]]⟩:=by
 subst he;refine⟨by simpa using qp0 3,qk5 3,by simp[Heap.ents],?_,?_,by show 2<=3;omega,?_,fun x h=>by cases h⟩
 ·intro y hy;obtain⟨i,hi,rfl⟩:=ji.1 hy;simpa using hi
 ·intro y hy hlt;obtain⟨i,hi,rfl⟩:=ji.1 hy;rfl
 ·intro e he;simp only[Heap.ents,je,js,jg,ja,jL,or_false]at he;rcases he with rfl|rfl
  ·exact⟨2,.cells row,qex (by omega),by simp[zG],by show qaz _ _ _ _;exact qaf hp⟩
  ·exact⟨1,.cells [x],qex (by omega),by simp[zG],by show qaz _ _ _ _;exact qaf (by simp[qa9,hx])⟩
theorem c127(L:List Int) (x:Int) (hl:L.length<=1000000) :
  CA T 127 [qdo 0 1 (L.map qbm),.int .i64 (L.length:Int),.slc 1 0 1 (.ex 1)] ⟨2,[qe4 0 (L.map qbm)++[(1,.cells [.int .i64 x])]]⟩ (.slc 2 0 (L.length+1) (.rest 1)) ⟨3,[[(2,.cells (qa5 ((L++[x]).map qbm))),(1,.cells [.int .i64 x])]]⟩:=by
 have happ:=qie (P:=PG) (H:=⟨2,[[],qe4 0 (L.map qbm)++[(1,.cells [.int .i64 x])]]⟩) (elem:=3) (b:=0) (n:=0) (es:=L.map qbm) (x:=.slc 1 0 1 (.ex 1)) (cs:=[.int .i64 x]) szT3 byT3 zeT3 rfl (by omega) (by omega) rfl
  (by cases L<;>simp[qbb,readCells,zG,qe4,qek,qef,Blk.rd]) rfl rfl (qjg L) (by simp;omega)
  (fun h=>by cases L with
   |nil=>exact absurd rfl h
   |cons y r=>simp[zG,qe4])
  (fun h=>by cases L with
   |nil=>rfl
   |cons y r=>cases h) (fun _=>rfl)
 have er:qa5 ((L++[x]).map qbm)=qa5 (L.map qbm)++[.int .i64 x]:=by rw[j3,qbq];simp[qa5,qbm,AV.cells]
 have hp:qa9 (qa5 ((L++[x]).map qbm))=true:=(qjg _).pure;rw[er]at hp ⊢;have hfit:=fit_ins (x:=.int .i64 x) hp rfl rfl;generalize hR:qa5 (L.map qbm)++[AV.int .i64 x]=R at *;cases L with
 |nil=>replace happ:qby PG ⟨2,[[],[(1,.cells [.int .i64 x])]]⟩ 3 .zslc (.slc 1 0 1 (.ex 1))=some (.slc 2 0 1 (.rest 1),⟨3,[[(2,.cells R)],[(1,.cells [.int .i64 x])]]⟩):=happ;refine qa1 (s0:=⟨[0,1,2,6,7,8,9],[.zslc,.int .i64 0,.slc 1 0 1 (.ex 1),uD,uD,uD,uD],[],95,⟨2,[]::[[(1,.cells [.int .i64 x])]]⟩⟩) Tryz.func127 rfl rfl rfl ?_;have s0:∀H,qee PG H 30 .zslc (some (.int .i64 0)) none none=some .zslc:=fun _=>rfl;have l0:∀H,qer PG H 30 .zslc=some 0:=fun _=>rfl;have l1:∀H,qer PG H 30 (.slc 1 0 1 (.ex 1))=some 1:=fun _=>rfl;apply qR;simp[zS];apply qR;simp[zS,s0];apply qR;simp[zS,l1];apply qR;simp[zS];apply qag rfl;apply qa4;simp;apply qR;simp[zS,l0];apply qR;simp[zS];apply qaj rfl;apply qR;simp[zS,happ];apply qa3;simp[zQ,Tryz.f127];refine⟨_,_,?_,hfit⟩;simp[qat,qd4 (show 2 < 3 by omega)]
 |cons y r=>
  have hlen:(qa5 ((y::r).map qbm)).length=r.length+1:=by rw[(qjg _).len];simp
  have hlen':(qa5 (qbm y::r.map qbm)).length=r.length+1:=hlen;have happ':qby PG ⟨2,[[],[(0,.cells (qa5 (qbm y::r.map qbm))),(1,.cells [.int .i64 x])]]⟩ 3 (.slc 0 0 (r.length+1) (.rest 1)) (.slc 1 0 1 (.ex 1))=some (.slc 2 0 (r.length+1+1) (.rest 1),⟨3,[[(2,.cells R)],[(1,.cells [.int .i64 x])]]⟩):=by have e:qdo 0 1 ((y::r).map qbm)=.slc 0 0 (r.length+1) (.rest 1):=(by simp[qdo]);rw[e]at happ;simpa[qe4,Heap.drop,qem,killF,getF,Heap.new,pushF]using happ
  obtain⟨v,hv⟩ : ∃v,qee PG ⟨2,[[],[(0,.cells (qa5 (qbm y::r.map qbm))),(1,.cells [.int .i64 x])]]⟩ 30 (.slc 0 0 (r.length+1) (.rest 1)) (some (.int .i64 ((r.length:Int)+1))) none none=some v:=by have ix:=qbz (show r.length+1 < Nat.succ (r.length+1) by omega);rw[Int.natCast_add]at ix;simp only[Int.natCast_one]at ix;have bl:Nat.ble (r.length+1) (r.length+1)=true:=(by rw[jN];exact jc _);simp[qee,zdn,qkv,qck,zG,Blk.rd,hlen',qdd,ix,bl]
  have l0:∀H,qer PG H 30 (.slc 0 0 (r.length+1) (.rest 1))=some (r.length+1):=fun _=>rfl;have l1:∀H,qer PG H 30 (.slc 1 0 1 (.ex 1))=some 1:=fun _=>rfl;have eV:qdo 0 1 ((y::r).map qbm)=.slc 0 0 (r.length+1) (.rest 1):=by simp[qdo]
  have eL:((y::r).length:Int)=(r.length:Int)+1:=by simp
  rw[eV,eL];refine qa1 (s0:=⟨[0,1,2,6,7,8,9],[.slc 0 0 (r.length+1) (.rest 1),.int .i64 ((r.length:Int)+1),.slc 1 0 1 (.ex 1),uD,uD,uD,uD],[],95,⟨2,[]::[[(0,.cells (qa5 (qbm y::r.map qbm))),(1,.cells [.int .i64 x])]]⟩⟩) Tryz.func127 rfl rfl rfl ?_;apply qR;simp[zS];apply qR;simp[zS,hv];apply qR;simp[zS,l1];apply qR;simp[zS];apply qag rfl;apply qa4;simp;apply qR;simp[zS,l0];apply qR;simp[zS];apply qaj rfl;apply qR;simp[zS,happ'];apply qa3;simp[zQ,Tryz.f127];refine⟨_,_,?_,hfit⟩;simp[qat,qd4 (show 2 < 3 by omega)]
mutual
theorem zi6{σ:List (Nat × Nat)} {Φ:List (Nat × List AV)}:∀(a b:AV),qat σ [] a b->qat σ Φ a b
 |.undef,b,h=>by cases b<;>simp_all [qat,qca]
 |.bool _,b,h=>by cases b<;>simp_all [qat,qca]
 |.int _ _,b,h=>by cases b<;>simp_all [qat,qca]
 |.float _ _,b,h=>by cases b<;>simp_all [qat,qca]
 |.cplx _ _ _,b,h=>by cases b<;>simp_all [qat,qca]
 |.str _,b,h=>by cases b<;>simp_all [qat,qca]
 |.nilP,b,h=>by cases b<;>simp_all [qat,qca]
 |.ptr _ _,b,h=>by cases b<;>simp_all [qat,qca]
 |.fptr _ _,b,h=>by cases b<;>simp_all [qat,qca]
 |.nilS,b,h=>by cases b<;>simp_all [qat,qca]
 |.eslc,b,h=>by cases b<;>simp_all [qat,qca]
 |.zslc,b,h=>by cases b<;>simp_all [qat,qca]
 |.slc _ _ _ _,b,h=>by cases b<;>simp_all [qat,qca]
 |.fslc _ _,b,h=>by cases b<;>simp_all [qat,qca]
 |.xslc _ _,b,h=>by cases b<;>simp_all [qat,qca]
 |.nilM,b,h=>by cases b<;>simp_all [qat,qca]
 |.map _,b,h=>by cases b<;>simp_all [qat,qca]
 |.nilF,b,h=>by cases b<;>simp_all [qat,qca]
 |.nilI,b,h=>by cases b<;>simp_all [qat,qca]
 |.iface _ _,b,h=>by cases b<;>simp_all [qat,qca]
 |.yld _,b,h=>by cases b<;>simp_all [qat,qca]
 |.zptr _ _,b,h=>by cases b<;>simp_all [qat,qca]
 |.val _,b,h=>by cases b<;>simp_all [qat,qca]
 |.agg xs,b,h=>by
  cases b with
  |agg ys=>simp only[qat]at h ⊢;exact h.imp (qec xs ys) id
  |undef=>simp[qat]
  |_=>simp[qat]at h
 |.tup xs,b,h=>by
  cases b with
  |tup ys=>simp only[qat]at h ⊢;exact h.imp (qec xs ys) id
  |undef=>simp[qat]
  |_=>simp[qat]at h
 |.func f x y,b,h=>by
  cases b with
  |func f' x' y'=>simp only[qat]at h ⊢;exact h.imp (fun⟨h1,h2,h3⟩=>⟨h1,qec x x' h2,qec y y' h3⟩) id
  |undef=>simp[qat]
  |_=>simp[qat]at h
theorem qec{σ:List (Nat × Nat)} {Φ:List (Nat × List AV)}:∀(a b:List AV),qaz σ [] a b->qaz σ Φ a b
 |[],b,h=>by simpa[qaz]using h
 |x::r,[],h=>by simp[qaz]at h
 |x::r,y::s,h=>by simp only[qaz]at h ⊢;exact⟨zi6 x y h.1,qec r s h.2⟩
end
theorem zi8{σ:List (Nat × Nat)} {Φ:List (Nat × List AV)} {k k':Blk} (h:qhp σ [] k k'):qhp σ Φ k k':=by
 cases k<;>cases k'<;>simp only[qhp]at h ⊢
 ·exact qec _ _ h
 ·exact⟨qec _ _ h.1,qec _ _ h.2⟩
 ·exact⟨h.1,qec _ _ h.2⟩
 ·exact⟨h.1,h.2.1,h.2.2.1,qec _ _ h.2.2.2⟩
 ·exact h
 ·exact h
 ·obtain⟨h1,h2,h3,h4,h5⟩:=h;exact⟨h1,h2,h3,qec _ _ h4,h5⟩
theorem fit_K{m m' pb k sz c:Nat} {pre post es es' cs0 K:List AV} {g:List (Nat × Blk)} {H:Heap} (h:Eok m pb pre k sz es post g) (hm:m<=m') (hc:m<=c) (hne:es'≠[]) (hp:H.get pb=some (.cells (pre++qdo k sz es'::post)))
  (hcs:∀σ,qaz σ [(c,K)] cs0 (qa5 es')) (hk:H.get k=some (.cells cs0)) (hK:H.get c=some (.cells K)) (pK:qa9 K=true)
  (hg:∀e,e∈g->H.get e.1=some e.2):FitH m (idn m) [(c,K)] H ⟨m',[[],VE pb pre k sz es' post g]⟩:=by
 have idl:=qm3 m;have nd:=h.nd;have hkk:=h.lk.2;simp only[ja,not_or]at hkk;rw[jr]at nd;refine⟨?_,qk5 m,?_,?_,?_,hm,?_,?_⟩
 ·have e1:(idn m).map (·.1)=List.range m:=by simp[idn,yo]
  rw[e1,yb];refine⟨List.nodup_range,by simp,fun a ha b hb=>?_⟩;simp only[jj,ye,ju]at hb;have:a < m:=by simpa using ha
  omega
 ·simp only[Heap.ents,je,js,jg,jq,VE,qci hne,jj,j3,ye,List.cons_append,jr,ja,not_or];exact⟨⟨fun e=>hkk.1 e.symm,nd.1⟩,hkk.2,nd.2⟩
 ·intro x hx;obtain⟨i,hi,rfl⟩:=ji.1 hx;have:i < m:=by simpa using hi
  show i < m';omega
 ·intro x hx hlt;obtain⟨i,hi,rfl⟩:=ji.1 hx;rfl
 ·intro e he;simp only[Heap.ents,je,js,jg,jq,VE,qci hne,List.cons_append,ja]at he;rcases he with rfl|rfl|he
  ·refine⟨pb,_,qex h.lp,hp,?_⟩;show qaz _ _ _ _;rw[qch hne];refine qdv (qec _ _ (h.sp _ idl)) ?_;simp only[qaz];exact⟨by simp[qat,qd4 h.lk.1],qec _ _ (h.sq _ idl)⟩
  ·exact⟨k,.cells cs0,qex h.lk.1,hk,hcs _⟩
  ·exact⟨e.1,e.2,qex (h.lg e he),hg e he,zi8 (h.sg e he _ idl)⟩
 ·intro x hx;simp only[ju]at hx;subst hx;exact⟨K,hK,qaf pK,pK⟩
def qcr(t:Tr) (i:Nat) (K:List Int):Tr:=t.take i++{ qa0 t i with kids:=K }::t.drop (i+1)
theorem qdq{t:Tr} {i:Nat} (h:i < t.length) (K:List Int):(qcr t i K).length=t.length:=by simp[qcr];omega
def qje(t:Tr) (i:Nat) (v:AV):List AV:=(qa5 ((t.take i).map qa6)++[qbm (qa0 t i).kind,qbm (qa0 t i).space,.str (qa0 t i).name,qal (qa0 t i).attrs,.str (qa0 t i).data,qbm (qa0 t i).up])++[v]++qa5 ((t.drop (i+1)).map qa6)
theorem lay_kids{t:Tr} {i:Nat} (h:i < t.length) (v:AV):qho [v] (i * 7+6) (qa5 (t.map qa6))=some (qje t i v):=by
 have hl:(qa5 ((t.take i).map qa6)).length=i * 7:=by rw[(qbk _).len];simp;omega
 have e1:qa5 (t.map qa6)=qje t i (qbl (qa0 t i).kids):=by
  conv=>lhs;rw[qf1 h]
  simp[qbq,qa5,Nd.cs,qje]
 rw[e1];have:=qh3 (a:=qa5 ((t.take i).map qa6)++[qbm (qa0 t i).kind,qbm (qa0 t i).space,.str (qa0 t i).name,qal (qa0 t i).attrs,.str (qa0 t i).data,qbm (qa0 t i).up]) (b:=[qbl (qa0 t i).kids]) (b':=[v]) (c:=qa5 ((t.drop (i+1)).map qa6)) rfl;rw[jo,hl]at this;exact this
theorem qpt:∀(K:List Int),qa5 (K.map qbm)=K.map qbm
 |[]=>rfl
 |x::r=>by simp only[jj,qa5,qpt r,ze3,List.cons_append,jq]
theorem fit_kids{t:Tr} {i c:Nat} {K:List Int} (σ:List (Nat × Nat)):qaz σ [(c,K.map qbm)] (qje t i (.slc c 0 K.length (.rest 1))) (qa5 ((qcr t i K).map qa6)):=by
 have e2:qa5 ((qcr t i K).map qa6)=qje t i (qbl K):=by simp[qcr,qbq,qa5,Nd.cs,qbm,qje]
 have ef:qa5 (K.map qbm)=K.map qbm:=qpt K;rw[e2];unfold qje;refine qdv (qdv ?_ ?_) (qaf (qbk _).pure)
 ·exact qdv (qaf (qbk _).pure) (qaf (by simp[qa9,qab,qbm]))
 ·have hs:qek 0 (K.length * 1) (K.map qbm)=some (qa5 (K.map qbm)):=by
   have:=qq9 (qjg K) (jc _);rw[jz (jc _),jJ]at this
   rwa [ef]at this ⊢
  simp only[qaz,and_true];simp only[qat];exact .inl ⟨K.map qbm,by simp[qca],hs,by simp,(qjg K).size⟩
section
variable {m n pb k sz:Nat} {pre post es:List AV} {g f:List (Nat × Blk)}
theorem VE_nd(h:Eok m pb pre k sz es post g):((VE pb pre k sz es post g).map (·.1)).Nodup:=by
 have nd:=h.nd;rw[jr]at nd;have hk:=h.lk.2;simp only[ja,not_or]at hk;unfold VE;cases es with
 |nil=>simpa[qe4]using nd
 |cons x r=>simp only[qe4,jj,List.cons_append,jq,jr,ja,not_or];exact⟨⟨fun e=>hk.1 e.symm,nd.1⟩,hk.2,nd.2⟩
theorem VE_all(h:Eok m pb pre k sz es post g):∀e,e∈VE pb pre k sz es post g->e.1 < m/\SelfB m e.2:=by
 intro e he;unfold VE at he;rw[ja,jl]at he;rcases he with rfl|he|he
 ·refine⟨h.lp,fun σ hσ=>?_⟩;show qaz _ _ _ _;refine qdv (h.sp σ hσ) ?_;simp only[qaz];refine⟨?_,h.sq σ hσ⟩;cases es with
  |nil=>simp[qdo,qat]
  |cons x r=>rw[qch (by simp)];simp[qat,hσ k h.lk.1]
 ·cases es with
  |nil=>cases he
  |cons x r=>simp only[qe4,ju]at he;subst he;exact⟨h.lk.1,qmo h.el.pure⟩
 ·exact⟨h.lg e he,h.sg e he⟩
theorem fit_any{N:Nat} {H H':Heap} (hN:N<=m) (nd:(H'.ents.map (·.1)).Nodup) (ha:∀e,e∈H'.ents->e.1 < m/\SelfB m e.2/\H.get e.1=some e.2) (hn:m<=H'.n):FitH N (idn m) [] H H' where
 nd1:=by simpa using qp0 m
 nd2:=qk5 m
 nd3:=nd
 lt:=fun x hx=>by
  obtain⟨i,hi,rfl⟩:=ji.1 hx;have:i < m:=by simpa using hi
  show i < H'.n;omega
 idn:=fun x hx hlt=>by obtain⟨i,hi,rfl⟩:=ji.1 hx;rfl
 num:=jK hN hn
 src:=fun e he=>by obtain⟨h1,h2,h3⟩:=ha e he;exact⟨e.1,e.2,qex h1,h3,h2 _ (qm3 m)⟩
 frz:=fun x h=>by cases h
theorem zi5{N m':Nat} (h:Eok m pb pre k sz es post g) (hN:N<=m) (hm:m<=m') (hf:∀i,i < m->getF i f=none):FitH N (idn m) [] ⟨n,[f,VE pb pre k sz es post g]⟩ ⟨m',[[],VE pb pre k sz es post g]⟩:=by refine fit_any hN (by simpa[Heap.ents]using VE_nd h) (fun e he=>?_) hm;simp only[Heap.ents,je,js,jg,jq]at he;obtain⟨h1,h2⟩:=VE_all h e he;refine⟨h1,h2,?_⟩;simp only[Heap.get,getFs];rw[hf _ h1,qse (VE_nd h) he]
structure FactR (C:Ctx) where
 b:Nat
 args:List AV
 H:Heap
 v:AV
 H':Heap
 ok:qjb C b args H v H'
open Classical in
def qzp {C:Ctx}:List (FactR C)->qcj->qcj
 |[],call,c,args,H=>call c args H
 |x::r,call,c,args,H=>if c=.yl x.b/\args=x.args/\H=x.H then some (x.v,x.H') else qzp r call c args H
theorem qv6{C:Ctx} {call:qcj} (hc:CallOK C call):∀(l:List (FactR C)),CallOK C (qzp l call)
 |[]=>hc
 |x::r=>{
  fn:=fun f args H v H' h=>by
   unfold qzp at h;split at h
   next hx=>cases hx.1
   ·exact(qv6 hc r).fn f args H v H' h
  yl:=fun b args H v H' h=>by
   unfold qzp at h;split at h
   next hx=>obtain⟨hf,rfl,rfl⟩:=hx;simp only[sj,jf]at h;obtain⟨rfl,rfl⟩:=h;cases hf;exact x.ok
   ·exact(qv6 hc r).yl b args H v H' h }
theorem zj7(l:List (FactR (ctx T))):CallOK (ctx T) (qzp l (qb7 (ctx T))):=qv6 qbc l
theorem qxx{C:Ctx} {b:Nat} {args:List AV} {H H':Heap} {v:AV} {ok:qjb C b args H v H'} {r:List (FactR C)} {call:qcj}:qzp (⟨b,args,H,v,H',ok⟩::r) call (.yl b) args H=some (v,H'):=by simp[qzp]
section
variable {C:Ctx} {call:qcj} {ops:Array Oper} {H0:Heap} {s:St} {o:Oper} {l:List Oper} {P:St->Prop}
theorem qri{b:Bool} (h1:b=true->∃s',zcp C call ops H0 (qsd C call s o (some true)) l=some s'/\P s') (h2:b=false->∃s',zcp C call ops H0 (qsd C call s o (some false)) l=some s'/\P s') :
  ∃s',zcp C call ops H0 (qsd C call s o (some b)) l=some s'/\P s':=by
 cases b with
 |true=>exact h1 rfl
 |false=>exact h2 rfl
end
theorem qo7{b k:Nat} {x:Blk} (h:k≠b):getF b [(k,x)]=none:=by unfold getF;rw[qaw h];rfl
structure FactP (C:Ctx) where
 f:FuncId
 args:List AV
 v:AV
 pure:qa9 args=true
 ok:CallAt C f args zH v zH
open Classical in
def qpe {C:Ctx}:List (FactP C)->qcj->qcj
 |[],call,c,args,H=>call c args H
 |x::r,call,c,args,H=>if c=.fn x.f/\args=x.args then some (x.v,H) else qpe r call c args H
theorem qv7{C:Ctx} {call:qcj} (hc:CallOK C call):∀(l:List (FactP C)),CallOK C (qpe l call)
 |[]=>hc
 |x::r=>{
  fn:=fun f args H v H' h=>by
   unfold qpe at h;split at h
   next hx=>obtain⟨hf,rfl⟩:=hx;simp only[sj,jf]at h;obtain⟨rfl,rfl⟩:=h;cases hf;exact x.ok.lift x.pure _
   ·exact(qv7 hc r).fn f args H v H' h
  yl:=fun b args H v H' h=>by
   unfold qpe at h;split at h
   next hx=>cases hx.1
   ·exact(qv7 hc r).yl b args H v H' h }
theorem qj4(l:List (FactP (ctx T))):CallOK (ctx T) (qpe l (qb7 (ctx T))):=qv7 qbc l
theorem qhj{C:Ctx} {f:FuncId} {args:List AV} {H:Heap} {v:AV} {hp:qa9 args=true} {ok:CallAt C f args zH v zH} {r:List (FactP C)} {call:qcj}:qpe (⟨f,args,v,hp,ok⟩::r) call (.fn f) args H=some (v,H):=by simp[qpe]
def rgIn:Code->Option (Code × Code)
 |.rangeFunc _ _ a b=>some (a,b)
 |.seq a b=>match rgIn a with
  |some x=>some x
  |none=>rgIn b
 |.block _ b=>rgIn b
 |.loop b=>rgIn b
 |.cond _ a b=>match rgIn a with
  |some x=>some x
  |none=>rgIn b
 |_=>none
def rgA(o:Option Code):Code:=match o.bind rgIn with
 |some x=>x.1
 |none=>.skip
def rgB(o:Option Code):Code:=match o.bind rgIn with
 |some x=>x.2
 |none=>.skip
def rowsB(b:Nat) (R:List (Nat × Blk)):Prop:=(R.map (·.1)).Nodup/\∀e,e∈R->e.1 < b/\∃cs,e.2=.cells cs/\qa9 cs=true
structure RgK where
 ks:List Nat
 vs:List AV
 sz:Nat
 ps:List Nat
 as':Code
 bd:Code
def RgK.blk(K:RgK) (st:LoopState) (pend:Option Code) (ts:List (Nat × AV)):Blk:=.loop st pend K.ks K.vs ts K.sz K.ps K.as' K.bd
def RgK.rows{ρ:Type} (K:RgK) (b:Nat) (R:Option ρ->List (Nat × Blk)):Option ρ->List (Nat × Blk)
 |none=>(b,K.blk .ready none [])::R none
 |some r=>(b,K.blk .done (some .ret) [])::R (some r)
structure RgK.Ok {ρ:Type} (K:RgK) (b:Nat) (R:Option ρ->List (Nat × Blk)):Prop where
 vs:∀σ,Idl b σ->qaz σ [] K.vs K.vs
 rows:∀c,rowsB b (R c)
section
variable {ρ:Type} {K:RgK} {b:Nat} {R:Option ρ->List (Nat × Blk)}
theorem RgK.Ok.self(h:K.Ok b R) (st:LoopState) (pend:Option Code) (ts:List (Nat × AV)):∀σ,Idl (b+1) σ->qhp σ [] (K.blk st pend ts) (K.blk st pend []):=fun σ hσ=>
 ⟨rfl,rfl,rfl,h.vs σ fun i hi=>hσ i (by omega),rfl,rfl,rfl,rfl,rfl⟩
theorem RgK.Ok.fit(h:K.Ok b R) {N m:Nat} {st:LoopState} {pend:Option Code} {ts:List (Nat × AV)} {c:Option ρ} {H:Heap} (hN:N<=b+1) (hm:b+1<=m) (hb:H.get b=some (K.blk st pend ts)) (hr:∀e,e∈R c->H.get e.1=some e.2)
  {fs:List (List (Nat × Blk))} (hfs:fs.flatten=(b,K.blk st pend [])::R c):FitH N (idn (b+1)) [] H ⟨m,fs⟩ where
 nd1:=by simpa using qp0 (b+1)
 nd2:=qk5 (b+1)
 nd3:=by simp only[Heap.ents,hfs,jj,jr];refine⟨fun hx=>?_,(h.rows c).1⟩;obtain⟨e,he,hx⟩:=ji.1 hx;have:=((h.rows c).2 e he).1;omega
 lt:=fun x hx=>by
  obtain⟨i,hi,rfl⟩:=ji.1 hx;have:i < b+1:=by simpa using hi
  show i < m;omega
 idn:=fun x hx hlt=>by obtain⟨i,hi,rfl⟩:=ji.1 hx;rfl
 num:=by show N<=m;omega
 src:=fun e he=>by
  simp only[Heap.ents,hfs,ja]at he;rcases he with rfl|he
  ·exact⟨b,_,qex (jX b),hb,h.self _ _ _ _ (qm3 (b+1))⟩
  ·obtain⟨h1,cs,h2,h3⟩:=(h.rows c).2 e he;refine⟨e.1,e.2,qex (by omega),hr e he,?_⟩;rw[h2];exact qaf h3
 frz:=fun x h=>by cases h
def qvg(go:Nat->Option ρ):Nat->Option ρ
 |0=>none
 |j+1=>match go j with
  |some r=>some r
  |none=>qvg go j
def zb4:Option ρ->Out
 |none=>.normal
 |some _=>.ret
theorem round_K(h:K.Ok b R) {args:List AV} {g:Option ρ} {s1:St} (hp:qw8 ⟨K.ks,K.vs,[],K.sz,⟨b+1,[[],[],(b,K.blk .ready none [])::R none]⟩⟩ K.ps args=some s1)
  (hw:∀l,WpSr (ctx T) (b+1) (some l) K.as' s1 fun x s=>x=.normal/\∃m f,s.H=⟨m,[f,[],(b,K.blk .ready none [])::R none]⟩/\getF b f=none /\
   ∀B,B=K.blk .busy none []->WpSr (ctx T) (b+1) (some l) K.bd { s with H:=⟨m,[f,[],(b,B)::R none]⟩ } fun x s'=>∃m' f',(∀i,i < b+1->getF i f'=none)/\s'.H=⟨m',[f',[],(b,B)::R g]⟩/\x=zb4 g) :
  qjb (ctx T) b args ⟨b+1,[[],(b,K.blk .ready none [])::R none]⟩ (.bool g.isNone) ⟨b+1,[[],K.rows b R g]⟩:=by
 refine qvj (pend:=none) (ks:=K.ks) (vs:=K.vs) (ts:=[]) (sz:=K.sz) (ps:=K.ps) (assign:=K.as') (body:=K.bd) (by simp[zG,RgK.blk]) hp fun l=>?_;refine(hw l).mono fun x s hs=>?_;obtain⟨rfl,m,f,hH,hf,hb⟩:=hs;refine⟨rfl,none,K.ks,K.vs,[],K.sz,K.ps,K.as',K.bd,⟨m,[f,[],(b,K.blk .busy none [])::R none]⟩,?_,?_,(hb _ rfl).mono fun x s' hs'=>?_⟩
 ·rw[hH];simp[zG,hf,RgK.blk]
 ·rw[hH];have hn:setF b (K.blk .busy none []) f=none:=qnu hf;unfold RgK.blk at hn;simp[Heap.set,setFs,setF,hn,RgK.blk]
 ·obtain⟨m',f',hf',hH',rfl⟩:=hs';have hfb:=hf' b (jX b);have hn:∀k,setF b k f'=none:=fun k=>qnu hfb;refine⟨.busy,none,K.ks,K.vs,[],K.sz,K.ps,K.as',K.bd,⟨m',[f',[],(b,K.blk (qih (zb4 g)).2.1 (qih (zb4 g)).2.2 [])::R g]⟩,?_,?_,?_,idn (b+1),[],?_⟩
  ·rw[hH'];simp[zG,hfb,RgK.blk]
  ·rw[hH'];simp[Heap.set,setFs,setF,hn,RgK.blk]
  ·cases g<;>rfl
  ·have hg:∀e,e∈R g->Heap.get ⟨m',[f',[],(b,K.blk (qih (zb4 g)).2.1 (qih (zb4 g)).2.2 [])::R g]⟩ e.1=some e.2:=fun e he=>(by have h1:=((h.rows g).2 e he).1;have h2:Nat.beq b e.1=false:=qaw (by omega);simp only[Heap.get,getFs,hf' e.1 (by omega),getF,h2];rw[qse (h.rows g).1 he]);refine h.fit (c:=g) (st:=(qih (zb4 g)).2.1) (pend:=(qih (zb4 g)).2.2) (ts:=[]) (jc _) (jc _) (by simp[zG,hfb]) hg ?_;cases g<;>simp[RgK.rows,zb4,qih]
end
def zjh(L:List Nd):AV:=.func (.func 199) [] [.fptr [qa8 L] 0]
theorem zfy(L:List Nd):qab (zjh L)=true:=by simp[zjh,qab,qa9]
theorem c193(L:List Nd):CA T 193 [qa8 L] zH (zjh L) zH:=by refine qa1 (s0:=⟨[0,1,2],[qa8 L,uD,uD],[],4,⟨0,[[]]⟩⟩) Tryz.func193 rfl rfl rfl ?_;apply qR;simp[zS];apply qR;simp[zS];apply qa3;simp[zQ,Tryz.f193];refine⟨[],[(0,[qa8 L])],by simp[zjh,qat,qaz,qca],.froze (by simp) fun x hx=>?_⟩;rw[ju]at hx;subst hx;exact⟨[qa8 L],by simp[zG],qaf (by simp[qa9]),by simp[qa9]⟩
def e193:Entry PG:=mkE 193 [[7]] (fun L:List Nd=>[qa8 L]) (fun _=>True) zjh fun L _=>c193 (T:=[]) L
theorem k193(hT:qIn 193 T e193) (L:List Nd) (H:Heap):qb7 (ctx T) (.fn 193) [qa8 L] H=some (zjh L,H):=
 qd2 hT (fun x y h=>by simp only[j4,and_true]at h;exact qcl h) L trivial (by simp[qa9]) (by simp[qga]) H
section
variable {ρ:Type} {K:RgK} {b:Nat} {R:Option ρ->List (Nat × Blk)}
theorem ze8(h:K.Ok b R) (L:List Nd) (hl:L.length<=1000000) (go:Nat->Option ρ) (hy:∀j (hj:j < L.length),qjb (ctx T) b [.int .i64 (j:Int),qa6 L[j]] ⟨b+1,[[],(b,K.blk .ready none [])::R none]⟩ (.bool (go j).isNone) ⟨b+1,[[],K.rows b R (go j)]⟩) :
  CA T 199 [.yld b,.fptr [qa8 L] 0] ⟨b+1,[(b,K.blk .ready none [])::R none]⟩ (.tup []) ⟨b+1,[K.rows b R (qvg go L.length)]⟩:=by
 obtain⟨w,hw⟩ : ∃w:Int,w=(L.length:Int) - 1:=⟨_,rfl⟩;have hws:wr .i64 ((L.length:Int) - 1)=some w:=by rw[hw];exact qdi (by omega) (by omega)
 have lb:qb2 b (idn (b+1))=some b:=qd4 (jX b);have gb:∀{c:Option ρ} {n:Nat},∀e,e∈R c->Heap.get ⟨n,[[],K.rows b R c]⟩ e.1=some e.2:=fun {c n} e he=>by
  have h1:=((h.rows c).2 e he).1;have h2:Nat.beq b e.1=false:=qaw (by omega);cases c with
  |none=>simp only[zG,RgK.rows,h2];rw[qse (h.rows _).1 he]
  |some r=>simp only[zG,RgK.rows,h2];rw[qse (h.rows _).1 he]
 have lnL:∀H,qer PG H 22 (qa8 L)=some L.length:=fun H=>qhn;refine qa1 (s0:=⟨[0,1,3],[.yld b,.fptr [qa8 L] 0,uD],[],19,⟨b+1,[]::[(b,K.blk .ready none [])::R none]⟩⟩) Tryz.func199 rfl rfl rfl ?_;apply qR;simp[zS,lnL,hws];refine qa7 (qb1 (fun x:Nat × Int=>(⟨[0,1,3],[.yld b,.fptr [qa8 L] 0,.int .i64 x.2],[],19,⟨b+1,[[],(b,K.blk .ready none [])::R none]⟩⟩ : St))
  (fun x=>x.1<=L.length/\x.2=(x.1:Int) - 1/\qvg go L.length=qvg go x.1) (fun x=>x.1) (idn (b+1)) [] (L.length,w) ⟨jc _,hw,rfl⟩
  ⟨rfl,rfl,rfl,by simp[qaz,qat,qab,qa9,lb],h.fit (c:=none) (st:=.ready) (pend:=none) (ts:=[]) (jc _) (jc _) (by simp[zG,RgK.rows]) (gb (c:=none)) (by simp)⟩ ?_)
 rintro⟨j,v⟩ ⟨hj,hv,hx⟩ B hB;simp only at hj hv hx;cases j with
 |zero=>
  have hn:¬ 0<=v:=by omega
  apply qR;simp[zS,hn];apply qag rfl;apply qau;simp;refine⟨[],rfl,idn (b+1),[],by simp[oneOr,qat,qaz],?_⟩;rw[hx];exact h.fit (c:=none) (st:=.ready) (pend:=none) (ts:=[]) (jc _) (jc _) (by simp[zG,RgK.rows]) (gb (c:=none)) (by simp[qvg,RgK.rows])
 |succ q=>
  have hvq:v=(q:Int):=by omega
  subst hvq;have hq:q < L.length:=by omega
  have hyq:=hy q hq;have hix:qav PG 22 (qa8 L) (.int .i64 (q:Int))=some (.fptr (L[q]).cs 0):=by rw[atX (by omega) (by omega),qba hq]
  have hn:(0:Int)<=(q:Int):=by omega
  have hs1:wr .i64 ((q:Int) - 1)=some ((q:Int) - 1):=qdi (by omega) (by omega);simp only[qvg]at hx;generalize L[q]=x at *;apply qR;simp[zS,hn];apply qaj rfl;apply qa4;simp;repeat apply wq
  apply qa7;obtain⟨g,hg⟩ : ∃g,go q=g:=⟨_,rfl⟩;rw[hg]at hx hyq;cases g with
  |some r=>
   simp only[Option.isNone_some]at hyq;repeat apply wq
   refine qai (zj7 [⟨b,_,_,_,_,hyq⟩]) ?_;simp[zS,hix,qaq,qxx];apply qaj rfl;apply qa3;simp;refine⟨[],rfl,idn (b+1),[],by simp[oneOr,qat,qaz],?_⟩;rw[hx];exact h.fit (c:=some r) (st:=.done) (pend:=some .ret) (ts:=[]) (jc _) (jc _) (by simp[zG,RgK.rows]) (gb (c:=some r)) (by simp[RgK.rows])
  |none=>
   simp only[Option.isNone_none]at hyq;repeat apply wq
   refine qai (zj7 [⟨b,_,_,_,_,hyq⟩]) ?_;simp[zS,hix,qaq,qxx];apply qag rfl;apply qa4;simp;apply qR;simp[zS,hs1];exact hB _ (q,(q:Int) - 1) (by simp) ⟨by simp only;omega,rfl,hx⟩ ⟨idn (b+1),[],rfl,rfl,rfl,by simp[qaz,qat,qab,qa9,lb],h.fit (c:=none) (st:=.ready) (pend:=none) (ts:=[]) (jc _) (jc _) (by simp[zG,RgK.rows]) (gb (c:=none)) (by simp)⟩
theorem za0(h:K.Ok b R) (L:List Nd) {ts:List (Nat × AV)} {g:Operand} {ps:Array Nat} (hps:ps.toList=K.ps) (ho:qc0 ⟨K.ks,K.vs,ts,K.sz,⟨b,[R none]⟩⟩ g=some (zjh L)) {r:Option ρ} {call:qcj}
  (hc:call (.fn 199) [.yld b,.fptr [qa8 L] 0] ⟨b+1,[(b,K.blk .ready none ts)::R none]⟩=some (.tup [],⟨b+1,[K.rows b R r]⟩)) :
  qij (ctx T) call g ps K.as' K.bd ⟨K.ks,K.vs,ts,K.sz,⟨b,[R none]⟩⟩=some (zb4 r,⟨K.ks,K.vs,ts,K.sz,⟨b+1,[R r]⟩⟩):=by
 have hent:qv1 (ctx T) 199=true:=by kernel_rfl
 unfold qij;rw[ho];simp only[jb,hent,zjh,hps];have e:call (.fn 199) ([]++[.yld b]++[.fptr [qa8 L] 0]) (Heap.new ⟨b,[R none]⟩ (.loop .ready none K.ks K.vs ts K.sz K.ps K.as' K.bd))=some (.tup [],⟨b+1,[K.rows b R r]⟩):=hc;rw[e];cases r with
 |none=>simp[zG,RgK.rows,RgK.blk,zb4,St.wH,Heap.drop,qem,killF]
 |some r=>simp[zG,RgK.rows,RgK.blk,zb4,St.wH,Heap.drop,qem,killF,qz1]
theorem zeo(h:K.Ok b R) (L:List Nd) (hl:L.length<=1000000) (go:Nat->Option ρ) (hy:∀j (hj:j < L.length),qjb (ctx T) b [.int .i64 (j:Int),qa6 L[j]] ⟨b+1,[[],(b,K.blk .ready none [])::R none]⟩ (.bool (go j).isNone) ⟨b+1,[[],K.rows b R (go j)]⟩)
  {ts:List (Nat × AV)} {g:Operand} {ps:Array Nat} (hps:ps.toList=K.ps) (ho:qc0 ⟨K.ks,K.vs,ts,K.sz,⟨b,[R none]⟩⟩ g=some (zjh L)) {n:Nat} {Q:Out->St->Prop} (hq:Q (zb4 (qvg go L.length)) ⟨K.ks,K.vs,ts,K.sz,⟨b+1,[R (qvg go L.length)]⟩⟩) :
  WpS (ctx T) n (.rangeFunc g ps K.as' K.bd) ⟨K.ks,K.vs,ts,K.sz,⟨b,[R none]⟩⟩ Q:=by
 have lb:qb2 b (idn (b+1))=some b:=qd4 (jX b);have hcall:CA T 199 [.yld b,.fptr [qa8 L] 0] ⟨b+1,[(b,K.blk .ready none ts)::R none]⟩ (.tup []) ⟨b+1,[K.rows b R (qvg go L.length)]⟩:=
  (ze8 h L hl go hy).drop (σ:=idn (b+1)) (Φ:=[]) (fun _=>h.fit (c:=none) (st:=.ready) (pend:=none) (ts:=ts) (jc _) (jc _) (by simp[zG]) (fun e he=>by have h1:=((h.rows none).2 e he).1;have h2:Nat.beq b e.1=false:=qaw (by omega);simp only[zG,h2];rw[qse (h.rows _).1 he]) (by simp)) (by simp[qaz,qat,qab,qa9,lb])
 exact zem (qbo [⟨199,_,_,_,_,hcall⟩]) ⟨_,_,za0 (T:=T) h L hps ho (r:=qvg go L.length) (by simp[qcu]),hq⟩
end
abbrev lsSvg:Str:= lsB0
abbrev qt1:Str:= lsB4
abbrev qwr:Str:= lsB10
abbrev qn5:Str:= lsB14
abbrev zgr:Str:= lsB2
def qe6(sp:Int) (x:Str):Bool:=if sp=1 then inW lsSvg x else if sp=2 then decide (x=[97,110,110,111,116,97,116,105,111,110,45,120,109,108]) || inW qt1 x else decide (sp=0) && inW qwr x
def qhw(sc sp:Int) (x:Str):Bool:=
 if sc=3 then decide (sp=0) && inW zgr x
 else if sc=0\/sc=1\/sc=2 then
  if sp=0 then (if x=[111,108]\/x=[117,108] then decide (sc=1) else if x=[98,117,116,116,111,110] then decide (sc=2) else inW qn5 x) else qe6 sp x
 else !decide (sc=4) || !decide (sp=0) || (!decide (x=[111,112,116,103,114,111,117,112]) && !decide (x=[111,112,116,105,111,110]))
theorem c172(hc0:qaa 122 T=some e122a.g) (sp:Int) (x:Str) (hx:x.length<=1000000000):CA T 172 [.int .i64 sp,.str x] zH (.bool (qe6 sp x)) zH:=by
 have kw0:=fun(x:Str) (hx:x.length<=1000000000) (H:Heap)=>k122a (W:= lsB0) (x:=x) hc0 (qry (by decide)) (by decide) hx H;have kw1:=fun(x:Str) (hx:x.length<=1000000000) (H:Heap)=>k122a (W:= lsB4) (x:=x) hc0 (qry (by decide)) (by decide) hx H;have kw2:=fun(x:Str) (hx:x.length<=1000000000) (H:Heap)=>k122a (W:= lsB10) (x:=x) hc0 (qry (by decide)) (by decide) hx H;refine qa1 (s0:=⟨[0,1,4,5],[.int .i64 sp,.str x,uD,uD],[],24,⟨0,[[]]⟩⟩) Tryz.func172 rfl rfl rfl ?_
 (repeat' (first
  |with_reducible apply qam
  |with_reducible apply qa7
  |(with_reducible apply rE;simp[zS, *];exact rfl)
  |(with_reducible apply qax;simp only[qan,qah])
  |(with_reducible refine qb6 (fun hc=>?_) (fun hc=>?_)<;>(have hd:=hc;(try simp at hd);(try subst hd);apply qf6;simp[zS, *];exact rfl))
  |(refine qay rfl (fun hc=>?_) (fun hc=>?_)<;>(have hd:=hc;(try simp at hd);(try subst hd)))
  |(with_reducible apply qa4;simp only[qan,qah])
  |(with_reducible apply qa3;simp[zQ,Tryz.f172])))
 all_goals first|exact qa2 rfl (by simp[qe6, *])|(exfalso;omega)
theorem inj_172(x y:Int × Str) (h:(fun z:Int × Str=>([.int .i64 z.1,.str z.2]:List AV)) x=(fun z:Int × Str=>([.int .i64 z.1,.str z.2]:List AV)) y):x=y:=by obtain⟨x0,x1⟩:=x;obtain⟨y0,y1⟩:=y;simp only[j4,and_true]at h;obtain⟨h0,h1⟩:=h;have g0:x0=y0:=AV.int.inj h0 |>.2;have g1:x1=y1:=AV.str.inj h1;subst g0 g1;rfl
def e172:Entry PG:=mkE 172 [[],[]] (fun z:Int × Str=>[.int .i64 z.1,.str z.2]) (fun z=>(z.2.length<=1000000000)) (fun z=>.bool (qe6 z.1 z.2)) fun z h=>c172 (T:=[e122a]) rfl z.1 z.2 h
theorem k172(hT:qIn 172 T e172) (sp:Int) (x:Str) (hx:x.length<=1000000000) (H:Heap):qb7 (ctx T) (.fn 172) [.int .i64 sp,.str x] H=some (.bool (qe6 sp x),H):=
 qac hT inj_172 (sp,x) hx rfl (by simp[qao])
theorem c167(hc0:qaa 122 T=some e122a.g) (hc1:qIn 172 T e172) (sc:Int) (sp:Int) (x:Str) (hx:x.length<=1000000000):CA T 167 [.int .i64 sc,.int .i64 sp,.str x] zH (.bool (qhw sc sp x)) zH:=by
 have kw0:=fun(x:Str) (hx:x.length<=1000000000) (H:Heap)=>k122a (W:= lsB2) (x:=x) hc0 (qry (by decide)) (by decide) hx H;have kw1:=fun(x:Str) (hx:x.length<=1000000000) (H:Heap)=>k122a (W:= lsB14) (x:=x) hc0 (qry (by decide)) (by decide) hx H;have kc1:=@k172 T hc1;refine qa1 (s0:=⟨[0,1,2,6,7,10,32,41,42],[.int .i64 sc,.int .i64 sp,.str x,uD,uD,uD,uD,uD,uD],[],53,⟨0,[[]]⟩⟩) Tryz.func167 rfl rfl rfl ?_
 (repeat' (first
  |with_reducible apply qam
  |with_reducible apply qa7
  |(with_reducible apply rE;simp[zS, *];exact rfl)
  |(with_reducible apply qax;simp only[qan,qah])
  |(with_reducible refine qb6 (fun hc=>?_) (fun hc=>?_)<;>(have hd:=hc;(try simp at hd);(try subst hd);apply qf6;simp[zS, *];exact rfl))
  |apply qaj rfl
  |(refine qay rfl (fun hc=>?_) (fun hc=>?_)<;>(have hd:=hc;(try simp at hd);(try subst hd)))
  |(with_reducible apply qa4;simp only[qan,qah])
  |(with_reducible apply qa3;simp[zQ,Tryz.f167])))
 all_goals first|exact qa2 rfl (by simp[qhw, *])|(exfalso;omega)
theorem inj_167(x y:Int × Int × Str) (h:(fun z:Int × Int × Str=>([.int .i64 z.1,.int .i64 z.2.1,.str z.2.2]:List AV)) x=(fun z:Int × Int × Str=>([.int .i64 z.1,.int .i64 z.2.1,.str z.2.2]:List AV)) y):x=y:=by obtain⟨x0,x1,x2⟩:=x;obtain⟨y0,y1,y2⟩:=y;simp only[j4,and_true]at h;obtain⟨h0,h1,h2⟩:=h;have g0:x0=y0:=AV.int.inj h0 |>.2;have g1:x1=y1:=AV.int.inj h1 |>.2;have g2:x2=y2:=AV.str.inj h2;subst g0 g1 g2;rfl
def e167:Entry PG:=mkE 167 [[],[],[]] (fun z:Int × Int × Str=>[.int .i64 z.1,.int .i64 z.2.1,.str z.2.2]) (fun z=>(z.2.2.length<=1000000000)) (fun z=>.bool (qhw z.1 z.2.1 z.2.2)) fun z h=>c167 (T:=[e122a,e172]) rfl rfl z.1 z.2.1 z.2.2 h
theorem k167(hT:qIn 167 T e167) (sc:Int) (sp:Int) (x:Str) (hx:x.length<=1000000000) (H:Heap):qb7 (ctx T) (.fn 167) [.int .i64 sc,.int .i64 sp,.str x] H=some (.bool (qhw sc sp x),H):=
 qac hT inj_167 (sc,sp,x) hx rfl (by simp[qao])
theorem c168(hc0:qaa 122 T=some e122a.g) (x:Str) (hx:x.length<=1000000000):CA T 168 [.str x] zH (.bool (inW qsa x)) zH:=by
 have kw0:=fun(x:Str) (hx:x.length<=1000000000) (H:Heap)=>k122a (W:= qsa) (x:=x) hc0 (qry (by decide)) (by decide) hx H;refine qa1 (s0:=⟨[0,2],[.str x,uD],[],5,⟨0,[[]]⟩⟩) Tryz.func168 rfl rfl rfl ?_
 (repeat' (first
  |with_reducible apply qam
  |(with_reducible apply rE;simp[zS, *];exact rfl)
  |(with_reducible apply qax;simp only[qan,qah])
  |(with_reducible apply qa3;simp[zQ,Tryz.f168])))
 all_goals first|exact qa2 rfl (by rfl)|(exfalso;omega)
theorem inj_168(x y:Str) (h:(fun z:Str=>([.str z]:List AV)) x=(fun z:Str=>([.str z]:List AV)) y):x=y:=by simp only[j4,and_true]at h;exact AV.str.inj h
def e168:Entry PG:=mkE 168 [[]] (fun z:Str=>[.str z]) (fun z=>(z.length<=1000000000)) (fun z=>.bool (inW qsa z)) fun z h=>c168 (T:=[e122a]) rfl z h
theorem k168(hT:qIn 168 T e168) (x:Str) (hx:x.length<=1000000000) (H:Heap):qb7 (ctx T) (.fn 168) [.str x] H=some (.bool (inW qsa x),H):=
 qac hT inj_168 (x) hx rfl (by simp[qao])
theorem sp_math:qbv lsB12=[97,110,110,111,116,97,116,105,111,110,45,120,109,108]::qbv qt1:=by decide +kernel
theorem in_math(x:Str):inW lsB12 x=(decide (x=[97,110,110,111,116,97,116,105,111,110,45,120,109,108]) || inW qt1 x):=by unfold inW;rw[sp_math];simp[ja,Bool.decide_or]
theorem sp_list:qbv [111,108,32,117,108]=[[111,108],[117,108]]:=by decide +kernel
theorem zfi:qbv [98,117,116,116,111,110]=[[98,117,116,116,111,110]]:=by decide +kernel
theorem sp_opts:qbv lsB5=[[111,112,116,103,114,111,117,112],[111,112,116,105,111,110]]:=by decide +kernel
theorem in_list(x:Str):inW [111,108,32,117,108] x=decide (x=[111,108]\/x=[117,108]):=by unfold inW;rw[sp_list];simp
theorem zhf(x:Str):inW [98,117,116,116,111,110] x=decide (x=[98,117,116,116,111,110]):=by unfold inW;rw[zfi];simp
theorem in_opts(x:Str):inW lsB5 x=decide (x=[111,112,116,103,114,111,117,112]\/x=[111,112,116,105,111,110]):=by unfold inW;rw[sp_opts];simp
def qg8(sp:Int) (x:Str):Bool:=decide (sp=2) && inW lsB12 x || decide (sp=1) && inW lsSvg x
theorem c176(hc0:qIn 71 T e71) (sp:Int) (x:Str):CA T 176 [.int .i64 sp,.str x] zH (.bool (qg8 sp x)) zH:=by
 have kw0:=fun(x:Str) (H:Heap)=>k71 hc0 (w:= lsB12) x (by decide) H;have kw1:=fun(x:Str) (H:Heap)=>k71 hc0 (w:= lsB0) x (by decide) H;refine qa1 (s0:=⟨[0,1,4],[.int .i64 sp,.str x,uD],[],19,⟨0,[[]]⟩⟩) Tryz.func176 rfl rfl rfl ?_
 (repeat' (first
  |with_reducible apply qam
  |(with_reducible apply rE;simp[zS, *];exact rfl)
  |(with_reducible apply qax;simp only[qan,qah])
  |(with_reducible refine qb6 (fun hc=>?_) (fun hc=>?_)<;>(have hd:=hc;(try simp at hd);(try subst hd);apply qf6;simp[zS, *];exact rfl))
  |(with_reducible apply qa3;simp[zQ,Tryz.f176])))
 all_goals first|exact qa2 rfl (by simp[qg8, *])|(exfalso;omega)
def e176:Entry PG:=mkE 176 [[],[]] (fun z:Int × Str=>[.int .i64 z.1,.str z.2]) (fun z=>True) (fun z=>.bool (qg8 z.1 z.2)) fun z h=>c176 (T:=[e71]) rfl z.1 z.2 
theorem k176(hT:qIn 176 T e176) (sp:Int) (x:Str) (H:Heap):qb7 (ctx T) (.fn 176) [.int .i64 sp,.str x] H=some (.bool (qg8 sp x),H):=
 qac hT inj_172 (sp,x) trivial rfl (by simp[qao])
theorem qsn(sp:Int) (x:Str):(qg8 sp x || decide (sp=0) && inW qwr x)=qe6 sp x:=by
 unfold qg8 qe6;rw[in_math];by_cases h1:sp=1
 ·subst h1;simp
 ·by_cases h2:sp=2
  ·subst h2;simp
  ·simp[h1,h2]
theorem c143(hc0:qIn 176 T e176) (hc1:qIn 110 T e110) (sp:Int) (x:Str):CA T 143 [.int .i64 sp,.str x] zH (.bool (qe6 sp x)) zH:=by
 have kc0:=@k176 T hc0;have kw0:=fun(s:Int) (x:Str) (H:Heap)=>k110 hc1 s x (W:= lsB10) (by decide) H;refine qa1 (s0:=⟨[0,1,4],[.int .i64 sp,.str x,uD],[],13,⟨0,[[]]⟩⟩) Tryz.func143 rfl rfl rfl ?_
 (repeat' (first
  |with_reducible apply qam
  |(with_reducible apply rE;simp[zS, *];exact rfl)
  |(with_reducible apply qax;simp only[qan,qah])
  |(with_reducible refine qb6 (fun hc=>?_) (fun hc=>?_)<;>(have hd:=hc;(try simp at hd);(try subst hd);apply qf6;simp[zS, *];exact rfl))
  |(with_reducible apply qa3;simp[zQ,Tryz.f143])))
 all_goals first|exact qa2 rfl (by simp[<- qsn, *])|(exfalso;omega)
def e143:Entry PG:=mkE 143 [[],[]] (fun z:Int × Str=>[.int .i64 z.1,.str z.2]) (fun z=>True) (fun z=>.bool (qe6 z.1 z.2)) fun z h=>c143 (T:=[e176,e110]) rfl rfl z.1 z.2 
theorem k143(hT:qIn 143 T e143) (sp:Int) (x:Str) (H:Heap):qb7 (ctx T) (.fn 143) [.int .i64 sp,.str x] H=some (.bool (qe6 sp x),H):=
 qac hT inj_172 (sp,x) trivial rfl (by simp[qao])
theorem qxd(x:Str):qg8 0 x=false:=rfl
theorem zfa(sp:Int) (x:Str):(qg8 sp x || decide (sp=0) && inW qn5 x)=if sp=0 then inW qn5 x else qe6 sp x:=by
 by_cases h:sp=0
 ·subst h;simp[qxd]
 ·simp[h,<- qsn]
theorem ends_ol:inW qn5 [111,108]=false/\inW qn5 [117,108]=false/\inW qn5 [98,117,116,116,111,110]=false:=by decide +kernel
theorem stops_eq(sc sp:Int) (x:Str):qhw sc sp x =
  if sc=0 then (qg8 sp x || decide (sp=0) && inW qn5 x) else if sc=1 then (qg8 sp x || decide (sp=0) && inW qn5 x) || (decide (sp=0) && inW [111,108,32,117,108] x)
  else if sc=2 then (qg8 sp x || decide (sp=0) && inW qn5 x) || (decide (sp=0) && inW [98,117,116,116,111,110] x)
  else if sc=3 then decide (sp=0) && inW zgr x else !decide (sc=4) || !(decide (sp=0) && inW lsB5 x):=by
 obtain⟨e1,e2,e3⟩:=ends_ol;rw[zfa,in_list,zhf,in_opts];unfold qhw;by_cases h0:sp=0
 ·subst h0;by_cases a:x=[111,108]
  ·subst a;by_cases c0:sc=0<;>by_cases c1:sc=1<;>by_cases c2:sc=2<;>by_cases c3:sc=3<;>simp_all
  ·by_cases b:x=[117,108]
   ·subst b;by_cases c0:sc=0<;>by_cases c1:sc=1<;>by_cases c2:sc=2<;>by_cases c3:sc=3<;>simp_all
   ·by_cases d:x=[98,117,116,116,111,110]
    ·subst d;by_cases c0:sc=0<;>by_cases c1:sc=1<;>by_cases c2:sc=2<;>by_cases c3:sc=3<;>simp_all
    ·by_cases c0:sc=0<;>by_cases c1:sc=1<;>by_cases c2:sc=2<;>by_cases c3:sc=3<;>simp_all
 ·by_cases c0:sc=0<;>by_cases c1:sc=1<;>by_cases c2:sc=2<;>by_cases c3:sc=3<;>simp_all
theorem c141(hc0:qIn 176 T e176) (hc1:qIn 110 T e110) (sc:Int) (sp:Int) (x:Str):CA T 141 [.int .i64 sc,.int .i64 sp,.str x] zH (.bool (qhw sc sp x)) zH:=by
 have kc0:=@k176 T hc0;have kw0:=fun(s:Int) (x:Str) (H:Heap)=>k110 hc1 s x (W:= lsB14) (by decide) H;have kw1:=fun(s:Int) (x:Str) (H:Heap)=>k110 hc1 s x (W:=[111,108,32,117,108]) (by decide) H;have kw2:=fun(s:Int) (x:Str) (H:Heap)=>k110 hc1 s x (W:=[98,117,116,116,111,110]) (by decide) H;have kw3:=fun(s:Int) (x:Str) (H:Heap)=>k110 hc1 s x (W:= lsB2) (by decide) H;have kw4:=fun(s:Int) (x:Str) (H:Heap)=>k110 hc1 s x (W:= lsB5) (by decide) H;refine qa1 (s0:=⟨[0,1,2,6,7],[.int .i64 sc,.int .i64 sp,.str x,uD,uD],[],48,⟨0,[[]]⟩⟩) Tryz.func141 rfl rfl rfl ?_
 (repeat' (first
  |with_reducible apply qam
  |(with_reducible apply rE;simp[zS, *];exact rfl)
  |(with_reducible apply qax;simp only[qan,qah])
  |(with_reducible refine qb6 (fun hc=>?_) (fun hc=>?_)<;>(have hd:=hc;(try simp at hd);(try subst hd);apply qf6;simp[zS, *];exact rfl))
  |(with_reducible refine ql0 (fun hc=>?_) (fun hc=>?_)<;>(have hd:=hc;(try simp at hd);(try subst hd);apply qf6;simp[zS, *];exact rfl))
  |(refine qay rfl (fun hc=>?_) (fun hc=>?_)<;>(have hd:=hc;(try simp at hd);(try subst hd)))
  |(with_reducible apply qa4;simp only[qan,qah])
  |(with_reducible apply qa3;simp[zQ,Tryz.f141])))
 all_goals first|exact qa2 rfl (by simp[stops_eq, *])|(exfalso;omega)
def e141:Entry PG:=mkE 141 [[],[],[]] (fun z:Int × Int × Str=>[.int .i64 z.1,.int .i64 z.2.1,.str z.2.2]) (fun z=>True) (fun z=>.bool (qhw z.1 z.2.1 z.2.2)) fun z h=>c141 (T:=[e176,e110]) rfl rfl z.1 z.2.1 z.2.2 
theorem k141(hT:qIn 141 T e141) (sc:Int) (sp:Int) (x:Str) (H:Heap):qb7 (ctx T) (.fn 141) [.int .i64 sc,.int .i64 sp,.str x] H=some (.bool (qhw sc sp x),H):=
 qac hT inj_167 (sc,sp,x) trivial rfl (by simp[qao])
theorem c104(hc0:qIn 71 T e71) (x:Str):CA T 104 [.str x] zH (.bool (inW qsa x)) zH:=by
 have kw0:=fun(x:Str) (H:Heap)=>k71 hc0 (w:= qsa) x (by decide) H;refine qa1 (s0:=⟨[0,2],[.str x,uD],[],5,⟨0,[[]]⟩⟩) Tryz.func104 rfl rfl rfl ?_
 (repeat' (first
  |with_reducible apply qam
  |(with_reducible apply rE;simp[zS, *];exact rfl)
  |(with_reducible apply qax;simp only[qan,qah])
  |(with_reducible apply qa3;simp[zQ,Tryz.f104])))
 all_goals first|exact qa2 rfl (by rfl)|(exfalso;omega)
def e104:Entry PG:=mkE 104 [[]] (fun z:Str=>[.str z]) (fun z=>True) (fun z=>.bool (inW qsa z)) fun z h=>c104 (T:=[e71]) rfl z 
theorem k104(hT:qIn 104 T e104) (x:Str) (H:Heap):qb7 (ctx T) (.fn 104) [.str x] H=some (.bool (inW qsa x),H):=
 qac hT inj_168 (x) trivial rfl (by simp[qao])
@[simp]theorem szT48:qcg PG 48=some 1:=rfl
@[simp]theorem agT48:qi8 PG 48=some false:=rfl
@[simp]theorem byT48:qco PG 48=some 8:=rfl
@[simp]theorem alT48(H:Heap):alV PG H 48=some (.ptr H.n 0,H.new (.cells [.nilF])):=rfl
@[simp]theorem zeT48:qc1 PG 48=some (.nilF):=rfl
attribute [simp] Tryz.underlying48
@[simp 500]theorem rvF48(H:Heap) (cs:List AV) (o:Nat):qb3 PG H 48 (.fptr cs o)=qcy cs o:=rfl
@[simp 500]theorem rvP48(H:Heap) (b o:Nat):qb3 PG H 48 (.ptr b o)=(H.get b).bind fun k=>k.rd.bind fun cs=>qcy cs o:=rfl
def qgs(f:FuncId) (c:List AV):AV:=.func (.func f) [] c
def qne(p q:Nd->Bool) (L:List Nd) (j:Nat):Option Bool:=if p (qa0 L j)=true then some true else if q (qa0 L j)=true then some false else none
def qwi(p q:Nd->Bool) (L:List Nd):Bool:=(qvg (qne p q L) L.length).getD false
def zh6 (L:List Nd) (v1 v2:AV):RgK:=⟨[0,1,2,4,5,6,8,10,11,12],[qa8 L,v1,v2,.ptr 0 0,.ptr 1 0,.ptr 2 0,uD,zjh L,uD,uD],19,[11,12],rgA Tryz.f165.body,rgB Tryz.f165.body⟩
def rOut(v1 v2:AV):Option Bool->List (Nat × Blk)
 |none=>[(2,.cells [.bool false]),(1,.cells [v2]),(0,.cells [v1])]
 |some r=>[(2,.cells [.bool r]),(1,.cells [v2]),(0,.cells [v1])]
theorem zh5{L:List Nd} {v1 v2:AV} (h1:qab v1=true) (h2:qab v2=true):(zh6 L v1 v2).Ok 3 (rOut v1 v2) where
 vs:=fun σ hσ=>by simp[zh6,qaz,qat,hσ 0 (by omega),hσ 1 (by omega),hσ 2 (by omega),h1,h2,zfy]
 rows:=fun c=>by cases c<;>simp[rOut,rowsB,qa9,qab,h1,h2]
theorem zfp(L:List Nd) {f1 f2:FuncId} {c1 c2:List AV} (k1:qa9 c1=true) (k2:qa9 c2=true) {p q:Nd->Bool} (n:Nd) (hp:CA T f1 (qa6 n::c1) zH (.bool (p n)) zH) (hq:CA T f2 (qa6 n::c2) zH (.bool (q n)) zH) (j:Int) :
  qjb (ctx T) 3 [.int .i64 j,qa6 n] ⟨4,[[],(3,(zh6 L (qgs f1 c1) (qgs f2 c2)).blk .ready none [])::rOut (qgs f1 c1) (qgs f2 c2) none]⟩ (.bool (if p n=true then some true else if q n=true then some false else none:Option Bool).isNone)
   ⟨4,[[],(zh6 L (qgs f1 c1) (qgs f2 c2)).rows 3 (rOut (qgs f1 c1) (qgs f2 c2)) (if p n=true then some true else if q n=true then some false else none)]⟩:=by
 have v1:qab (qgs f1 c1)=true:=by simp[qgs,qab,qa9,k1]
 have v2:qab (qgs f2 c2)=true:=by simp[qgs,qab,qa9,k2]
 refine round_K (zh5 v1 v2) (s1:=⟨[0,1,2,4,5,6,8,10,11,12],[qa8 L,qgs f1 c1,qgs f2 c2,.ptr 0 0,.ptr 1 0,.ptr 2 0,uD,zjh L,.int .i64 j,qa6 n],[],19,⟨4,[[],[],(3,(zh6 L (qgs f1 c1) (qgs f2 c2)).blk .ready none [])::rOut (qgs f1 c1) (qgs f2 c2) none]⟩⟩) rfl fun l=>?_;generalize (zh6 L (qgs f1 c1) (qgs f2 c2)).blk .ready none []=B0;generalize (zh6 L (qgs f1 c1) (qgs f2 c2)).blk .busy none []=B1;simp only[zh6,rgA,rgB,rgIn,Tryz.f165,jb];refine qai qbc ?_;simp[zN];refine⟨_,_,⟨rfl,rfl⟩,rfl,?_⟩;simp only[rOut,qgs];apply qa7;have p1:qa9 (qa6 n::c1)=true:=by simp[qa9,k1]
 have p2:qa9 (qa6 n::c2)=true:=by simp[qa9,k2]
 repeat apply wq
 refine qai (qj4 [⟨f1,_,_,p1,hp⟩]) ?_;rcases jG (p n)with hb|hb
 ·simp[zS,qaq,qhj,hb];apply qaj rfl;apply qR;simp[zS];apply qa3;simp only[qan,qah];exact⟨_,_,fun i hi=>qo7 (by omega),rfl,rfl⟩
 ·simp[zS,qaq,qhj,hb];apply qag rfl;apply qa4;simp only[qan,qah];repeat apply wq
  refine qai (qj4 [⟨f2,_,_,p2,hq⟩]) ?_;rcases jG (q n)with hd|hd
  ·simp[zS,qaq,qhj,hd];apply qaj rfl;apply qR;simp[zS];apply qa3;simp only[qan,qah];exact⟨_,_,fun i hi=>qo7 (by omega),rfl,rfl⟩
  ·simp[zS,qaq,qhj,hd];apply qag rfl;apply qa4;simp only[qan,qah];exact⟨_,_,fun i hi=>qo7 (by omega),rfl,rfl⟩
theorem c165(hB:qIn 193 T e193) (L:List Nd) (hl:L.length<=1000000) {f1 f2:FuncId} {c1 c2:List AV} (k1:qa9 c1=true) (k2:qa9 c2=true) {p q:Nd->Bool}
  (hp:∀n,n∈L->CA T f1 (qa6 n::c1) zH (.bool (p n)) zH) (hq:∀n,n∈L->CA T f2 (qa6 n::c2) zH (.bool (q n)) zH):CA T 165 [qa8 L,qgs f1 c1,qgs f2 c2] zH (.bool (qwi p q L)) zH:=by
 have v1:qab (qgs f1 c1)=true:=by simp[qgs,qab,qa9,k1]
 have v2:qab (qgs f2 c2)=true:=by simp[qgs,qab,qa9,k2]
 have kb:=fun H=>k193 hB L H;have s1:(qgs f1 c1).single=true:=rfl;have s2:(qgs f2 c2).single=true:=rfl;have e1:(qgs f1 c1).cells=[qgs f1 c1]:=rfl;have e2:(qgs f2 c2).cells=[qgs f2 c2]:=rfl;refine qa1 (s0:=⟨[0,1,2,4,5,6,8,10,11,12],[qa8 L,qgs f1 c1,qgs f2 c2,uD,uD,uD,uD,uD,uD,uD],[],19,⟨0,[[]]⟩⟩) Tryz.func165 rfl rfl rfl ?_;apply qR;simp[zS,s1,s2,e1,e2];apply qR;simp[zS,kb];apply qa7;refine zeo (K:=zh6 L (qgs f1 c1) (qgs f2 c2)) (b:=3) (R:=rOut (qgs f1 c1) (qgs f2 c2)) (zh5 v1 v2) L hl (qne p q L) (fun j hj=>?_) rfl rfl ?_
 ·have:=zfp L k1 k2 (p:=p) (q:=q) L[j] (hp _ (jy hj)) (hq _ (jy hj)) (j:Int);rw[show qne p q L j=_ from rfl,qne,qba hj];exact this
 ·obtain⟨r,hr⟩ : ∃r,qvg (qne p q L) L.length=r:=⟨_,rfl⟩;unfold qwi;rw[hr];cases r with
  |none=>simp[zb4,zh6,rOut];apply qR;simp[zS];apply qa3;simp[zQ,Tryz.f165];exact⟨[.bool false],rfl,[],[],qbe rfl,FitH.empty⟩
  |some i=>simp[zb4,zh6,rOut,qan,qah];exact⟨[.bool i],rfl,[],[],qbe rfl,FitH.empty⟩
def qdu(sp:Int) (x:Str):Bool:=decide (sp=0) && inW lsB3 x
theorem sp_head:qbv lsB3=[[104,49],[104,50],[104,51],[104,52],[104,53],[104,54]]:=by decide +kernel
theorem qz5(x:Str):inW lsB3 x=decide (x=[104,49]\/x=[104,50]\/x=[104,51]\/x=[104,52]\/x=[104,53]\/x=[104,54]):=by unfold inW;rw[sp_head];simp
theorem head_len{x:Str} (h:¬ x.length=2):inW lsB3 x=false:=by rw[qz5];simp only[decide_eq_false_iff_not];rintro(rfl|rfl|rfl|rfl|rfl|rfl)<;>exact h rfl
theorem head_two(a b:UInt8):inW lsB3 [a,b]=(decide ((a.toNat:Int)=104) && decide (49<=(b.toNat:Int)) && decide ((b.toNat:Int)<=54)):=by rw[qz5];have key:∀n:Nat,n < 256->(b=UInt8.ofNat n↔b.toNat=n):=fun n hn=>⟨fun h=>by rw[h];simp;omega,fun h=>by rw[<- h];simp⟩;have ha:a=104↔a.toNat=104:=⟨fun h=>by rw[h];rfl,fun h=>yn.1 (by rw[h];rfl)⟩;have k1:∀c:UInt8,b=c↔b.toNat=c.toNat:=fun c=>yn.symm;rw[jP];simp only[j4,and_true,decide_eq_true_eq,jd,ha,k1];simp only[show (49:UInt8).toNat=49 from rfl,show (50:UInt8).toNat=50 from rfl,show (51:UInt8).toNat=51 from rfl,show (52:UInt8).toNat=52 from rfl,show (53:UInt8).toNat=53 from rfl,show (54:UInt8).toNat=54 from rfl];omega
theorem c135(sp:Int) (x:Str):CA T 135 [.int .i64 sp,.str x] zH (.bool (qdu sp x)) zH:=by
 by_cases hl:x.length=2
 ·match x,hl with
  |[a,b],_=>
   have i0:qi1 PG 9 (.str [a,b]) (.int .i64 0)=some (.int .u8 a.toNat):=qjj (s:=[a,b]) (i:=0) (by simp);have i1:qi1 PG 9 (.str [a,b]) (.int .i64 1)=some (.int .u8 b.toNat):=qjj (s:=[a,b]) (i:=1) (by simp);unfold qdu;rw[head_two];refine qa1 (s0:=⟨[0,1,4],[.int .i64 sp,.str [a,b],uD],[],27,⟨0,[[]]⟩⟩) Tryz.func135 rfl rfl rfl ?_
   (repeat' (first
    |with_reducible apply qam
    |(with_reducible apply rE;simp[zS, *];exact rfl)
    |(with_reducible apply qax;simp only[qan,qah])
    |(with_reducible refine qb6 (fun hc=>?_) (fun hc=>?_)<;>(have hd:=hc;(try simp at hd);(try subst hd);apply qf6;simp[zS, *];exact rfl))
    |(with_reducible apply qa3;simp[zQ,Tryz.f135])))
   all_goals first|exact qa2 rfl (by simp[*])|(exfalso;omega)
 ·have hl':¬ ((x.length:Nat):Int)=2:=by omega
  unfold qdu;rw[head_len hl];refine qa1 (s0:=⟨[0,1,4],[.int .i64 sp,.str x,uD],[],27,⟨0,[[]]⟩⟩) Tryz.func135 rfl rfl rfl ?_
  (repeat' (first
   |with_reducible apply qam
   |(with_reducible apply rE;simp[zS, *];exact rfl)
   |(with_reducible apply qax;simp only[qan,qah])
   |(with_reducible refine qb6 (fun hc=>?_) (fun hc=>?_)<;>(have hd:=hc;(try simp at hd);(try subst hd);apply qf6;simp[zS, *];exact rfl))
   |(with_reducible apply qa3;simp[zQ,Tryz.f135])))
  all_goals first|exact qa2 rfl (by simp[*])|(exfalso;omega)
def e135:Entry PG:=mkE 135 [[],[]] (fun z:Int × Str=>[.int .i64 z.1,.str z.2]) (fun z=>True) (fun z=>.bool (qdu z.1 z.2)) fun z h=>c135 (T:=[])  z.1 z.2 
theorem k135(hT:qIn 135 T e135) (sp:Int) (x:Str) (H:Heap):qb7 (ctx T) (.fn 135) [.int .i64 sp,.str x] H=some (.bool (qdu sp x),H):=
 qac hT inj_172 (sp,x) trivial rfl (by simp[qao])
theorem c103(hc0:qIn 110 T e110) (sp:Int) (x:Str):CA T 103 [.int .i64 sp,.str x] zH (.bool (qdu sp x)) zH:=by
 have kw0:=fun(s:Int) (x:Str) (H:Heap)=>k110 hc0 s x (W:= lsB3) (by decide) H;refine qa1 (s0:=⟨[0,1,4],[.int .i64 sp,.str x,uD],[],8,⟨0,[[]]⟩⟩) Tryz.func103 rfl rfl rfl ?_
 (repeat' (first
  |with_reducible apply qam
  |(with_reducible apply rE;simp[zS, *];exact rfl)
  |(with_reducible apply qax;simp only[qan,qah])
  |(with_reducible apply qa3;simp[zQ,Tryz.f103])))
 all_goals first|exact qa2 rfl (by rfl)|(exfalso;omega)
def e103:Entry PG:=mkE 103 [[],[]] (fun z:Int × Str=>[.int .i64 z.1,.str z.2]) (fun z=>True) (fun z=>.bool (qdu z.1 z.2)) fun z h=>c103 (T:=[e110]) rfl z.1 z.2 
theorem k103(hT:qIn 103 T e103) (sp:Int) (x:Str) (H:Heap):qb7 (ctx T) (.fn 103) [.int .i64 sp,.str x] H=some (.bool (qdu sp x),H):=
 qac hT inj_172 (sp,x) trivial rfl (by simp[qao])
theorem c174(hc0:qaa 122 T=some e122a.g) (sp:Int) (x:Str) (hx:x.length<=1000000000):CA T 174 [.int .i64 sp,.str x] zH (.bool (decide (sp=0) && inW qs9 x)) zH:=by
 have kw0:=fun(x:Str) (hx:x.length<=1000000000) (H:Heap)=>k122a (W:= qs9) (x:=x) hc0 (qry (by decide)) (by decide) hx H;refine qa1 (s0:=⟨[0,1,4],[.int .i64 sp,.str x,uD],[],11,⟨0,[[]]⟩⟩) Tryz.func174 rfl rfl rfl ?_
 (repeat' (first
  |with_reducible apply qam
  |(with_reducible apply rE;simp[zS, *];exact rfl)
  |(with_reducible apply qax;simp only[qan,qah])
  |(with_reducible refine qb6 (fun hc=>?_) (fun hc=>?_)<;>(have hd:=hc;(try simp at hd);(try subst hd);apply qf6;simp[zS, *];exact rfl))
  |(with_reducible apply qa3;simp[zQ,Tryz.f174])))
 all_goals first|exact qa2 rfl (by first|(simp[*];done)|(simp_all;done))|(exfalso;omega)
def e174:Entry PG:=mkE 174 [[],[]] (fun z:Int × Str=>[.int .i64 z.1,.str z.2]) (fun z=>(z.2.length<=1000000000)) (fun z=>.bool (decide (z.1=0) && inW qs9 z.2)) fun z h=>c174 (T:=[e122a]) rfl z.1 z.2 h
theorem k174(hT:qIn 174 T e174) (sp:Int) (x:Str) (hx:x.length<=1000000000) (H:Heap):qb7 (ctx T) (.fn 174) [.int .i64 sp,.str x] H=some (.bool (decide (sp=0) && inW qs9 x),H):=
 qac hT inj_172 (sp,x) hx rfl (by simp[qao])
theorem c142(hc0:qIn 110 T e110) (sp:Int) (x:Str):CA T 142 [.int .i64 sp,.str x] zH (.bool (decide (sp=0) && inW qs9 x)) zH:=by
 have kw0:=fun(s:Int) (x:Str) (H:Heap)=>k110 hc0 s x (W:= qs9) (by decide) H;refine qa1 (s0:=⟨[0,1,4],[.int .i64 sp,.str x,uD],[],8,⟨0,[[]]⟩⟩) Tryz.func142 rfl rfl rfl ?_
 (repeat' (first
  |with_reducible apply qam
  |(with_reducible apply rE;simp[zS, *];exact rfl)
  |(with_reducible apply qax;simp only[qan,qah])
  |(with_reducible apply qa3;simp[zQ,Tryz.f142])))
 all_goals first|exact qa2 rfl (by rfl)|(exfalso;omega)
def e142:Entry PG:=mkE 142 [[],[]] (fun z:Int × Str=>[.int .i64 z.1,.str z.2]) (fun z=>True) (fun z=>.bool (decide (z.1=0) && inW qs9 z.2)) fun z h=>c142 (T:=[e110]) rfl z.1 z.2 
theorem k142(hT:qIn 142 T e142) (sp:Int) (x:Str) (H:Heap):qb7 (ctx T) (.fn 142) [.int .i64 sp,.str x] H=some (.bool (decide (sp=0) && inW qs9 x),H):=
 qac hT inj_172 (sp,x) trivial rfl (by simp[qao])
theorem qdz:∀{s:Str} {i:Nat} (h:i < s.length),qcy (qad s) i=some (.int .u8 (s[i].toNat:Int))
 |[],i,h=>absurd h (jk i)
 |c::r,0,_=>rfl
 |c::r,i+1,h=>by have:=qdz (s:=r) (i:=i) (by simpa using h);simpa[qad]using this
theorem qo3{x:UInt8}:∀{s:Str} {i:Nat} (h:i < s.length),qho [.int .u8 (x.toNat:Int)] i (qad s)=some (qad (s.set i x))
 |[],i,h=>absurd h (jk i)
 |c::r,0,_=>by simp[qad]
 |c::r,i+1,h=>by have:=qo3 (x:=x) (s:=r) (i:=i) (by simpa using h);simp[qad,this]
theorem qj6:∀(s:Str),qm7 (qad s)=some s
 |[]=>rfl
 |c::r=>by simp[qad,qm7,qzr,qj6 r]
theorem qh9:∀(s:Str),qa9 (qad s)=true
 |[]=>by simp[qad,qa9]
 |c::r=>by simp[qad,qa9,qab,qh9 r]
theorem qqa{s:Str}:qek 0 s.length (qad s)=some (qad s):=by have:=qir (n:=s.length) (l:=qad s) (by rw[qbr];omega);rw[qku (by rw[qbr];omega)];simp[jz,qbr]
def qes(n:Nat) (s:Str):Heap:=⟨n,[[(0,.cells (qad s))]]⟩
theorem conv1{s:Str} (h:s.length<=1000000):qh7 PG ⟨0,[[]]⟩ 9 74 (.str s)=some (.slc 0 0 s.length (.rest 1),qes 1 s):=by
 have:qcf s.length 1=true:=by simp[qcf];omega
 simp[qh7,this,qes,Heap.new,pushF]
theorem conv2{n len:Nat} {s:Str} {cap:Cap} (e:s.length=len):qh7 PG (qes n s) 74 9 (.slc 0 0 len cap)=some (.str s,qes n s):=by subst e;simp[qh7,qc7,qbb,readCells,qes,zG,qqa,qj6]
theorem ix52{b o len i:Nat} {cap:Cap} (h:i < len):qav PG 74 (.slc b o len cap) (.int .i64 (i:Int))=some (.ptr b (o+i)):=by simp[qav,qbz h]
theorem len52{H:Heap} {b o n:Nat} {cap:Cap}:qer PG H 74 (.slc b o n cap)=some n:=by simp[qer]
theorem qi3{n:Nat} {s t:Str} (e:s=t):FitH 0 [(0,0)] [] (qes n s) (qes 1 t):=by
 subst e;have hb:qhp [(0,0)] [] (.cells (qad s)) (.cells (qad s)):=by show qaz _ _ _ _;exact qaf (qh9 s)
 refine⟨by simp,by simp,by simp[qes,Heap.ents],by simp[qes],by simp,jh _,?_,by simp⟩;intro e he;simp[qes,Heap.ents]at he;subst he;exact⟨0,_,by simp,by simp[qes,zG],hb⟩
theorem qp2{len:Nat} {cap:Cap}:qat [(0,0)] [] (.slc 0 0 len cap) (.slc 0 0 len cap):=by simp[qat,qb2]
theorem qfc:∀(s:Str),qad s=s.map fun c=>AV.int .u8 (c.toNat:Int)
 |[]=>rfl
 |c::r=>by simp[qad,qfc r]
theorem zc7(s:Str):Elems 1 (qad s):=by rw[qfc];exact .map (sz:=1) (f:=fun c:UInt8=>AV.int .u8 (c.toNat:Int)) (by decide) (fun x=>⟨rfl,rfl,fun _=>rfl,fun h=>absurd rfl h⟩) s
theorem ql3:∀(s:Str),qa5 (qad s)=qad s
 |[]=>rfl
 |c::r=>by simp[qad,qa5,ql3 r]
theorem zcs(s:Str) (n:Nat):(qad s).take n=qad (s.take n):=by rw[qfc,qfc,List.map_take]
theorem qta(s:Str) (n:Nat):(qad s).drop n=qad (s.drop n):=by rw[qfc,qfc,List.map_drop]
theorem zju(s t:Str):qad s++qad t=qad (s++t):=by rw[qfc,qfc,qfc,j3]
def aB(s:Str):AV:=.fslc 1 (qad s)
theorem atB{s:Str} {i:Nat} (h:i < s.length):qav PG 74 (aB s) (.int .i64 (i:Int))=some (.fptr [.int .u8 (s[i].toNat:Int)] 0):=by simp[qav,aB,qbz (show i < (qad s).length by rw[qbr];exact h),qdz h,AV.cells]
theorem qsb{H:Heap} {s:Str}:qer PG H 74 (aB s)=some s.length:=by simp[qer,aB,qbr]
theorem slB{H:Heap} {s:Str} {i:Nat} (h:i<=s.length):qee PG H 74 (aB s) (some (.int .i64 (i:Int))) none none=some (aB (s.drop i)):=by have h2:idx (i:Int) (Nat.succ (qad s).length)=some i:=qbz (by rw[qbr];omega);rw[qbr]at h2;simp[qee,zdn,aB,qdd,qbr];rw[h2];simp;rw[jz (by rw[qbr];omega),qta]
theorem slB2{H:Heap} {s:Str} {i j:Nat} (h:i<=j) (hj:j<=s.length):qee PG H 74 (aB s) (some (.int .i64 (i:Int))) (some (.int .i64 (j:Int))) none=some (aB ((s.take j).drop i)):=by have h1:idx (j:Int) (Nat.succ (qad s).length)=some j:=qbz (by rw[qbr];omega);have h2:idx (i:Int) (Nat.succ j)=some i:=qbz (by omega);simp[qee,zdn,aB,qdd,h1,h2,zcs,qta]
theorem inj_aB{s t:Str} (h:aB s=aB t):s=t:=by simp only[aB,AV.fslc.injEq,true_and,qfc]at h;exact yR (fun x y h=>by simp at h;exact yn.1 (by omega)) |>.1 h
theorem qx2(x y:Str) (h:[aB x]=[aB y]):x=y:=inj_aB (by simpa using h)
def gV(b:Nat) (s:Str):AV:=match s with
 |[]=>.nilS
 |_::_=>.slc b 0 s.length (.rest 1)
def gF(b:Nat) (s:Str):List (Nat × Blk):=match s with
 |[]=>[]
 |_::_=>[(b,.buf 5 0 (qad s))]
theorem gV_ne{b:Nat} {s:Str} (h:s≠[]):gV b s=.slc b 0 s.length (.rest 1):=by cases s<;>first|exact absurd rfl h|rfl
theorem gF_ne{b:Nat} {s:Str} (h:s≠[]):gF b s=[(b,.buf 5 0 (qad s))]:=by cases s<;>first|exact absurd rfl h|rfl
theorem qj7(s:Str):(qad s).length=s.length:=qbr s
theorem app_g{m:Nat} {s t:Str} {x:AV} {g:List (Nat × Blk)} (hx:qc7 x=some t.length) (hc:qbb ⟨m,[g++gF 0 s]⟩ 1 t.length x=some (qad t)) (hg:getF 0 g=none) (ht:0 < t.length) (hl:s.length+t.length<=1000000000) :
  qby PG ⟨m,[g++gF 0 s]⟩ 5 (gV 0 s) x=some (.slc m 0 (s.length+t.length) (.rest 1),⟨m+1,[(m,.buf 5 0 (qad (s++t)))::g]⟩):=by
 have hrow:∀cs,qpi PG 5 cs=.buf 5 0 cs:=fun cs=>rfl;have get0:∀(g:List (Nat × Blk)) (k:Blk),getF 0 g=none->getF 0 (g++[(0,k)])=some k:=by
  intro g k;induction g with
  |nil=>intro _;simp[getF]
  |cons e r ih=>
   intro h;unfold getF at h;simp only[List.cons_append];unfold getF;split at h
   ·cases h
   next hb=>first|exact ih h|(rw[hb];exact ih h)
 have kill0:∀(g:List (Nat × Blk)) (k:Blk),getF 0 g=none->killF 0 (g++[(0,k)])=g:=by
  intro g k;induction g with
  |nil=>intro _;simp[killF]
  |cons e r ih=>
   intro h;unfold getF at h;simp only[List.cons_append];unfold killF;split at h
   ·cases h
   next hb=>first|rw[ih h]|(rw[hb];simp only;rw[ih h])
 have e2:Nat.blt 0 1=true:=rfl;have e3:Nat.beq 1 0=false:=rfl;obtain⟨n,hn⟩ : ∃n,t.length=n+1:=⟨t.length - 1,by omega⟩;have hbl:Nat.beq (qad t).length (t.length * 1)=true:=by rw[qj7,y8];exact jD _
 have hbl':Nat.beq (qad t).length t.length=true:=by rw[qj7];exact jD _
 cases s with
 |nil=>
  have hr:qcf t.length 1=true:=by unfold qcf;rw[jN];omega
  unfold qby;simp only[szT5,byT5,zeT5,jb,gV,hx,hc];rw[hn]at hr hbl hbl' ⊢;simp[hr,hbl,hbl',e2,e3,hrow,Heap.new,pushF,gF,hn]
 |cons c r=>
  have hr:qcf ((c::r).length+t.length) 1=true:=by unfold qcf;rw[jN];omega
  have gt:Heap.get ⟨m,[g++gF 0 (c::r)]⟩ 0=some (.buf 5 0 (qad (c::r))):=by simp only[Heap.get,getFs,gF,get0 g _ hg]
  have hk:qck ⟨m,[g++gF 0 (c::r)]⟩ 0=some (c::r).length:=by unfold qck;simp only[gt,jb,rd_buf,qj7]
  have hrd:readCells ⟨m,[g++gF 0 (c::r)]⟩ 0 0 ((c::r).length * 1)=some (qad (c::r)):=by unfold readCells;simp only[gt,jb,rd_buf,y8];exact qqa
  have b1:Nat.ble (0+((c::r).length+t.length) * 1) (c::r).length=false:=by rw[<- Bool.not_eq_true,jN];omega
  have b2:Nat.beq (0+(c::r).length * 1) (c::r).length=true:=by rw[y8,jO];exact jD _
  have hgo:goOn (.buf 5 0 (qad (c::r))) 5 0 (qad (c::r)++qad t)=some (.buf 5 0 (qad (c::r)++qad t)):=rfl;unfold qby;simp only[szT5,byT5,zeT5,jb,gV,hx,hc,hr,qko,jD,hk,b1,b2,hbl,hrd,gt,hgo];simp[e2,e3,Heap.drop,qem,gF,get0 g _ hg,kill0 g _ hg,Heap.new,pushF,zju,Nat.beq]
theorem fit_g{H:Heap} {b:Nat} {s:Str} (hs:s≠[]) (h:H.get b=some (.buf 5 0 (qad s))):FitH 0 [(b,0)] [] H ⟨1,[gF 0 s]⟩ where
 nd1:=by simp
 nd2:=by simp
 nd3:=by simp[Heap.ents,gF_ne hs]
 lt:=fun x hx=>by simp at hx;subst hx;exact Nat.zero_lt_one
 idn:=fun x hx h=>by rcases h with h|h<;>exact absurd h (jk _)
 num:=jh _
 src:=fun e he=>by simp[Heap.ents,gF_ne hs]at he;subst he;exact⟨b,_,by simp,h,rfl,jc _,jh _,qaf (qh9 s)⟩
 frz:=fun x hx=>by cases hx
theorem fitV_g{σ:List (Nat × Nat)} {Φ:List (Nat × List AV)} {b:Nat} {s:Str} (h:qb2 b σ=some 0) (hs:s≠[]):qat σ Φ (.slc b 0 s.length (.rest 1)) (gV 0 s):=by rw[gV_ne hs];simp[qat,h]
theorem conv_g{s:Str}:qh7 PG ⟨1,[gF 0 s]⟩ 74 9 (gV 0 s)=some (.str s,⟨1,[gF 0 s]⟩):=by
 cases s with
 |nil=>simp[qh7,gV,qc7,qbb,qm7]
 |cons c r=>have:=qqa (s:=c::r);have h2:=qj6 (c::r);simp only[jx]at this;simp[qh7,gV,gF,qc7,qbb,readCells,zG,this,h2]
def lw(c:UInt8):UInt8:=if 65<=c.toNat/\c.toNat<=90 then c+32 else c
def qg0(s:Str):Str:=s.map lw
theorem u8_add:∀n:Fin 256,65<=n.val->n.val<=90->IntKind.wrap .u8 ((n.val:Int)+32)=((UInt8.ofNat n.val+32).toNat:Int):=by decide +kernel
theorem u8_or:∀n:Fin 256,65<=n.val->n.val<=90->IntKind.wrap .u8 ((BitVec.ofInt 8 (n.val:Int) ||| BitVec.ofInt 8 32).toNat:Int)=((UInt8.ofNat n.val+32).toNat:Int):=by decide +kernel
theorem add8{c:UInt8} (h1:65<=c.toNat) (h2:c.toNat<=90):wr .u8 ((c.toNat:Int)+32)=some ((lw c).toNat:Int):=by have:=u8_add ⟨c.toNat,c.toNat_lt⟩ h1 h2;simp only[UInt8.ofNat_toNat]at this;simp only[wr,lw,h1,h2,and_self,if_true,this]
theorem or8{c:UInt8} (h1:65<=c.toNat) (h2:c.toNat<=90):qdy PG .or 5 (.int .u8 (c.toNat:Int)) (.int .u8 32)=some (.int .u8 ((lw c).toNat:Int)):=by have:=u8_or ⟨c.toNat,c.toNat_lt⟩ h1 h2;simp only[UInt8.ofNat_toNat]at this;have e:qdy PG .or 5 (.int .u8 (c.toNat:Int)) (.int .u8 32)=some (.int .u8 (IntKind.wrap .u8 ((BitVec.ofInt 8 (c.toNat:Int) ||| BitVec.ofInt 8 32).toNat:Int))):=rfl;rw[e,this];simp only[lw,h1,h2,and_self,if_true]
theorem qu8{c:UInt8} (h:¬ (65<=c.toNat/\c.toNat<=90)):lw c=c:=by simp only[lw,h,if_false]
def qwo(s:Str) (i:Nat):Str:=(s.take i).map lw++s.drop i
theorem qn1(s:Str) (i:Nat):(qwo s i).length=s.length:=by simp[qwo];omega
theorem qgk{s:Str} {i:Nat} (h:i < s.length):(qwo s i)[i]'(by rw[qn1];exact h)=s[i]:=by
 have h1:((s.take i).map lw).length=i:=by simp;omega
 simp only[qwo];rw[jv (by omega)];simp only[yc,h1,yN,y4]
theorem qqz{s:Str} {i:Nat} (h:i < s.length):(qwo s i).set i (lw s[i])=qwo s (i+1):=by
 have h1:((s.take i).map lw).length=i:=by simp;omega
 simp only[qwo];rw[yu _ _ (by omega),h1,yN,List.drop_eq_getElem_cons h,List.set_cons_zero,jw h];simp only[j3,jj,ye,List.append_assoc,List.singleton_append]
theorem qn2{s:Str} {i:Nat} (h:i < s.length) (e:lw s[i]=s[i]):qwo s (i+1)=qwo s i:=by
 have:=qqz h;rw[e]at this;rw[<- this];have h2:=qgk h
 conv=>lhs;rw[<- h2]
 exact List.set_getElem_self _
theorem zbe(s:Str):qwo s s.length=qg0 s:=by simp[qwo,qg0]
theorem c161(s:Str) (hl:s.length<=1000000):CA T 161 [.str s] zH (.str (qg0 s)) zH:=by
 refine qa1 (s0:=⟨[0,2,3,4,5,8,9,10],[.str s,uD,uD,uD,uD,uD,uD,uD],[],29,⟨0,[[]]⟩⟩) Tryz.func161 rfl rfl rfl ?_;apply qR;simp[zS];apply qR;simp[zS,conv1 hl];apply qR;simp[zS,len52];refine qa7 (qb1 (fun i:Nat=>(⟨[0,2,3,4,5,8,9,10],[uD,uD,.slc 0 0 s.length (.rest 1),uD,uD,.slc 0 0 s.length (.rest 1),.int .i64 s.length,.int .i64 i],[],29,qes 1 (qwo s i)⟩ : St))
  (fun i=>i<=s.length) (fun i=>s.length - i) [(0,0)] [] 0 (jh _) ⟨rfl,rfl,rfl,by simp[qaz,qat,qp2,qb2,qab],by simpa[qwo]using qi3 (n:=1) (s:=s) rfl⟩ ?_)
 rintro i hi B hB;apply qR;simp[zS];repeat apply wq
 refine qay rfl (fun h=>?_) fun h=>?_
 ·simp at h;apply qa4;simp;repeat apply wq
  apply qa7;have hm:i < (qwo s i).length:=by rw[qn1];exact h
  apply qR;simp[zS,qes,ix52 h,qdz hm,qgk h];by_cases h1:65<=s[i].toNat/\s[i].toNat<=90
  ·have e1:(65:Int)<=s[i].toNat:=(by omega);have e2:(s[i].toNat:Int)<=90:=(by omega);apply qR;simp[zS,qes,ix52 h,qdz hm,qgk h,e1,e2];apply qaj rfl;apply qR;simp[zS,qes,ix52 h,qdz hm,qgk h,or8 h1.1 h1.2,qo3 hm];apply qR;simp[zS,qbd (show i<=1000000000 by omega)];exact hB _ (i+1) (by omega) (by omega) ⟨[(0,0)],[],rfl,rfl,rfl,by simp[qaz,qat,qp2,qb2,qab],qi3 (qqz h)⟩
  ·by_cases e1:(65:Int)<=s[i].toNat
   ·have e2:¬ (s[i].toNat:Int)<=90:=(by omega);apply qR;simp[zS,qes,ix52 h,qdz hm,qgk h,e1,e2];apply qag rfl;apply qa4;simp;apply qR;simp[zS,qbd (show i<=1000000000 by omega)];exact hB _ (i+1) (by omega) (by omega) ⟨[(0,0)],[],rfl,rfl,rfl,by simp[qaz,qat,qp2,qb2,qab],qi3 (qn2 h (qu8 h1)).symm⟩
   ·apply qR;simp[zS,qes,ix52 h,qdz hm,qgk h,e1];apply qag rfl;apply qa4;simp;apply qR;simp[zS,qbd (show i<=1000000000 by omega)];exact hB _ (i+1) (by omega) (by omega) ⟨[(0,0)],[],rfl,rfl,rfl,by simp[qaz,qat,qp2,qb2,qab],qi3 (qn2 h (qu8 h1)).symm⟩
 ·simp at h;apply qau;simp;apply qR;simp[zS,conv2 (qn1 s i)];apply qa3;simp[zQ,Tryz.f161];exact qa2 rfl (by rw[show i=s.length by omega,zbe])
theorem inj_strL(x y:Str) (h:[AV.str x]=[AV.str y]):x=y:=by simpa using h
def e161:Entry PG:=mkE 161 [[]] (fun x:Str=>[.str x]) (fun x=>x.length<=1000000) (fun x=>.str (qg0 x)) fun x hx=>c161 (T:=[]) x hx
theorem k161(hT:qIn 161 T e161) {s:Str} (hl:s.length<=1000000) (H:Heap):qb7 (ctx T) (.fn 161) [.str s] H=some (.str (qg0 s),H):=
 qac hT inj_strL s hl rfl (by simp)
def qpd(a b:Str):Bool:=decide (a.length=b.length) && decide (qg0 a=qg0 b)
theorem c132(hT:qIn 161 T e161) (a b:Str) (ha:a.length<=1000000) (hb:b.length<=1000000):CA T 132 [.str a,.str b] zH (.bool (qpd a b)) zH:=by
 have ka:=fun H=>k161 hT ha H;have kb:=fun H=>k161 hT hb H;by_cases h:a.length=b.length
 ·have h2:(a.length:Int)=b.length:=by omega
  refine qa1 (s0:=⟨[0,1,4],[.str a,.str b,uD],[],17,⟨0,[[]]⟩⟩) Tryz.func132 rfl rfl rfl ?_
  (repeat (first
   |(apply qam)
   |(apply qa7)
   |(apply qcm;simp only[qan,qah])
   |((refine qai qbc ?_);simp[zS,h2,ka,kb])
   |apply qaj rfl
   |apply qag rfl
   |((apply qa4);simp only[qan,qah])
   |((apply qau);simp)))
  apply qa3;simp[zQ,Tryz.f132];exact qa2 rfl (by simp[qpd,h])
 ·have h2:¬ (a.length:Int)=b.length:=by omega
  refine qa1 (s0:=⟨[0,1,4],[.str a,.str b,uD],[],17,⟨0,[[]]⟩⟩) Tryz.func132 rfl rfl rfl ?_
  (repeat (first
   |(apply qam)
   |(apply qa7)
   |(apply qcm;simp only[qan,qah])
   |((refine qai qbc ?_);simp[zS,h,h2,ka,kb])
   |apply qaj rfl
   |apply qag rfl
   |((apply qa4);simp only[qan,qah])
   |((apply qau);simp)))
  apply qa3;simp[zQ,Tryz.f132];exact qa2 rfl (by simp[qpd,h])
def e132:Entry PG:=mkE 132 [[],[]] (fun x:Str × Str=>[.str x.1,.str x.2]) (fun x=>x.1.length<=1000000/\x.2.length<=1000000) (fun x=>.bool (qpd x.1 x.2)) fun x hx=>c132 (T:=[e161]) rfl x.1 x.2 hx.1 hx.2
theorem k132(hT:qIn 132 T e132) {a b:Str} (ha:a.length<=1000000) (hb:b.length<=1000000) (H:Heap):qb7 (ctx T) (.fn 132) [.str a,.str b] H=some (.bool (qpd a b),H):=
 qac hT quh (a,b) ⟨ha,hb⟩ rfl (by simp)
def okN(n:Nd):Prop:=n.name.length<=100000/\n.attrs.length<=1000/\n.data.length<=100000/\∀a,a∈n.attrs->a.1.length<=100000/\a.2.length<=100000
theorem okN.nm{n:Nd} (h:okN n):n.name.length<=1000000000:=by have:=h.1;omega
def okP(L:List Nd):Prop:=L.length<=100000/\∀n,n∈L->okN n
def elB(n:Nd) (W:Str):Bool:=decide (n.kind=1) && decide (n.space=0) && inW W n.name
abbrev lsKSvg:Str:= lsB17
abbrev lsKMath:Str:= lsB13
def qm0(sp:Int) (x:Str):Bool:=if sp=0 then inW lsB16 x else if sp=1 then inW lsKSvg x else if sp=2 then inW lsKMath x else false
theorem c91(hc0:qaa 122 T=some e122a.g) (sp:Int) (x:Str) (hx:x.length<=1000000000):CA T 91 [.int .i64 sp,.str x] zH (.bool (qm0 sp x)) zH:=by
 have kw0:=fun(x:Str) (hx:x.length<=1000000000) (H:Heap)=>k122a (W:= lsB16) (x:=x) hc0 (qry (by decide)) (by decide) hx H;have kw1:=fun(x:Str) (hx:x.length<=1000000000) (H:Heap)=>k122a (W:= lsB17) (x:=x) hc0 (qry (by decide)) (by decide) hx H;have kw2:=fun(x:Str) (hx:x.length<=1000000000) (H:Heap)=>k122a (W:= lsB13) (x:=x) hc0 (qry (by decide)) (by decide) hx H;refine qa1 (s0:=⟨[0,1,4,5],[.int .i64 sp,.str x,uD,uD],[],18,⟨0,[[]]⟩⟩) Tryz.func91 rfl rfl rfl ?_
 (repeat' (first
  |with_reducible apply qam
  |with_reducible apply qa7
  |(with_reducible apply rE;simp[zS, *];exact rfl)
  |(with_reducible apply qax;simp only[qan,qah])
  |(refine qay rfl (fun hc=>?_) (fun hc=>?_)<;>(have hd:=hc;(try simp at hd);(try subst hd)))
  |(with_reducible apply qa4;simp only[qan,qah])
  |(with_reducible apply qa3;simp[zQ,Tryz.f91])))
 all_goals first|exact qa2 rfl (by simp[qm0, *])|(exfalso;omega)
def e91:Entry PG:=mkE 91 [[],[]] (fun z:Int × Str=>[.int .i64 z.1,.str z.2]) (fun z=>(z.2.length<=1000000000)) (fun z=>.bool (qm0 z.1 z.2)) fun z h=>c91 (T:=[e122a]) rfl z.1 z.2 h
theorem k91(hT:qIn 91 T e91) (sp:Int) (x:Str) (hx:x.length<=1000000000) (H:Heap):qb7 (ctx T) (.fn 91) [.int .i64 sp,.str x] H=some (.bool (qm0 sp x),H):=
 qac hT inj_172 (sp,x) hx rfl (by simp[qao])
theorem c85(hc0:qaa 122 T=some e122a.g) (n:Nd) (W:Str) (hW:qdn W) (hl:W.length<=100000) (hx:n.name.length<=1000000000):CA T 85 [qa6 n,.str W] zH (.bool (elB n W)) zH:=by
 have kc0:=@k122a T hc0;refine qa1 (s0:=⟨[0,1,2,4],[qa6 n,.str W,uD,uD],[],19,⟨0,[[]]⟩⟩) Tryz.func85 rfl rfl rfl ?_
 (repeat' (first
  |with_reducible apply qam
  |(with_reducible apply rE;simp[zS, *,qaq];exact rfl)
  |(with_reducible apply qax;simp only[qan,qah])
  |(with_reducible refine qb6 (fun hc=>?_) (fun hc=>?_)<;>(have hd:=hc;(try simp at hd);(try subst hd);apply qf6;simp[zS, *,qaq];exact rfl))
  |(with_reducible apply qa3;simp[zQ,Tryz.f85])))
 all_goals first|exact qa2 rfl (by simp[elB, *])|(exfalso;omega)
theorem inj_85(x y:Nd × Str) (h:(fun z:Nd × Str=>([qa6 z.1,.str z.2]:List AV)) x=(fun z:Nd × Str=>([qa6 z.1,.str z.2]:List AV)) y):x=y:=by obtain⟨x0,x1⟩:=x;obtain⟨y0,y1⟩:=y;simp only[j4,and_true]at h;obtain⟨h0,h1⟩:=h;have g0:x0=y0:=qcw h0;have g1:x1=y1:=AV.str.inj h1;subst g0 g1;rfl
def e85:Entry PG:=mkE 85 [[0,0,0,2,0,0,1],[]] (fun z:Nd × Str=>[qa6 z.1,.str z.2]) (fun z=>(qdn z.2)/\(z.2.length<=100000)/\(z.1.name.length<=1000000000)) (fun z=>.bool (elB z.1 z.2)) fun z h=>c85 (T:=[e122a]) rfl z.1 z.2 h.1 h.2.1 h.2.2
theorem k85(hT:qIn 85 T e85) (n:Nd) (W:Str) (hW:qdn W) (hl:W.length<=100000) (hx:n.name.length<=1000000000) (H:Heap):qb7 (ctx T) (.fn 85) [qa6 n,.str W] H=some (.bool (elB n W),H):=
 qac hT inj_85 (n,W) ⟨hW,hl,hx⟩ rfl (by simp[qao])
theorem qvs{n:Nat} (h:0 < n) (hn:n<=1000000000):wr .i64 ((n:Int) - 1)=some ((n - 1:Nat):Int):=by rw[qdi (by omega) (by omega)];congr 1;omega
def qap(L:List Nd):Nd:=if L=[] then ⟨1,0,[100,105,118],[],[],0,[]⟩ else qa0 L ((L.length - 1:Nat):Int)
theorem c82(L:List Nd) (hl:L.length<=1000000):CA T 82 [qa8 L] zH (qa6 (qap L)) zH:=by
 by_cases he:L=[]
 ·subst he;have bld:qgq PG 34 [(0,.int .i64 1),(2,.str [100,105,118])]=some (.agg [.int .i64 1,.int .i64 0,.str [100,105,118],.nilS,.str [],.int .i64 0,.nilS]):=rfl;have l0:∀H,qer PG H 22 (qa8 [])=some 0:=fun H=>rfl;refine qa1 (s0:=⟨[0,2,3],[qa8 [],uD,uD],[],14,⟨0,[[]]⟩⟩) Tryz.func82 rfl rfl rfl ?_;apply qR;simp[zS];apply qR;simp[zS,l0];apply qR;simp[zS,l0];apply qag rfl;apply qa4;simp;apply qR;simp[zS,bld];apply qa3;simp[zQ,Tryz.f82,readCells,zG,Blk.rd];refine⟨[],[],?_,FitH.empty⟩;simp[qap,qa6,Nd.cs,qbm,qbl,qal,qat,qaz,qab]
 ·have h:0 < L.length:=j8.2 he;have hi:(0:Int) < (L.length:Int):=by omega
  have hs:=qvs h (by omega);have ha:=atX (t:=L) (i:=((L.length - 1:Nat):Int)) (by omega) (by omega);have hp:qap L=qa0 L ((L.length - 1:Nat):Int):=by unfold qap;rw[if_neg he]
  rw[hp];refine qa1 (s0:=⟨[0,2,3],[qa8 L,uD,uD],[],14,⟨0,[[]]⟩⟩) Tryz.func82 rfl rfl rfl ?_;apply qR;simp[zS];apply qR;simp[zS,qhn];apply qR;simp[zS,h,hi];refine qaj (by simp[qc0,St.get,h]) ?_;apply qR;simp[zS,hs,ha,qaq];apply qa3;simp[zQ,Tryz.f82,readCells,zG,Blk.rd,qaq];exact⟨[],[],FitH.empty⟩
theorem inj_82(x y:List Nd) (h:(fun z:List Nd=>([qa8 z]:List AV)) x=(fun z:List Nd=>([qa8 z]:List AV)) y):x=y:=by simp only[j4,and_true]at h;exact qcl h
def e82:Entry PG:=mkE 82 [[7]] (fun z:List Nd=>[qa8 z]) (fun z=>(z.length<=1000000)) (fun z=>qa6 (qap z)) fun z h=>c82 (T:=[])  z h
theorem k82(hT:qIn 82 T e82) (L:List Nd) (hl:L.length<=1000000) (H:Heap):qb7 (ctx T) (.fn 82) [qa8 L] H=some (qa6 (qap L),H):=
 qd2 hT inj_82 (L) hl (by simp[qa9,qab,qao]) (by simp[qao]) H
theorem c94(u:Nd) (n:Nd):CA T 94 [qa6 u,qa6 n] zH (.bool (decide (n.space=u.space) || (decide (u.space=2) && decide (u.name=[97,110,110,111,116,97,116,105,111,110,45,120,109,108]) && decide (n.space=1) && decide (n.name=[115,118,103])))) zH:=by
 refine qa1 (s0:=⟨[0,1,2,3,4],[qa6 u,qa6 n,uD,uD,uD],[],28,⟨0,[[]]⟩⟩) Tryz.func94 rfl rfl rfl ?_
 (repeat' (first
  |with_reducible apply qam
  |(with_reducible apply rE;simp[zS, *,qaq];exact rfl)
  |(with_reducible apply qax;simp only[qan,qah])
  |(with_reducible refine qb6 (fun hc=>?_) (fun hc=>?_)<;>(have hd:=hc;(try simp at hd);(try subst hd);apply qf6;simp[zS, *,qaq];exact rfl))
  |(refine qay rfl (fun hc=>?_) (fun hc=>?_)<;>(have hd:=hc;(try simp at hd);(try subst hd)))
  |(with_reducible apply qa4;simp only[qan,qah])
  |(with_reducible apply qa3;simp[zQ,Tryz.f94])))
 all_goals first|exact qa2 rfl (by first|(simp[*];done)|(simp_all;done))|(exfalso;omega)
theorem inj_94(x y:Nd × Nd) (h:(fun z:Nd × Nd=>([qa6 z.1,qa6 z.2]:List AV)) x=(fun z:Nd × Nd=>([qa6 z.1,qa6 z.2]:List AV)) y):x=y:=by obtain⟨x0,x1⟩:=x;obtain⟨y0,y1⟩:=y;simp only[j4,and_true]at h;obtain⟨h0,h1⟩:=h;have g0:x0=y0:=qcw h0;have g1:x1=y1:=qcw h1;subst g0 g1;rfl
def e94:Entry PG:=mkE 94 [[0,0,0,2,0,0,1],[0,0,0,2,0,0,1]] (fun z:Nd × Nd=>[qa6 z.1,qa6 z.2]) (fun z=>True) (fun z=>.bool (decide (z.2.space=z.1.space) || (decide (z.1.space=2) && decide (z.1.name=[97,110,110,111,116,97,116,105,111,110,45,120,109,108]) && decide (z.2.space=1) && decide (z.2.name=[115,118,103])))) fun z h=>c94 (T:=[])  z.1 z.2 
theorem k94(hT:qIn 94 T e94) (u:Nd) (n:Nd) (H:Heap):qb7 (ctx T) (.fn 94) [qa6 u,qa6 n] H=some (.bool (decide (n.space=u.space) || (decide (u.space=2) && decide (u.name=[97,110,110,111,116,97,116,105,111,110,45,120,109,108]) && decide (n.space=1) && decide (n.name=[115,118,103]))),H):=
 qac hT inj_94 (u,n) trivial rfl (by simp[qao])
theorem sp_mi:qbv qt1=[[109,105],[109,110],[109,111],[109,115],[109,116,101,120,116]]:=by decide +kernel
theorem in_mi(x:Str):inW qt1 x=decide (x=[109,105]\/x=[109,110]\/x=[109,111]\/x=[109,115]\/x=[109,116,101,120,116]):=by unfold inW;rw[sp_mi];simp
def qgb(n:Nd):Bool:=decide (n.kind=1) && decide (n.space=2) && inW qt1 n.name
theorem c92(n:Nd):CA T 92 [qa6 n] zH (.bool (qgb n)) zH:=by
 refine qa1 (s0:=⟨[0,1,2,4,5],[qa6 n,uD,uD,uD,uD],[],19,⟨0,[[]]⟩⟩) Tryz.func92 rfl rfl rfl ?_
 (repeat' (first
  |with_reducible apply qam
  |with_reducible apply qa7
  |(with_reducible apply rE;simp[zS, *,qaq];exact rfl)
  |(with_reducible apply qax;simp only[qan,qah])
  |(with_reducible refine qb6 (fun hc=>?_) (fun hc=>?_)<;>(have hd:=hc;(try simp at hd);(try subst hd);apply qf6;simp[zS, *,qaq];exact rfl))
  |(refine qay rfl (fun hc=>?_) (fun hc=>?_)<;>(have hd:=hc;(try simp at hd);(try subst hd)))
  |(with_reducible apply qa4;simp only[qan,qah])
  |(with_reducible apply qa3;simp[zQ,Tryz.f92])))
 all_goals first|exact qa2 rfl (by first|(simp[qgb,in_mi, *];done)|(simp_all [qgb,in_mi];done))|(exfalso;omega)
theorem inj_92(x y:Nd) (h:(fun z:Nd=>([qa6 z]:List AV)) x=(fun z:Nd=>([qa6 z]:List AV)) y):x=y:=by simp only[j4,and_true]at h;exact qcw h
def e92:Entry PG:=mkE 92 [[0,0,0,2,0,0,1]] (fun z:Nd=>[qa6 z]) (fun z=>True) (fun z=>.bool (qgb z)) fun z h=>c92 (T:=[])  z 
theorem k92(hT:qIn 92 T e92) (n:Nd) (H:Heap):qb7 (ctx T) (.fn 92) [qa6 n] H=some (.bool (qgb n),H):=
 qac hT inj_92 (n) trivial rfl (by simp[qao])
def qf7(n:Nd):Bool:=decide (n.kind=1) && (decide (n.space=1) && inW lsSvg n.name || decide (n.space=2) && match qhi [101,110,99,111,100,105,110,103] n.attrs with
 |none=>false
 |some v=>decide (n.name=[97,110,110,111,116,97,116,105,111,110,45,120,109,108]) && (qpd v [116,101,120,116,47,104,116,109,108] || qpd v [97,112,112,108,105,99,97,116,105,111,110,47,120,104,116,109,108,43,120,109,108]))
theorem qrh{nm v:Str} {m:Nat}:∀{L:List At1},(∀a,a∈L->a.1.length<=m/\a.2.length<=m)->qhi nm L=some v->v.length<=m
 |[],_,h=>by simp[qhi]at h
 |a::r,hl,h=>by
  unfold qhi at h;split at h
  ·simp only[sj]at h;rw[<- h];exact(hl a (by simp)).2
  ·exact qrh (fun b hb=>hl b (by simp[hb])) h
theorem c93(hc0:qaa 122 T=some e122a.g) (hc1:qIn 131 T e131) (hc2:qIn 132 T e132) (n:Nd) (h:okN n):CA T 93 [qa6 n] zH (.bool (qf7 n)) zH:=by
 have kw0:=fun(x:Str) (hx:x.length<=1000000000) (H:Heap)=>k122a (W:= lsB0) (x:=x) hc0 (qry (by decide)) (by decide) hx H;have kc1:=@k131 T hc1;have kc2:=@k132 T hc2;have hx:=h.nm;have hg:=fun H=>k131 (nm:=[101,110,99,111,100,105,110,103]) hc1 h.2.1 (qjq H n.attrs);cases hv:qhi [101,110,99,111,100,105,110,103] n.attrs with
 |none=>
  rw[hv]at hg;simp only[zbv]at hg;refine qa1 (s0:=⟨[0,1,2,3,4,9],[qa6 n,uD,uD,uD,uD,uD],[],37,⟨0,[[]]⟩⟩) Tryz.func93 rfl rfl rfl ?_
  (repeat' (first
   |with_reducible apply qam
   |with_reducible apply qa7
   |(with_reducible apply rE;simp[zS, *,qaq];exact rfl)
   |(with_reducible apply qax;simp only[qan,qah])
   |(refine qay rfl (fun hc=>?_) (fun hc=>?_)<;>(have hd:=hc;(try simp at hd);(try subst hd)))
   |(with_reducible apply qa4;simp only[qan,qah])
   |(with_reducible apply qa3;simp[zQ,Tryz.f93])))
  all_goals first|exact qa2 rfl (by first|(simp[qf7, *];done)|(simp_all [qf7];done))|(exfalso;omega)
 |some v=>
  rw[hv]at hg;have lv:v.length<=1000000:=by have:=qrh h.2.2.2 hv;omega
  simp only[zbv]at hg;refine qa1 (s0:=⟨[0,1,2,3,4,9],[qa6 n,uD,uD,uD,uD,uD],[],37,⟨0,[[]]⟩⟩) Tryz.func93 rfl rfl rfl ?_
  (repeat' (first
   |with_reducible apply qam
   |with_reducible apply qa7
   |(with_reducible apply rE;simp[zS, *,qaq];exact rfl)
   |(with_reducible apply qax;simp only[qan,qah])
   |(with_reducible refine qb6 (fun hc=>?_) (fun hc=>?_)<;>(have hd:=hc;(try simp at hd);(try subst hd);apply qf6;simp[zS, *,qaq];exact rfl))
   |(refine qay rfl (fun hc=>?_) (fun hc=>?_)<;>(have hd:=hc;(try simp at hd);(try subst hd)))
   |(with_reducible apply qa4;simp only[qan,qah])
   |(with_reducible apply qa3;simp[zQ,Tryz.f93])))
  all_goals first|exact qa2 rfl (by first|(simp[qf7, *];done)|(simp_all [qf7];done))|(exfalso;omega)
def e93:Entry PG:=mkE 93 [[0,0,0,2,0,0,1]] (fun z:Nd=>[qa6 z]) (fun z=>(okN z)) (fun z=>.bool (qf7 z)) fun z h=>c93 (T:=[e122a,e131,e132]) rfl rfl rfl z h
theorem k93(hT:qIn 93 T e93) (n:Nd) (h:okN n) (H:Heap):qb7 (ctx T) (.fn 93) [qa6 n] H=some (.bool (qf7 n),H):=
 qac hT inj_92 (n) h rfl (by simp[qao])
def cN(s:Str) (i:Nat):Nat:=(s.getD i 0).toNat
def qdg(c:Nat):Nat:=if c < 194 then 0 else if c < 224 then 1 else if c < 240 then 2 else if c < 245 then 3 else 0
def loN(c:Nat):Nat:=if c=224 then 160 else if c=240 then 144 else 128
def hiN(c:Nat):Nat:=if c=237 then 159 else if c=244 then 143 else 191
def qld(s:Str) (i lo hi:Nat):Bool:=decide (i < s.length) && (decide (lo<=cN s i) && decide (cN s i<=hi))
def ql9(s:Str):Nat->Nat->Nat->Nat->Nat × Bool
 |0,i,_,_=>(i,true)
 |k+1,i,lo,hi=>if qld s i lo hi=true then ql9 s k (i+1) 128 191 else (i,false)
def qdt(s:Str):Nat × Bool:=if cN s 0 < 128 then (1,true) else if qdg (cN s 0)=0 then (1,false) else ql9 s (qdg (cN s 0)) 1 (loN (cN s 0)) (hiN (cN s 0))
def oneA(x:Nat × Bool):AV:=.tup [.int .i64 (x.1:Int),.bool x.2]
theorem qkl{s:Str} {i:Nat} (h:i < s.length):s[i].toNat=cN s i:=by simp[cN,List.getD_eq_getElem?_getD,List.getElem?_eq_getElem h]
theorem qu7(c:Nat):qdg c<=3:=by unfold qdg;split<;>(try split)<;>(try split)<;>(try split)<;>omega
set_option maxHeartbeats 1000000
theorem c97(s:Str) (hne:0 < s.length) (hl:s.length<=1000000):CA T 97 [aB s] zH (oneA (qdt s)) zH:=by
 have h0:=atB (s:=s) (i:=0) hne;rw[qkl hne]at h0;simp only[Int.ofNat_zero,Int.cast_ofNat_Int,Int.natCast_zero]at h0;have hb:=(s[0]'hne).toNat_lt;rw[qkl hne]at hb;obtain⟨R,hRe⟩ : ∃R,R=qdt s:=⟨_,rfl⟩;rw[<- hRe];rw[show qdt s=if cN s 0 < 128 then (1,true) else if qdg (cN s 0)=0 then (1,false) else ql9 s (qdg (cN s 0)) 1 (loN (cN s 0)) (hiN (cN s 0)) from rfl]at hRe;obtain⟨c,hc⟩ : ∃c,c=cN s 0:=⟨_,rfl⟩;rw[<- hc]at hRe h0 hb;clear hc;have h3:=qu7 c;refine qa1 (s0:=⟨[0,2,3,4,5,6,7,8],[aB s,uD,uD,uD,uD,uD,uD,uD],[],70,⟨0,[[]]⟩⟩) Tryz.func97 rfl rfl rfl ?_;apply qR;simp[zS];apply qR;simp[zS,h0];by_cases hlt:c < 128
 ·have hltI:(c:Int) < 128:=by omega
  apply qR;simp[zS,hlt,hltI];apply qaj rfl;apply qR;simp[zS];apply qa3;simp[zQ,Tryz.f97];exact qa2 rfl (by rw[hRe,if_pos hlt];simp[oneA])
 rw[if_neg hlt]at hRe;have hltI:¬ (c:Int) < 128:=by omega
 apply qR;simp[zS,hlt,hltI];apply qag rfl;apply qa4;simp;apply qR;simp[zS];clear h0 hlt hltI;obtain⟨v0,hv0⟩ : ∃x:Int,x=if (194:Int)<=c/\(c:Int)<=223 then 1 else 0:=⟨_,rfl⟩;refine qg2 ((⟨[0,2,3,4,5,6,7,8],[aB s,.int .i64 0,.bool false,.int .u8 (c:Int),.int .i64 v0,.int .u8 128,.int .u8 191,uD],[],70,⟨0,[[]]⟩⟩ : St)) ?_ fun hj=>?_
 rotate_left
 ·by_cases q1:(194:Int)<=c
  ·by_cases q2:(c:Int)<=223
   ·rw[if_pos ⟨q1,q2⟩]at hv0;apply qR;simp[zS,q1,q2];apply qaj rfl;apply qR;simp[zS];exact hj _ ⟨[],[],⟨rfl,rfl,rfl,by simp[qaz,qat,qab,qa9,aB,hv0],FitH.nothing⟩⟩
   ·rw[if_neg (fun e=>q2 e.2)]at hv0;apply qR;simp[zS,q1,q2];apply qag rfl;apply qa4;simp;exact hj _ ⟨[],[],⟨rfl,rfl,rfl,by simp[qaz,qat,qab,qa9,aB,hv0],FitH.nothing⟩⟩
  ·rw[if_neg (fun e=>q1 e.1)]at hv0;apply qR;simp[zS,q1];apply qag rfl;apply qa4;simp;exact hj _ ⟨[],[],⟨rfl,rfl,rfl,by simp[qaz,qat,qab,qa9,aB,hv0],FitH.nothing⟩⟩
 obtain⟨v1,hv1⟩ : ∃x:Int,x=if (224:Int)<=c/\(c:Int)<=239 then 2 else v0:=⟨_,rfl⟩;refine qg2 ((⟨[0,2,3,4,5,6,7,8],[aB s,.int .i64 0,.bool false,.int .u8 (c:Int),.int .i64 v1,.int .u8 128,.int .u8 191,uD],[],70,⟨0,[[]]⟩⟩ : St)) ?_ fun hj=>?_
 rotate_left
 ·by_cases q1:(224:Int)<=c
  ·by_cases q2:(c:Int)<=239
   ·rw[if_pos ⟨q1,q2⟩]at hv1;apply qR;simp[zS,q1,q2];apply qaj rfl;apply qR;simp[zS];exact hj _ ⟨[],[],⟨rfl,rfl,rfl,by simp[qaz,qat,qab,qa9,aB,hv1],FitH.nothing⟩⟩
   ·rw[if_neg (fun e=>q2 e.2)]at hv1;apply qR;simp[zS,q1,q2];apply qag rfl;apply qa4;simp;exact hj _ ⟨[],[],⟨rfl,rfl,rfl,by simp[qaz,qat,qab,qa9,aB,hv1],FitH.nothing⟩⟩
  ·rw[if_neg (fun e=>q1 e.1)]at hv1;apply qR;simp[zS,q1];apply qag rfl;apply qa4;simp;exact hj _ ⟨[],[],⟨rfl,rfl,rfl,by simp[qaz,qat,qab,qa9,aB,hv1],FitH.nothing⟩⟩
 obtain⟨v2,hv2⟩ : ∃x:Int,x=if (240:Int)<=c/\(c:Int)<=244 then 3 else v1:=⟨_,rfl⟩;refine qg2 ((⟨[0,2,3,4,5,6,7,8],[aB s,.int .i64 0,.bool false,.int .u8 (c:Int),.int .i64 v2,.int .u8 128,.int .u8 191,uD],[],70,⟨0,[[]]⟩⟩ : St)) ?_ fun hj=>?_
 rotate_left
 ·by_cases q1:(240:Int)<=c
  ·by_cases q2:(c:Int)<=244
   ·rw[if_pos ⟨q1,q2⟩]at hv2;apply qR;simp[zS,q1,q2];apply qaj rfl;apply qR;simp[zS];exact hj _ ⟨[],[],⟨rfl,rfl,rfl,by simp[qaz,qat,qab,qa9,aB,hv2],FitH.nothing⟩⟩
   ·rw[if_neg (fun e=>q2 e.2)]at hv2;apply qR;simp[zS,q1,q2];apply qag rfl;apply qa4;simp;exact hj _ ⟨[],[],⟨rfl,rfl,rfl,by simp[qaz,qat,qab,qa9,aB,hv2],FitH.nothing⟩⟩
  ·rw[if_neg (fun e=>q1 e.1)]at hv2;apply qR;simp[zS,q1];apply qag rfl;apply qa4;simp;exact hj _ ⟨[],[],⟨rfl,rfl,rfl,by simp[qaz,qat,qab,qa9,aB,hv2],FitH.nothing⟩⟩
 obtain⟨v3,hv3⟩ : ∃x:Int,x=if (c:Int)=224 then 160 else 128:=⟨_,rfl⟩;refine qg2 ((⟨[0,2,3,4,5,6,7,8],[aB s,.int .i64 0,.bool false,.int .u8 (c:Int),.int .i64 v2,.int .u8 v3,.int .u8 191,uD],[],70,⟨0,[[]]⟩⟩ : St)) ?_ fun hj=>?_
 rotate_left
 ·by_cases q1:(c:Int)=224
  ·rw[if_pos q1]at hv3;apply qR;simp[zS,q1];apply qaj rfl;apply qR;simp[zS];exact hj _ ⟨[],[],⟨rfl,rfl,rfl,by simp[qaz,qat,qab,qa9,aB,hv3,q1],FitH.nothing⟩⟩
  ·rw[if_neg q1]at hv3;apply qR;simp[zS,q1];apply qag rfl;apply qa4;simp;exact hj _ ⟨[],[],⟨rfl,rfl,rfl,by simp[qaz,qat,qab,qa9,aB,hv3],FitH.nothing⟩⟩
 obtain⟨v4,hv4⟩ : ∃x:Int,x=if (c:Int)=237 then 159 else 191:=⟨_,rfl⟩;refine qg2 ((⟨[0,2,3,4,5,6,7,8],[aB s,.int .i64 0,.bool false,.int .u8 (c:Int),.int .i64 v2,.int .u8 v3,.int .u8 v4,uD],[],70,⟨0,[[]]⟩⟩ : St)) ?_ fun hj=>?_
 rotate_left
 ·by_cases q1:(c:Int)=237
  ·rw[if_pos q1]at hv4;apply qR;simp[zS,q1];apply qaj rfl;apply qR;simp[zS];exact hj _ ⟨[],[],⟨rfl,rfl,rfl,by simp[qaz,qat,qab,qa9,aB,hv4,q1],FitH.nothing⟩⟩
  ·rw[if_neg q1]at hv4;apply qR;simp[zS,q1];apply qag rfl;apply qa4;simp;exact hj _ ⟨[],[],⟨rfl,rfl,rfl,by simp[qaz,qat,qab,qa9,aB,hv4],FitH.nothing⟩⟩
 obtain⟨v5,hv5⟩ : ∃x:Int,x=if (c:Int)=240 then 144 else v3:=⟨_,rfl⟩;refine qg2 ((⟨[0,2,3,4,5,6,7,8],[aB s,.int .i64 0,.bool false,.int .u8 (c:Int),.int .i64 v2,.int .u8 v5,.int .u8 v4,uD],[],70,⟨0,[[]]⟩⟩ : St)) ?_ fun hj=>?_
 rotate_left
 ·by_cases q1:(c:Int)=240
  ·rw[if_pos q1]at hv5;apply qR;simp[zS,q1];apply qaj rfl;apply qR;simp[zS];exact hj _ ⟨[],[],⟨rfl,rfl,rfl,by simp[qaz,qat,qab,qa9,aB,hv5,q1],FitH.nothing⟩⟩
  ·rw[if_neg q1]at hv5;apply qR;simp[zS,q1];apply qag rfl;apply qa4;simp;exact hj _ ⟨[],[],⟨rfl,rfl,rfl,by simp[qaz,qat,qab,qa9,aB,hv5],FitH.nothing⟩⟩
 obtain⟨v6,hv6⟩ : ∃x:Int,x=if (c:Int)=244 then 143 else v4:=⟨_,rfl⟩;refine qg2 ((⟨[0,2,3,4,5,6,7,8],[aB s,.int .i64 0,.bool false,.int .u8 (c:Int),.int .i64 v2,.int .u8 v5,.int .u8 v6,uD],[],70,⟨0,[[]]⟩⟩ : St)) ?_ fun hj=>?_
 rotate_left
 ·by_cases q1:(c:Int)=244
  ·rw[if_pos q1]at hv6;apply qR;simp[zS,q1];apply qaj rfl;apply qR;simp[zS];exact hj _ ⟨[],[],⟨rfl,rfl,rfl,by simp[qaz,qat,qab,qa9,aB,hv6,q1],FitH.nothing⟩⟩
  ·rw[if_neg q1]at hv6;apply qR;simp[zS,q1];apply qag rfl;apply qa4;simp;exact hj _ ⟨[],[],⟨rfl,rfl,rfl,by simp[qaz,qat,qab,qa9,aB,hv6],FitH.nothing⟩⟩
 have hm:v2=(qdg c:Nat):=by rw[hv2,hv1,hv0];unfold qdg;(repeat' split)<;>omega
 have hlo:v5=(loN c:Nat):=by rw[hv5,hv3];unfold loN;(repeat' split)<;>omega
 have hhi:v6=(hiN c:Nat):=by rw[hv6,hv4];unfold hiN;(repeat' split)<;>omega
 rw[hm,hlo,hhi];clear hv0 hv1 hv2 hv3 hv4 hv5 hv6 hm hlo hhi;by_cases hz:qdg c=0
 ·have hzI:(qdg c:Int)=0:=by omega
  apply qR;simp[zS,hz,hzI];apply qaj rfl;apply qR;simp[zS];apply qa3;simp[zQ,Tryz.f97];exact qa2 rfl (by rw[hRe,if_pos hz];simp[oneA])
 rw[if_neg hz]at hRe;have hzI:¬ (qdg c:Int)=0:=by omega
 apply qR;simp[zS,hz,hzI];apply qag rfl;apply qa4;simp;apply qR;simp[zS];refine qa7 (qb1 (fun x:Nat × Nat × Nat × Nat=>(⟨[0,2,3,4,5,6,7,8],[aB s,.int .i64 0,.bool false,.int .u8 (c:Int),.int .i64 (qdg c:Nat),.int .u8 (x.2.2.1:Nat),.int .u8 (x.2.2.2:Nat),.int .i64 (x.2.1:Nat)],[],70,⟨0,[[]]⟩⟩ : St))
  (fun x=>x.2.1+x.1=qdg c+1/\1<=x.2.1/\ql9 s x.1 x.2.1 x.2.2.1 x.2.2.2=R) (fun x=>x.1) [] [] (qdg c,1,loN c,hiN c) ⟨by simp only;omega,jc _,hRe.symm⟩ ⟨rfl,rfl,rfl,by simp[qaz,qat,qab,qa9,aB],FitH.nothing⟩ ?_)
 rintro⟨k,i,lo,hi⟩ ⟨hk,hi1,hg⟩ B hB;simp only at hk hi1 hg hB;clear hRe;cases k with
 |zero=>
  have hx:¬ (i:Int)<=(qdg c:Int):=by omega
  apply qR;simp[zS,hx];refine qag (by simp[qc0,St.get,hx]) ?_;apply qau;simp;have ha:=qbd (show qdg c<=1000000000 by omega);apply qR;simp[zS,ha];apply qa3;simp[zQ,Tryz.f97];exact qa2 rfl (by rw[<- hg,show i=qdg c+1 by omega];simp[oneA,ql9])
 |succ k=>
  have hx:(i:Int)<=(qdg c:Int):=by omega
  apply qR;simp[zS,hx];refine qaj (by simp[qc0,St.get,hx]) ?_;apply qa4;simp;repeat apply wq
  apply qa7;have fail:qld s i lo hi=false->R=(i,false):=fun h=>by rw[<- hg];simp[ql9,h]
  by_cases q1:i < s.length
  ·have p1:¬ (s.length:Int)<=(i:Int):=(by omega);have p1':¬ s.length<=i:=(by omega);have ha:=atB (s:=s) q1;rw[qkl q1]at ha;by_cases q2:(cN s i:Int) < (lo:Int)
   ·have q2':cN s i < lo:=(by omega);apply qR;simp[zS,qsb,p1,p1',ha,q2,q2'];apply qaj rfl;apply qR;simp[zS];apply qa3;simp[zQ,Tryz.f97];exact qa2 rfl (by rw[fail (by simp[qld,q1];omega)];simp[oneA])
   ·have q2':¬ cN s i < lo:=(by omega);by_cases q3:(hi:Int) < (cN s i:Int)
    ·have q3':hi < cN s i:=(by omega);apply qR;simp[zS,qsb,p1,p1',ha,q2,q3,q2',q3'];apply qaj rfl;apply qR;simp[zS];apply qa3;simp[zQ,Tryz.f97];exact qa2 rfl (by rw[fail (by simp[qld,q1];omega)];simp[oneA])
    ·have q3':¬ hi < cN s i:=(by omega);apply qR;simp[zS,qsb,p1,p1',ha,q2,q3,q2',q3'];apply qag rfl;apply qa4;simp;apply qR;simp[zS];apply qR;simp[zS,qbd (show i<=1000000000 by omega)];have hcn:qld s i lo hi=true:=(by simp[qld,q1];omega);refine hB _ (k,i+1,128,191) (by simp only;omega) ⟨by simp only;omega,by simp only;omega,by simp only;rw[<- hg];simp[ql9,hcn]⟩ ⟨[],[],⟨rfl,rfl,rfl,by simp[qaz,qat,qab,qa9,aB],FitH.nothing⟩⟩
  ·have p1:(s.length:Int)<=(i:Int):=(by omega);have p1':s.length<=i:=(by omega);apply qR;simp[zS,qsb,p1,p1'];apply qaj rfl;apply qR;simp[zS];apply qa3;simp[zQ,Tryz.f97];exact qa2 rfl (by rw[fail (by simp[qld];omega)];simp[oneA])
def e97:Entry PG:=mkE 97 [[1]] (fun x:Str=>[aB x]) (fun x=>0 < x.length/\x.length<=1000000) (fun x=>oneA (qdt x)) fun x h=>c97 (T:=[]) x h.1 h.2
theorem k97(hT:qIn 97 T e97) {s:Str} (h1:0 < s.length) (h2:s.length<=1000000) (H:Heap):qb7 (ctx T) (.fn 97) [aB s] H=some (oneA (qdt s),H):=
 qac hT qx2 s ⟨h1,h2⟩ rfl (by simp[aB])
