/- A variable and its rows stay, all else is left. No condition. -/
import Derived.Test.YtocnpnnplllneaaGreatDoorMI
namespace Go.Proofs.YtocnpnnplllneaaGreatDoor
noncomputable section
set_option linter.unusedSimpArgs false
set_option linter.unusedVariables false
open Go Go.RowKit
set_option maxRecDepth 100000
mutual
theorem qig:∀(n:Nat) (v:AV),qab v=true->refs n v=[]
 |0,_,_=>rfl
 |n+1,v,h=>by
  cases v with
  |func fn a c=>simp only[qab,Bool.and_eq_true]at h;simp only[refs,qe3 n a h.1,qe3 n c h.2,List.append_nil]
  |iface t v=>simp only[qab]at h;simp only[refs,qig n v h]
  |agg cs=>simp only[qab]at h;simp only[refs,qe3 n cs h]
  |tup cs=>simp only[qab]at h;simp only[refs,qe3 n cs h]
  |_=>first|rfl|(simp[qab]at h)
theorem qe3:∀(n:Nat) (l:List AV),qa9 l=true->l.flatMap (refs n)=[]
 |_,[],_=>rfl
 |n,v::r,h=>by simp only[qa9,Bool.and_eq_true]at h;rw[List.flatMap_cons,qig n v h.1,qe3 n r h.2];rfl
end
def VE(pb:Nat) (pre:List AV) (k sz:Nat) (es:List AV) (post:List AV) (g:List (Nat × Blk)):List (Nat × Blk):=(pb,.cells (pre++qcx k sz es::post))::(qdd k es++g)
structure Eok (m pb:Nat) (pre:List AV) (k sz:Nat) (es:List AV) (post:List AV) (g:List (Nat × Blk)):Prop where
 lp:pb < m
 lk:k < m/\k ∉ pb::g.map (·.1)
 lg:∀e,e∈g->e.1 < m
 nd:(pb::g.map (·.1)).Nodup
 sg:∀e,e∈g->SelfB m e.2
 sp:∀σ,Idl m σ->qax σ [] pre pre
 sq:∀σ,Idl m σ->qax σ [] post post
 el:Elems sz es
section
variable {m n pb k sz:Nat} {pre post es:List AV} {g f:List (Nat × Blk)}
theorem VE_p:getF pb (VE pb pre k sz es post g)=some (.cells (pre++qcx k sz es::post)):=by simp[VE,getF]
theorem qxz{b:Nat}:∀{l:List (Nat × Blk)},b ∉ l.map (·.1)->getF b l=none
 |[],_=>rfl
 |e::r,h=>by simp only[List.map_cons,List.mem_cons,not_or]at h;unfold getF;rw[qao fun x=>h.1 x.symm];exact qxz h.2
theorem Eok.k_p(h:Eok m pb pre k sz es post g):Nat.beq pb k=false:=qao fun e=>h.lk.2 (by simp[e])
theorem qx1(h:Eok m pb pre k sz es post g) (hne:es≠[]):getF k (VE pb pre k sz es post g)=some (.cells (qa6 es)):=by unfold VE getF;rw[h.k_p,qbn hne];simp[getF]
theorem qmq{l:List (Nat × Blk)} (nd:(l.map (·.1)).Nodup) {e:Nat × Blk} (he:e∈l):getF e.1 l=some e.2:=by
 have:=qgj (fs:=[l]) (b:=e.1) (k:=e.2) (by simpa using nd) (by simpa using he);simp only[getFs]at this;revert this;cases getF e.1 l with
 |none=>intro h;cases h
 |some x=>intro h;exact h
theorem drop_E(h:Eok m pb pre k sz es post g) (hf:∀i,i < m->getF i f=none):Heap.drop ⟨n,[f,VE pb pre k sz es post g]⟩ k=⟨n,[f,(pb,.cells (pre++qcx k sz es::post))::g]⟩:=by
 have h1:getF k f=none:=hf k h.lk.1;have h2:=h.lk.2;simp only[List.mem_cons,not_or]at h2;unfold Heap.drop;simp only;unfold qen;rw[h1];simp only;unfold qen;unfold VE getF;rw[h.k_p];cases es with
 |nil=>simp only[qdd,List.nil_append];rw[qxz h2.2];simp[qen]
 |cons y r=>rw[qbn (by simp)];simp[getF,killF,h.k_p]
theorem app_E{P:Program} {elem:TypeId} {by_:Nat} {z:AV} (hsz:qce P elem=some sz) (hby:qcq P elem=some by_) (hz:qc0 P elem=some z) (hzl:z.cells.length=sz) (hb0:by_≠0) (h:Eok m pb pre k sz es post g) {t:Nat} {e:AV} (hel:e.cells.length=sz) (hsg:allSingle e.cells=true)
  (hf:∀i,i < m->getF i f=none) (ht:getF t f=some (.cells e.cells)) (hl:(es.length+1) * by_<=17592186044416) (hrow:∀cs,qom P elem cs=.cells cs) :
  qbz P ⟨n,[f,VE pb pre k sz es post g]⟩ elem (qcx k sz es) (.slc t 0 1 (.ex 1)) =
   some (.slc n 0 (es.length+1) (.rest sz),⟨n+1,[(n,.cells (qa6 (es++[e])))::f,(pb,.cells (pre++qcx k sz es::post))::g]⟩):=by
 have hd:=drop_E (n:=n) h hf;have hsub:qex 0 (1 * sz) e.cells=some e.cells:=by have:=qco e.cells;rw[hel]at this;rw[Nat.one_mul];unfold qex;rw[List.drop_zero];exact this
 have:=qii (P:=P) (H:=⟨n,[f,VE pb pre k sz es post g]⟩) (elem:=elem) (b:=k) (n:=0) (es:=es) (x:=.slc t 0 1 (.ex 1)) (cs:=e.cells) hsz hby hz hzl h.el.sz0 hb0 rfl
  (by simp[qba,readCells,Heap.get,getFs,ht,hsub];simpa using hsub) (by simpa using hel) hsg h.el (by simpa using hl)
  (fun hne=>by simp only[Heap.get,getFs];rw[hf k h.lk.1,qx1 h hne])
  (fun he=>by subst he;rw[hd];rfl) hrow
 rw[hd]at this;have e1:qa6 (es++[e])=qa6 es++e.cells:=by rw[qbj];simp[qa6]
 rw[e1];simpa[Heap.new,pushF]using this
theorem prom_E(hp:pb < m) {c:Nat} {row vrow:List AV} (hc:m<=c) (hf:∀i,i < m->getF i f=none) (hr:qa9 row=true) :
  qcy pb [c] [] [(c,.cells row)::f,(pb,.cells vrow)::g]=[f,(c,.cells row)::(pb,.cells vrow)::g]:=by
 have hcp:Nat.beq c pb=false:=qao (by omega);have g1:getF pb f=none:=hf pb hp;have r1:qgs 100000 [c] ((c,.cells row)::f) []=([(c,.cells row)],f):=by have hk:qr7 (.cells row)=[]:=qe3 4 _ hr;show qgs (Nat.succ (Nat.succ 99998)) [c] ((c,.cells row)::f) []=_;unfold qgs;simp only[getF,Nat.beq_refl,hk,List.nil_append,killF];unfold qgs;rfl
 have e1:qph [((c,.cells row):Nat × Blk)]++[c]=[c]:=by have hk:qr7 (.cells row)=[]:=qe3 4 _ hr;simp[qph,hk]
 have n1:getF pb ((c,Blk.cells row)::f)=none:=by simp[getF,hcp,g1]
 unfold qcy;rw[n1];simp only[r1,e1];unfold qcy;simp[getF]
theorem fit_E{c:Nat} {H:Heap} {es' cs0:List AV} (h:Eok m pb pre k sz es post g) (hc:m<=c) (hne:es'≠[]) (hcs:∀σ,qax σ [] cs0 (qa6 es')) (hp:H.get pb=some (.cells (pre++.slc c 0 es'.length (.rest sz)::post))) (hk:H.get c=some (.cells cs0))
  (hg:∀e,e∈g->H.get e.1=some e.2):FitH m ((c,m)::idn m) [] H ⟨m+1,[VE pb pre m sz es' post g]⟩:=by
 have idl:=qmn (m:=m) (k:=c) (k':=m) hc;have nd:=h.nd;rw[List.nodup_cons]at nd;refine⟨?_,?_,?_,?_,?_,by show m<=m+1;omega,?_,fun x h=>by cases h⟩
 ·simp only[List.map_nil,List.append_nil,List.map_cons,List.nodup_cons];refine⟨?_,qhe m⟩;simp[idn];omega
 ·simp only[List.map_cons,List.nodup_cons];refine⟨?_,qi5 m⟩;simp[idn]
 ·simp only[Heap.ents,List.flatten_cons,List.flatten_nil,List.append_nil,VE,qbn hne,List.map_cons,List.map_append,List.map_nil,List.cons_append,List.nil_append,List.nodup_cons,List.mem_cons,not_or];refine⟨⟨by have:=h.lp;omega,nd.1⟩,?_,nd.2⟩;intro hx;obtain⟨e,he,hx⟩:=List.mem_map.1 hx;have:=h.lg e he;omega
 ·intro x hx;rcases List.mem_cons.1 hx with rfl|hx
  ·exact Nat.lt_succ_self m
  ·obtain⟨i,hi,rfl⟩:=List.mem_map.1 hx;have:i < m:=(by simpa using hi);show i < m+1;omega
 ·intro x hx hlt;rcases List.mem_cons.1 hx with rfl|hx
  ·simp at hlt
  ·obtain⟨i,hi,rfl⟩:=List.mem_map.1 hx;rfl
 ·intro e he;simp only[Heap.ents,List.flatten_cons,List.flatten_nil,List.append_nil,VE,qbn hne,List.cons_append,List.nil_append,List.mem_cons]at he;rcases he with rfl|rfl|he
  ·refine⟨pb,_,List.mem_cons_of_mem _ (qd8 h.lp),hp,?_⟩;show qax _ _ _ _;rw[qbd hne];refine qe1 (h.sp _ idl) ?_;simp only[qax];exact⟨by simp[qas,qb2],h.sq _ idl⟩
  ·exact⟨c,_,List.mem_cons_self,hk,hcs _⟩
  ·exact⟨e.1,e.2,List.mem_cons_of_mem _ (qd8 (h.lg e he)),hg e he,h.sg e he _ idl⟩
theorem Eok.next(h:Eok m pb pre k sz es post g) {es':List AV} (he:Elems sz es'):Eok (m+1) pb pre m sz es' post g where
 lp:=by have:=h.lp;omega
 lk:=⟨Nat.lt_succ_self m,fun hx=>by
  rcases List.mem_cons.1 hx with hx|hx
  ·have:=h.lp;omega
  ·obtain⟨e,he,hx⟩:=List.mem_map.1 hx;have:=h.lg e he;omega⟩
 lg:=fun e he=>by have:=h.lg e he;omega
 nd:=h.nd
 sg:=fun e he=>(h.sg e he).mono (Nat.le_succ m)
 sp:=fun σ hσ=>h.sp σ fun i hi=>hσ i (by omega)
 sq:=fun σ hσ=>h.sq σ fun i hi=>hσ i (by omega)
 el:=he
theorem Eok.mono(h:Eok m pb pre k sz es post g) {m':Nat} (hm:m<=m') {es':List AV} (he:Elems sz es'):Eok m' pb pre k sz es' post g where
 lp:=Nat.lt_of_lt_of_le h.lp hm
 lk:=⟨Nat.lt_of_lt_of_le h.lk.1 hm,h.lk.2⟩
 lg:=fun e he=>Nat.lt_of_lt_of_le (h.lg e he) hm
 nd:=h.nd
 sg:=fun e he=>(h.sg e he).mono hm
 sp:=fun σ hσ=>h.sp σ fun i hi=>hσ i (by omega)
 sq:=fun σ hσ=>h.sq σ fun i hi=>hσ i (by omega)
 el:=he
theorem fit_W{m':Nat} {H:Heap} {es':List AV} (h:Eok m pb pre k sz es post g) (hm:m<=m') (hne:es'≠[]) (he':Elems sz es') (hp:H.get pb=some (.cells (pre++qcx k sz es'::post))) (hk:H.get k=some (.cells (qa6 es')))
  (hg:∀e,e∈g->H.get e.1=some e.2):FitH m (idn m) [] H ⟨m',[VE pb pre k sz es' post g]⟩:=by
 have idl:=qln m;have nd:=h.nd;have hkk:=h.lk.2;simp only[List.mem_cons,not_or]at hkk;rw[List.nodup_cons]at nd;refine⟨by simpa using qhe m,qi5 m,?_,?_,?_,hm,?_,fun x h=>by cases h⟩
 ·simp only[Heap.ents,List.flatten_cons,List.flatten_nil,List.append_nil,VE,qbn hne,List.map_cons,List.map_append,List.map_nil,List.cons_append,List.nil_append,List.nodup_cons,List.mem_cons,not_or];exact⟨⟨fun e=>hkk.1 e.symm,nd.1⟩,hkk.2,nd.2⟩
 ·intro x hx;obtain⟨i,hi,rfl⟩:=List.mem_map.1 hx;have:i < m:=by simpa using hi
  show i < m';omega
 ·intro x hx hlt;obtain⟨i,hi,rfl⟩:=List.mem_map.1 hx;rfl
 ·intro e he;simp only[Heap.ents,List.flatten_cons,List.flatten_nil,List.append_nil,VE,qbn hne,List.cons_append,List.nil_append,List.mem_cons]at he;rcases he with rfl|rfl|he
  ·refine⟨pb,_,qd8 h.lp,hp,?_⟩;show qax _ _ _ _;rw[qbd hne];refine qe1 (h.sp _ idl) ?_;simp only[qax];exact⟨by simp[qas,qc1 h.lk.1],h.sq _ idl⟩
  ·exact⟨k,_,qd8 h.lk.1,hk,qak he'.pure⟩
  ·exact⟨e.1,e.2,qd8 (h.lg e he),hg e he,h.sg e he _ idl⟩
end
section
variable {C:Ctx} {call:qcf} {ops:Array Oper} {s:St} {o:Oper} {l:List Oper} {P:St->Prop}
theorem qfx{E R:Option St} (h:E=R) (k:∃s',R=some s'/\P s'):∃s',E=some s'/\P s':=by subst h;exact k
theorem qay(h:P s):∃s',some s=some s'/\P s':=⟨s,rfl,h⟩
theorem qb7{b:Bool} (h1:b=true->∃s',qji C call ops (qrg C call s o (some true)) l=some s'/\P s') (h2:b=false->∃s',qji C call ops (qrg C call s o (some false)) l=some s'/\P s') :
  ∃s',qji C call ops (qrg C call s o (some b)) l=some s'/\P s':=by
 cases b with
 |true=>exact h1 rfl
 |false=>exact h2 rfl
theorem qkm{H:Heap} {d:Option Tmp} {p q:Option AV} {b:Bool} (h1:b=true->∃s',qji C call ops (putV s d (zbh H (some (.bool true)) p q)) l=some s'/\P s') (h2:b=false->∃s',qji C call ops (putV s d (zbh H (some (.bool false)) p q)) l=some s'/\P s') :
  ∃s',qji C call ops (putV s d (zbh H (some (.bool b)) p q)) l=some s'/\P s':=by
 cases b with
 |true=>exact h1 rfl
 |false=>exact h2 rfl
theorem rE{T:List (Entry PG)} {n:Nat} {r:Option Nat} {id:Nat} {ops:Array Oper} {s:St} {Q:Out->St->Prop} {R:Option St} (h:qfs (ctx T) (qb6 (ctx T)) ops ops.toList { s with ts:=[] }=R) (k:∃s1,R=some s1/\Q .normal s1):WpSr (ctx T) n r (.region id ops false) s Q:=qah qbf (qfx h k)
end
theorem qr0{W:Str} (h:W.all (fun c=>decide (c.toNat < 128))=true):qde W:=by unfold qde;simpa using h
theorem qcg{a b:List Nd} (h:qaa a=qaa b):a=b:=qfd (by simpa[qav]using h)
section
variable (n:Nd)
@[simp]theorem nd_cells:(qa3 n).cells=n.cs:=rfl
@[simp]theorem nd_len:n.cs.length=7:=rfl
@[simp]theorem nd_single:allSingle n.cs=true:=rfl
@[simp]theorem nd_over{a b c d e f g:AV}:qij n.cs [a,b,c,d,e,f,g]=some n.cs:=rfl
@[simp]theorem nd_lay{a b c d e f g:AV}:qh7 n.cs 0 [a,b,c,d,e,f,g]=some n.cs:=rfl
@[simp]theorem nd_over'{m:Nd}:qij n.cs m.cs=some n.cs:=rfl
@[simp]theorem nd_lay'{m:Nd}:qh7 n.cs 0 m.cs=some n.cs:=rfl
@[simp]theorem nd_refs:n.cs.flatMap (refs 6)=[]:=qe3 6 _ (qe4 n)
@[simp]theorem nd_take:qew 7 n.cs=some n.cs:=rfl
@[simp]theorem nd_sub:qex 0 7 n.cs=some n.cs:=rfl
theorem qaq:AV.agg n.cs=qa3 n:=rfl
@[simp]theorem nd_f0:qdt PG 34 (qa3 n) 0=some (.int .i64 n.kind):=rfl
@[simp]theorem nd_f1:qdt PG 34 (qa3 n) 1=some (.int .i64 n.space):=rfl
@[simp]theorem nd_f2:qdt PG 34 (qa3 n) 2=some (.str n.name):=rfl
@[simp]theorem nd_f3:qdt PG 34 (qa3 n) 3=some (qaf n.attrs):=rfl
@[simp]theorem nd_f4:qdt PG 34 (qa3 n) 4=some (.str n.data):=rfl
@[simp]theorem nd_f5:qdt PG 34 (qa3 n) 5=some (.int .i64 n.up):=rfl
@[simp]theorem nd_f6:qdt PG 34 (qa3 n) 6=some (qbc n.kids):=rfl
end
def isB(t:Tr) (i:Int):Bool:=decide (0<=i) && decide (i < (t.length:Int))
theorem c124{T:List (Entry PG)} (t:Tr) (i:Int):CA T 124 [qav t,.int .i64 i] zH (.bool (isB t i)) zH:=by
 refine qa0 (s0:=⟨[0,1,2,4],[qav t,.int .i64 i,uD,uD],[],14,⟨0,[[]]⟩⟩) Tryz.func124 rfl rfl rfl ?_;apply ra;simp[zS,qav];by_cases h:0<=i
 ·apply ra;simp[zS,qhl,h];apply qa5;simp[zQ,Tryz.f124];exact qa2 rfl (by simp[isB,h])
 ·apply ra;simp[zS,qhl,h];apply qa5;simp[zQ,Tryz.f124];exact qa2 rfl (by simp[isB,h])
def qhf(t:Tr) (up:Int):Nat->Int->Bool
 |0,_=>false
 |n+1,kid=>if isB t kid=true then (if kid=up then true else qhf t up n (qa1 t kid).up) else false
def qg6(t:Tr) (up kid:Int):Bool:=isB t up && qhf t up (t.length+1) kid
theorem zd1(H:Heap) (t:Tr):qe9 H [7] (qav t)=some (qav t):=qan (by simp)
def e124:Entry PG:=mkE 124 [[7],[]] (fun x:Tr × Int=>[qav x.1,.int .i64 x.2]) (fun _=>True) (fun x=>.bool (isB x.1 x.2)) fun x _=>c124 (T:=[]) x.1 x.2
theorem k124{T:List (Entry PG)} (hT:qIn 124 T e124) (t:Tr) (i:Int) (H:Heap):qb6 (ctx T) (.fn 124) [qav t,.int .i64 i] H=some (.bool (isB t i),H):=
 qac hT qtm (t,i) trivial rfl (by simp[zd1])
theorem c125{T:List (Entry PG)} (hS:qIn 124 T e124) (t:Tr) (ht:t.length<=1000000) (up kid:Int):CA T 125 [qav t,.int .i64 up,.int .i64 kid] zH (.bool (qg6 t up kid)) zH:=by
 have ks:=fun i H=>k124 hS t i H;simp only[qav]at ks;refine qa0 (s0:=⟨[0,1,2,3,6,14,15],[qav t,.int .i64 up,.int .i64 kid,uD,uD,uD,uD],[],31,⟨0,[[]]⟩⟩) Tryz.func125 rfl rfl rfl ?_;apply ra;simp[zS,qav];apply ra;simp[zS,qav,ks];cases h0:isB t up with
 |false=>apply qai rfl;apply ra;simp[zS];apply qa5;simp[zQ,Tryz.f125];exact qa2 rfl (by simp[qg6,h0])
 |true=>
  apply qag rfl;apply qa4;simp;apply ra;simp[zS,qhl,qav,qbb (show t.length<=1000000000 by omega)];refine qa7 (qb1 (fun x:Nat × Int=>(⟨[0,1,2,3,6,14,15],[uD,.int .i64 up,.int .i64 x.2,.ptr 0 0,uD,.int .i64 ((t.length:Int)+1),.int .i64 (x.1:Int)],[],31,⟨1,[[(0,.cells [qaa t])]]⟩⟩ : St))
   (fun x=>x.1<=t.length+1/\qhf t up (t.length+1) kid=qhf t up (t.length+1 - x.1) x.2) (fun x=>t.length+1 - x.1) [(0,0)] [] (0,kid) ⟨by omega,rfl⟩ ⟨rfl,rfl,rfl,by simp[qax,qas,qb2,qab],.id1 (g:=[(0,.cells [qaa t])]) (by simp) (by simp) (by simp[zG,qa9])⟩ ?_)
  rintro⟨i,k⟩ ⟨hi,hx⟩ B hB;simp only at hi hx;by_cases h:i < t.length+1
  ·have hc:(i:Int) < (t.length:Int)+1:=(by omega);have hs:t.length+1 - i=(t.length - i)+1:=(by omega);rw[hs]at hx;apply ra;simp[zS,hc];repeat apply wq
   apply qai rfl;apply qa4;simp;repeat apply wq
   apply qa7;apply ra;simp[zS,ks];cases h1:isB t k with
   |false=>apply qai rfl;apply ra;simp[zS];apply qa5;simp[zQ,Tryz.f125];exact qa2 rfl (by unfold qg6;rw[h0,hx];simp[h0,qhf,h1])
   |true=>
    apply qag rfl;apply qa4;simp;by_cases h2:k=up
    ·apply ra;simp[zS,h2];apply qai rfl;apply ra;simp[zS];apply qa5;simp[zQ,Tryz.f125];exact qa2 rfl (by unfold qg6;rw[h0,hx];simp[h0,qhf,h1,h2])
    ·have hk:0<=k/\k < (t.length:Int):=(by simpa[isB]using h1);apply ra;simp[zS,h2];apply qag rfl;apply qa4;simp;apply ra;simp[zS,atX hk.1 hk.2,Nd.cs,qb9];apply ra;simp[zS,qbb (show i<=1000000000 by omega)];refine hB _ (i+1,(qa1 t k).up) (by simp only;omega) ⟨by simp only;omega,?_⟩ ⟨[(0,0)],[],rfl,rfl,rfl,by simp[qax,qas,qb2,qab],.id1 (g:=[(0,.cells [qaa t])]) (by simp) (by simp) (by simp[zG,qa9])⟩;simp only;rw[show t.length+1 - (i+1)=t.length - i by omega,hx];simp[h0,qhf,h1,h2]
  ·have hc:¬ (i:Int) < (t.length:Int)+1:=(by omega);rw[show t.length+1 - i=0 by omega]at hx;apply ra;simp[zS,hc];repeat apply wq
   apply qag rfl;apply qar;simp;apply ra;simp[zS];apply qa5;simp[zQ,Tryz.f125];exact qa2 rfl (by unfold qg6;rw[h0,hx];simp[h0,qhf])
theorem injTII(x y:Tr × Int × Int) (h:[qav x.1,.int .i64 x.2.1,.int .i64 x.2.2]=[qav y.1,.int .i64 y.2.1,.int .i64 y.2.2]):x=y:=by simp at h;exact Prod.ext (qfd h.1) (Prod.ext h.2.1 h.2.2)
theorem q124{T:List (Entry PG)} (hT:qIn 124 T e124) {a:AV} {H:Heap} {t:Tr} (ha:qe9 H [7] a=some (qav t)) (i:Int):qb6 (ctx T) (.fn 124) [a,.int .i64 i] H=some (.bool (isB t i),H):=
 qac hT qtm (t,i) trivial rfl (by simp[ha])
structure RgE where
 C:Ctx
 call:qcf
 ops:Array Oper
 bef:Array Nat
 base:Nat
def evE(A:RgE) (i:Nat) (l:List Oper) (s:St) (ps:List Pend) (hs:List (Nat × Heap)) (rs:List Rec):Option DrawSt:=qng A.C A.call A.ops A.bef A.base i l ⟨s,ps,hs,rs⟩
section
variable {A:RgE} {i:Nat} {o:Oper} {r:List Oper} {s s':St} {ps:List Pend} {hs:List (Nat × Heap)} {rs:List Rec} {v:AV} {H:Heap}
def putE(A:RgE) (i:Nat) (r:List Oper) (ps:List Pend) (hs:List (Nat × Heap)) (rs:List Rec):Option St->Option DrawSt
 |none=>none
 |some s'=>evE A (i+1) r s' ps hs rs
def putX(A:RgE) (i:Nat) (r:List Oper) (ps:List Pend) (hs:List (Nat × Heap)) (rs:List Rec):Option St->Option DrawSt
 |none=>none
 |some s'=>evE A (i+1) r s' ps ((i,s'.H)::hs) rs
def valE(A:RgE) (i:Nat) (o:Oper) (r:List Oper) (s:St) (ps:List Pend) (hs:List (Nat × Heap)) (rs:List Rec):Option (AV × Heap)->Option DrawSt
 |none=>none
 |some v=>putE A i r ps hs rs (s.put o.dst v.1)
def redE(A:RgE) (i:Nat) (o:Oper) (r:List Oper) (s:St) (ps:List Pend) (hs:List (Nat × Heap)) (rs:List Rec):Option (AV × Heap)->Option DrawSt
 |none=>none
 |some v=>putE A i r ps hs (⟨i,o,s,v.1⟩::rs) (s.put o.dst v.1)
def actE(A:RgE) (i:Nat) (o:Oper) (r:List Oper) (s:St) (ps:List Pend) (hs:List (Nat × Heap)) (rs:List Rec):Option (AV × Heap)->Option DrawSt
 |none=>none
 |some v=>putX A i r (qaz A.bef i ps) hs rs (St.put (s.wH v.2) o.dst v.1)
def layE(A:RgE) (i:Nat) (o:Oper) (r:List Oper) (s:St) (ps:List Pend) (hs:List (Nat × Heap)) (rs:List Rec):Option ((Nat->AV) × Blk)->Option DrawSt
 |none=>none
 |some k=>putE A i r (⟨i,A.base+i,k.2⟩::ps) hs rs (s.put o.dst (k.1 (A.base+i)))
def clsE(A:RgE) (i:Nat) (o:Oper) (r:List Oper) (s:St) (ps:List Pend) (hs:List (Nat × Heap)) (rs:List Rec):Cls->Option DrawSt
 |.allocs=>layE A i o r s ps hs rs (qdl A.C o s)
 |.acts=>actE A i o r s ps hs rs (qae A.C A.call o (s.wH (s.H.lay (qb4 A.bef i ps))))
 |.reads=>redE A i o r s ps hs rs (qae A.C A.call o s)
 |.pure=>valE A i o r s ps hs rs (qae A.C A.call o s)
def clsF(A:RgE) (i:Nat) (o:Oper) (r:List Oper) (ps:List Pend) (hs:List (Nat × Heap)) (rs:List Rec):Cls->Option St->Option DrawSt
 |_,none=>none
 |.acts,some s'=>evE A (i+1) r (s'.wH (s'.H.lay (qb4 A.bef i ps))) (qaz A.bef i ps) ((i,s'.H.lay (qb4 A.bef i ps))::hs) rs
 |.allocs,some s'=>evE A (i+1) r s' ps hs rs
 |.reads,some s'=>evE A (i+1) r s' ps hs rs
 |.pure,some s'=>evE A (i+1) r s' ps hs rs
def zbt(A:RgE) (i:Nat) (o:Oper) (r:List Oper) (s:St) (ps:List Pend) (hs:List (Nat × Heap)) (rs:List Rec):Option Bool->Option DrawSt
 |none=>none
 |some false=>clsF A i o r ps hs rs (qc3 o.op) (s.put o.dst (.tup []))
 |some true=>clsE A i o r s ps hs rs (qc3 o.op)
theorem qi6:evE A i [] s ps hs rs=some ⟨s,ps,hs,rs⟩:=rfl
theorem qi7:evE A i (o::r) s ps hs rs=zbt A i o r s ps hs rs (qc6 A.ops s o):=by
 show (qis A.C A.call A.ops A.bef A.base i o ⟨s,ps,hs,rs⟩).bind (fun d=>qng A.C A.call A.ops A.bef A.base (Nat.succ i) r d)=_;cases hg:qc6 A.ops s o with
 |none=>unfold qis;simp only[hg,zbt];rfl
 |some g=>
  cases g with
  |false=>
   simp only[zbt];unfold qis;simp only[hg,Option.bind_some];cases s.put o.dst (.tup [])with
   |none=>cases qc3 o.op<;>rfl
   |some s'=>cases qc3 o.op<;>rfl
  |true=>
   simp only[zbt];unfold qis;simp only[hg,Option.bind_some];cases hc:qc3 o.op with
   |allocs=>
    simp only[clsE];cases qdl A.C o s with
    |none=>rfl
    |some k=>simp only[Option.bind_some,layE];cases s.put o.dst (k.1 (A.base+i))<;>rfl
   |acts=>
    simp only[clsE];cases qae A.C A.call o (s.wH (s.H.lay (qb4 A.bef i ps)))with
    |none=>rfl
    |some v=>simp only[Option.bind_some,actE];cases St.put (s.wH v.2) o.dst v.1<;>rfl
   |reads=>
    simp only[clsE];cases qae A.C A.call o s with
    |none=>rfl
    |some v=>simp only[Option.bind_some,redE];cases s.put o.dst v.1<;>rfl
   |pure=>
    simp only[clsE];cases qae A.C A.call o s with
    |none=>rfl
    |some v=>simp only[Option.bind_some,valE];cases s.put o.dst v.1<;>rfl
theorem qfa:putE A i r ps hs rs (some s')=evE A (i+1) r s' ps hs rs:=rfl
theorem qf9:putX A i r ps hs rs (some s')=evE A (i+1) r s' ps ((i,s'.H)::hs) rs:=rfl
theorem qf7:valE A i o r s ps hs rs (some (v,H))=putE A i r ps hs rs (s.put o.dst v):=rfl
theorem qf8:redE A i o r s ps hs rs (some (v,H))=putE A i r ps hs (⟨i,o,s,v⟩::rs) (s.put o.dst v):=rfl
theorem qfo:actE A i o r s ps hs rs (some (v,H))=putX A i r (qaz A.bef i ps) hs rs (St.put (s.wH H) o.dst v):=rfl
theorem qfc{k:(Nat->AV) × Blk}:layE A i o r s ps hs rs (some k)=putE A i r (⟨i,A.base+i,k.2⟩::ps) hs rs (s.put o.dst (k.1 (A.base+i))):=rfl
theorem qdv:zbt A i o r s ps hs rs (some true)=clsE A i o r s ps hs rs (qc3 o.op):=rfl
theorem qfi:clsF A i o r ps hs rs .acts (some s')=evE A (i+1) r (s'.wH (s'.H.lay (qb4 A.bef i ps))) (qaz A.bef i ps) ((i,s'.H.lay (qb4 A.bef i ps))::hs) rs:=rfl
theorem qfh:clsF A i o r ps hs rs .allocs (some s')=evE A (i+1) r s' ps hs rs:=rfl
theorem qff:clsF A i o r ps hs rs .reads (some s')=evE A (i+1) r s' ps hs rs:=rfl
theorem qfg:clsF A i o r ps hs rs .pure (some s')=evE A (i+1) r s' ps hs rs:=rfl
theorem qdw:zbt A i o r s ps hs rs (some false)=clsF A i o r ps hs rs (qc3 o.op) (s.put o.dst (.tup [])):=rfl
theorem qfl:clsE A i o r s ps hs rs .allocs=layE A i o r s ps hs rs (qdl A.C o s):=rfl
theorem qfm:clsE A i o r s ps hs rs .acts=actE A i o r s ps hs rs (qae A.C A.call o (s.wH (s.H.lay (qb4 A.bef i ps)))):=rfl
theorem qfk:clsE A i o r s ps hs rs .pure=valE A i o r s ps hs rs (qae A.C A.call o s):=rfl
theorem qfj:clsE A i o r s ps hs rs .reads=redE A i o r s ps hs rs (qae A.C A.call o s):=rfl
end
theorem qi9{C:Ctx} {call:qcf} {ops:Array Oper} {s:St} {E:Option DrawSt} {P:DrawSt->Prop} (B:Array Nat)
  (h:evE ⟨C,call,ops,B,s.H.n⟩ 0 ops.toList (qbk (qap ops.toList { s with ts:=[] }) ops.size) [] [] []=E) (k:∃d,E=some d/\P d) :
  ∃d,qng C call ops B s.H.n 0 ops.toList ⟨qbk (qap ops.toList { s with ts:=[] }) ops.size,[],[],[]⟩=some d/\P d:=by
 subst h;exact k
@[simp]theorem szT38:qce PG 38=some 1:=rfl
@[simp]theorem agT38:qia PG 38=some false:=rfl
@[simp]theorem byT38:qcq PG 38=some 8:=rfl
@[simp]theorem alT38(H:Heap):alV PG H 38=some (.ptr H.n 0,H.new (.cells [.nilP])):=rfl
@[simp]theorem zeT38:qc0 PG 38=some (.nilP):=rfl
attribute [simp] Tryz.underlying38
@[simp 500]theorem rvF38(H:Heap) (cs:List AV) (o:Nat):qaw PG H 38 (.fptr cs o)=qck cs o:=rfl
@[simp 500]theorem rvP38(H:Heap) (b o:Nat):qaw PG H 38 (.ptr b o)=(H.get b).bind fun k=>k.rd.bind fun cs=>qck cs o:=rfl
@[simp]theorem szT76:qce PG 76=some 1:=rfl
@[simp]theorem agT76:qia PG 76=some false:=rfl
@[simp]theorem byT76:qcq PG 76=some 8:=rfl
@[simp]theorem alT76(H:Heap):alV PG H 76=some (.ptr H.n 0,H.new (.cells [.nilP])):=rfl
@[simp]theorem zeT76:qc0 PG 76=some (.nilP):=rfl
attribute [simp] Tryz.underlying76
@[simp 500]theorem rvF76(H:Heap) (cs:List AV) (o:Nat):qaw PG H 76 (.fptr cs o)=qck cs o:=rfl
@[simp 500]theorem rvP76(H:Heap) (b o:Nat):qaw PG H 76 (.ptr b o)=(H.get b).bind fun k=>k.rd.bind fun cs=>qck cs o:=rfl
theorem qe7(L:List At1):Elems 2 (L.map qbw):=.map (sz:=2) (f:=qbw) (by decide) (fun x=>⟨rfl,by simp[qbw,AV.cells,qa9,qab],fun h=>absurd h (by decide),fun _=>⟨_,rfl⟩⟩) L
theorem qbg(L:List Nd):Elems 7 (L.map qa3):=.map (sz:=7) (f:=qa3) (by decide) (fun x=>⟨rfl,by simp[qa3,Nd.cs,AV.cells,qa9,qab,qb9,qaf],fun h=>absurd h (by decide),fun _=>⟨_,rfl⟩⟩) L
theorem qhb:∀(L:List At1),allSingle (qa6 (L.map qbw))=true
 |[]=>rfl
 |a::r=>by simp only[List.map_cons,qa6,qdq,qhb r];rfl
theorem c51{T:List (Entry PG)} (L:List At1) (hl:L.length<=1000000):CA T 51 [qaf L] zH (qaf L) zH:=by
 have happ:=qkt (P:=PG) (elem:=71) (b:=0) (m:=1) (es:=L.map qbw) (g:=[]) (fs:=[]) zaw zca zao rfl (by omega) (by omega) (qe7 _) (qhb _) (by simp;omega);cases L with
 |nil=>
  refine qa0 (s0:=⟨[0,2],[.fslc 2 [],uD],[],8,⟨0,[[]]⟩⟩) Tryz.func51 rfl rfl rfl ?_;apply ra;simp[zS];refine qp3 (pre:=[]) ?_ ?_
  ·apply ra;simp[zS];apply qai rfl;apply ra;simp[zS];apply qa5;simp[zQ,Tryz.f51];exact⟨[],[],by simp[qas,qaf],FitH.empty⟩
  ·apply ra;simp[zS];apply qag rfl;apply qa4;simp;have happ:qbz PG ⟨1,[[(0,.cells [])]]⟩ 71 (.slc 0 0 0 (.ex 0)) .eslc=some (.slc 0 0 0 (.ex 0),⟨1,[[(0,.cells [])]]⟩):=rfl;apply ra;simp[zS,happ];apply qa5;simp[zQ,Tryz.f51];exact qsi (es:=[]) (len:=0) (qe7 []) (by simp[zG,qa6]) (by simp) (by simp)
 |cons x r=>
  have e1:qxi 0 1 2 ((x::r).map qbw)=.slc 1 0 (r.length+1) (.rest 2):=by simp[qxi]
  have e2:qtc ⟨1,[[(0,.cells [])]]⟩ ((x::r).map qbw)=⟨2,[[(1,.cells (qa6 ((x::r).map qbw))),(0,.cells [])]]⟩:=rfl;rw[e1,e2]at happ;refine qa0 (s0:=⟨[0,2],[qaf (x::r),uD],[],8,⟨0,[[]]⟩⟩) Tryz.func51 rfl rfl rfl ?_;apply ra;simp[zS,qaf];apply ra;simp[zS,qaf];apply qag rfl;apply qa4;simp;simp only[List.map_cons]at happ;apply ra;simp[zS,happ];apply qa5;simp[zQ,Tryz.f51];exact qsi (es:=(x::r).map qbw) (len:=r.length+1) (qe7 _) (by simp[zG]) (by simp) (by rw[List.take_of_length_le (by simp)];rfl)
def e51:Entry PG:=mkE 51 [[2]] (fun L:List At1=>[qaf L]) (fun L=>L.length<=1000000) (fun L=>qaf L) fun L hl=>c51 (T:=[]) L hl
theorem k51{T:List (Entry PG)} (hT:qIn 51 T e51) {L:List At1} (hl:L.length<=1000000) (H:Heap):qb6 (ctx T) (.fn 51) [qaf L] H=some (qaf L,H):=
 qd1 hT (fun x y h=>by simp only[List.cons.injEq]at h;exact qeg h.1) L hl (by simp[qa9]) (by simp[qan]) H
def fresh(nd:Nd):Nd:={ nd with up:=-1,kids:=[] }
def qf0(nd:Nd):AV:=.agg [qb9 nd.kind,qb9 nd.space,.str nd.name,qaf nd.attrs,.str nd.data,qb9 (-1),.nilS]
theorem c87{T:List (Entry PG)} (hC:qIn 51 T e51) {m pb k:Nat} {pre post:List AV} {L:List Nd} {g:List (Nat × Blk)} (h:Eok m pb pre k 7 (L.map qa3) post g) (hl:L.length+1<=1000000) (nd:Nd) (ha:nd.attrs.length<=1000000) :
  CA T 87 [.ptr pb pre.length,qa3 nd] ⟨m,[VE pb pre k 7 (L.map qa3) post g]⟩ (.int .i64 (L.length:Int)) ⟨m+1,[VE pb pre m 7 ((L++[fresh nd]).map qa3) post g]⟩:=by
 have kc:=fun H=>k51 hC ha H;have lp:=h.lp;have hgv:∀n f,(∀i,i < m->getF i f=none)->Heap.get ⟨n,[f,VE pb pre k 7 (L.map qa3) post g]⟩ pb=some (.cells (pre++qcx k 7 (L.map qa3)::post)):=fun n f hf=>by simp only[Heap.get,getFs];rw[hf pb lp,VE_p]
 have fl1:∀cs:List AV,∀i,i < m->getF i [(m,.cells cs)]=none:=fun cs i hi=>by unfold getF;rw[qao (show m≠i by omega)];rfl
 have fl2:∀(j:Nat) (ds cs:List AV),∀i,i < m->getF i [(m+j,.cells ds),(m,.cells cs)]=none:=fun j ds cs i hi=>by unfold getF;rw[qao (show m+j≠i by omega)];exact fl1 cs i hi
 have gx:qck (pre++qcx k 7 (L.map qa3)::post) pre.length=some (qcx k 7 (L.map qa3)):=by rw[qe0 (by simp),List.getElem_append_right (by omega)];simp
 have hes:Elems 7 (L.map qa3++[qf0 nd]):=by exact(qbg L).append ⟨by omega,fun v hv=>by simp only[List.mem_singleton]at hv;subst hv;exact⟨rfl,by simp[qf0,AV.cells,qb9,qaf,qa9,qab],fun h=>by omega,fun _=>⟨_,rfl⟩⟩⟩
 have rd2:∀n,qaw PG ⟨n,[[(m,.cells nd.cs)],VE pb pre k 7 (L.map qa3) post g]⟩ 22 (.ptr pb pre.length)=some (qcx k 7 (L.map qa3)):=fun n=>by simp[hgv n _ (fl1 _),gx]
 have hf2:=fl2 (1+17) (qf0 nd).cells nd.cs;rw[<- Nat.add_assoc]at hf2;obtain⟨f,hfd⟩ : ∃f,f=[(m+1+17,Blk.cells (qf0 nd).cells),(m,.cells nd.cs)]:=⟨_,rfl⟩;rw[<- hfd]at hf2;have happ:=app_E (P:=PG) (elem:=34) (n:=m+1+22) (f:=f) qt0 qub qx5 rfl (by omega) h (t:=m+1+17) (e:=qf0 nd) rfl rfl hf2 (by rw[hfd];simp[getF]) (by simp;omega) (fun _=>rfl);have pr:=prom_E (f:=f) (g:=g) (c:=m+1+22) (row:=qa6 (L.map qa3++[qf0 nd])) (vrow:=pre++qcx k 7 (L.map qa3)::post) lp (by omega) hf2 hes.pure;have hly:qh7 [.slc (m+1+22) 0 (L.length+1) (.rest 7)] pre.length (pre++qcx k 7 (L.map qa3)::post)=some (pre++.slc (m+1+22) 0 (L.length+1) (.rest 7)::post):=by have:=qhw (a:=pre) (b:=[qcx k 7 (L.map qa3)]) (b':=[.slc (m+1+22) 0 (L.length+1) (.rest 7)]) (c:=post) rfl;simpa using this
 obtain⟨R,hR⟩ : ∃R,R=qa6 (L.map qa3++[qf0 nd]):=⟨_,rfl⟩;rw[<- hR]at happ pr;simp only[List.length_map]at happ;have q1:Nat.beq (m+1+22) pb=false:=qao (by omega);have q2:Nat.beq (m+1+17) pb=false:=qao (by omega);have q3:Nat.beq m pb=false:=qao (by omega);have c0:qck nd.cs 0=some (.int .i64 nd.kind):=rfl;have c1:qck nd.cs 1=some (.int .i64 nd.space):=rfl;have c2:qck nd.cs 2=some (.str nd.name):=rfl;have c3:qck nd.cs 3=some (qaf nd.attrs):=rfl;have c4:qck nd.cs 4=some (.str nd.data):=rfl;have bld:qgq PG 34 [(0,.int .i64 nd.kind),(1,.int .i64 nd.space),(2,.str nd.name),(3,qaf nd.attrs),(4,.str nd.data),(5,.int .i64 (-1))]=some (.agg [.int .i64 nd.kind,.int .i64 nd.space,.str nd.name,qaf nd.attrs,.str nd.data,.int .i64 (-1),.nilS]):=rfl;refine qa0 (s0:=⟨[0,1,3,4],[.ptr pb pre.length,qa3 nd,uD,uD],[],32,⟨m,[]::[VE pb pre k 7 (L.map qa3) post g]⟩⟩) Tryz.func87 rfl rfl rfl ?_;apply ra;simp[zS];rw[hfd]at happ pr;simp only[qf0,AV.cells,qb9]at happ pr;have sg:(qaf nd.attrs).single=true:=rfl;repeat apply wq
 refine qc8 mixed qbf (by decide +kernel) fun B_ hB_=>?_;have hD_:ahead B_ 4 13=false/\ahead B_ 4 18=true/\ahead B_ 4 21=true/\ahead B_ 6 13=false/\ahead B_ 6 18=true/\ahead B_ 6 21=true/\ahead B_ 8 13=false/\ahead B_ 8 18=true/\ahead B_ 8 21=true/\ahead B_ 10 13=false/\ahead B_ 10 18=true/\ahead B_ 10 21=true/\ahead B_ 12 13=true/\ahead B_ 12 18=true/\ahead B_ 12 21=true/\ahead B_ 13 4=false/\ahead B_ 13 6=false/\ahead B_ 13 8=false/\ahead B_ 13 10=false/\ahead B_ 13 12=false/\ahead B_ 13 15=false/\ahead B_ 15 13=false/\ahead B_ 15 18=true/\ahead B_ 15 21=true/\ahead B_ 17 13=false/\ahead B_ 17 18=true/\ahead B_ 17 21=true/\ahead B_ 18 4=false/\ahead B_ 18 6=false/\ahead B_ 18 8=false/\ahead B_ 18 10=false/\ahead B_ 18 12=false/\ahead B_ 18 15=false/\ahead B_ 21 4=false/\ahead B_ 21 6=false/\ahead B_ 21 8=false/\ahead B_ 21 10=false/\ahead B_ 21 12=false/\ahead B_ 21 15=false:=by rw[hB_];decide +kernel
 apply qi9 B_;simp[zS,qdl,qc6,qc3,qbk,qap,qb4,qaz,Heap.lay,qd9,qi7,qi6,qfa,qf9,qf7,qf8,qfo,qfc,qdv,qdw,qfi,qfh,qff,qfg,qfl,qfm,qfk,qfj,hD_,rd2,bld,sg,kc,happ,q1,q2,q3,pr,hly,c0,c1,c2,c3,c4];exact rfl;refine⟨_,rfl,?_,?_⟩;simp[zS,qbk,qap,qc7,qcl,qdy,hD_,rd2,bld,sg,kc,happ,q1,q2,q3,pr,hly,c0,c1,c2,c3,c4];simp[qc5,Heap.lay,qd9,qam];have g3:Heap.get ⟨m+1+22+1,[[(m+1+17,.cells [.int .i64 nd.kind,.int .i64 nd.space,.str nd.name,qaf nd.attrs,.str nd.data,.int .i64 (-1),.nilS]),(m,.cells nd.cs)],(m+1+22,.cells R)::(pb,.cells (pre++.slc (m+1+22) 0 (L.length+1) (.rest 7)::post))::g]⟩ pb=some (.cells (pre++.slc (m+1+22) 0 (L.length+1) (.rest 7)::post)):=by simp[zG,q1,q2,q3]
 have gx3:qck (pre++.slc (m+1+22) 0 (L.length+1) (.rest 7)::post) pre.length=some (.slc (m+1+22) 0 (L.length+1) (.rest 7)):=by rw[qe0 (by simp),List.getElem_append_right (by omega)];simp
 have hfit:=fit_E (es':=(L++[fresh nd]).map qa3) (c:=m+1+22) (cs0:=R) (H:=⟨m+1+22+1,[[(m+1+17,.cells [.int .i64 nd.kind,.int .i64 nd.space,.str nd.name,qaf nd.attrs,.str nd.data,.int .i64 (-1),.nilS]),(m,.cells nd.cs)],(m+1+22,.cells R)::(pb,.cells (pre++.slc (m+1+22) 0 (L.length+1) (.rest 7)::post))::g]⟩) h (by omega) (by simp)
  (fun σ=>by subst hR;rw[List.map_append,qbj,qbj];refine qe1 (qak (qbg L).pure) ?_;simp[qa6,qf0,qa3,fresh,Nd.cs,AV.cells,qax,qas,qb9,qab])
  (by rw[g3];simp)
  (by simp[zG,show Nat.beq (m+1+17) (m+1+22)=false from qao (by omega),show Nat.beq m (m+1+22)=false from qao (by omega)])
  (fun e he=>by have:=h.lg e he;have nd:=h.nd;rw[List.nodup_cons]at nd;have e1:pb≠e.1:=fun x=>nd.1 (List.mem_map.2 ⟨e,he,x.symm⟩);simp[zG,qao (show m+1+22≠e.1 by omega),qao (show m+1+17≠e.1 by omega),qao (show m≠e.1 by omega),qao e1,qmq nd.2 he])
 have rd3:qaw PG ⟨m+1+22+1,[[(m+1+17,.cells [.int .i64 nd.kind,.int .i64 nd.space,.str nd.name,qaf nd.attrs,.str nd.data,.int .i64 (-1),.nilS]),(m,.cells nd.cs)],(m+1+22,.cells R)::(pb,.cells (pre++.slc (m+1+22) 0 (L.length+1) (.rest 7)::post))::g]⟩ 22 (.ptr pb pre.length)=some (.slc (m+1+22) 0 (L.length+1) (.rest 7)):=by simp[g3,gx3]
 have hsub:wr .i64 (L.length:Int)=some (L.length:Int):=by have:=qt2 (q:=L.length) (by omega);simpa using this
 have hlen:∀H,qf6 PG H 22 (.slc (m+1+22) 0 (L.length+1) (.rest 7))=some (L.length+1):=fun H=>rfl;apply ra;simp[zS,rd3,hsub,hlen];apply qa5;simp[zQ,Tryz.f87];rw[List.map_append]at hfit;refine⟨_,_,?_,hfit⟩;simp[qas,qab]
theorem qe2{H:Heap} {k:Nat} {t:Tr} (hne:t≠[]) (hk:H.get k=some (.cells (qa6 (t.map qa3)))):qe9 H [7] (.agg [qcx k 7 (t.map qa3)])=some (qav t):=by have el:=qbg t;have e1:=qt1 el (Nat.le_refl _);rw[List.take_of_length_le (Nat.le_refl _)]at e1;have e2:=el.chunk;rw[List.length_map]at e1 e2;rw[qbd (by simp[hne])];simp[qe9,okV,qa9,qab,qp6,qlb,hk,el.pure,e1,e2,el.size,qav]
theorem c154{T:List (Entry PG)} (hS:qIn 124 T e124) (t:Tr) (i:Int) (hi:isB t i=true) (hu:(qa1 t i).up = -1):CA T 154 [qav t,.int .i64 i] zH (.int .i64 (-1)) zH:=by
 have ks:=fun i H=>k124 hS t i H;have hk:0<=i/\i < (t.length:Int):=by simpa[isB]using hi
 have hm:isB t (-1)=false:=by simp[isB]
 simp only[qav]at ks;refine qa0 (s0:=⟨[0,1,2,4],[qav t,.int .i64 i,uD,uD],[],33,⟨0,[[]]⟩⟩) Tryz.func154 rfl rfl rfl ?_;apply ra;simp[zS,qav];repeat apply wq
 refine qc8 mixed qbf (by decide +kernel) fun B_ hB_=>?_;have hD_:ahead B_ 0 2=true/\ahead B_ 0 12=true/\ahead B_ 2 0=false/\ahead B_ 2 5=true/\ahead B_ 2 7=true/\ahead B_ 2 11=true/\ahead B_ 5 2=false/\ahead B_ 5 12=true/\ahead B_ 7 2=false/\ahead B_ 7 12=true/\ahead B_ 11 2=false/\ahead B_ 11 12=true/\ahead B_ 12 0=false/\ahead B_ 12 5=false/\ahead B_ 12 7=false/\ahead B_ 12 11=false:=by rw[hB_];decide +kernel
 apply qi9 B_;simp[zS,qdl,qc6,qc3,qbk,qap,qb4,qaz,Heap.lay,qd9,qi7,qi6,qfa,qf9,qf7,qf8,qfo,qfc,qdv,qdw,qfi,qfh,qff,qfg,qfl,qfm,qfk,qfj,hD_,ks,hi,hm,atX hk.1 hk.2,Nd.cs,qb9,hu];exact rfl;refine⟨_,rfl,?_,?_⟩;simp[zS,qbk,qap,qc7,qcl,qdy,hD_,ks,hi,hm,atX hk.1 hk.2,Nd.cs,qb9,hu];simp[qc5,Heap.lay,qd9,qam];apply qai rfl;apply ra;simp[zS];apply qa5;simp[zQ,Tryz.f154];exact qa2 rfl (by rfl)
def e154:Entry PG:=mkE 154 [[7],[]] (fun x:Tr × Int=>[qav x.1,.int .i64 x.2]) (fun x=>isB x.1 x.2=true/\(qa1 x.1 x.2).up = -1) (fun _=>.int .i64 (-1)) fun x h=>c154 (T:=[e124]) rfl x.1 x.2 h.1 h.2
theorem q154{T:List (Entry PG)} (hT:qIn 154 T e154) {a:AV} {H:Heap} {t:Tr} (ha:qe9 H [7] a=some (qav t)) {i:Int} (hi:isB t i=true) (hu:(qa1 t i).up = -1):qb6 (ctx T) (.fn 154) [a,.int .i64 i] H=some (.int .i64 (-1),H):=
 qac hT qtm (t,i) ⟨hi,hu⟩ rfl (by simp[ha])
def e125:Entry PG:=mkE 125 [[7],[],[]] (fun x:Tr × Int × Int=>[qav x.1,.int .i64 x.2.1,.int .i64 x.2.2]) (fun x=>x.1.length<=1000000) (fun x=>.bool (qg6 x.1 x.2.1 x.2.2)) fun x h=>c125 (T:=[e124]) rfl x.1 h x.2.1 x.2.2
theorem q125{T:List (Entry PG)} (hT:qIn 125 T e125) {a:AV} {H:Heap} {t:Tr} (ha:qe9 H [7] a=some (qav t)) (ht:t.length<=1000000) (up kid:Int):qb6 (ctx T) (.fn 125) [a,.int .i64 up,.int .i64 kid] H=some (.bool (qg6 t up kid),H):=
 qac hT injTII (t,up,kid) ht rfl (by simp[ha])
def qey(t:Tr) (i:Nat) (u:Int):Tr:=t.take i++{ qa1 t i with up:=u }::t.drop (i+1)
theorem qdn{t:Tr} {i:Nat} (h:i < t.length):t=t.take i++qa1 t i::t.drop (i+1):=by
 have:qa1 t i=t[i]:=by simp[qa1,h]
 rw[this,List.getElem_cons_drop,List.take_append_drop]
theorem lay_up{t:Tr} {i:Nat} (h:i < t.length) (u:Int):qh7 [.int .i64 u] (i * 7+5) (qa6 (t.map qa3))=some (qa6 ((qey t i u).map qa3)):=by
 have hl:(qa6 ((t.take i).map qa3)).length=i * 7:=by rw[(qbg _).len];simp;omega
 have e1:qa6 (t.map qa3)=(qa6 ((t.take i).map qa3)++[qb9 (qa1 t i).kind,qb9 (qa1 t i).space,.str (qa1 t i).name,qaf (qa1 t i).attrs,.str (qa1 t i).data])++[qb9 (qa1 t i).up]++(qbc (qa1 t i).kids::qa6 ((t.drop (i+1)).map qa3)):=by
  conv=>lhs;rw[qdn h]
  simp[qbj,qa6,Nd.cs]
 have e2:qa6 ((qey t i u).map qa3)=(qa6 ((t.take i).map qa3)++[qb9 (qa1 t i).kind,qb9 (qa1 t i).space,.str (qa1 t i).name,qaf (qa1 t i).attrs,.str (qa1 t i).data])++[.int .i64 u]++(qbc (qa1 t i).kids::qa6 ((t.drop (i+1)).map qa3)):=by simp[qey,qbj,qa6,Nd.cs,qb9]
 rw[e1,e2];have:=qhw (a:=qa6 ((t.take i).map qa3)++[qb9 (qa1 t i).kind,qb9 (qa1 t i).space,.str (qa1 t i).name,qaf (qa1 t i).attrs,.str (qa1 t i).data]) (b:=[qb9 (qa1 t i).up]) (b':=[.int .i64 u]) (c:=qbc (qa1 t i).kids::qa6 ((t.drop (i+1)).map qa3)) rfl;rw[List.length_append,hl]at this;exact this
theorem qjp{b:Nat} {k:Blk}:∀{f:List (Nat × Blk)},getF b f=none->setF b k f=none
 |[],_=>rfl
 |x::r,h=>by
  unfold getF at h;unfold setF;cases hx:Nat.beq x.1 b with
  |true=>rw[hx]at h;cases h
  |false=>rw[hx]at h;simp only at h ⊢;rw[qjp h];rfl
theorem qm7{t:Tr} {i:Nat} (h:i < t.length) (u:Int):(qey t i u).length=t.length:=by simp[qey];omega
theorem qly{m n pb k:Nat} {pre post:List AV} {g f:List (Nat × Blk)} {t:Tr} (h:Eok m pb pre k 7 (t.map qa3) post g) {i:Nat} (hi:i < t.length) (u:Int) (hf:∀j,j < m->getF j f=none) :
  writeVar PG ⟨n,[f,VE pb pre k 7 (t.map qa3) post g]⟩ 3 (.ptr k (i * 7+5)) (.int .i64 u)=some ⟨n,[f,VE pb pre k 7 ((qey t i u).map qa3) post g]⟩:=by
 have hne:t.map qa3≠[]:=by intro e;have:=congrArg List.length e;simp at this;subst this;simp at hi
 have hne':(qey t i u).map qa3≠[]:=by simp[qey]
 have hk:getF k f=none:=hf k h.lk.1;have hg:Heap.get ⟨n,[f,VE pb pre k 7 (t.map qa3) post g]⟩ k=some (.cells (qa6 (t.map qa3))):=by simp only[Heap.get,getFs];rw[hk,qx1 h hne]
 have hs:Heap.set ⟨n,[f,VE pb pre k 7 (t.map qa3) post g]⟩ k (.cells (qa6 ((qey t i u).map qa3)))=some ⟨n,[f,VE pb pre k 7 ((qey t i u).map qa3) post g]⟩:=by simp only[Heap.set,setFs];rw[qjp hk];unfold VE;rw[qbn hne,qbn hne',qbd hne,qbd hne'];simp[setF,h.k_p,qm7 hi]
 unfold writeVar;simp[AV.cells,allSingle,AV.single,writeCells,hg,Blk.wt,lay_up hi u,Heap.ready,refs,hs,Blk.re]
theorem qeh{m n pb k:Nat} {pre post es:List AV} {g f:List (Nat × Blk)} (h:Eok m pb pre k 7 es post g) (hf:∀j,j < m->getF j f=none) :
  qaw PG ⟨n,[f,VE pb pre k 7 es post g]⟩ 24 (.ptr pb pre.length)=some (.agg [qcx k 7 es])/\qaw PG ⟨n,[f,VE pb pre k 7 es post g]⟩ 22 (.ptr pb pre.length)=some (qcx k 7 es):=by
 have hgv:Heap.get ⟨n,[f,VE pb pre k 7 es post g]⟩ pb=some (.cells (pre++qcx k 7 es::post)):=by simp only[Heap.get,getFs];rw[hf pb h.lp,VE_p]
 have gx:qck (pre++qcx k 7 es::post) pre.length=some (qcx k 7 es):=by rw[qe0 (by simp),List.getElem_append_right (by omega)];simp
 have sx:qex pre.length 1 (pre++qcx k 7 es::post)=some [qcx k 7 es]:=by simp[qex,qew]
 constructor
 ·simp[qaw,hgv,gx,sx,readCells,Blk.rd]
 ·simp[hgv,gx]
theorem c126{T:List (Entry PG)} (hP:qIn 154 T e154) (hS:qIn 124 T e124) {m pb k:Nat} {pre post:List AV} {g:List (Nat × Blk)} {t:Tr} (h:Eok m pb pre k 7 (t.map qa3) post g) {i:Nat} (hi:i < t.length) (h0:i≠0) (hu:(qa1 t (i:Int)).up = -1) :
  CA T 126 [.ptr pb pre.length,.int .i64 (i:Int)] ⟨m,[VE pb pre k 7 (t.map qa3) post g]⟩ (.tup []) ⟨m,[VE pb pre k 7 (t.map qa3) post g]⟩:=by
 have hne:t≠[]:=by intro e;subst e;simp at hi
 have hne':t.map qa3≠[]:=by simpa using hne
 have hb:isB t (i:Int)=true:=by simp[isB,hi]
 have nf:∀j,j < m->getF j ([]:List (Nat × Blk))=none:=fun _ _=>rfl;have rdT:=fun n=>(qeh (n:=n) h nf).1;have rdN:=fun n=>(qeh (n:=n) h nf).2;have hk:∀n,Heap.get ⟨n,[[],VE pb pre k 7 (t.map qa3) post g]⟩ k=some (.cells (qa6 (t.map qa3))):=fun n=>by simp only[Heap.get,getFs];rw[nf k h.lk.1,qx1 h hne']
 have kp:=fun n=>q154 hP (qe2 hne (hk n)) hb hu;have ks:=fun n=>q124 hS (qe2 hne (hk n)) (i:Int);rw[hb]at ks;have sU:qey t i (-1)=t:=by
  have e:({ qa1 t i with up:=-1 }:Nd)=qa1 t i:=by rw[<- hu]
  unfold qey;rw[e,<- qdn hi]
 have hw:=fun n=>qly (n:=n) h hi (-1) nf;rw[sU]at hw;have ix:qat PG 22 (qcx k 7 (t.map qa3)) (.int .i64 (i:Int))=some (.ptr k (i * 7)):=by rw[qbd hne'];simp[qat,qbv hi]
 have hfit:=fit_W (H:=⟨m,[[],VE pb pre k 7 (t.map qa3) post g]⟩) h (Nat.le_refl m) hne' (qbg t) (by simp only[Heap.get,getFs];rw[nf pb h.lp,VE_p]) (hk m) (fun e he=>by have nd:=h.nd;rw[List.nodup_cons]at nd;have e1:pb≠e.1:=fun x=>nd.1 (List.mem_map.2 ⟨e,he,x.symm⟩);have e2:k≠e.1:=fun x=>h.lk.2 (by rw[x];exact List.mem_cons_of_mem _ (List.mem_map.2 ⟨e,he,rfl⟩));simp[Heap.get,getFs,VE,qbn hne',getF,qao e1,qao e2,qmq nd.2 he]);refine qa0 (s0:=⟨[0,1,4,5],[.ptr pb pre.length,.int .i64 (i:Int),uD,uD],[],54,⟨m,[]::[VE pb pre k 7 (t.map qa3) post g]⟩⟩) Tryz.func126 rfl rfl rfl ?_;apply ra;simp[zS,rdT,kp];apply ra;simp[zS];apply qag rfl;apply qa4;simp;apply ra;simp[zS,rdT,ks,h0];apply qai rfl;apply ra;simp[zS,rdN,ix,hw];refine⟨_,rfl,_,_,?_,hfit⟩;simp[oneOr,qas,qax]
theorem qip(L:List Int):Elems 1 (L.map qb9):=.map (sz:=1) (f:=qb9) (by decide) (fun x=>⟨rfl,by simp[qb9,AV.cells,qa9,qab],fun _=>rfl,fun h=>absurd rfl h⟩) L
theorem qrq:∀(L:List Int),allSingle (qa6 (L.map qb9))=true
 |[]=>rfl
 |a::r=>by simp only[List.map_cons,qa6,qdq,qrq r];rfl
theorem c128{T:List (Entry PG)} (L:List Int) (hl:L.length<=1000000):CA T 128 [qbc L] zH (qcx 0 1 (L.map qb9)) ⟨1,[qdd 0 (L.map qb9)]⟩:=by
 have happ:=qkt (P:=PG) (elem:=3) (b:=0) (m:=1) (es:=L.map qb9) (g:=[]) (fs:=[]) szT3 byT3 zeT3 rfl (by omega) (by omega) (qip _) (qrq _) (by simp;omega);cases L with
 |nil=>
  refine qa0 (s0:=⟨[0,2],[.fslc 1 [],uD],[],8,⟨0,[[]]⟩⟩) Tryz.func128 rfl rfl rfl ?_;apply ra;simp[zS];refine qp3 (pre:=[]) ?_ ?_
  ·apply ra;simp[zS];apply qai rfl;apply ra;simp[zS];apply qa5;simp[zQ,Tryz.f128];exact qio (.inl rfl)
  ·apply ra;simp[zS];apply qag rfl;apply qa4;simp;have happ:qbz PG ⟨1,[[(0,.cells [])]]⟩ 3 (.slc 0 0 0 (.ex 0)) .eslc=some (.slc 0 0 0 (.ex 0),⟨1,[[(0,.cells [])]]⟩):=rfl;apply ra;simp[zS,happ];apply qa5;simp[zQ,Tryz.f128];exact qio (.inr (.inr ⟨_,rfl⟩))
 |cons x r=>
  have e1:qxi 0 1 1 ((x::r).map qb9)=.slc 1 0 (r.length+1) (.rest 1):=by simp[qxi]
  have e2:qtc ⟨1,[[(0,.cells [])]]⟩ ((x::r).map qb9)=⟨2,[[(1,.cells (qa6 ((x::r).map qb9))),(0,.cells [])]]⟩:=rfl;rw[e1,e2]at happ;refine qa0 (s0:=⟨[0,2],[qbc (x::r),uD],[],8,⟨0,[[]]⟩⟩) Tryz.func128 rfl rfl rfl ?_;apply ra;simp[zS,qbc];apply ra;simp[zS,qbc];apply qag rfl;apply qa4;simp;simp only[List.map_cons]at happ;apply ra;simp[zS,happ];apply qa5;simp[zQ,Tryz.f128];exact qks (b:=1) (es:=(x::r).map qb9) (qip _) (by simp) (by simp) (by simp[zG])
def e128:Entry PG:=mkOwn 128 [[1]] (fun L:List Int=>[qbc L]) (fun L=>L.length<=1000000) 1 (fun L=>L.map qb9) qip fun L hl=>c128 (T:=[]) L hl
theorem k128{T:List (Entry PG)} (hT:qIn 128 T e128) {L:List Int} (hl:L.length<=1000000) (H:Heap):qb6 (ctx T) (.fn 128) [qbc L] H=some (qcx H.n 1 (L.map qb9),qtc H (L.map qb9)):=
 qzl hT (fun x y h=>by simp only[List.cons.injEq]at h;exact qmm h.1) L hl (by simp[qa9]) (by simp[qan]) H
theorem fit_ins{row row':List AV} {x:AV} (hp:qa9 row'=true) (hx:qab x=true) (he:row=row'):FitH 2 (idn 3) [] ⟨3,[[(2,.cells row)],[(1,.cells [x])]]⟩ ⟨3,[[(2,.cells row'),(1,.cells [x])]]⟩:=by
 subst he;refine⟨by simpa using qhe 3,qi5 3,by simp[Heap.ents],?_,?_,by show 2<=3;omega,?_,fun x h=>by cases h⟩
 ·intro y hy;obtain⟨i,hi,rfl⟩:=List.mem_map.1 hy;simpa using hi
 ·intro y hy hlt;obtain⟨i,hi,rfl⟩:=List.mem_map.1 hy;rfl
 ·intro e he;simp only[Heap.ents,List.flatten_cons,List.flatten_nil,List.append_nil,List.mem_cons,List.not_mem_nil,or_false]at he;rcases he with rfl|rfl
  ·exact⟨2,.cells row,qd8 (by omega),by simp[zG],by show qax _ _ _ _;exact qak hp⟩
  ·exact⟨1,.cells [x],qd8 (by omega),by simp[zG],by show qax _ _ _ _;exact qak (by simp[qa9,hx])⟩
theorem c127{T:List (Entry PG)} (L:List Int) (x:Int) (hl:L.length<=1000000) :
  CA T 127 [qcx 0 1 (L.map qb9),.int .i64 (L.length:Int),.slc 1 0 1 (.ex 1)] ⟨2,[qdd 0 (L.map qb9)++[(1,.cells [.int .i64 x])]]⟩ (.slc 2 0 (L.length+1) (.rest 1)) ⟨3,[[(2,.cells (qa6 ((L++[x]).map qb9))),(1,.cells [.int .i64 x])]]⟩:=by
 have happ:=qii (P:=PG) (H:=⟨2,[[],qdd 0 (L.map qb9)++[(1,.cells [.int .i64 x])]]⟩) (elem:=3) (b:=0) (n:=0) (es:=L.map qb9) (x:=.slc 1 0 1 (.ex 1)) (cs:=[.int .i64 x]) szT3 byT3 zeT3 rfl (by omega) (by omega) rfl
  (by cases L<;>simp[qba,readCells,zG,qdd,qex,qew,Blk.rd]) rfl rfl (qip L) (by simp;omega)
  (fun h=>by cases L with
   |nil=>exact absurd rfl h
   |cons y r=>simp[zG,qdd])
  (fun h=>by cases L with
   |nil=>rfl
   |cons y r=>cases h) (fun _=>rfl)
 have er:qa6 ((L++[x]).map qb9)=qa6 (L.map qb9)++[.int .i64 x]:=by rw[List.map_append,qbj];simp[qa6,qb9,AV.cells]
 have hp:qa9 (qa6 ((L++[x]).map qb9))=true:=(qip _).pure;rw[er]at hp ⊢;have hfit:=fit_ins (x:=.int .i64 x) hp rfl rfl;generalize hR:qa6 (L.map qb9)++[AV.int .i64 x]=R at *;cases L with
 |nil=>replace happ:qbz PG ⟨2,[[],[(1,.cells [.int .i64 x])]]⟩ 3 .zslc (.slc 1 0 1 (.ex 1))=some (.slc 2 0 1 (.rest 1),⟨3,[[(2,.cells R)],[(1,.cells [.int .i64 x])]]⟩):=happ;refine qa0 (s0:=⟨[0,1,2,6,7,8,9],[.zslc,.int .i64 0,.slc 1 0 1 (.ex 1),uD,uD,uD,uD],[],95,⟨2,[]::[[(1,.cells [.int .i64 x])]]⟩⟩) Tryz.func127 rfl rfl rfl ?_;have s0:∀H,qdx PG H 30 .zslc (some (.int .i64 0)) none none=some .zslc:=fun _=>rfl;have l0:∀H,qf6 PG H 30 .zslc=some 0:=fun _=>rfl;have l1:∀H,qf6 PG H 30 (.slc 1 0 1 (.ex 1))=some 1:=fun _=>rfl;apply ra;simp[zS];apply ra;simp[zS,s0];apply ra;simp[zS,l1];apply ra;simp[zS];apply qag rfl;apply qa4;simp;apply ra;simp[zS,l0];apply ra;simp[zS];apply qai rfl;apply ra;simp[zS,happ];apply qa5;simp[zQ,Tryz.f127];refine⟨_,_,?_,hfit⟩;simp[qas,qc1 (show 2 < 3 by omega)]
 |cons y r=>
  have hlen:(qa6 ((y::r).map qb9)).length=r.length+1:=by rw[(qip _).len];simp
  have hlen':(qa6 (qb9 y::r.map qb9)).length=r.length+1:=hlen;have happ':qbz PG ⟨2,[[],[(0,.cells (qa6 (qb9 y::r.map qb9))),(1,.cells [.int .i64 x])]]⟩ 3 (.slc 0 0 (r.length+1) (.rest 1)) (.slc 1 0 1 (.ex 1))=some (.slc 2 0 (r.length+1+1) (.rest 1),⟨3,[[(2,.cells R)],[(1,.cells [.int .i64 x])]]⟩):=by have e:qcx 0 1 ((y::r).map qb9)=.slc 0 0 (r.length+1) (.rest 1):=(by simp[qcx]);rw[e]at happ;simpa[qdd,Heap.drop,qen,killF,getF,Heap.new,pushF]using happ
  obtain⟨v,hv⟩ : ∃v,qdx PG ⟨2,[[],[(0,.cells (qa6 (qb9 y::r.map qb9))),(1,.cells [.int .i64 x])]]⟩ 30 (.slc 0 0 (r.length+1) (.rest 1)) (some (.int .i64 ((r.length:Int)+1))) none none=some v:=by have ix:=qbv (show r.length+1 < Nat.succ (r.length+1) by omega);rw[Int.natCast_add]at ix;simp only[Int.natCast_one]at ix;have bl:Nat.ble (r.length+1) (r.length+1)=true:=(by rw[Nat.ble_eq];exact Nat.le_refl _);simp[qdx,qzw,qki,qcp,zG,Blk.rd,hlen',qd4,ix,bl]
  have l0:∀H,qf6 PG H 30 (.slc 0 0 (r.length+1) (.rest 1))=some (r.length+1):=fun _=>rfl;have l1:∀H,qf6 PG H 30 (.slc 1 0 1 (.ex 1))=some 1:=fun _=>rfl;have eV:qcx 0 1 ((y::r).map qb9)=.slc 0 0 (r.length+1) (.rest 1):=by simp[qcx]
  have eL:((y::r).length:Int)=(r.length:Int)+1:=by simp
  rw[eV,eL];refine qa0 (s0:=⟨[0,1,2,6,7,8,9],[.slc 0 0 (r.length+1) (.rest 1),.int .i64 ((r.length:Int)+1),.slc 1 0 1 (.ex 1),uD,uD,uD,uD],[],95,⟨2,[]::[[(0,.cells (qa6 (qb9 y::r.map qb9))),(1,.cells [.int .i64 x])]]⟩⟩) Tryz.func127 rfl rfl rfl ?_;apply ra;simp[zS];apply ra;simp[zS,hv];apply ra;simp[zS,l1];apply ra;simp[zS];apply qag rfl;apply qa4;simp;apply ra;simp[zS,l0];apply ra;simp[zS];apply qai rfl;apply ra;simp[zS,happ'];apply qa5;simp[zQ,Tryz.f127];refine⟨_,_,?_,hfit⟩;simp[qas,qc1 (show 2 < 3 by omega)]
mutual
theorem zfs{σ:List (Nat × Nat)} {Φ:List (Nat × List AV)}:∀(a b:AV),qas σ [] a b->qas σ Φ a b
 |.undef,b,h=>by cases b<;>simp_all [qas,qca]
 |.bool _,b,h=>by cases b<;>simp_all [qas,qca]
 |.int _ _,b,h=>by cases b<;>simp_all [qas,qca]
 |.float _ _,b,h=>by cases b<;>simp_all [qas,qca]
 |.cplx _ _ _,b,h=>by cases b<;>simp_all [qas,qca]
 |.str _,b,h=>by cases b<;>simp_all [qas,qca]
 |.nilP,b,h=>by cases b<;>simp_all [qas,qca]
 |.ptr _ _,b,h=>by cases b<;>simp_all [qas,qca]
 |.fptr _ _,b,h=>by cases b<;>simp_all [qas,qca]
 |.nilS,b,h=>by cases b<;>simp_all [qas,qca]
 |.eslc,b,h=>by cases b<;>simp_all [qas,qca]
 |.zslc,b,h=>by cases b<;>simp_all [qas,qca]
 |.slc _ _ _ _,b,h=>by cases b<;>simp_all [qas,qca]
 |.fslc _ _,b,h=>by cases b<;>simp_all [qas,qca]
 |.xslc _ _,b,h=>by cases b<;>simp_all [qas,qca]
 |.nilM,b,h=>by cases b<;>simp_all [qas,qca]
 |.map _,b,h=>by cases b<;>simp_all [qas,qca]
 |.nilF,b,h=>by cases b<;>simp_all [qas,qca]
 |.nilI,b,h=>by cases b<;>simp_all [qas,qca]
 |.iface _ _,b,h=>by cases b<;>simp_all [qas,qca]
 |.yld _,b,h=>by cases b<;>simp_all [qas,qca]
 |.zptr _ _,b,h=>by cases b<;>simp_all [qas,qca]
 |.val _,b,h=>by cases b<;>simp_all [qas,qca]
 |.agg xs,b,h=>by
  cases b with
  |agg ys=>simp only[qas]at h ⊢;exact h.imp (qe6 xs ys) id
  |undef=>simp[qas]
  |_=>simp[qas]at h
 |.tup xs,b,h=>by
  cases b with
  |tup ys=>simp only[qas]at h ⊢;exact h.imp (qe6 xs ys) id
  |undef=>simp[qas]
  |_=>simp[qas]at h
 |.func f x y,b,h=>by
  cases b with
  |func f' x' y'=>simp only[qas]at h ⊢;exact h.imp (fun⟨h1,h2,h3⟩=>⟨h1,qe6 x x' h2,qe6 y y' h3⟩) id
  |undef=>simp[qas]
  |_=>simp[qas]at h
theorem qe6{σ:List (Nat × Nat)} {Φ:List (Nat × List AV)}:∀(a b:List AV),qax σ [] a b->qax σ Φ a b
 |[],b,h=>by simpa[qax]using h
 |x::r,[],h=>by simp[qax]at h
 |x::r,y::s,h=>by simp only[qax]at h ⊢;exact⟨zfs x y h.1,qe6 r s h.2⟩
end
theorem qmt{σ:List (Nat × Nat)} {Φ:List (Nat × List AV)} {k k':Blk} (h:qi1 σ [] k k'):qi1 σ Φ k k':=by
 cases k<;>cases k'<;>simp only[qi1]at h ⊢
 ·exact qe6 _ _ h
 ·exact⟨qe6 _ _ h.1,qe6 _ _ h.2⟩
 ·exact⟨h.1,qe6 _ _ h.2⟩
 ·exact⟨h.1,h.2.1,h.2.2.1,qe6 _ _ h.2.2.2⟩
 ·exact h
 ·exact h
 ·obtain⟨h1,h2,h3,h4,h5⟩:=h;exact⟨h1,h2,h3,qe6 _ _ h4,h5⟩
theorem fit_K{m m' pb k sz c:Nat} {pre post es es' cs0 K:List AV} {g:List (Nat × Blk)} {H:Heap} (h:Eok m pb pre k sz es post g) (hm:m<=m') (hc:m<=c) (hne:es'≠[]) (hp:H.get pb=some (.cells (pre++qcx k sz es'::post)))
  (hcs:∀σ,qax σ [(c,K)] cs0 (qa6 es')) (hk:H.get k=some (.cells cs0)) (hK:H.get c=some (.cells K)) (pK:qa9 K=true)
  (hg:∀e,e∈g->H.get e.1=some e.2):FitH m (idn m) [(c,K)] H ⟨m',[[],VE pb pre k sz es' post g]⟩:=by
 have idl:=qln m;have nd:=h.nd;have hkk:=h.lk.2;simp only[List.mem_cons,not_or]at hkk;rw[List.nodup_cons]at nd;refine⟨?_,qi5 m,?_,?_,?_,hm,?_,?_⟩
 ·have e1:(idn m).map (·.1)=List.range m:=by simp[idn,Function.comp_def]
  rw[e1,List.nodup_append];refine⟨List.nodup_range,by simp,fun a ha b hb=>?_⟩;simp only[List.map_cons,List.map_nil,List.mem_singleton]at hb;have:a < m:=by simpa using ha
  omega
 ·simp only[Heap.ents,List.flatten_cons,List.flatten_nil,List.append_nil,List.nil_append,VE,qbn hne,List.map_cons,List.map_append,List.map_nil,List.cons_append,List.nodup_cons,List.mem_cons,not_or];exact⟨⟨fun e=>hkk.1 e.symm,nd.1⟩,hkk.2,nd.2⟩
 ·intro x hx;obtain⟨i,hi,rfl⟩:=List.mem_map.1 hx;have:i < m:=by simpa using hi
  show i < m';omega
 ·intro x hx hlt;obtain⟨i,hi,rfl⟩:=List.mem_map.1 hx;rfl
 ·intro e he;simp only[Heap.ents,List.flatten_cons,List.flatten_nil,List.append_nil,List.nil_append,VE,qbn hne,List.cons_append,List.mem_cons]at he;rcases he with rfl|rfl|he
  ·refine⟨pb,_,qd8 h.lp,hp,?_⟩;show qax _ _ _ _;rw[qbd hne];refine qe1 (qe6 _ _ (h.sp _ idl)) ?_;simp only[qax];exact⟨by simp[qas,qc1 h.lk.1],qe6 _ _ (h.sq _ idl)⟩
  ·exact⟨k,.cells cs0,qd8 h.lk.1,hk,hcs _⟩
  ·exact⟨e.1,e.2,qd8 (h.lg e he),hg e he,qmt (h.sg e he _ idl)⟩
 ·intro x hx;simp only[List.mem_singleton]at hx;subst hx;exact⟨K,hK,qak pK,pK⟩
def qb8(t:Tr) (i:Nat) (K:List Int):Tr:=t.take i++{ qa1 t i with kids:=K }::t.drop (i+1)
theorem qcv{t:Tr} {i:Nat} (h:i < t.length) (K:List Int):(qb8 t i K).length=t.length:=by simp[qb8];omega
def qhx(t:Tr) (i:Nat) (v:AV):List AV:=(qa6 ((t.take i).map qa3)++[qb9 (qa1 t i).kind,qb9 (qa1 t i).space,.str (qa1 t i).name,qaf (qa1 t i).attrs,.str (qa1 t i).data,qb9 (qa1 t i).up])++[v]++qa6 ((t.drop (i+1)).map qa3)
theorem qzr{t:Tr} {i:Nat} (h:i < t.length) (v:AV):qh7 [v] (i * 7+6) (qa6 (t.map qa3))=some (qhx t i v):=by
 have hl:(qa6 ((t.take i).map qa3)).length=i * 7:=by rw[(qbg _).len];simp;omega
 have e1:qa6 (t.map qa3)=qhx t i (qbc (qa1 t i).kids):=by
  conv=>lhs;rw[qdn h]
  simp[qbj,qa6,Nd.cs,qhx]
 rw[e1];have:=qhw (a:=qa6 ((t.take i).map qa3)++[qb9 (qa1 t i).kind,qb9 (qa1 t i).space,.str (qa1 t i).name,qaf (qa1 t i).attrs,.str (qa1 t i).data,qb9 (qa1 t i).up]) (b:=[qbc (qa1 t i).kids]) (b':=[v]) (c:=qa6 ((t.drop (i+1)).map qa3)) rfl;rw[List.length_append,hl]at this;exact this
theorem qov:∀(K:List Int),qa6 (K.map qb9)=K.map qb9
 |[]=>rfl
 |x::r=>by simp only[List.map_cons,qa6,qov r,zc7,List.cons_append,List.nil_append]
theorem fit_kids{t:Tr} {i c:Nat} {K:List Int} (σ:List (Nat × Nat)):qax σ [(c,K.map qb9)] (qhx t i (.slc c 0 K.length (.rest 1))) (qa6 ((qb8 t i K).map qa3)):=by
 have e2:qa6 ((qb8 t i K).map qa3)=qhx t i (qbc K):=by simp[qb8,qbj,qa6,Nd.cs,qb9,qhx]
 have ef:qa6 (K.map qb9)=K.map qb9:=qov K;rw[e2];unfold qhx;refine qe1 (qe1 ?_ ?_) (qak (qbg _).pure)
 ·exact qe1 (qak (qbg _).pure) (qak (by simp[qa9,qab,qb9]))
 ·have hs:qex 0 (K.length * 1) (K.map qb9)=some (qa6 (K.map qb9)):=by
   have:=qt1 (qip K) (Nat.le_refl _);rw[List.take_of_length_le (Nat.le_refl _),List.length_map]at this
   rwa [ef]at this ⊢
  simp only[qax,and_true];simp only[qas];exact .inl ⟨K.map qb9,by simp[qca],hs,by simp,(qip K).size⟩
section
variable {m n pb k sz:Nat} {pre post es:List AV} {g f:List (Nat × Blk)}
theorem qnr(h:Eok m pb pre k sz es post g):((VE pb pre k sz es post g).map (·.1)).Nodup:=by
 have nd:=h.nd;rw[List.nodup_cons]at nd;have hk:=h.lk.2;simp only[List.mem_cons,not_or]at hk;unfold VE;cases es with
 |nil=>simpa[qdd]using nd
 |cons x r=>simp only[qdd,List.map_cons,List.cons_append,List.nil_append,List.nodup_cons,List.mem_cons,not_or];exact⟨⟨fun e=>hk.1 e.symm,nd.1⟩,hk.2,nd.2⟩
theorem qoc(h:Eok m pb pre k sz es post g):∀e,e∈VE pb pre k sz es post g->e.1 < m/\SelfB m e.2:=by
 intro e he;unfold VE at he;rw[List.mem_cons,List.mem_append]at he;rcases he with rfl|he|he
 ·refine⟨h.lp,fun σ hσ=>?_⟩;show qax _ _ _ _;refine qe1 (h.sp σ hσ) ?_;simp only[qax];refine⟨?_,h.sq σ hσ⟩;cases es with
  |nil=>simp[qcx,qas]
  |cons x r=>rw[qbd (by simp)];simp[qas,hσ k h.lk.1]
 ·cases es with
  |nil=>cases he
  |cons x r=>simp only[qdd,List.mem_singleton]at he;subst he;exact⟨h.lk.1,qjo h.el.pure⟩
 ·exact⟨h.lg e he,h.sg e he⟩
theorem zfq{N:Nat} {H H':Heap} (hN:N<=m) (nd:(H'.ents.map (·.1)).Nodup) (ha:∀e,e∈H'.ents->e.1 < m/\SelfB m e.2/\H.get e.1=some e.2) (hn:m<=H'.n):FitH N (idn m) [] H H' where
 nd1:=by simpa using qhe m
 nd2:=qi5 m
 nd3:=nd
 lt:=fun x hx=>by
  obtain⟨i,hi,rfl⟩:=List.mem_map.1 hx;have:i < m:=by simpa using hi
  show i < H'.n;omega
 idn:=fun x hx hlt=>by obtain⟨i,hi,rfl⟩:=List.mem_map.1 hx;rfl
 num:=Nat.le_trans hN hn
 src:=fun e he=>by obtain⟨h1,h2,h3⟩:=ha e he;exact⟨e.1,e.2,qd8 h1,h3,h2 _ (qln m)⟩
 frz:=fun x h=>by cases h
theorem qwf{N m':Nat} (h:Eok m pb pre k sz es post g) (hN:N<=m) (hm:m<=m') (hf:∀i,i < m->getF i f=none):FitH N (idn m) [] ⟨n,[f,VE pb pre k sz es post g]⟩ ⟨m',[[],VE pb pre k sz es post g]⟩:=by refine zfq hN (by simpa[Heap.ents]using qnr h) (fun e he=>?_) hm;simp only[Heap.ents,List.flatten_cons,List.flatten_nil,List.append_nil,List.nil_append]at he;obtain⟨h1,h2⟩:=qoc h e he;refine⟨h1,h2,?_⟩;simp only[Heap.get,getFs];rw[hf _ h1,qmq (qnr h) he]
theorem qhg{N m':Nat} (h:Eok m pb pre k sz es post g) (hN:N<=m) (hm:m<=m') (hf:∀i,i < m->getF i f=none):FitH N (idn m) [] ⟨n,[f,VE pb pre k sz es post g]⟩ ⟨m',[VE pb pre k sz es post g]⟩:=by refine zfq hN (by simpa[Heap.ents]using qnr h) (fun e he=>?_) hm;simp only[Heap.ents,List.flatten_cons,List.flatten_nil,List.append_nil,List.nil_append]at he;obtain⟨h1,h2⟩:=qoc h e he;refine⟨h1,h2,?_⟩;simp only[Heap.get,getFs];rw[hf _ h1,qmq (qnr h) he]
structure FactR (C:Ctx) where
 b:Nat
 args:List AV
 H:Heap
 v:AV
 H':Heap
 ok:qj9 C b args H v H'
open Classical in
def qyd {C:Ctx}:List (FactR C)->qcf->qcf
 |[],call,c,args,H=>call c args H
 |x::r,call,c,args,H=>if c=.yl x.b/\args=x.args/\H=x.H then some (x.v,x.H') else qyd r call c args H
theorem qu9{C:Ctx} {call:qcf} (hc:CallOK C call):∀(l:List (FactR C)),CallOK C (qyd l call)
 |[]=>hc
 |x::r=>{
  fn:=fun f args H v H' h=>by
   unfold qyd at h;split at h
   next hx=>cases hx.1
   ·exact(qu9 hc r).fn f args H v H' h
  yl:=fun b args H v H' h=>by
   unfold qyd at h;split at h
   next hx=>obtain⟨hf,rfl,rfl⟩:=hx;simp only[sj,Prod.mk.injEq]at h;obtain⟨rfl,rfl⟩:=h;cases hf;exact x.ok
   ·exact(qu9 hc r).yl b args H v H' h }
theorem zgl{T:List (Entry PG)} (l:List (FactR (ctx T))):CallOK (ctx T) (qyd l (qb6 (ctx T))):=qu9 qbf l
theorem qwv{C:Ctx} {b:Nat} {args:List AV} {H H':Heap} {v:AV} {ok:qj9 C b args H v H'} {r:List (FactR C)} {call:qcf}:qyd (⟨b,args,H,v,H',ok⟩::r) call (.yl b) args H=some (v,H'):=by simp[qyd]
section
variable {C:Ctx} {call:qcf} {ops:Array Oper} {H0:Heap} {s:St} {o:Oper} {l:List Oper} {P:St->Prop}
theorem qqi{b:Bool} (h1:b=true->∃s',zas C call ops H0 (qrg C call s o (some true)) l=some s'/\P s') (h2:b=false->∃s',zas C call ops H0 (qrg C call s o (some false)) l=some s'/\P s') :
  ∃s',zas C call ops H0 (qrg C call s o (some b)) l=some s'/\P s':=by
 cases b with
 |true=>exact h1 rfl
 |false=>exact h2 rfl
end
theorem qnf{b k:Nat} {x:Blk} (h:k≠b):getF b [(k,x)]=none:=by unfold getF;rw[qao h];rfl
structure FactP (C:Ctx) where
 f:FuncId
 args:List AV
 v:AV
 pure:qa9 args=true
 ok:CallAt C f args zH v zH
open Classical in
def qog {C:Ctx}:List (FactP C)->qcf->qcf
 |[],call,c,args,H=>call c args H
 |x::r,call,c,args,H=>if c=.fn x.f/\args=x.args then some (x.v,H) else qog r call c args H
theorem qua{C:Ctx} {call:qcf} (hc:CallOK C call):∀(l:List (FactP C)),CallOK C (qog l call)
 |[]=>hc
 |x::r=>{
  fn:=fun f args H v H' h=>by
   unfold qog at h;split at h
   next hx=>obtain⟨hf,rfl⟩:=hx;simp only[sj,Prod.mk.injEq]at h;obtain⟨rfl,rfl⟩:=h;cases hf;exact x.ok.lift x.pure _
   ·exact(qua hc r).fn f args H v H' h
  yl:=fun b args H v H' h=>by
   unfold qog at h;split at h
   next hx=>cases hx.1
   ·exact(qua hc r).yl b args H v H' h }
theorem qj3{T:List (Entry PG)} (l:List (FactP (ctx T))):CallOK (ctx T) (qog l (qb6 (ctx T))):=qua qbf l
theorem qhi{C:Ctx} {f:FuncId} {args:List AV} {H:Heap} {v:AV} {hp:qa9 args=true} {ok:CallAt C f args zH v zH} {r:List (FactP C)} {call:qcf}:qog (⟨f,args,v,hp,ok⟩::r) call (.fn f) args H=some (v,H):=by simp[qog]
def rgIn:Code->Option (Code × Code)
 |.rangeFunc _ _ a b=>some (a,b)
 |.seq a b=>match rgIn a with
  |some x=>some x
  |none=>rgIn b
 |.block _ b=>rgIn b
 |.loop b=>rgIn b
 |.cond _ a b=>match rgIn a with
  |some x=>some x
  |none=>rgIn b
 |_=>none
def rgA(o:Option Code):Code:=match o.bind rgIn with
 |some x=>x.1
 |none=>.skip
def rgB(o:Option Code):Code:=match o.bind rgIn with
 |some x=>x.2
 |none=>.skip
def rowsB(b:Nat) (R:List (Nat × Blk)):Prop:=(R.map (·.1)).Nodup/\∀e,e∈R->e.1 < b/\∃cs,e.2=.cells cs/\qa9 cs=true
structure RgK where
 ks:List Nat
 vs:List AV
 sz:Nat
 ps:List Nat
 as':Code
 bd:Code
def RgK.blk(K:RgK) (st:LoopState) (pend:Option Code) (ts:List (Nat × AV)):Blk:=.loop st pend K.ks K.vs ts K.sz K.ps K.as' K.bd
def RgK.rows{ρ:Type} (K:RgK) (b:Nat) (R:Option ρ->List (Nat × Blk)):Option ρ->List (Nat × Blk)
 |none=>(b,K.blk .ready none [])::R none
 |some r=>(b,K.blk .done (some .ret) [])::R (some r)
structure RgK.Ok {ρ:Type} (K:RgK) (b:Nat) (R:Option ρ->List (Nat × Blk)):Prop where
 vs:∀σ,Idl b σ->qax σ [] K.vs K.vs
 rows:∀c,rowsB b (R c)
section
variable {ρ:Type} {K:RgK} {b:Nat} {R:Option ρ->List (Nat × Blk)}
theorem RgK.Ok.self(h:K.Ok b R) (st:LoopState) (pend:Option Code) (ts:List (Nat × AV)):∀σ,Idl (b+1) σ->qi1 σ [] (K.blk st pend ts) (K.blk st pend []):=fun σ hσ=>
 ⟨rfl,rfl,rfl,h.vs σ fun i hi=>hσ i (by omega),rfl,rfl,rfl,rfl,rfl⟩
theorem RgK.Ok.fit(h:K.Ok b R) {N m:Nat} {st:LoopState} {pend:Option Code} {ts:List (Nat × AV)} {c:Option ρ} {H:Heap} (hN:N<=b+1) (hm:b+1<=m) (hb:H.get b=some (K.blk st pend ts)) (hr:∀e,e∈R c->H.get e.1=some e.2)
  {fs:List (List (Nat × Blk))} (hfs:fs.flatten=(b,K.blk st pend [])::R c):FitH N (idn (b+1)) [] H ⟨m,fs⟩ where
 nd1:=by simpa using qhe (b+1)
 nd2:=qi5 (b+1)
 nd3:=by simp only[Heap.ents,hfs,List.map_cons,List.nodup_cons];refine⟨fun hx=>?_,(h.rows c).1⟩;obtain⟨e,he,hx⟩:=List.mem_map.1 hx;have:=((h.rows c).2 e he).1;omega
 lt:=fun x hx=>by
  obtain⟨i,hi,rfl⟩:=List.mem_map.1 hx;have:i < b+1:=by simpa using hi
  show i < m;omega
 idn:=fun x hx hlt=>by obtain⟨i,hi,rfl⟩:=List.mem_map.1 hx;rfl
 num:=by show N<=m;omega
 src:=fun e he=>by
  simp only[Heap.ents,hfs,List.mem_cons]at he;rcases he with rfl|he
  ·exact⟨b,_,qd8 (Nat.lt_succ_self b),hb,h.self _ _ _ _ (qln (b+1))⟩
  ·obtain⟨h1,cs,h2,h3⟩:=(h.rows c).2 e he;refine⟨e.1,e.2,qd8 (by omega),hr e he,?_⟩;rw[h2];exact qak h3
 frz:=fun x h=>by cases h
def quj(go:Nat->Option ρ):Nat->Option ρ
 |0=>none
 |j+1=>match go j with
  |some r=>some r
  |none=>quj go j
def qzg:Option ρ->Out
 |none=>.normal
 |some _=>.ret
theorem round_K{T:List (Entry PG)} (h:K.Ok b R) {args:List AV} {g:Option ρ} {s1:St} (hp:qv6 ⟨K.ks,K.vs,[],K.sz,⟨b+1,[[],[],(b,K.blk .ready none [])::R none]⟩⟩ K.ps args=some s1)
  (hw:∀l,WpSr (ctx T) (b+1) (some l) K.as' s1 fun x s=>x=.normal/\∃m f,s.H=⟨m,[f,[],(b,K.blk .ready none [])::R none]⟩/\getF b f=none /\
   ∀B,B=K.blk .busy none []->WpSr (ctx T) (b+1) (some l) K.bd { s with H:=⟨m,[f,[],(b,B)::R none]⟩ } fun x s'=>∃m' f',(∀i,i < b+1->getF i f'=none)/\s'.H=⟨m',[f',[],(b,B)::R g]⟩/\x=qzg g) :
  qj9 (ctx T) b args ⟨b+1,[[],(b,K.blk .ready none [])::R none]⟩ (.bool g.isNone) ⟨b+1,[[],K.rows b R g]⟩:=by
 refine qum (pend:=none) (ks:=K.ks) (vs:=K.vs) (ts:=[]) (sz:=K.sz) (ps:=K.ps) (assign:=K.as') (body:=K.bd) (by simp[zG,RgK.blk]) hp fun l=>?_;refine(hw l).mono fun x s hs=>?_;obtain⟨rfl,m,f,hH,hf,hb⟩:=hs;refine⟨rfl,none,K.ks,K.vs,[],K.sz,K.ps,K.as',K.bd,⟨m,[f,[],(b,K.blk .busy none [])::R none]⟩,?_,?_,(hb _ rfl).mono fun x s' hs'=>?_⟩
 ·rw[hH];simp[zG,hf,RgK.blk]
 ·rw[hH];have hn:setF b (K.blk .busy none []) f=none:=qjp hf;unfold RgK.blk at hn;simp[Heap.set,setFs,setF,hn,RgK.blk]
 ·obtain⟨m',f',hf',hH',rfl⟩:=hs';have hfb:=hf' b (Nat.lt_succ_self b);have hn:∀k,setF b k f'=none:=fun k=>qjp hfb;refine⟨.busy,none,K.ks,K.vs,[],K.sz,K.ps,K.as',K.bd,⟨m',[f',[],(b,K.blk (qim (qzg g)).2.1 (qim (qzg g)).2.2 [])::R g]⟩,?_,?_,?_,idn (b+1),[],?_⟩
  ·rw[hH'];simp[zG,hfb,RgK.blk]
  ·rw[hH'];simp[Heap.set,setFs,setF,hn,RgK.blk]
  ·cases g<;>rfl
  ·have hg:∀e,e∈R g->Heap.get ⟨m',[f',[],(b,K.blk (qim (qzg g)).2.1 (qim (qzg g)).2.2 [])::R g]⟩ e.1=some e.2:=fun e he=>(by have h1:=((h.rows g).2 e he).1;have h2:Nat.beq b e.1=false:=qao (by omega);simp only[Heap.get,getFs,hf' e.1 (by omega),getF,h2];rw[qmq (h.rows g).1 he]);refine h.fit (c:=g) (st:=(qim (qzg g)).2.1) (pend:=(qim (qzg g)).2.2) (ts:=[]) (Nat.le_refl _) (Nat.le_refl _) (by simp[zG,hfb]) hg ?_;cases g<;>simp[RgK.rows,qzg,qim]
end
def zgu(L:List Nd):AV:=.func (.func 199) [] [.fptr [qaa L] 0]
theorem zdt(L:List Nd):qab (zgu L)=true:=by simp[zgu,qab,qa9]
theorem c193{T:List (Entry PG)} (L:List Nd):CA T 193 [qaa L] zH (zgu L) zH:=by refine qa0 (s0:=⟨[0,1,2],[qaa L,uD,uD],[],4,⟨0,[[]]⟩⟩) Tryz.func193 rfl rfl rfl ?_;apply ra;simp[zS];apply ra;simp[zS];apply qa5;simp[zQ,Tryz.f193];refine⟨[],[(0,[qaa L])],by simp[zgu,qas,qax,qca],.froze (by simp) fun x hx=>?_⟩;rw[List.mem_singleton]at hx;subst hx;exact⟨[qaa L],by simp[zG],qak (by simp[qa9]),by simp[qa9]⟩
def e193:Entry PG:=mkE 193 [[7]] (fun L:List Nd=>[qaa L]) (fun _=>True) zgu fun L _=>c193 (T:=[]) L
theorem k193{T:List (Entry PG)} (hT:qIn 193 T e193) (L:List Nd) (H:Heap):qb6 (ctx T) (.fn 193) [qaa L] H=some (zgu L,H):=
 qd1 hT (fun x y h=>by simp only[List.cons.injEq,and_true]at h;exact qcg h) L trivial (by simp[qa9]) (by simp[qgb]) H
section
variable {ρ:Type} {K:RgK} {b:Nat} {R:Option ρ->List (Nat × Blk)}
theorem zcd{T:List (Entry PG)} (h:K.Ok b R) (L:List Nd) (hl:L.length<=1000000) (go:Nat->Option ρ) (hy:∀j (hj:j < L.length),qj9 (ctx T) b [.int .i64 (j:Int),qa3 L[j]] ⟨b+1,[[],(b,K.blk .ready none [])::R none]⟩ (.bool (go j).isNone) ⟨b+1,[[],K.rows b R (go j)]⟩) :
  CA T 199 [.yld b,.fptr [qaa L] 0] ⟨b+1,[(b,K.blk .ready none [])::R none]⟩ (.tup []) ⟨b+1,[K.rows b R (quj go L.length)]⟩:=by
 obtain⟨w,hw⟩ : ∃w:Int,w=(L.length:Int) - 1:=⟨_,rfl⟩;have hws:wr .i64 ((L.length:Int) - 1)=some w:=by rw[hw];exact qdr (by omega) (by omega)
 have lb:qb2 b (idn (b+1))=some b:=qc1 (Nat.lt_succ_self b);have gb:∀{c:Option ρ} {n:Nat},∀e,e∈R c->Heap.get ⟨n,[[],K.rows b R c]⟩ e.1=some e.2:=fun {c n} e he=>by
  have h1:=((h.rows c).2 e he).1;have h2:Nat.beq b e.1=false:=qao (by omega);cases c with
  |none=>simp only[zG,RgK.rows,h2];rw[qmq (h.rows _).1 he]
  |some r=>simp only[zG,RgK.rows,h2];rw[qmq (h.rows _).1 he]
 have lnL:∀H,qf6 PG H 22 (qaa L)=some L.length:=fun H=>qhl;refine qa0 (s0:=⟨[0,1,3],[.yld b,.fptr [qaa L] 0,uD],[],19,⟨b+1,[]::[(b,K.blk .ready none [])::R none]⟩⟩) Tryz.func199 rfl rfl rfl ?_;apply ra;simp[zS,lnL,hws];refine qa7 (qb1 (fun x:Nat × Int=>(⟨[0,1,3],[.yld b,.fptr [qaa L] 0,.int .i64 x.2],[],19,⟨b+1,[[],(b,K.blk .ready none [])::R none]⟩⟩ : St))
  (fun x=>x.1<=L.length/\x.2=(x.1:Int) - 1/\quj go L.length=quj go x.1) (fun x=>x.1) (idn (b+1)) [] (L.length,w) ⟨Nat.le_refl _,hw,rfl⟩
  ⟨rfl,rfl,rfl,by simp[qax,qas,qab,qa9,lb],h.fit (c:=none) (st:=.ready) (pend:=none) (ts:=[]) (Nat.le_refl _) (Nat.le_refl _) (by simp[zG,RgK.rows]) (gb (c:=none)) (by simp)⟩ ?_)
 rintro⟨j,v⟩ ⟨hj,hv,hx⟩ B hB;simp only at hj hv hx;cases j with
 |zero=>
  have hn:¬ 0<=v:=by omega
  apply ra;simp[zS,hn];apply qag rfl;apply qar;simp;refine⟨[],rfl,idn (b+1),[],by simp[oneOr,qas,qax],?_⟩;rw[hx];exact h.fit (c:=none) (st:=.ready) (pend:=none) (ts:=[]) (Nat.le_refl _) (Nat.le_refl _) (by simp[zG,RgK.rows]) (gb (c:=none)) (by simp[quj,RgK.rows])
 |succ q=>
  have hvq:v=(q:Int):=by omega
  subst hvq;have hq:q < L.length:=by omega
  have hyq:=hy q hq;have hix:qat PG 22 (qaa L) (.int .i64 (q:Int))=some (.fptr (L[q]).cs 0):=by rw[atX (by omega) (by omega),qbt hq]
  have hn:(0:Int)<=(q:Int):=by omega
  have hs1:wr .i64 ((q:Int) - 1)=some ((q:Int) - 1):=qdr (by omega) (by omega);simp only[quj]at hx;generalize L[q]=x at *;apply ra;simp[zS,hn];apply qai rfl;apply qa4;simp;repeat apply wq
  apply qa7;obtain⟨g,hg⟩ : ∃g,go q=g:=⟨_,rfl⟩;rw[hg]at hx hyq;cases g with
  |some r=>
   simp only[Option.isNone_some]at hyq;repeat apply wq
   refine qah (zgl [⟨b,_,_,_,_,hyq⟩]) ?_;simp[zS,hix,qaq,qwv];apply qai rfl;apply qa5;simp;refine⟨[],rfl,idn (b+1),[],by simp[oneOr,qas,qax],?_⟩;rw[hx];exact h.fit (c:=some r) (st:=.done) (pend:=some .ret) (ts:=[]) (Nat.le_refl _) (Nat.le_refl _) (by simp[zG,RgK.rows]) (gb (c:=some r)) (by simp[RgK.rows])
  |none=>
   simp only[Option.isNone_none]at hyq;repeat apply wq
   refine qah (zgl [⟨b,_,_,_,_,hyq⟩]) ?_;simp[zS,hix,qaq,qwv];apply qag rfl;apply qa4;simp;apply ra;simp[zS,hs1];exact hB _ (q,(q:Int) - 1) (by simp) ⟨by simp only;omega,rfl,hx⟩ ⟨idn (b+1),[],rfl,rfl,rfl,by simp[qax,qas,qab,qa9,lb],h.fit (c:=none) (st:=.ready) (pend:=none) (ts:=[]) (Nat.le_refl _) (Nat.le_refl _) (by simp[zG,RgK.rows]) (gb (c:=none)) (by simp)⟩
theorem qyk{T:List (Entry PG)} (h:K.Ok b R) (L:List Nd) {ts:List (Nat × AV)} {g:Operand} {ps:Array Nat} (hps:ps.toList=K.ps) (ho:qbp ⟨K.ks,K.vs,ts,K.sz,⟨b,[R none]⟩⟩ g=some (zgu L)) {r:Option ρ} {call:qcf}
  (hc:call (.fn 199) [.yld b,.fptr [qaa L] 0] ⟨b+1,[(b,K.blk .ready none ts)::R none]⟩=some (.tup [],⟨b+1,[K.rows b R r]⟩)) :
  qin (ctx T) call g ps K.as' K.bd ⟨K.ks,K.vs,ts,K.sz,⟨b,[R none]⟩⟩=some (qzg r,⟨K.ks,K.vs,ts,K.sz,⟨b+1,[R r]⟩⟩):=by
 have hent:qu4 (ctx T) 199=true:=by kernel_rfl
 unfold qin;rw[ho];simp only[Option.bind_some,hent,zgu,hps];have e:call (.fn 199) ([]++[.yld b]++[.fptr [qaa L] 0]) (Heap.new ⟨b,[R none]⟩ (.loop .ready none K.ks K.vs ts K.sz K.ps K.as' K.bd))=some (.tup [],⟨b+1,[K.rows b R r]⟩):=hc;rw[e];cases r with
 |none=>simp[zG,RgK.rows,RgK.blk,qzg,St.wH,Heap.drop,qen,killF]
 |some r=>simp[zG,RgK.rows,RgK.blk,qzg,St.wH,Heap.drop,qen,killF,qxr]
theorem zcr{T:List (Entry PG)} (h:K.Ok b R) (L:List Nd) (hl:L.length<=1000000) (go:Nat->Option ρ) (hy:∀j (hj:j < L.length),qj9 (ctx T) b [.int .i64 (j:Int),qa3 L[j]] ⟨b+1,[[],(b,K.blk .ready none [])::R none]⟩ (.bool (go j).isNone) ⟨b+1,[[],K.rows b R (go j)]⟩)
  {ts:List (Nat × AV)} {g:Operand} {ps:Array Nat} (hps:ps.toList=K.ps) (ho:qbp ⟨K.ks,K.vs,ts,K.sz,⟨b,[R none]⟩⟩ g=some (zgu L)) {n:Nat} {Q:Out->St->Prop} (hq:Q (qzg (quj go L.length)) ⟨K.ks,K.vs,ts,K.sz,⟨b+1,[R (quj go L.length)]⟩⟩) :
  WpS (ctx T) n (.rangeFunc g ps K.as' K.bd) ⟨K.ks,K.vs,ts,K.sz,⟨b,[R none]⟩⟩ Q:=by
 have lb:qb2 b (idn (b+1))=some b:=qc1 (Nat.lt_succ_self b);have hcall:CA T 199 [.yld b,.fptr [qaa L] 0] ⟨b+1,[(b,K.blk .ready none ts)::R none]⟩ (.tup []) ⟨b+1,[K.rows b R (quj go L.length)]⟩:=
  (zcd h L hl go hy).drop (σ:=idn (b+1)) (Φ:=[]) (fun _=>h.fit (c:=none) (st:=.ready) (pend:=none) (ts:=ts) (Nat.le_refl _) (Nat.le_refl _) (by simp[zG]) (fun e he=>by have h1:=((h.rows none).2 e he).1;have h2:Nat.beq b e.1=false:=qao (by omega);simp only[zG,h2];rw[qmq (h.rows _).1 he]) (by simp)) (by simp[qax,qas,qab,qa9,lb])
 exact zcp (qbh [⟨199,_,_,_,_,hcall⟩]) ⟨_,_,qyk (T:=T) h L hps ho (r:=quj go L.length) (by simp[qcc]),hq⟩
end
abbrev lsSvg:Str:= lsB0
abbrev qs5:Str:= lsB4
abbrev qvr:Str:= lsB10
abbrev qmh:Str:= lsB14
abbrev zeh:Str:= lsB2
def qdz(sp:Int) (x:Str):Bool:=if sp=1 then inW lsSvg x else if sp=2 then decide (x=[97,110,110,111,116,97,116,105,111,110,45,120,109,108]) || inW qs5 x else decide (sp=0) && inW qvr x
def qhr(sc sp:Int) (x:Str):Bool:=
 if sc=3 then decide (sp=0) && inW zeh x
 else if sc=0\/sc=1\/sc=2 then
  if sp=0 then (if x=[111,108]\/x=[117,108] then decide (sc=1) else if x=[98,117,116,116,111,110] then decide (sc=2) else inW qmh x) else qdz sp x
 else !decide (sc=4) || !decide (sp=0) || (!decide (x=[111,112,116,103,114,111,117,112]) && !decide (x=[111,112,116,105,111,110]))
theorem c172{T:List (Entry PG)} (hc0:qa8 122 T=some e122a.g) (sp:Int) (x:Str) (hx:x.length<=1000000000):CA T 172 [.int .i64 sp,.str x] zH (.bool (qdz sp x)) zH:=by
 have kw0:=fun(x:Str) (hx:x.length<=1000000000) (H:Heap)=>k122a (W:= lsB0) (x:=x) hc0 (qr0 (by decide)) (by decide) hx H;have kw1:=fun(x:Str) (hx:x.length<=1000000000) (H:Heap)=>k122a (W:= lsB4) (x:=x) hc0 (qr0 (by decide)) (by decide) hx H;have kw2:=fun(x:Str) (hx:x.length<=1000000000) (H:Heap)=>k122a (W:= lsB10) (x:=x) hc0 (qr0 (by decide)) (by decide) hx H;refine qa0 (s0:=⟨[0,1,4,5],[.int .i64 sp,.str x,uD,uD],[],24,⟨0,[[]]⟩⟩) Tryz.func172 rfl rfl rfl ?_
 (repeat' (first
  |with_reducible apply qal
  |with_reducible apply qa7
  |(with_reducible apply rE;simp[zS, *];exact rfl)
  |(with_reducible apply qay;simp only[qam,qaj])
  |(with_reducible refine qb7 (fun hc=>?_) (fun hc=>?_)<;>(have hd:=hc;(try simp at hd);(try subst hd);apply qfx;simp[zS, *];exact rfl))
  |(refine qb0 rfl (fun hc=>?_) (fun hc=>?_)<;>(have hd:=hc;(try simp at hd);(try subst hd)))
  |(with_reducible apply qa4;simp only[qam,qaj])
  |(with_reducible apply qa5;simp[zQ,Tryz.f172])))
 all_goals first|exact qa2 rfl (by simp[qdz, *])|(exfalso;omega)
theorem inj_172(x y:Int × Str) (h:(fun z:Int × Str=>([.int .i64 z.1,.str z.2]:List AV)) x=(fun z:Int × Str=>([.int .i64 z.1,.str z.2]:List AV)) y):x=y:=by obtain⟨x0,x1⟩:=x;obtain⟨y0,y1⟩:=y;simp only[List.cons.injEq,and_true]at h;obtain⟨h0,h1⟩:=h;have g0:x0=y0:=AV.int.inj h0 |>.2;have g1:x1=y1:=AV.str.inj h1;subst g0 g1;rfl
def e172:Entry PG:=mkE 172 [[],[]] (fun z:Int × Str=>[.int .i64 z.1,.str z.2]) (fun z=>(z.2.length<=1000000000)) (fun z=>.bool (qdz z.1 z.2)) fun z h=>c172 (T:=[e122a]) rfl z.1 z.2 h
theorem k172{T:List (Entry PG)} (hT:qIn 172 T e172) (sp:Int) (x:Str) (hx:x.length<=1000000000) (H:Heap):qb6 (ctx T) (.fn 172) [.int .i64 sp,.str x] H=some (.bool (qdz sp x),H):=
 qac hT inj_172 (sp,x) hx rfl (by simp[qan])
theorem c167{T:List (Entry PG)} (hc0:qa8 122 T=some e122a.g) (hc1:qIn 172 T e172) (sc:Int) (sp:Int) (x:Str) (hx:x.length<=1000000000):CA T 167 [.int .i64 sc,.int .i64 sp,.str x] zH (.bool (qhr sc sp x)) zH:=by
 have kw0:=fun(x:Str) (hx:x.length<=1000000000) (H:Heap)=>k122a (W:= lsB2) (x:=x) hc0 (qr0 (by decide)) (by decide) hx H;have kw1:=fun(x:Str) (hx:x.length<=1000000000) (H:Heap)=>k122a (W:= lsB14) (x:=x) hc0 (qr0 (by decide)) (by decide) hx H;have kc1:=@k172 T hc1;refine qa0 (s0:=⟨[0,1,2,6,7,10,32,41,42],[.int .i64 sc,.int .i64 sp,.str x,uD,uD,uD,uD,uD,uD],[],53,⟨0,[[]]⟩⟩) Tryz.func167 rfl rfl rfl ?_
 (repeat' (first
  |with_reducible apply qal
  |with_reducible apply qa7
  |(with_reducible apply rE;simp[zS, *];exact rfl)
  |(with_reducible apply qay;simp only[qam,qaj])
  |(with_reducible refine qb7 (fun hc=>?_) (fun hc=>?_)<;>(have hd:=hc;(try simp at hd);(try subst hd);apply qfx;simp[zS, *];exact rfl))
  |apply qai rfl
  |(refine qb0 rfl (fun hc=>?_) (fun hc=>?_)<;>(have hd:=hc;(try simp at hd);(try subst hd)))
  |(with_reducible apply qa4;simp only[qam,qaj])
  |(with_reducible apply qa5;simp[zQ,Tryz.f167])))
 all_goals first|exact qa2 rfl (by simp[qhr, *])|(exfalso;omega)
theorem inj_167(x y:Int × Int × Str) (h:(fun z:Int × Int × Str=>([.int .i64 z.1,.int .i64 z.2.1,.str z.2.2]:List AV)) x=(fun z:Int × Int × Str=>([.int .i64 z.1,.int .i64 z.2.1,.str z.2.2]:List AV)) y):x=y:=by obtain⟨x0,x1,x2⟩:=x;obtain⟨y0,y1,y2⟩:=y;simp only[List.cons.injEq,and_true]at h;obtain⟨h0,h1,h2⟩:=h;have g0:x0=y0:=AV.int.inj h0 |>.2;have g1:x1=y1:=AV.int.inj h1 |>.2;have g2:x2=y2:=AV.str.inj h2;subst g0 g1 g2;rfl
def e167:Entry PG:=mkE 167 [[],[],[]] (fun z:Int × Int × Str=>[.int .i64 z.1,.int .i64 z.2.1,.str z.2.2]) (fun z=>(z.2.2.length<=1000000000)) (fun z=>.bool (qhr z.1 z.2.1 z.2.2)) fun z h=>c167 (T:=[e122a,e172]) rfl rfl z.1 z.2.1 z.2.2 h
theorem k167{T:List (Entry PG)} (hT:qIn 167 T e167) (sc:Int) (sp:Int) (x:Str) (hx:x.length<=1000000000) (H:Heap):qb6 (ctx T) (.fn 167) [.int .i64 sc,.int .i64 sp,.str x] H=some (.bool (qhr sc sp x),H):=
 qac hT inj_167 (sc,sp,x) hx rfl (by simp[qan])
theorem c168{T:List (Entry PG)} (hc0:qa8 122 T=some e122a.g) (x:Str) (hx:x.length<=1000000000):CA T 168 [.str x] zH (.bool (inW qrd x)) zH:=by
 have kw0:=fun(x:Str) (hx:x.length<=1000000000) (H:Heap)=>k122a (W:= qrd) (x:=x) hc0 (qr0 (by decide)) (by decide) hx H;refine qa0 (s0:=⟨[0,2],[.str x,uD],[],5,⟨0,[[]]⟩⟩) Tryz.func168 rfl rfl rfl ?_
 (repeat' (first
  |with_reducible apply qal
  |(with_reducible apply rE;simp[zS, *];exact rfl)
  |(with_reducible apply qay;simp only[qam,qaj])
  |(with_reducible apply qa5;simp[zQ,Tryz.f168])))
 all_goals first|exact qa2 rfl (by rfl)|(exfalso;omega)
theorem inj_168(x y:Str) (h:(fun z:Str=>([.str z]:List AV)) x=(fun z:Str=>([.str z]:List AV)) y):x=y:=by simp only[List.cons.injEq,and_true]at h;exact AV.str.inj h
def e168:Entry PG:=mkE 168 [[]] (fun z:Str=>[.str z]) (fun z=>(z.length<=1000000000)) (fun z=>.bool (inW qrd z)) fun z h=>c168 (T:=[e122a]) rfl z h
theorem k168{T:List (Entry PG)} (hT:qIn 168 T e168) (x:Str) (hx:x.length<=1000000000) (H:Heap):qb6 (ctx T) (.fn 168) [.str x] H=some (.bool (inW qrd x),H):=
 qac hT inj_168 (x) hx rfl (by simp[qan])
theorem sp_math:qbq lsB12=[97,110,110,111,116,97,116,105,111,110,45,120,109,108]::qbq qs5:=by decide +kernel
theorem in_math(x:Str):inW lsB12 x=(decide (x=[97,110,110,111,116,97,116,105,111,110,45,120,109,108]) || inW qs5 x):=by unfold inW;rw[sp_math];simp[List.mem_cons,Bool.decide_or]
theorem sp_list:qbq [111,108,32,117,108]=[[111,108],[117,108]]:=by decide +kernel
theorem zdf:qbq [98,117,116,116,111,110]=[[98,117,116,116,111,110]]:=by decide +kernel
theorem sp_opts:qbq lsB5=[[111,112,116,103,114,111,117,112],[111,112,116,105,111,110]]:=by decide +kernel
theorem in_list(x:Str):inW [111,108,32,117,108] x=decide (x=[111,108]\/x=[117,108]):=by unfold inW;rw[sp_list];simp
theorem zf5(x:Str):inW [98,117,116,116,111,110] x=decide (x=[98,117,116,116,111,110]):=by unfold inW;rw[zdf];simp
theorem in_opts(x:Str):inW lsB5 x=decide (x=[111,112,116,103,114,111,117,112]\/x=[111,112,116,105,111,110]):=by unfold inW;rw[sp_opts];simp
def qg7(sp:Int) (x:Str):Bool:=decide (sp=2) && inW lsB12 x || decide (sp=1) && inW lsSvg x
theorem c176{T:List (Entry PG)} (hc0:qIn 71 T e71) (sp:Int) (x:Str):CA T 176 [.int .i64 sp,.str x] zH (.bool (qg7 sp x)) zH:=by
 have kw0:=fun(x:Str) (H:Heap)=>k71 hc0 (w:= lsB12) x (by decide) H;have kw1:=fun(x:Str) (H:Heap)=>k71 hc0 (w:= lsB0) x (by decide) H;refine qa0 (s0:=⟨[0,1,4],[.int .i64 sp,.str x,uD],[],19,⟨0,[[]]⟩⟩) Tryz.func176 rfl rfl rfl ?_
 (repeat' (first
  |with_reducible apply qal
  |(with_reducible apply rE;simp[zS, *];exact rfl)
  |(with_reducible apply qay;simp only[qam,qaj])
  |(with_reducible refine qb7 (fun hc=>?_) (fun hc=>?_)<;>(have hd:=hc;(try simp at hd);(try subst hd);apply qfx;simp[zS, *];exact rfl))
  |(with_reducible apply qa5;simp[zQ,Tryz.f176])))
 all_goals first|exact qa2 rfl (by simp[qg7, *])|(exfalso;omega)
def e176:Entry PG:=mkE 176 [[],[]] (fun z:Int × Str=>[.int .i64 z.1,.str z.2]) (fun z=>True) (fun z=>.bool (qg7 z.1 z.2)) fun z h=>c176 (T:=[e71]) rfl z.1 z.2 
theorem k176{T:List (Entry PG)} (hT:qIn 176 T e176) (sp:Int) (x:Str) (H:Heap):qb6 (ctx T) (.fn 176) [.int .i64 sp,.str x] H=some (.bool (qg7 sp x),H):=
 qac hT inj_172 (sp,x) trivial rfl (by simp[qan])
theorem qrp(sp:Int) (x:Str):(qg7 sp x || decide (sp=0) && inW qvr x)=qdz sp x:=by
 unfold qg7 qdz;rw[in_math];by_cases h1:sp=1
 ·subst h1;simp
 ·by_cases h2:sp=2
  ·subst h2;simp
  ·simp[h1,h2]
theorem c143{T:List (Entry PG)} (hc0:qIn 176 T e176) (hc1:qIn 110 T e110) (sp:Int) (x:Str):CA T 143 [.int .i64 sp,.str x] zH (.bool (qdz sp x)) zH:=by
 have kc0:=@k176 T hc0;have kw0:=fun(s:Int) (x:Str) (H:Heap)=>k110 hc1 s x (W:= lsB10) (by decide) H;refine qa0 (s0:=⟨[0,1,4],[.int .i64 sp,.str x,uD],[],13,⟨0,[[]]⟩⟩) Tryz.func143 rfl rfl rfl ?_
 (repeat' (first
  |with_reducible apply qal
  |(with_reducible apply rE;simp[zS, *];exact rfl)
  |(with_reducible apply qay;simp only[qam,qaj])
  |(with_reducible refine qb7 (fun hc=>?_) (fun hc=>?_)<;>(have hd:=hc;(try simp at hd);(try subst hd);apply qfx;simp[zS, *];exact rfl))
  |(with_reducible apply qa5;simp[zQ,Tryz.f143])))
 all_goals first|exact qa2 rfl (by simp[<- qrp, *])|(exfalso;omega)
def e143:Entry PG:=mkE 143 [[],[]] (fun z:Int × Str=>[.int .i64 z.1,.str z.2]) (fun z=>True) (fun z=>.bool (qdz z.1 z.2)) fun z h=>c143 (T:=[e176,e110]) rfl rfl z.1 z.2 
theorem k143{T:List (Entry PG)} (hT:qIn 143 T e143) (sp:Int) (x:Str) (H:Heap):qb6 (ctx T) (.fn 143) [.int .i64 sp,.str x] H=some (.bool (qdz sp x),H):=
 qac hT inj_172 (sp,x) trivial rfl (by simp[qan])
theorem qwa(x:Str):qg7 0 x=false:=rfl
theorem zd7(sp:Int) (x:Str):(qg7 sp x || decide (sp=0) && inW qmh x)=if sp=0 then inW qmh x else qdz sp x:=by
 by_cases h:sp=0
 ·subst h;simp[qwa]
 ·simp[h,<- qrp]
theorem ends_ol:inW qmh [111,108]=false/\inW qmh [117,108]=false/\inW qmh [98,117,116,116,111,110]=false:=by decide +kernel
theorem stops_eq(sc sp:Int) (x:Str):qhr sc sp x =
  if sc=0 then (qg7 sp x || decide (sp=0) && inW qmh x) else if sc=1 then (qg7 sp x || decide (sp=0) && inW qmh x) || (decide (sp=0) && inW [111,108,32,117,108] x)
  else if sc=2 then (qg7 sp x || decide (sp=0) && inW qmh x) || (decide (sp=0) && inW [98,117,116,116,111,110] x)
  else if sc=3 then decide (sp=0) && inW zeh x else !decide (sc=4) || !(decide (sp=0) && inW lsB5 x):=by
 obtain⟨e1,e2,e3⟩:=ends_ol;rw[zd7,in_list,zf5,in_opts];unfold qhr;by_cases h0:sp=0
 ·subst h0;by_cases a:x=[111,108]
  ·subst a;by_cases c0:sc=0<;>by_cases c1:sc=1<;>by_cases c2:sc=2<;>by_cases c3:sc=3<;>simp_all
  ·by_cases b:x=[117,108]
   ·subst b;by_cases c0:sc=0<;>by_cases c1:sc=1<;>by_cases c2:sc=2<;>by_cases c3:sc=3<;>simp_all
   ·by_cases d:x=[98,117,116,116,111,110]
    ·subst d;by_cases c0:sc=0<;>by_cases c1:sc=1<;>by_cases c2:sc=2<;>by_cases c3:sc=3<;>simp_all
    ·by_cases c0:sc=0<;>by_cases c1:sc=1<;>by_cases c2:sc=2<;>by_cases c3:sc=3<;>simp_all
 ·by_cases c0:sc=0<;>by_cases c1:sc=1<;>by_cases c2:sc=2<;>by_cases c3:sc=3<;>simp_all
theorem c141{T:List (Entry PG)} (hc0:qIn 176 T e176) (hc1:qIn 110 T e110) (sc:Int) (sp:Int) (x:Str):CA T 141 [.int .i64 sc,.int .i64 sp,.str x] zH (.bool (qhr sc sp x)) zH:=by
 have kc0:=@k176 T hc0;have kw0:=fun(s:Int) (x:Str) (H:Heap)=>k110 hc1 s x (W:= lsB14) (by decide) H;have kw1:=fun(s:Int) (x:Str) (H:Heap)=>k110 hc1 s x (W:=[111,108,32,117,108]) (by decide) H;have kw2:=fun(s:Int) (x:Str) (H:Heap)=>k110 hc1 s x (W:=[98,117,116,116,111,110]) (by decide) H;have kw3:=fun(s:Int) (x:Str) (H:Heap)=>k110 hc1 s x (W:= lsB2) (by decide) H;have kw4:=fun(s:Int) (x:Str) (H:Heap)=>k110 hc1 s x (W:= lsB5) (by decide) H;refine qa0 (s0:=⟨[0,1,2,6,7],[.int .i64 sc,.int .i64 sp,.str x,uD,uD],[],48,⟨0,[[]]⟩⟩) Tryz.func141 rfl rfl rfl ?_
 (repeat' (first
  |with_reducible apply qal
  |(with_reducible apply rE;simp[zS, *];exact rfl)
  |(with_reducible apply qay;simp only[qam,qaj])
  |(with_reducible refine qb7 (fun hc=>?_) (fun hc=>?_)<;>(have hd:=hc;(try simp at hd);(try subst hd);apply qfx;simp[zS, *];exact rfl))
  |(with_reducible refine qkm (fun hc=>?_) (fun hc=>?_)<;>(have hd:=hc;(try simp at hd);(try subst hd);apply qfx;simp[zS, *];exact rfl))
  |(refine qb0 rfl (fun hc=>?_) (fun hc=>?_)<;>(have hd:=hc;(try simp at hd);(try subst hd)))
  |(with_reducible apply qa4;simp only[qam,qaj])
  |(with_reducible apply qa5;simp[zQ,Tryz.f141])))
 all_goals first|exact qa2 rfl (by simp[stops_eq, *])|(exfalso;omega)
def e141:Entry PG:=mkE 141 [[],[],[]] (fun z:Int × Int × Str=>[.int .i64 z.1,.int .i64 z.2.1,.str z.2.2]) (fun z=>True) (fun z=>.bool (qhr z.1 z.2.1 z.2.2)) fun z h=>c141 (T:=[e176,e110]) rfl rfl z.1 z.2.1 z.2.2 
theorem k141{T:List (Entry PG)} (hT:qIn 141 T e141) (sc:Int) (sp:Int) (x:Str) (H:Heap):qb6 (ctx T) (.fn 141) [.int .i64 sc,.int .i64 sp,.str x] H=some (.bool (qhr sc sp x),H):=
 qac hT inj_167 (sc,sp,x) trivial rfl (by simp[qan])
theorem c104{T:List (Entry PG)} (hc0:qIn 71 T e71) (x:Str):CA T 104 [.str x] zH (.bool (inW qrd x)) zH:=by
 have kw0:=fun(x:Str) (H:Heap)=>k71 hc0 (w:= qrd) x (by decide) H;refine qa0 (s0:=⟨[0,2],[.str x,uD],[],5,⟨0,[[]]⟩⟩) Tryz.func104 rfl rfl rfl ?_
 (repeat' (first
  |with_reducible apply qal
  |(with_reducible apply rE;simp[zS, *];exact rfl)
  |(with_reducible apply qay;simp only[qam,qaj])
  |(with_reducible apply qa5;simp[zQ,Tryz.f104])))
 all_goals first|exact qa2 rfl (by rfl)|(exfalso;omega)
def e104:Entry PG:=mkE 104 [[]] (fun z:Str=>[.str z]) (fun z=>True) (fun z=>.bool (inW qrd z)) fun z h=>c104 (T:=[e71]) rfl z 
theorem k104{T:List (Entry PG)} (hT:qIn 104 T e104) (x:Str) (H:Heap):qb6 (ctx T) (.fn 104) [.str x] H=some (.bool (inW qrd x),H):=
 qac hT inj_168 (x) trivial rfl (by simp[qan])
@[simp]theorem szT48:qce PG 48=some 1:=rfl
@[simp]theorem agT48:qia PG 48=some false:=rfl
@[simp]theorem byT48:qcq PG 48=some 8:=rfl
@[simp]theorem alT48(H:Heap):alV PG H 48=some (.ptr H.n 0,H.new (.cells [.nilF])):=rfl
@[simp]theorem zeT48:qc0 PG 48=some (.nilF):=rfl
attribute [simp] Tryz.underlying48
@[simp 500]theorem rvF48(H:Heap) (cs:List AV) (o:Nat):qaw PG H 48 (.fptr cs o)=qck cs o:=rfl
@[simp 500]theorem rvP48(H:Heap) (b o:Nat):qaw PG H 48 (.ptr b o)=(H.get b).bind fun k=>k.rd.bind fun cs=>qck cs o:=rfl
def qgr(f:FuncId) (c:List AV):AV:=.func (.func f) [] c
def qmp(p q:Nd->Bool) (L:List Nd) (j:Nat):Option Bool:=if p (qa1 L j)=true then some true else if q (qa1 L j)=true then some false else none
def qvh(p q:Nd->Bool) (L:List Nd):Bool:=(quj (qmp p q L) L.length).getD false
def zew (L:List Nd) (v1 v2:AV):RgK:=⟨[0,1,2,4,5,6,8,10,11,12],[qaa L,v1,v2,.ptr 0 0,.ptr 1 0,.ptr 2 0,uD,zgu L,uD,uD],19,[11,12],rgA Tryz.f165.body,rgB Tryz.f165.body⟩
def rOut(v1 v2:AV):Option Bool->List (Nat × Blk)
 |none=>[(2,.cells [.bool false]),(1,.cells [v2]),(0,.cells [v1])]
 |some r=>[(2,.cells [.bool r]),(1,.cells [v2]),(0,.cells [v1])]
theorem zev{L:List Nd} {v1 v2:AV} (h1:qab v1=true) (h2:qab v2=true):(zew L v1 v2).Ok 3 (rOut v1 v2) where
 vs:=fun σ hσ=>by simp[zew,qax,qas,hσ 0 (by omega),hσ 1 (by omega),hσ 2 (by omega),h1,h2,zdt]
 rows:=fun c=>by cases c<;>simp[rOut,rowsB,qa9,qab,h1,h2]
theorem zdl{T:List (Entry PG)} (L:List Nd) {f1 f2:FuncId} {c1 c2:List AV} (k1:qa9 c1=true) (k2:qa9 c2=true) {p q:Nd->Bool} (n:Nd) (hp:CA T f1 (qa3 n::c1) zH (.bool (p n)) zH) (hq:CA T f2 (qa3 n::c2) zH (.bool (q n)) zH) (j:Int) :
  qj9 (ctx T) 3 [.int .i64 j,qa3 n] ⟨4,[[],(3,(zew L (qgr f1 c1) (qgr f2 c2)).blk .ready none [])::rOut (qgr f1 c1) (qgr f2 c2) none]⟩ (.bool (if p n=true then some true else if q n=true then some false else none:Option Bool).isNone)
   ⟨4,[[],(zew L (qgr f1 c1) (qgr f2 c2)).rows 3 (rOut (qgr f1 c1) (qgr f2 c2)) (if p n=true then some true else if q n=true then some false else none)]⟩:=by
 have v1:qab (qgr f1 c1)=true:=by simp[qgr,qab,qa9,k1]
 have v2:qab (qgr f2 c2)=true:=by simp[qgr,qab,qa9,k2]
 refine round_K (zev v1 v2) (s1:=⟨[0,1,2,4,5,6,8,10,11,12],[qaa L,qgr f1 c1,qgr f2 c2,.ptr 0 0,.ptr 1 0,.ptr 2 0,uD,zgu L,.int .i64 j,qa3 n],[],19,⟨4,[[],[],(3,(zew L (qgr f1 c1) (qgr f2 c2)).blk .ready none [])::rOut (qgr f1 c1) (qgr f2 c2) none]⟩⟩) rfl fun l=>?_;generalize (zew L (qgr f1 c1) (qgr f2 c2)).blk .ready none []=B0;generalize (zew L (qgr f1 c1) (qgr f2 c2)).blk .busy none []=B1;simp only[zew,rgA,rgB,rgIn,Tryz.f165,Option.bind_some];refine qah qbf ?_;simp[zN];refine⟨_,_,⟨rfl,rfl⟩,rfl,?_⟩;simp only[rOut,qgr];apply qa7;have p1:qa9 (qa3 n::c1)=true:=by simp[qa9,k1]
 have p2:qa9 (qa3 n::c2)=true:=by simp[qa9,k2]
 repeat apply wq
 refine qah (qj3 [⟨f1,_,_,p1,hp⟩]) ?_;rcases Bool.eq_false_or_eq_true (p n)with hb|hb
 ·simp[zS,qaq,qhi,hb];apply qai rfl;apply ra;simp[zS];apply qa5;simp only[qam,qaj];exact⟨_,_,fun i hi=>qnf (by omega),rfl,rfl⟩
 ·simp[zS,qaq,qhi,hb];apply qag rfl;apply qa4;simp only[qam,qaj];repeat apply wq
  refine qah (qj3 [⟨f2,_,_,p2,hq⟩]) ?_;rcases Bool.eq_false_or_eq_true (q n)with hd|hd
  ·simp[zS,qaq,qhi,hd];apply qai rfl;apply ra;simp[zS];apply qa5;simp only[qam,qaj];exact⟨_,_,fun i hi=>qnf (by omega),rfl,rfl⟩
  ·simp[zS,qaq,qhi,hd];apply qag rfl;apply qa4;simp only[qam,qaj];exact⟨_,_,fun i hi=>qnf (by omega),rfl,rfl⟩
theorem c165{T:List (Entry PG)} (hB:qIn 193 T e193) (L:List Nd) (hl:L.length<=1000000) {f1 f2:FuncId} {c1 c2:List AV} (k1:qa9 c1=true) (k2:qa9 c2=true) {p q:Nd->Bool}
  (hp:∀n,n∈L->CA T f1 (qa3 n::c1) zH (.bool (p n)) zH) (hq:∀n,n∈L->CA T f2 (qa3 n::c2) zH (.bool (q n)) zH):CA T 165 [qaa L,qgr f1 c1,qgr f2 c2] zH (.bool (qvh p q L)) zH:=by
 have v1:qab (qgr f1 c1)=true:=by simp[qgr,qab,qa9,k1]
 have v2:qab (qgr f2 c2)=true:=by simp[qgr,qab,qa9,k2]
 have kb:=fun H=>k193 hB L H;have s1:(qgr f1 c1).single=true:=rfl;have s2:(qgr f2 c2).single=true:=rfl;have e1:(qgr f1 c1).cells=[qgr f1 c1]:=rfl;have e2:(qgr f2 c2).cells=[qgr f2 c2]:=rfl;refine qa0 (s0:=⟨[0,1,2,4,5,6,8,10,11,12],[qaa L,qgr f1 c1,qgr f2 c2,uD,uD,uD,uD,uD,uD,uD],[],19,⟨0,[[]]⟩⟩) Tryz.func165 rfl rfl rfl ?_;apply ra;simp[zS,s1,s2,e1,e2];apply ra;simp[zS,kb];apply qa7;refine zcr (K:=zew L (qgr f1 c1) (qgr f2 c2)) (b:=3) (R:=rOut (qgr f1 c1) (qgr f2 c2)) (zev v1 v2) L hl (qmp p q L) (fun j hj=>?_) rfl rfl ?_
 ·have:=zdl L k1 k2 (p:=p) (q:=q) L[j] (hp _ (List.getElem_mem hj)) (hq _ (List.getElem_mem hj)) (j:Int);rw[show qmp p q L j=_ from rfl,qmp,qbt hj];exact this
 ·obtain⟨r,hr⟩ : ∃r,quj (qmp p q L) L.length=r:=⟨_,rfl⟩;unfold qvh;rw[hr];cases r with
  |none=>simp[qzg,zew,rOut];apply ra;simp[zS];apply qa5;simp[zQ,Tryz.f165];exact⟨[.bool false],rfl,[],[],qb5 rfl,FitH.empty⟩
  |some i=>simp[qzg,zew,rOut,qam,qaj];exact⟨[.bool i],rfl,[],[],qb5 rfl,FitH.empty⟩
def qdk(sp:Int) (x:Str):Bool:=decide (sp=0) && inW lsB3 x
theorem sp_head:qbq lsB3=[[104,49],[104,50],[104,51],[104,52],[104,53],[104,54]]:=by decide +kernel
theorem qxu(x:Str):inW lsB3 x=decide (x=[104,49]\/x=[104,50]\/x=[104,51]\/x=[104,52]\/x=[104,53]\/x=[104,54]):=by unfold inW;rw[sp_head];simp
theorem head_len{x:Str} (h:¬ x.length=2):inW lsB3 x=false:=by rw[qxu];simp only[decide_eq_false_iff_not];rintro(rfl|rfl|rfl|rfl|rfl|rfl)<;>exact h rfl
theorem head_two(a b:UInt8):inW lsB3 [a,b]=(decide ((a.toNat:Int)=104) && decide (49<=(b.toNat:Int)) && decide ((b.toNat:Int)<=54)):=by rw[qxu];have key:∀n:Nat,n < 256->(b=UInt8.ofNat n↔b.toNat=n):=fun n hn=>⟨fun h=>by rw[h];simp;omega,fun h=>by rw[<- h];simp⟩;have ha:a=104↔a.toNat=104:=⟨fun h=>by rw[h];rfl,fun h=>UInt8.toNat_inj.1 (by rw[h];rfl)⟩;have k1:∀c:UInt8,b=c↔b.toNat=c.toNat:=fun c=>UInt8.toNat_inj.symm;rw[Bool.eq_iff_iff];simp only[List.cons.injEq,and_true,decide_eq_true_eq,Bool.and_eq_true,ha,k1];simp only[show (49:UInt8).toNat=49 from rfl,show (50:UInt8).toNat=50 from rfl,show (51:UInt8).toNat=51 from rfl,show (52:UInt8).toNat=52 from rfl,show (53:UInt8).toNat=53 from rfl,show (54:UInt8).toNat=54 from rfl];omega
theorem c135{T:List (Entry PG)} (sp:Int) (x:Str):CA T 135 [.int .i64 sp,.str x] zH (.bool (qdk sp x)) zH:=by
 by_cases hl:x.length=2
 ·match x,hl with
  |[a,b],_=>
   have i0:qhy PG 9 (.str [a,b]) (.int .i64 0)=some (.int .u8 a.toNat):=qjz (s:=[a,b]) (i:=0) (by simp);have i1:qhy PG 9 (.str [a,b]) (.int .i64 1)=some (.int .u8 b.toNat):=qjz (s:=[a,b]) (i:=1) (by simp);unfold qdk;rw[head_two];refine qa0 (s0:=⟨[0,1,4],[.int .i64 sp,.str [a,b],uD],[],27,⟨0,[[]]⟩⟩) Tryz.func135 rfl rfl rfl ?_
   (repeat' (first
    |with_reducible apply qal
    |(with_reducible apply rE;simp[zS, *];exact rfl)
    |(with_reducible apply qay;simp only[qam,qaj])
    |(with_reducible refine qb7 (fun hc=>?_) (fun hc=>?_)<;>(have hd:=hc;(try simp at hd);(try subst hd);apply qfx;simp[zS, *];exact rfl))
    |(with_reducible apply qa5;simp[zQ,Tryz.f135])))
   all_goals first|exact qa2 rfl (by simp[*])|(exfalso;omega)
 ·have hl':¬ ((x.length:Nat):Int)=2:=by omega
  unfold qdk;rw[head_len hl];refine qa0 (s0:=⟨[0,1,4],[.int .i64 sp,.str x,uD],[],27,⟨0,[[]]⟩⟩) Tryz.func135 rfl rfl rfl ?_
  (repeat' (first
   |with_reducible apply qal
   |(with_reducible apply rE;simp[zS, *];exact rfl)
   |(with_reducible apply qay;simp only[qam,qaj])
   |(with_reducible refine qb7 (fun hc=>?_) (fun hc=>?_)<;>(have hd:=hc;(try simp at hd);(try subst hd);apply qfx;simp[zS, *];exact rfl))
   |(with_reducible apply qa5;simp[zQ,Tryz.f135])))
  all_goals first|exact qa2 rfl (by simp[*])|(exfalso;omega)
def e135:Entry PG:=mkE 135 [[],[]] (fun z:Int × Str=>[.int .i64 z.1,.str z.2]) (fun z=>True) (fun z=>.bool (qdk z.1 z.2)) fun z h=>c135 (T:=[])  z.1 z.2 
theorem k135{T:List (Entry PG)} (hT:qIn 135 T e135) (sp:Int) (x:Str) (H:Heap):qb6 (ctx T) (.fn 135) [.int .i64 sp,.str x] H=some (.bool (qdk sp x),H):=
 qac hT inj_172 (sp,x) trivial rfl (by simp[qan])
theorem c103{T:List (Entry PG)} (hc0:qIn 110 T e110) (sp:Int) (x:Str):CA T 103 [.int .i64 sp,.str x] zH (.bool (qdk sp x)) zH:=by
 have kw0:=fun(s:Int) (x:Str) (H:Heap)=>k110 hc0 s x (W:= lsB3) (by decide) H;refine qa0 (s0:=⟨[0,1,4],[.int .i64 sp,.str x,uD],[],8,⟨0,[[]]⟩⟩) Tryz.func103 rfl rfl rfl ?_
 (repeat' (first
  |with_reducible apply qal
  |(with_reducible apply rE;simp[zS, *];exact rfl)
  |(with_reducible apply qay;simp only[qam,qaj])
  |(with_reducible apply qa5;simp[zQ,Tryz.f103])))
 all_goals first|exact qa2 rfl (by rfl)|(exfalso;omega)
def e103:Entry PG:=mkE 103 [[],[]] (fun z:Int × Str=>[.int .i64 z.1,.str z.2]) (fun z=>True) (fun z=>.bool (qdk z.1 z.2)) fun z h=>c103 (T:=[e110]) rfl z.1 z.2 
theorem k103{T:List (Entry PG)} (hT:qIn 103 T e103) (sp:Int) (x:Str) (H:Heap):qb6 (ctx T) (.fn 103) [.int .i64 sp,.str x] H=some (.bool (qdk sp x),H):=
 qac hT inj_172 (sp,x) trivial rfl (by simp[qan])
theorem c174{T:List (Entry PG)} (hc0:qa8 122 T=some e122a.g) (sp:Int) (x:Str) (hx:x.length<=1000000000):CA T 174 [.int .i64 sp,.str x] zH (.bool (decide (sp=0) && inW qrc x)) zH:=by
 have kw0:=fun(x:Str) (hx:x.length<=1000000000) (H:Heap)=>k122a (W:= qrc) (x:=x) hc0 (qr0 (by decide)) (by decide) hx H;refine qa0 (s0:=⟨[0,1,4],[.int .i64 sp,.str x,uD],[],11,⟨0,[[]]⟩⟩) Tryz.func174 rfl rfl rfl ?_
 (repeat' (first
  |with_reducible apply qal
  |(with_reducible apply rE;simp[zS, *];exact rfl)
  |(with_reducible apply qay;simp only[qam,qaj])
  |(with_reducible refine qb7 (fun hc=>?_) (fun hc=>?_)<;>(have hd:=hc;(try simp at hd);(try subst hd);apply qfx;simp[zS, *];exact rfl))
  |(with_reducible apply qa5;simp[zQ,Tryz.f174])))
 all_goals first|exact qa2 rfl (by first|(simp[*];done)|(simp_all;done))|(exfalso;omega)
def e174:Entry PG:=mkE 174 [[],[]] (fun z:Int × Str=>[.int .i64 z.1,.str z.2]) (fun z=>(z.2.length<=1000000000)) (fun z=>.bool (decide (z.1=0) && inW qrc z.2)) fun z h=>c174 (T:=[e122a]) rfl z.1 z.2 h
theorem k174{T:List (Entry PG)} (hT:qIn 174 T e174) (sp:Int) (x:Str) (hx:x.length<=1000000000) (H:Heap):qb6 (ctx T) (.fn 174) [.int .i64 sp,.str x] H=some (.bool (decide (sp=0) && inW qrc x),H):=
 qac hT inj_172 (sp,x) hx rfl (by simp[qan])
theorem c142{T:List (Entry PG)} (hc0:qIn 110 T e110) (sp:Int) (x:Str):CA T 142 [.int .i64 sp,.str x] zH (.bool (decide (sp=0) && inW qrc x)) zH:=by
 have kw0:=fun(s:Int) (x:Str) (H:Heap)=>k110 hc0 s x (W:= qrc) (by decide) H;refine qa0 (s0:=⟨[0,1,4],[.int .i64 sp,.str x,uD],[],8,⟨0,[[]]⟩⟩) Tryz.func142 rfl rfl rfl ?_
 (repeat' (first
  |with_reducible apply qal
  |(with_reducible apply rE;simp[zS, *];exact rfl)
  |(with_reducible apply qay;simp only[qam,qaj])
  |(with_reducible apply qa5;simp[zQ,Tryz.f142])))
 all_goals first|exact qa2 rfl (by rfl)|(exfalso;omega)
def e142:Entry PG:=mkE 142 [[],[]] (fun z:Int × Str=>[.int .i64 z.1,.str z.2]) (fun z=>True) (fun z=>.bool (decide (z.1=0) && inW qrc z.2)) fun z h=>c142 (T:=[e110]) rfl z.1 z.2 
theorem k142{T:List (Entry PG)} (hT:qIn 142 T e142) (sp:Int) (x:Str) (H:Heap):qb6 (ctx T) (.fn 142) [.int .i64 sp,.str x] H=some (.bool (decide (sp=0) && inW qrc x),H):=
 qac hT inj_172 (sp,x) trivial rfl (by simp[qan])
theorem qdp:∀{s:Str} {i:Nat} (h:i < s.length),qck (qad s) i=some (.int .u8 (s[i].toNat:Int))
 |[],i,h=>absurd h (Nat.not_lt_zero i)
 |c::r,0,_=>rfl
 |c::r,i+1,h=>by have:=qdp (s:=r) (i:=i) (by simpa using h);simpa[qad]using this
theorem qnb{x:UInt8}:∀{s:Str} {i:Nat} (h:i < s.length),qh7 [.int .u8 (x.toNat:Int)] i (qad s)=some (qad (s.set i x))
 |[],i,h=>absurd h (Nat.not_lt_zero i)
 |c::r,0,_=>by simp[qad]
 |c::r,i+1,h=>by have:=qnb (x:=x) (s:=r) (i:=i) (by simpa using h);simp[qad,this]
theorem qj5:∀(s:Str),qlq (qad s)=some s
 |[]=>rfl
 |c::r=>by simp[qad,qlq,qyf,qj5 r]
theorem qh6:∀(s:Str),qa9 (qad s)=true
 |[]=>by simp[qad,qa9]
 |c::r=>by simp[qad,qa9,qab,qh6 r]
theorem qp9{s:Str}:qex 0 s.length (qad s)=some (qad s):=by have:=qir (n:=s.length) (l:=qad s) (by rw[qbm];omega);rw[qkh (by rw[qbm];omega)];simp[List.take_of_length_le,qbm]
def qeo(n:Nat) (s:Str):Heap:=⟨n,[[(0,.cells (qad s))]]⟩
theorem conv1{s:Str} (h:s.length<=1000000):qh5 PG ⟨0,[[]]⟩ 9 74 (.str s)=some (.slc 0 0 s.length (.rest 1),qeo 1 s):=by
 have:qcw s.length 1=true:=by simp[qcw];omega
 simp[qh5,this,qeo,Heap.new,pushF]
theorem conv2{n len:Nat} {s:Str} {cap:Cap} (e:s.length=len):qh5 PG (qeo n s) 74 9 (.slc 0 0 len cap)=some (.str s,qeo n s):=by subst e;simp[qh5,qc9,qba,readCells,qeo,zG,qp9,qj5]
theorem ix52{b o len i:Nat} {cap:Cap} (h:i < len):qat PG 74 (.slc b o len cap) (.int .i64 (i:Int))=some (.ptr b (o+i)):=by simp[qat,qbv h]
theorem len52{H:Heap} {b o n:Nat} {cap:Cap}:qf6 PG H 74 (.slc b o n cap)=some n:=by simp[qf6]
theorem qi0{n:Nat} {s t:Str} (e:s=t):FitH 0 [(0,0)] [] (qeo n s) (qeo 1 t):=by
 subst e;have hb:qi1 [(0,0)] [] (.cells (qad s)) (.cells (qad s)):=by show qax _ _ _ _;exact qak (qh6 s)
 refine⟨by simp,by simp,by simp[qeo,Heap.ents],by simp[qeo],by simp,Nat.zero_le _,?_,by simp⟩;intro e he;simp[qeo,Heap.ents]at he;subst he;exact⟨0,_,by simp,by simp[qeo,zG],hb⟩
theorem qo5{len:Nat} {cap:Cap}:qas [(0,0)] [] (.slc 0 0 len cap) (.slc 0 0 len cap):=by simp[qas,qb2]
theorem qfn:∀(s:Str),qad s=s.map fun c=>AV.int .u8 (c.toNat:Int)
 |[]=>rfl
 |c::r=>by simp[qad,qfn r]
theorem zac(s:Str):Elems 1 (qad s):=by rw[qfn];exact .map (sz:=1) (f:=fun c:UInt8=>AV.int .u8 (c.toNat:Int)) (by decide) (fun x=>⟨rfl,rfl,fun _=>rfl,fun h=>absurd rfl h⟩) s
theorem qkp:∀(s:Str),qa6 (qad s)=qad s
 |[]=>rfl
 |c::r=>by simp[qad,qa6,qkp r]
theorem zav(s:Str) (n:Nat):(qad s).take n=qad (s.take n):=by rw[qfn,qfn,List.map_take]
theorem qsk(s:Str) (n:Nat):(qad s).drop n=qad (s.drop n):=by rw[qfn,qfn,List.map_drop]
theorem zh5(s t:Str):qad s++qad t=qad (s++t):=by rw[qfn,qfn,qfn,List.map_append]
def aB(s:Str):AV:=.fslc 1 (qad s)
theorem atB{s:Str} {i:Nat} (h:i < s.length):qat PG 74 (aB s) (.int .i64 (i:Int))=some (.fptr [.int .u8 (s[i].toNat:Int)] 0):=by simp[qat,aB,qbv (show i < (qad s).length by rw[qbm];exact h),qdp h,AV.cells]
theorem qre{H:Heap} {s:Str}:qf6 PG H 74 (aB s)=some s.length:=by simp[qf6,aB,qbm]
theorem slB{H:Heap} {s:Str} {i:Nat} (h:i<=s.length):qdx PG H 74 (aB s) (some (.int .i64 (i:Int))) none none=some (aB (s.drop i)):=by have h2:idx (i:Int) (Nat.succ (qad s).length)=some i:=qbv (by rw[qbm];omega);rw[qbm]at h2;simp[qdx,qzw,aB,qd4,qbm];rw[h2];simp;rw[List.take_of_length_le (by rw[qbm];omega),qsk]
theorem slB2{H:Heap} {s:Str} {i j:Nat} (h:i<=j) (hj:j<=s.length):qdx PG H 74 (aB s) (some (.int .i64 (i:Int))) (some (.int .i64 (j:Int))) none=some (aB ((s.take j).drop i)):=by have h1:idx (j:Int) (Nat.succ (qad s).length)=some j:=qbv (by rw[qbm];omega);have h2:idx (i:Int) (Nat.succ j)=some i:=qbv (by omega);simp[qdx,qzw,aB,qd4,h1,h2,zav,qsk]
theorem inj_aB{s t:Str} (h:aB s=aB t):s=t:=by simp only[aB,AV.fslc.injEq,true_and,qfn]at h;exact List.map_inj_right (fun x y h=>by simp at h;exact UInt8.toNat_inj.1 (by omega)) |>.1 h
theorem qw1(x y:Str) (h:[aB x]=[aB y]):x=y:=inj_aB (by simpa using h)
def gV(b:Nat) (s:Str):AV:=match s with
 |[]=>.nilS
 |_::_=>.slc b 0 s.length (.rest 1)
def gF(b:Nat) (s:Str):List (Nat × Blk):=match s with
 |[]=>[]
 |_::_=>[(b,.buf 5 0 (qad s))]
theorem gV_ne{b:Nat} {s:Str} (h:s≠[]):gV b s=.slc b 0 s.length (.rest 1):=by cases s<;>first|exact absurd rfl h|rfl
theorem gF_ne{b:Nat} {s:Str} (h:s≠[]):gF b s=[(b,.buf 5 0 (qad s))]:=by cases s<;>first|exact absurd rfl h|rfl
theorem qj6(s:Str):(qad s).length=s.length:=qbm s
theorem app_g{m:Nat} {s t:Str} {x:AV} {g:List (Nat × Blk)} (hx:qc9 x=some t.length) (hc:qba ⟨m,[g++gF 0 s]⟩ 1 t.length x=some (qad t)) (hg:getF 0 g=none) (ht:0 < t.length) (hl:s.length+t.length<=1000000000) :
  qbz PG ⟨m,[g++gF 0 s]⟩ 5 (gV 0 s) x=some (.slc m 0 (s.length+t.length) (.rest 1),⟨m+1,[(m,.buf 5 0 (qad (s++t)))::g]⟩):=by
 have hrow:∀cs,qom PG 5 cs=.buf 5 0 cs:=fun cs=>rfl;have get0:∀(g:List (Nat × Blk)) (k:Blk),getF 0 g=none->getF 0 (g++[(0,k)])=some k:=by
  intro g k;induction g with
  |nil=>intro _;simp[getF]
  |cons e r ih=>
   intro h;unfold getF at h;simp only[List.cons_append];unfold getF;split at h
   ·cases h
   next hb=>first|exact ih h|(rw[hb];exact ih h)
 have kill0:∀(g:List (Nat × Blk)) (k:Blk),getF 0 g=none->killF 0 (g++[(0,k)])=g:=by
  intro g k;induction g with
  |nil=>intro _;simp[killF]
  |cons e r ih=>
   intro h;unfold getF at h;simp only[List.cons_append];unfold killF;split at h
   ·cases h
   next hb=>first|rw[ih h]|(rw[hb];simp only;rw[ih h])
 have e2:Nat.blt 0 1=true:=rfl;have e3:Nat.beq 1 0=false:=rfl;obtain⟨n,hn⟩ : ∃n,t.length=n+1:=⟨t.length - 1,by omega⟩;have hbl:Nat.beq (qad t).length (t.length * 1)=true:=by rw[qj6,Nat.mul_one];exact Nat.beq_refl _
 have hbl':Nat.beq (qad t).length t.length=true:=by rw[qj6];exact Nat.beq_refl _
 cases s with
 |nil=>
  have hr:qcw t.length 1=true:=by unfold qcw;rw[Nat.ble_eq];omega
  unfold qbz;simp only[szT5,byT5,zeT5,Option.bind_some,gV,hx,hc];rw[hn]at hr hbl hbl' ⊢;simp[hr,hbl,hbl',e2,e3,hrow,Heap.new,pushF,gF,hn]
 |cons c r=>
  have hr:qcw ((c::r).length+t.length) 1=true:=by unfold qcw;rw[Nat.ble_eq];omega
  have gt:Heap.get ⟨m,[g++gF 0 (c::r)]⟩ 0=some (.buf 5 0 (qad (c::r))):=by simp only[Heap.get,getFs,gF,get0 g _ hg]
  have hk:qcp ⟨m,[g++gF 0 (c::r)]⟩ 0=some (c::r).length:=by unfold qcp;simp only[gt,Option.bind_some,rd_buf,qj6]
  have hrd:readCells ⟨m,[g++gF 0 (c::r)]⟩ 0 0 ((c::r).length * 1)=some (qad (c::r)):=by unfold readCells;simp only[gt,Option.bind_some,rd_buf,Nat.mul_one];exact qp9
  have b1:Nat.ble (0+((c::r).length+t.length) * 1) (c::r).length=false:=by rw[<- Bool.not_eq_true,Nat.ble_eq];omega
  have b2:Nat.beq (0+(c::r).length * 1) (c::r).length=true:=by rw[Nat.mul_one,Nat.zero_add];exact Nat.beq_refl _
  have hgo:goOn (.buf 5 0 (qad (c::r))) 5 0 (qad (c::r)++qad t)=some (.buf 5 0 (qad (c::r)++qad t)):=rfl;unfold qbz;simp only[szT5,byT5,zeT5,Option.bind_some,gV,hx,hc,hr,qkc,Nat.beq_refl,hk,b1,b2,hbl,hrd,gt,hgo];simp[e2,e3,Heap.drop,qen,gF,get0 g _ hg,kill0 g _ hg,Heap.new,pushF,zh5,Nat.beq]
theorem fit_g{H:Heap} {b:Nat} {s:Str} (hs:s≠[]) (h:H.get b=some (.buf 5 0 (qad s))):FitH 0 [(b,0)] [] H ⟨1,[gF 0 s]⟩ where
 nd1:=by simp
 nd2:=by simp
 nd3:=by simp[Heap.ents,gF_ne hs]
 lt:=fun x hx=>by simp at hx;subst hx;exact Nat.zero_lt_one
 idn:=fun x hx h=>by rcases h with h|h<;>exact absurd h (Nat.not_lt_zero _)
 num:=Nat.zero_le _
 src:=fun e he=>by simp[Heap.ents,gF_ne hs]at he;subst he;exact⟨b,_,by simp,h,rfl,Nat.le_refl _,Nat.zero_le _,qak (qh6 s)⟩
 frz:=fun x hx=>by cases hx
theorem fitV_g{σ:List (Nat × Nat)} {Φ:List (Nat × List AV)} {b:Nat} {s:Str} (h:qb2 b σ=some 0) (hs:s≠[]):qas σ Φ (.slc b 0 s.length (.rest 1)) (gV 0 s):=by rw[gV_ne hs];simp[qas,h]
theorem conv_g{s:Str}:qh5 PG ⟨1,[gF 0 s]⟩ 74 9 (gV 0 s)=some (.str s,⟨1,[gF 0 s]⟩):=by
 cases s with
 |nil=>simp[qh5,gV,qc9,qba,qlq]
 |cons c r=>have:=qp9 (s:=c::r);have h2:=qj5 (c::r);simp only[List.length_cons]at this;simp[qh5,gV,gF,qc9,qba,readCells,zG,this,h2]
def lw(c:UInt8):UInt8:=if 65<=c.toNat/\c.toNat<=90 then c+32 else c
def qfy(s:Str):Str:=s.map lw
theorem u8_add:∀n:Fin 256,65<=n.val->n.val<=90->IntKind.wrap .u8 ((n.val:Int)+32)=((UInt8.ofNat n.val+32).toNat:Int):=by decide +kernel
theorem u8_or:∀n:Fin 256,65<=n.val->n.val<=90->IntKind.wrap .u8 ((BitVec.ofInt 8 (n.val:Int) ||| BitVec.ofInt 8 32).toNat:Int)=((UInt8.ofNat n.val+32).toNat:Int):=by decide +kernel
theorem add8{c:UInt8} (h1:65<=c.toNat) (h2:c.toNat<=90):wr .u8 ((c.toNat:Int)+32)=some ((lw c).toNat:Int):=by have:=u8_add ⟨c.toNat,c.toNat_lt⟩ h1 h2;simp only[UInt8.ofNat_toNat]at this;simp only[wr,lw,h1,h2,and_self,if_true,this]
theorem or8{c:UInt8} (h1:65<=c.toNat) (h2:c.toNat<=90):qdm PG .or 5 (.int .u8 (c.toNat:Int)) (.int .u8 32)=some (.int .u8 ((lw c).toNat:Int)):=by have:=u8_or ⟨c.toNat,c.toNat_lt⟩ h1 h2;simp only[UInt8.ofNat_toNat]at this;have e:qdm PG .or 5 (.int .u8 (c.toNat:Int)) (.int .u8 32)=some (.int .u8 (IntKind.wrap .u8 ((BitVec.ofInt 8 (c.toNat:Int) ||| BitVec.ofInt 8 32).toNat:Int))):=rfl;rw[e,this];simp only[lw,h1,h2,and_self,if_true]
theorem qti{c:UInt8} (h:¬ (65<=c.toNat/\c.toNat<=90)):lw c=c:=by simp only[lw,h,if_false]
def qvp(s:Str) (i:Nat):Str:=(s.take i).map lw++s.drop i
theorem qme(s:Str) (i:Nat):(qvp s i).length=s.length:=by simp[qvp];omega
theorem qgl{s:Str} {i:Nat} (h:i < s.length):(qvp s i)[i]'(by rw[qme];exact h)=s[i]:=by
 have h1:((s.take i).map lw).length=i:=by simp;omega
 simp only[qvp];rw[List.getElem_append_right (by omega)];simp only[List.getElem_drop,h1,Nat.sub_self,Nat.add_zero]
theorem qpz{s:Str} {i:Nat} (h:i < s.length):(qvp s i).set i (lw s[i])=qvp s (i+1):=by
 have h1:((s.take i).map lw).length=i:=by simp;omega
 simp only[qvp];rw[List.set_append_right _ _ (by omega),h1,Nat.sub_self,List.drop_eq_getElem_cons h,List.set_cons_zero,List.take_succ_eq_append_getElem h];simp only[List.map_append,List.map_cons,List.map_nil,List.append_assoc,List.singleton_append]
theorem qmf{s:Str} {i:Nat} (h:i < s.length) (e:lw s[i]=s[i]):qvp s (i+1)=qvp s i:=by
 have:=qpz h;rw[e]at this;rw[<- this];have h2:=qgl h
 conv=>lhs;rw[<- h2]
 exact List.set_getElem_self _
theorem qzn(s:Str):qvp s s.length=qfy s:=by simp[qvp,qfy]
theorem c161{T:List (Entry PG)} (s:Str) (hl:s.length<=1000000):CA T 161 [.str s] zH (.str (qfy s)) zH:=by
 refine qa0 (s0:=⟨[0,2,3,4,5,8,9,10],[.str s,uD,uD,uD,uD,uD,uD,uD],[],29,⟨0,[[]]⟩⟩) Tryz.func161 rfl rfl rfl ?_;apply ra;simp[zS];apply ra;simp[zS,conv1 hl];apply ra;simp[zS,len52];refine qa7 (qb1 (fun i:Nat=>(⟨[0,2,3,4,5,8,9,10],[uD,uD,.slc 0 0 s.length (.rest 1),uD,uD,.slc 0 0 s.length (.rest 1),.int .i64 s.length,.int .i64 i],[],29,qeo 1 (qvp s i)⟩ : St))
  (fun i=>i<=s.length) (fun i=>s.length - i) [(0,0)] [] 0 (Nat.zero_le _) ⟨rfl,rfl,rfl,by simp[qax,qas,qo5,qb2,qab],by simpa[qvp]using qi0 (n:=1) (s:=s) rfl⟩ ?_)
 rintro i hi B hB;apply ra;simp[zS];repeat apply wq
 refine qb0 rfl (fun h=>?_) fun h=>?_
 ·simp at h;apply qa4;simp;repeat apply wq
  apply qa7;have hm:i < (qvp s i).length:=by rw[qme];exact h
  apply ra;simp[zS,qeo,ix52 h,qdp hm,qgl h];by_cases h1:65<=s[i].toNat/\s[i].toNat<=90
  ·have e1:(65:Int)<=s[i].toNat:=(by omega);have e2:(s[i].toNat:Int)<=90:=(by omega);apply ra;simp[zS,qeo,ix52 h,qdp hm,qgl h,e1,e2];apply qai rfl;apply ra;simp[zS,qeo,ix52 h,qdp hm,qgl h,or8 h1.1 h1.2,qnb hm];apply ra;simp[zS,qbb (show i<=1000000000 by omega)];exact hB _ (i+1) (by omega) (by omega) ⟨[(0,0)],[],rfl,rfl,rfl,by simp[qax,qas,qo5,qb2,qab],qi0 (qpz h)⟩
  ·by_cases e1:(65:Int)<=s[i].toNat
   ·have e2:¬ (s[i].toNat:Int)<=90:=(by omega);apply ra;simp[zS,qeo,ix52 h,qdp hm,qgl h,e1,e2];apply qag rfl;apply qa4;simp;apply ra;simp[zS,qbb (show i<=1000000000 by omega)];exact hB _ (i+1) (by omega) (by omega) ⟨[(0,0)],[],rfl,rfl,rfl,by simp[qax,qas,qo5,qb2,qab],qi0 (qmf h (qti h1)).symm⟩
   ·apply ra;simp[zS,qeo,ix52 h,qdp hm,qgl h,e1];apply qag rfl;apply qa4;simp;apply ra;simp[zS,qbb (show i<=1000000000 by omega)];exact hB _ (i+1) (by omega) (by omega) ⟨[(0,0)],[],rfl,rfl,rfl,by simp[qax,qas,qo5,qb2,qab],qi0 (qmf h (qti h1)).symm⟩
 ·simp at h;apply qar;simp;apply ra;simp[zS,conv2 (qme s i)];apply qa5;simp[zQ,Tryz.f161];exact qa2 rfl (by rw[show i=s.length by omega,qzn])
theorem inj_strL(x y:Str) (h:[AV.str x]=[AV.str y]):x=y:=by simpa using h
def e161:Entry PG:=mkE 161 [[]] (fun x:Str=>[.str x]) (fun x=>x.length<=1000000) (fun x=>.str (qfy x)) fun x hx=>c161 (T:=[]) x hx
theorem k161{T:List (Entry PG)} (hT:qIn 161 T e161) {s:Str} (hl:s.length<=1000000) (H:Heap):qb6 (ctx T) (.fn 161) [.str s] H=some (.str (qfy s),H):=
 qac hT inj_strL s hl rfl (by simp)
def qof(a b:Str):Bool:=decide (a.length=b.length) && decide (qfy a=qfy b)
theorem c132{T:List (Entry PG)} (hT:qIn 161 T e161) (a b:Str) (ha:a.length<=1000000) (hb:b.length<=1000000):CA T 132 [.str a,.str b] zH (.bool (qof a b)) zH:=by
 have ka:=fun H=>k161 hT ha H;have kb:=fun H=>k161 hT hb H;by_cases h:a.length=b.length
 ·have h2:(a.length:Int)=b.length:=by omega
  refine qa0 (s0:=⟨[0,1,4],[.str a,.str b,uD],[],17,⟨0,[[]]⟩⟩) Tryz.func132 rfl rfl rfl ?_
  (repeat (first
   |(apply qal)
   |(apply qa7)
   |(apply qch;simp only[qam,qaj])
   |((refine qah qbf ?_);simp[zS,h2,ka,kb])
   |apply qai rfl
   |apply qag rfl
   |((apply qa4);simp only[qam,qaj])
   |((apply qar);simp)))
  apply qa5;simp[zQ,Tryz.f132];exact qa2 rfl (by simp[qof,h])
 ·have h2:¬ (a.length:Int)=b.length:=by omega
  refine qa0 (s0:=⟨[0,1,4],[.str a,.str b,uD],[],17,⟨0,[[]]⟩⟩) Tryz.func132 rfl rfl rfl ?_
  (repeat (first
   |(apply qal)
   |(apply qa7)
   |(apply qch;simp only[qam,qaj])
   |((refine qah qbf ?_);simp[zS,h,h2,ka,kb])
   |apply qai rfl
   |apply qag rfl
   |((apply qa4);simp only[qam,qaj])
   |((apply qar);simp)))
  apply qa5;simp[zQ,Tryz.f132];exact qa2 rfl (by simp[qof,h])
def e132:Entry PG:=mkE 132 [[],[]] (fun x:Str × Str=>[.str x.1,.str x.2]) (fun x=>x.1.length<=1000000/\x.2.length<=1000000) (fun x=>.bool (qof x.1 x.2)) fun x hx=>c132 (T:=[e161]) rfl x.1 x.2 hx.1 hx.2
theorem k132{T:List (Entry PG)} (hT:qIn 132 T e132) {a b:Str} (ha:a.length<=1000000) (hb:b.length<=1000000) (H:Heap):qb6 (ctx T) (.fn 132) [.str a,.str b] H=some (.bool (qof a b),H):=
 qac hT qtl (a,b) ⟨ha,hb⟩ rfl (by simp)
def okN(n:Nd):Prop:=n.name.length<=100000/\n.attrs.length<=1000/\n.data.length<=100000/\∀a,a∈n.attrs->a.1.length<=100000/\a.2.length<=100000
theorem okN.nm{n:Nd} (h:okN n):n.name.length<=1000000000:=by have:=h.1;omega
def okP(L:List Nd):Prop:=L.length<=100000/\∀n,n∈L->okN n
def elB(n:Nd) (W:Str):Bool:=decide (n.kind=1) && decide (n.space=0) && inW W n.name
abbrev lsKSvg:Str:= lsB17
abbrev lsKMath:Str:= lsB13
def qll(sp:Int) (x:Str):Bool:=if sp=0 then inW lsB16 x else if sp=1 then inW lsKSvg x else if sp=2 then inW lsKMath x else false
theorem c91{T:List (Entry PG)} (hc0:qa8 122 T=some e122a.g) (sp:Int) (x:Str) (hx:x.length<=1000000000):CA T 91 [.int .i64 sp,.str x] zH (.bool (qll sp x)) zH:=by
 have kw0:=fun(x:Str) (hx:x.length<=1000000000) (H:Heap)=>k122a (W:= lsB16) (x:=x) hc0 (qr0 (by decide)) (by decide) hx H;have kw1:=fun(x:Str) (hx:x.length<=1000000000) (H:Heap)=>k122a (W:= lsB17) (x:=x) hc0 (qr0 (by decide)) (by decide) hx H;have kw2:=fun(x:Str) (hx:x.length<=1000000000) (H:Heap)=>k122a (W:= lsB13) (x:=x) hc0 (qr0 (by decide)) (by decide) hx H;refine qa0 (s0:=⟨[0,1,4,5],[.int .i64 sp,.str x,uD,uD],[],18,⟨0,[[]]⟩⟩) Tryz.func91 rfl rfl rfl ?_
 (repeat' (first
  |with_reducible apply qal
  |with_reducible apply qa7
  |(with_reducible apply rE;simp[zS, *];exact rfl)
  |(with_reducible apply qay;simp only[qam,qaj])
  |(refine qb0 rfl (fun hc=>?_) (fun hc=>?_)<;>(have hd:=hc;(try simp at hd);(try subst hd)))
  |(with_reducible apply qa4;simp only[qam,qaj])
  |(with_reducible apply qa5;simp[zQ,Tryz.f91])))
 all_goals first|exact qa2 rfl (by simp[qll, *])|(exfalso;omega)
def e91:Entry PG:=mkE 91 [[],[]] (fun z:Int × Str=>[.int .i64 z.1,.str z.2]) (fun z=>(z.2.length<=1000000000)) (fun z=>.bool (qll z.1 z.2)) fun z h=>c91 (T:=[e122a]) rfl z.1 z.2 h
theorem k91{T:List (Entry PG)} (hT:qIn 91 T e91) (sp:Int) (x:Str) (hx:x.length<=1000000000) (H:Heap):qb6 (ctx T) (.fn 91) [.int .i64 sp,.str x] H=some (.bool (qll sp x),H):=
 qac hT inj_172 (sp,x) hx rfl (by simp[qan])
theorem c85{T:List (Entry PG)} (hc0:qa8 122 T=some e122a.g) (n:Nd) (W:Str) (hW:qde W) (hl:W.length<=100000) (hx:n.name.length<=1000000000):CA T 85 [qa3 n,.str W] zH (.bool (elB n W)) zH:=by
 have kc0:=@k122a T hc0;refine qa0 (s0:=⟨[0,1,2,4],[qa3 n,.str W,uD,uD],[],19,⟨0,[[]]⟩⟩) Tryz.func85 rfl rfl rfl ?_
 (repeat' (first
  |with_reducible apply qal
  |(with_reducible apply rE;simp[zS, *,qaq];exact rfl)
  |(with_reducible apply qay;simp only[qam,qaj])
  |(with_reducible refine qb7 (fun hc=>?_) (fun hc=>?_)<;>(have hd:=hc;(try simp at hd);(try subst hd);apply qfx;simp[zS, *,qaq];exact rfl))
  |(with_reducible apply qa5;simp[zQ,Tryz.f85])))
 all_goals first|exact qa2 rfl (by simp[elB, *])|(exfalso;omega)
theorem inj_85(x y:Nd × Str) (h:(fun z:Nd × Str=>([qa3 z.1,.str z.2]:List AV)) x=(fun z:Nd × Str=>([qa3 z.1,.str z.2]:List AV)) y):x=y:=by obtain⟨x0,x1⟩:=x;obtain⟨y0,y1⟩:=y;simp only[List.cons.injEq,and_true]at h;obtain⟨h0,h1⟩:=h;have g0:x0=y0:=qci h0;have g1:x1=y1:=AV.str.inj h1;subst g0 g1;rfl
def e85:Entry PG:=mkE 85 [[0,0,0,2,0,0,1],[]] (fun z:Nd × Str=>[qa3 z.1,.str z.2]) (fun z=>(qde z.2)/\(z.2.length<=100000)/\(z.1.name.length<=1000000000)) (fun z=>.bool (elB z.1 z.2)) fun z h=>c85 (T:=[e122a]) rfl z.1 z.2 h.1 h.2.1 h.2.2
theorem k85{T:List (Entry PG)} (hT:qIn 85 T e85) (n:Nd) (W:Str) (hW:qde W) (hl:W.length<=100000) (hx:n.name.length<=1000000000) (H:Heap):qb6 (ctx T) (.fn 85) [qa3 n,.str W] H=some (.bool (elB n W),H):=
 qac hT inj_85 (n,W) ⟨hW,hl,hx⟩ rfl (by simp[qan])
theorem qus{n:Nat} (h:0 < n) (hn:n<=1000000000):wr .i64 ((n:Int) - 1)=some ((n - 1:Nat):Int):=by rw[qdr (by omega) (by omega)];congr 1;omega
def qau(L:List Nd):Nd:=if L=[] then ⟨1,0,[100,105,118],[],[],0,[]⟩ else qa1 L ((L.length - 1:Nat):Int)
theorem c82{T:List (Entry PG)} (L:List Nd) (hl:L.length<=1000000):CA T 82 [qaa L] zH (qa3 (qau L)) zH:=by
 by_cases he:L=[]
 ·subst he;have bld:qgq PG 34 [(0,.int .i64 1),(2,.str [100,105,118])]=some (.agg [.int .i64 1,.int .i64 0,.str [100,105,118],.nilS,.str [],.int .i64 0,.nilS]):=rfl;have l0:∀H,qf6 PG H 22 (qaa [])=some 0:=fun H=>rfl;refine qa0 (s0:=⟨[0,2,3],[qaa [],uD,uD],[],14,⟨0,[[]]⟩⟩) Tryz.func82 rfl rfl rfl ?_;apply ra;simp[zS];apply ra;simp[zS,l0];apply ra;simp[zS,l0];apply qag rfl;apply qa4;simp;apply ra;simp[zS,bld];apply qa5;simp[zQ,Tryz.f82,readCells,zG,Blk.rd];refine⟨[],[],?_,FitH.empty⟩;simp[qau,qa3,Nd.cs,qb9,qbc,qaf,qas,qax,qab]
 ·have h:0 < L.length:=List.length_pos_iff.2 he;have hi:(0:Int) < (L.length:Int):=by omega
  have hs:=qus h (by omega);have ha:=atX (t:=L) (i:=((L.length - 1:Nat):Int)) (by omega) (by omega);have hp:qau L=qa1 L ((L.length - 1:Nat):Int):=by unfold qau;rw[if_neg he]
  rw[hp];refine qa0 (s0:=⟨[0,2,3],[qaa L,uD,uD],[],14,⟨0,[[]]⟩⟩) Tryz.func82 rfl rfl rfl ?_;apply ra;simp[zS];apply ra;simp[zS,qhl];apply ra;simp[zS,h,hi];refine qai (by simp[qbp,St.get,h]) ?_;apply ra;simp[zS,hs,ha,qaq];apply qa5;simp[zQ,Tryz.f82,readCells,zG,Blk.rd,qaq];exact⟨[],[],FitH.empty⟩
theorem inj_82(x y:List Nd) (h:(fun z:List Nd=>([qaa z]:List AV)) x=(fun z:List Nd=>([qaa z]:List AV)) y):x=y:=by simp only[List.cons.injEq,and_true]at h;exact qcg h
def e82:Entry PG:=mkE 82 [[7]] (fun z:List Nd=>[qaa z]) (fun z=>(z.length<=1000000)) (fun z=>qa3 (qau z)) fun z h=>c82 (T:=[])  z h
theorem k82{T:List (Entry PG)} (hT:qIn 82 T e82) (L:List Nd) (hl:L.length<=1000000) (H:Heap):qb6 (ctx T) (.fn 82) [qaa L] H=some (qa3 (qau L),H):=
 qd1 hT inj_82 (L) hl (by simp[qa9,qab,qan]) (by simp[qan]) H
theorem c94{T:List (Entry PG)} (u:Nd) (n:Nd):CA T 94 [qa3 u,qa3 n] zH (.bool (decide (n.space=u.space) || (decide (u.space=2) && decide (u.name=[97,110,110,111,116,97,116,105,111,110,45,120,109,108]) && decide (n.space=1) && decide (n.name=[115,118,103])))) zH:=by
 refine qa0 (s0:=⟨[0,1,2,3,4],[qa3 u,qa3 n,uD,uD,uD],[],28,⟨0,[[]]⟩⟩) Tryz.func94 rfl rfl rfl ?_
 (repeat' (first
  |with_reducible apply qal
  |(with_reducible apply rE;simp[zS, *,qaq];exact rfl)
  |(with_reducible apply qay;simp only[qam,qaj])
  |(with_reducible refine qb7 (fun hc=>?_) (fun hc=>?_)<;>(have hd:=hc;(try simp at hd);(try subst hd);apply qfx;simp[zS, *,qaq];exact rfl))
  |(refine qb0 rfl (fun hc=>?_) (fun hc=>?_)<;>(have hd:=hc;(try simp at hd);(try subst hd)))
  |(with_reducible apply qa4;simp only[qam,qaj])
  |(with_reducible apply qa5;simp[zQ,Tryz.f94])))
 all_goals first|exact qa2 rfl (by first|(simp[*];done)|(simp_all;done))|(exfalso;omega)
theorem inj_94(x y:Nd × Nd) (h:(fun z:Nd × Nd=>([qa3 z.1,qa3 z.2]:List AV)) x=(fun z:Nd × Nd=>([qa3 z.1,qa3 z.2]:List AV)) y):x=y:=by obtain⟨x0,x1⟩:=x;obtain⟨y0,y1⟩:=y;simp only[List.cons.injEq,and_true]at h;obtain⟨h0,h1⟩:=h;have g0:x0=y0:=qci h0;have g1:x1=y1:=qci h1;subst g0 g1;rfl
def e94:Entry PG:=mkE 94 [[0,0,0,2,0,0,1],[0,0,0,2,0,0,1]] (fun z:Nd × Nd=>[qa3 z.1,qa3 z.2]) (fun z=>True) (fun z=>.bool (decide (z.2.space=z.1.space) || (decide (z.1.space=2) && decide (z.1.name=[97,110,110,111,116,97,116,105,111,110,45,120,109,108]) && decide (z.2.space=1) && decide (z.2.name=[115,118,103])))) fun z h=>c94 (T:=[])  z.1 z.2 
theorem k94{T:List (Entry PG)} (hT:qIn 94 T e94) (u:Nd) (n:Nd) (H:Heap):qb6 (ctx T) (.fn 94) [qa3 u,qa3 n] H=some (.bool (decide (n.space=u.space) || (decide (u.space=2) && decide (u.name=[97,110,110,111,116,97,116,105,111,110,45,120,109,108]) && decide (n.space=1) && decide (n.name=[115,118,103]))),H):=
 qac hT inj_94 (u,n) trivial rfl (by simp[qan])
theorem sp_mi:qbq qs5=[[109,105],[109,110],[109,111],[109,115],[109,116,101,120,116]]:=by decide +kernel
theorem in_mi(x:Str):inW qs5 x=decide (x=[109,105]\/x=[109,110]\/x=[109,111]\/x=[109,115]\/x=[109,116,101,120,116]):=by unfold inW;rw[sp_mi];simp
def qg9(n:Nd):Bool:=decide (n.kind=1) && decide (n.space=2) && inW qs5 n.name
theorem c92{T:List (Entry PG)} (n:Nd):CA T 92 [qa3 n] zH (.bool (qg9 n)) zH:=by
 refine qa0 (s0:=⟨[0,1,2,4,5],[qa3 n,uD,uD,uD,uD],[],19,⟨0,[[]]⟩⟩) Tryz.func92 rfl rfl rfl ?_
 (repeat' (first
  |with_reducible apply qal
  |with_reducible apply qa7
  |(with_reducible apply rE;simp[zS, *,qaq];exact rfl)
  |(with_reducible apply qay;simp only[qam,qaj])
  |(with_reducible refine qb7 (fun hc=>?_) (fun hc=>?_)<;>(have hd:=hc;(try simp at hd);(try subst hd);apply qfx;simp[zS, *,qaq];exact rfl))
  |(refine qb0 rfl (fun hc=>?_) (fun hc=>?_)<;>(have hd:=hc;(try simp at hd);(try subst hd)))
  |(with_reducible apply qa4;simp only[qam,qaj])
  |(with_reducible apply qa5;simp[zQ,Tryz.f92])))
 all_goals first|exact qa2 rfl (by first|(simp[qg9,in_mi, *];done)|(simp_all [qg9,in_mi];done))|(exfalso;omega)
theorem inj_92(x y:Nd) (h:(fun z:Nd=>([qa3 z]:List AV)) x=(fun z:Nd=>([qa3 z]:List AV)) y):x=y:=by simp only[List.cons.injEq,and_true]at h;exact qci h
def e92:Entry PG:=mkE 92 [[0,0,0,2,0,0,1]] (fun z:Nd=>[qa3 z]) (fun z=>True) (fun z=>.bool (qg9 z)) fun z h=>c92 (T:=[])  z 
theorem k92{T:List (Entry PG)} (hT:qIn 92 T e92) (n:Nd) (H:Heap):qb6 (ctx T) (.fn 92) [qa3 n] H=some (.bool (qg9 n),H):=
 qac hT inj_92 (n) trivial rfl (by simp[qan])
def qf4(n:Nd):Bool:=decide (n.kind=1) && (decide (n.space=1) && inW lsSvg n.name || decide (n.space=2) && match qh2 [101,110,99,111,100,105,110,103] n.attrs with
 |none=>false
 |some v=>decide (n.name=[97,110,110,111,116,97,116,105,111,110,45,120,109,108]) && (qof v [116,101,120,116,47,104,116,109,108] || qof v [97,112,112,108,105,99,97,116,105,111,110,47,120,104,116,109,108,43,120,109,108]))
theorem qqh{nm v:Str} {m:Nat}:∀{L:List At1},(∀a,a∈L->a.1.length<=m/\a.2.length<=m)->qh2 nm L=some v->v.length<=m
 |[],_,h=>by simp[qh2]at h
 |a::r,hl,h=>by
  unfold qh2 at h;split at h
  ·simp only[sj]at h;rw[<- h];exact(hl a (by simp)).2
  ·exact qqh (fun b hb=>hl b (by simp[hb])) h
theorem c93{T:List (Entry PG)} (hc0:qa8 122 T=some e122a.g) (hc1:qIn 131 T e131) (hc2:qIn 132 T e132) (n:Nd) (h:okN n):CA T 93 [qa3 n] zH (.bool (qf4 n)) zH:=by
 have kw0:=fun(x:Str) (hx:x.length<=1000000000) (H:Heap)=>k122a (W:= lsB0) (x:=x) hc0 (qr0 (by decide)) (by decide) hx H;have kc1:=@k131 T hc1;have kc2:=@k132 T hc2;have hx:=h.nm;have hg:=fun H=>k131 (nm:=[101,110,99,111,100,105,110,103]) hc1 h.2.1 (qid H n.attrs);cases hv:qh2 [101,110,99,111,100,105,110,103] n.attrs with
 |none=>
  rw[hv]at hg;simp only[qxy]at hg;refine qa0 (s0:=⟨[0,1,2,3,4,9],[qa3 n,uD,uD,uD,uD,uD],[],37,⟨0,[[]]⟩⟩) Tryz.func93 rfl rfl rfl ?_
  (repeat' (first
   |with_reducible apply qal
   |with_reducible apply qa7
   |(with_reducible apply rE;simp[zS, *,qaq];exact rfl)
   |(with_reducible apply qay;simp only[qam,qaj])
   |(refine qb0 rfl (fun hc=>?_) (fun hc=>?_)<;>(have hd:=hc;(try simp at hd);(try subst hd)))
   |(with_reducible apply qa4;simp only[qam,qaj])
   |(with_reducible apply qa5;simp[zQ,Tryz.f93])))
  all_goals first|exact qa2 rfl (by first|(simp[qf4, *];done)|(simp_all [qf4];done))|(exfalso;omega)
 |some v=>
  rw[hv]at hg;have lv:v.length<=1000000:=by have:=qqh h.2.2.2 hv;omega
  simp only[qxy]at hg;refine qa0 (s0:=⟨[0,1,2,3,4,9],[qa3 n,uD,uD,uD,uD,uD],[],37,⟨0,[[]]⟩⟩) Tryz.func93 rfl rfl rfl ?_
  (repeat' (first
   |with_reducible apply qal
   |with_reducible apply qa7
   |(with_reducible apply rE;simp[zS, *,qaq];exact rfl)
   |(with_reducible apply qay;simp only[qam,qaj])
   |(with_reducible refine qb7 (fun hc=>?_) (fun hc=>?_)<;>(have hd:=hc;(try simp at hd);(try subst hd);apply qfx;simp[zS, *,qaq];exact rfl))
   |(refine qb0 rfl (fun hc=>?_) (fun hc=>?_)<;>(have hd:=hc;(try simp at hd);(try subst hd)))
   |(with_reducible apply qa4;simp only[qam,qaj])
   |(with_reducible apply qa5;simp[zQ,Tryz.f93])))
  all_goals first|exact qa2 rfl (by first|(simp[qf4, *];done)|(simp_all [qf4];done))|(exfalso;omega)
def e93:Entry PG:=mkE 93 [[0,0,0,2,0,0,1]] (fun z:Nd=>[qa3 z]) (fun z=>(okN z)) (fun z=>.bool (qf4 z)) fun z h=>c93 (T:=[e122a,e131,e132]) rfl rfl rfl z h
theorem k93{T:List (Entry PG)} (hT:qIn 93 T e93) (n:Nd) (h:okN n) (H:Heap):qb6 (ctx T) (.fn 93) [qa3 n] H=some (.bool (qf4 n),H):=
 qac hT inj_92 (n) h rfl (by simp[qan])
def cN(s:Str) (i:Nat):Nat:=(s.getD i 0).toNat
def qdi(c:Nat):Nat:=if c < 194 then 0 else if c < 224 then 1 else if c < 240 then 2 else if c < 245 then 3 else 0
def loN(c:Nat):Nat:=if c=224 then 160 else if c=240 then 144 else 128
def hiN(c:Nat):Nat:=if c=237 then 159 else if c=244 then 143 else 191
def ql1(s:Str) (i lo hi:Nat):Bool:=decide (i < s.length) && (decide (lo<=cN s i) && decide (cN s i<=hi))
def qkv(s:Str):Nat->Nat->Nat->Nat->Nat × Bool
 |0,i,_,_=>(i,true)
 |k+1,i,lo,hi=>if ql1 s i lo hi=true then qkv s k (i+1) 128 191 else (i,false)
def qej(s:Str):Nat × Bool:=if cN s 0 < 128 then (1,true) else if qdi (cN s 0)=0 then (1,false) else qkv s (qdi (cN s 0)) 1 (loN (cN s 0)) (hiN (cN s 0))
def oneA(x:Nat × Bool):AV:=.tup [.int .i64 (x.1:Int),.bool x.2]
theorem qk9{s:Str} {i:Nat} (h:i < s.length):s[i].toNat=cN s i:=by simp[cN,List.getD_eq_getElem?_getD,List.getElem?_eq_getElem h]
theorem qth(c:Nat):qdi c<=3:=by unfold qdi;split<;>(try split)<;>(try split)<;>(try split)<;>omega
set_option maxHeartbeats 1000000
theorem c97{T:List (Entry PG)} (s:Str) (hne:0 < s.length) (hl:s.length<=1000000):CA T 97 [aB s] zH (oneA (qej s)) zH:=by
 have h0:=atB (s:=s) (i:=0) hne;rw[qk9 hne]at h0;simp only[Int.ofNat_zero,Int.cast_ofNat_Int,Int.natCast_zero]at h0;have hb:=(s[0]'hne).toNat_lt;rw[qk9 hne]at hb;obtain⟨R,hRe⟩ : ∃R,R=qej s:=⟨_,rfl⟩;rw[<- hRe];rw[show qej s=if cN s 0 < 128 then (1,true) else if qdi (cN s 0)=0 then (1,false) else qkv s (qdi (cN s 0)) 1 (loN (cN s 0)) (hiN (cN s 0)) from rfl]at hRe;obtain⟨c,hc⟩ : ∃c,c=cN s 0:=⟨_,rfl⟩;rw[<- hc]at hRe h0 hb;clear hc;have h3:=qth c;refine qa0 (s0:=⟨[0,2,3,4,5,6,7,8],[aB s,uD,uD,uD,uD,uD,uD,uD],[],70,⟨0,[[]]⟩⟩) Tryz.func97 rfl rfl rfl ?_;apply ra;simp[zS];apply ra;simp[zS,h0];by_cases hlt:c < 128
 ·have hltI:(c:Int) < 128:=by omega
  apply ra;simp[zS,hlt,hltI];apply qai rfl;apply ra;simp[zS];apply qa5;simp[zQ,Tryz.f97];exact qa2 rfl (by rw[hRe,if_pos hlt];simp[oneA])
 rw[if_neg hlt]at hRe;have hltI:¬ (c:Int) < 128:=by omega
 apply ra;simp[zS,hlt,hltI];apply qag rfl;apply qa4;simp;apply ra;simp[zS];clear h0 hlt hltI;obtain⟨v0,hv0⟩ : ∃x:Int,x=if (194:Int)<=c/\(c:Int)<=223 then 1 else 0:=⟨_,rfl⟩;refine qg0 ((⟨[0,2,3,4,5,6,7,8],[aB s,.int .i64 0,.bool false,.int .u8 (c:Int),.int .i64 v0,.int .u8 128,.int .u8 191,uD],[],70,⟨0,[[]]⟩⟩ : St)) ?_ fun hj=>?_
 rotate_left
 ·by_cases q1:(194:Int)<=c
  ·by_cases q2:(c:Int)<=223
   ·rw[if_pos ⟨q1,q2⟩]at hv0;apply ra;simp[zS,q1,q2];apply qai rfl;apply ra;simp[zS];exact hj _ ⟨[],[],⟨rfl,rfl,rfl,by simp[qax,qas,qab,qa9,aB,hv0],FitH.nothing⟩⟩
   ·rw[if_neg (fun e=>q2 e.2)]at hv0;apply ra;simp[zS,q1,q2];apply qag rfl;apply qa4;simp;exact hj _ ⟨[],[],⟨rfl,rfl,rfl,by simp[qax,qas,qab,qa9,aB,hv0],FitH.nothing⟩⟩
  ·rw[if_neg (fun e=>q1 e.1)]at hv0;apply ra;simp[zS,q1];apply qag rfl;apply qa4;simp;exact hj _ ⟨[],[],⟨rfl,rfl,rfl,by simp[qax,qas,qab,qa9,aB,hv0],FitH.nothing⟩⟩
 obtain⟨v1,hv1⟩ : ∃x:Int,x=if (224:Int)<=c/\(c:Int)<=239 then 2 else v0:=⟨_,rfl⟩;refine qg0 ((⟨[0,2,3,4,5,6,7,8],[aB s,.int .i64 0,.bool false,.int .u8 (c:Int),.int .i64 v1,.int .u8 128,.int .u8 191,uD],[],70,⟨0,[[]]⟩⟩ : St)) ?_ fun hj=>?_
 rotate_left
 ·by_cases q1:(224:Int)<=c
  ·by_cases q2:(c:Int)<=239
   ·rw[if_pos ⟨q1,q2⟩]at hv1;apply ra;simp[zS,q1,q2];apply qai rfl;apply ra;simp[zS];exact hj _ ⟨[],[],⟨rfl,rfl,rfl,by simp[qax,qas,qab,qa9,aB,hv1],FitH.nothing⟩⟩
   ·rw[if_neg (fun e=>q2 e.2)]at hv1;apply ra;simp[zS,q1,q2];apply qag rfl;apply qa4;simp;exact hj _ ⟨[],[],⟨rfl,rfl,rfl,by simp[qax,qas,qab,qa9,aB,hv1],FitH.nothing⟩⟩
  ·rw[if_neg (fun e=>q1 e.1)]at hv1;apply ra;simp[zS,q1];apply qag rfl;apply qa4;simp;exact hj _ ⟨[],[],⟨rfl,rfl,rfl,by simp[qax,qas,qab,qa9,aB,hv1],FitH.nothing⟩⟩
 obtain⟨v2,hv2⟩ : ∃x:Int,x=if (240:Int)<=c/\(c:Int)<=244 then 3 else v1:=⟨_,rfl⟩;refine qg0 ((⟨[0,2,3,4,5,6,7,8],[aB s,.int .i64 0,.bool false,.int .u8 (c:Int),.int .i64 v2,.int .u8 128,.int .u8 191,uD],[],70,⟨0,[[]]⟩⟩ : St)) ?_ fun hj=>?_
 rotate_left
 ·by_cases q1:(240:Int)<=c
  ·by_cases q2:(c:Int)<=244
   ·rw[if_pos ⟨q1,q2⟩]at hv2;apply ra;simp[zS,q1,q2];apply qai rfl;apply ra;simp[zS];exact hj _ ⟨[],[],⟨rfl,rfl,rfl,by simp[qax,qas,qab,qa9,aB,hv2],FitH.nothing⟩⟩
   ·rw[if_neg (fun e=>q2 e.2)]at hv2;apply ra;simp[zS,q1,q2];apply qag rfl;apply qa4;simp;exact hj _ ⟨[],[],⟨rfl,rfl,rfl,by simp[qax,qas,qab,qa9,aB,hv2],FitH.nothing⟩⟩
  ·rw[if_neg (fun e=>q1 e.1)]at hv2;apply ra;simp[zS,q1];apply qag rfl;apply qa4;simp;exact hj _ ⟨[],[],⟨rfl,rfl,rfl,by simp[qax,qas,qab,qa9,aB,hv2],FitH.nothing⟩⟩
 obtain⟨v3,hv3⟩ : ∃x:Int,x=if (c:Int)=224 then 160 else 128:=⟨_,rfl⟩;refine qg0 ((⟨[0,2,3,4,5,6,7,8],[aB s,.int .i64 0,.bool false,.int .u8 (c:Int),.int .i64 v2,.int .u8 v3,.int .u8 191,uD],[],70,⟨0,[[]]⟩⟩ : St)) ?_ fun hj=>?_
 rotate_left
 ·by_cases q1:(c:Int)=224
  ·rw[if_pos q1]at hv3;apply ra;simp[zS,q1];apply qai rfl;apply ra;simp[zS];exact hj _ ⟨[],[],⟨rfl,rfl,rfl,by simp[qax,qas,qab,qa9,aB,hv3,q1],FitH.nothing⟩⟩
  ·rw[if_neg q1]at hv3;apply ra;simp[zS,q1];apply qag rfl;apply qa4;simp;exact hj _ ⟨[],[],⟨rfl,rfl,rfl,by simp[qax,qas,qab,qa9,aB,hv3],FitH.nothing⟩⟩
 obtain⟨v4,hv4⟩ : ∃x:Int,x=if (c:Int)=237 then 159 else 191:=⟨_,rfl⟩;refine qg0 ((⟨[0,2,3,4,5,6,7,8],[aB s,.int .i64 0,.bool false,.int .u8 (c:Int),.int .i64 v2,.int .u8 v3,.int .u8 v4,uD],[],70,⟨0,[[]]⟩⟩ : St)) ?_ fun hj=>?_
 rotate_left
 ·by_cases q1:(c:Int)=237
  ·rw[if_pos q1]at hv4;apply ra;simp[zS,q1];apply qai rfl;apply ra;simp[zS];exact hj _ ⟨[],[],⟨rfl,rfl,rfl,by simp[qax,qas,qab,qa9,aB,hv4,q1],FitH.nothing⟩⟩
  ·rw[if_neg q1]at hv4;apply ra;simp[zS,q1];apply qag rfl;apply qa4;simp;exact hj _ ⟨[],[],⟨rfl,rfl,rfl,by simp[qax,qas,qab,qa9,aB,hv4],FitH.nothing⟩⟩
 obtain⟨v5,hv5⟩ : ∃x:Int,x=if (c:Int)=240 then 144 else v3:=⟨_,rfl⟩;refine qg0 ((⟨[0,2,3,4,5,6,7,8],[aB s,.int .i64 0,.bool false,.int .u8 (c:Int),.int .i64 v2,.int .u8 v5,.int .u8 v4,uD],[],70,⟨0,[[]]⟩⟩ : St)) ?_ fun hj=>?_
 rotate_left
 ·by_cases q1:(c:Int)=240
  ·rw[if_pos q1]at hv5;apply ra;simp[zS,q1];apply qai rfl;apply ra;simp[zS];exact hj _ ⟨[],[],⟨rfl,rfl,rfl,by simp[qax,qas,qab,qa9,aB,hv5,q1],FitH.nothing⟩⟩
  ·rw[if_neg q1]at hv5;apply ra;simp[zS,q1];apply qag rfl;apply qa4;simp;exact hj _ ⟨[],[],⟨rfl,rfl,rfl,by simp[qax,qas,qab,qa9,aB,hv5],FitH.nothing⟩⟩
 obtain⟨v6,hv6⟩ : ∃x:Int,x=if (c:Int)=244 then 143 else v4:=⟨_,rfl⟩;refine qg0 ((⟨[0,2,3,4,5,6,7,8],[aB s,.int .i64 0,.bool false,.int .u8 (c:Int),.int .i64 v2,.int .u8 v5,.int .u8 v6,uD],[],70,⟨0,[[]]⟩⟩ : St)) ?_ fun hj=>?_
 rotate_left
 ·by_cases q1:(c:Int)=244
  ·rw[if_pos q1]at hv6;apply ra;simp[zS,q1];apply qai rfl;apply ra;simp[zS];exact hj _ ⟨[],[],⟨rfl,rfl,rfl,by simp[qax,qas,qab,qa9,aB,hv6,q1],FitH.nothing⟩⟩
  ·rw[if_neg q1]at hv6;apply ra;simp[zS,q1];apply qag rfl;apply qa4;simp;exact hj _ ⟨[],[],⟨rfl,rfl,rfl,by simp[qax,qas,qab,qa9,aB,hv6],FitH.nothing⟩⟩
 have hm:v2=(qdi c:Nat):=by rw[hv2,hv1,hv0];unfold qdi;(repeat' split)<;>omega
 have hlo:v5=(loN c:Nat):=by rw[hv5,hv3];unfold loN;(repeat' split)<;>omega
 have hhi:v6=(hiN c:Nat):=by rw[hv6,hv4];unfold hiN;(repeat' split)<;>omega
 rw[hm,hlo,hhi];clear hv0 hv1 hv2 hv3 hv4 hv5 hv6 hm hlo hhi;by_cases hz:qdi c=0
 ·have hzI:(qdi c:Int)=0:=by omega
  apply ra;simp[zS,hz,hzI];apply qai rfl;apply ra;simp[zS];apply qa5;simp[zQ,Tryz.f97];exact qa2 rfl (by rw[hRe,if_pos hz];simp[oneA])
 rw[if_neg hz]at hRe;have hzI:¬ (qdi c:Int)=0:=by omega
 apply ra;simp[zS,hz,hzI];apply qag rfl;apply qa4;simp;apply ra;simp[zS];refine qa7 (qb1 (fun x:Nat × Nat × Nat × Nat=>(⟨[0,2,3,4,5,6,7,8],[aB s,.int .i64 0,.bool false,.int .u8 (c:Int),.int .i64 (qdi c:Nat),.int .u8 (x.2.2.1:Nat),.int .u8 (x.2.2.2:Nat),.int .i64 (x.2.1:Nat)],[],70,⟨0,[[]]⟩⟩ : St))
  (fun x=>x.2.1+x.1=qdi c+1/\1<=x.2.1/\qkv s x.1 x.2.1 x.2.2.1 x.2.2.2=R) (fun x=>x.1) [] [] (qdi c,1,loN c,hiN c) ⟨by simp only;omega,Nat.le_refl _,hRe.symm⟩ ⟨rfl,rfl,rfl,by simp[qax,qas,qab,qa9,aB],FitH.nothing⟩ ?_)
 rintro⟨k,i,lo,hi⟩ ⟨hk,hi1,hg⟩ B hB;simp only at hk hi1 hg hB;clear hRe;cases k with
 |zero=>
  have hx:¬ (i:Int)<=(qdi c:Int):=by omega
  apply ra;simp[zS,hx];refine qag (by simp[qbp,St.get,hx]) ?_;apply qar;simp;have ha:=qbb (show qdi c<=1000000000 by omega);apply ra;simp[zS,ha];apply qa5;simp[zQ,Tryz.f97];exact qa2 rfl (by rw[<- hg,show i=qdi c+1 by omega];simp[oneA,qkv])
 |succ k=>
  have hx:(i:Int)<=(qdi c:Int):=by omega
  apply ra;simp[zS,hx];refine qai (by simp[qbp,St.get,hx]) ?_;apply qa4;simp;repeat apply wq
  apply qa7;have fail:ql1 s i lo hi=false->R=(i,false):=fun h=>by rw[<- hg];simp[qkv,h]
  by_cases q1:i < s.length
  ·have p1:¬ (s.length:Int)<=(i:Int):=(by omega);have p1':¬ s.length<=i:=(by omega);have ha:=atB (s:=s) q1;rw[qk9 q1]at ha;by_cases q2:(cN s i:Int) < (lo:Int)
   ·have q2':cN s i < lo:=(by omega);apply ra;simp[zS,qre,p1,p1',ha,q2,q2'];apply qai rfl;apply ra;simp[zS];apply qa5;simp[zQ,Tryz.f97];exact qa2 rfl (by rw[fail (by simp[ql1,q1];omega)];simp[oneA])
   ·have q2':¬ cN s i < lo:=(by omega);by_cases q3:(hi:Int) < (cN s i:Int)
    ·have q3':hi < cN s i:=(by omega);apply ra;simp[zS,qre,p1,p1',ha,q2,q3,q2',q3'];apply qai rfl;apply ra;simp[zS];apply qa5;simp[zQ,Tryz.f97];exact qa2 rfl (by rw[fail (by simp[ql1,q1];omega)];simp[oneA])
    ·have q3':¬ hi < cN s i:=(by omega);apply ra;simp[zS,qre,p1,p1',ha,q2,q3,q2',q3'];apply qag rfl;apply qa4;simp;apply ra;simp[zS];apply ra;simp[zS,qbb (show i<=1000000000 by omega)];have hcn:ql1 s i lo hi=true:=(by simp[ql1,q1];omega);refine hB _ (k,i+1,128,191) (by simp only;omega) ⟨by simp only;omega,by simp only;omega,by simp only;rw[<- hg];simp[qkv,hcn]⟩ ⟨[],[],⟨rfl,rfl,rfl,by simp[qax,qas,qab,qa9,aB],FitH.nothing⟩⟩
  ·have p1:(s.length:Int)<=(i:Int):=(by omega);have p1':s.length<=i:=(by omega);apply ra;simp[zS,qre,p1,p1'];apply qai rfl;apply ra;simp[zS];apply qa5;simp[zQ,Tryz.f97];exact qa2 rfl (by rw[fail (by simp[ql1];omega)];simp[oneA])
def e97:Entry PG:=mkE 97 [[1]] (fun x:Str=>[aB x]) (fun x=>0 < x.length/\x.length<=1000000) (fun x=>oneA (qej x)) fun x h=>c97 (T:=[]) x h.1 h.2
theorem k97{T:List (Entry PG)} (hT:qIn 97 T e97) {s:Str} (h1:0 < s.length) (h2:s.length<=1000000) (H:Heap):qb6 (ctx T) (.fn 97) [aB s] H=some (oneA (qej s),H):=
 qac hT qw1 s ⟨h1,h2⟩ rfl (by simp[aB])
