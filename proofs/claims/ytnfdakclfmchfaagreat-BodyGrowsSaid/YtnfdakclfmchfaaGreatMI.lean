/- tree.Cut in general. No condition. -/
import Derived.Test.YtnfdakclfmchfaaGreatMH
import Derived.Shelf.Spec.SlicesInsertGrow
namespace Go.Proofs.YtnfdakclfmchfaaGreat
set_option linter.unusedSimpArgs false
set_option linter.unusedVariables false
open Go Go.RowKit
noncomputable section
set_option maxRecDepth 100000
variable {T:List (Entry Tryz.prog)}
mutual
theorem qg1:∀(n:Nat) (v:AV),qa2 v=true->refs n v=[]
 |0,_,_=>rfl
 |n+1,v,h=>by
  cases v with
  |func fn a c=>simp only[qa2,Bool.and_eq_true]at h;simp only[refs,qdu n a h.1,qdu n c h.2,List.append_nil]
  |iface t v=>simp only[qa2]at h;simp only[refs,qg1 n v h]
  |agg cs=>simp only[qa2]at h;simp only[refs,qdu n cs h]
  |tup cs=>simp only[qa2]at h;simp only[refs,qdu n cs h]
  |_=>first|rfl|(simp[qa2]at h)
theorem qdu:∀(n:Nat) (l:List AV),qa3 l=true->l.flatMap (refs n)=[]
 |_,[],_=>rfl
 |n,v::r,h=>by simp only[qa3,Bool.and_eq_true]at h;rw[List.flatMap_cons,qg1 n v h.1,qdu n r h.2];rfl
end
def VE(pb:Nat) (pre:List AV) (k sz:Nat) (es:List AV) (post:List AV) (g:List (Nat × Blk)):List (Nat × Blk):=(pb,.cells (pre++qcv k sz es::post))::(qd6 k es++g)
structure Eok (m pb:Nat) (pre:List AV) (k sz:Nat) (es:List AV) (post:List AV) (g:List (Nat × Blk)):Prop where
 lp:pb < m
 lk:k < m/\k ∉ pb::g.map (·.1)
 lg:∀e,e∈g->e.1 < m
 nd:(pb::g.map (·.1)).Nodup
 sg:∀e,e∈g->SelfB m e.2
 sp:∀σ,Idl m σ->qax σ [] pre pre
 sq:∀σ,Idl m σ->qax σ [] post post
 el:Elems sz es
section
variable {m n pb k sz:Nat} {pre post es:List AV} {g f:List (Nat × Blk)}
theorem VE_p:getF pb (VE pb pre k sz es post g)=some (.cells (pre++qcv k sz es::post)):=by simp[VE,getF]
theorem zbq{b:Nat}:∀{l:List (Nat × Blk)},b ∉ l.map (·.1)->getF b l=none
 |[],_=>rfl
 |e::r,h=>by simp only[List.map_cons,List.mem_cons,not_or]at h;unfold getF;rw[qb4 fun x=>h.1 x.symm];exact zbq h.2
theorem Eok.k_p(h:Eok m pb pre k sz es post g):Nat.beq pb k=false:=qb4 fun e=>h.lk.2 (by simp[e])
theorem VE_k(h:Eok m pb pre k sz es post g) (hne:es≠[]):getF k (VE pb pre k sz es post g)=some (.cells (qa8 es)):=by unfold VE getF;rw[h.k_p,qe9 hne];simp[getF]
theorem qp4{l:List (Nat × Blk)} (nd:(l.map (·.1)).Nodup) {e:Nat × Blk} (he:e∈l):getF e.1 l=some e.2:=by
 have:=qj6 (fs:=[l]) (b:=e.1) (k:=e.2) (by simpa using nd) (by simpa using he);simp only[getFs]at this;revert this;cases getF e.1 l with
 |none=>intro h;cases h
 |some x=>intro h;exact h
theorem drop_E(h:Eok m pb pre k sz es post g) (hf:∀i,i < m->getF i f=none):Heap.drop ⟨n,[f,VE pb pre k sz es post g]⟩ k=⟨n,[f,(pb,.cells (pre++qcv k sz es::post))::g]⟩:=by
 have h1:getF k f=none:=hf k h.lk.1;have h2:=h.lk.2;simp only[List.mem_cons,not_or]at h2;unfold Heap.drop;simp only;unfold qeo;rw[h1];simp only;unfold qeo;unfold VE getF;rw[h.k_p];cases es with
 |nil=>simp only[qd6,List.nil_append];rw[zbq h2.2];simp[qeo]
 |cons y r=>rw[qe9 (by simp)];simp[getF,killF,h.k_p]
theorem app_E{P:Program} {elem:TypeId} {by_:Nat} {z:AV} (hsz:qc1 P elem=some sz) (hby:qce P elem=some by_) (hz:qbq P elem=some z) (hzl:z.cells.length=sz) (hb0:by_≠0) (h:Eok m pb pre k sz es post g) {t:Nat} {e:AV} (hel:e.cells.length=sz) (hsg:allSingle e.cells=true)
  (hf:∀i,i < m->getF i f=none) (ht:getF t f=some (.cells e.cells)) (hl:(es.length+1) * by_<=17592186044416) (hrow:∀cs,qpi P elem cs=.cells cs) :
  qby P ⟨n,[f,VE pb pre k sz es post g]⟩ elem (qcv k sz es) (.slc t 0 1 (.ex 1)) =
   some (.slc n 0 (es.length+1) (.rest sz),⟨n+1,[(n,.cells (qa8 (es++[e])))::f,(pb,.cells (pre++qcv k sz es::post))::g]⟩):=by
 have hd:=drop_E (n:=n) h hf;have hsub:qf1 0 (1 * sz) e.cells=some e.cells:=by have:=qfd e.cells;rw[hel]at this;rw[Nat.one_mul];unfold qf1;rw[List.drop_zero];exact this
 have:=qlp (P:=P) (H:=⟨n,[f,VE pb pre k sz es post g]⟩) (elem:=elem) (b:=k) (n:=0) (es:=es) (x:=.slc t 0 1 (.ex 1)) (cs:=e.cells) hsz hby hz hzl h.el.sz0 hb0 rfl
  (by simp[qb3,readCells,Heap.get,getFs,ht,hsub];simpa using hsub) (by simpa using hel) hsg h.el (by simpa using hl)
  (fun hne=>by simp only[Heap.get,getFs];rw[hf k h.lk.1,VE_k h hne])
  (fun he=>by subst he;rw[hd];rfl) hrow
 rw[hd]at this;have e1:qa8 (es++[e])=qa8 es++e.cells:=by rw[qbk];simp[qa8]
 rw[e1];simpa[Heap.new,pushF]using this
theorem prom_E(hp:pb < m) {c:Nat} {row vrow:List AV} (hc:m<=c) (hf:∀i,i < m->getF i f=none) (hr:qa3 row=true) :
  qdd pb [c] [] [(c,.cells row)::f,(pb,.cells vrow)::g]=[f,(c,.cells row)::(pb,.cells vrow)::g]:=by
 have hcp:Nat.beq c pb=false:=qb4 (by omega);have g1:getF pb f=none:=hf pb hp;have r1:qht 100000 [c] ((c,.cells row)::f) []=([(c,.cells row)],f):=by have hk:qy2 (.cells row)=[]:=qdu 4 _ hr;show qht (Nat.succ (Nat.succ 99998)) [c] ((c,.cells row)::f) []=_;unfold qht;simp only[getF,Nat.beq_refl,hk,List.nil_append,killF];unfold qht;rfl
 have e1:refsF [((c,.cells row):Nat × Blk)]++[c]=[c]:=by have hk:qy2 (.cells row)=[]:=qdu 4 _ hr;simp[refsF,hk]
 have n1:getF pb ((c,Blk.cells row)::f)=none:=by simp[getF,hcp,g1]
 unfold qdd;rw[n1];simp only[r1,e1];unfold qdd;simp[getF]
theorem fit_E{c:Nat} {H:Heap} {es' cs0:List AV} (h:Eok m pb pre k sz es post g) (hc:m<=c) (hne:es'≠[]) (hcs:∀σ,qax σ [] cs0 (qa8 es')) (hp:H.get pb=some (.cells (pre++.slc c 0 es'.length (.rest sz)::post))) (hk:H.get c=some (.cells cs0))
  (hg:∀e,e∈g->H.get e.1=some e.2):FitH m ((c,m)::idn m) [] H ⟨m+1,[VE pb pre m sz es' post g]⟩:=by
 have idl:=idl_cons (m:=m) (k:=c) (k':=m) hc;have nd:=h.nd;rw[List.nodup_cons]at nd;refine⟨?_,?_,?_,?_,?_,by show m<=m+1;omega,?_,fun x h=>by cases h⟩
 ·simp only[List.map_nil,List.append_nil,List.map_cons,List.nodup_cons];refine⟨?_,qt8 m⟩;simp[idn];omega
 ·simp only[List.map_cons,List.nodup_cons];refine⟨?_,qr1 m⟩;simp[idn]
 ·simp only[Heap.ents,List.flatten_cons,List.flatten_nil,List.append_nil,VE,qe9 hne,List.map_cons,List.map_append,List.map_nil,List.cons_append,List.nil_append,List.nodup_cons,List.mem_cons,not_or];refine⟨⟨by have:=h.lp;omega,nd.1⟩,?_,nd.2⟩;intro hx;obtain⟨e,he,hx⟩:=List.mem_map.1 hx;have:=h.lg e he;omega
 ·intro x hx;rcases List.mem_cons.1 hx with rfl|hx
  ·exact Nat.lt_succ_self m
  ·obtain⟨i,hi,rfl⟩:=List.mem_map.1 hx;have:i < m:=(by simpa using hi);show i < m+1;omega
 ·intro x hx hlt;rcases List.mem_cons.1 hx with rfl|hx
  ·simp at hlt
  ·obtain⟨i,hi,rfl⟩:=List.mem_map.1 hx;rfl
 ·intro e he;simp only[Heap.ents,List.flatten_cons,List.flatten_nil,List.append_nil,VE,qe9 hne,List.cons_append,List.nil_append,List.mem_cons]at he;rcases he with rfl|rfl|he
  ·refine⟨pb,_,List.mem_cons_of_mem _ (qho h.lp),hp,?_⟩;show qax _ _ _ _;rw[qcm hne];refine qj8 (h.sp _ idl) ?_;simp only[qax];exact⟨by simp[qap,qav],h.sq _ idl⟩
  ·exact⟨c,_,List.mem_cons_self,hk,hcs _⟩
  ·exact⟨e.1,e.2,List.mem_cons_of_mem _ (qho (h.lg e he)),hg e he,h.sg e he _ idl⟩
theorem Eok.next(h:Eok m pb pre k sz es post g) {es':List AV} (he:Elems sz es'):Eok (m+1) pb pre m sz es' post g where
 lp:=by have:=h.lp;omega
 lk:=⟨Nat.lt_succ_self m,fun hx=>by
  rcases List.mem_cons.1 hx with hx|hx
  ·have:=h.lp;omega
  ·obtain⟨e,he,hx⟩:=List.mem_map.1 hx;have:=h.lg e he;omega⟩
 lg:=fun e he=>by have:=h.lg e he;omega
 nd:=h.nd
 sg:=fun e he=>(h.sg e he).mono (Nat.le_succ m)
 sp:=fun σ hσ=>h.sp σ fun i hi=>hσ i (by omega)
 sq:=fun σ hσ=>h.sq σ fun i hi=>hσ i (by omega)
 el:=he
theorem Eok.mono(h:Eok m pb pre k sz es post g) {m':Nat} (hm:m<=m') {es':List AV} (he:Elems sz es'):Eok m' pb pre k sz es' post g where
 lp:=Nat.lt_of_lt_of_le h.lp hm
 lk:=⟨Nat.lt_of_lt_of_le h.lk.1 hm,h.lk.2⟩
 lg:=fun e he=>Nat.lt_of_lt_of_le (h.lg e he) hm
 nd:=h.nd
 sg:=fun e he=>(h.sg e he).mono hm
 sp:=fun σ hσ=>h.sp σ fun i hi=>hσ i (by omega)
 sq:=fun σ hσ=>h.sq σ fun i hi=>hσ i (by omega)
 el:=he
end
@[simp]theorem szT63:qc1 PG 63=some 1:=rfl
@[simp]theorem agT63:qgc PG 63=some false:=rfl
@[simp]theorem byT63:qce PG 63=some 8:=rfl
@[simp]theorem alT63(H:Heap):alV PG H 63=some (.ptr H.n 0,H.new (.cells [.nilP])):=rfl
@[simp]theorem zeT63:qbq PG 63=some (.nilP):=rfl
attribute [simp] Tryz.underlying63
@[simp 500]theorem rvF63(H:Heap) (cs:List AV) (o:Nat):qaq PG H 63 (.fptr cs o)=qca cs o:=rfl
@[simp 500]theorem rvP63(H:Heap) (b o:Nat):qaq PG H 63 (.ptr b o)=(H.get b).bind fun k=>k.rd.bind fun cs=>qca cs o:=rfl
@[simp]theorem szT109:qc1 PG 109=some 1:=rfl
@[simp]theorem agT109:qgc PG 109=some false:=rfl
@[simp]theorem byT109:qce PG 109=some 8:=rfl
@[simp]theorem alT109(H:Heap):alV PG H 109=some (.ptr H.n 0,H.new (.cells [.nilP])):=rfl
@[simp]theorem zeT109:qbq PG 109=some (.nilP):=rfl
attribute [simp] Tryz.underlying109
@[simp 500]theorem rvF109(H:Heap) (cs:List AV) (o:Nat):qaq PG H 109 (.fptr cs o)=qca cs o:=rfl
@[simp 500]theorem rvP109(H:Heap) (b o:Nat):qaq PG H 109 (.ptr b o)=(H.get b).bind fun k=>k.rd.bind fun cs=>qca cs o:=rfl
theorem qdp(L:List At1):Elems 2 (L.map qb0):=.map (sz:=2) (f:=qb0) (by decide) (fun x=>⟨rfl,by simp[qb0,AV.cells,qa3,qa2],fun h=>absurd h (by decide),fun _=>⟨_,rfl⟩⟩) L
theorem qbw(L:List Nd):Elems 7 (L.map qag):=.map (sz:=7) (f:=qag) (by decide) (fun x=>⟨rfl,by simp[qag,Nd.cs,AV.cells,qa3,qa2,qau,qaf],fun h=>absurd h (by decide),fun _=>⟨_,rfl⟩⟩) L
theorem qju:∀(L:List At1),allSingle (qa8 (L.map qb0))=true
 |[]=>rfl
 |a::r=>by simp only[List.map_cons,qa8,qeh,qju r];rfl
theorem c87(L:List At1) (hl:L.length<=1000000):CallAt (ctx T) 87 [qaf L] zH (qaf L) zH:=by
 have happ:=qro (P:=PG) (elem:=105) (b:=0) (m:=1) (es:=L.map qb0) (g:=[]) (fs:=[]) qzp zcm qzc rfl (by omega) (by omega) (qdp _) (qju _) (by simp;omega);cases L with
 |nil=>
  refine qa0 (s0:=⟨[0,2],[.fslc 2 [],uD],[],8,⟨0,[[]]⟩⟩) Tryz.func87 rfl rfl rfl ?_;apply qR;simp[zS];refine qnd (pre:=[]) ?_ ?_
  ·apply qR;simp[zS];apply qah rfl;apply qR;simp[zS];apply qa7;simp[zQ,Tryz.f87];exact⟨[],[],by simp[qap,qaf],FitH.empty⟩
  ·apply qR;simp[zS];apply qai rfl;apply qa6;simp;have happ:qby PG ⟨1,[[(0,.cells [])]]⟩ 105 (.slc 0 0 0 (.ex 0)) .eslc=some (.slc 0 0 0 (.ex 0),⟨1,[[(0,.cells [])]]⟩):=rfl;apply qR;simp[zS,happ];apply qa7;simp[zQ,Tryz.f87];exact qha (es:=[]) (len:=0) (qdp []) (by simp[zG,qa8]) (by simp) (by simp)
 |cons x r=>
  have e1:litV 0 1 2 ((x::r).map qb0)=.slc 1 0 (r.length+1) (.rest 2):=by simp[litV]
  have e2:qhu ⟨1,[[(0,.cells [])]]⟩ ((x::r).map qb0)=⟨2,[[(1,.cells (qa8 ((x::r).map qb0))),(0,.cells [])]]⟩:=rfl;rw[e1,e2]at happ;refine qa0 (s0:=⟨[0,2],[qaf (x::r),uD],[],8,⟨0,[[]]⟩⟩) Tryz.func87 rfl rfl rfl ?_;apply qR;simp[zS,qaf];apply qR;simp[zS,qaf];apply qai rfl;apply qa6;simp;simp only[List.map_cons]at happ;apply qR;simp[zS,happ];apply qa7;simp[zQ,Tryz.f87];exact qha (es:=(x::r).map qb0) (len:=r.length+1) (qdp _) (by simp[zG]) (by simp) (by rw[List.take_of_length_le (by simp)];rfl)
def e87:Entry PG:=mkE 87 [[2]] (fun L:List At1=>[qaf L]) (fun L=>L.length<=1000000) (fun L=>qaf L) fun L hl=>c87 (T:=[]) L hl
theorem k87(hT:qa9 87 T=some e87.g) {L:List At1} (hl:L.length<=1000000) (H:Heap):qat (ctx T) (.fn 87) [qaf L] H=some (qaf L,H):=
 qee hT (fun x y h=>by simp only[List.cons.injEq]at h;exact qdv h.1) L hl (by simp[qa3]) (by simp[qaj]) H
def fresh(nd:Nd):Nd:={ nd with up:=-1,kids:=[] }
def qqm(nd:Nd):AV:=.agg [qau nd.kind,qau nd.space,.str nd.name,qaf nd.attrs,.str nd.data,qau (-1),.nilS]
theorem c25(hC:qa9 87 T=some e87.g) {m pb k:Nat} {pre post:List AV} {L:List Nd} {g:List (Nat × Blk)} (h:Eok m pb pre k 7 (L.map qag) post g) (hl:L.length+1<=1000000) (nd:Nd) (ha:nd.attrs.length<=1000000) :
  CallAt (ctx T) 25 [.ptr pb pre.length,qag nd] ⟨m,[VE pb pre k 7 (L.map qag) post g]⟩ (.int .i64 (L.length:Int)) ⟨m+1,[VE pb pre m 7 ((L++[fresh nd]).map qag) post g]⟩:=by
 have kc:=fun H=>k87 hC ha H;have lp:=h.lp;have hgv:∀n f,(∀i,i < m->getF i f=none)->Heap.get ⟨n,[f,VE pb pre k 7 (L.map qag) post g]⟩ pb=some (.cells (pre++qcv k 7 (L.map qag)::post)):=fun n f hf=>by simp only[Heap.get,getFs];rw[hf pb lp,VE_p]
 have fl1:∀cs:List AV,∀i,i < m->getF i [(m,.cells cs)]=none:=fun cs i hi=>by unfold getF;rw[qb4 (show m≠i by omega)];rfl
 have fl2:∀(j:Nat) (ds cs:List AV),∀i,i < m->getF i [(m+j,.cells ds),(m,.cells cs)]=none:=fun j ds cs i hi=>by unfold getF;rw[qb4 (show m+j≠i by omega)];exact fl1 cs i hi
 have gx:qca (pre++qcv k 7 (L.map qag)::post) pre.length=some (qcv k 7 (L.map qag)):=by rw[qe2 (by simp),List.getElem_append_right (by omega)];simp
 have hes:Elems 7 (L.map qag++[qqm nd]):=by exact(qbw L).append ⟨by omega,fun v hv=>by simp only[List.mem_singleton]at hv;subst hv;exact⟨rfl,by simp[qqm,AV.cells,qau,qaf,qa3,qa2],fun h=>by omega,fun _=>⟨_,rfl⟩⟩⟩
 have rd2:∀n,qaq PG ⟨n,[[(m,.cells nd.cs)],VE pb pre k 7 (L.map qag) post g]⟩ 35 (.ptr pb pre.length)=some (qcv k 7 (L.map qag)):=fun n=>by simp[hgv n _ (fl1 _),gx]
 have hf2:=fl2 (1+17) (qqm nd).cells nd.cs;rw[<- Nat.add_assoc]at hf2;obtain⟨f,hfd⟩ : ∃f,f=[(m+1+17,Blk.cells (qqm nd).cells),(m,.cells nd.cs)]:=⟨_,rfl⟩;rw[<- hfd]at hf2;have happ:=app_E (P:=PG) (elem:=65) (n:=m+1+22) (f:=f) szT65 byT65 zeT65 rfl (by omega) h (t:=m+1+17) (e:=qqm nd) rfl rfl hf2 (by rw[hfd];simp[getF]) (by simp;omega) (fun _=>rfl);have pr:=prom_E (f:=f) (g:=g) (c:=m+1+22) (row:=qa8 (L.map qag++[qqm nd])) (vrow:=pre++qcv k 7 (L.map qag)::post) lp (by omega) hf2 hes.pure;have hly:qjh [.slc (m+1+22) 0 (L.length+1) (.rest 7)] pre.length (pre++qcv k 7 (L.map qag)::post)=some (pre++.slc (m+1+22) 0 (L.length+1) (.rest 7)::post):=by have:=qef (a:=pre) (b:=[qcv k 7 (L.map qag)]) (b':=[.slc (m+1+22) 0 (L.length+1) (.rest 7)]) (c:=post) rfl;simpa using this
 obtain⟨R,hR⟩ : ∃R,R=qa8 (L.map qag++[qqm nd]):=⟨_,rfl⟩;rw[<- hR]at happ pr;simp only[List.length_map]at happ;have q1:Nat.beq (m+1+22) pb=false:=qb4 (by omega);have q2:Nat.beq (m+1+17) pb=false:=qb4 (by omega);have q3:Nat.beq m pb=false:=qb4 (by omega);have c0:qca nd.cs 0=some (.int .i64 nd.kind):=rfl;have c1:qca nd.cs 1=some (.int .i64 nd.space):=rfl;have c2:qca nd.cs 2=some (.str nd.name):=rfl;have c3:qca nd.cs 3=some (qaf nd.attrs):=rfl;have c4:qca nd.cs 4=some (.str nd.data):=rfl;have bld:qdw PG 65 [(0,.int .i64 nd.kind),(1,.int .i64 nd.space),(2,.str nd.name),(3,qaf nd.attrs),(4,.str nd.data),(5,.int .i64 (-1))]=some (.agg [.int .i64 nd.kind,.int .i64 nd.space,.str nd.name,qaf nd.attrs,.str nd.data,.int .i64 (-1),.nilS]):=rfl;refine qa0 (s0:=⟨[0,1,3,4],[.ptr pb pre.length,qag nd,uD,uD],[],32,⟨m,[]::[VE pb pre k 7 (L.map qag) post g]⟩⟩) Tryz.func25 rfl rfl rfl ?_;apply qR;simp[zS];rw[hfd]at happ pr;simp only[qqm,AV.cells,qau]at happ pr;have sg:(qaf nd.attrs).single=true:=rfl;repeat apply wq
 refine qdh mixed qb6 (by decide +kernel) fun B_ hB_=>?_;have hD_:ahead B_ 4 13=false/\ahead B_ 4 18=true/\ahead B_ 4 21=true/\ahead B_ 6 13=false/\ahead B_ 6 18=true/\ahead B_ 6 21=true/\ahead B_ 8 13=false/\ahead B_ 8 18=true/\ahead B_ 8 21=true/\ahead B_ 10 13=false/\ahead B_ 10 18=true/\ahead B_ 10 21=true/\ahead B_ 12 13=true/\ahead B_ 12 18=true/\ahead B_ 12 21=true/\ahead B_ 13 4=false/\ahead B_ 13 6=false/\ahead B_ 13 8=false/\ahead B_ 13 10=false/\ahead B_ 13 12=false/\ahead B_ 13 15=false/\ahead B_ 15 13=false/\ahead B_ 15 18=true/\ahead B_ 15 21=true/\ahead B_ 17 13=false/\ahead B_ 17 18=true/\ahead B_ 17 21=true/\ahead B_ 18 4=false/\ahead B_ 18 6=false/\ahead B_ 18 8=false/\ahead B_ 18 10=false/\ahead B_ 18 12=false/\ahead B_ 18 15=false/\ahead B_ 21 4=false/\ahead B_ 21 6=false/\ahead B_ 21 8=false/\ahead B_ 21 10=false/\ahead B_ 21 12=false/\ahead B_ 21 15=false:=by rw[hB_];decide +kernel
 apply qom B_;simp[zS,qbt,qaz,qb9,qc7,qar,qbg,qb7,Heap.lay,qb8,qok,qoj,qi6,qi4,qhw,qi3,qiy,qid,qg4,qg5,qin,qim,qik,qil,qiq,qir,qip,qio,hD_,rd2,bld,sg,kc,happ,q1,q2,q3,pr,hly,c0,c1,c2,c3,c4];exact rfl;refine⟨_,rfl,?_,?_⟩;simp[zS,qc7,qar,qcp,qcq,qeb,hD_,rd2,bld,sg,kc,happ,q1,q2,q3,pr,hly,c0,c1,c2,c3,c4];try simp[allPend,Heap.lay,qb8,qab]
 have g3:Heap.get ⟨m+1+22+1,[[(m+1+17,.cells [.int .i64 nd.kind,.int .i64 nd.space,.str nd.name,qaf nd.attrs,.str nd.data,.int .i64 (-1),.nilS]),(m,.cells nd.cs)],(m+1+22,.cells R)::(pb,.cells (pre++.slc (m+1+22) 0 (L.length+1) (.rest 7)::post))::g]⟩ pb=some (.cells (pre++.slc (m+1+22) 0 (L.length+1) (.rest 7)::post)):=by simp[zG,q1,q2,q3]
 have gx3:qca (pre++.slc (m+1+22) 0 (L.length+1) (.rest 7)::post) pre.length=some (.slc (m+1+22) 0 (L.length+1) (.rest 7)):=by rw[qe2 (by simp),List.getElem_append_right (by omega)];simp
 have hfit:=fit_E (es':=(L++[fresh nd]).map qag) (c:=m+1+22) (cs0:=R) (H:=⟨m+1+22+1,[[(m+1+17,.cells [.int .i64 nd.kind,.int .i64 nd.space,.str nd.name,qaf nd.attrs,.str nd.data,.int .i64 (-1),.nilS]),(m,.cells nd.cs)],(m+1+22,.cells R)::(pb,.cells (pre++.slc (m+1+22) 0 (L.length+1) (.rest 7)::post))::g]⟩) h (by omega) (by simp)
  (fun σ=>by subst hR;rw[List.map_append,qbk,qbk];refine qj8 (qao (qbw L).pure) ?_;simp[qa8,qqm,qag,fresh,Nd.cs,AV.cells,qax,qap,qau,qa2])
  (by rw[g3];simp)
  (by simp[zG,show Nat.beq (m+1+17) (m+1+22)=false from qb4 (by omega),show Nat.beq m (m+1+22)=false from qb4 (by omega)])
  (fun e he=>by have:=h.lg e he;have nd:=h.nd;rw[List.nodup_cons]at nd;have e1:pb≠e.1:=fun x=>nd.1 (List.mem_map.2 ⟨e,he,x.symm⟩);simp[zG,qb4 (show m+1+22≠e.1 by omega),qb4 (show m+1+17≠e.1 by omega),qb4 (show m≠e.1 by omega),qb4 e1,qp4 nd.2 he])
 have rd3:qaq PG ⟨m+1+22+1,[[(m+1+17,.cells [.int .i64 nd.kind,.int .i64 nd.space,.str nd.name,qaf nd.attrs,.str nd.data,.int .i64 (-1),.nilS]),(m,.cells nd.cs)],(m+1+22,.cells R)::(pb,.cells (pre++.slc (m+1+22) 0 (L.length+1) (.rest 7)::post))::g]⟩ 35 (.ptr pb pre.length)=some (.slc (m+1+22) 0 (L.length+1) (.rest 7)):=by simp[g3,gx3]
 have hsub:wr .i64 (L.length:Int)=some (L.length:Int):=by have:=qqa (q:=L.length) (by omega);simpa using this
 have hlen:∀H,qeq PG H 35 (.slc (m+1+22) 0 (L.length+1) (.rest 7))=some (L.length+1):=fun H=>rfl;apply qR;simp[zS,rd3,hsub,hlen];apply qa7;simp[zQ,Tryz.f25];rw[List.map_append]at hfit;refine⟨_,_,?_,hfit⟩;simp[qap,qa2]
theorem qet{H:Heap} {k:Nat} {t:Tr} (hne:t≠[]) (hk:H.get k=some (.cells (qa8 (t.map qag)))):qcy H [7] (.agg [qcv k 7 (t.map qag)])=some (qba t):=by have el:=qbw t;have e1:=qq9 el (Nat.le_refl _);rw[List.take_of_length_le (Nat.le_refl _)]at e1;have e2:=el.chunk;rw[List.length_map]at e1 e2;rw[qcm (by simp[hne])];simp[qcy,okV,qa3,qa2,qjf,qhd,hk,el.pure,e1,e2,el.size,qba]
def e89:Entry PG:=mkE 89 [[7],[],[]] (fun x:Tr × Int × Int=>[qba x.1,.int .i64 x.2.1,.int .i64 x.2.2]) (fun x=>x.1.length<=1000000) (fun x=>.bool (qif x.1 x.2.1 x.2.2)) fun x h=>c89 (T:=[e88]) rfl x.1 h x.2.1 x.2.2
theorem q89(hT:qa9 89 T=some e89.g) {a:AV} {H:Heap} {t:Tr} (ha:qcy H [7] a=some (qba t)) (ht:t.length<=1000000) (up kid:Int):qat (ctx T) (.fn 89) [a,.int .i64 up,.int .i64 kid] H=some (.bool (qif t up kid),H):=
 qb2 hT injTII (t,up,kid) ht rfl (by simp[ha])
def setUp(t:Tr) (i:Nat) (u:Int):Tr:=t.take i++{ qa1 t i with up:=u }::t.drop (i+1)
theorem qem{t:Tr} {i:Nat} (h:i < t.length):t=t.take i++qa1 t i::t.drop (i+1):=by
 have:qa1 t i=t[i]:=by simp[qa1,h]
 rw[this,List.getElem_cons_drop,List.take_append_drop]
theorem lay_up{t:Tr} {i:Nat} (h:i < t.length) (u:Int):qjh [.int .i64 u] (i * 7+5) (qa8 (t.map qag))=some (qa8 ((setUp t i u).map qag)):=by
 have hl:(qa8 ((t.take i).map qag)).length=i * 7:=by rw[(qbw _).len];simp;omega
 have e1:qa8 (t.map qag)=(qa8 ((t.take i).map qag)++[qau (qa1 t i).kind,qau (qa1 t i).space,.str (qa1 t i).name,qaf (qa1 t i).attrs,.str (qa1 t i).data])++[qau (qa1 t i).up]++(qac (qa1 t i).kids::qa8 ((t.drop (i+1)).map qag)):=by
  conv=>lhs;rw[qem h]
  simp[qbk,qa8,Nd.cs]
 have e2:qa8 ((setUp t i u).map qag)=(qa8 ((t.take i).map qag)++[qau (qa1 t i).kind,qau (qa1 t i).space,.str (qa1 t i).name,qaf (qa1 t i).attrs,.str (qa1 t i).data])++[.int .i64 u]++(qac (qa1 t i).kids::qa8 ((t.drop (i+1)).map qag)):=by simp[setUp,qbk,qa8,Nd.cs,qau]
 rw[e1,e2];have:=qef (a:=qa8 ((t.take i).map qag)++[qau (qa1 t i).kind,qau (qa1 t i).space,.str (qa1 t i).name,qaf (qa1 t i).attrs,.str (qa1 t i).data]) (b:=[qau (qa1 t i).up]) (b':=[.int .i64 u]) (c:=qac (qa1 t i).kids::qa8 ((t.drop (i+1)).map qag)) rfl;rw[List.length_append,hl]at this;exact this
theorem qlm{b:Nat} {k:Blk}:∀{f:List (Nat × Blk)},getF b f=none->setF b k f=none
 |[],_=>rfl
 |x::r,h=>by
  unfold getF at h;unfold setF;cases hx:Nat.beq x.1 b with
  |true=>rw[hx]at h;cases h
  |false=>rw[hx]at h;simp only at h ⊢;rw[qlm h];rfl
theorem qi0{t:Tr} {i:Nat} (h:i < t.length) (u:Int):(setUp t i u).length=t.length:=by simp[setUp];omega
theorem qms{m n pb k:Nat} {pre post:List AV} {g f:List (Nat × Blk)} {t:Tr} (h:Eok m pb pre k 7 (t.map qag) post g) {i:Nat} (hi:i < t.length) (u:Int) (hf:∀j,j < m->getF j f=none) :
  writeVar PG ⟨n,[f,VE pb pre k 7 (t.map qag) post g]⟩ 3 (.ptr k (i * 7+5)) (.int .i64 u)=some ⟨n,[f,VE pb pre k 7 ((setUp t i u).map qag) post g]⟩:=by
 have hne:t.map qag≠[]:=by intro e;have:=congrArg List.length e;simp at this;subst this;simp at hi
 have hne':(setUp t i u).map qag≠[]:=by simp[setUp]
 have hk:getF k f=none:=hf k h.lk.1;have hg:Heap.get ⟨n,[f,VE pb pre k 7 (t.map qag) post g]⟩ k=some (.cells (qa8 (t.map qag))):=by simp only[Heap.get,getFs];rw[hk,VE_k h hne]
 have hs:Heap.set ⟨n,[f,VE pb pre k 7 (t.map qag) post g]⟩ k (.cells (qa8 ((setUp t i u).map qag)))=some ⟨n,[f,VE pb pre k 7 ((setUp t i u).map qag) post g]⟩:=by simp only[Heap.set,setFs];rw[qlm hk];unfold VE;rw[qe9 hne,qe9 hne',qcm hne,qcm hne'];simp[setF,h.k_p,qi0 hi]
 unfold writeVar;simp[AV.cells,allSingle,AV.single,writeCells,hg,Blk.wt,lay_up hi u,Heap.ready,refs,hs,Blk.re]
theorem qev{m n pb k:Nat} {pre post es:List AV} {g f:List (Nat × Blk)} (h:Eok m pb pre k 7 es post g) (hf:∀j,j < m->getF j f=none) :
  qaq PG ⟨n,[f,VE pb pre k 7 es post g]⟩ 37 (.ptr pb pre.length)=some (.agg [qcv k 7 es])/\qaq PG ⟨n,[f,VE pb pre k 7 es post g]⟩ 35 (.ptr pb pre.length)=some (qcv k 7 es):=by
 have hgv:Heap.get ⟨n,[f,VE pb pre k 7 es post g]⟩ pb=some (.cells (pre++qcv k 7 es::post)):=by simp only[Heap.get,getFs];rw[hf pb h.lp,VE_p]
 have gx:qca (pre++qcv k 7 es::post) pre.length=some (qcv k 7 es):=by rw[qe2 (by simp),List.getElem_append_right (by omega)];simp
 have sx:qf1 pre.length 1 (pre++qcv k 7 es::post)=some [qcv k 7 es]:=by simp[qf1,qe8]
 constructor
 ·simp[qaq,hgv,gx,sx,readCells,Blk.rd]
 ·simp[hgv,gx]
theorem qpy(L:List Int):Elems 1 (L.map qau):=.map (sz:=1) (f:=qau) (by decide) (fun x=>⟨rfl,by simp[qau,AV.cells,qa3,qa2],fun _=>rfl,fun h=>absurd rfl h⟩) L
theorem qpe:∀(L:List Int),allSingle (qa8 (L.map qau))=true
 |[]=>rfl
 |a::r=>by simp only[List.map_cons,qa8,qeh,qpe r];rfl
theorem c78(L:List Int) (hl:L.length<=1000000):CallAt (ctx T) 78 [qac L] zH (qcv 0 1 (L.map qau)) ⟨1,[qd6 0 (L.map qau)]⟩:=by
 have happ:=qro (P:=PG) (elem:=3) (b:=0) (m:=1) (es:=L.map qau) (g:=[]) (fs:=[]) qmt qxh qvk rfl (by omega) (by omega) (qpy _) (qpe _) (by simp;omega);cases L with
 |nil=>
  refine qa0 (s0:=⟨[0,2],[.fslc 1 [],uD],[],8,⟨0,[[]]⟩⟩) Tryz.func78 rfl rfl rfl ?_;apply qR;simp[zS];refine qnd (pre:=[]) ?_ ?_
  ·apply qR;simp[zS];apply qah rfl;apply qR;simp[zS];apply qa7;simp[zQ,Tryz.f78];exact qii (.inl rfl)
  ·apply qR;simp[zS];apply qai rfl;apply qa6;simp;have happ:qby PG ⟨1,[[(0,.cells [])]]⟩ 3 (.slc 0 0 0 (.ex 0)) .eslc=some (.slc 0 0 0 (.ex 0),⟨1,[[(0,.cells [])]]⟩):=rfl;apply qR;simp[zS,happ];apply qa7;simp[zQ,Tryz.f78];exact qii (.inr (.inr ⟨_,rfl⟩))
 |cons x r=>
  have e1:litV 0 1 1 ((x::r).map qau)=.slc 1 0 (r.length+1) (.rest 1):=by simp[litV]
  have e2:qhu ⟨1,[[(0,.cells [])]]⟩ ((x::r).map qau)=⟨2,[[(1,.cells (qa8 ((x::r).map qau))),(0,.cells [])]]⟩:=rfl;rw[e1,e2]at happ;refine qa0 (s0:=⟨[0,2],[qac (x::r),uD],[],8,⟨0,[[]]⟩⟩) Tryz.func78 rfl rfl rfl ?_;apply qR;simp[zS,qac];apply qR;simp[zS,qac];apply qai rfl;apply qa6;simp;simp only[List.map_cons]at happ;apply qR;simp[zS,happ];apply qa7;simp[zQ,Tryz.f78];exact qn7 (b:=1) (es:=(x::r).map qau) (qpy _) (by simp) (by simp) (by simp[zG])
def e78:Entry PG:=mkOwn 78 [[1]] (fun L:List Int=>[qac L]) (fun L=>L.length<=1000000) 1 (fun L=>L.map qau) qpy fun L hl=>c78 (T:=[]) L hl
theorem k78(hT:qa9 78 T=some e78.g) {L:List Int} (hl:L.length<=1000000) (H:Heap):qat (ctx T) (.fn 78) [qac L] H=some (qcv H.n 1 (L.map qau),qhu H (L.map qau)):=
 qwi hT (fun x y h=>by simp only[List.cons.injEq]at h;exact qd2 h.1) L hl (by simp[qa3]) (by simp[qaj]) H
@[simp]theorem szT80:qc1 PG 80=some 1:=rfl
@[simp]theorem agT80:qgc PG 80=some false:=rfl
@[simp]theorem byT80:qce PG 80=some 8:=rfl
@[simp]theorem alT80(H:Heap):alV PG H 80=some (.ptr H.n 0,H.new (.cells [.nilF])):=rfl
@[simp]theorem zeT80:qbq PG 80=some (.nilF):=rfl
attribute [simp] Tryz.underlying80
@[simp 500]theorem rvF80(H:Heap) (cs:List AV) (o:Nat):qaq PG H 80 (.fptr cs o)=qca cs o:=rfl
@[simp 500]theorem rvP80(H:Heap) (b o:Nat):qaq PG H 80 (.ptr b o)=(H.get b).bind fun k=>k.rd.bind fun cs=>qca cs o:=rfl
theorem qt6(x y:List Int × Int) (h:[qac x.1,AV.int .i64 x.2]=[qac y.1,AV.int .i64 y.2]):x=y:=by simp only[List.cons.injEq]at h;obtain⟨h1,h2,_⟩:=h;simp only[AV.int.injEq,true_and]at h2;exact Prod.ext (qd2 h1) h2
theorem zca(L:List Int) (hl:L.length<=1000) (hne:L≠[]) (clo:FuncId) (i:Int) (p:Int->Bool) (hp:∀a,CallAt (ctx T) clo [.int .i64 a,.fptr [.int .i64 i] 0] zH (.bool (p a)) zH) :
  CallAt (ctx T) 131 [.slc 1 0 L.length (.rest 1),.func (.func clo) [] [.ptr 0 0]] ⟨2,[[(1,.cells (qbm L)),(0,.cells [.int .i64 i])]]⟩ (qac (L.filter fun a=>!p a)) ⟨2,[[]]⟩:=by
 have h0:=c131 (T:=T) L hl hne clo [.fptr [.int .i64 i] 0] rfl p fun a _=>hp a;have h1:CallAt (ctx T) 131 [.slc 0 0 L.length (.rest 1),.func (.func clo) [] [.fptr [.int .i64 i] 0]] ⟨1,[[(0,.cells (qbm L))]]⟩ (qac (L.filter fun a=>!p a)) ⟨1,[[]]⟩:=by
  generalize L.filter (fun a=>!p a)=K at h0;cases K with
  |nil=>exact h0.post (σ:=[]) (Φ:=[]) (by simp[owX,qap,qa2]) ⟨by simp,by simp,by simp[Heap.ents],by simp,fun x hx=>(by cases hx),by simp,fun e he=>by simp[Heap.ents]at he,fun x hx=>by cases hx⟩
  |cons y s=>
   refine h0.post (σ:=[]) (Φ:=[(0,qbm (y::s))]) ?_ ⟨by simp,by simp,by simp[Heap.ents],by simp,fun x hx=>(by cases hx),by simp,fun e he=>by simp[Heap.ents]at he,fun x hx=>?_⟩
   ·rw[zao (by simp)];simp only[qap];refine .inl ⟨qbm (y::s),by simp[qcn],?_,by simp,(qg6 _).size⟩;have:=qq9 (qg6 (y::s)) (k:=(y::s).length) (by simp[qbm]);rw[List.take_of_length_le (by simp[qbm]),qc8]at this;show _=some (qa8 (qbm (y::s)));rw[qc8];exact this
   ·simp only[List.mem_singleton]at hx;subst hx;exact⟨qbm (y::s),by rw[owB_ne (by simp)];simp[zG],qao (qh1 _),qh1 _⟩
 have h2:CallAt (ctx T) 131 [.slc 1 0 L.length (.rest 1),.func (.func clo) [] [.fptr [.int .i64 i] 0]] ⟨2,[[(1,.cells (qbm L))]]⟩ (qac (L.filter fun a=>!p a)) ⟨2,[[]]⟩:=by
  have:=h1.framed (args:=[.slc 1 0 L.length (.rest 1),.func (.func clo) [] [.fptr [.int .i64 i] 0]]) (H:=⟨2,[[(1,.cells (qbm L))]]⟩) (H':=⟨2,[[]]⟩) (σ:=[(1,0)]) ⟨by simp,by simp,by simp[Heap.ents],by simp,fun x hx h=>absurd h (Nat.not_lt_zero _),by simp,fun e he=>?_,fun x h=>by cases h⟩ (by simp[qax,qap,qav,qa2,qa3]) ⟨by simp,fun _ _=>by simp[Heap.ents],fun e he=>by simp[Heap.ents]at he⟩ (by simp)
  ·rwa [qg0 _ (by simp)]at this
  ·simp only[Heap.ents,List.flatten_cons,List.flatten_nil,List.append_nil,List.mem_singleton]at he;subst he;exact⟨1,_,by simp,rfl,qao (qh1 _)⟩
 refine h2.drop (σ:=[(1,1)]) (Φ:=[(0,[.int .i64 i])]) (fun nd=>⟨by simp,by simp,by simp[Heap.ents],by simp,fun x hx h=>?_,by simp,fun e he=>?_,fun x hx=>?_⟩) ?_
 ·simp at hx;subst hx;rfl
 ·simp only[Heap.ents,List.flatten_cons,List.flatten_nil,List.append_nil,List.mem_singleton]at he;subst he;exact⟨1,_,by simp,rfl,qao (qh1 _)⟩
 ·simp only[List.mem_singleton]at hx;subst hx;exact⟨_,rfl,by simp[qax,qap,qa2],by simp[qa3,qa2]⟩
 ·simp[qax,qap,qav,qcn]
theorem qxb(clo:FuncId) (i:Int) (p:Int->Bool) (hp:∀a,CallAt (ctx T) clo [.int .i64 a,.fptr [.int .i64 i] 0] zH (.bool (p a)) zH) :
  CallAt (ctx T) 131 [.zslc,.func (.func clo) [] [.ptr 0 0]] ⟨1,[[(0,.cells [.int .i64 i])]]⟩ (.fslc 1 []) ⟨1,[[]]⟩:=by
 have h0:=(c1310 (T:=T) clo [.fptr [.int .i64 i] 0] rfl).lift (by simp[qa3,qa2]) ⟨1,[[]]⟩;refine h0.drop (σ:=[]) (Φ:=[(0,[.int .i64 i])]) (fun nd=>⟨by simp,by simp,by simp[Heap.ents],by simp,fun x hx h=>(by cases hx),by simp,fun e he=>by simp[Heap.ents]at he,fun x hx=>?_⟩) ?_
 ·simp only[List.mem_singleton]at hx;subst hx;exact⟨_,rfl,by simp[qax,qap,qa2],by simp[qa3,qa2]⟩
 ·simp[qax,qap,qav,qcn]
def qcj(L:List Int) (i:Int):List Int:=L.filter fun k=>!decide (k=i)
def qd8(L:List Int) (i:Int):List Int:=L.filter fun k=>!(decide (k=i) && decide (0<=i))
theorem c197(k i:Int):CallAt (ctx T) 197 [.int .i64 k,.fptr [.int .i64 i] 0] zH (.bool (decide (k=i))) zH:=by
 by_cases h:k=i
 ·subst h;refine qa0 (s0:=⟨[0,1,3],[.int .i64 k,.fptr [.int .i64 k] 0,uD],[],7,⟨0,[[]]⟩⟩) Tryz.func197 rfl rfl rfl ?_;apply qR;simp[zS];apply qR;simp[zS];apply qa7;simp[zQ,Tryz.f197];exact qak rfl (by simp)
 ·refine qa0 (s0:=⟨[0,1,3],[.int .i64 k,.fptr [.int .i64 i] 0,uD],[],7,⟨0,[[]]⟩⟩) Tryz.func197 rfl rfl rfl ?_;apply qR;simp[zS];apply qR;simp[zS,h];apply qa7;simp[zQ,Tryz.f197];exact qak rfl (by simp[h])
theorem c143(hC:qa9 78 T=some e78.g) (L:List Int) (hl:L.length<=1000) (i:Int):CallAt (ctx T) 143 [qac L,.int .i64 i] zH (qac (qcj L i)) zH:=by
 have kc:=fun H=>k78 hC (L:=L) (by omega) H;cases L with
 |nil=>have kc1:=kc ⟨1,[[(0,.cells [.int .i64 i])]]⟩;simp only[qac,List.map_nil,qhu,qcv]at kc1;have hd:=qxb (T:=T) 197 i (fun k=>decide (k=i)) fun k=>c197 k i;refine qa0 (s0:=⟨[0,1,3,4],[.fslc 1 [],.int .i64 i,uD,uD],[],9,⟨0,[[]]⟩⟩) Tryz.func143 rfl rfl rfl ?_;apply qR;simp[zS];apply qaa;refine qam (qbu [⟨131,_,_,_,_,hd⟩]) ?_;simp[zS,qd9,kc1];apply qa7;simp[zQ,Tryz.f143];exact⟨[],[],by simp[qap,qcj,qa2],FitH.empty⟩
 |cons x r=>
  have kc1:=kc ⟨1,[[(0,.cells [.int .i64 i])]]⟩;have e1:qhu ⟨1,[[(0,.cells [.int .i64 i])]]⟩ ((x::r).map qau)=⟨2,[[(1,.cells (qbm (x::r))),(0,.cells [.int .i64 i])]]⟩:=by have hf:qa8 ((x::r).map qau)=qbm (x::r):=qc8 _;rw[<- hf];rfl
  have e2:∀n,qcv n 1 ((x::r).map qau)=.slc n 0 (x::r).length (.rest 1):=fun n=>by rw[qcm (by simp),List.length_map]
  rw[e1,e2]at kc1;have hd:=zca (T:=T) (x::r) hl (by simp) 197 i (fun k=>decide (k=i)) fun k=>c197 k i;change CallAt _ _ _ _ (qac (qcj (x::r) i)) _ at hd;simp only[List.length_cons]at kc1 hd;generalize qcj (x::r) i=K at *;refine qa0 (s0:=⟨[0,1,3,4],[qac (x::r),.int .i64 i,uD,uD],[],9,⟨0,[[]]⟩⟩) Tryz.func143 rfl rfl rfl ?_;apply qR;simp[zS];apply qaa;refine qam (qbu [⟨131,_,_,_,_,hd⟩]) ?_;simp[zS,qd9,kc1];apply qa7;simp[zQ,Tryz.f143];exact⟨[],[],FitH.empty⟩
def e143:Entry PG:=mkE 143 [[1],[]] (fun x:List Int × Int=>[qac x.1,.int .i64 x.2]) (fun x=>x.1.length<=1000) (fun x=>qac (qcj x.1 x.2)) fun x h=>c143 (T:=[e78]) rfl x.1 h x.2
theorem k143(hT:qa9 143 T=some e143.g) {L:List Int} (hl:L.length<=1000) (i:Int) (H:Heap):qat (ctx T) (.fn 143) [qac L,.int .i64 i] H=some (qac (qcj L i),H):=
 qee hT qt6 (L,i) hl (by simp[qa3,qa2]) (by simp[qbb,qaj,okV,qa2]) H
theorem c132(k i:Int):CallAt (ctx T) 132 [.int .i64 k,.fptr [.int .i64 i] 0] zH (.bool (decide (k=i) && decide (0<=i))) zH:=by
 by_cases h:k=i
 ·subst h;by_cases h0:0<=k
  ·refine qa0 (s0:=⟨[0,1,3],[.int .i64 k,.fptr [.int .i64 k] 0,uD],[],11,⟨0,[[]]⟩⟩) Tryz.func132 rfl rfl rfl ?_;apply qR;simp[zS];apply qR;simp[zS,h0];apply qa7;simp[zQ,Tryz.f132];exact qak rfl (by simp[h0])
  ·refine qa0 (s0:=⟨[0,1,3],[.int .i64 k,.fptr [.int .i64 k] 0,uD],[],11,⟨0,[[]]⟩⟩) Tryz.func132 rfl rfl rfl ?_;apply qR;simp[zS];apply qR;simp[zS,h0];apply qa7;simp[zQ,Tryz.f132];exact qak rfl (by simp[h0])
 ·refine qa0 (s0:=⟨[0,1,3],[.int .i64 k,.fptr [.int .i64 i] 0,uD],[],11,⟨0,[[]]⟩⟩) Tryz.func132 rfl rfl rfl ?_;apply qR;simp[zS];apply qR;simp[zS,h];apply qa7;simp[zQ,Tryz.f132];exact qak rfl (by simp[h])
theorem c48(hC:qa9 78 T=some e78.g) (L:List Int) (hl:L.length<=1000) (i:Int):CallAt (ctx T) 48 [qac L,.int .i64 i] zH (qac (qd8 L i)) zH:=by
 have kc:=fun H=>k78 hC (L:=L) (by omega) H;cases L with
 |nil=>have kc1:=kc ⟨1,[[(0,.cells [.int .i64 i])]]⟩;simp only[qac,List.map_nil,qhu,qcv]at kc1;have hd:=qxb (T:=T) 132 i (fun k=>decide (k=i) && decide (0<=i)) fun k=>c132 k i;refine qa0 (s0:=⟨[0,1,3,4],[.fslc 1 [],.int .i64 i,uD,uD],[],9,⟨0,[[]]⟩⟩) Tryz.func48 rfl rfl rfl ?_;apply qR;simp[zS];apply qaa;refine qam (qbu [⟨131,_,_,_,_,hd⟩]) ?_;simp[zS,qd9,kc1];apply qa7;simp[zQ,Tryz.f48];exact⟨[],[],by simp[qap,qd8,qa2],FitH.empty⟩
 |cons x r=>
  have kc1:=kc ⟨1,[[(0,.cells [.int .i64 i])]]⟩;have e1:qhu ⟨1,[[(0,.cells [.int .i64 i])]]⟩ ((x::r).map qau)=⟨2,[[(1,.cells (qbm (x::r))),(0,.cells [.int .i64 i])]]⟩:=by have hf:qa8 ((x::r).map qau)=qbm (x::r):=qc8 _;rw[<- hf];rfl
  have e2:∀n,qcv n 1 ((x::r).map qau)=.slc n 0 (x::r).length (.rest 1):=fun n=>by rw[qcm (by simp),List.length_map]
  rw[e1,e2]at kc1;have hd:=zca (T:=T) (x::r) hl (by simp) 132 i (fun k=>decide (k=i) && decide (0<=i)) fun k=>c132 k i;change CallAt _ _ _ _ (qac (qd8 (x::r) i)) _ at hd;simp only[List.length_cons]at kc1 hd;generalize qd8 (x::r) i=K at *;refine qa0 (s0:=⟨[0,1,3,4],[qac (x::r),.int .i64 i,uD,uD],[],9,⟨0,[[]]⟩⟩) Tryz.func48 rfl rfl rfl ?_;apply qR;simp[zS];apply qaa;refine qam (qbu [⟨131,_,_,_,_,hd⟩]) ?_;simp[zS,qd9,kc1];apply qa7;simp[zQ,Tryz.f48];exact⟨[],[],FitH.empty⟩
def e48:Entry PG:=mkE 48 [[1],[]] (fun x:List Int × Int=>[qac x.1,.int .i64 x.2]) (fun x=>x.1.length<=1000) (fun x=>qac (qd8 x.1 x.2)) fun x h=>c48 (T:=[e78]) rfl x.1 h x.2
theorem k48(hT:qa9 48 T=some e48.g) {L:List Int} (hl:L.length<=1000) (i:Int) (H:Heap):qat (ctx T) (.fn 48) [qac L,.int .i64 i] H=some (qac (qd8 L i),H):=
 qee hT qt6 (L,i) hl (by simp[qa3,qa2]) (by simp[qbb,qaj,okV,qa2]) H
def qgd(L:List Int):Int:=(L.getLast?).getD (-1)
theorem topI_ne{L:List Int} (h:0 < L.length):qgd L=L[L.length - 1]:=by unfold qgd;rw[List.getLast?_eq_getElem?,List.getElem?_eq_getElem (by omega)];rfl
theorem sub_last{n:Nat} (h:0 < n) (hn:n<=1000000000):wr .i64 ((n:Int) - 1)=some ((n - 1:Nat):Int):=by obtain⟨q,rfl⟩ : ∃q,n=q+1:=⟨n - 1,by omega⟩;have:=qqa (q:=q) (by omega);simpa using this
theorem c44(L:List Int) (hl:L.length<=1000000):CallAt (ctx T) 44 [qac L] zH (.int .i64 (qgd L)) zH:=by
 by_cases h:0 < L.length
 ·have hi:(0:Int) < (L.length:Int):=by omega
  have hs:=sub_last h (by omega);have ha:=atIx (L:=L) (i:=L.length - 1) (by omega);refine qa0 (s0:=⟨[0,2,3],[qac L,uD,uD],[],13,⟨0,[[]]⟩⟩) Tryz.func44 rfl rfl rfl ?_;apply qR;simp[zS];apply qR;simp[zS,qn0];apply qR;simp[zS,h,hi];refine qah (by simp[qbr,St.get,h]) ?_;apply qR;simp[zS,hs,ha];apply qa7;simp[zQ,Tryz.f44];exact qak rfl (by simp[topI_ne h])
 ·have e:L=[]:=List.eq_nil_of_length_eq_zero (by omega);subst e;have l0:∀H,qeq PG H 38 (.fslc 1 [])=some 0:=fun H=>rfl;refine qa0 (s0:=⟨[0,2,3],[.fslc 1 [],uD,uD],[],13,⟨0,[[]]⟩⟩) Tryz.func44 rfl rfl rfl ?_;apply qR;simp[zS];apply qR;simp[zS,l0];apply qR;simp[zS];apply qai rfl;apply qa6;simp;apply qR;simp[zS];apply qa7;simp[zQ,Tryz.f44];exact qak rfl (by rfl)
theorem zbf(x y:List Int) (h:[qac x]=[qac y]):x=y:=by simp only[List.cons.injEq]at h;exact qd2 h.1
def e44:Entry PG:=mkE 44 [[1]] (fun x:List Int=>[qac x]) (fun x=>x.length<=1000000) (fun x=>.int .i64 (qgd x)) fun x h=>c44 (T:=[]) x h
theorem k44(hT:qa9 44 T=some e44.g) {L:List Int} (hl:L.length<=1000000) (H:Heap):qat (ctx T) (.fn 44) [qac L] H=some (.int .i64 (qgd L),H):=
 qb2 hT zbf L hl rfl (by simp[qbb,qaj,okV,qa2])
def atP(L:List Int) (i:Int):Int:=qal (fun k=>decide (k=i)) L 0
theorem c47(L:List Int) (x:Int) (hl:L.length<=1000000):CallAt (ctx T) 47 [qac L,.int .i64 x] zH (.int .i64 (qal (fun y=>decide (x=y)) L 0)) zH:=by
 refine qa0 (s0:=⟨[0,1,4,5,7,8],[qac L,.int .i64 x,uD,uD,uD,uD],[],19,⟨0,[[]]⟩⟩) Tryz.func47 rfl rfl rfl ?_;apply qR;simp[zS];apply qR;simp[zS,qn0];refine qa4 (qb1 (fun i:Nat=>(⟨[0,1,4,5,7,8],[qac L,.int .i64 x,uD,uD,.int .i64 (L.length:Nat),.int .i64 i],[],19,⟨0,[[]]⟩⟩ : St))
  (fun i=>i<=L.length/\qal (fun y=>decide (x=y)) L 0=qal (fun y=>decide (x=y)) (L.drop i) i) (fun i=>L.length - i) [] [] 0 ⟨Nat.zero_le _,rfl⟩ ⟨rfl,rfl,rfl,by simp[qax,qap,qa2,qa3,qac],FitH.nothing⟩ ?_)
 rintro i ⟨hi,hx⟩ B hB;apply qR;simp[zS];repeat apply wq
 refine qbf rfl (fun h=>?_) fun h=>?_
 ·simp at h;rw[qf9 h]at hx;apply qa6;simp;repeat apply wq
  apply qa4;apply qR;simp[zS];by_cases h2:L[i]=x
  ·apply qR;simp[zS,atI h,h2];apply qah rfl;apply qR;simp[zS];apply qa7;simp[zQ,Tryz.f47];exact qak rfl (by rw[hx,if_pos (by simp[h2])])
  ·have h2':¬ x=L[i]:=fun e=>h2 e.symm;apply qR;simp[zS,atI h,h2'];apply qai rfl;apply qa6;simp;apply qR;simp[zS,qbo (show i<=1000000000 by omega)];exact hB _ (i+1) (by omega) ⟨by omega,by rw[hx,if_neg (by simp[h2'])]⟩ ⟨[],[],⟨rfl,rfl,rfl,by simp[qax,qap,qa2,qa3,qac],FitH.nothing⟩⟩
 ·simp at h;apply qas;simp;apply qR;simp[zS];apply qa7;simp[zQ,Tryz.f47];exact qak rfl (by rw[hx,List.drop_eq_nil_of_le h];rfl)
def e47:Entry PG:=mkE 47 [[1],[]] (fun x:List Int × Int=>[qac x.1,.int .i64 x.2]) (fun x=>x.1.length<=1000000) (fun x=>.int .i64 (qal (fun y=>decide (x.2=y)) x.1 0)) fun x hx=>c47 (T:=[]) x.1 x.2 hx
theorem k47(hT:qa9 47 T=some e47.g) {L:List Int} (x:Int) (hl:L.length<=1000000) (H:Heap):qat (ctx T) (.fn 47) [qac L,.int .i64 x] H=some (.int .i64 (qal (fun y=>decide (x=y)) L 0),H):=
 qb2 hT qt6 (L,x) hl rfl (by simp[qac])
theorem qr0{x:Int}:∀(L:List Int) (k:Nat),(0<=qal (fun y=>decide (x=y)) L k)↔x∈L
 |[],k=>by simp[qal]
 |y::r,k=>by
  unfold qal;by_cases h:x=y
  ·simp[h]
  ·simp only[h,decide_false,Bool.false_eq_true,if_false,List.mem_cons,false_or];exact qr0 r (k+1)
theorem c128(hI:qa9 47 T=some e47.g) (L:List Int) (x:Int) (hl:L.length<=1000000):CallAt (ctx T) 128 [qac L,.int .i64 x] zH (.bool (decide (x∈L))) zH:=by
 have hk:=fun H=>k47 hI x hl H;have hm:=qr0 (x:=x) L 0;generalize qal (fun y=>decide (x=y)) L 0=v at *;simp only[qac]at hk;refine qa0 (s0:=⟨[0,1,4],[qac L,.int .i64 x,uD],[],9,⟨0,[[]]⟩⟩) Tryz.func128 rfl rfl rfl ?_
 (repeat (first
  |(apply qaa)
  |(apply qa4)
  |(apply qdq;simp only[qab,qa5])
  |((refine qam qb6 ?_);simp[zS,qac,hk])
  |apply qah rfl
  |apply qai rfl
  |((apply qa6);simp only[qab,qa5])
  |((apply qas);simp)))
 apply qa7;simp[zQ,Tryz.f128];exact qak rfl (by simp[hm])
def e128:Entry PG:=mkE 128 [[1],[]] (fun x:List Int × Int=>[qac x.1,.int .i64 x.2]) (fun x=>x.1.length<=1000000) (fun x=>.bool (decide (x.2∈x.1))) fun x hx=>c128 (T:=[e47]) rfl x.1 x.2 hx
theorem k128(hT:qa9 128 T=some e128.g) {L:List Int} (x:Int) (hl:L.length<=1000000) (H:Heap):qat (ctx T) (.fn 128) [qac L,.int .i64 x] H=some (.bool (decide (x∈L)),H):=
 qb2 hT qt6 (L,x) hl rfl (by simp[qac])
theorem atP_eq(L:List Int) (x:Int):qal (fun y=>decide (x=y)) L 0=atP L x:=by
 have:(fun y=>decide (x=y))=fun y:Int=>decide (y=x):=by
  funext y;by_cases h:x=y
  ·simp[h]
  ·have h':¬ y=x:=fun e=>h e.symm;simp[h,h']
 rw[this];rfl
def qff(t:Tr) (i:Int):Int:=if isB t i=true/\isB t (qa1 t i).up=true then atP (qa1 t (qa1 t i).up).kids i else -1
theorem isB_iff{t:Tr} {i:Int}:isB t i=true↔0<=i/\i < (t.length:Int):=by simp[isB]
theorem c173g(hS:qa9 88 T=some e88.g) (hI:qa9 47 T=some e47.g) (t:Tr) (hk:∀n,n∈t->n.kids.length<=1000000) (i:Int):CallAt (ctx T) 173 [qba t,.int .i64 i] zH (.int .i64 (qff t i)) zH:=by
 have ks:=fun i H=>k88 hS t i H;simp only[qba]at ks;by_cases h1:isB t i=true
 ·obtain⟨i0,i1⟩:=isB_iff.1 h1;have a1:=atX i0 i1;have c5:qca (qa1 t i).cs 5=some (.int .i64 (qa1 t i).up):=rfl;by_cases h2:isB t (qa1 t i).up=true
  ·obtain⟨u0,u1⟩:=isB_iff.1 h2;have a2:=atX u0 u1;have c6:qca (qa1 t (qa1 t i).up).cs 6=some (qac (qa1 t (qa1 t i).up).kids):=rfl;have kI:=fun H=>k47 hI (L:=(qa1 t (qa1 t i).up).kids) i (hk _ (qh2 u0 u1)) H;have e:qff t i=qal (fun y=>decide (i=y)) (qa1 t (qa1 t i).up).kids 0:=(by unfold qff;rw[if_pos ⟨h1,h2⟩,atP_eq]);rw[e];generalize qal (fun y=>decide (i=y)) (qa1 t (qa1 t i).up).kids 0=v at *;refine qa0 (s0:=⟨[0,1,2,4],[qba t,.int .i64 i,uD,uD],[],33,⟨0,[[]]⟩⟩) Tryz.func173 rfl rfl rfl ?_;apply qR;simp[zS,qba];repeat apply wq
   refine qdh mixed qb6 (by decide +kernel) fun B_ hB_=>?_;have hD_:ahead B_ 0 2=true/\ahead B_ 0 12=true/\ahead B_ 2 0=false/\ahead B_ 2 5=true/\ahead B_ 2 7=true/\ahead B_ 2 11=true/\ahead B_ 5 2=false/\ahead B_ 5 12=true/\ahead B_ 7 2=false/\ahead B_ 7 12=true/\ahead B_ 11 2=false/\ahead B_ 11 12=true/\ahead B_ 12 0=false/\ahead B_ 12 5=false/\ahead B_ 12 7=false/\ahead B_ 12 11=false:=(by rw[hB_];decide +kernel);apply qom B_;simp[zS,qbt,qaz,qb9,qc7,qar,qbg,qb7,Heap.lay,qb8,qok,qoj,qi6,qi4,qhw,qi3,qiy,qid,qg4,qg5,qin,qim,qik,qil,qiq,qir,qip,qio,hD_,ks,h1,h2,a1,c5];exact rfl;refine⟨_,rfl,?_,?_⟩;simp[zS,qc7,qar,qcp,qcq,qeb,hD_,ks,h1,h2,a1,c5];try simp[allPend,Heap.lay,qb8,qab]
   apply qai rfl;apply qa6;simp;apply qaa;refine qdh mixed qb6 (by decide +kernel) fun B_ hB_=>?_;have hD_:ahead B_ 1 12=true/\ahead B_ 3 12=true/\ahead B_ 7 12=true/\ahead B_ 10 12=true/\ahead B_ 12 1=false/\ahead B_ 12 3=false/\ahead B_ 12 7=false/\ahead B_ 12 10=false:=(by rw[hB_];decide +kernel);apply qom B_;simp[zS,qbt,qaz,qb9,qc7,qar,qbg,qb7,Heap.lay,qb8,qok,qoj,qi6,qi4,qhw,qi3,qiy,qid,qg4,qg5,qin,qim,qik,qil,qiq,qir,qip,qio,hD_,a1,a2,c5,c6,kI];exact rfl;refine⟨_,rfl,?_,?_⟩;simp[zS,qc7,qar,qcp,qcq,qeb,hD_,a1,a2,c5,c6,kI];try simp[allPend,Heap.lay,qb8,qab]
   apply qa7;simp[zQ,Tryz.f173];exact qak rfl (by rfl)
  ·have h2:isB t (qa1 t i).up=false:=(by simpa using h2);refine qa0 (s0:=⟨[0,1,2,4],[qba t,.int .i64 i,uD,uD],[],33,⟨0,[[]]⟩⟩) Tryz.func173 rfl rfl rfl ?_;apply qR;simp[zS,qba];repeat apply wq
   refine qdh mixed qb6 (by decide +kernel) fun B_ hB_=>?_;have hD_:ahead B_ 0 2=true/\ahead B_ 0 12=true/\ahead B_ 2 0=false/\ahead B_ 2 5=true/\ahead B_ 2 7=true/\ahead B_ 2 11=true/\ahead B_ 5 2=false/\ahead B_ 5 12=true/\ahead B_ 7 2=false/\ahead B_ 7 12=true/\ahead B_ 11 2=false/\ahead B_ 11 12=true/\ahead B_ 12 0=false/\ahead B_ 12 5=false/\ahead B_ 12 7=false/\ahead B_ 12 11=false:=(by rw[hB_];decide +kernel);apply qom B_;simp[zS,qbt,qaz,qb9,qc7,qar,qbg,qb7,Heap.lay,qb8,qok,qoj,qi6,qi4,qhw,qi3,qiy,qid,qg4,qg5,qin,qim,qik,qil,qiq,qir,qip,qio,hD_,ks,h1,h2,a1,c5];exact rfl;refine⟨_,rfl,?_,?_⟩;simp[zS,qc7,qar,qcp,qcq,qeb,hD_,ks,h1,h2,a1,c5];try simp[allPend,Heap.lay,qb8,qab]
   apply qah rfl;apply qR;simp[zS];apply qa7;simp[zQ,Tryz.f173];exact qak rfl (by simp[qff,h2])
 ·have h1:isB t i=false:=by simpa using h1
  refine qa0 (s0:=⟨[0,1,2,4],[qba t,.int .i64 i,uD,uD],[],33,⟨0,[[]]⟩⟩) Tryz.func173 rfl rfl rfl ?_;apply qR;simp[zS,qba];repeat apply wq
  refine qdh mixed qb6 (by decide +kernel) fun B_ hB_=>?_;have hD_:ahead B_ 0 2=true/\ahead B_ 0 12=true/\ahead B_ 2 0=false/\ahead B_ 2 5=true/\ahead B_ 2 7=true/\ahead B_ 2 11=true/\ahead B_ 5 2=false/\ahead B_ 5 12=true/\ahead B_ 7 2=false/\ahead B_ 7 12=true/\ahead B_ 11 2=false/\ahead B_ 11 12=true/\ahead B_ 12 0=false/\ahead B_ 12 5=false/\ahead B_ 12 7=false/\ahead B_ 12 11=false:=by rw[hB_];decide +kernel
  apply qom B_;simp[zS,qbt,qaz,qb9,qc7,qar,qbg,qb7,Heap.lay,qb8,qok,qoj,qi6,qi4,qhw,qi3,qiy,qid,qg4,qg5,qin,qim,qik,qil,qiq,qir,qip,qio,hD_,ks,h1];exact rfl;refine⟨_,rfl,?_,?_⟩;simp[zS,qc7,qar,qcp,qcq,qeb,hD_,ks,h1];try simp[allPend,Heap.lay,qb8,qab]
  apply qah rfl;apply qR;simp[zS];apply qa7;simp[zQ,Tryz.f173];exact qak rfl (by simp[qff,h1])
section
variable {P:Program} {H:Heap} {t elem:TypeId} {b n:Nat} {cs:List AV}
theorem qxv(hu:P.underlying t=some (.slice elem)) (hs:qc1 P elem=some 1) (hb:H.get b=some (.cells cs)) (hc:cs.length=n) (h0:0 < n):qcs P H t (.slc b 0 n (.rest 1)) (some (.int .i64 (n:Int))) none none=some .eslc:=by
 have hk:qbp H b=some n:=by unfold qbp;simp only[hb,Option.bind_some,qfc,hc]
 have h2:idx (n:Int) (Nat.succ n)=some n:=qbj (by omega);have h1:Nat.ble n (n * 1)=true:=by rw[Nat.ble_eq];omega
 obtain⟨q,rfl⟩ : ∃q,n=q+1:=⟨n - 1,by omega⟩;unfold qcs;simp only[qr3,hu,Option.bind_some,hs,qfb,hk,Nat.beq_refl,qch,Nat.sub_zero,h2,h1]
theorem qu8(hu:P.underlying t=some (.slice elem)) (hs:qc1 P elem=some 1) (hb:H.get b=some (.cells cs)) (hc:cs.length=n) {i j:Nat} (hi:i<=j) (hj:j<=n) (hn:i < n) :
  qcs P H t (.slc b 0 n (.rest 1)) (some (.int .i64 (i:Int))) (some (.int .i64 (j:Int))) (some (.int .i64 (n:Int)))=some (.slc b i (j - i) (.ex (n - i))):=by
 have hk:qbp H b=some n:=by unfold qbp;simp only[hb,Option.bind_some,qfc,hc]
 have h2:idx (n:Int) (Nat.succ n)=some n:=qbj (by omega);have h3:idx (j:Int) (Nat.succ n)=some j:=qbj (by omega);have h4:idx (i:Int) (Nat.succ j)=some i:=qbj (by omega);have h5:Nat.beq n i=false:=qb4 (by omega);unfold qcs;simp only[qr3,hu,Option.bind_some,hs,qfb,hk,Nat.beq_refl,qch,Nat.sub_zero,Nat.div_one,h2,h3,h4,h5,Nat.zero_add,Nat.mul_one]
theorem qxu{N:Nat} (hu:P.underlying t=some (.slice elem)) (hs:qc1 P elem=some 1) (hb:H.get b=some (.cells cs)) (hc:cs.length=N) (hN:N=n+1) :
  qcs P H t (.slc b 0 n (.rest 1)) (some (.int .i64 (n:Int))) (some (.int .i64 (N:Int))) none=some (.slc b n 1 (.rest 1)):=by
 subst hN;have hk:qbp H b=some (n+1):=by unfold qbp;simp only[hb,Option.bind_some,qfc,hc]
 have h3:idx ((n+1:Nat):Int) (Nat.succ (n+1))=some (n+1):=qbj (by omega);have h4:idx (n:Int) (Nat.succ (n+1))=some n:=qbj (by omega);have h1:Nat.ble (n+1) n=false:=by rw[<- Bool.not_eq_true,Nat.ble_eq];omega
 unfold qcs;simp only[qr3,hu,Option.bind_some,hs,qfb,hk,Nat.beq_refl,qch,Nat.sub_zero,Nat.div_one,h3,h4,h1,Nat.zero_add,Nat.mul_one,Nat.add_sub_cancel_left]
end
theorem erase_eq(L:List Int) (i:Nat):L.eraseIdx i=L.take i++L.drop (i+1):=List.eraseIdx_eq_take_drop_succ L i
theorem qol{H:Heap} {n b sz len:Nat} {cap:Cap} {es fr:List AV} (he:Elems sz es) (hb:H.get b=some (.cells (qa8 es))) (hl:len<=es.length) (hf:fr=es.take len):∃σ Φ,qap σ Φ (.slc b 0 len cap) (.fslc sz fr)/\FitH n σ Φ H ⟨n,[[]]⟩:=by
 subst hf;refine⟨[],[(b,qa8 es)],?_,{ nd1:=by simp,nd2:=List.nodup_nil,nd3:=by simp[Heap.ents],lt:=fun x h=>(by cases h),idn:=fun x h=>(by cases h),num:=Nat.le_refl _,src:=fun e h=>(by simp[Heap.ents]at h),frz:=fun x hx=>?_ }⟩
 ·simp only[qap];exact .inl ⟨qa8 es,by simp[qcn],qq9 he hl,by simp;omega,(he.take len).size⟩
 ·simp only[List.mem_singleton]at hx;subst hx;exact⟨qa8 es,hb,qao he.pure,he.pure⟩
theorem qjt:∀(l:List Int),allSingle (qbm l)=true
 |[]=>rfl
 |x::r=>by have ih:=qjt r;simp only[qbm,List.map_cons,allSingle,qau,AV.single]at ih ⊢;exact ih
theorem qnm:∀(l:List Int),(qbm l).flatMap (refs 6)=[]
 |[]=>rfl
 |x::r=>by have ih:=qnm r;simp only[qbm,List.map_cons,List.flatMap_cons,qau,refs]at ih ⊢;exact ih
theorem qtw{P:Program} {H H':Heap} {elem:TypeId} {b by_:Nat} {x z:AV} {A D Y Y2:List Int} (hsz:qc1 P elem=some 1) (hby:qce P elem=some by_) (hz:qbq P elem=some z) (hzl:z.cells.length=1) (hb0:by_≠0)
  (hn:qc3 x=some D.length) (hsrc:qb3 H 1 D.length x=some (qbm D)) (hr:qde (A.length+D.length) by_=true) (hb:H.get b=some (.cells (qbm (A++(Y++Y2))))) (hY:Y.length=D.length)
  (hset:(H.ready b (qbm D)).set b (.cells (qbm (A++(D++Y2))))=some H'):qby P H elem (.slc b 0 A.length (.rest 1)) x=some (.slc b 0 (A.length+D.length) (.rest 1),H'):=by
 have hp:allSingle (qbm D)=true:=qjt D;have hk:qbp H b=some (A.length+(Y.length+Y2.length)):=by unfold qbp;simp only[hb,Option.bind_some,qfc,qcd,List.length_append]
 have h1:(Nat.beq 1 0 || !(true && Nat.blt 0 by_))=false:=by
  have:Nat.blt 0 by_=true:=by rw[Nat.blt,Nat.ble_eq];omega
  rw[this];rfl
 have h2:Nat.ble (0+(A.length+D.length) * 1) (A.length+(Y.length+Y2.length))=true:=by rw[Nat.ble_eq];omega
 have hl:qjh (qbm D) (0+A.length * 1) (qbm (A++(Y++Y2)))=some (qbm (A++(D++Y2))):=by have:=qef (a:=qbm A) (b:=qbm Y) (b':=qbm D) (c:=qbm Y2) (by rw[qcd,qcd,hY]);rw[qcd]at this;simpa[qbm,List.map_append]using this
 have hw:writeCells H b (0+A.length * 1) (qbm D)=some H':=by unfold writeCells;simp only[hb,Option.bind_some,Blk.wt,hl,Blk.re,hset]
 unfold qby;simp only[hsz,hby,hz,hn,hzl,Option.bind_some,h1,hsrc,hr,hp,Nat.beq_refl,hk,h2,hw]
theorem c106o(A D:List Int) (c:Int) (hl:A.length+D.length<=1000000) {i j N:Nat} (hi:i=A.length) (hj:j=i+1) (hN:N=A.length+D.length+1) :
  CallAt (ctx T) 106 [.slc 0 0 N (.rest 1),.int .i64 (i:Int),.int .i64 (j:Int)] ⟨1,[[(0,.cells (qbm (A++c::D)))]]⟩ (.slc 0 0 (A.length+D.length) (.rest 1)) ⟨1,[[(0,.cells (qbm (A++D++[0])))]]⟩:=by
 obtain⟨n,hn⟩ : ∃n,n=A.length+D.length:=⟨_,rfl⟩;obtain⟨L,hL⟩ : ∃L,L=A++c::D:=⟨_,rfl⟩;have lenR:(qbm L).length=N:=by rw[qcd,hL,hN];simp;omega
 obtain⟨Y,y,hY,hYl⟩ : ∃Y y,c::D=Y++[y]/\Y.length=D.length:=⟨(c::D).dropLast,(c::D).getLast (by simp),(List.dropLast_concat_getLast (by simp)).symm,by simp⟩;have hs1:=qu8 (P:=PG) (H:=⟨1,[[],[(0,.cells (qbm L))]]⟩) (t:=38) (elem:=3) (b:=0) (n:=N) (cs:=qbm L) Tryz.underlying38 qmt rfl lenR (i:=i) (j:=j) (by omega) (by omega) (by omega);have hs2:=fun(m:Nat) (R:List AV) (hR:R.length=N)=>qqd (P:=PG) (H:=⟨m,[[],[(0,.cells R)]]⟩) (t:=38) (elem:=3) (sz:=1) (b:=0) (cs:=R) (len:=N) (i:=i) Tryz.underlying38 qmt (by omega) rfl (by omega) (by omega) (by omega);obtain⟨x,hs3,hx1,hx2⟩ : ∃x,(∀(m:Nat) (R:List AV),R.length=N->qcs PG ⟨m,[[],[(0,.cells R)]]⟩ 38 (.slc 0 0 N (.rest 1)) (some (.int .i64 (j:Int))) none none=some x)/\qc3 x=some D.length/\qb3 ⟨9,[[],[(0,.cells (qbm L))]]⟩ 1 D.length x=some (qbm D):=by
  by_cases h:j < N
  ·refine⟨_,fun m R hR=>qpd (P:=PG) (H:=⟨m,[[],[(0,.cells R)]]⟩) (t:=38) (elem:=3) (sz:=1) (b:=0) (cs:=R) (len:=N) (i:=j) Tryz.underlying38 qmt (by omega) rfl (by omega) h,?_,?_⟩
   ·simp[qc3];omega
   ·have hb:=qkm (a:=qbm (A++[c])) (b:=qbm D) (c:=[]) (o:=j) (n:=D.length) (by rw[qcd];simp;omega) (by rw[qcd]);have hL2:qbm L=qbm (A++[c])++qbm D++[]:=(by rw[hL];simp[qbm]);simp[qb3,readCells,zG,Blk.rd];rw[hL2];exact hb
  ·have hjN:j=N:=(by omega);have hD:D=[]:=(by cases D<;>simp at *<;>omega);refine⟨.eslc,fun m R hR=>?_,?_,?_⟩
   ·have:=qxv (P:=PG) (H:=⟨m,[[],[(0,.cells R)]]⟩) (t:=38) (elem:=3) (b:=0) (n:=N) (cs:=R) Tryz.underlying38 qmt rfl hR (by omega);rw[hjN];exact this
   ·simp[hD,qc3]
   ·simp[hD,qb3,qbm]
 have lR:(A++(D++[y])).length=N:=by simp;omega
 have lR2:(qbm (A++(D++[y]))).length=N:=by rw[qcd,lR]
 have happ:=qtw (P:=PG) (H:=⟨9,[[],[(0,.cells (qbm L))]]⟩) (H':=⟨9,[[],[(0,.cells (qbm (A++(D++[y]))))]]⟩) (elem:=3) (b:=0) (x:=x) (A:=A) (D:=D) (Y:=Y) (Y2:=[y]) qmt qxh qvk rfl (by omega) hx1 hx2 (by unfold qde;rw[Nat.ble_eq];omega) (by rw[hL,hY];rfl) hYl (by simp[Heap.ready,qnm,Heap.set,setFs,setF]);rw[<- hn,<- hi]at happ;have hne:¬ (i:Int)=(j:Int):=by omega
 have hne2:¬ i=j:=by omega
 rw[<- hL];refine qa0 (s0:=⟨[0,1,2,6,7],[.slc 0 0 N (.rest 1),.int .i64 (i:Int),.int .i64 (j:Int),uD,uD],[],33,⟨1,[]::[[(0,.cells (qbm L))]]⟩⟩) Tryz.func106 rfl rfl rfl ?_;apply qR;simp[zS];apply qR;simp[zS,hs1,qeq,qg2];apply qR;simp[zS,hne,hne2];refine qai (by simp[qbr,St.get,hne,hne2]) ?_;apply qa6;simp;apply qR;simp[zS,qeq];repeat apply wq
 refine qdh mixed qb6 (by decide +kernel) fun B_ hB_=>?_;have hD_:ahead B_ 2 6=true/\ahead B_ 5 6=true/\ahead B_ 6 2=false/\ahead B_ 6 5=false:=by rw[hB_];decide +kernel
 apply qom B_;simp[zS,qbt,qaz,qb9,qc7,qar,qbg,qb7,Heap.lay,qb8,qok,qoj,qi6,qi4,qhw,qi3,qiy,qid,qg4,qg5,qin,qim,qik,qil,qiq,qir,qip,qio,hD_,hs2 _ _ lenR,hs3 _ _ lenR,hs2 _ _ lR2,hs3 _ _ lR2,happ,qg2];exact rfl;refine⟨_,rfl,?_,?_⟩;simp[zS,qc7,qar,qcp,qcq,qeb,hD_,hs2 _ _ lenR,hs3 _ _ lenR,hs2 _ _ lR2,hs3 _ _ lR2,happ,qg2];try simp[allPend,Heap.lay,qb8,qab]
 have hs4:=qxu (P:=PG) (H:=⟨9,[[],[(0,.cells (qbm (A++(D++[y]))))]]⟩) (t:=38) (elem:=3) (b:=0) (n:=n) (N:=N) (cs:=qbm (A++(D++[y]))) Tryz.underlying38 qmt rfl (by rw[qcd,lR]) (by omega);have hcl:=qxf (m:=9) (i:=n) (n:=N) (f:=[]) (R:=A++(D++[y])) rfl rfl lR (by omega);have e1:N - n=1:=by omega
 have e2:(A++(D++[y])).take n++zrs (N - n)=A++D++[0]:=by rw[<- List.append_assoc,List.take_left' (by simp;omega),e1];rfl
 rw[e2,e1]at hcl;apply qR;simp[zS,qeq,hs4,hcl];apply qR;simp[zS];apply qa7;simp[zQ,Tryz.f106];rw[<- hn];refine⟨[(0,0)],[],by simp[qap,qav],.same (by simp) (by simp) (by simp) (by simp) (by simp[Heap.ents]) ?_⟩;intro e he;simp[Heap.ents]at he;subst he;refine⟨by simp,by simp[zG],qao ?_⟩;rw[<- List.append_assoc,<- qc8];exact(qg6 _).pure
theorem c106(A D:List Int) (c:Int) (hl:A.length+D.length<=1000000) {i j N:Nat} (hi:i=A.length) (hj:j=i+1) (hN:N=A.length+D.length+1) :
  CallAt (ctx T) 106 [.slc 0 0 N (.rest 1),.int .i64 (i:Int),.int .i64 (j:Int)] ⟨1,[[(0,.cells (qbm (A++c::D)))]]⟩ (qac (A++D)) ⟨1,[[]]⟩:=by
 obtain⟨σ,Φ,f1,f2⟩:=qol (n:=1) (H:=⟨1,[[(0,.cells (qbm (A++D++[0])))]]⟩) (b:=0) (len:=A.length+D.length) (cap:=.rest 1) (fr:=qbm (A++D)) (qg6 (A++D++[0])) (by rw[qc8];rfl) (by rw[qcd];simp) (by rw[show qbm (A++D++[0])=qbm (A++D)++qbm [0] by simp[qbm],List.take_left' (by rw[qcd];simp)]);exact(c106o A D c hl hi hj hN).post f1 f2
def lays2_21_ren:Go.Shelf.Ren:=⟨fun | 21=>91 | 27=>174 | 28=>175 | 35=>209 | 39=>222|n=>n,fun | 0=>0 | 3=>3 | 4=>4 | 22=>38|n=>n,fun|n=>n⟩
theorem qwn:Go.Proofs.Lays2.n21 PG lays2_21_ren where
 mixed:=by kernel_rfl
 f21:=Tryz.func91.trans (congrArg some (by kernel_rfl))
 f27:=Tryz.func174.trans (congrArg some (by kernel_rfl))
 f28:=Tryz.func175.trans (congrArg some (by kernel_rfl))
 f35:=Tryz.func209.trans (congrArg some (by kernel_rfl))
 f39:=Tryz.func222.trans (congrArg some (by kernel_rfl))
 t0:=Tryz.underlying0
 a0:=Tryz.isAgg0
 z0:=Tryz.sizeOf0
 v0:=Tryz.zeroValue0
 t3:=Tryz.underlying3
 a3:=Tryz.isAgg3
 z3:=Tryz.sizeOf3
 v3:=Tryz.zeroValue3
 t4:=Tryz.underlying4
 a4:=Tryz.isAgg4
 z4:=Tryz.sizeOf4
 v4:=Tryz.zeroValue4
 t22:=Tryz.underlying38
 a22:=Tryz.isAgg38
 z22:=Tryz.sizeOf38
 v22:=Tryz.zeroValue38
 i3:=by kernel_rfl
structure Wrote (cb:Nat) (v v':World):Prop where
 size:v'.heap.size=v.heap.size
 keep:∀j,j≠cb->v'.heap[j]? = v.heap[j]?
 os:v'.os=v.os
 tape:v'.tape=v.tape
 output:v'.output=v.output
 some:∀k,(v.cell? ⟨cb,k,none⟩).isSome=true->(v'.cell? ⟨cb,k,none⟩).isSome=true
 fz:∀k,v'.frozen? ⟨cb,k,none⟩=v.frozen? ⟨cb,k,none⟩
theorem Wrote.trans{cb:Nat} {u v w:World} (h:Wrote cb u v) (k:Wrote cb v w):Wrote cb u w:=
 ⟨k.size.trans h.size,fun j hj=>(k.keep j hj).trans (h.keep j hj),k.os.trans h.os,k.tape.trans h.tape,k.output.trans h.output,fun j hj=>k.some j (h.some j hj),fun j=>(k.fz j).trans (h.fz j)⟩
theorem Wrote.drew{cb:Nat} {v:World}:Wrote cb v v.drew:=⟨rfl,fun _ _=>rfl,rfl,rfl,rfl,fun _ h=>h,fun _=>rfl⟩
theorem Wrote.set{cb o:Nat} {v:World} {xs:List Value} (h:∀j,j < xs.length->(v.cell? ⟨cb,o+j,none⟩).isSome=true):Wrote cb v (v.setCells cb o xs):=
 ⟨qfq _ _ _ _,fun j hj=>qfr _ _ _ _ j hj,(qcl _ _ _ _).1,(qcl _ _ _ _).2.1,(qcl _ _ _ _).2.2,fun k hk=>isSome_setCells cb xs o v h k hk,fun k=>World.frozen?_setCells _ _ _ _ _⟩
theorem qvx{cb o:Nat} {v:World} {xs:List Value} (h:∀j,j < xs.length->(v.cell? ⟨cb,o+j,none⟩).isSome=true) {k:Nat} (h1:o<=k) (h2:k < o+xs.length):(v.setCells cb o xs).cell? ⟨cb,k,none⟩=xs[k - o]?:=by have:=World.cell?_setCells_in cb xs o v h (k - o) (by omega);rw[show o+(k - o)=k by omega]at this;rw[this,List.getElem?_eq_getElem (by omega)]
theorem qll{cb o:Nat} {v:World} {xs:List Value} {k:Nat} (h:k < o\/o+xs.length<=k):(v.setCells cb o xs).cell? ⟨cb,k,none⟩=v.cell? ⟨cb,k,none⟩:=
 World.cell?_setCells_out cb xs o v ⟨cb,k,none⟩ (fun _ _=>h)
theorem qvm{cb off i n:Nat} {xs ys:List Value} {v v':World} (hn:xs.length=n) (hi:i<=n)
  (hs:∀j,j < n+ys.length->(v.cell? ⟨cb,off+j,none⟩).isSome=true)
  (hc:∀j,j < i->v.cell? ⟨cb,off+j,none⟩=xs[j]?)
  (hv:v'=(v.setCells cb (off+(i+ys.length)) (xs.drop i)).setCells cb (off+i) ys\/v'=((v.setCells cb (off+i) ys).drew).setCells cb (off+(i+ys.length)) (xs.drop i)) :
  Wrote cb v v'/\∀j,j < n+ys.length->v'.cell? ⟨cb,off+j,none⟩=(xs.take i++ys++xs.drop i)[j]?:=by
 have e1:(xs.take i).length=i:=by rw[List.length_take];omega
 have e2:(xs.drop i).length=n - i:=by rw[List.length_drop];omega
 have get:∀j,(xs.take i++ys++xs.drop i)[j]? = if j < i then xs[j]? else if j < i+ys.length then ys[j - i]? else (xs.drop i)[j - (i+ys.length)]?:=fun j=>by
  by_cases h1:j < i
  ·rw[if_pos h1,List.append_assoc,List.getElem?_append_left (by omega),List.getElem?_take,if_pos h1]
  ·rw[if_neg h1];by_cases h2:j < i+ys.length
   ·rw[if_pos h2,List.getElem?_append_left (by simp;omega),List.getElem?_append_right (by omega),e1]
   ·rw[if_neg h2,List.getElem?_append_right (by simp;omega)];simp only[List.length_append,e1]
 rcases hv with rfl|rfl
 ·have a1:∀j,j < (xs.drop i).length->(v.cell? ⟨cb,off+(i+ys.length)+j,none⟩).isSome=true:=fun j hj=>by rw[show off+(i+ys.length)+j=off+(i+ys.length+j) by omega];exact hs _ (by omega)
  have w1:Wrote cb v (v.setCells cb (off+(i+ys.length)) (xs.drop i)):=.set a1;have a2:∀j,j < ys.length->((v.setCells cb (off+(i+ys.length)) (xs.drop i)).cell? ⟨cb,off+i+j,none⟩).isSome=true:=fun j hj=>w1.some _ (by rw[show off+i+j=off+(i+j) by omega];exact hs _ (by omega));refine⟨w1.trans (.set a2),fun j hj=>?_⟩;rw[get j];split
  next h1=>rw[qll (by omega),qll (by omega),hc j h1]
  ·split
   ·rw[qvx a2 (by omega) (by omega)];congr 1;omega
   ·rw[qll (by omega),qvx a1 (by omega) (by omega)];congr 1;omega
 ·have a1:∀j,j < ys.length->(v.cell? ⟨cb,off+i+j,none⟩).isSome=true:=fun j hj=>by rw[show off+i+j=off+(i+j) by omega];exact hs _ (by omega)
  have w1:Wrote cb v (v.setCells cb (off+i) ys):=.set a1;have a2:∀j,j < (xs.drop i).length->((v.setCells cb (off+i) ys).drew.cell? ⟨cb,off+(i+ys.length)+j,none⟩).isSome=true:=fun j hj=>w1.some _ (by rw[show off+(i+ys.length)+j=off+(i+ys.length+j) by omega];exact hs _ (by omega));refine⟨(w1.trans .drew).trans (.set a2),fun j hj=>?_⟩;rw[get j];split
  next h1=>rw[qll (by omega)];show (v.setCells cb (off+i) ys).cell? _=_;rw[qll (by omega),hc j h1]
  ·split
   ·rw[qll (by omega)];show (v.setCells cb (off+i) ys).cell? _=_;rw[qvx a1 (by omega) (by omega)];congr 1;omega
   ·rw[qvx a2 (by omega) (by omega)];congr 1;omega
theorem qzj{ρ:Place} {cs vs:List AV} {xs ys:List Value} (i:Nat) (h:VRs ρ cs xs) (k:VRs ρ vs ys):VRs ρ (cs.take i++vs++cs.drop i) (xs.take i++ys++xs.drop i):=by
 refine(VRs.append ⟨by simp[h.1],fun j a b=>?_⟩ k).append ⟨by simp[h.1],fun j a b=>?_⟩
 ·rw[List.getElem_take,List.getElem_take];exact h.2 _ _ _
 ·rw[List.getElem_drop,List.getElem_drop];exact h.2 _ _ _
theorem zba{H:Heap} {b vb n m i:Nat} {cs vs:List AV} {t:TypeId} (hb:H.get b=some (.cells cs)) (hvb:H.get vb=some (.buf t 0 vs)) (hbv:b≠vb)
  (hn:cs.length=n) (hm:vs.length=m) (hi:i < n) (h0:0 < m) (hc1:allSingle cs=true) (hv1:allSingle vs=true) (hbig:n+m<=1000000000) :
  CallAt (ctx T) 91 [.slc b 0 n (.rest 1),.int .i64 i,.slc vb 0 m (.ex m)] H (.slc H.n 0 (n+m) (.rest 1)) ((H.drop b).new (.cells (cs.take i++vs++cs.drop i))):=by
 intro ρ w xs sm hx
 match xs,hx with
 |[x,y,z],hx=>
  have g0:=hx.2 0 (by simp) (by simp);have g1:=hx.2 1 (by simp) (by simp);have g2:=hx.2 2 (by simp) (by simp);simp only[List.getElem_cons_zero,List.getElem_cons_succ]at g0 g1 g2;cases g1;cases g2 with
  |slcE _ _ _ _ l2 hl2 _=>
  cases g0 with
  |slcR _ _ _ _ c l hl hnc hf=>
  have hrun:(callFunc 91 #[.slice (some ⟨l.cb,l.off+0,none⟩) n c,.int .i64 i,.slice (some ⟨l2.cb,l2.off+0,none⟩) m m]).run (ctx T).P w=.ok (.enter 91 #[.slice (some ⟨l.cb,l.off+0,none⟩) n c,.int .i64 i,.slice (some ⟨l2.cb,l2.off+0,none⟩) m m]) w:=by
   have hf:(ctx T).P.funcs[91]? = some Tryz.f91:=Tryz.func91
   have hn : ¬ Tryz.f91.name = "runtime.NumGoroutine" := by decide +kernel
   simp[callFunc,hf,hn,Tryz.f91]
  refine .inr ⟨91,_,hrun,callsIn_wide.2 ?_⟩;obtain⟨l',hl',hB,hlt,hr⟩:=sm.block hb;rw[hl]at hl';cases hl';obtain⟨l',hl',hB2,hlt2,hr2⟩:=sm.block hvb;rw[hl2]at hl';cases hl';have hcb:l2.cb≠l.cb:=fun e=>hbv (sm.inj (b,_) (vb,_) (Heap.get_mem hb) (Heap.get_mem hvb) l l2 hl hl2 e.symm);obtain⟨X,hX,_,hXc⟩:=qe0 (o:=0) (n:=n) (r:=cs) sm (by unfold readCells;rw[hb];subst hn;exact qfd cs) hl;obtain⟨Y,hY,_,hYc⟩:=qe0 (o:=0) (n:=m) (r:=vs) sm (by unfold readCells;rw[hvb];subst hm;exact qfd vs) hl2;have hXl:X.length=n:=hX.1.trans hn;have hYl:Y.length=m:=hY.1.trans hm;obtain⟨⟨q1,q2,q3⟩,q4,q5,C2,lo,hh,hheap2,hz2⟩:=hr2;obtain⟨r1,r2,r3⟩:=hr;have hfz2:∀k,w.frozen? ⟨l2.cb,k,none⟩=false:=fun k=>by
   simp only[World.frozen?,hheap2];rcases hz2 with rfl|hz
   ·by_cases h1:lo<=k<;>simp<;>omega
   ·simp;omega
  have hshape:∃tB kB,w.shape? l.cb=some (tB,kB)/\kB≠0:=by
   have:=(r2 l.off (by omega)).1;simp only[World.cell?]at this;split at this
   next c0 e0 fr0 hh0=>refine⟨e0,c0.size,by simp only[World.shape?,hh0],fun hz=>?_⟩;simp only[Option.isSome_none,Bool.false_eq_true,if_false]at this;rw[Array.getElem?_eq_none (by omega)]at this;cases this
   ·cases this
  obtain⟨tB,kB,hsB,hkB⟩:=hshape;have hXc':∀j v,X[j]? = some v->w.cell? ⟨l.cb,l.off+j,none⟩=some v:=fun j v h=>hXc j v h;have hYc':∀j v,Y[j]? = some v->w.cell? ⟨l2.cb,l2.off+j,none⟩=some v:=fun j v h=>hYc j v h;have o1:=hX.oneCell hc1;have o2:=hY.oneCell hv1;have hgetX:∀j,j < n->w.cell? ⟨l.cb,l.off+j,none⟩=X[j]?:=fun j hj=>by rw[List.getElem?_eq_getElem (by omega)];exact hXc' j _ (List.getElem?_eq_getElem (by omega))
  have hres:(cs.take i++vs++cs.drop i).length=n+m:=by simp[hn,hm];omega
  by_cases hroom:n+m<=c
  ·have hs:∀j,j < n+m->(w.cell? ⟨l.cb,l.off+j,none⟩).isSome=true:=fun j hj=>(r2 _ (by omega)).1;refine(Any2.slices_Insert_int_shift qwn l.cb l.off n c i l2.cb l2.off m m X Y w hi h0 hroom hf.2 hcb hXl hYl hXc' hs (fun j hj=>(r2 _ (by omega)).2) hYc' o1 o2 t tB C2.size kB (by simp only[World.shape?,hheap2]) hsB hkB (hfz2 _) (hfz2 _)).mono ?_;rintro e w' ⟨rfl,hw⟩;obtain⟨W1,W2⟩:=qvm (cb:=l.cb) (off:=l.off) (i:=i) (n:=n) (xs:=X) (ys:=Y) (v:=w.drew) (v':=w') hXl (by omega) (by rw[hYl];exact hs) (fun j hj=>hgetX j (by omega)) (.inl (by rw[hYl];exact hw));have hle:ρ.le (ρ.upd H.n ⟨l.cb,l.off,l.fin⟩):=Place.le_upd (sm.dom _ (Nat.le_refl _));have hV:=(qzj i hX hY).mono hle;obtain⟨k1,k2⟩:=sm.drew.regrow (k:=.cells (cs.take i++vs++cs.drop i)) (l':=⟨l.cb,l.off,l.fin⟩) hb hl rfl W1.size W1.keep W1.os W1.tape W1.output (by refine⟨by rw[hres];show l.off+_<=l.fin;omega,fun k hk=>⟨W1.some k (r2 k hk).1,(W1.fz k).trans (r2 k hk).2⟩,fun j hj=>?_⟩;have hj2:j < (X.take i++Y++X.drop i).length:=(by rw[hV.1];exact hj);refine⟨(X.take i++Y++X.drop i)[j],?_,hV.2 j hj hj2⟩;rw[<- List.getElem?_eq_getElem hj2];exact W2 j (by rw[hYl];omega));refine⟨_,_,rfl,?_,k1,(Step.drew _ _ _).trans k2⟩;exact .slcR H.n 0 (n+m) 1 c ⟨l.cb,l.off,l.fin⟩ Place.upd_same hroom hf
  ·refine(Any2.slices_Insert_int_grow qwn l.cb l.off n c i l2.cb l2.off m m X Y w hi h0 hnc (by omega) (by omega) hXl hYl hXc' hYc' o1 o2).mono ?_;rintro e w' ⟨rfl,hw⟩;have hcap:n+m<=grownCap w (n+m) c (lays2_21_ren.t 3):=(by simp[grownCap,Question.cut]);have h63:grownCap w (n+m) c (lays2_21_ren.t 3)<=9223372036854775807:=qxd (by omega);generalize grownCap w (n+m) c (lays2_21_ren.t 3)=G at hw hcap h63 ⊢;obtain⟨ROW,hROW⟩ : ∃ROW:Array Value,ROW=(X.take i).toArray++Builtin.zeroCells (Value.int .i64 0).cells (n+m - i)++Builtin.zeroCells (Value.int .i64 0).cells (G - (n+m)):=⟨_,rfl⟩;rw[<- hROW]at hw;have hsz:ROW.size=G:=(by rw[hROW];simp[Builtin.zeroCells,Value.cells,hXl];omega);obtain⟨sd,st⟩:=sm.dropped b;obtain⟨s1,t1⟩:=sd.new (.cells ROW (lays2_21_ren.t 3)) ROW.size (.cells (List.replicate (n+m) .undef)) (qoq (by simp;omega) (fun j a b=>by rw[List.getElem_replicate];exact .undef _) (fun j _=>by simp));have hh1:(w.alloc (.cells ROW (lays2_21_ren.t 3))).heap[w.heap.size]? = some (.cells ROW (lays2_21_ren.t 3) (0,0)):=(by show (w.heap.push _)[w.heap.size]? = _;simp);have hcell:∀j,(w.alloc (.cells ROW (lays2_21_ren.t 3))).cell? ⟨w.heap.size,0+j,none⟩=ROW[j]?:=fun j=>(by simp only[World.cell?,hh1,Nat.zero_add];rfl);have hs:∀j,j < n+m->((w.alloc (.cells ROW (lays2_21_ren.t 3))).drew.cell? ⟨w.heap.size,0+j,none⟩).isSome=true:=fun j hj=>(by show ((w.alloc (.cells ROW (lays2_21_ren.t 3))).cell? ⟨w.heap.size,0+j,none⟩).isSome=true;rw[hcell,Array.getElem?_eq_getElem (by omega)];rfl);obtain⟨W1,W2⟩:=qvm (cb:=w.heap.size) (off:=0) (i:=i) (n:=n) (xs:=X) (ys:=Y) (v:=(w.alloc (.cells ROW (lays2_21_ren.t 3))).drew) (v':=w') hXl (by omega) (by rw[hYl];exact hs)
    (fun j hj=>by show (w.alloc (.cells ROW (lays2_21_ren.t 3))).cell? ⟨w.heap.size,0+j,none⟩=_;rw[hcell,hROW,Array.append_assoc,Array.getElem?_append_left (by simp;omega)];simp[hj]) (.inr (by rw[hYl,Nat.zero_add,Nat.zero_add];exact hw))
   have hle:ρ.le (ρ.upd H.n ⟨w.heap.size,0,ROW.size⟩):=Place.le_upd (sm.dom _ (Nat.le_refl _));have hV:=(qzj i hX hY).mono hle;have hents:∀k:Blk,((H.drop b).new k).ents=(H.n,k)::(H.drop b).ents:=fun k=>Heap.new_ents _ _;obtain⟨k1,k2⟩:=s1.drew.turned (H':=(H.drop b).new (.cells (cs.take i++vs++cs.drop i))) (b:=H.n) (k0:=.cells (List.replicate (n+m) .undef)) (k:=.cells (cs.take i++vs++cs.drop i)) (l:=⟨w.heap.size,0,ROW.size⟩) (w':=w')
    (by rw[hents];exact List.mem_cons_self) Place.upd_same rfl (by have:=s1.nodup;rw[hents]at this ⊢;exact this) (by rw[hents];exact List.mem_cons_self)
    (fun e he=>by rw[hents]at he ⊢;rcases List.mem_cons.1 he with h|h;exact .inl h;exact .inr (List.mem_cons_of_mem _ h))
    W1.size W1.keep W1.os W1.tape W1.output (by have hold:=(s1.drew.live (H.n,.cells (List.replicate (n+m) .undef)) (by rw[hents];exact List.mem_cons_self));obtain⟨l3,hl3,_,_,hr3⟩:=hold;have hl4:(ρ.upd H.n ⟨w.heap.size,0,ROW.size⟩) H.n=some l3:=hl3;rw[Place.upd_same]at hl4;cases hl4;refine⟨by rw[hres];show 0+_<=ROW.size;omega,fun k hk=>⟨W1.some k (hr3.2.1 k hk).1,(W1.fz k).trans (hr3.2.1 k hk).2⟩,fun j hj=>?_⟩;have hj2:j < (X.take i++Y++X.drop i).length:=(by rw[hV.1];exact hj);refine⟨(X.take i++Y++X.drop i)[j],?_,hV.2 j hj hj2⟩;rw[<- List.getElem?_eq_getElem hj2];exact W2 j (by rw[hYl];omega))
   refine⟨_,_,rfl,?_,k1,st.trans (t1.trans ((Step.drew _ _ _).trans k2))⟩;exact .slcR H.n 0 (n+m) 1 G ⟨w.heap.size,0,ROW.size⟩ Place.upd_same hcap ⟨by simp[hsz],h63⟩
def qey(L:List Int) (i:Nat) (x:Int):List Int:=L.take i++x::L.drop i
theorem quv{H:Heap} {n b m:Nat} {cap:Cap} {L:List Int} (hb:H.get b=some (.cells (qbm L))) (hm:m=L.length):∃σ Φ,qap σ Φ (.slc b 0 m cap) (qac L)/\FitH n σ Φ H ⟨n,[[]]⟩:=
 qol (n:=n) (H:=H) (b:=b) (len:=m) (cap:=cap) (fr:=qbm L) (qg6 L) (by rw[qc8];exact hb) (by rw[qcd];omega) (by rw[List.take_of_length_le (by rw[qcd];omega)])
theorem qyf(L:List Int) (x:Int) (hl:L.length<=1000000) :
  CallAt (ctx T) 91 [qcv 0 1 (L.map qau),.int .i64 (L.length:Int),.slc 1 0 1 (.ex 1)] ⟨2,[qd6 0 (L.map qau)++[(1,.buf 3 0 [.int .i64 x])]]⟩ (qac (L++[x])) ⟨2,[[]]⟩:=by
 have happ:=qlp (P:=PG) (H:=⟨2,[[],qd6 0 (L.map qau)++[(1,.buf 3 0 [.int .i64 x])]]⟩) (elem:=3) (b:=0) (n:=0) (es:=L.map qau) (x:=.slc 1 0 1 (.ex 1)) (cs:=[.int .i64 x]) qmt qxh qvk rfl (by omega) (by omega) rfl
  (by cases L<;>simp[qb3,readCells,zG,qd6,qf1,qe8,Blk.rd]) rfl rfl (qpy L) (by simp;omega)
  (fun h=>by cases L with
   |nil=>exact absurd rfl h
   |cons y r=>simp[zG,qd6])
  (fun h=>by cases L with
   |nil=>rfl
   |cons y r=>cases h) (fun _=>rfl)
 have er:qa8 (L.map qau)++[.int .i64 x]=qbm (L++[x]):=by rw[show L.map qau=qbm L from rfl,qc8];simp[qbm,qau]
 rw[er]at happ;cases L with
 |nil=>replace happ:qby PG ⟨2,[[],[(1,.buf 3 0 [.int .i64 x])]]⟩ 3 .zslc (.slc 1 0 1 (.ex 1))=some (.slc 2 0 1 (.rest 1),⟨3,[[(2,.cells (qbm [x]))],[(1,.buf 3 0 [.int .i64 x])]]⟩):=happ;refine qa0 (s0:=⟨[0,1,2,6,7,8,9],[.zslc,.int .i64 0,.slc 1 0 1 (.ex 1),uD,uD,uD,uD],[],95,⟨2,[]::[[(1,.buf 3 0 [.int .i64 x])]]⟩⟩) Tryz.func91 rfl rfl rfl ?_;have s0:∀H,qcs PG H 38 .zslc (some (.int .i64 0)) none none=some .zslc:=fun _=>rfl;have l0:∀H,qeq PG H 38 .zslc=some 0:=fun _=>rfl;have l1:∀H,qeq PG H 38 (.slc 1 0 1 (.ex 1))=some 1:=fun _=>rfl;apply qR;simp[zS];apply qR;simp[zS,s0];apply qR;simp[zS,l1];apply qR;simp[zS];apply qai rfl;apply qa6;simp;apply qR;simp[zS,l0];apply qR;simp[zS];apply qah rfl;apply qR;simp[zS,happ];apply qa7;simp[zQ,Tryz.f91];exact quv (L:=[x]) (by simp[zG]) rfl
 |cons y r=>
  have hlen:(qbm (y::r)).length=r.length+1:=by rw[qcd];simp
  have e:qcv 0 1 ((y::r).map qau)=.slc 0 0 (r.length+1) (.rest 1):=by simp[qcv]
  have eF:qd6 0 ((y::r).map qau)=[(0,.cells (qbm (y::r)))]:=by show [(0,Blk.cells (qa8 ((y::r).map qau)))]=_;rw[show (y::r).map qau=qbm (y::r) from rfl,qc8]
  rw[e,eF]at happ ⊢;have happ':qby PG ⟨2,[[],[(0,.cells (qbm (y::r))),(1,.buf 3 0 [.int .i64 x])]]⟩ 3 (.slc 0 0 (r.length+1) (.rest 1)) (.slc 1 0 1 (.ex 1))=some (.slc 2 0 (r.length+1+1) (.rest 1),⟨3,[[(2,.cells (qbm (y::r++[x])))],[(1,.buf 3 0 [.int .i64 x])]]⟩):=by simpa[Heap.drop,qeo,killF,getF,Heap.new,pushF]using happ
  obtain⟨v,hv⟩ : ∃v,qcs PG ⟨2,[[],[(0,.cells (qbm (y::r))),(1,.buf 3 0 [.int .i64 x])]]⟩ 38 (.slc 0 0 (r.length+1) (.rest 1)) (some (.int .i64 ((r.length:Int)+1))) none none=some v:=by have ix:=qbj (show r.length+1 < Nat.succ (r.length+1) by omega);rw[Int.natCast_add]at ix;simp only[Int.natCast_one]at ix;have bl:Nat.ble (r.length+1) (r.length+1)=true:=(by rw[Nat.ble_eq];exact Nat.le_refl _);simp[qcs,qr3,qfb,qbp,zG,Blk.rd,hlen,qch,ix,bl]
  have l0:∀H,qeq PG H 38 (.slc 0 0 (r.length+1) (.rest 1))=some (r.length+1):=fun _=>rfl;have l1:∀H,qeq PG H 38 (.slc 1 0 1 (.ex 1))=some 1:=fun _=>rfl;have eL:((y::r).length:Int)=(r.length:Int)+1:=by simp
  rw[eL];refine qa0 (s0:=⟨[0,1,2,6,7,8,9],[.slc 0 0 (r.length+1) (.rest 1),.int .i64 ((r.length:Int)+1),.slc 1 0 1 (.ex 1),uD,uD,uD,uD],[],95,⟨2,[]::[[(0,.cells (qbm (y::r))),(1,.buf 3 0 [.int .i64 x])]]⟩⟩) Tryz.func91 rfl rfl rfl ?_;apply qR;simp[zS];apply qR;simp[zS,hv];apply qR;simp[zS,l1];apply qR;simp[zS];apply qai rfl;apply qa6;simp;apply qR;simp[zS,l0];apply qR;simp[zS];apply qah rfl;apply qR;simp[zS,happ'];apply qa7;simp[zQ,Tryz.f91];exact quv (L:=y::(r++[x])) (by simp[zG]) (by simp)
theorem qyg(L:List Int) (x:Int) (i:Nat) (hi:i<=L.length) (hl:L.length<=1000000) :
  CallAt (ctx T) 91 [qcv 0 1 (L.map qau),.int .i64 (i:Int),.slc 1 0 1 (.ex 1)] ⟨2,[qd6 0 (L.map qau)++[(1,.buf 3 0 [.int .i64 x])]]⟩ (qac (qey L i x)) ⟨2,[[]]⟩:=by
 by_cases h:i=L.length
 ·subst h;have:=qyf (T:=T) L x hl
  rwa [show qey L L.length x=L++[x] by simp[qey]]
 ·have hL:L≠[]:=fun e=>by subst e;simp at hi h;omega
  obtain⟨y,r,rfl⟩ : ∃y r,L=y::r:=by cases L;exact absurd rfl hL;exact⟨_,_,rfl⟩
  have e:qcv 0 1 ((y::r).map qau)=.slc 0 0 (r.length+1) (.rest 1):=by simp[qcv]
  have eF:qd6 0 ((y::r).map qau)=[(0,.cells (qbm (y::r)))]:=by show [(0,Blk.cells (qa8 ((y::r).map qau)))]=_;rw[show (y::r).map qau=qbm (y::r) from rfl,qc8]
  rw[e,eF];have hlt:i < r.length+1:=by simp at hi h;omega
  have hc:=zba (T:=T) (H:=⟨2,[[(0,.cells (qbm (y::r))),(1,.buf 3 0 [.int .i64 x])]]⟩) (b:=0) (vb:=1) (n:=r.length+1) (m:=1) (i:=i) (cs:=qbm (y::r)) (vs:=[.int .i64 x]) (t:=3) (by simp[zG]) (by simp[zG]) (by omega) (by rw[qcd];rfl) rfl hlt (by omega) (qjt _) rfl (by simp at hl;omega);have er:(qbm (y::r)).take i++[.int .i64 x]++(qbm (y::r)).drop i=qbm (qey (y::r) i x):=by simp[qey,qbm,qau]
  rw[er]at hc;obtain⟨σ,Φ,f1,f2⟩:=quv (n:=2) (H:=Heap.new (Heap.drop ⟨2,[[(0,.cells (qbm (y::r))),(1,.buf 3 0 [.int .i64 x])]]⟩ 0) (.cells (qbm (qey (y::r) i x)))) (b:=2) (m:=r.length+1+1) (cap:=.rest 1) (L:=qey (y::r) i x) (by simp[Heap.drop,qeo,killF,getF,Heap.new,pushF,Heap.get,getFs]) (by simp[qey];omega);exact hc.post f1 f2
theorem gone{f:FuncId} {args args':List AV} {v:AV} {σ:List (Nat × Nat)} {H H':Heap} {q:Nat} {F:List (List (Nat × Blk))} (hc:CallAt (ctx T) f args' ⟨q,F⟩ v ⟨q,[[]]⟩) (hv:qa2 v=true) (fh:FitH 0 σ [] H ⟨q,F⟩) (hf:qax σ [] args args') (hn:H'.n=H.n) (sub:H'.ents.Sublist H.ents)
  (out:∀e,e∈H'.ents->∀x,x∈σ->x.1≠e.1):CallAt (ctx T) f args H v H':=by
 have:=hc.framed (H':=H') fh hf ⟨by simp[hn],fun nd _=>nd.sublist (sub.map _),fun e he=>.inr ⟨sub.subset he,out e he⟩⟩ (Nat.le_refl _)
 rwa [qg0 _ hv]at this
theorem qh6(L:List Int):qa3 (qbm L)=true:=(qpy L).pure ▸ (by rw[show L.map qau=qbm L from rfl,qc8])
theorem del_row(A D:List Int) (c:Int) (hl:A.length+D.length<=1000000) {i j N b n:Nat} {g:List (Nat × Blk)} {fs:List (List (Nat × Blk))} (hi:i=A.length) (hj:j=i+1) (hN:N=A.length+D.length+1) (hg:∀e,e∈g++fs.flatten->e.1≠b) :
  CallAt (ctx T) 106 [.slc b 0 N (.rest 1),.int .i64 (i:Int),.int .i64 (j:Int)] ⟨n,((b,.cells (qbm (A++c::D)))::g)::fs⟩ (qac (A++D)) ⟨n,g::fs⟩:=by
 refine gone (σ:=[(b,0)]) (c106 (T:=T) A D c hl hi hj hN) (qfv _) ?_ (by simp[qax,qap,qav,qa2]) rfl (by simp[Heap.ents]) ?_
 ·refine⟨by simp,by simp,by simp[Heap.ents],by simp,fun x hx h=>absurd h (Nat.not_lt_zero _),Nat.zero_le _,?_,fun x h=>by cases h⟩;intro e he;simp only[Heap.ents,List.flatten_cons,List.flatten_nil,List.append_nil,List.mem_singleton]at he;subst he;exact⟨b,.cells (qbm (A++c::D)),by simp,by simp[zG],qao (qh6 _)⟩
 ·intro e he x hx;simp only[List.mem_singleton]at hx;subst hx;exact(hg e (by simpa[Heap.ents]using he)).symm
theorem quq(L:List Int) (x:Int) (i:Nat) (hi:i<=L.length) (hl:L.length<=1000000) {b vb n:Nat} {g:List (Nat × Blk)} {fs:List (List (Nat × Blk))} (hbv:vb≠b) (hg:∀e,e∈g++fs.flatten->e.1≠b/\e.1≠vb) :
  CallAt (ctx T) 91 [qcv b 1 (L.map qau),.int .i64 (i:Int),.slc vb 0 1 (.ex 1)] ⟨n,((vb,.buf 3 0 [.int .i64 x])::(qd6 b (L.map qau)++g))::fs⟩ (qac (qey L i x)) ⟨n,g::fs⟩:=by
 refine gone (σ:=[(b,0),(vb,1)]) (qyg (T:=T) L x i hi hl) (qfv _) ?_ ?_ rfl ?_ ?_
 ·refine⟨by simp[Ne.symm hbv],by simp,?_,?_,fun x hx h=>absurd h (Nat.not_lt_zero _),Nat.zero_le _,?_,fun x h=>by cases h⟩
  ·cases L<;>simp[Heap.ents,qd6]
  ·intro y hy;simp at hy;rcases hy with rfl|rfl<;>simp
  ·intro e he;have h1:∃b' k,(b',1)∈[(b,0),(vb,1)]/\Heap.get ⟨n,((vb,.buf 3 0 [.int .i64 x])::(qd6 b (L.map qau)++g))::fs⟩ b'=some k/\qji [(b,0),(vb,1)] [] k (.buf 3 0 [.int .i64 x]):=⟨vb,.buf 3 0 [.int .i64 x],by simp,by simp[zG],rfl,Nat.le_refl _,Nat.zero_le _,qao (by simp[qa3,qa2])⟩;cases L with
   |nil=>simp only[Heap.ents,List.map_nil,qd6,List.nil_append,List.flatten_cons,List.flatten_nil,List.append_nil,List.mem_singleton]at he;subst he;exact h1
   |cons y r=>
    simp only[Heap.ents,List.map_cons,qd6,List.cons_append,List.nil_append,List.flatten_cons,List.flatten_nil,List.append_nil,List.mem_cons,List.not_mem_nil,or_false]at he;rcases he with rfl|rfl
    ·exact⟨b,.cells (qa8 ((y::r).map qau)),by simp,by simp[zG,qd6,qb4 hbv],by show qax _ _ _ _;exact qao (qpy (y::r)).pure⟩
    ·exact h1
 ·cases L<;>simp[qax,qap,qav,qcv,qa2,Ne.symm hbv]
 ·simp only[Heap.ents,List.flatten_cons,List.cons_append,List.append_assoc];exact((List.sublist_append_right _ _)).cons _
 ·intro e he y hy;obtain⟨h1,h2⟩:=hg e (by simpa[Heap.ents]using he);simp only[List.mem_cons,List.not_mem_nil,or_false]at hy;rcases hy with rfl|rfl
  ·exact h1.symm
  ·exact h2.symm
def e173G:Entry PG:=mkE 173 [[7],[]] (fun x:Tr × Int=>[qba x.1,.int .i64 x.2]) (fun x=>∀n,n∈x.1->n.kids.length<=1000000) (fun x=>.int .i64 (qff x.1 x.2)) fun x h=>c173g (T:=[e88,e47]) rfl rfl x.1 h x.2
theorem q173G(hT:qa9 173 T=some e173G.g) {a:AV} {H:Heap} {t:Tr} (ha:qcy H [7] a=some (qba t)) (hk:∀n,n∈t->n.kids.length<=1000000) (i:Int):qat (ctx T) (.fn 173) [a,.int .i64 i] H=some (.int .i64 (qff t i),H):=
 qb2 hT injTI (t,i) hk rfl (by simp[ha])
