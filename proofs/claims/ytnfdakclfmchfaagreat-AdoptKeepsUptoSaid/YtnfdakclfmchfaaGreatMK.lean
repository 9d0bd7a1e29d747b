/- tree.Cut in general. No condition. -/
import Derived.Test.YtnfdakclfmchfaaGreatMI
import Derived.Shelf.Spec.SlicesInsertGrow
namespace Go.Proofs.YtnfdakclfmchfaaGreat
noncomputable section
set_option linter.unusedSimpArgs false
set_option linter.unusedVariables false
open Go Go.RowKit
set_option maxRecDepth 100000
theorem jO:type_of% @List.length_eq_zero_iff:=@List.length_eq_zero_iff
theorem jX:type_of% @List.not_mem_nil:=@List.not_mem_nil
theorem yn:type_of% @Bool.not_eq_true':=@Bool.not_eq_true'
theorem yp:type_of% @List.length_filter_le:=@List.length_filter_le
theorem y8:type_of% @List.dropLast_concat_getLast:=@List.dropLast_concat_getLast
theorem yJ:type_of% @or_false:=@or_false
theorem Jf:type_of% @List.eq_nil_of_length_eq_zero:=@List.eq_nil_of_length_eq_zero
theorem Jt:type_of% @List.length_eraseIdx_le:=@List.length_eraseIdx_le
variable {T:List (Entry Tryz.prog)}
mutual
theorem ql4:∀(n:Nat) (v:AV),qa2 v=true->refs n v=[]
 |0,_,_=>rfl
 |n+1,v,h=>by
  cases v with
  |func fn a c=>simp only[qa2,jf]at h;simp only[refs,qe2 n a h.1,qe2 n c h.2,jh]
  |agg cs=>simp only[qa2]at h;simp only[refs,qe2 n cs h]
  |tup cs=>simp only[qa2]at h;simp only[refs,qe2 n cs h]
  |_=>first|rfl|(simp[qa2]at h)
theorem qe2:∀(n:Nat) (l:List AV),qa6 l=true->l.flatMap (refs n)=[]
 |_,[],_=>rfl
 |n,v::r,h=>by simp only[qa6,jf]at h;rw[yF,ql4 n v h.1,qe2 n r h.2];rfl
end
def VE(pb:Nat) (pre:List AV) (k sz:Nat) (es:List AV) (post:List AV) (g:List (Nat × Blk)):List (Nat × Blk):=(pb,.cells (pre++qce k sz es::post))::(qcg k es++g)
structure Eok (m pb:Nat) (pre:List AV) (k sz:Nat) (es:List AV) (post:List AV) (g:List (Nat × Blk)):Prop where
 lp:pb < m
 lk:k < m/\k ∉ pb::g.map (·.1)
 lg:∀e,e∈g->e.1 < m
 nd:(pb::g.map (·.1)).Nodup
 sg:∀e,e∈g->SelfB m e.2
 sp:∀σ,Idl m σ->qb8 σ [] pre pre
 sq:∀σ,Idl m σ->qb8 σ [] post post
 el:Elems sz es
section
variable {m n pb k sz:Nat} {pre post es:List AV} {g f:List (Nat × Blk)}
theorem VE_p:getF pb (VE pb pre k sz es post g)=some (.cells (pre++qce k sz es::post)):=by simp[VE,getF]
theorem zbp{b:Nat}:∀{l:List (Nat × Blk)},b ∉ l.map (·.1)->getF b l=none
 |[],_=>rfl
 |e::r,h=>by simp only[List.map_cons,jd,Jh]at h;unfold getF;rw[qax fun x=>h.1 x.symm];exact zbp h.2
theorem Eok.k_p(h:Eok m pb pre k sz es post g):Nat.beq pb k=false:=qax fun e=>h.lk.2 (by simp[e])
theorem qso(h:Eok m pb pre k sz es post g) (hne:es≠[]):getF k (VE pb pre k sz es post g)=some (.cells (qaa es)):=by unfold VE getF;rw[h.k_p,qd4 hne];simp[getF]
theorem qlh{l:List (Nat × Blk)} (nd:(l.map (·.1)).Nodup) {e:Nat × Blk} (he:e∈l):getF e.1 l=some e.2:=by
 have:=qqg (fs:=[l]) (b:=e.1) (k:=e.2) (by simpa using nd) (by simpa using he);simp only[getFs]at this;revert this;cases getF e.1 l with
 |none=>intro h;cases h
 |some x=>intro h;exact h
theorem drop_E(h:Eok m pb pre k sz es post g) (hf:∀i,i < m->getF i f=none):Heap.drop ⟨n,[f,VE pb pre k sz es post g]⟩ k=⟨n,[f,(pb,.cells (pre++qce k sz es::post))::g]⟩:=by
 have h1:getF k f=none:=hf k h.lk.1;have h2:=h.lk.2;simp only[jd,Jh]at h2;unfold Heap.drop;simp only;unfold qg0;rw[h1];simp only;unfold qg0;unfold VE getF;rw[h.k_p];cases es with
 |nil=>simp only[qcg,jv];rw[zbp h2.2];simp[qg0]
 |cons y r=>rw[qd4 (by simp)];simp[getF,killF,h.k_p]
theorem app_E{P:Program} {elem:TypeId} {by_:Nat} {z:AV} (hsz:qcj P elem=some sz) (hby:qch P elem=some by_) (hz:qby P elem=some z) (hzl:z.cells.length=sz) (hb0:by_≠0) (h:Eok m pb pre k sz es post g) {t:Nat} {e:AV} (hel:e.cells.length=sz) (hsg:allSingle e.cells=true)
  (hf:∀i,i < m->getF i f=none) (ht:getF t f=some (.cells e.cells)) (hl:(es.length+1) * by_<=17592186044416) (hrow:∀cs,qpj P elem cs=.cells cs) :
  qbs P ⟨n,[f,VE pb pre k sz es post g]⟩ elem (qce k sz es) (.slc t 0 1 (.ex 1)) =
   some (.slc n 0 (es.length+1) (.rest sz),⟨n+1,[(n,.cells (qaa (es++[e])))::f,(pb,.cells (pre++qce k sz es::post))::g]⟩):=by
 have hd:=drop_E (n:=n) h hf;have hsub:qfe 0 (1 * sz) e.cells=some e.cells:=by have:=qfd e.cells;rw[hel]at this;rw[Nat.one_mul];unfold qfe;rw[yq];exact this
 have:=qia (P:=P) (H:=⟨n,[f,VE pb pre k sz es post g]⟩) (elem:=elem) (b:=k) (n:=0) (es:=es) (x:=.slc t 0 1 (.ex 1)) (cs:=e.cells) hsz hby hz hzl h.el.sz0 hb0 rfl
  (by simp[qbj,readCells,Heap.get,getFs,ht,hsub];simpa using hsub) (by simpa using hel) hsg h.el (by simpa using hl)
  (fun hne=>by simp only[Heap.get,getFs];rw[hf k h.lk.1,qso h hne])
  (fun he=>by subst he;rw[hd];rfl) hrow
 rw[hd]at this;have e1:qaa (es++[e])=qaa es++e.cells:=by rw[qbv];simp[qaa]
 rw[e1];simpa[Heap.new,pushF]using this
theorem prom_E(hp:pb < m) {c:Nat} {row vrow:List AV} (hc:m<=c) (hf:∀i,i < m->getF i f=none) (hr:qa6 row=true) :
  qd3 pb [c] [] [(c,.cells row)::f,(pb,.cells vrow)::g]=[f,(c,.cells row)::(pb,.cells vrow)::g]:=by
 have hcp:Nat.beq c pb=false:=qax (by omega);have g1:getF pb f=none:=hf pb hp;have r1:qgv 100000 [c] ((c,.cells row)::f) []=([(c,.cells row)],f):=by have hk:qv1 (.cells row)=[]:=qe2 4 _ hr;show qgv (Nat.succ (Nat.succ 99998)) [c] ((c,.cells row)::f) []=_;unfold qgv;simp only[getF,jC,hk,jv,killF];unfold qgv;rfl
 have e1:qv0 [((c,.cells row):Nat × Blk)]++[c]=[c]:=by have hk:qv1 (.cells row)=[]:=qe2 4 _ hr;simp[qv0,hk]
 have n1:getF pb ((c,Blk.cells row)::f)=none:=by simp[getF,hcp,g1]
 unfold qd3;rw[n1];simp only[r1,e1];unfold qd3;simp[getF]
theorem fit_E{c:Nat} {H:Heap} {es' cs0:List AV} (h:Eok m pb pre k sz es post g) (hc:m<=c) (hne:es'≠[]) (hcs:∀σ,qb8 σ [] cs0 (qaa es')) (hp:H.get pb=some (.cells (pre++.slc c 0 es'.length (.rest sz)::post))) (hk:H.get c=some (.cells cs0))
  (hg:∀e,e∈g->H.get e.1=some e.2):FitH m ((c,m)::idn m) [] H ⟨m+1,[VE pb pre m sz es' post g]⟩:=by
 have idl:=qx6 (m:=m) (k:=c) (k':=m) hc;have nd:=h.nd;rw[jp]at nd;refine⟨?_,?_,?_,?_,?_,by show m<=m+1;omega,?_,fun x h=>by cases h⟩
 ·simp only[jP,jh,List.map_cons,jp];refine⟨?_,qie m⟩;simp[idn];omega
 ·simp only[List.map_cons,jp];refine⟨?_,qkm m⟩;simp[idn]
 ·simp only[Heap.ents,jq,j7,jh,VE,qd4 hne,List.map_cons,j5,jP,List.cons_append,jv,jp,jd,Jh];refine⟨⟨by have:=h.lp;omega,nd.1⟩,?_,nd.2⟩;intro hx;obtain⟨e,he,hx⟩:=jw.1 hx;have:=h.lg e he;omega
 ·intro x hx;rcases jd.1 hx with rfl|hx
  ·exact jT m
  ·obtain⟨i,hi,rfl⟩:=jw.1 hx;have:i < m:=(by simpa using hi);show i < m+1;omega
 ·intro x hx hlt;rcases jd.1 hx with rfl|hx
  ·simp at hlt
  ·obtain⟨i,hi,rfl⟩:=jw.1 hx;rfl
 ·intro e he;simp only[Heap.ents,jq,j7,jh,VE,qd4 hne,List.cons_append,jv,jd]at he;rcases he with rfl|rfl|he
  ·refine⟨pb,_,ji _ (qe4 h.lp),hp,?_⟩;show qb8 _ _ _ _;rw[qbr hne];refine qgz (h.sp _ idl) ?_;simp only[qb8];exact⟨by simp[qas,qaw],h.sq _ idl⟩
  ·exact⟨c,_,j8,hk,hcs _⟩
  ·exact⟨e.1,e.2,ji _ (qe4 (h.lg e he)),hg e he,h.sg e he _ idl⟩
theorem Eok.next(h:Eok m pb pre k sz es post g) {es':List AV} (he:Elems sz es'):Eok (m+1) pb pre m sz es' post g where
 lp:=by have:=h.lp;omega
 lk:=⟨jT m,fun hx=>by
  rcases jd.1 hx with hx|hx
  ·have:=h.lp;omega
  ·obtain⟨e,he,hx⟩:=jw.1 hx;have:=h.lg e he;omega⟩
 lg:=fun e he=>by have:=h.lg e he;omega
 nd:=h.nd
 sg:=fun e he=>(h.sg e he).mono (Nat.le_succ m)
 sp:=fun σ hσ=>h.sp σ fun i hi=>hσ i (by omega)
 sq:=fun σ hσ=>h.sq σ fun i hi=>hσ i (by omega)
 el:=he
theorem Eok.mono(h:Eok m pb pre k sz es post g) {m':Nat} (hm:m<=m') {es':List AV} (he:Elems sz es'):Eok m' pb pre k sz es' post g where
 lp:=jI h.lp hm
 lk:=⟨jI h.lk.1 hm,h.lk.2⟩
 lg:=fun e he=>jI (h.lg e he) hm
 nd:=h.nd
 sg:=fun e he=>(h.sg e he).mono hm
 sp:=fun σ hσ=>h.sp σ fun i hi=>hσ i (by omega)
 sq:=fun σ hσ=>h.sq σ fun i hi=>hσ i (by omega)
 el:=he
end
@[simp]theorem szT63:qcj PG 63=some 1:=rfl
@[simp]theorem agT63:qh4 PG 63=some false:=rfl
@[simp]theorem byT63:qch PG 63=some 8:=rfl
@[simp]theorem alT63(H:Heap):alV PG H 63=some (.ptr H.n 0,H.new (.cells [.nilP])):=rfl
@[simp]theorem zeT63:qby PG 63=some (.nilP):=rfl
attribute [simp] Tryz.underlying63
@[simp 500]theorem rvF63(H:Heap) (cs:List AV) (o:Nat):qb2 PG H 63 (.fptr cs o)=qcb cs o:=rfl
@[simp 500]theorem rvP63(H:Heap) (b o:Nat):qb2 PG H 63 (.ptr b o)=(H.get b).bind fun k=>k.rd.bind fun cs=>qcb cs o:=rfl
@[simp]theorem szT109:qcj PG 109=some 1:=rfl
@[simp]theorem agT109:qh4 PG 109=some false:=rfl
@[simp]theorem byT109:qch PG 109=some 8:=rfl
@[simp]theorem alT109(H:Heap):alV PG H 109=some (.ptr H.n 0,H.new (.cells [.nilP])):=rfl
@[simp]theorem zeT109:qby PG 109=some (.nilP):=rfl
attribute [simp] Tryz.underlying109
@[simp 500]theorem rvF109(H:Heap) (cs:List AV) (o:Nat):qb2 PG H 109 (.fptr cs o)=qcb cs o:=rfl
@[simp 500]theorem rvP109(H:Heap) (b o:Nat):qb2 PG H 109 (.ptr b o)=(H.get b).bind fun k=>k.rd.bind fun cs=>qcb cs o:=rfl
theorem qmi(L:List At1):Elems 2 (L.map qct):=.map (sz:=2) (f:=qct) (by decide) (fun x=>⟨rfl,by simp[qct,AV.cells,qa6,qa2],fun h=>absurd h (by decide),fun _=>⟨_,rfl⟩⟩) L
theorem qbg(L:List Nd):Elems 7 (L.map qa9):=.map (sz:=7) (f:=qa9) (by decide) (fun x=>⟨rfl,by simp[qa9,Nd.cs,AV.cells,qa6,qa2,qat,qae],fun h=>absurd h (by decide),fun _=>⟨_,rfl⟩⟩) L
theorem qkd:∀(L:List At1),allSingle (qaa (L.map qct))=true
 |[]=>rfl
 |a::r=>by simp only[List.map_cons,qaa,qfj,qkd r];rfl
theorem c87(L:List At1) (hl:L.length<=1000000):CA T 87 [qae L] zH (qae L) zH:=by
 have happ:=qh3 (P:=PG) (elem:=105) (b:=0) (m:=1) (es:=L.map qct) (g:=[]) (fs:=[]) szT105 byT105 zeT105 rfl (by omega) (by omega) (qmi _) (qkd _) (by simp;omega);cases L with
 |nil=>
  refine qa1 (s0:=⟨[0,2],[.fslc 2 [],uD],[],8,⟨0,[[]]⟩⟩) Tryz.func87 rfl rfl rfl ?_;apply qR;simp[zS];refine qsu (pre:=[]) ?_ ?_
  ·apply qR;simp[zS];apply qag rfl;apply qR;simp[zS];apply qa7;simp[zQ,Tryz.f87];exact⟨[],[],by simp[qas,qae],FitH.empty⟩
  ·apply qR;simp[zS];apply qaj rfl;apply qa5;simp;have happ:qbs PG ⟨1,[[(0,.cells [])]]⟩ 105 (.slc 0 0 0 (.ex 0)) .eslc=some (.slc 0 0 0 (.ex 0),⟨1,[[(0,.cells [])]]⟩):=rfl;apply qR;simp[zS,happ];apply qa7;simp[zQ,Tryz.f87];exact qh7 (es:=[]) (len:=0) (qmi []) (by simp[zG,qaa]) (by simp) (by simp)
 |cons x r=>
  have e1:qsp 0 1 2 ((x::r).map qct)=.slc 1 0 (r.length+1) (.rest 2):=by simp[qsp]
  have e2:qki ⟨1,[[(0,.cells [])]]⟩ ((x::r).map qct)=⟨2,[[(1,.cells (qaa ((x::r).map qct))),(0,.cells [])]]⟩:=rfl;rw[e1,e2]at happ;refine qa1 (s0:=⟨[0,2],[qae (x::r),uD],[],8,⟨0,[[]]⟩⟩) Tryz.func87 rfl rfl rfl ?_;apply qR;simp[zS,qae];apply qR;simp[zS,qae];apply qaj rfl;apply qa5;simp;simp only[List.map_cons]at happ;apply qR;simp[zS,happ];apply qa7;simp[zQ,Tryz.f87];exact qh7 (es:=(x::r).map qct) (len:=r.length+1) (qmi _) (by simp[zG]) (by simp) (by rw[ju (by simp)];rfl)
def e87:Entry PG:=mkE 87 [[2]] (fun L:List At1=>[qae L]) (fun L=>L.length<=1000000) (fun L=>qae L) fun L hl=>c87 (T:=[]) L hl
theorem k87(hT:qIn 87 T e87) {L:List At1} (hl:L.length<=1000000) (H:Heap):qb5 (ctx T) (.fn 87) [qae L] H=some (qae L,H):=
 qds hT (fun x y h=>by simp only[jl]at h;exact qdp h.1) L hl (by simp[qa6]) (by simp[qam]) H
def fresh(nd:Nd):Nd:={ nd with up:=-1,kids:=[] }
def qf2(nd:Nd):AV:=.agg [qat nd.kind,qat nd.space,.str nd.name,qae nd.attrs,.str nd.data,qat (-1),.nilS]
theorem c25(hC:qIn 87 T e87) {m pb k:Nat} {pre post:List AV} {L:List Nd} {g:List (Nat × Blk)} (h:Eok m pb pre k 7 (L.map qa9) post g) (hl:L.length+1<=1000000) (nd:Nd) (ha:nd.attrs.length<=1000000) :
  CA T 25 [.ptr pb pre.length,qa9 nd] ⟨m,[VE pb pre k 7 (L.map qa9) post g]⟩ (.int .i64 (L.length:Int)) ⟨m+1,[VE pb pre m 7 ((L++[fresh nd]).map qa9) post g]⟩:=by
 have kc:=fun H=>k87 hC ha H;have lp:=h.lp;have hgv:∀n f,(∀i,i < m->getF i f=none)->Heap.get ⟨n,[f,VE pb pre k 7 (L.map qa9) post g]⟩ pb=some (.cells (pre++qce k 7 (L.map qa9)::post)):=fun n f hf=>by simp only[Heap.get,getFs];rw[hf pb lp,VE_p]
 have fl1:∀cs:List AV,∀i,i < m->getF i [(m,.cells cs)]=none:=fun cs i hi=>by unfold getF;rw[qax (show m≠i by omega)];rfl
 have fl2:∀(j:Nat) (ds cs:List AV),∀i,i < m->getF i [(m+j,.cells ds),(m,.cells cs)]=none:=fun j ds cs i hi=>by unfold getF;rw[qax (show m+j≠i by omega)];exact fl1 cs i hi
 have gx:qcb (pre++qce k 7 (L.map qa9)::post) pre.length=some (qce k 7 (L.map qa9)):=by rw[qf5 (by simp),jB (by omega)];simp
 have hes:Elems 7 (L.map qa9++[qf2 nd]):=by exact(qbg L).append ⟨by omega,fun v hv=>by simp only[j2]at hv;subst hv;exact⟨rfl,by simp[qf2,AV.cells,qat,qae,qa6,qa2],fun h=>by omega,fun _=>⟨_,rfl⟩⟩⟩
 have rd2:∀n,qb2 PG ⟨n,[[(m,.cells nd.cs)],VE pb pre k 7 (L.map qa9) post g]⟩ 35 (.ptr pb pre.length)=some (qce k 7 (L.map qa9)):=fun n=>by simp[hgv n _ (fl1 _),gx]
 have hf2:=fl2 (1+17) (qf2 nd).cells nd.cs;rw[<- Nat.add_assoc]at hf2;obtain⟨f,hfd⟩ : ∃f,f=[(m+1+17,Blk.cells (qf2 nd).cells),(m,.cells nd.cs)]:=⟨_,rfl⟩;rw[<- hfd]at hf2;have happ:=app_E (P:=PG) (elem:=65) (n:=m+1+22) (f:=f) szT65 byT65 zeT65 rfl (by omega) h (t:=m+1+17) (e:=qf2 nd) rfl rfl hf2 (by rw[hfd];simp[getF]) (by simp;omega) (fun _=>rfl);have pr:=prom_E (f:=f) (g:=g) (c:=m+1+22) (row:=qaa (L.map qa9++[qf2 nd])) (vrow:=pre++qce k 7 (L.map qa9)::post) lp (by omega) hf2 hes.pure;have hly:qiz [.slc (m+1+22) 0 (L.length+1) (.rest 7)] pre.length (pre++qce k 7 (L.map qa9)::post)=some (pre++.slc (m+1+22) 0 (L.length+1) (.rest 7)::post):=by have:=qfz (a:=pre) (b:=[qce k 7 (L.map qa9)]) (b':=[.slc (m+1+22) 0 (L.length+1) (.rest 7)]) (c:=post) rfl;simpa using this
 obtain⟨R,hR⟩ : ∃R,R=qaa (L.map qa9++[qf2 nd]):=⟨_,rfl⟩;rw[<- hR]at happ pr;simp only[jD]at happ;have q1:Nat.beq (m+1+22) pb=false:=qax (by omega);have q2:Nat.beq (m+1+17) pb=false:=qax (by omega);have q3:Nat.beq m pb=false:=qax (by omega);have c0:qcb nd.cs 0=some (.int .i64 nd.kind):=rfl;have c1:qcb nd.cs 1=some (.int .i64 nd.space):=rfl;have c2:qcb nd.cs 2=some (.str nd.name):=rfl;have c3:qcb nd.cs 3=some (qae nd.attrs):=rfl;have c4:qcb nd.cs 4=some (.str nd.data):=rfl;have bld:qe6 PG 65 [(0,.int .i64 nd.kind),(1,.int .i64 nd.space),(2,.str nd.name),(3,qae nd.attrs),(4,.str nd.data),(5,.int .i64 (-1))]=some (.agg [.int .i64 nd.kind,.int .i64 nd.space,.str nd.name,qae nd.attrs,.str nd.data,.int .i64 (-1),.nilS]):=rfl;refine qa1 (s0:=⟨[0,1,3,4],[.ptr pb pre.length,qa9 nd,uD,uD],[],32,⟨m,[]::[VE pb pre k 7 (L.map qa9) post g]⟩⟩) Tryz.func25 rfl rfl rfl ?_;apply qR;simp[zS];rw[hfd]at happ pr;simp only[qf2,AV.cells,qat]at happ pr;have sg:(qae nd.attrs).single=true:=rfl;repeat apply wq
 refine qc4 mixed qaz (by decide +kernel) fun B_ hB_=>?_;have hD_:ahead B_ 4 13=false/\ahead B_ 4 18=true/\ahead B_ 4 21=true/\ahead B_ 6 13=false/\ahead B_ 6 18=true/\ahead B_ 6 21=true/\ahead B_ 8 13=false/\ahead B_ 8 18=true/\ahead B_ 8 21=true/\ahead B_ 10 13=false/\ahead B_ 10 18=true/\ahead B_ 10 21=true/\ahead B_ 12 13=true/\ahead B_ 12 18=true/\ahead B_ 12 21=true/\ahead B_ 13 4=false/\ahead B_ 13 6=false/\ahead B_ 13 8=false/\ahead B_ 13 10=false/\ahead B_ 13 12=false/\ahead B_ 13 15=false/\ahead B_ 15 13=false/\ahead B_ 15 18=true/\ahead B_ 15 21=true/\ahead B_ 17 13=false/\ahead B_ 17 18=true/\ahead B_ 17 21=true/\ahead B_ 18 4=false/\ahead B_ 18 6=false/\ahead B_ 18 8=false/\ahead B_ 18 10=false/\ahead B_ 18 12=false/\ahead B_ 18 15=false/\ahead B_ 21 4=false/\ahead B_ 21 6=false/\ahead B_ 21 8=false/\ahead B_ 21 10=false/\ahead B_ 21 12=false/\ahead B_ 21 15=false:=by rw[hB_];decide +kernel
 apply qhi B_;simp[zS,qbc,qar,qb4,qbh,qan,qbd,qba,Heap.lay,qap,qhh,qhg,qei,qeh,qef,qeg,qew,qel,qdj,qdk,qeq,qep,qen,qeo,qet,qeu,qes,qer,hD_,rd2,bld,sg,kc,happ,q1,q2,q3,pr,hly,c0,c1,c2,c3,c4];exact rfl;refine⟨_,rfl,?_,?_⟩;simp[zS,qbh,qan,qc1,qc9,qd2,hD_,rd2,bld,sg,kc,happ,q1,q2,q3,pr,hly,c0,c1,c2,c3,c4];try simp[allPend,Heap.lay,qap,qab]
 have g3:Heap.get ⟨m+1+22+1,[[(m+1+17,.cells [.int .i64 nd.kind,.int .i64 nd.space,.str nd.name,qae nd.attrs,.str nd.data,.int .i64 (-1),.nilS]),(m,.cells nd.cs)],(m+1+22,.cells R)::(pb,.cells (pre++.slc (m+1+22) 0 (L.length+1) (.rest 7)::post))::g]⟩ pb=some (.cells (pre++.slc (m+1+22) 0 (L.length+1) (.rest 7)::post)):=by simp[zG,q1,q2,q3]
 have gx3:qcb (pre++.slc (m+1+22) 0 (L.length+1) (.rest 7)::post) pre.length=some (.slc (m+1+22) 0 (L.length+1) (.rest 7)):=by rw[qf5 (by simp),jB (by omega)];simp
 have hfit:=fit_E (es':=(L++[fresh nd]).map qa9) (c:=m+1+22) (cs0:=R) (H:=⟨m+1+22+1,[[(m+1+17,.cells [.int .i64 nd.kind,.int .i64 nd.space,.str nd.name,qae nd.attrs,.str nd.data,.int .i64 (-1),.nilS]),(m,.cells nd.cs)],(m+1+22,.cells R)::(pb,.cells (pre++.slc (m+1+22) 0 (L.length+1) (.rest 7)::post))::g]⟩) h (by omega) (by simp)
  (fun σ=>by subst hR;rw[j5,qbv,qbv];refine qgz (qau (qbg L).pure) ?_;simp[qaa,qf2,qa9,fresh,Nd.cs,AV.cells,qb8,qas,qat,qa2])
  (by rw[g3];simp)
  (by simp[zG,show Nat.beq (m+1+17) (m+1+22)=false from qax (by omega),show Nat.beq m (m+1+22)=false from qax (by omega)])
  (fun e he=>by have:=h.lg e he;have nd:=h.nd;rw[jp]at nd;have e1:pb≠e.1:=fun x=>nd.1 (jw.2 ⟨e,he,x.symm⟩);simp[zG,qax (show m+1+22≠e.1 by omega),qax (show m+1+17≠e.1 by omega),qax (show m≠e.1 by omega),qax e1,qlh nd.2 he])
 have rd3:qb2 PG ⟨m+1+22+1,[[(m+1+17,.cells [.int .i64 nd.kind,.int .i64 nd.space,.str nd.name,qae nd.attrs,.str nd.data,.int .i64 (-1),.nilS]),(m,.cells nd.cs)],(m+1+22,.cells R)::(pb,.cells (pre++.slc (m+1+22) 0 (L.length+1) (.rest 7)::post))::g]⟩ 35 (.ptr pb pre.length)=some (.slc (m+1+22) 0 (L.length+1) (.rest 7)):=by simp[g3,gx3]
 have hsub:wr .i64 (L.length:Int)=some (L.length:Int):=by have:=qi0 (q:=L.length) (by omega);simpa using this
 have hlen:∀H,qf3 PG H 35 (.slc (m+1+22) 0 (L.length+1) (.rest 7))=some (L.length+1):=fun H=>rfl;apply qR;simp[zS,rd3,hsub,hlen];apply qa7;simp[zQ,Tryz.f25];rw[j5]at hfit;refine⟨_,_,?_,hfit⟩;simp[qas,qa2]
theorem qcx{H:Heap} {k:Nat} {t:Tr} (hne:t≠[]) (hk:H.get k=some (.cells (qaa (t.map qa9)))):qco H [7] (.agg [qce k 7 (t.map qa9)])=some (qao t):=by have el:=qbg t;have e1:=qnz el (ja _);rw[ju (ja _)]at e1;have e2:=el.chunk;rw[jD]at e1 e2;rw[qbr (by simp[hne])];simp[qco,okV,qa6,qa2,qk9,qiy,hk,el.pure,e1,e2,el.size,qao]
def e89:Entry PG:=mkE 89 [[7],[],[]] (fun x:Tr × Int × Int=>[qao x.1,.int .i64 x.2.1,.int .i64 x.2.2]) (fun x=>x.1.length<=1000000) (fun x=>.bool (qft x.1 x.2.1 x.2.2)) fun x h=>c89 (T:=[e88]) rfl x.1 h x.2.1 x.2.2
theorem q89(hT:qIn 89 T e89) {a:AV} {H:Heap} {t:Tr} (ha:qco H [7] a=some (qao t)) (ht:t.length<=1000000) (up kid:Int):qb5 (ctx T) (.fn 89) [a,.int .i64 up,.int .i64 kid] H=some (.bool (qft t up kid),H):=
 qb9 hT injTII (t,up,kid) ht rfl (by simp[ha])
def setUp(t:Tr) (i:Nat) (u:Int):Tr:=t.take i++{ qa0 t i with up:=u }::t.drop (i+1)
theorem qh5{t:Tr} {i:Nat} (h:i < t.length):t=t.take i++qa0 t i::t.drop (i+1):=by
 have:qa0 t i=t[i]:=by simp[qa0,h]
 rw[this,List.getElem_cons_drop,List.take_append_drop]
theorem lay_up{t:Tr} {i:Nat} (h:i < t.length) (u:Int):qiz [.int .i64 u] (i * 7+5) (qaa (t.map qa9))=some (qaa ((setUp t i u).map qa9)):=by
 have hl:(qaa ((t.take i).map qa9)).length=i * 7:=by rw[(qbg _).len];simp;omega
 have e1:qaa (t.map qa9)=(qaa ((t.take i).map qa9)++[qat (qa0 t i).kind,qat (qa0 t i).space,.str (qa0 t i).name,qae (qa0 t i).attrs,.str (qa0 t i).data])++[qat (qa0 t i).up]++(qa8 (qa0 t i).kids::qaa ((t.drop (i+1)).map qa9)):=by
  conv=>lhs;rw[qh5 h]
  simp[qbv,qaa,Nd.cs]
 have e2:qaa ((setUp t i u).map qa9)=(qaa ((t.take i).map qa9)++[qat (qa0 t i).kind,qat (qa0 t i).space,.str (qa0 t i).name,qae (qa0 t i).attrs,.str (qa0 t i).data])++[.int .i64 u]++(qa8 (qa0 t i).kids::qaa ((t.drop (i+1)).map qa9)):=by simp[setUp,qbv,qaa,Nd.cs,qat]
 rw[e1,e2];have:=qfz (a:=qaa ((t.take i).map qa9)++[qat (qa0 t i).kind,qat (qa0 t i).space,.str (qa0 t i).name,qae (qa0 t i).attrs,.str (qa0 t i).data]) (b:=[qat (qa0 t i).up]) (b':=[.int .i64 u]) (c:=qa8 (qa0 t i).kids::qaa ((t.drop (i+1)).map qa9)) rfl;rw[js,hl]at this;exact this
theorem qke{b:Nat} {k:Blk}:∀{f:List (Nat × Blk)},getF b f=none->setF b k f=none
 |[],_=>rfl
 |x::r,h=>by
  unfold getF at h;unfold setF;cases hx:Nat.beq x.1 b with
  |true=>rw[hx]at h;cases h
  |false=>rw[hx]at h;simp only at h ⊢;rw[qke h];rfl
theorem qi8{t:Tr} {i:Nat} (h:i < t.length) (u:Int):(setUp t i u).length=t.length:=by simp[setUp];omega
theorem qho{m n pb k:Nat} {pre post:List AV} {g f:List (Nat × Blk)} {t:Tr} (h:Eok m pb pre k 7 (t.map qa9) post g) {i:Nat} (hi:i < t.length) (u:Int) (hf:∀j,j < m->getF j f=none) :
  writeVar PG ⟨n,[f,VE pb pre k 7 (t.map qa9) post g]⟩ 3 (.ptr k (i * 7+5)) (.int .i64 u)=some ⟨n,[f,VE pb pre k 7 ((setUp t i u).map qa9) post g]⟩:=by
 have hne:t.map qa9≠[]:=by intro e;have:=jR List.length e;simp at this;subst this;simp at hi
 have hne':(setUp t i u).map qa9≠[]:=by simp[setUp]
 have hk:getF k f=none:=hf k h.lk.1;have hg:Heap.get ⟨n,[f,VE pb pre k 7 (t.map qa9) post g]⟩ k=some (.cells (qaa (t.map qa9))):=by simp only[Heap.get,getFs];rw[hk,qso h hne]
 have hs:Heap.set ⟨n,[f,VE pb pre k 7 (t.map qa9) post g]⟩ k (.cells (qaa ((setUp t i u).map qa9)))=some ⟨n,[f,VE pb pre k 7 ((setUp t i u).map qa9) post g]⟩:=by simp only[Heap.set,setFs];rw[qke hk];unfold VE;rw[qd4 hne,qd4 hne',qbr hne,qbr hne'];simp[setF,h.k_p,qi8 hi]
 unfold writeVar;simp[AV.cells,allSingle,AV.single,writeCells,hg,Blk.wt,lay_up hi u,Heap.ready,refs,hs,Blk.re]
theorem qcs{m n pb k:Nat} {pre post es:List AV} {g f:List (Nat × Blk)} (h:Eok m pb pre k 7 es post g) (hf:∀j,j < m->getF j f=none) :
  qb2 PG ⟨n,[f,VE pb pre k 7 es post g]⟩ 37 (.ptr pb pre.length)=some (.agg [qce k 7 es])/\qb2 PG ⟨n,[f,VE pb pre k 7 es post g]⟩ 35 (.ptr pb pre.length)=some (qce k 7 es):=by
 have hgv:Heap.get ⟨n,[f,VE pb pre k 7 es post g]⟩ pb=some (.cells (pre++qce k 7 es::post)):=by simp only[Heap.get,getFs];rw[hf pb h.lp,VE_p]
 have gx:qcb (pre++qce k 7 es::post) pre.length=some (qce k 7 es):=by rw[qf5 (by simp),jB (by omega)];simp
 have sx:qfe pre.length 1 (pre++qce k 7 es::post)=some [qce k 7 es]:=by simp[qfe,qey]
 constructor
 ·simp[qb2,hgv,gx,sx,readCells,Blk.rd]
 ·simp[hgv,gx]
theorem qiw(L:List Int):Elems 1 (L.map qat):=.map (sz:=1) (f:=qat) (by decide) (fun x=>⟨rfl,by simp[qat,AV.cells,qa6,qa2],fun _=>rfl,fun h=>absurd rfl h⟩) L
theorem qfq:∀(L:List Int),allSingle (qaa (L.map qat))=true
 |[]=>rfl
 |a::r=>by simp only[List.map_cons,qaa,qfj,qfq r];rfl
theorem c78(L:List Int) (hl:L.length<=1000000):CA T 78 [qa8 L] zH (qce 0 1 (L.map qat)) ⟨1,[qcg 0 (L.map qat)]⟩:=by
 have happ:=qh3 (P:=PG) (elem:=3) (b:=0) (m:=1) (es:=L.map qat) (g:=[]) (fs:=[]) qhz qk2 qjw rfl (by omega) (by omega) (qiw _) (qfq _) (by simp;omega);cases L with
 |nil=>
  refine qa1 (s0:=⟨[0,2],[.fslc 1 [],uD],[],8,⟨0,[[]]⟩⟩) Tryz.func78 rfl rfl rfl ?_;apply qR;simp[zS];refine qsu (pre:=[]) ?_ ?_
  ·apply qR;simp[zS];apply qag rfl;apply qR;simp[zS];apply qa7;simp[zQ,Tryz.f78];exact qu6 (.inl rfl)
  ·apply qR;simp[zS];apply qaj rfl;apply qa5;simp;have happ:qbs PG ⟨1,[[(0,.cells [])]]⟩ 3 (.slc 0 0 0 (.ex 0)) .eslc=some (.slc 0 0 0 (.ex 0),⟨1,[[(0,.cells [])]]⟩):=rfl;apply qR;simp[zS,happ];apply qa7;simp[zQ,Tryz.f78];exact qu6 (.inr (.inr ⟨_,rfl⟩))
 |cons x r=>
  have e1:qsp 0 1 1 ((x::r).map qat)=.slc 1 0 (r.length+1) (.rest 1):=by simp[qsp]
  have e2:qki ⟨1,[[(0,.cells [])]]⟩ ((x::r).map qat)=⟨2,[[(1,.cells (qaa ((x::r).map qat))),(0,.cells [])]]⟩:=rfl;rw[e1,e2]at happ;refine qa1 (s0:=⟨[0,2],[qa8 (x::r),uD],[],8,⟨0,[[]]⟩⟩) Tryz.func78 rfl rfl rfl ?_;apply qR;simp[zS,qa8];apply qR;simp[zS,qa8];apply qaj rfl;apply qa5;simp;simp only[List.map_cons]at happ;apply qR;simp[zS,happ];apply qa7;simp[zQ,Tryz.f78];exact ends_own (b:=1) (es:=(x::r).map qat) (qiw _) (by simp) (by simp) (by simp[zG])
def e78:Entry PG:=mkOwn 78 [[1]] (fun L:List Int=>[qa8 L]) (fun L=>L.length<=1000000) 1 (fun L=>L.map qat) qiw fun L hl=>c78 (T:=[]) L hl
theorem k78(hT:qIn 78 T e78) {L:List Int} (hl:L.length<=1000000) (H:Heap):qb5 (ctx T) (.fn 78) [qa8 L] H=some (qce H.n 1 (L.map qat),qki H (L.map qat)):=
 mkOwn_eq hT (fun x y h=>by simp only[jl]at h;exact qdu h.1) L hl (by simp[qa6]) (by simp[qam]) H
@[simp]theorem szT80:qcj PG 80=some 1:=rfl
@[simp]theorem agT80:qh4 PG 80=some false:=rfl
@[simp]theorem byT80:qch PG 80=some 8:=rfl
@[simp]theorem alT80(H:Heap):alV PG H 80=some (.ptr H.n 0,H.new (.cells [.nilF])):=rfl
@[simp]theorem zeT80:qby PG 80=some (.nilF):=rfl
attribute [simp] Tryz.underlying80
@[simp 500]theorem rvF80(H:Heap) (cs:List AV) (o:Nat):qb2 PG H 80 (.fptr cs o)=qcb cs o:=rfl
@[simp 500]theorem rvP80(H:Heap) (b o:Nat):qb2 PG H 80 (.ptr b o)=(H.get b).bind fun k=>k.rd.bind fun cs=>qcb cs o:=rfl
theorem qlf(x y:List Int × Int) (h:[qa8 x.1,AV.int .i64 x.2]=[qa8 y.1,AV.int .i64 y.2]):x=y:=by simp only[jl]at h;obtain⟨h1,h2,_⟩:=h;simp only[AV.int.injEq,yc]at h2;exact yv (qdu h1) h2
theorem zc4(L:List Int) (hl:L.length<=1000) (hne:L≠[]) (clo:FuncId) (i:Int) (p:Int->Bool) (hp:∀a,CA T clo [.int .i64 a,.fptr [.int .i64 i] 0] zH (.bool (p a)) zH) :
  CA T 131 [.slc 1 0 L.length (.rest 1),.func (.func clo) [] [.ptr 0 0]] ⟨2,[[(1,.cells (qay L)),(0,.cells [.int .i64 i])]]⟩ (qa8 (L.filter fun a=>!p a)) ⟨2,[[]]⟩:=by
 have h0:=c131 (T:=T) L hl hne clo [.fptr [.int .i64 i] 0] rfl p fun a _=>hp a;have h1:CA T 131 [.slc 0 0 L.length (.rest 1),.func (.func clo) [] [.fptr [.int .i64 i] 0]] ⟨1,[[(0,.cells (qay L))]]⟩ (qa8 (L.filter fun a=>!p a)) ⟨1,[[]]⟩:=by
  generalize L.filter (fun a=>!p a)=K at h0;cases K with
  |nil=>exact h0.post (σ:=[]) (Φ:=[]) (by simp[owX,qas,qa2]) ⟨by simp,by simp,by simp[Heap.ents],by simp,fun x hx=>(by cases hx),by simp,fun e he=>by simp[Heap.ents]at he,fun x hx=>by cases hx⟩
  |cons y s=>
   refine h0.post (σ:=[]) (Φ:=[(0,qay (y::s))]) ?_ ⟨by simp,by simp,by simp[Heap.ents],by simp,fun x hx=>(by cases hx),by simp,fun e he=>by simp[Heap.ents]at he,fun x hx=>?_⟩
   ·rw[zaj (by simp)];simp only[qas];refine .inl ⟨qay (y::s),by simp[qcp],?_,by simp,(qca _).size⟩;have:=qnz (qca (y::s)) (k:=(y::s).length) (by simp[qay]);rw[ju (by simp[qay]),qbf]at this;show _=some (qaa (qay (y::s)));rw[qbf];exact this
   ·simp only[j2]at hx;subst hx;exact⟨qay (y::s),by rw[owB_ne (by simp)];simp[zG],qau (qbq _),qbq _⟩
 have h2:CA T 131 [.slc 1 0 L.length (.rest 1),.func (.func clo) [] [.fptr [.int .i64 i] 0]] ⟨2,[[(1,.cells (qay L))]]⟩ (qa8 (L.filter fun a=>!p a)) ⟨2,[[]]⟩:=by
  have:=h1.framed (args:=[.slc 1 0 L.length (.rest 1),.func (.func clo) [] [.fptr [.int .i64 i] 0]]) (H:=⟨2,[[(1,.cells (qay L))]]⟩) (H':=⟨2,[[]]⟩) (σ:=[(1,0)]) ⟨by simp,by simp,by simp[Heap.ents],by simp,fun x hx h=>absurd h (j3 _),by simp,fun e he=>?_,fun x h=>by cases h⟩ (by simp[qb8,qas,qaw,qa2,qa6]) ⟨by simp,fun _ _=>by simp[Heap.ents],fun e he=>by simp[Heap.ents]at he⟩ (by simp)
  ·rwa [qhb _ (by simp)]at this
  ·simp only[Heap.ents,jq,j7,jh,j2]at he;subst he;exact⟨1,_,by simp,rfl,qau (qbq _)⟩
 refine h2.drop (σ:=[(1,1)]) (Φ:=[(0,[.int .i64 i])]) (fun nd=>⟨by simp,by simp,by simp[Heap.ents],by simp,fun x hx h=>?_,by simp,fun e he=>?_,fun x hx=>?_⟩) ?_
 ·simp at hx;subst hx;rfl
 ·simp only[Heap.ents,jq,j7,jh,j2]at he;subst he;exact⟨1,_,by simp,rfl,qau (qbq _)⟩
 ·simp only[j2]at hx;subst hx;exact⟨_,rfl,by simp[qb8,qas,qa2],by simp[qa6,qa2]⟩
 ·simp[qb8,qas,qaw,qcp]
theorem qxm(clo:FuncId) (i:Int) (p:Int->Bool) (hp:∀a,CA T clo [.int .i64 a,.fptr [.int .i64 i] 0] zH (.bool (p a)) zH) :
  CA T 131 [.zslc,.func (.func clo) [] [.ptr 0 0]] ⟨1,[[(0,.cells [.int .i64 i])]]⟩ (.fslc 1 []) ⟨1,[[]]⟩:=by
 have h0:=(c1310 (T:=T) clo [.fptr [.int .i64 i] 0] rfl).lift (by simp[qa6,qa2]) ⟨1,[[]]⟩;refine h0.drop (σ:=[]) (Φ:=[(0,[.int .i64 i])]) (fun nd=>⟨by simp,by simp,by simp[Heap.ents],by simp,fun x hx h=>(by cases hx),by simp,fun e he=>by simp[Heap.ents]at he,fun x hx=>?_⟩) ?_
 ·simp only[j2]at hx;subst hx;exact⟨_,rfl,by simp[qb8,qas,qa2],by simp[qa6,qa2]⟩
 ·simp[qb8,qas,qaw,qcp]
def qbm(L:List Int) (i:Int):List Int:=L.filter fun k=>!decide (k=i)
def qbz(L:List Int) (i:Int):List Int:=L.filter fun k=>!(decide (k=i) && decide (0<=i))
theorem c197(k i:Int):CA T 197 [.int .i64 k,.fptr [.int .i64 i] 0] zH (.bool (decide (k=i))) zH:=by
 by_cases h:k=i
 ·subst h;refine qa1 (s0:=⟨[0,1,3],[.int .i64 k,.fptr [.int .i64 k] 0,uD],[],7,⟨0,[[]]⟩⟩) Tryz.func197 rfl rfl rfl ?_;apply qR;simp[zS];apply qR;simp[zS];apply qa7;simp[zQ,Tryz.f197];exact qai rfl (by simp)
 ·refine qa1 (s0:=⟨[0,1,3],[.int .i64 k,.fptr [.int .i64 i] 0,uD],[],7,⟨0,[[]]⟩⟩) Tryz.func197 rfl rfl rfl ?_;apply qR;simp[zS];apply qR;simp[zS,h];apply qa7;simp[zQ,Tryz.f197];exact qai rfl (by simp[h])
theorem c143(hC:qIn 78 T e78) (L:List Int) (hl:L.length<=1000) (i:Int):CA T 143 [qa8 L,.int .i64 i] zH (qa8 (qbm L i)) zH:=by
 have kc:=fun H=>k78 hC (L:=L) (by omega) H;cases L with
 |nil=>have kc1:=kc ⟨1,[[(0,.cells [.int .i64 i])]]⟩;simp only[qa8,jP,qki,qce]at kc1;have hd:=qxm (T:=T) 197 i (fun k=>decide (k=i)) fun k=>c197 k i;refine qa1 (s0:=⟨[0,1,3,4],[.fslc 1 [],.int .i64 i,uD,uD],[],9,⟨0,[[]]⟩⟩) Tryz.func143 rfl rfl rfl ?_;apply qR;simp[zS];apply qad;refine qb0 (qci [⟨131,_,_,_,_,hd⟩]) ?_;simp[zS,qdz,kc1];apply qa7;simp[zQ,Tryz.f143];exact⟨[],[],by simp[qas,qbm,qa2],FitH.empty⟩
 |cons x r=>
  have kc1:=kc ⟨1,[[(0,.cells [.int .i64 i])]]⟩;have e1:qki ⟨1,[[(0,.cells [.int .i64 i])]]⟩ ((x::r).map qat)=⟨2,[[(1,.cells (qay (x::r))),(0,.cells [.int .i64 i])]]⟩:=by have hf:qaa ((x::r).map qat)=qay (x::r):=qbf _;rw[<- hf];rfl
  have e2:∀n,qce n 1 ((x::r).map qat)=.slc n 0 (x::r).length (.rest 1):=fun n=>by rw[qbr (by simp),jD]
  rw[e1,e2]at kc1;have hd:=zc4 (T:=T) (x::r) hl (by simp) 197 i (fun k=>decide (k=i)) fun k=>c197 k i;change CallAt _ _ _ _ (qa8 (qbm (x::r) i)) _ at hd;simp only[jE]at kc1 hd;generalize qbm (x::r) i=K at *;refine qa1 (s0:=⟨[0,1,3,4],[qa8 (x::r),.int .i64 i,uD,uD],[],9,⟨0,[[]]⟩⟩) Tryz.func143 rfl rfl rfl ?_;apply qR;simp[zS];apply qad;refine qb0 (qci [⟨131,_,_,_,_,hd⟩]) ?_;simp[zS,qdz,kc1];apply qa7;simp[zQ,Tryz.f143];exact⟨[],[],FitH.empty⟩
def e143:Entry PG:=mkE 143 [[1],[]] (fun x:List Int × Int=>[qa8 x.1,.int .i64 x.2]) (fun x=>x.1.length<=1000) (fun x=>qa8 (qbm x.1 x.2)) fun x h=>c143 (T:=[e78]) rfl x.1 h x.2
theorem k143(hT:qIn 143 T e143) {L:List Int} (hl:L.length<=1000) (i:Int) (H:Heap):qb5 (ctx T) (.fn 143) [qa8 L,.int .i64 i] H=some (qa8 (qbm L i),H):=
 qds hT qlf (L,i) hl (by simp[qa6,qa2]) (by simp[qbl,qam,okV,qa2]) H
theorem c132(k i:Int):CA T 132 [.int .i64 k,.fptr [.int .i64 i] 0] zH (.bool (decide (k=i) && decide (0<=i))) zH:=by
 by_cases h:k=i
 ·subst h;by_cases h0:0<=k
  ·refine qa1 (s0:=⟨[0,1,3],[.int .i64 k,.fptr [.int .i64 k] 0,uD],[],11,⟨0,[[]]⟩⟩) Tryz.func132 rfl rfl rfl ?_;apply qR;simp[zS];apply qR;simp[zS,h0];apply qa7;simp[zQ,Tryz.f132];exact qai rfl (by simp[h0])
  ·refine qa1 (s0:=⟨[0,1,3],[.int .i64 k,.fptr [.int .i64 k] 0,uD],[],11,⟨0,[[]]⟩⟩) Tryz.func132 rfl rfl rfl ?_;apply qR;simp[zS];apply qR;simp[zS,h0];apply qa7;simp[zQ,Tryz.f132];exact qai rfl (by simp[h0])
 ·refine qa1 (s0:=⟨[0,1,3],[.int .i64 k,.fptr [.int .i64 i] 0,uD],[],11,⟨0,[[]]⟩⟩) Tryz.func132 rfl rfl rfl ?_;apply qR;simp[zS];apply qR;simp[zS,h];apply qa7;simp[zQ,Tryz.f132];exact qai rfl (by simp[h])
theorem c48(hC:qIn 78 T e78) (L:List Int) (hl:L.length<=1000) (i:Int):CA T 48 [qa8 L,.int .i64 i] zH (qa8 (qbz L i)) zH:=by
 have kc:=fun H=>k78 hC (L:=L) (by omega) H;cases L with
 |nil=>have kc1:=kc ⟨1,[[(0,.cells [.int .i64 i])]]⟩;simp only[qa8,jP,qki,qce]at kc1;have hd:=qxm (T:=T) 132 i (fun k=>decide (k=i) && decide (0<=i)) fun k=>c132 k i;refine qa1 (s0:=⟨[0,1,3,4],[.fslc 1 [],.int .i64 i,uD,uD],[],9,⟨0,[[]]⟩⟩) Tryz.func48 rfl rfl rfl ?_;apply qR;simp[zS];apply qad;refine qb0 (qci [⟨131,_,_,_,_,hd⟩]) ?_;simp[zS,qdz,kc1];apply qa7;simp[zQ,Tryz.f48];exact⟨[],[],by simp[qas,qbz,qa2],FitH.empty⟩
 |cons x r=>
  have kc1:=kc ⟨1,[[(0,.cells [.int .i64 i])]]⟩;have e1:qki ⟨1,[[(0,.cells [.int .i64 i])]]⟩ ((x::r).map qat)=⟨2,[[(1,.cells (qay (x::r))),(0,.cells [.int .i64 i])]]⟩:=by have hf:qaa ((x::r).map qat)=qay (x::r):=qbf _;rw[<- hf];rfl
  have e2:∀n,qce n 1 ((x::r).map qat)=.slc n 0 (x::r).length (.rest 1):=fun n=>by rw[qbr (by simp),jD]
  rw[e1,e2]at kc1;have hd:=zc4 (T:=T) (x::r) hl (by simp) 132 i (fun k=>decide (k=i) && decide (0<=i)) fun k=>c132 k i;change CallAt _ _ _ _ (qa8 (qbz (x::r) i)) _ at hd;simp only[jE]at kc1 hd;generalize qbz (x::r) i=K at *;refine qa1 (s0:=⟨[0,1,3,4],[qa8 (x::r),.int .i64 i,uD,uD],[],9,⟨0,[[]]⟩⟩) Tryz.func48 rfl rfl rfl ?_;apply qR;simp[zS];apply qad;refine qb0 (qci [⟨131,_,_,_,_,hd⟩]) ?_;simp[zS,qdz,kc1];apply qa7;simp[zQ,Tryz.f48];exact⟨[],[],FitH.empty⟩
def e48:Entry PG:=mkE 48 [[1],[]] (fun x:List Int × Int=>[qa8 x.1,.int .i64 x.2]) (fun x=>x.1.length<=1000) (fun x=>qa8 (qbz x.1 x.2)) fun x h=>c48 (T:=[e78]) rfl x.1 h x.2
theorem k48(hT:qIn 48 T e48) {L:List Int} (hl:L.length<=1000) (i:Int) (H:Heap):qb5 (ctx T) (.fn 48) [qa8 L,.int .i64 i] H=some (qa8 (qbz L i),H):=
 qds hT qlf (L,i) hl (by simp[qa6,qa2]) (by simp[qbl,qam,okV,qa2]) H
theorem dropL_at{L:List Int} {i:Int} {j:Nat} (h:j < L.length):qbm (L.take (j+1)) i=qbm (L.take j) i++(if ¬ L[j]=i then [L[j]] else []):=by unfold qbm;rw[jj h,yU];by_cases q:L[j]=i<;>simp[q]
theorem dropA_at{L:List Int} {i:Int} {j:Nat} (h:j < L.length):qbz (L.take (j+1)) i=qbz (L.take j) i++(if ¬ L[j]=i\/i < 0 then [L[j]] else []):=by
 unfold qbz;rw[jj h,yU];by_cases q:L[j]=i
 ·by_cases q2:i < 0
  ·have:¬ 0<=i:=(by omega);simp[q,q2,this]
  ·have:0<=i:=(by omega);simp[q,q2,this]
 ·simp[q]
theorem c122o(L:List Int) (hl:L.length<=1000000) (i:Int):CA T 122 [qa8 L,.int .i64 i] zH (qce 0 1 (qay (qbm L i))) ⟨1,[qcg 0 (qay (qbm L i))]⟩:=by
 refine qa1 (s0:=⟨[0,1,4,5,6],[qa8 L,.int .i64 i,uD,uD,uD],[],27,⟨0,[[]]⟩⟩) Tryz.func122 rfl rfl rfl ?_;apply qR;simp[zS];apply qR;simp[zS];apply qR;simp[zS];refine qa3 (qb6 (fun j:Nat=>(⟨[0,1,4,5,6],[qa8 L,.int .i64 i,uD,qce 0 1 (qay (qbm (L.take j) i)),.int .i64 j],[],27,⟨1,[qcg 0 (qay (qbm (L.take j) i))]⟩⟩ : St))
  (fun j=>j<=L.length) (fun j=>L.length - j) [(0,0)] [] 0 (jx _)
  ⟨rfl,rfl,rfl,by simp[qb8,qas,qaw,qa2,qbm,qce,qay],by have:=FitH.own1 (k:=0) (b:=0) (m':=1) (τ:=[]) (g:=[]) (H:=⟨0,[[]]⟩) (qca (qbm (L.take 0) i)) (by simp[qbm,qay]) (by simp) (by simp) (by simp) (by simp) (by simp);simpa using this⟩ ?_)
 rintro j hj B hB;have hlen:(qbm (L.take j) i).length<=j:=by refine j6 (yp _ _) ?_;rw[jL];omega
 apply qR;simp[zS,qgi];refine qbe rfl (fun h=>?_) fun h=>?_
 ·simp at h;apply qa5;simp;repeat apply wq
  apply qa3;obtain⟨c,hc⟩ : ∃c,c=L[j]:=⟨_,rfl⟩;have hst:=dropL_at (i:=i) h;rw[<- hc]at hst;have hix:=atIx h;rw[<- hc]at hix;obtain⟨O,hO⟩ : ∃O,O=qbm (L.take j) i:=⟨_,rfl⟩;rw[<- hO]at hst hlen ⊢;by_cases q:c=i
  ·skip
   apply qR;simp[zS,hix,q];apply qaj rfl;apply qa5;simp;apply qR;simp[zS,qbb (show j<=1000000000 by omega)];have en:qbm (L.take (j+1)) i=O:=(by rw[hst,jm (by simp[q])];simp);refine hB _ (j+1) (by omega) (by omega) ⟨[(0,0)],[],rfl,rfl,rfl,?_,?_⟩
   ·rw[en];simp[qb8,qas,qaw,qcn,qa2]
   ·rw[en];have:=FitH.own1 (k:=0) (b:=0) (m':=1) (τ:=[]) (g:=[]) (H:=⟨1,[qcg 0 (qay O)]⟩) (qca O) (fun h=>by have:=qm7 (b:=0) (g:=[]) h;rw[jh]at this;simp[Heap.get,getFs,this]) (by simp) (by simp) (by simp) (by simp) (by simp);simpa using this
  ·apply qR;simp[zS,hix,q];apply qag rfl;have en:qbm (L.take (j+1)) i=O++[c]:=(by rw[hst,jo q]);have happ:=qf0 (P:=PG) (elem:=3) (b:=0) (t:=1) (m:=2) (es:=qay O) (cs:=[.int .i64 c]) (g:=[]) (fs:=[]) qhz qk2 qjw rfl (by omega) (by omega) rfl rfl (qca _) (by simp[qay];omega) (by omega) (by simp) (by simp);simp only[jh]at happ;apply qR;simp[zS,hix,happ];apply qR;simp[zS,qbb (show j<=1000000000 by omega)];have hne:qay (qbm (L.take (j+1)) i)≠[]:=(by rw[en];simp[qay]);refine hB _ (j+1) (by omega) (by omega) ⟨[(2,0)],[],rfl,rfl,rfl,?_,?_⟩
   ·rw[qbr hne,en];simp[qb8,qas,qaw,qa2,qay]
   ·have:=FitH.own1 (k:=0) (b:=2) (m':=1) (τ:=[]) (g:=[]) (H:=⟨3,[[(2,.cells (qaa (qay O)++[.int .i64 c])),(1,.cells [.int .i64 c])]]⟩) (qca (qbm (L.take (j+1)) i)) (fun _=>by rw[en,qbf,qbf,qnm];simp[zG]) (by simp) (by simp) (by simp) (by simp) (by simp);simpa using this
 ·simp at h;apply qak;simp;apply qR;simp[zS];apply qa7;simp[zQ,Tryz.f122];rw[ju h];exact⟨[(0,0)],[],qcn (by simp[qaw]),by have:=FitH.own1 (k:=0) (b:=0) (m':=1) (τ:=[]) (g:=[]) (H:=⟨1,[qcg 0 (qay (qbm L i))]⟩) (qca (qbm L i)) (fun h=>by have:=qm7 (b:=0) (g:=[]) h;rw[jh]at this;simp[Heap.get,getFs,this]) (by simp) (by simp) (by simp) (by simp) (by simp);simpa using this⟩
theorem c122(L:List Int) (hl:L.length<=1000000) (i:Int):CA T 122 [qa8 L,.int .i64 i] zH (qa8 (qbm L i)) zH:=(c122o L hl i).froze (qca _)
def e122:Entry PG:=mkE 122 [[1],[]] (fun x:List Int × Int=>[qa8 x.1,.int .i64 x.2]) (fun x=>x.1.length<=1000000) (fun x=>qa8 (qbm x.1 x.2)) fun x h=>c122 (T:=[]) x.1 h x.2
theorem k122(hT:qIn 122 T e122) {L:List Int} (hl:L.length<=1000000) (i:Int) (H:Heap):qb5 (ctx T) (.fn 122) [qa8 L,.int .i64 i] H=some (qa8 (qbm L i),H):=
 qds hT qlf (L,i) hl (by simp[qa6,qa2]) (by simp[qbl,qam,okV,qa2]) H
theorem c113o(L:List Int) (hl:L.length<=1000000) (i:Int):CA T 113 [qa8 L,.int .i64 i] zH (qce 0 1 (qay (qbz L i))) ⟨1,[qcg 0 (qay (qbz L i))]⟩:=by
 refine qa1 (s0:=⟨[0,1,4,5,6],[qa8 L,.int .i64 i,uD,uD,uD],[],31,⟨0,[[]]⟩⟩) Tryz.func113 rfl rfl rfl ?_;apply qR;simp[zS];apply qR;simp[zS];apply qR;simp[zS];refine qa3 (qb6 (fun j:Nat=>(⟨[0,1,4,5,6],[qa8 L,.int .i64 i,uD,qce 0 1 (qay (qbz (L.take j) i)),.int .i64 j],[],31,⟨1,[qcg 0 (qay (qbz (L.take j) i))]⟩⟩ : St))
  (fun j=>j<=L.length) (fun j=>L.length - j) [(0,0)] [] 0 (jx _)
  ⟨rfl,rfl,rfl,by simp[qb8,qas,qaw,qa2,qbz,qce,qay],by have:=FitH.own1 (k:=0) (b:=0) (m':=1) (τ:=[]) (g:=[]) (H:=⟨0,[[]]⟩) (qca (qbz (L.take 0) i)) (by simp[qbz,qay]) (by simp) (by simp) (by simp) (by simp) (by simp);simpa using this⟩ ?_)
 rintro j hj B hB;have hlen:(qbz (L.take j) i).length<=j:=by refine j6 (yp _ _) ?_;rw[jL];omega
 apply qR;simp[zS,qgi];refine qbe rfl (fun h=>?_) fun h=>?_
 ·simp at h;apply qa5;simp;repeat apply wq
  apply qa3;obtain⟨c,hc⟩ : ∃c,c=L[j]:=⟨_,rfl⟩;have hst:=dropA_at (i:=i) h;rw[<- hc]at hst;have hix:=atIx h;rw[<- hc]at hix;obtain⟨O,hO⟩ : ∃O,O=qbz (L.take j) i:=⟨_,rfl⟩;rw[<- hO]at hst hlen ⊢;by_cases q:c=i
  ·skip
   by_cases q2:i < 0
   ·apply qR;simp[zS,hix,q,q2];apply qag rfl;have en:qbz (L.take (j+1)) i=O++[c]:=(by rw[hst,jo (.inr q2)]);have happ:=qf0 (P:=PG) (elem:=3) (b:=0) (t:=1) (m:=2) (es:=qay O) (cs:=[.int .i64 c]) (g:=[]) (fs:=[]) qhz qk2 qjw rfl (by omega) (by omega) rfl rfl (qca _) (by simp[qay];omega) (by omega) (by simp) (by simp);simp only[jh]at happ;apply qR;simp[zS,hix,happ];apply qR;simp[zS,qbb (show j<=1000000000 by omega)];have hne:qay (qbz (L.take (j+1)) i)≠[]:=(by rw[en];simp[qay]);refine hB _ (j+1) (by omega) (by omega) ⟨[(2,0)],[],rfl,rfl,rfl,?_,?_⟩
    ·rw[qbr hne,en];simp[qb8,qas,qaw,qa2,qay]
    ·have:=FitH.own1 (k:=0) (b:=2) (m':=1) (τ:=[]) (g:=[]) (H:=⟨3,[[(2,.cells (qaa (qay O)++[.int .i64 c])),(1,.cells [.int .i64 c])]]⟩) (qca (qbz (L.take (j+1)) i)) (fun _=>by rw[en,qbf,qbf,qnm];simp[zG]) (by simp) (by simp) (by simp) (by simp) (by simp);simpa using this
   ·apply qR;simp[zS,hix,q,q2];apply qaj rfl;apply qa5;simp;apply qR;simp[zS,qbb (show j<=1000000000 by omega)];have en:qbz (L.take (j+1)) i=O:=(by rw[hst,jm (by simp[q,q2])];simp);refine hB _ (j+1) (by omega) (by omega) ⟨[(0,0)],[],rfl,rfl,rfl,?_,?_⟩
    ·rw[en];simp[qb8,qas,qaw,qcn,qa2]
    ·rw[en];have:=FitH.own1 (k:=0) (b:=0) (m':=1) (τ:=[]) (g:=[]) (H:=⟨1,[qcg 0 (qay O)]⟩) (qca O) (fun h=>by have:=qm7 (b:=0) (g:=[]) h;rw[jh]at this;simp[Heap.get,getFs,this]) (by simp) (by simp) (by simp) (by simp) (by simp);simpa using this
  ·apply qR;simp[zS,hix,q];apply qag rfl;have en:qbz (L.take (j+1)) i=O++[c]:=(by rw[hst,jo (.inl q)]);have happ:=qf0 (P:=PG) (elem:=3) (b:=0) (t:=1) (m:=2) (es:=qay O) (cs:=[.int .i64 c]) (g:=[]) (fs:=[]) qhz qk2 qjw rfl (by omega) (by omega) rfl rfl (qca _) (by simp[qay];omega) (by omega) (by simp) (by simp);simp only[jh]at happ;apply qR;simp[zS,hix,happ];apply qR;simp[zS,qbb (show j<=1000000000 by omega)];have hne:qay (qbz (L.take (j+1)) i)≠[]:=(by rw[en];simp[qay]);refine hB _ (j+1) (by omega) (by omega) ⟨[(2,0)],[],rfl,rfl,rfl,?_,?_⟩
   ·rw[qbr hne,en];simp[qb8,qas,qaw,qa2,qay]
   ·have:=FitH.own1 (k:=0) (b:=2) (m':=1) (τ:=[]) (g:=[]) (H:=⟨3,[[(2,.cells (qaa (qay O)++[.int .i64 c])),(1,.cells [.int .i64 c])]]⟩) (qca (qbz (L.take (j+1)) i)) (fun _=>by rw[en,qbf,qbf,qnm];simp[zG]) (by simp) (by simp) (by simp) (by simp) (by simp);simpa using this
 ·simp at h;apply qak;simp;apply qR;simp[zS];apply qa7;simp[zQ,Tryz.f113];rw[ju h];exact⟨[(0,0)],[],qcn (by simp[qaw]),by have:=FitH.own1 (k:=0) (b:=0) (m':=1) (τ:=[]) (g:=[]) (H:=⟨1,[qcg 0 (qay (qbz L i))]⟩) (qca (qbz L i)) (fun h=>by have:=qm7 (b:=0) (g:=[]) h;rw[jh]at this;simp[Heap.get,getFs,this]) (by simp) (by simp) (by simp) (by simp) (by simp);simpa using this⟩
theorem c113(L:List Int) (hl:L.length<=1000000) (i:Int):CA T 113 [qa8 L,.int .i64 i] zH (qa8 (qbz L i)) zH:=(c113o L hl i).froze (qca _)
def e113:Entry PG:=mkE 113 [[1],[]] (fun x:List Int × Int=>[qa8 x.1,.int .i64 x.2]) (fun x=>x.1.length<=1000000) (fun x=>qa8 (qbz x.1 x.2)) fun x h=>c113 (T:=[]) x.1 h x.2
theorem k113(hT:qIn 113 T e113) {L:List Int} (hl:L.length<=1000000) (i:Int) (H:Heap):qb5 (ctx T) (.fn 113) [qa8 L,.int .i64 i] H=some (qa8 (qbz L i),H):=
 qds hT qlf (L,i) hl (by simp[qa6,qa2]) (by simp[qbl,qam,okV,qa2]) H
def qdw(L:List Int):Int:=(L.getLast?).getD (-1)
theorem qzh{L:List Int} (h:0 < L.length):qdw L=L[L.length - 1]:=by unfold qdw;rw[List.getLast?_eq_getElem?,List.getElem?_eq_getElem (by omega)];rfl
theorem qw3{n:Nat} (h:0 < n) (hn:n<=1000000000):wr .i64 ((n:Int) - 1)=some ((n - 1:Nat):Int):=by obtain⟨q,rfl⟩ : ∃q,n=q+1:=⟨n - 1,by omega⟩;have:=qi0 (q:=q) (by omega);simpa using this
theorem c44(L:List Int) (hl:L.length<=1000000):CA T 44 [qa8 L] zH (.int .i64 (qdw L)) zH:=by
 by_cases h:0 < L.length
 ·have hi:(0:Int) < (L.length:Int):=by omega
  have hs:=qw3 h (by omega);have ha:=atIx (L:=L) (i:=L.length - 1) (by omega);refine qa1 (s0:=⟨[0,2,3],[qa8 L,uD,uD],[],13,⟨0,[[]]⟩⟩) Tryz.func44 rfl rfl rfl ?_;apply qR;simp[zS];apply qR;simp[zS,qgi];apply qR;simp[zS,h,hi];refine qag (by simp[qc5,St.get,h]) ?_;apply qR;simp[zS,hs,ha];apply qa7;simp[zQ,Tryz.f44];exact qai rfl (by simp[qzh h])
 ·have e:L=[]:=Jf (by omega);subst e;have l0:∀H,qf3 PG H 38 (.fslc 1 [])=some 0:=fun H=>rfl;refine qa1 (s0:=⟨[0,2,3],[.fslc 1 [],uD,uD],[],13,⟨0,[[]]⟩⟩) Tryz.func44 rfl rfl rfl ?_;apply qR;simp[zS];apply qR;simp[zS,l0];apply qR;simp[zS];apply qaj rfl;apply qa5;simp;apply qR;simp[zS];apply qa7;simp[zQ,Tryz.f44];exact qai rfl (by rfl)
theorem c109(L:List Int) (hl:L.length<=1000000):CA T 109 [qa8 L] zH (.int .i64 (qdw L)) zH:=by
 by_cases h:0 < L.length
 ·have hi:¬ (L.length:Int)=0:=by omega
  have hj:¬ L.length=0:=by omega
  have hk:¬ L=[]:=by intro e;subst e;simp at h
  have hs:=qw3 h (by omega);have ha:=atIx (L:=L) (i:=L.length - 1) (by omega);refine qa1 (s0:=⟨[0,2],[qa8 L,uD],[],12,⟨0,[[]]⟩⟩) Tryz.func109 rfl rfl rfl ?_;apply qR;simp[zS];apply qR;simp[zS,qgi,hi,hj,hk];refine qaj (by simp[qc5,St.get,hi,hj,hk]) ?_;apply qa5;simp;apply qR;simp[zS,qgi,hs,ha];apply qa7;simp[zQ,Tryz.f109];exact qai rfl (by simp[qzh h])
 ·have e:L=[]:=Jf (by omega);subst e;have l0:∀H,qf3 PG H 38 (.fslc 1 [])=some 0:=fun H=>rfl;refine qa1 (s0:=⟨[0,2],[.fslc 1 [],uD],[],12,⟨0,[[]]⟩⟩) Tryz.func109 rfl rfl rfl ?_;apply qR;simp[zS];apply qR;simp[zS,l0];apply qag rfl;apply qR;simp[zS];apply qa7;simp[zQ,Tryz.f109];exact qai rfl (by rfl)
theorem qou(x y:List Int) (h:[qa8 x]=[qa8 y]):x=y:=by simp only[jl]at h;exact qdu h.1
def e44:Entry PG:=mkE 44 [[1]] (fun x:List Int=>[qa8 x]) (fun x=>x.length<=1000000) (fun x=>.int .i64 (qdw x)) fun x h=>c44 (T:=[]) x h
theorem k44(hT:qIn 44 T e44) {L:List Int} (hl:L.length<=1000000) (H:Heap):qb5 (ctx T) (.fn 44) [qa8 L] H=some (.int .i64 (qdw L),H):=
 qb9 hT qou L hl rfl (by simp[qbl,qam,okV,qa2])
def e109:Entry PG:=mkE 109 [[1]] (fun x:List Int=>[qa8 x]) (fun x=>x.length<=1000000) (fun x=>.int .i64 (qdw x)) fun x h=>c109 (T:=[]) x h
theorem k109(hT:qIn 109 T e109) {L:List Int} (hl:L.length<=1000000) (H:Heap):qb5 (ctx T) (.fn 109) [qa8 L] H=some (.int .i64 (qdw L),H):=
 qb9 hT qou L hl rfl (by simp[qbl,qam,okV,qa2])
def atP(L:List Int) (i:Int):Int:=qb7 (fun k=>decide (k=i)) L 0
theorem c82(L:List Int) (hl:L.length<=1000000) (i:Int):CA T 82 [qa8 L,.int .i64 i] zH (.int .i64 (atP L i)) zH:=by
 refine qa1 (s0:=⟨[0,1,4,5],[qa8 L,.int .i64 i,uD,uD],[],19,⟨0,[[]]⟩⟩) Tryz.func82 rfl rfl rfl ?_;apply qR;simp[zS];apply qR;simp[zS];refine qa3 (qb6 (fun j:Nat=>(⟨[0,1,4,5],[qa8 L,.int .i64 i,uD,.int .i64 j],[],19,⟨0,[[]]⟩⟩ : St))
  (fun j=>j<=L.length/\qb7 (fun k=>decide (k=i)) L 0=qb7 (fun k=>decide (k=i)) (L.drop j) j) (fun j=>L.length - j) [] [] 0 ⟨jx _,rfl⟩ ⟨rfl,rfl,rfl,by simp[qb8,qas,qa2,qa6],FitH.nothing⟩ ?_)
 rintro j ⟨hj,hx⟩ B hB;apply qR;simp[zS,qgi];refine qbe rfl (fun h=>?_) fun h=>?_
 ·simp at h;rw[qfs h]at hx;apply qa5;simp;repeat apply wq
  apply qa3;have ha:=atIx h;generalize L[j]=c at *;by_cases q:c=i
  ·simp only[q,yz,jQ]at hx;apply qR;simp[zS,ha,q];apply qag rfl;apply qR;simp[zS];apply qa7;simp[zQ,Tryz.f82];exact qai rfl (by rw[atP,hx])
  ·simp only[q,yr,jz,jM]at hx;apply qR;simp[zS,ha,q];apply qaj rfl;apply qa5;simp;apply qR;simp[zS,qbb (show j<=1000000000 by omega)];exact hB _ (j+1) (by omega) ⟨by omega,hx⟩ ⟨[],[],⟨rfl,rfl,rfl,by simp[qb8,qas,qa2,qa6],FitH.nothing⟩⟩
 ·simp at h;apply qak;simp;apply qR;simp[zS];apply qa7;simp[zQ,Tryz.f82];exact qai rfl (by rw[atP,hx,ya h];rfl)
def e82:Entry PG:=mkE 82 [[1],[]] (fun x:List Int × Int=>[qa8 x.1,.int .i64 x.2]) (fun x=>x.1.length<=1000000) (fun x=>.int .i64 (atP x.1 x.2)) fun x h=>c82 (T:=[]) x.1 h x.2
theorem k82(hT:qIn 82 T e82) {L:List Int} (hl:L.length<=1000000) (i:Int) (H:Heap):qb5 (ctx T) (.fn 82) [qa8 L,.int .i64 i] H=some (.int .i64 (atP L i),H):=
 qb9 hT qlf (L,i) hl rfl (by simp[qbl,qam,okV,qa2])
theorem c111(hA:qIn 82 T e82) (L:List Int) (hl:L.length<=1000000) (i:Int):CA T 111 [qa8 L,.int .i64 i] zH (.int .i64 (atP L i)) zH:=by have k:=fun H=>k82 hA hl i H;refine qa1 (s0:=⟨[0,1,4],[qa8 L,.int .i64 i,uD],[],8,⟨0,[[]]⟩⟩) Tryz.func111 rfl rfl rfl ?_;apply qR;simp[zS];apply qR;simp[zS,k];apply qa7;simp[zQ,Tryz.f111];exact qai rfl (by rfl)
def e111:Entry PG:=mkE 111 [[1],[]] (fun x:List Int × Int=>[qa8 x.1,.int .i64 x.2]) (fun x=>x.1.length<=1000000) (fun x=>.int .i64 (atP x.1 x.2)) fun x h=>c111 (T:=[e82]) rfl x.1 h x.2
theorem k111(hT:qIn 111 T e111) {L:List Int} (hl:L.length<=1000000) (i:Int) (H:Heap):qb5 (ctx T) (.fn 111) [qa8 L,.int .i64 i] H=some (.int .i64 (atP L i),H):=
 qb9 hT qlf (L,i) hl rfl (by simp[qbl,qam,okV,qa2])
theorem c47(L:List Int) (x:Int) (hl:L.length<=1000000):CA T 47 [qa8 L,.int .i64 x] zH (.int .i64 (qb7 (fun y=>decide (x=y)) L 0)) zH:=by
 refine qa1 (s0:=⟨[0,1,4,5,7,8],[qa8 L,.int .i64 x,uD,uD,uD,uD],[],19,⟨0,[[]]⟩⟩) Tryz.func47 rfl rfl rfl ?_;apply qR;simp[zS];apply qR;simp[zS,qgi];refine qa3 (qb6 (fun i:Nat=>(⟨[0,1,4,5,7,8],[qa8 L,.int .i64 x,uD,uD,.int .i64 (L.length:Nat),.int .i64 i],[],19,⟨0,[[]]⟩⟩ : St))
  (fun i=>i<=L.length/\qb7 (fun y=>decide (x=y)) L 0=qb7 (fun y=>decide (x=y)) (L.drop i) i) (fun i=>L.length - i) [] [] 0 ⟨jx _,rfl⟩ ⟨rfl,rfl,rfl,by simp[qb8,qas,qa2,qa6,qa8],FitH.nothing⟩ ?_)
 rintro i ⟨hi,hx⟩ B hB;apply qR;simp[zS];repeat apply wq
 refine qbe rfl (fun h=>?_) fun h=>?_
 ·simp at h;rw[qfs h]at hx;apply qa5;simp;repeat apply wq
  apply qa3;apply qR;simp[zS];by_cases h2:L[i]=x
  ·apply qR;simp[zS,atI h,h2];apply qag rfl;apply qR;simp[zS];apply qa7;simp[zQ,Tryz.f47];exact qai rfl (by rw[hx,jo (by simp[h2])])
  ·have h2':¬ x=L[i]:=fun e=>h2 e.symm;apply qR;simp[zS,atI h,h2'];apply qaj rfl;apply qa5;simp;apply qR;simp[zS,qbb (show i<=1000000000 by omega)];exact hB _ (i+1) (by omega) ⟨by omega,by rw[hx,jm (by simp[h2'])]⟩ ⟨[],[],⟨rfl,rfl,rfl,by simp[qb8,qas,qa2,qa6,qa8],FitH.nothing⟩⟩
 ·simp at h;apply qak;simp;apply qR;simp[zS];apply qa7;simp[zQ,Tryz.f47];exact qai rfl (by rw[hx,ya h];rfl)
def e47:Entry PG:=mkE 47 [[1],[]] (fun x:List Int × Int=>[qa8 x.1,.int .i64 x.2]) (fun x=>x.1.length<=1000000) (fun x=>.int .i64 (qb7 (fun y=>decide (x.2=y)) x.1 0)) fun x hx=>c47 (T:=[]) x.1 x.2 hx
theorem k47(hT:qIn 47 T e47) {L:List Int} (x:Int) (hl:L.length<=1000000) (H:Heap):qb5 (ctx T) (.fn 47) [qa8 L,.int .i64 x] H=some (.int .i64 (qb7 (fun y=>decide (x=y)) L 0),H):=
 qb9 hT qlf (L,x) hl rfl (by simp[qa8])
theorem qru{x:Int}:∀(L:List Int) (k:Nat),(0<=qb7 (fun y=>decide (x=y)) L k)↔x∈L
 |[],k=>by simp[qb7]
 |y::r,k=>by
  unfold qb7;by_cases h:x=y
  ·simp[h]
  ·simp only[h,yr,jz,jM,jd,false_or];exact qru r (k+1)
theorem c128(hI:qIn 47 T e47) (L:List Int) (x:Int) (hl:L.length<=1000000):CA T 128 [qa8 L,.int .i64 x] zH (.bool (decide (x∈L))) zH:=by
 have hk:=fun H=>k47 hI x hl H;have hm:=qru (x:=x) L 0;generalize qb7 (fun y=>decide (x=y)) L 0=v at *;simp only[qa8]at hk;refine qa1 (s0:=⟨[0,1,4],[qa8 L,.int .i64 x,uD],[],9,⟨0,[[]]⟩⟩) Tryz.func128 rfl rfl rfl ?_
 (repeat (first
  |(apply qad)
  |(apply qa3)
  |(apply qdf;simp only[qab,qa4])
  |((refine qb0 qaz ?_);simp[zS,qa8,hk])
  |apply qag rfl
  |apply qaj rfl
  |((apply qa5);simp only[qab,qa4])
  |((apply qak);simp)))
 apply qa7;simp[zQ,Tryz.f128];exact qai rfl (by simp[hm])
def e128:Entry PG:=mkE 128 [[1],[]] (fun x:List Int × Int=>[qa8 x.1,.int .i64 x.2]) (fun x=>x.1.length<=1000000) (fun x=>.bool (decide (x.2∈x.1))) fun x hx=>c128 (T:=[e47]) rfl x.1 x.2 hx
theorem k128(hT:qIn 128 T e128) {L:List Int} (x:Int) (hl:L.length<=1000000) (H:Heap):qb5 (ctx T) (.fn 128) [qa8 L,.int .i64 x] H=some (.bool (decide (x∈L)),H):=
 qb9 hT qlf (L,x) hl rfl (by simp[qa8])
theorem atP_eq(L:List Int) (x:Int):qb7 (fun y=>decide (x=y)) L 0=atP L x:=by
 have:(fun y=>decide (x=y))=fun y:Int=>decide (y=x):=by
  funext y;by_cases h:x=y
  ·simp[h]
  ·have h':¬ y=x:=fun e=>h e.symm;simp[h,h']
 rw[this];rfl
def qd6(t:Tr) (i:Int):Int:=if isB t i=true/\isB t (qa0 t i).up=true then atP (qa0 t (qa0 t i).up).kids i else -1
theorem isB_iff{t:Tr} {i:Int}:isB t i=true↔0<=i/\i < (t.length:Int):=by simp[isB]
theorem c173g(hS:qIn 88 T e88) (hI:qIn 47 T e47) (t:Tr) (hk:∀n,n∈t->n.kids.length<=1000000) (i:Int):CA T 173 [qao t,.int .i64 i] zH (.int .i64 (qd6 t i)) zH:=by
 have ks:=fun i H=>k88 hS t i H;simp only[qao]at ks;by_cases h1:isB t i=true
 ·obtain⟨i0,i1⟩:=isB_iff.1 h1;have a1:=atX i0 i1;have c5:qcb (qa0 t i).cs 5=some (.int .i64 (qa0 t i).up):=rfl;by_cases h2:isB t (qa0 t i).up=true
  ·obtain⟨u0,u1⟩:=isB_iff.1 h2;have a2:=atX u0 u1;have c6:qcb (qa0 t (qa0 t i).up).cs 6=some (qa8 (qa0 t (qa0 t i).up).kids):=rfl;have kI:=fun H=>k47 hI (L:=(qa0 t (qa0 t i).up).kids) i (hk _ (qdo u0 u1)) H;have e:qd6 t i=qb7 (fun y=>decide (i=y)) (qa0 t (qa0 t i).up).kids 0:=(by unfold qd6;rw[jo ⟨h1,h2⟩,atP_eq]);rw[e];generalize qb7 (fun y=>decide (i=y)) (qa0 t (qa0 t i).up).kids 0=v at *;refine qa1 (s0:=⟨[0,1,2,4],[qao t,.int .i64 i,uD,uD],[],33,⟨0,[[]]⟩⟩) Tryz.func173 rfl rfl rfl ?_;apply qR;simp[zS,qao];repeat apply wq
   refine qc4 mixed qaz (by decide +kernel) fun B_ hB_=>?_;have hD_:ahead B_ 0 2=true/\ahead B_ 0 12=true/\ahead B_ 2 0=false/\ahead B_ 2 5=true/\ahead B_ 2 7=true/\ahead B_ 2 11=true/\ahead B_ 5 2=false/\ahead B_ 5 12=true/\ahead B_ 7 2=false/\ahead B_ 7 12=true/\ahead B_ 11 2=false/\ahead B_ 11 12=true/\ahead B_ 12 0=false/\ahead B_ 12 5=false/\ahead B_ 12 7=false/\ahead B_ 12 11=false:=(by rw[hB_];decide +kernel);apply qhi B_;simp[zS,qbc,qar,qb4,qbh,qan,qbd,qba,Heap.lay,qap,qhh,qhg,qei,qeh,qef,qeg,qew,qel,qdj,qdk,qeq,qep,qen,qeo,qet,qeu,qes,qer,hD_,ks,h1,h2,a1,c5];exact rfl;refine⟨_,rfl,?_,?_⟩;simp[zS,qbh,qan,qc1,qc9,qd2,hD_,ks,h1,h2,a1,c5];try simp[allPend,Heap.lay,qap,qab]
   apply qaj rfl;apply qa5;simp;apply qad;refine qc4 mixed qaz (by decide +kernel) fun B_ hB_=>?_;have hD_:ahead B_ 1 12=true/\ahead B_ 3 12=true/\ahead B_ 7 12=true/\ahead B_ 10 12=true/\ahead B_ 12 1=false/\ahead B_ 12 3=false/\ahead B_ 12 7=false/\ahead B_ 12 10=false:=(by rw[hB_];decide +kernel);apply qhi B_;simp[zS,qbc,qar,qb4,qbh,qan,qbd,qba,Heap.lay,qap,qhh,qhg,qei,qeh,qef,qeg,qew,qel,qdj,qdk,qeq,qep,qen,qeo,qet,qeu,qes,qer,hD_,a1,a2,c5,c6,kI];exact rfl;refine⟨_,rfl,?_,?_⟩;simp[zS,qbh,qan,qc1,qc9,qd2,hD_,a1,a2,c5,c6,kI];try simp[allPend,Heap.lay,qap,qab]
   apply qa7;simp[zQ,Tryz.f173];exact qai rfl (by rfl)
  ·have h2:isB t (qa0 t i).up=false:=(by simpa using h2);refine qa1 (s0:=⟨[0,1,2,4],[qao t,.int .i64 i,uD,uD],[],33,⟨0,[[]]⟩⟩) Tryz.func173 rfl rfl rfl ?_;apply qR;simp[zS,qao];repeat apply wq
   refine qc4 mixed qaz (by decide +kernel) fun B_ hB_=>?_;have hD_:ahead B_ 0 2=true/\ahead B_ 0 12=true/\ahead B_ 2 0=false/\ahead B_ 2 5=true/\ahead B_ 2 7=true/\ahead B_ 2 11=true/\ahead B_ 5 2=false/\ahead B_ 5 12=true/\ahead B_ 7 2=false/\ahead B_ 7 12=true/\ahead B_ 11 2=false/\ahead B_ 11 12=true/\ahead B_ 12 0=false/\ahead B_ 12 5=false/\ahead B_ 12 7=false/\ahead B_ 12 11=false:=(by rw[hB_];decide +kernel);apply qhi B_;simp[zS,qbc,qar,qb4,qbh,qan,qbd,qba,Heap.lay,qap,qhh,qhg,qei,qeh,qef,qeg,qew,qel,qdj,qdk,qeq,qep,qen,qeo,qet,qeu,qes,qer,hD_,ks,h1,h2,a1,c5];exact rfl;refine⟨_,rfl,?_,?_⟩;simp[zS,qbh,qan,qc1,qc9,qd2,hD_,ks,h1,h2,a1,c5];try simp[allPend,Heap.lay,qap,qab]
   apply qag rfl;apply qR;simp[zS];apply qa7;simp[zQ,Tryz.f173];exact qai rfl (by simp[qd6,h2])
 ·have h1:isB t i=false:=by simpa using h1
  refine qa1 (s0:=⟨[0,1,2,4],[qao t,.int .i64 i,uD,uD],[],33,⟨0,[[]]⟩⟩) Tryz.func173 rfl rfl rfl ?_;apply qR;simp[zS,qao];repeat apply wq
  refine qc4 mixed qaz (by decide +kernel) fun B_ hB_=>?_;have hD_:ahead B_ 0 2=true/\ahead B_ 0 12=true/\ahead B_ 2 0=false/\ahead B_ 2 5=true/\ahead B_ 2 7=true/\ahead B_ 2 11=true/\ahead B_ 5 2=false/\ahead B_ 5 12=true/\ahead B_ 7 2=false/\ahead B_ 7 12=true/\ahead B_ 11 2=false/\ahead B_ 11 12=true/\ahead B_ 12 0=false/\ahead B_ 12 5=false/\ahead B_ 12 7=false/\ahead B_ 12 11=false:=by rw[hB_];decide +kernel
  apply qhi B_;simp[zS,qbc,qar,qb4,qbh,qan,qbd,qba,Heap.lay,qap,qhh,qhg,qei,qeh,qef,qeg,qew,qel,qdj,qdk,qeq,qep,qen,qeo,qet,qeu,qes,qer,hD_,ks,h1];exact rfl;refine⟨_,rfl,?_,?_⟩;simp[zS,qbh,qan,qc1,qc9,qd2,hD_,ks,h1];try simp[allPend,Heap.lay,qap,qab]
  apply qag rfl;apply qR;simp[zS];apply qa7;simp[zQ,Tryz.f173];exact qai rfl (by simp[qd6,h1])
section
variable {P:Program} {H:Heap} {t elem:TypeId} {b n:Nat} {cs:List AV}
theorem qxz(hu:P.underlying t=some (.slice elem)) (hs:qcj P elem=some 1) (hb:H.get b=some (.cells cs)) (hc:cs.length=n) (h0:0 < n):qcq P H t (.slc b 0 n (.rest 1)) (some (.int .i64 (n:Int))) none none=some .eslc:=by
 have hk:qbx H b=some n:=by unfold qbx;simp only[hb,jc,qgd,hc]
 have h2:idx (n:Int) (Nat.succ n)=some n:=qbn (by omega);have h1:Nat.ble n (n * 1)=true:=by rw[jW];omega
 obtain⟨q,rfl⟩ : ∃q,n=q+1:=⟨n - 1,by omega⟩;unfold qcq;simp only[qqe,hu,jc,hs,qgs,hk,jC,qdc,yK,h2,h1]
theorem quy(hu:P.underlying t=some (.slice elem)) (hs:qcj P elem=some 1) (hb:H.get b=some (.cells cs)) (hc:cs.length=n) {i j:Nat} (hi:i<=j) (hj:j<=n) (hn:i < n) :
  qcq P H t (.slc b 0 n (.rest 1)) (some (.int .i64 (i:Int))) (some (.int .i64 (j:Int))) (some (.int .i64 (n:Int)))=some (.slc b i (j - i) (.ex (n - i))):=by
 have hk:qbx H b=some n:=by unfold qbx;simp only[hb,jc,qgd,hc]
 have h2:idx (n:Int) (Nat.succ n)=some n:=qbn (by omega);have h3:idx (j:Int) (Nat.succ n)=some j:=qbn (by omega);have h4:idx (i:Int) (Nat.succ j)=some i:=qbn (by omega);have h5:Nat.beq n i=false:=qax (by omega);unfold qcq;simp only[qqe,hu,jc,hs,qgs,hk,jC,qdc,yK,Nat.div_one,h2,h3,h4,h5,jS,Nat.mul_one]
theorem qxy{N:Nat} (hu:P.underlying t=some (.slice elem)) (hs:qcj P elem=some 1) (hb:H.get b=some (.cells cs)) (hc:cs.length=N) (hN:N=n+1) :
  qcq P H t (.slc b 0 n (.rest 1)) (some (.int .i64 (n:Int))) (some (.int .i64 (N:Int))) none=some (.slc b n 1 (.rest 1)):=by
 subst hN;have hk:qbx H b=some (n+1):=by unfold qbx;simp only[hb,jc,qgd,hc]
 have h3:idx ((n+1:Nat):Int) (Nat.succ (n+1))=some (n+1):=qbn (by omega);have h4:idx (n:Int) (Nat.succ (n+1))=some n:=qbn (by omega);have h1:Nat.ble (n+1) n=false:=by rw[<- Bool.not_eq_true,jW];omega
 unfold qcq;simp only[qqe,hu,jc,hs,qgs,hk,jC,qdc,yK,Nat.div_one,h3,h4,h1,jS,Nat.mul_one,Nat.add_sub_cancel_left]
end
theorem qsc(L:List Int) (i:Nat):L.eraseIdx i=L.take i++L.drop (i+1):=List.eraseIdx_eq_take_drop_succ L i
theorem qp8{H:Heap} {n b sz len:Nat} {cap:Cap} {es fr:List AV} (he:Elems sz es) (hb:H.get b=some (.cells (qaa es))) (hl:len<=es.length) (hf:fr=es.take len):∃σ Φ,qas σ Φ (.slc b 0 len cap) (.fslc sz fr)/\FitH n σ Φ H ⟨n,[[]]⟩:=by
 subst hf;refine⟨[],[(b,qaa es)],?_,{ nd1:=by simp,nd2:=jK,nd3:=by simp[Heap.ents],lt:=fun x h=>(by cases h),idn:=fun x h=>(by cases h),num:=ja _,src:=fun e h=>(by simp[Heap.ents]at h),frz:=fun x hx=>?_ }⟩
 ·simp only[qas];exact .inl ⟨qaa es,by simp[qcp],qnz he hl,by simp;omega,(he.take len).size⟩
 ·simp only[j2]at hx;subst hx;exact⟨qaa es,hb,qau he.pure,he.pure⟩
theorem qkc:∀(l:List Int),allSingle (qay l)=true
 |[]=>rfl
 |x::r=>by have ih:=qkc r;simp only[qay,List.map_cons,allSingle,qat,AV.single]at ih ⊢;exact ih
theorem qo7:∀(l:List Int),(qay l).flatMap (refs 6)=[]
 |[]=>rfl
 |x::r=>by have ih:=qo7 r;simp only[qay,List.map_cons,yF,qat,refs]at ih ⊢;exact ih
theorem quj{P:Program} {H H':Heap} {elem:TypeId} {b by_:Nat} {x z:AV} {A D Y Y2:List Int} (hsz:qcj P elem=some 1) (hby:qch P elem=some by_) (hz:qby P elem=some z) (hzl:z.cells.length=1) (hb0:by_≠0)
  (hn:qd5 x=some D.length) (hsrc:qbj H 1 D.length x=some (qay D)) (hr:qdg (A.length+D.length) by_=true) (hb:H.get b=some (.cells (qay (A++(Y++Y2))))) (hY:Y.length=D.length)
  (hset:(H.ready b (qay D)).set b (.cells (qay (A++(D++Y2))))=some H'):qbs P H elem (.slc b 0 A.length (.rest 1)) x=some (.slc b 0 (A.length+D.length) (.rest 1),H'):=by
 have hp:allSingle (qay D)=true:=qkc D;have hk:qbx H b=some (A.length+(Y.length+Y2.length)):=by unfold qbx;simp only[hb,jc,qgd,qcc,js]
 have h1:(Nat.beq 1 0 || !(true && Nat.blt 0 by_))=false:=by
  have:Nat.blt 0 by_=true:=by rw[Nat.blt,jW];omega
  rw[this];rfl
 have h2:Nat.ble (0+(A.length+D.length) * 1) (A.length+(Y.length+Y2.length))=true:=by rw[jW];omega
 have hl:qiz (qay D) (0+A.length * 1) (qay (A++(Y++Y2)))=some (qay (A++(D++Y2))):=by have:=qfz (a:=qay A) (b:=qay Y) (b':=qay D) (c:=qay Y2) (by rw[qcc,qcc,hY]);rw[qcc]at this;simpa[qay,j5]using this
 have hw:writeCells H b (0+A.length * 1) (qay D)=some H':=by unfold writeCells;simp only[hb,jc,Blk.wt,hl,Blk.re,hset]
 unfold qbs;simp only[hsz,hby,hz,hn,hzl,jc,h1,hsrc,hr,hp,jC,hk,h2,hw]
theorem c106o(A D:List Int) (c:Int) (hl:A.length+D.length<=1000000) {i j N:Nat} (hi:i=A.length) (hj:j=i+1) (hN:N=A.length+D.length+1) :
  CA T 106 [.slc 0 0 N (.rest 1),.int .i64 (i:Int),.int .i64 (j:Int)] ⟨1,[[(0,.cells (qay (A++c::D)))]]⟩ (.slc 0 0 (A.length+D.length) (.rest 1)) ⟨1,[[(0,.cells (qay (A++D++[0])))]]⟩:=by
 obtain⟨n,hn⟩ : ∃n,n=A.length+D.length:=⟨_,rfl⟩;obtain⟨L,hL⟩ : ∃L,L=A++c::D:=⟨_,rfl⟩;have lenR:(qay L).length=N:=by rw[qcc,hL,hN];simp;omega
 obtain⟨Y,y,hY,hYl⟩ : ∃Y y,c::D=Y++[y]/\Y.length=D.length:=⟨(c::D).dropLast,(c::D).getLast (by simp),(y8 (by simp)).symm,by simp⟩;have hs1:=quy (P:=PG) (H:=⟨1,[[],[(0,.cells (qay L))]]⟩) (t:=38) (elem:=3) (b:=0) (n:=N) (cs:=qay L) Tryz.underlying38 qhz rfl lenR (i:=i) (j:=j) (by omega) (by omega) (by omega);have hs2:=fun(m:Nat) (R:List AV) (hR:R.length=N)=>qr0 (P:=PG) (H:=⟨m,[[],[(0,.cells R)]]⟩) (t:=38) (elem:=3) (sz:=1) (b:=0) (cs:=R) (len:=N) (i:=i) Tryz.underlying38 qhz (by omega) rfl (by omega) (by omega) (by omega);obtain⟨x,hs3,hx1,hx2⟩ : ∃x,(∀(m:Nat) (R:List AV),R.length=N->qcq PG ⟨m,[[],[(0,.cells R)]]⟩ 38 (.slc 0 0 N (.rest 1)) (some (.int .i64 (j:Int))) none none=some x)/\qd5 x=some D.length/\qbj ⟨9,[[],[(0,.cells (qay L))]]⟩ 1 D.length x=some (qay D):=by
  by_cases h:j < N
  ·refine⟨_,fun m R hR=>qq2 (P:=PG) (H:=⟨m,[[],[(0,.cells R)]]⟩) (t:=38) (elem:=3) (sz:=1) (b:=0) (cs:=R) (len:=N) (i:=j) Tryz.underlying38 qhz (by omega) rfl (by omega) h,?_,?_⟩
   ·simp[qd5];omega
   ·have hb:=ql0 (a:=qay (A++[c])) (b:=qay D) (c:=[]) (o:=j) (n:=D.length) (by rw[qcc];simp;omega) (by rw[qcc]);have hL2:qay L=qay (A++[c])++qay D++[]:=(by rw[hL];simp[qay]);simp[qbj,readCells,zG,Blk.rd];rw[hL2];exact hb
  ·have hjN:j=N:=(by omega);have hD:D=[]:=(by cases D<;>simp at *<;>omega);refine⟨.eslc,fun m R hR=>?_,?_,?_⟩
   ·have:=qxz (P:=PG) (H:=⟨m,[[],[(0,.cells R)]]⟩) (t:=38) (elem:=3) (b:=0) (n:=N) (cs:=R) Tryz.underlying38 qhz rfl hR (by omega);rw[hjN];exact this
   ·simp[hD,qd5]
   ·simp[hD,qbj,qay]
 have lR:(A++(D++[y])).length=N:=by simp;omega
 have lR2:(qay (A++(D++[y]))).length=N:=by rw[qcc,lR]
 have happ:=quj (P:=PG) (H:=⟨9,[[],[(0,.cells (qay L))]]⟩) (H':=⟨9,[[],[(0,.cells (qay (A++(D++[y]))))]]⟩) (elem:=3) (b:=0) (x:=x) (A:=A) (D:=D) (Y:=Y) (Y2:=[y]) qhz qk2 qjw rfl (by omega) hx1 hx2 (by unfold qdg;rw[jW];omega) (by rw[hL,hY];rfl) hYl (by simp[Heap.ready,qo7,Heap.set,setFs,setF]);rw[<- hn,<- hi]at happ;have hne:¬ (i:Int)=(j:Int):=by omega
 have hne2:¬ i=j:=by omega
 rw[<- hL];refine qa1 (s0:=⟨[0,1,2,6,7],[.slc 0 0 N (.rest 1),.int .i64 (i:Int),.int .i64 (j:Int),uD,uD],[],33,⟨1,[]::[[(0,.cells (qay L))]]⟩⟩) Tryz.func106 rfl rfl rfl ?_;apply qR;simp[zS];apply qR;simp[zS,hs1,qf3,qhd];apply qR;simp[zS,hne,hne2];refine qaj (by simp[qc5,St.get,hne,hne2]) ?_;apply qa5;simp;apply qR;simp[zS,qf3];repeat apply wq
 refine qc4 mixed qaz (by decide +kernel) fun B_ hB_=>?_;have hD_:ahead B_ 2 6=true/\ahead B_ 5 6=true/\ahead B_ 6 2=false/\ahead B_ 6 5=false:=by rw[hB_];decide +kernel
 apply qhi B_;simp[zS,qbc,qar,qb4,qbh,qan,qbd,qba,Heap.lay,qap,qhh,qhg,qei,qeh,qef,qeg,qew,qel,qdj,qdk,qeq,qep,qen,qeo,qet,qeu,qes,qer,hD_,hs2 _ _ lenR,hs3 _ _ lenR,hs2 _ _ lR2,hs3 _ _ lR2,happ,qhd];exact rfl;refine⟨_,rfl,?_,?_⟩;simp[zS,qbh,qan,qc1,qc9,qd2,hD_,hs2 _ _ lenR,hs3 _ _ lenR,hs2 _ _ lR2,hs3 _ _ lR2,happ,qhd];try simp[allPend,Heap.lay,qap,qab]
 have hs4:=qxy (P:=PG) (H:=⟨9,[[],[(0,.cells (qay (A++(D++[y]))))]]⟩) (t:=38) (elem:=3) (b:=0) (n:=n) (N:=N) (cs:=qay (A++(D++[y]))) Tryz.underlying38 qhz rfl (by rw[qcc,lR]) (by omega);have hcl:=qxo (m:=9) (i:=n) (n:=N) (f:=[]) (R:=A++(D++[y])) rfl rfl lR (by omega);have e1:N - n=1:=by omega
 have e2:(A++(D++[y])).take n++zrs (N - n)=A++D++[0]:=by rw[<- List.append_assoc,List.take_left' (by simp;omega),e1];rfl
 rw[e2,e1]at hcl;apply qR;simp[zS,qf3,hs4,hcl];apply qR;simp[zS];apply qa7;simp[zQ,Tryz.f106];rw[<- hn];refine⟨[(0,0)],[],by simp[qas,qaw],.same (by simp) (by simp) (by simp) (by simp) (by simp[Heap.ents]) ?_⟩;intro e he;simp[Heap.ents]at he;subst he;refine⟨by simp,by simp[zG],qau ?_⟩;rw[<- List.append_assoc,<- qbf];exact(qca _).pure
theorem c106(A D:List Int) (c:Int) (hl:A.length+D.length<=1000000) {i j N:Nat} (hi:i=A.length) (hj:j=i+1) (hN:N=A.length+D.length+1) :
  CA T 106 [.slc 0 0 N (.rest 1),.int .i64 (i:Int),.int .i64 (j:Int)] ⟨1,[[(0,.cells (qay (A++c::D)))]]⟩ (qa8 (A++D)) ⟨1,[[]]⟩:=by
 obtain⟨σ,Φ,f1,f2⟩:=qp8 (n:=1) (H:=⟨1,[[(0,.cells (qay (A++D++[0])))]]⟩) (b:=0) (len:=A.length+D.length) (cap:=.rest 1) (fr:=qay (A++D)) (qca (A++D++[0])) (by rw[qbf];rfl) (by rw[qcc];simp) (by rw[show qay (A++D++[0])=qay (A++D)++qay [0] by simp[qay],List.take_left' (by rw[qcc];simp)]);exact(c106o A D c hl hi hj hN).post f1 f2
def lays2_21_ren:Go.Shelf.Ren:=⟨fun | 21=>91 | 27=>174 | 28=>175 | 35=>209 | 39=>222|n=>n,fun | 0=>0 | 3=>3 | 4=>4 | 22=>38|n=>n,fun|n=>n⟩
theorem qwx:Go.Proofs.Lays2.n21 PG lays2_21_ren where
 mixed:=by kernel_rfl
 f21:=Tryz.func91.trans (jR some (by kernel_rfl))
 f27:=Tryz.func174.trans (jR some (by kernel_rfl))
 f28:=Tryz.func175.trans (jR some (by kernel_rfl))
 f35:=Tryz.func209.trans (jR some (by kernel_rfl))
 f39:=Tryz.func222.trans (jR some (by kernel_rfl))
 t0:=Tryz.underlying0
 a0:=Tryz.isAgg0
 z0:=Tryz.sizeOf0
 v0:=Tryz.zeroValue0
 t3:=Tryz.underlying3
 a3:=Tryz.isAgg3
 z3:=Tryz.sizeOf3
 v3:=Tryz.zeroValue3
 t4:=Tryz.underlying4
 a4:=Tryz.isAgg4
 z4:=Tryz.sizeOf4
 v4:=Tryz.zeroValue4
 t22:=Tryz.underlying38
 a22:=Tryz.isAgg38
 z22:=Tryz.sizeOf38
 v22:=Tryz.zeroValue38
 i3:=by kernel_rfl
structure Wrote (cb:Nat) (v v':World):Prop where
 size:v'.heap.size=v.heap.size
 keep:∀j,j≠cb->v'.heap[j]? = v.heap[j]?
 os:v'.os=v.os
 tape:v'.tape=v.tape
 output:v'.output=v.output
 some:∀k,(v.cell? ⟨cb,k,none⟩).isSome=true->(v'.cell? ⟨cb,k,none⟩).isSome=true
 fz:∀k,v'.frozen? ⟨cb,k,none⟩=v.frozen? ⟨cb,k,none⟩
theorem Wrote.trans{cb:Nat} {u v w:World} (h:Wrote cb u v) (k:Wrote cb v w):Wrote cb u w:=
 ⟨k.size.trans h.size,fun j hj=>(k.keep j hj).trans (h.keep j hj),k.os.trans h.os,k.tape.trans h.tape,k.output.trans h.output,fun j hj=>k.some j (h.some j hj),fun j=>(k.fz j).trans (h.fz j)⟩
theorem Wrote.drew{cb:Nat} {v:World}:Wrote cb v v.drew:=⟨rfl,fun _ _=>rfl,rfl,rfl,rfl,fun _ h=>h,fun _=>rfl⟩
theorem Wrote.set{cb o:Nat} {v:World} {xs:List Value} (h:∀j,j < xs.length->(v.cell? ⟨cb,o+j,none⟩).isSome=true):Wrote cb v (v.setCells cb o xs):=
 ⟨qgt _ _ _ _,fun j hj=>qgu _ _ _ _ j hj,(qd1 _ _ _ _).1,(qd1 _ _ _ _).2.1,(qd1 _ _ _ _).2.2,fun k hk=>isSome_setCells cb xs o v h k hk,fun k=>World.frozen?_setCells _ _ _ _ _⟩
theorem qwb{cb o:Nat} {v:World} {xs:List Value} (h:∀j,j < xs.length->(v.cell? ⟨cb,o+j,none⟩).isSome=true) {k:Nat} (h1:o<=k) (h2:k < o+xs.length):(v.setCells cb o xs).cell? ⟨cb,k,none⟩=xs[k - o]?:=by have:=World.cell?_setCells_in cb xs o v h (k - o) (by omega);rw[show o+(k - o)=k by omega]at this;rw[this,List.getElem?_eq_getElem (by omega)]
theorem qm5{cb o:Nat} {v:World} {xs:List Value} {k:Nat} (h:k < o\/o+xs.length<=k):(v.setCells cb o xs).cell? ⟨cb,k,none⟩=v.cell? ⟨cb,k,none⟩:=
 World.cell?_setCells_out cb xs o v ⟨cb,k,none⟩ (fun _ _=>h)
theorem qw1{cb off i n:Nat} {xs ys:List Value} {v v':World} (hn:xs.length=n) (hi:i<=n)
  (hs:∀j,j < n+ys.length->(v.cell? ⟨cb,off+j,none⟩).isSome=true)
  (hc:∀j,j < i->v.cell? ⟨cb,off+j,none⟩=xs[j]?)
  (hv:v'=(v.setCells cb (off+(i+ys.length)) (xs.drop i)).setCells cb (off+i) ys\/v'=((v.setCells cb (off+i) ys).drew).setCells cb (off+(i+ys.length)) (xs.drop i)) :
  Wrote cb v v'/\∀j,j < n+ys.length->v'.cell? ⟨cb,off+j,none⟩=(xs.take i++ys++xs.drop i)[j]?:=by
 have e1:(xs.take i).length=i:=by rw[jL];omega
 have e2:(xs.drop i).length=n - i:=by rw[yP];omega
 have get:∀j,(xs.take i++ys++xs.drop i)[j]? = if j < i then xs[j]? else if j < i+ys.length then ys[j - i]? else (xs.drop i)[j - (i+ys.length)]?:=fun j=>by
  by_cases h1:j < i
  ·rw[jo h1,List.append_assoc,List.getElem?_append_left (by omega),List.getElem?_take,jo h1]
  ·rw[jm h1];by_cases h2:j < i+ys.length
   ·rw[jo h2,List.getElem?_append_left (by simp;omega),List.getElem?_append_right (by omega),e1]
   ·rw[jm h2,List.getElem?_append_right (by simp;omega)];simp only[js,e1]
 rcases hv with rfl|rfl
 ·have a1:∀j,j < (xs.drop i).length->(v.cell? ⟨cb,off+(i+ys.length)+j,none⟩).isSome=true:=fun j hj=>by rw[show off+(i+ys.length)+j=off+(i+ys.length+j) by omega];exact hs _ (by omega)
  have w1:Wrote cb v (v.setCells cb (off+(i+ys.length)) (xs.drop i)):=.set a1;have a2:∀j,j < ys.length->((v.setCells cb (off+(i+ys.length)) (xs.drop i)).cell? ⟨cb,off+i+j,none⟩).isSome=true:=fun j hj=>w1.some _ (by rw[show off+i+j=off+(i+j) by omega];exact hs _ (by omega));refine⟨w1.trans (.set a2),fun j hj=>?_⟩;rw[get j];split
  next h1=>rw[qm5 (by omega),qm5 (by omega),hc j h1]
  ·split
   ·rw[qwb a2 (by omega) (by omega)];congr 1;omega
   ·rw[qm5 (by omega),qwb a1 (by omega) (by omega)];congr 1;omega
 ·have a1:∀j,j < ys.length->(v.cell? ⟨cb,off+i+j,none⟩).isSome=true:=fun j hj=>by rw[show off+i+j=off+(i+j) by omega];exact hs _ (by omega)
  have w1:Wrote cb v (v.setCells cb (off+i) ys):=.set a1;have a2:∀j,j < (xs.drop i).length->((v.setCells cb (off+i) ys).drew.cell? ⟨cb,off+(i+ys.length)+j,none⟩).isSome=true:=fun j hj=>w1.some _ (by rw[show off+(i+ys.length)+j=off+(i+ys.length+j) by omega];exact hs _ (by omega));refine⟨(w1.trans .drew).trans (.set a2),fun j hj=>?_⟩;rw[get j];split
  next h1=>rw[qm5 (by omega)];show (v.setCells cb (off+i) ys).cell? _=_;rw[qm5 (by omega),hc j h1]
  ·split
   ·rw[qm5 (by omega)];show (v.setCells cb (off+i) ys).cell? _=_;rw[qwb a1 (by omega) (by omega)];congr 1;omega
   ·rw[qwb a2 (by omega) (by omega)];congr 1;omega
theorem qzd{ρ:Place} {cs vs:List AV} {xs ys:List Value} (i:Nat) (h:VRs ρ cs xs) (k:VRs ρ vs ys):VRs ρ (cs.take i++vs++cs.drop i) (xs.take i++ys++xs.drop i):=by
 refine(VRs.append ⟨by simp[h.1],fun j a b=>?_⟩ k).append ⟨by simp[h.1],fun j a b=>?_⟩
 ·rw[ye,ye];exact h.2 _ _ _
 ·rw[jU,jU];exact h.2 _ _ _
theorem zb7{H:Heap} {b vb n m i:Nat} {cs vs:List AV} {t:TypeId} (hb:H.get b=some (.cells cs)) (hvb:H.get vb=some (.buf t 0 vs)) (hbv:b≠vb)
  (hn:cs.length=n) (hm:vs.length=m) (hi:i < n) (h0:0 < m) (hc1:allSingle cs=true) (hv1:allSingle vs=true) (hbig:n+m<=1000000000) :
  CA T 91 [.slc b 0 n (.rest 1),.int .i64 i,.slc vb 0 m (.ex m)] H (.slc H.n 0 (n+m) (.rest 1)) ((H.drop b).new (.cells (cs.take i++vs++cs.drop i))):=by
 intro ρ w xs sm hx
 match xs,hx with
 |[x,y,z],hx=>
  have g0:=hx.2 0 (by simp) (by simp);have g1:=hx.2 1 (by simp) (by simp);have g2:=hx.2 2 (by simp) (by simp);simp only[jH,yZ]at g0 g1 g2;cases g1;cases g2 with
  |slcE _ _ _ _ l2 hl2 _=>
  cases g0 with
  |slcR _ _ _ _ c l hl hnc hf=>
  have hrun:(callFunc 91 #[.slice (some ⟨l.cb,l.off+0,none⟩) n c,.int .i64 i,.slice (some ⟨l2.cb,l2.off+0,none⟩) m m]).run (ctx T).P w=.ok (.enter 91 #[.slice (some ⟨l.cb,l.off+0,none⟩) n c,.int .i64 i,.slice (some ⟨l2.cb,l2.off+0,none⟩) m m]) w:=by
   have hf:(ctx T).P.funcs[91]? = some Tryz.f91:=Tryz.func91
   have hn : ¬ Tryz.f91.name = "runtime.NumGoroutine" := by decide +kernel
   simp[callFunc,hf,hn,Tryz.f91]
  refine .inr ⟨91,_,hrun,callsIn_wide.2 ?_⟩;obtain⟨l',hl',hB,hlt,hr⟩:=sm.block hb;rw[hl]at hl';cases hl';obtain⟨l',hl',hB2,hlt2,hr2⟩:=sm.block hvb;rw[hl2]at hl';cases hl';have hcb:l2.cb≠l.cb:=fun e=>hbv (sm.inj (b,_) (vb,_) (Heap.get_mem hb) (Heap.get_mem hvb) l l2 hl hl2 e.symm);obtain⟨X,hX,_,hXc⟩:=qez (o:=0) (n:=n) (r:=cs) sm (by unfold readCells;rw[hb];subst hn;exact qfd cs) hl;obtain⟨Y,hY,_,hYc⟩:=qez (o:=0) (n:=m) (r:=vs) sm (by unfold readCells;rw[hvb];subst hm;exact qfd vs) hl2;have hXl:X.length=n:=hX.1.trans hn;have hYl:Y.length=m:=hY.1.trans hm;obtain⟨⟨q1,q2,q3⟩,q4,q5,C2,lo,hh,hheap2,hz2⟩:=hr2;obtain⟨r1,r2,r3⟩:=hr;have hfz2:∀k,w.frozen? ⟨l2.cb,k,none⟩=false:=fun k=>by
   simp only[World.frozen?,hheap2];rcases hz2 with rfl|hz
   ·by_cases h1:lo<=k<;>simp<;>omega
   ·simp;omega
  have hshape:∃tB kB,w.shape? l.cb=some (tB,kB)/\kB≠0:=by
   have:=(r2 l.off (by omega)).1;simp only[World.cell?]at this;split at this
   next c0 e0 fr0 hh0=>refine⟨e0,c0.size,by simp only[World.shape?,hh0],fun hz=>?_⟩;simp only[Option.isSome_none,jz,jM]at this;rw[Array.getElem?_eq_none (by omega)]at this;cases this
   ·cases this
  obtain⟨tB,kB,hsB,hkB⟩:=hshape;have hXc':∀j v,X[j]? = some v->w.cell? ⟨l.cb,l.off+j,none⟩=some v:=fun j v h=>hXc j v h;have hYc':∀j v,Y[j]? = some v->w.cell? ⟨l2.cb,l2.off+j,none⟩=some v:=fun j v h=>hYc j v h;have o1:=hX.oneCell hc1;have o2:=hY.oneCell hv1;have hgetX:∀j,j < n->w.cell? ⟨l.cb,l.off+j,none⟩=X[j]?:=fun j hj=>by rw[List.getElem?_eq_getElem (by omega)];exact hXc' j _ (List.getElem?_eq_getElem (by omega))
  have hres:(cs.take i++vs++cs.drop i).length=n+m:=by simp[hn,hm];omega
  by_cases hroom:n+m<=c
  ·have hs:∀j,j < n+m->(w.cell? ⟨l.cb,l.off+j,none⟩).isSome=true:=fun j hj=>(r2 _ (by omega)).1;refine(Any2.slices_Insert_int_shift qwx l.cb l.off n c i l2.cb l2.off m m X Y w hi h0 hroom hf.2 hcb hXl hYl hXc' hs (fun j hj=>(r2 _ (by omega)).2) hYc' o1 o2 t tB C2.size kB (by simp only[World.shape?,hheap2]) hsB hkB (hfz2 _) (hfz2 _)).mono ?_;rintro e w' ⟨rfl,hw⟩;obtain⟨W1,W2⟩:=qw1 (cb:=l.cb) (off:=l.off) (i:=i) (n:=n) (xs:=X) (ys:=Y) (v:=w.drew) (v':=w') hXl (by omega) (by rw[hYl];exact hs) (fun j hj=>hgetX j (by omega)) (.inl (by rw[hYl];exact hw));have hle:ρ.le (ρ.upd H.n ⟨l.cb,l.off,l.fin⟩):=Place.le_upd (sm.dom _ (ja _));have hV:=(qzd i hX hY).mono hle;obtain⟨k1,k2⟩:=sm.drew.regrow (k:=.cells (cs.take i++vs++cs.drop i)) (l':=⟨l.cb,l.off,l.fin⟩) hb hl rfl W1.size W1.keep W1.os W1.tape W1.output (by refine⟨by rw[hres];show l.off+_<=l.fin;omega,fun k hk=>⟨W1.some k (r2 k hk).1,(W1.fz k).trans (r2 k hk).2⟩,fun j hj=>?_⟩;have hj2:j < (X.take i++Y++X.drop i).length:=(by rw[hV.1];exact hj);refine⟨(X.take i++Y++X.drop i)[j],?_,hV.2 j hj hj2⟩;rw[<- List.getElem?_eq_getElem hj2];exact W2 j (by rw[hYl];omega));refine⟨_,_,rfl,?_,k1,(Step.drew _ _ _).trans k2⟩;exact .slcR H.n 0 (n+m) 1 c ⟨l.cb,l.off,l.fin⟩ Place.upd_same hroom hf
  ·refine(Any2.slices_Insert_int_grow qwx l.cb l.off n c i l2.cb l2.off m m X Y w hi h0 hnc (by omega) (by omega) hXl hYl hXc' hYc' o1 o2).mono ?_;rintro e w' ⟨rfl,hw⟩;have hcap:n+m<=grownCap w (n+m) c (lays2_21_ren.t 3):=(by simp[grownCap,Question.cut]);have h63:grownCap w (n+m) c (lays2_21_ren.t 3)<=9223372036854775807:=zc8 (by omega);generalize grownCap w (n+m) c (lays2_21_ren.t 3)=G at hw hcap h63 ⊢;obtain⟨ROW,hROW⟩ : ∃ROW:Array Value,ROW=(X.take i).toArray++Builtin.zeroCells (Value.int .i64 0).cells (n+m - i)++Builtin.zeroCells (Value.int .i64 0).cells (G - (n+m)):=⟨_,rfl⟩;rw[<- hROW]at hw;have hsz:ROW.size=G:=(by rw[hROW];simp[Builtin.zeroCells,Value.cells,hXl];omega);obtain⟨sd,st⟩:=sm.dropped b;obtain⟨s1,t1⟩:=sd.new (.cells ROW (lays2_21_ren.t 3)) ROW.size (.cells (List.replicate (n+m) .undef)) (qsg (by simp;omega) (fun j a b=>by rw[List.getElem_replicate];exact .undef _) (fun j _=>by simp));have hh1:(w.alloc (.cells ROW (lays2_21_ren.t 3))).heap[w.heap.size]? = some (.cells ROW (lays2_21_ren.t 3) (0,0)):=(by show (w.heap.push _)[w.heap.size]? = _;simp);have hcell:∀j,(w.alloc (.cells ROW (lays2_21_ren.t 3))).cell? ⟨w.heap.size,0+j,none⟩=ROW[j]?:=fun j=>(by simp only[World.cell?,hh1,jS];rfl);have hs:∀j,j < n+m->((w.alloc (.cells ROW (lays2_21_ren.t 3))).drew.cell? ⟨w.heap.size,0+j,none⟩).isSome=true:=fun j hj=>(by show ((w.alloc (.cells ROW (lays2_21_ren.t 3))).cell? ⟨w.heap.size,0+j,none⟩).isSome=true;rw[hcell,Array.getElem?_eq_getElem (by omega)];rfl);obtain⟨W1,W2⟩:=qw1 (cb:=w.heap.size) (off:=0) (i:=i) (n:=n) (xs:=X) (ys:=Y) (v:=(w.alloc (.cells ROW (lays2_21_ren.t 3))).drew) (v':=w') hXl (by omega) (by rw[hYl];exact hs)
    (fun j hj=>by show (w.alloc (.cells ROW (lays2_21_ren.t 3))).cell? ⟨w.heap.size,0+j,none⟩=_;rw[hcell,hROW,Array.append_assoc,Array.getElem?_append_left (by simp;omega)];simp[hj]) (.inr (by rw[hYl,jS,jS];exact hw))
   have hle:ρ.le (ρ.upd H.n ⟨w.heap.size,0,ROW.size⟩):=Place.le_upd (sm.dom _ (ja _));have hV:=(qzd i hX hY).mono hle;have hents:∀k:Blk,((H.drop b).new k).ents=(H.n,k)::(H.drop b).ents:=fun k=>Heap.new_ents _ _;obtain⟨k1,k2⟩:=s1.drew.turned (H':=(H.drop b).new (.cells (cs.take i++vs++cs.drop i))) (b:=H.n) (k0:=.cells (List.replicate (n+m) .undef)) (k:=.cells (cs.take i++vs++cs.drop i)) (l:=⟨w.heap.size,0,ROW.size⟩) (w':=w')
    (by rw[hents];exact j8) Place.upd_same rfl (by have:=s1.nodup;rw[hents]at this ⊢;exact this) (by rw[hents];exact j8)
    (fun e he=>by rw[hents]at he ⊢;rcases jd.1 he with h|h;exact .inl h;exact .inr (ji _ h))
    W1.size W1.keep W1.os W1.tape W1.output (by have hold:=(s1.drew.live (H.n,.cells (List.replicate (n+m) .undef)) (by rw[hents];exact j8));obtain⟨l3,hl3,_,_,hr3⟩:=hold;have hl4:(ρ.upd H.n ⟨w.heap.size,0,ROW.size⟩) H.n=some l3:=hl3;rw[Place.upd_same]at hl4;cases hl4;refine⟨by rw[hres];show 0+_<=ROW.size;omega,fun k hk=>⟨W1.some k (hr3.2.1 k hk).1,(W1.fz k).trans (hr3.2.1 k hk).2⟩,fun j hj=>?_⟩;have hj2:j < (X.take i++Y++X.drop i).length:=(by rw[hV.1];exact hj);refine⟨(X.take i++Y++X.drop i)[j],?_,hV.2 j hj hj2⟩;rw[<- List.getElem?_eq_getElem hj2];exact W2 j (by rw[hYl];omega))
   refine⟨_,_,rfl,?_,k1,st.trans (t1.trans ((Step.drew _ _ _).trans k2))⟩;exact .slcR H.n 0 (n+m) 1 G ⟨w.heap.size,0,ROW.size⟩ Place.upd_same hcap ⟨by simp[hsz],h63⟩
def qdb(L:List Int) (i:Nat) (x:Int):List Int:=L.take i++x::L.drop i
theorem qvf{H:Heap} {n b m:Nat} {cap:Cap} {L:List Int} (hb:H.get b=some (.cells (qay L))) (hm:m=L.length):∃σ Φ,qas σ Φ (.slc b 0 m cap) (qa8 L)/\FitH n σ Φ H ⟨n,[[]]⟩:=
 qp8 (n:=n) (H:=H) (b:=b) (len:=m) (cap:=cap) (fr:=qay L) (qca L) (by rw[qbf];exact hb) (by rw[qcc];omega) (by rw[ju (by rw[qcc];omega)])
theorem qyh(L:List Int) (x:Int) (hl:L.length<=1000000) :
  CA T 91 [qce 0 1 (L.map qat),.int .i64 (L.length:Int),.slc 1 0 1 (.ex 1)] ⟨2,[qcg 0 (L.map qat)++[(1,.buf 3 0 [.int .i64 x])]]⟩ (qa8 (L++[x])) ⟨2,[[]]⟩:=by
 have happ:=qia (P:=PG) (H:=⟨2,[[],qcg 0 (L.map qat)++[(1,.buf 3 0 [.int .i64 x])]]⟩) (elem:=3) (b:=0) (n:=0) (es:=L.map qat) (x:=.slc 1 0 1 (.ex 1)) (cs:=[.int .i64 x]) qhz qk2 qjw rfl (by omega) (by omega) rfl
  (by cases L<;>simp[qbj,readCells,zG,qcg,qfe,qey,Blk.rd]) rfl rfl (qiw L) (by simp;omega)
  (fun h=>by cases L with
   |nil=>exact absurd rfl h
   |cons y r=>simp[zG,qcg])
  (fun h=>by cases L with
   |nil=>rfl
   |cons y r=>cases h) (fun _=>rfl)
 have er:qaa (L.map qat)++[.int .i64 x]=qay (L++[x]):=by rw[show L.map qat=qay L from rfl,qbf];simp[qay,qat]
 rw[er]at happ;cases L with
 |nil=>replace happ:qbs PG ⟨2,[[],[(1,.buf 3 0 [.int .i64 x])]]⟩ 3 .zslc (.slc 1 0 1 (.ex 1))=some (.slc 2 0 1 (.rest 1),⟨3,[[(2,.cells (qay [x]))],[(1,.buf 3 0 [.int .i64 x])]]⟩):=happ;refine qa1 (s0:=⟨[0,1,2,6,7,8,9],[.zslc,.int .i64 0,.slc 1 0 1 (.ex 1),uD,uD,uD,uD],[],95,⟨2,[]::[[(1,.buf 3 0 [.int .i64 x])]]⟩⟩) Tryz.func91 rfl rfl rfl ?_;have s0:∀H,qcq PG H 38 .zslc (some (.int .i64 0)) none none=some .zslc:=fun _=>rfl;have l0:∀H,qf3 PG H 38 .zslc=some 0:=fun _=>rfl;have l1:∀H,qf3 PG H 38 (.slc 1 0 1 (.ex 1))=some 1:=fun _=>rfl;apply qR;simp[zS];apply qR;simp[zS,s0];apply qR;simp[zS,l1];apply qR;simp[zS];apply qaj rfl;apply qa5;simp;apply qR;simp[zS,l0];apply qR;simp[zS];apply qag rfl;apply qR;simp[zS,happ];apply qa7;simp[zQ,Tryz.f91];exact qvf (L:=[x]) (by simp[zG]) rfl
 |cons y r=>
  have hlen:(qay (y::r)).length=r.length+1:=by rw[qcc];simp
  have e:qce 0 1 ((y::r).map qat)=.slc 0 0 (r.length+1) (.rest 1):=by simp[qce]
  have eF:qcg 0 ((y::r).map qat)=[(0,.cells (qay (y::r)))]:=by show [(0,Blk.cells (qaa ((y::r).map qat)))]=_;rw[show (y::r).map qat=qay (y::r) from rfl,qbf]
  rw[e,eF]at happ ⊢;have happ':qbs PG ⟨2,[[],[(0,.cells (qay (y::r))),(1,.buf 3 0 [.int .i64 x])]]⟩ 3 (.slc 0 0 (r.length+1) (.rest 1)) (.slc 1 0 1 (.ex 1))=some (.slc 2 0 (r.length+1+1) (.rest 1),⟨3,[[(2,.cells (qay (y::r++[x])))],[(1,.buf 3 0 [.int .i64 x])]]⟩):=by simpa[Heap.drop,qg0,killF,getF,Heap.new,pushF]using happ
  obtain⟨v,hv⟩ : ∃v,qcq PG ⟨2,[[],[(0,.cells (qay (y::r))),(1,.buf 3 0 [.int .i64 x])]]⟩ 38 (.slc 0 0 (r.length+1) (.rest 1)) (some (.int .i64 ((r.length:Int)+1))) none none=some v:=by have ix:=qbn (show r.length+1 < Nat.succ (r.length+1) by omega);rw[Int.natCast_add]at ix;simp only[Int.natCast_one]at ix;have bl:Nat.ble (r.length+1) (r.length+1)=true:=(by rw[jW];exact ja _);simp[qcq,qqe,qgs,qbx,zG,Blk.rd,hlen,qdc,ix,bl]
  have l0:∀H,qf3 PG H 38 (.slc 0 0 (r.length+1) (.rest 1))=some (r.length+1):=fun _=>rfl;have l1:∀H,qf3 PG H 38 (.slc 1 0 1 (.ex 1))=some 1:=fun _=>rfl;have eL:((y::r).length:Int)=(r.length:Int)+1:=by simp
  rw[eL];refine qa1 (s0:=⟨[0,1,2,6,7,8,9],[.slc 0 0 (r.length+1) (.rest 1),.int .i64 ((r.length:Int)+1),.slc 1 0 1 (.ex 1),uD,uD,uD,uD],[],95,⟨2,[]::[[(0,.cells (qay (y::r))),(1,.buf 3 0 [.int .i64 x])]]⟩⟩) Tryz.func91 rfl rfl rfl ?_;apply qR;simp[zS];apply qR;simp[zS,hv];apply qR;simp[zS,l1];apply qR;simp[zS];apply qaj rfl;apply qa5;simp;apply qR;simp[zS,l0];apply qR;simp[zS];apply qag rfl;apply qR;simp[zS,happ'];apply qa7;simp[zQ,Tryz.f91];exact qvf (L:=y::(r++[x])) (by simp[zG]) (by simp)
theorem qyi(L:List Int) (x:Int) (i:Nat) (hi:i<=L.length) (hl:L.length<=1000000) :
  CA T 91 [qce 0 1 (L.map qat),.int .i64 (i:Int),.slc 1 0 1 (.ex 1)] ⟨2,[qcg 0 (L.map qat)++[(1,.buf 3 0 [.int .i64 x])]]⟩ (qa8 (qdb L i x)) ⟨2,[[]]⟩:=by
 by_cases h:i=L.length
 ·subst h;have:=qyh (T:=T) L x hl
  rwa [show qdb L L.length x=L++[x] by simp[qdb]]
 ·have hL:L≠[]:=fun e=>by subst e;simp at hi h;omega
  obtain⟨y,r,rfl⟩ : ∃y r,L=y::r:=by cases L;exact absurd rfl hL;exact⟨_,_,rfl⟩
  have e:qce 0 1 ((y::r).map qat)=.slc 0 0 (r.length+1) (.rest 1):=by simp[qce]
  have eF:qcg 0 ((y::r).map qat)=[(0,.cells (qay (y::r)))]:=by show [(0,Blk.cells (qaa ((y::r).map qat)))]=_;rw[show (y::r).map qat=qay (y::r) from rfl,qbf]
  rw[e,eF];have hlt:i < r.length+1:=by simp at hi h;omega
  have hc:=zb7 (T:=T) (H:=⟨2,[[(0,.cells (qay (y::r))),(1,.buf 3 0 [.int .i64 x])]]⟩) (b:=0) (vb:=1) (n:=r.length+1) (m:=1) (i:=i) (cs:=qay (y::r)) (vs:=[.int .i64 x]) (t:=3) (by simp[zG]) (by simp[zG]) (by omega) (by rw[qcc];rfl) rfl hlt (by omega) (qkc _) rfl (by simp at hl;omega);have er:(qay (y::r)).take i++[.int .i64 x]++(qay (y::r)).drop i=qay (qdb (y::r) i x):=by simp[qdb,qay,qat]
  rw[er]at hc;obtain⟨σ,Φ,f1,f2⟩:=qvf (n:=2) (H:=Heap.new (Heap.drop ⟨2,[[(0,.cells (qay (y::r))),(1,.buf 3 0 [.int .i64 x])]]⟩ 0) (.cells (qay (qdb (y::r) i x)))) (b:=2) (m:=r.length+1+1) (cap:=.rest 1) (L:=qdb (y::r) i x) (by simp[Heap.drop,qg0,killF,getF,Heap.new,pushF,Heap.get,getFs]) (by simp[qdb];omega);exact hc.post f1 f2
theorem gone{f:FuncId} {args args':List AV} {v:AV} {σ:List (Nat × Nat)} {H H':Heap} {q:Nat} {F:List (List (Nat × Blk))} (hc:CA T f args' ⟨q,F⟩ v ⟨q,[[]]⟩) (hv:qa2 v=true) (fh:FitH 0 σ [] H ⟨q,F⟩) (hf:qb8 σ [] args args') (hn:H'.n=H.n) (sub:H'.ents.Sublist H.ents)
  (out:∀e,e∈H'.ents->∀x,x∈σ->x.1≠e.1):CA T f args H v H':=by
 have:=hc.framed (H':=H') fh hf ⟨by simp[hn],fun nd _=>nd.sublist (sub.map _),fun e he=>.inr ⟨sub.subset he,out e he⟩⟩ (ja _)
 rwa [qhb _ hv]at this
theorem qea(L:List Int):qa6 (qay L)=true:=(qiw L).pure ▸ (by rw[show L.map qat=qay L from rfl,qbf])
theorem del_row(A D:List Int) (c:Int) (hl:A.length+D.length<=1000000) {i j N b n:Nat} {g:List (Nat × Blk)} {fs:List (List (Nat × Blk))} (hi:i=A.length) (hj:j=i+1) (hN:N=A.length+D.length+1) (hg:∀e,e∈g++fs.flatten->e.1≠b) :
  CA T 106 [.slc b 0 N (.rest 1),.int .i64 (i:Int),.int .i64 (j:Int)] ⟨n,((b,.cells (qay (A++c::D)))::g)::fs⟩ (qa8 (A++D)) ⟨n,g::fs⟩:=by
 refine gone (σ:=[(b,0)]) (c106 (T:=T) A D c hl hi hj hN) (qd0 _) ?_ (by simp[qb8,qas,qaw,qa2]) rfl (by simp[Heap.ents]) ?_
 ·refine⟨by simp,by simp,by simp[Heap.ents],by simp,fun x hx h=>absurd h (j3 _),jx _,?_,fun x h=>by cases h⟩;intro e he;simp only[Heap.ents,jq,j7,jh,j2]at he;subst he;exact⟨b,.cells (qay (A++c::D)),by simp,by simp[zG],qau (qea _)⟩
 ·intro e he x hx;simp only[j2]at hx;subst hx;exact(hg e (by simpa[Heap.ents]using he)).symm
theorem qvb(L:List Int) (x:Int) (i:Nat) (hi:i<=L.length) (hl:L.length<=1000000) {b vb n:Nat} {g:List (Nat × Blk)} {fs:List (List (Nat × Blk))} (hbv:vb≠b) (hg:∀e,e∈g++fs.flatten->e.1≠b/\e.1≠vb) :
  CA T 91 [qce b 1 (L.map qat),.int .i64 (i:Int),.slc vb 0 1 (.ex 1)] ⟨n,((vb,.buf 3 0 [.int .i64 x])::(qcg b (L.map qat)++g))::fs⟩ (qa8 (qdb L i x)) ⟨n,g::fs⟩:=by
 refine gone (σ:=[(b,0),(vb,1)]) (qyi (T:=T) L x i hi hl) (qd0 _) ?_ ?_ rfl ?_ ?_
 ·refine⟨by simp[Ne.symm hbv],by simp,?_,?_,fun x hx h=>absurd h (j3 _),jx _,?_,fun x h=>by cases h⟩
  ·cases L<;>simp[Heap.ents,qcg]
  ·intro y hy;simp at hy;rcases hy with rfl|rfl<;>simp
  ·intro e he;have h1:∃b' k,(b',1)∈[(b,0),(vb,1)]/\Heap.get ⟨n,((vb,.buf 3 0 [.int .i64 x])::(qcg b (L.map qat)++g))::fs⟩ b'=some k/\qkw [(b,0),(vb,1)] [] k (.buf 3 0 [.int .i64 x]):=⟨vb,.buf 3 0 [.int .i64 x],by simp,by simp[zG],rfl,ja _,jx _,qau (by simp[qa6,qa2])⟩;cases L with
   |nil=>simp only[Heap.ents,jP,qcg,jv,jq,j7,jh,j2]at he;subst he;exact h1
   |cons y r=>
    simp only[Heap.ents,List.map_cons,qcg,List.cons_append,jv,jq,j7,jh,jd,jX,yJ]at he;rcases he with rfl|rfl
    ·exact⟨b,.cells (qaa ((y::r).map qat)),by simp,by simp[zG,qcg,qax hbv],by show qb8 _ _ _ _;exact qau (qiw (y::r)).pure⟩
    ·exact h1
 ·cases L<;>simp[qb8,qas,qaw,qce,qa2,Ne.symm hbv]
 ·simp only[Heap.ents,jq,List.cons_append,List.append_assoc];exact((List.sublist_append_right _ _)).cons _
 ·intro e he y hy;obtain⟨h1,h2⟩:=hg e (by simpa[Heap.ents]using he);simp only[jd,jX,yJ]at hy;rcases hy with rfl|rfl
  ·exact h1.symm
  ·exact h2.symm
def e173G:Entry PG:=mkE 173 [[7],[]] (fun x:Tr × Int=>[qao x.1,.int .i64 x.2]) (fun x=>∀n,n∈x.1->n.kids.length<=1000000) (fun x=>.int .i64 (qd6 x.1 x.2)) fun x h=>c173g (T:=[e88,e47]) rfl rfl x.1 h x.2
theorem q173G(hT:qac 173 T=some e173G.g) {a:AV} {H:Heap} {t:Tr} (ha:qco H [7] a=some (qao t)) (hk:∀n,n∈t->n.kids.length<=1000000) (i:Int):qb5 (ctx T) (.fn 173) [a,.int .i64 i] H=some (.int .i64 (qd6 t i),H):=
 qb9 hT qrp (t,i) hk rfl (by simp[ha])
mutual
theorem zbu{σ:List (Nat × Nat)} {Φ:List (Nat × List AV)}:∀(a b:AV),qas σ [] a b->qas σ Φ a b
 |.undef,b,h=>by cases b<;>simp_all [qas,qcp]
 |.bool _,b,h=>by cases b<;>simp_all [qas,qcp]
 |.int _ _,b,h=>by cases b<;>simp_all [qas,qcp]
 |.str _,b,h=>by cases b<;>simp_all [qas,qcp]
 |.nilP,b,h=>by cases b<;>simp_all [qas,qcp]
 |.ptr _ _,b,h=>by cases b<;>simp_all [qas,qcp]
 |.fptr _ _,b,h=>by cases b<;>simp_all [qas,qcp]
 |.nilS,b,h=>by cases b<;>simp_all [qas,qcp]
 |.eslc,b,h=>by cases b<;>simp_all [qas,qcp]
 |.zslc,b,h=>by cases b<;>simp_all [qas,qcp]
 |.slc _ _ _ _,b,h=>by cases b<;>simp_all [qas,qcp]
 |.fslc _ _,b,h=>by cases b<;>simp_all [qas,qcp]
 |.xslc _ _,b,h=>by cases b<;>simp_all [qas,qcp]
 |.nilM,b,h=>by cases b<;>simp_all [qas,qcp]
 |.map _,b,h=>by cases b<;>simp_all [qas,qcp]
 |.nilF,b,h=>by cases b<;>simp_all [qas,qcp]
 |.yld _,b,h=>by cases b<;>simp_all [qas,qcp]
 |.val _,b,h=>by cases b<;>simp_all [qas,qcp]
 |.agg xs,b,h=>by
  cases b with
  |agg ys=>simp only[qas]at h ⊢;exact h.imp (qfh xs ys) id
  |undef=>simp[qas]
  |_=>simp[qas]at h
 |.tup xs,b,h=>by
  cases b with
  |tup ys=>simp only[qas]at h ⊢;exact h.imp (qfh xs ys) id
  |undef=>simp[qas]
  |_=>simp[qas]at h
 |.func f x y,b,h=>by
  cases b with
  |func f' x' y'=>simp only[qas]at h ⊢;exact h.imp (fun⟨h1,h2,h3⟩=>⟨h1,qfh x x' h2,qfh y y' h3⟩) id
  |undef=>simp[qas]
  |_=>simp[qas]at h
theorem qfh{σ:List (Nat × Nat)} {Φ:List (Nat × List AV)}:∀(a b:List AV),qb8 σ [] a b->qb8 σ Φ a b
 |[],b,h=>by simpa[qb8]using h
 |x::r,[],h=>by simp[qb8]at h
 |x::r,y::s,h=>by simp only[qb8]at h ⊢;exact⟨zbu x y h.1,qfh r s h.2⟩
end
theorem qp6{σ:List (Nat × Nat)} {Φ:List (Nat × List AV)} {k k':Blk} (h:qkw σ [] k k'):qkw σ Φ k k':=by
 cases k<;>cases k'<;>simp only[qkw]at h ⊢
 ·exact qfh _ _ h
 ·exact⟨qfh _ _ h.1,qfh _ _ h.2⟩
 ·exact⟨h.1,h.2.1,h.2.2.1,qfh _ _ h.2.2.2⟩
 ·exact h
 ·obtain⟨h1,h2,h3,h4,h5⟩:=h;exact⟨h1,h2,h3,qfh _ _ h4,h5⟩
def setKids(t:Tr) (i:Nat) (K:List Int):Tr:=t.take i++{ qa0 t i with kids:=K }::t.drop (i+1)
theorem qbt{t:Tr} {i:Nat} (h:i < t.length) (K:List Int):(setKids t i K).length=t.length:=by simp[setKids];omega
def qgj(t:Tr) (i:Nat) (v:AV):List AV:=(qaa ((t.take i).map qa9)++[qat (qa0 t i).kind,qat (qa0 t i).space,.str (qa0 t i).name,qae (qa0 t i).attrs,.str (qa0 t i).data,qat (qa0 t i).up])++[v]++qaa ((t.drop (i+1)).map qa9)
theorem qrj{t:Tr} {i:Nat} (h:i < t.length) (v:AV):qiz [v] (i * 7+6) (qaa (t.map qa9))=some (qgj t i v):=by
 have hl:(qaa ((t.take i).map qa9)).length=i * 7:=by rw[(qbg _).len];simp;omega
 have e1:qaa (t.map qa9)=qgj t i (qa8 (qa0 t i).kids):=by
  conv=>lhs;rw[qh5 h]
  simp[qbv,qaa,Nd.cs,qgj]
 rw[e1];have:=qfz (a:=qaa ((t.take i).map qa9)++[qat (qa0 t i).kind,qat (qa0 t i).space,.str (qa0 t i).name,qae (qa0 t i).attrs,.str (qa0 t i).data,qat (qa0 t i).up]) (b:=[qa8 (qa0 t i).kids]) (b':=[v]) (c:=qaa ((t.drop (i+1)).map qa9)) rfl;rw[js,hl]at this;exact this
section
variable {m n pb k sz:Nat} {pre post es:List AV} {g f:List (Nat × Blk)}
theorem qpu(h:Eok m pb pre k sz es post g):((VE pb pre k sz es post g).map (·.1)).Nodup:=by
 have nd:=h.nd;rw[jp]at nd;have hk:=h.lk.2;simp only[jd,Jh]at hk;unfold VE;cases es with
 |nil=>simpa[qcg]using nd
 |cons x r=>simp only[qcg,List.map_cons,List.cons_append,jv,jp,jd,Jh];exact⟨⟨fun e=>hk.1 e.symm,nd.1⟩,hk.2,nd.2⟩
theorem qix(h:Eok m pb pre k sz es post g):∀e,e∈VE pb pre k sz es post g->e.1 < m/\SelfB m e.2:=by
 intro e he;unfold VE at he;rw[jd,je]at he;rcases he with rfl|he|he
 ·refine⟨h.lp,fun σ hσ=>?_⟩;show qb8 _ _ _ _;refine qgz (h.sp σ hσ) ?_;simp only[qb8];refine⟨?_,h.sq σ hσ⟩;cases es with
  |nil=>simp[qce,qas]
  |cons x r=>rw[qbr (by simp)];simp[qas,hσ k h.lk.1]
 ·cases es with
  |nil=>cases he
  |cons x r=>simp only[qcg,j2]at he;subst he;exact⟨h.lk.1,qh9 h.el.pure⟩
 ·exact⟨h.lg e he,h.sg e he⟩
theorem qkr{N:Nat} {H H':Heap} (hN:N<=m) (nd:(H'.ents.map (·.1)).Nodup) (ha:∀e,e∈H'.ents->e.1 < m/\SelfB m e.2/\H.get e.1=some e.2) (hn:m<=H'.n):FitH N (idn m) [] H H' where
 nd1:=by simpa using qie m
 nd2:=qkm m
 nd3:=nd
 lt:=fun x hx=>by
  obtain⟨i,hi,rfl⟩:=jw.1 hx;have:i < m:=by simpa using hi
  show i < H'.n;omega
 idn:=fun x hx hlt=>by obtain⟨i,hi,rfl⟩:=jw.1 hx;rfl
 num:=j6 hN hn
 src:=fun e he=>by obtain⟨h1,h2,h3⟩:=ha e he;exact⟨e.1,e.2,qe4 h1,h3,h2 _ (qmf m)⟩
 frz:=fun x h=>by cases h
theorem qp4{N m':Nat} (h:Eok m pb pre k sz es post g) (hN:N<=m) (hm:m<=m') (hf:∀i,i < m->getF i f=none):FitH N (idn m) [] ⟨n,[f,VE pb pre k sz es post g]⟩ ⟨m',[[],VE pb pre k sz es post g]⟩:=by refine qkr hN (by simpa[Heap.ents]using qpu h) (fun e he=>?_) hm;simp only[Heap.ents,jq,j7,jh,jv]at he;obtain⟨h1,h2⟩:=qix h e he;refine⟨h1,h2,?_⟩;simp only[Heap.get,getFs];rw[hf _ h1,qlh (qpu h) he]
theorem qcv{N m':Nat} (h:Eok m pb pre k sz es post g) (hN:N<=m) (hm:m<=m') (hf:∀i,i < m->getF i f=none):FitH N (idn m) [] ⟨n,[f,VE pb pre k sz es post g]⟩ ⟨m',[VE pb pre k sz es post g]⟩:=by refine qkr hN (by simpa[Heap.ents]using qpu h) (fun e he=>?_) hm;simp only[Heap.ents,jq,j7,jh,jv]at he;obtain⟨h1,h2⟩:=qix h e he;refine⟨h1,h2,?_⟩;simp only[Heap.get,getFs];rw[hf _ h1,qlh (qpu h) he]
end
theorem qif{t:Tr} {i:Nat} (h:i < t.length):qcb (qaa (t.map qa9)) (i * 7+6)=some (qa8 (qa0 t i).kids):=by
 have hl:(qaa ((t.take i).map qa9)).length=i * 7:=by rw[(qbg _).len];simp;omega
 have e1:qaa (t.map qa9)=(qaa ((t.take i).map qa9)++[qat (qa0 t i).kind,qat (qa0 t i).space,.str (qa0 t i).name,qae (qa0 t i).attrs,.str (qa0 t i).data,qat (qa0 t i).up])++(qa8 (qa0 t i).kids::qaa ((t.drop (i+1)).map qa9)):=by
  conv=>lhs;rw[qh5 h]
  simp[qbv,qaa,Nd.cs]
 have l6:(qaa ((t.take i).map qa9)++[qat (qa0 t i).kind,qat (qa0 t i).space,.str (qa0 t i).name,qae (qa0 t i).attrs,.str (qa0 t i).data,qat (qa0 t i).up]).length=i * 7+6:=by rw[js,hl];rfl
 rw[e1,qf5 (by rw[js,l6];simp),jB (by omega)];simp only[l6,Jg,jH]
theorem get_up{t:Tr} {i:Nat} (h:i < t.length):qcb (qaa (t.map qa9)) (i * 7+5)=some (.int .i64 (qa0 t i).up):=by
 have hl:(qaa ((t.take i).map qa9)).length=i * 7:=by rw[(qbg _).len];simp;omega
 have e1:qaa (t.map qa9)=(qaa ((t.take i).map qa9)++[qat (qa0 t i).kind,qat (qa0 t i).space,.str (qa0 t i).name,qae (qa0 t i).attrs,.str (qa0 t i).data])++(qat (qa0 t i).up::qa8 (qa0 t i).kids::qaa ((t.drop (i+1)).map qa9)):=by
  conv=>lhs;rw[qh5 h]
  simp[qbv,qaa,Nd.cs]
 have l6:(qaa ((t.take i).map qa9)++[qat (qa0 t i).kind,qat (qa0 t i).space,.str (qa0 t i).name,qae (qa0 t i).attrs,.str (qa0 t i).data]).length=i * 7+5:=by rw[js,hl];rfl
 rw[e1,qf5 (by rw[js,l6];simp),jB (by omega)];simp only[l6,Jg,jH];rfl
theorem qmd{t:Tr} {i:Nat} {K:List Int}:qgj t i (qa8 K)=qaa ((setKids t i K).map qa9):=by simp[setKids,qbv,qaa,Nd.cs,qat,qgj]
theorem qh8{m n pb k:Nat} {pre post:List AV} {g f:List (Nat × Blk)} {t:Tr} (h:Eok m pb pre k 7 (t.map qa9) post g) {i:Nat} (hi:i < t.length) (K:List Int) (hf:∀j,j < m->getF j f=none) :
  writeVar PG ⟨n,[f,VE pb pre k 7 (t.map qa9) post g]⟩ 38 (.ptr k (i * 7+6)) (qa8 K)=some ⟨n,[f,VE pb pre k 7 ((setKids t i K).map qa9) post g]⟩:=by
 have hne:t.map qa9≠[]:=by intro e;have:=jR List.length e;simp at this;subst this;simp at hi
 have hne':(setKids t i K).map qa9≠[]:=by simp[setKids]
 have hk:getF k f=none:=hf k h.lk.1;have hg:Heap.get ⟨n,[f,VE pb pre k 7 (t.map qa9) post g]⟩ k=some (.cells (qaa (t.map qa9))):=by simp only[Heap.get,getFs];rw[hk,qso h hne]
 have hs:Heap.set ⟨n,[f,VE pb pre k 7 (t.map qa9) post g]⟩ k (.cells (qaa ((setKids t i K).map qa9)))=some ⟨n,[f,VE pb pre k 7 ((setKids t i K).map qa9) post g]⟩:=by simp only[Heap.set,setFs];rw[qke hk];unfold VE;rw[qd4 hne,qd4 hne',qbr hne,qbr hne'];simp[setF,h.k_p,qbt hi]
 have hl:=qrj hi (qa8 K);rw[qmd]at hl;have rf:refs 6 (qa8 K)=[]:=ql4 6 _ (qd0 K);unfold writeVar;simp[qa8]at hl rf ⊢;simp[AV.cells,allSingle,AV.single,writeCells,hg,Blk.wt,hl,Heap.ready,rf,hs,Blk.re]
theorem ownV_mid(A D:List Int) (c:Int) (b:Nat):qce b 1 ((A++c::D).map qat)=.slc b 0 (A.length+D.length+1) (.rest 1):=by rw[qbr (by simp)];simp;omega
theorem ql7(A D:List Int) (c:Int) (H:Heap):qki H ((A++c::D).map qat)=H.new (.cells (qay (A++c::D))):=by
 rw[show (A++c::D).map qat=qay (A++c::D) from rfl];obtain⟨x,r,e⟩ : ∃x r,qay (A++c::D)=x::r:=by cases A<;>exact⟨_,_,rfl⟩
 have:=qbf (A++c::D);rw[e]at this ⊢;simp only[qki,this]
def cutK(t:Tr) (i:Int):Tr:=if 0<=qd6 t i then setKids t (qa0 t i).up.toNat ((qa0 t (qa0 t i).up).kids.eraseIdx (qd6 t i).toNat) else t
def qec(t:Tr) (i:Int):Tr:=if i≠0/\isB t i=true then setUp (cutK t i) i.toNat (-1) else cutK t i
theorem qhx(t:Tr) (i:Int):(cutK t i).length=t.length:=by
 unfold cutK;split
 ·rename_i h;unfold qd6 at h;split at h
  next h2=>have:=isB_iff.1 h2.2;exact qbt (by omega) _
  ·omega
 ·rfl
theorem qf7(t:Tr) (i:Int):(qec t i).length=t.length:=by
 unfold qec;split
 next h=>have h2:=isB_iff.1 h.2;have h3:=qhx t i;rw[qi8 (by omega),h3]
 ·exact qhx t i
theorem quh{L:List Int} {x:Int} {a:Nat} (h:atP L x=(a:Int)):∃A D,L=A++x::D/\A.length=a:=by
 have hc:=qow (p:=fun y=>decide (y=x)) L 0;rw[show qb7 (fun y=>decide (y=x)) L 0=atP L x from rfl,h]at hc;rcases hc with⟨h1,_⟩|⟨i,hi,h1,h2,_⟩
 ·omega
 ·have:i=a:=by omega
  subst this;have h3:L[i]=x:=by simpa using h2
  refine⟨L.take i,L.drop (i+1),?_,by simp;omega⟩;rw[<- h3,List.getElem_cons_drop,List.take_append_drop]
theorem c90G(hP:qac 173 T=some e173G.g) (hS:qIn 88 T e88) (hC:qIn 78 T e78)
  {m pb k:Nat} {pre post:List AV} {g:List (Nat × Blk)} {t:Tr} (h:Eok m pb pre k 7 (t.map qa9) post g) (hne:t≠[]) (hk:∀n,n∈t->n.kids.length<=1000000) (i:Int) :
  CA T 90 [.ptr pb pre.length,.int .i64 i] ⟨m,[VE pb pre k 7 (t.map qa9) post g]⟩ (.tup []) ⟨m,[VE pb pre k 7 ((qec t i).map qa9) post g]⟩:=by
 have hne':t.map qa9≠[]:=by simpa using hne
 have nf:∀j,j < m->getF j ([]:List (Nat × Blk))=none:=fun _ _=>rfl;have rdT:=fun n=>(qcs (n:=n) h nf).1;have rdN:=fun n=>(qcs (n:=n) h nf).2;have hkg:∀n,Heap.get ⟨n,[[],VE pb pre k 7 (t.map qa9) post g]⟩ k=some (.cells (qaa (t.map qa9))):=fun n=>by simp only[Heap.get,getFs];rw[nf k h.lk.1,qso h hne']
 have kp:=fun n=>q173G hP (qcx hne (hkg n)) hk i;by_cases hp:0<=qd6 t i
 ·have hp0:=hp;unfold qd6 at hp;split at hp
  case isFalse=>omega
  rename_i hb;obtain⟨i0,i1⟩:=isB_iff.1 hb.1;obtain⟨u0,u1⟩:=isB_iff.1 hb.2;have hpe:qd6 t i=atP (qa0 t (qa0 t i).up).kids i:=by unfold qd6;rw[jo hb]
  obtain⟨I,rfl⟩:=jy i0;obtain⟨u,hu⟩:=jy u0;obtain⟨a,ha⟩:=jy hp0;obtain⟨A,D,hAD,hA⟩:=quh (hpe.symm.trans ha);rw[hu]at hAD u1;have hI:I < t.length:=by omega
  have hU:u < t.length:=by omega
  have hkU:=hk _ (qdo (t:=t) (i:=(u:Int)) (by omega) (by omega));rw[hAD]at hkU;have ecut:cutK t (I:Int)=setKids t u (A++D):=by unfold cutK;rw[jo hp0,hu,ha,hAD];simp only[jr];rw[qsc,<- hA,List.take_left' rfl,show A.length+1=(A++[(I:Int)]).length by simp,show A++(I:Int)::D=(A++[(I:Int)])++D by simp,yX]
  have gu:=get_up hI;have gk:=qif hU;rw[hu]at gu;rw[hAD]at gk;have ixI:qaq PG 35 (qce k 7 (t.map qa9)) (.int .i64 (I:Int))=some (.ptr k (I * 7)):=by rw[qbr hne'];simp[qaq,qbn hI]
  have ixU:qaq PG 35 (qce k 7 (t.map qa9)) (.int .i64 (u:Int))=some (.ptr k (u * 7)):=by rw[qbr hne'];simp[qaq,qbn hU]
  have rdU:∀n,qb2 PG ⟨n,[[],VE pb pre k 7 (t.map qa9) post g]⟩ 3 (.ptr k (I * 7+5))=some (.int .i64 (u:Int)):=fun n=>by simp[hkg,gu]
  have rdK:∀n,qb2 PG ⟨n,[[],VE pb pre k 7 (t.map qa9) post g]⟩ 38 (.ptr k (u * 7+6))=some (qa8 (A++(I:Int)::D)):=fun n=>by simp[hkg,gk]
  have kcl:=fun H=>k78 hC (L:=A++(I:Int)::D) hkU H;simp only[ownV_mid,ql7]at kcl;have hw:=fun n=>qh8 (n:=n) h hU (A++D) nf;rw[ha]at kp;obtain⟨j,hj⟩ : ∃j,j=a+1:=⟨_,rfl⟩;have aj:wr .i64 ((a:Int)+1)=some (j:Int):=by rw[hj];exact qbb (by simp at hkU;omega)
  refine qa1 (s0:=⟨[0,1,4,5],[.ptr pb pre.length,.int .i64 (I:Int),uD,uD],[],54,⟨m,[]::[VE pb pre k 7 (t.map qa9) post g]⟩⟩) Tryz.func90 rfl rfl rfl ?_;apply qR;simp[zS,rdT,kp];apply qR;simp[zS];apply qag rfl;try apply qad
  refine qc4 mixed qaz (by decide +kernel) fun B_ hB_=>?_;apply qhi B_;simp[zS,qbc,qar,qb4,qbh,qan,qbd,qba,Heap.lay,qap,qhh,qhg,qei,qeh,qef,qeg,qew,qel,qdj,qdk,qeq,qep,qen,qeo,qet,qeu,qes,qer,rdN,ixI,ixU,rdU];exact rfl;refine⟨_,rfl,?_,?_⟩;simp[zS,qbh,qan,qc1,qc9,qd2,rdN,ixI,ixU,rdU];try simp[allPend,Heap.lay,qap,qab]
  refine qb0 (qci [⟨106,_,_,_,_,del_row (T:=T) A D (I:Int) (i:=a) (j:=j) (N:=A.length+D.length+1) (b:=m+14) (n:=m+15) (g:=[]) (fs:=[VE pb pre k 7 (t.map qa9) post g]) (by simp at hkU;omega) hA.symm hj rfl ?_⟩]) ?_
  ·intro e he;have:=qix h e (by simpa using he);omega
  simp[zS,qdz,rdK,kcl,aj,hw];have hbI:=hb.1;have hX:=h.mono (ja m) (qbg (setKids t u (A++D)));have lX:(setKids t u (A++D)).length=t.length:=by rw[<- ecut];exact qhx t _
  have hXne:(setKids t u (A++D))≠[]:=by intro e;rw[e]at lX;exact hne (jO.1 lX.symm)
  have hXne':(setKids t u (A++D)).map qa9≠[]:=by simpa using hXne
  have hkgX:∀n,Heap.get ⟨n,[[],VE pb pre k 7 ((setKids t u (A++D)).map qa9) post g]⟩ k=some (.cells (qaa ((setKids t u (A++D)).map qa9))):=fun n=>by simp only[Heap.get,getFs];rw[nf k hX.lk.1,qso hX hXne']
  have rdTX:=fun n=>(qcs (n:=n) hX nf).1;have rdNX:=fun n=>(qcs (n:=n) hX nf).2;have ksX:=fun n=>q88 hS (qcx hXne (hkgX n)) (I:Int);have bX:isB (setKids t u (A++D)) (I:Int)=isB t (I:Int):=by simp only[isB,lX]
  simp only[bX,hbI]at ksX;have hJX:I < (setKids t u (A++D)).length:=by have:=(isB_iff.1 hbI).2;rw[lX];omega
  have ixX:qaq PG 35 (qce k 7 ((setKids t u (A++D)).map qa9)) (.int .i64 (I:Int))=some (.ptr k (I * 7)):=by rw[qbr hXne'];have:=qbn hJX;simp[qaq,this]
  by_cases hz:I=0
  ·have ec:qec t (I:Int)=setKids t u (A++D):=(by unfold qec;rw[jm (by simp[hz])];exact ecut);rw[ec];apply qR;simp[zS,hz];apply qaj rfl;apply qa5;simp;refine⟨[],rfl,_,_,by simp[oneOr,qas,qb8,qa6],qcv hX (ja m) (ja m) fun _ _=>rfl⟩
  ·have ec:qec t (I:Int)=setUp (setKids t u (A++D)) I (-1):=(by unfold qec;rw[jo ⟨by omega,hbI⟩,ecut];rfl);have hwX:=fun n=>qho (n:=n) hX hJX (-1) nf;have hU2:=hX.mono (ja m) (qbg (setUp (setKids t u (A++D)) I (-1)));rw[ec];apply qR;simp[zS,rdTX,ksX,hz];apply qag rfl;apply qR;simp[zS,rdNX,ixX,hwX];refine⟨[],rfl,_,_,by simp[oneOr,qas,qb8,qa6],qcv hU2 (ja m) (ja m) fun _ _=>rfl⟩
 ·have ecut:cutK t i=t:=by unfold cutK;rw[jm hp]
  have hp':¬ (0:Int)<=qd6 t i:=hp;refine qa1 (s0:=⟨[0,1,4,5],[.ptr pb pre.length,.int .i64 i,uD,uD],[],54,⟨m,[]::[VE pb pre k 7 (t.map qa9) post g]⟩⟩) Tryz.func90 rfl rfl rfl ?_;apply qR;simp[zS,rdT,kp];apply qR;simp[zS,hp];refine qaj (by simp[qc5,St.get,hp]) ?_;apply qa5;simp;rcases yy (isB t i)with hbI|hbI
  ·obtain⟨J,rfl⟩:=jy (isB_iff.1 hbI).1;have hX:=h;have hXne:=hne;have hXne':=hne';have hkgX:=hkg;have rdTX:=rdT;have rdNX:=rdN;have lX:t.length=t.length:=rfl;have ksX:=fun n=>q88 hS (qcx hXne (hkgX n)) (J:Int);simp only[hbI]at ksX;have hJX:J < (t).length:=(by have:=(isB_iff.1 hbI).2;rw[lX];omega);have ixX:qaq PG 35 (qce k 7 ((t).map qa9)) (.int .i64 (J:Int))=some (.ptr k (J * 7)):=(by rw[qbr hXne'];have:=qbn hJX;simp[qaq,this]);by_cases hz:J=0
   ·have ec:qec t (J:Int)=t:=(by unfold qec;rw[jm (by simp[hz])];exact ecut);rw[ec];apply qR;simp[zS,hz];apply qaj rfl;apply qa5;simp;refine⟨[],rfl,_,_,by simp[oneOr,qas,qb8,qa6],qcv hX (ja m) (ja m) fun _ _=>rfl⟩
   ·have ec:qec t (J:Int)=setUp (t) J (-1):=(by unfold qec;rw[jo ⟨by omega,hbI⟩,ecut];rfl);have hwX:=fun n=>qho (n:=n) hX hJX (-1) nf;have hU2:=hX.mono (ja m) (qbg (setUp (t) J (-1)));rw[ec];apply qR;simp[zS,rdTX,ksX,hz];apply qag rfl;apply qR;simp[zS,rdNX,ixX,hwX];refine⟨[],rfl,_,_,by simp[oneOr,qas,qb8,qa6],qcv hU2 (ja m) (ja m) fun _ _=>rfl⟩
  ·skip
   have hX:=h;have hXne:=hne;have hXne':=hne';have hkgX:=hkg;have rdTX:=rdT;have rdNX:=rdN;have lX:t.length=t.length:=rfl;have ksX:=fun n=>q88 hS (qcx hXne (hkgX n)) i;simp only[hbI]at ksX;have ec:qec t i=t:=(by unfold qec;rw[jm (by simp[hbI])];exact ecut);rw[ec];by_cases hz:i=0
   ·apply qR;simp[zS,hz];apply qaj rfl;apply qa5;simp;refine⟨[],rfl,_,_,by simp[oneOr,qas,qb8,qa6],qcv hX (ja m) (ja m) fun _ _=>rfl⟩
   ·apply qR;simp[zS,rdTX,ksX,hz];apply qaj rfl;apply qa5;simp;refine⟨[],rfl,_,_,by simp[oneOr,qas,qb8,qa6],qcv hX (ja m) (ja m) fun _ _=>rfl⟩
theorem qod{n:Nat} {f:List (Nat × Blk)} {fs:List (List (Nat × Blk))} (es:List AV):qki ⟨n,f::fs⟩ es=⟨n+(if es=[] then 0 else 1),(qcg n es++f)::fs⟩:=by cases es<;>simp[qki,qcg,Heap.new,pushF]
def qcf(t:Tr) (b:Nat):Prop:=∀n,n∈t->n.kids.length<=b
theorem qfr{t:Tr} {b:Nat} (h:qcf t b) (j:Int):(qa0 t j).kids.length<=b:=by
 unfold qa0;rw[List.getD_eq_getElem?_getD];cases hq:t[j.toNat]? with
 |none=>exact jx _
 |some x=>exact h x (List.mem_of_getElem? hq)
theorem qy3{t:Tr} {i b:Nat} {K:List Int} (h:qcf t b) (hK:K.length<=b):qcf (setKids t i K) b:=by
 intro n hn;unfold setKids at hn;rcases je.1 hn with hn|hn
 ·exact h n (yf hn)
 ·rcases jd.1 hn with rfl|hn
  ·exact hK
  ·exact h n (jZ hn)
theorem setUp_le{t:Tr} {i b:Nat} {u:Int} (h:qcf t b):qcf (setUp t i u) b:=by
 intro n hn;unfold setUp at hn;rcases je.1 hn with hn|hn
 ·exact h n (yf hn)
 ·rcases jd.1 hn with rfl|hn
  ·exact qfr h _
  ·exact h n (jZ hn)
theorem zc9{t:Tr} {b:Nat} (h:qcf t b) (i:Int):qcf (qec t i) b:=by
 have h1:qcf (cutK t i) b:=by
  unfold cutK;split
  ·exact qy3 h (j6 (Jt _ _) (qfr h _))
  ·exact h
 unfold qec;split
 ·exact setUp_le h1
 ·exact h1
def qi9(t:Tr) (up kid:Int):Bool:=isB t up && isB t kid && !decide (kid=0) && !qft t kid up
def qgx(K:List Int) (at_ kid:Int):List Int:=qdb K (min (max at_ 0) (K.length:Int)).toNat kid
def qgh(t:Tr) (up at_ kid:Int):Tr:=if qi9 t up kid=true then setUp (setKids (qec t kid) up.toNat (qgx (qa0 (qec t kid) up).kids at_ kid)) kid.toNat up else t
theorem c26G(hP:qac 173 T=some e173G.g) (hS:qIn 88 T e88) (hH:qIn 89 T e89) (hC:qIn 78 T e78)
  {m pb k:Nat} {pre post:List AV} {g:List (Nat × Blk)} {t:Tr} (h:Eok m pb pre k 7 (t.map qa9) post g) (hne:t≠[]) (ht:t.length<=1000000) (hk:qcf t 999999) (up at_ kid:Int) :
  CA T 26 [.ptr pb pre.length,.int .i64 up,.int .i64 at_,.int .i64 kid] ⟨m,[VE pb pre k 7 (t.map qa9) post g]⟩ (.tup []) ⟨m,[VE pb pre k 7 ((qgh t up at_ kid).map qa9) post g]⟩:=by
 have hne':t.map qa9≠[]:=by simpa using hne
 have nf:∀j,j < m->getF j ([]:List (Nat × Blk))=none:=fun _ _=>rfl;have rdT:=fun n=>(qcs (n:=n) h nf).1;have hkg:∀n,Heap.get ⟨n,[[],VE pb pre k 7 (t.map qa9) post g]⟩ k=some (.cells (qaa (t.map qa9))):=fun n=>by simp only[Heap.get,getFs];rw[nf k h.lk.1,qso h hne']
 have ksi:=fun n=>q88 hS (qcx hne (hkg n)) kid;have ksu:=fun n=>q88 hS (qcx hne (hkg n)) up;have kh:=fun n=>q89 hH (qcx hne (hkg n)) ht kid up;by_cases hok:qi9 t up kid=true
 case neg=>
  have e:qgh t up at_ kid=t:=by unfold qgh;rw[jm hok]
  rw[e];cases bu:isB t up with
  |false=>rw[bu]at ksu;refine qa1 (s0:=⟨[0,1,2,3,8],[.ptr pb pre.length,.int .i64 up,.int .i64 at_,.int .i64 kid,uD],[],71,⟨m,[]::[VE pb pre k 7 (t.map qa9) post g]⟩⟩) Tryz.func26 rfl rfl rfl ?_;apply qR;simp[zS,rdT,ksu];apply qag rfl;apply qa7;simp[zQ,Tryz.f26];exact⟨_,_,by simp[qas,qb8,qa6],qcv h (ja m) (ja m) fun _ _=>rfl⟩
  |true=>cases bi:isB t kid with
   |false=>rw[bu]at ksu;rw[bi]at ksi;refine qa1 (s0:=⟨[0,1,2,3,8],[.ptr pb pre.length,.int .i64 up,.int .i64 at_,.int .i64 kid,uD],[],71,⟨m,[]::[VE pb pre k 7 (t.map qa9) post g]⟩⟩) Tryz.func26 rfl rfl rfl ?_;apply qR;simp[zS,rdT,ksu,ksi];apply qag rfl;apply qa7;simp[zQ,Tryz.f26];exact⟨_,_,by simp[qas,qb8,qa6],qcv h (ja m) (ja m) fun _ _=>rfl⟩
   |true=>
    by_cases h0:kid=0
    ·subst h0;rw[bu]at ksu;rw[bi]at ksi;refine qa1 (s0:=⟨[0,1,2,3,8],[.ptr pb pre.length,.int .i64 up,.int .i64 at_,.int .i64 0,uD],[],71,⟨m,[]::[VE pb pre k 7 (t.map qa9) post g]⟩⟩) Tryz.func26 rfl rfl rfl ?_;apply qR;simp[zS,rdT,ksu,ksi];apply qag rfl;apply qa7;simp[zQ,Tryz.f26];exact⟨_,_,by simp[qas,qb8,qa6],qcv h (ja m) (ja m) fun _ _=>rfl⟩
    ·have bh:qft t kid up=true:=(by simpa[qi9,bu,bi,h0]using hok);rw[bu]at ksu;rw[bi]at ksi;rw[bh]at kh;refine qa1 (s0:=⟨[0,1,2,3,8],[.ptr pb pre.length,.int .i64 up,.int .i64 at_,.int .i64 kid,uD],[],71,⟨m,[]::[VE pb pre k 7 (t.map qa9) post g]⟩⟩) Tryz.func26 rfl rfl rfl ?_;apply qR;simp[zS,rdT,ksu,ksi,kh,h0];apply qag rfl;apply qa7;simp[zQ,Tryz.f26];exact⟨_,_,by simp[qas,qb8,qa6],qcv h (ja m) (ja m) fun _ _=>rfl⟩
 case pos=>
  have ep:qgh t up at_ kid=setUp (setKids (qec t kid) up.toNat (qgx (qa0 (qec t kid) up).kids at_ kid)) kid.toNat up:=by unfold qgh;rw[jo hok]
  rw[ep];simp only[qi9,jf,yn,yh]at hok;obtain⟨⟨⟨bu,bi⟩,h0⟩,bh⟩:=hok;rw[bu]at ksu;rw[bi]at ksi;rw[bh]at kh;have hcut:=(c90G (T:=T) hP hS hC h hne (fun n hn=>j6 (hk n hn) (by omega)) kid).perm (H2:=⟨m,[[],VE pb pre k 7 (t.map qa9) post g]⟩) (H2':=⟨m,[[],VE pb pre k 7 ((qec t kid).map qa9) post g]⟩) rfl rfl (by simp[Heap.ents]) (by simp[Heap.ents]);have lX:=qf7 t kid;have kX:=zc9 hk kid;generalize qec t kid=X at *;obtain⟨u,rfl⟩:=jy (isB_iff.1 bu).1;obtain⟨i,rfl⟩:=jy (isB_iff.1 bi).1;have hu:u < X.length:=by have:=(isB_iff.1 bu).2;omega
  have hi:i < X.length:=by have:=(isB_iff.1 bi).2;omega
  simp only[jr];have hX:=h.mono (ja m) (qbg X);have hXne:X≠[]:=by intro e;rw[e]at lX;exact hne (jO.1 lX.symm)
  have hXne':X.map qa9≠[]:=by simpa using hXne
  have hkgX:∀n (f:List (Nat × Blk)),(∀j,j < m->getF j f=none)->Heap.get ⟨n,[f,VE pb pre k 7 (X.map qa9) post g]⟩ k=some (.cells (qaa (X.map qa9))):=fun n f hf=>by simp only[Heap.get,getFs];rw[hf k hX.lk.1,qso hX hXne']
  have rdN:=fun n=>(qcs (n:=n) hX nf).2;have ix:qaq PG 35 (qce k 7 (X.map qa9)) (.int .i64 (u:Int))=some (.ptr k (u * 7)):=by rw[qbr hXne'];simp[qaq,qbn hu]
  obtain⟨K,hK⟩ : ∃K,K=(qa0 X (u:Int)).kids:=⟨_,rfl⟩;have hKl:K.length<=999999:=by rw[hK];exact qfr kX _
  rw[<- hK];obtain⟨p,hp⟩ : ∃p:Nat,min (max at_ 0) (K.length:Int)=(p:Int):=jy (by omega);have hpl:p<=K.length:=by omega
  have eins:qgx K at_ (i:Int)=qdb K p (i:Int):=by unfold qgx;rw[hp];rfl
  rw[eins];have rdK:∀(n:Nat) (f:List (Nat × Blk)),(∀j,j < m->getF j f=none)->qb2 PG ⟨n,[f,VE pb pre k 7 (X.map qa9) post g]⟩ 38 (.ptr k (u * 7+6))=some (qa8 K):=fun n f hf=>by simp[hkgX n f hf,qif hu,hK]
  have rdK0:=fun n=>rdK n [] nf;have rdK1:=fun n=>rdK n (qcg (m+20) (K.map qat)) fun j hj=>by
   cases K with
   |nil=>rfl
   |cons y r=>simp[qcg,getF,qax (show m+20≠j by omega)]
  have kcl:=k78 hC (L:=K) (by omega) ⟨m+20,[[],VE pb pre k 7 (X.map qa9) post g]⟩;rw[qod]at kcl;simp only[jh]at kcl;have lK:∀H,qf3 PG H 38 (qa8 K)=some K.length:=fun H=>by simp[qf3,qa8]
  have mx:qkv false (.int .i64 at_) [.int .i64 0]=some (.int .i64 (max at_ 0)):=rfl;have mn:qkv true (.int .i64 (max at_ 0)) [.int .i64 (K.length:Int)]=some (.int .i64 (p:Int)):=by simp[qkv,hp]
  have hins:=qvb (T:=T) K (i:Int) p hpl (by omega) (b:=m+20) (vb:=m+15) (n:=m+20+(if K.map qat=[] then 0 else 1)) (g:=[]) (fs:=[VE pb pre k 7 (X.map qa9) post g]) (by omega) (fun e he=>by have:=(qix hX e (by simpa using he)).1;omega);simp only[jh]at hins;have hw:=fun n=>qh8 (n:=n) hX hu (qdb K p (i:Int)) nf;have hX2:=hX.mono (ja m) (qbg (setKids X u (qdb K p (i:Int))));have lX2:(setKids X u (qdb K p (i:Int))).length=X.length:=qbt hu _;have hX2ne:(setKids X u (qdb K p (i:Int))).map qa9≠[]:=by simp[setKids]
  have rdN2:=fun n=>(qcs (n:=n) hX2 nf).2;have ix2:qaq PG 35 (qce k 7 ((setKids X u (qdb K p (i:Int))).map qa9)) (.int .i64 (i:Int))=some (.ptr k (i * 7)):=by have:=qbn (show i < (setKids X u (qdb K p (i:Int))).length by omega);rw[qbr hX2ne];simp[qaq,this]
  have hw2:=fun n=>qho (n:=n) hX2 (show i < (setKids X u (qdb K p (i:Int))).length by omega) (u:Int) nf;have hX3:=hX2.mono (ja m) (qbg (setUp (setKids X u (qdb K p (i:Int))) i (u:Int)));generalize hd:(if K.map qat=[] then 0 else 1)=d at kcl hins;generalize qdb K p (i:Int)=K' at *;have h0':¬ i=0:=by omega
  refine qa1 (s0:=⟨[0,1,2,3,8],[.ptr pb pre.length,.int .i64 (u:Int),.int .i64 at_,.int .i64 (i:Int),uD],[],71,⟨m,[]::[VE pb pre k 7 (t.map qa9) post g]⟩⟩) Tryz.func26 rfl rfl rfl ?_;apply qR;simp[zS,rdT,ksi,ksu,kh,h0,h0'];apply qaj rfl;apply qa5;simp;repeat apply wq
  refine qb0 (qci [⟨90,_,_,_,_,hcut⟩]) ?_;simp[zS,qdz];apply qR;simp[zS,rdN,ix];have rB:∀cs,qyz PG 38 (some 59) cs=.buf 3 0 cs:=fun _=>rfl;repeat apply wq
  refine qc4 mixed (qci [⟨91,_,_,_,_,hins⟩]) (by decide +kernel) fun B_ hB_=>?_;have hD_:ahead B_ 4 5=true/\ahead B_ 4 16=true/\ahead B_ 4 19=true/\ahead B_ 5 4=false/\ahead B_ 5 11=false/\ahead B_ 5 12=false/\ahead B_ 11 5=false/\ahead B_ 11 16=true/\ahead B_ 11 19=true/\ahead B_ 12 5=false/\ahead B_ 12 16=true/\ahead B_ 12 19=true/\ahead B_ 15 5=false/\ahead B_ 15 16=true/\ahead B_ 15 19=true/\ahead B_ 16 4=false/\ahead B_ 16 11=false/\ahead B_ 16 12=false/\ahead B_ 19 4=false/\ahead B_ 19 11=false/\ahead B_ 19 12=false:=by rw[hB_];decide +kernel
  apply qhi B_;simp[zS,qbc,qar,qb4,qbh,qan,qbd,qba,Heap.lay,qap,qhh,qhg,qei,qeh,qef,qeg,qew,qel,qdj,qdk,qeq,qep,qen,qeo,qet,qeu,qes,qer,hD_,hw,rB,qdz,rdK0,rdK1,kcl,lK,mx,mn];exact rfl;refine⟨_,rfl,?_,?_⟩;simp[zS,qbh,qan,qc1,qc9,qd2,hD_,hw,rB,qdz,rdK0,rdK1,kcl,lK,mx,mn];try simp[allPend,Heap.lay,qap,qab]
  apply qR;simp[zS,rdN2,ix2,hw2];exact⟨[],rfl,_,_,by simp[oneOr,qas,qb8,qa6],qcv hX3 (ja m) (ja m) fun _ _=>rfl⟩
structure SS where
 tree:Tr
 opn:List Int
 act:List Int
 mode:Int
 back:Int
 lex:Int
 form:Int
 head:Int
 foster:Bool
 skip:Bool
 inside:Str
def SS.post(s:SS):List AV:=[qa8 s.opn,qa8 s.act,.int .i64 s.mode,.int .i64 s.back,.int .i64 s.lex,.int .i64 s.form,.int .i64 s.head,.bool s.foster,.bool s.skip,.str s.inside]
def VS(k:Nat) (s:SS):List (Nat × Blk):=VE 0 [] k 7 (s.tree.map qa9) s.post []
abbrev nV(k:Nat) (t:Tr):AV:=.slc k 0 t.length (.rest 7)
theorem qdh(s:SS):qa6 s.post=true:=by simp[SS.post,qa6,qa2]
section
variable {s s':SS} {t:Tr} {m n k:Nat} {f:List (Nat × Blk)}
theorem ok_S(s:SS) (k0:0 < k) (km:k < m):Eok m 0 [] k 7 (s.tree.map qa9) s.post [] where
 lp:=by omega
 lk:=⟨km,by simp;omega⟩
 lg:=fun e he=>by cases he
 nd:=by simp
 sg:=fun e he=>by cases he
 sp:=fun σ hσ=>qau rfl
 sq:=fun σ hσ=>qau (qdh s)
 el:=qbg s.tree
theorem qdv(hne:s.tree≠[]):VS k s=[(0,.cells (nV k s.tree::s.post)),(k,.cells (qaa (s.tree.map qa9)))]:=by
 have h:s.tree.map qa9≠[]:=by simpa using hne
 simp[VS,VE,qd4 h,qbr h]
theorem vg0(hne:s.tree≠[]):getF 0 (VS k s)=some (.cells (nV k s.tree::s.post)):=by rw[qdv hne];simp[getF]
theorem vgk(k0:0 < k) (hne:s.tree≠[]):getF k (VS k s)=some (.cells (qaa (s.tree.map qa9))):=by rw[qdv hne];have b1:Nat.beq 0 k=false:=qax (by omega);simp[getF,b1]
theorem sget0(hne:s.tree≠[]) (hf:getF 0 f=none):Heap.get ⟨n,[f,VS k s]⟩ 0=some (.cells (nV k s.tree::s.post)):=by rw[qdv hne];simp[Heap.get,getFs,hf,getF]
theorem sgetk(k0:0 < k) (hne:s.tree≠[]) (hf:getF k f=none):Heap.get ⟨n,[f,VS k s]⟩ k=some (.cells (qaa (s.tree.map qa9))):=by rw[qdv hne];have b1:Nat.beq 0 k=false:=qax (by omega);simp[Heap.get,getFs,hf,getF,b1]
theorem sF_nx{b:Nat} {x:Blk}:∀{f:List (Nat × Blk)},getF b f=none->setF b x f=none
 |[],_=>rfl
 |e::r,h=>by
  unfold getF at h;unfold setF;cases hb:Nat.beq e.1 b with
  |true=>rw[hb]at h;cases h
  |false=>rw[hb]at h;simp only at h ⊢;rw[sF_nx h];rfl
theorem fitS{N k' m':Nat} (hN:(k' < N->k=k')/\k' < m'/\N<=m') (h':0 < k') (k0:0 < k) (hne:s.tree≠[]) (hf0:getF 0 f=none) (hfk:getF k f=none):FitH N [(k,k'),(0,0)] [] ⟨n,[f,VS k s]⟩ ⟨m',[VS k' s]⟩ where
 nd1:=by simp;omega
 nd2:=by simp;omega
 nd3:=by rw[qdv hne];simp[Heap.ents];omega
 lt:=by simp;omega
 idn:=by simp;omega
 num:=by simp;omega
 src:=by
  intro e he;rw[qdv hne]at he;simp only[Heap.ents,jq,j7,jh,jd,jX,yJ]at he;rcases he with rfl|rfl
  ·refine⟨0,_,by simp,sget0 hne hf0,?_⟩;simp only[qkw,qb8];exact⟨by simp[qas,qaw],qau (qdh s)⟩
  ·exact⟨k,_,by simp,sgetk k0 hne hfk,qau (qbg s.tree).pure⟩
 frz:=fun x h=>by cases h
theorem fitSG{N k k' m':Nat} {H:Heap} {c0:List AV} {Φ:List (Nat × List AV)} (hN:(k' < N->k=k')/\k' < m'/\N<=m') (h':0 < k') (k0:0 < k) (hne:s'.tree≠[]) (h0:H.get 0=some (.cells c0)) (hk:H.get k=some (.cells (qaa (s'.tree.map qa9)))) (hc:qb8 [(k,k'),(0,0)] Φ c0 (nV k' s'.tree::s'.post))
  (nd:(k::0::Φ.map (·.1)).Nodup) (hΦ:∀x,x∈Φ->H.get x.1=some (.cells x.2)/\qa6 x.2=true):FitH N [(k,k'),(0,0)] Φ H ⟨m',[VS k' s']⟩ where
 nd1:=by simpa using nd
 nd2:=by simp;omega
 nd3:=by rw[qdv hne];simp[Heap.ents];omega
 lt:=by simp;omega
 idn:=by simp;omega
 num:=by simp;omega
 src:=by
  intro e he;rw[qdv hne]at he;simp only[Heap.ents,jq,j7,jh,jd,jX,yJ]at he;rcases he with rfl|rfl
  ·exact⟨0,_,by simp,h0,by simpa only[qkw]using hc⟩
  ·exact⟨k,_,by simp,hk,qau (qbg s'.tree).pure⟩
 frz:=fun x h=>⟨x.2,(hΦ x h).1,qau (hΦ x h).2,(hΦ x h).2⟩
theorem qyn{N k' m':Nat} (hN:(k' < N->k=k')/\k' < m'/\N<=m') (h':0 < k') (k0:0 < k) (hne:s.tree≠[]) (hf0:getF 0 f=none) (hfk:getF k f=none):FitH N [(k,k'),(0,0)] [] ⟨n,[f,VS k s]⟩ ⟨m',[[],VS k' s]⟩:=
 have h:=fitS (n:=n) (m':=m') hN h' k0 hne hf0 hfk
 ⟨h.nd1,h.nd2,by simpa[Heap.ents]using h.nd3,h.lt,h.idn,h.num,fun e he=>h.src e (by simpa[Heap.ents]using he),h.frz⟩
theorem fitS0{N k' m':Nat} (hN:(k' < N->k=k')/\k' < m'/\N<=m') (h':0 < k') (k0:0 < k) (hne:s.tree≠[]):FitH N [(k,k'),(0,0)] [] ⟨n,[VS k s]⟩ ⟨m',[VS k' s]⟩:=
 have hf:=fitS (n:=n) (f:=[]) hN h' k0 hne rfl rfl
 ⟨hf.nd1,hf.nd2,hf.nd3,hf.lt,hf.idn,hf.num,fun e he=>by obtain⟨b,k,h1,h2,h3⟩:=hf.src e he;exact⟨b,k,h1,by simpa[zG]using h2,h3⟩,fun x h=>by cases h⟩
theorem thS(k0:0 < k) (hne:s.tree≠[]) (hf:getF k f=none):qco ⟨n,[f,VS k s]⟩ [7] (.agg [nV k s.tree])=some (qao s.tree):=by have:=qcx (H:=⟨n,[f,VS k s]⟩) (k:=k) (t:=s.tree) hne (sgetk k0 hne hf);rw[qbr (by simpa using hne)]at this;simpa[nV]using this
theorem cut7{i:Nat} (hi:i < t.length):qaa (t.map qa9)=qaa ((t.take i).map qa9)++(qa0 t i).cs++qaa ((t.drop (i+1)).map qa9)/\(qaa ((t.take i).map qa9)).length=i * 7:=by
 constructor
 ·conv=>lhs;rw[qh5 hi]
  simp[qbv,qaa]
 ·rw[(qbg _).len];simp;omega
theorem getN{i c:Nat} (hi:i < t.length) (hc:c < 7):qcb (qaa (t.map qa9)) (i * 7+c)=qcb (qa0 t i).cs c:=by obtain⟨e,l⟩:=cut7 hi;have l7:(qa0 t i).cs.length=7:=rfl;rw[e];generalize qaa ((t.take i).map qa9)=A at *;generalize qaa ((t.drop (i+1)).map qa9)=B at *;generalize (qa0 t i).cs=C at *;rw[qf5 (by simp[l,l7];omega),qf5 (by omega),yb (by simp[l,l7];omega),jB (by omega)];simp[l]
theorem subN{i:Nat} (hi:i < t.length):qfe (i * 7) 7 (qaa (t.map qa9))=some (qa0 t i).cs:=by obtain⟨e,l⟩:=cut7 hi;have l7:(qa0 t i).cs.length=7:=rfl;rw[e];generalize qaa ((t.take i).map qa9)=A at *;generalize qaa ((t.drop (i+1)).map qa9)=B at *;generalize (qa0 t i).cs=C at *;rw[<- l];exact ql0 rfl l7
theorem ixN{i:Nat} (hi:i < t.length):qaq PG 35 (nV k t) (.int .i64 (i:Int))=some (.ptr k (i * 7)):=by simp[qaq,qbn hi]
theorem lenN'(H:Heap):qf3 PG H 35 (nV k t)=some t.length:=by simp[qf3]
theorem qve{b:Nat}:∀{f:List (Nat × Blk)},(∀e,e∈f->e.1≠b)->getF b f=none
 |[],_=>rfl
 |e::r,h=>by have h1:=h e (by simp);unfold getF;rw[qax h1];exact qve fun x hx=>h x (by simp[hx])
theorem call_S{C:Ctx} {g:FuncId} {args:List AV} {v:AV} (h:CallAt C g (.ptr 0 0::args) ⟨2,[VS 1 s]⟩ v ⟨3,[VS 2 s']⟩) (ha:qa6 args=true) (hv:qa2 v=true) (k0:0 < k) (hk:k < n) (hne:s.tree≠[]) (hne':s'.tree≠[]) (hfr:∀e,e∈f->e.1≠0/\e.1≠k) :
  CallAt C g (.ptr 0 0::args) ⟨n,[f,VS k s]⟩ v ⟨n+1,[f,VS n s']⟩:=by
 have fh:FitH 0 [(k,1),(0,0)] [] ⟨n,[f,VS k s]⟩ ⟨2,[VS 1 s]⟩:=fitS ⟨by omega,by omega,by omega⟩ (by omega) k0 hne (qve fun e he=>(hfr e he).1) (qve fun e he=>(hfr e he).2);have:=h.framed (H':=⟨n+1,[f,VS n s']⟩) (args:=.ptr 0 0::args) fh (by simp only[qb8];exact⟨by simp[qas,qaw];omega,qau ha⟩) ?_ (by simp)
 ·simpa[qhb _ hv]using this
 ·have e0:qg4 [(k,1),(0,0)] n 2 0=0:=by simp[qg4,qdt]
  have e2:qg4 [(k,1),(0,0)] n 2 2=n:=by simp[qg4,qdt]
  refine⟨by simp,?_,?_⟩
  ·intro nd lt;rw[qdv hne'];simp only[Heap.ents,jq,j7,jh,j5]at nd ⊢;rw[j4]at nd ⊢;refine⟨nd.1,by simp;omega,fun a ha b hb=>?_⟩;obtain⟨e,he,rfl⟩:=jw.1 ha;have l1:=lt e (by simp[Heap.ents,he]);have l2:=(hfr e he).1;simp only at l1;simp at hb;rcases hb with rfl|rfl<;>omega
  ·intro e he;simp only[Heap.ents,jq,j7,jh,je]at he ⊢;rcases he with he|he
   ·refine .inr ⟨.inl he,fun x hx=>?_⟩;have:=hfr e he;simp at hx;rcases hx with rfl|rfl
    ·exact fun h=>this.2 h.symm
    ·exact fun h=>this.1 h.symm
   ·rw[qdv hne']at he ⊢;simp only[jd,jX,yJ]at he;rcases he with rfl|rfl
    ·refine .inl ⟨(0,.cells (nV 2 s'.tree::s'.post)),by simp,?_⟩;simp only[qn6,qii,qc2 _ (qdh s'),qlu,e0,e2]
    ·refine .inl ⟨(2,.cells (qaa (s'.tree.map qa9))),by simp,?_⟩;simp only[qn6,e2,qc2 _ (qbg s'.tree).pure]
end
abbrev SC(T:List (Entry PG)) (g:FuncId) (args:List AV) (s:SS) (v:AV) (s':SS):Prop:=CA T g (.ptr 0 0::args) ⟨2,[VS 1 s]⟩ v ⟨3,[VS 2 s']⟩
theorem SC.of{g:FuncId} {args:List AV} {v:AV} {s s':SS} (h:CA T g (.ptr 0 0::args) ⟨2,[VS 1 s]⟩ v ⟨2,[VS 1 s']⟩) (hv:qa2 v=true) (hne:s'.tree≠[]):SC T g args s v s':=
 h.post (σ:=[(1,2),(0,0)]) (Φ:=[]) (qbo hv) (fitS0 ⟨by simp,by omega,by simp⟩ (by omega) (by omega) hne)
theorem CallAt.norm1{C:Ctx} {f:FuncId} {a:AV} {args args':List AV} {H H':Heap} {v:AV} (h:CallAt C f (a::args') H v H') (hf:qb8 [] [] args args'):CallAt C f (a::args) H v H':=by
 intro ρ w xs sm hx;have ft:Fits [] [] ρ ρ H w:=⟨ρ.bare_le,sm.below,fun _ _ h=>(by cases h),fun _ _ h=>(by cases h)⟩;obtain⟨k1,k2⟩:=qd7 hf;refine h ρ w xs sm ⟨by rw[hx.1];simp[k1],fun i h1 h2=>?_⟩;cases i with
 |zero=>exact hx.2 0 (by simp) h2
 |succ i=>simp only[jE]at h1;have:=hx.2 (i+1) (by simp;omega) h2;exact Fits.run ft sm _ (ja _) this (k2 i (by omega) (by omega))
theorem qxd:∀{a b:Tr},qaa (a.map qa9)=qaa (b.map qa9)->a=b
 |[],[],_=>rfl
 |[],y::s,h=>by simp[qaa,qa9,Nd.cs,AV.cells]at h
 |x::r,[],h=>by simp[qaa,qa9,Nd.cs,AV.cells]at h
 |x::r,y::s,h=>by simp only[List.map_cons,qaa]at h;obtain⟨h1,h2⟩:=List.append_inj h rfl;have e:x=y:=qgk (jR AV.agg h1);rw[qxd h2,e]
theorem qun{k k':Nat} {s s':SS} (h0:s.tree≠[]) (h0':s'.tree≠[]) (h:VS k s=VS k' s'):k=k'/\s=s':=by
 rw[qdv h0,qdv h0']at h;simp only[jl,jg,Blk.cells.injEq,AV.slc.injEq,yc,jJ,SS.post,AV.int.injEq,AV.bool.injEq,AV.str.injEq]at h;obtain⟨⟨⟨hk,hl⟩,ho,ha,h1,h2,h3,h4,h5,h6,h7,h8⟩,_,hf⟩:=h;refine⟨hk,?_⟩;have ht:=qxd hf;have ho:=qdu ho;have ha:=qdu ha;cases s;cases s'
 simp_all
def qg5(k:Nat) (fr:List (Nat × Blk)):Prop:=∀e,e∈fr->e.1≠0/\e.1≠k
@[simp]theorem offS_nil{k:Nat}:qg5 k []=True:=by simp[qg5]
@[simp]theorem offS_cons{k:Nat} {e:Nat × Blk} {r:List (Nat × Blk)}:qg5 k (e::r)=((e.1≠0/\e.1≠k)/\qg5 k r):=by simp[qg5]
section
variable {α:Type} (f:FuncId) (ss:List (List Nat)) (enc:α->List AV) (pre:α->SS->Prop) (post:α->SS->AV) (st:α->SS->SS)
structure SArg (args:List AV) (H:Heap) (x:α × SS × Nat × List (Nat × Blk)):Prop where
 ar:∃rest,args=.ptr 0 0::rest/\qa6 rest=true/\qbl zH ss rest=some (enc x.1)
 hp:H=⟨H.n,[x.2.2.2,VS x.2.2.1 x.2.1]⟩
 k0:0 < x.2.2.1
 kn:x.2.2.1 < H.n
 of:qg5 x.2.2.1 x.2.2.2
 ne:x.2.1.tree≠[]
 pr:pre x.1 x.2.1
open Classical in
def sG (args:List AV) (H:Heap):Option (AV × Heap):=
 if h:∃x,SArg ss enc pre args H x then some (post h.choose.1 h.choose.2.1,⟨H.n+1,[h.choose.2.2.2,VS H.n (st h.choose.1 h.choose.2.1)]⟩) else none
def mkS (h:∀x s,s.tree≠[]->pre x s->CallAt ⟨PG,fun _=>[],fun _=>none⟩ f (.ptr 0 0::enc x) ⟨2,[VS 1 s]⟩ (post x s) ⟨3,[VS 2 (st x s)]⟩/\qa6 (enc x)=true/\qa2 (post x s)=true/\(st x s).tree≠[]):Entry PG:=
 ⟨f,sG ss enc pre post st,fun args H v H' hv=>by
  unfold sG at hv;split at hv
  next hx=>simp only[sj,jg]at hv;obtain⟨rfl,rfl⟩:=hv;have hs:=hx.choose_spec;generalize hx.choose=x at *;obtain⟨⟨rest,rfl,hp,ht⟩,hH,k0,kn,of,ne,pr⟩:=hs;obtain⟨h1,h2,h3,h4⟩:=h x.1 x.2.1 ne pr;have hf:=qgf (H:=zH) jK ht;have:=(call_S (n:=H.n) h1 h2 h3 k0 kn ne h4 of).norm1 hf;rw[<- hH]at this;exact this
  ·cases hv⟩
variable {f ss enc pre post st}
theorem qcr{h:∀x s,s.tree≠[]->pre x s->CallAt ⟨PG,fun _=>[],fun _=>none⟩ f (.ptr 0 0::enc x) ⟨2,[VS 1 s]⟩ (post x s) ⟨3,[VS 2 (st x s)]⟩/\qa6 (enc x)=true/\qa2 (post x s)=true/\(st x s).tree≠[]}
  {T:List (Entry PG)} (hT:qac f T=some (mkS f ss enc pre post st h).g) (inj:∀x y,enc x=enc y->x=y) (x:α) {s:SS} (hne:s.tree≠[]) (hx:pre x s) {rest:List AV} (hp:qa6 rest=true) (ht:qbl zH ss rest=some (enc x))
  {n k:Nat} {fr:List (Nat × Blk)} (k0:0 < k) (kn:k < n) (of:qg5 k fr):qb5 (ctx T) (.fn f) (.ptr 0 0::rest) ⟨n,[fr,VS k s]⟩=some (post x s,⟨n+1,[fr,VS n (st x s)]⟩):=by
 rw[qf8 (C:=ctx T) (g:=(mkS f ss enc pre post st h).g) hT];show sG ss enc pre post st _ _=_;unfold sG;have hex:∃y,SArg ss enc pre (.ptr 0 0::rest) ⟨n,[fr,VS k s]⟩ y:=⟨(x,s,k,fr),⟨rest,rfl,hp,ht⟩,rfl,k0,kn,of,hne,hx⟩;rw[dif_pos hex];have hs:=hex.choose_spec;generalize hex.choose=y at *;obtain⟨⟨rest',e1,_,ht'⟩,hH,_,_,_,ne,_⟩:=hs;obtain⟨y1,y2,y3,y4⟩:=y;simp only[jl,yc]at e1;subst e1;have ex:y1=x:=inj _ _ (yB (ht'.symm.trans ht));simp only[Heap.mk.injEq,yc,jl,jJ]at hH;obtain⟨rfl,hv⟩:=hH;obtain⟨rfl,rfl⟩:=qun hne ne hv;subst ex;rfl
end
theorem qro(x y:List Int × Int × Int) (h:[qa8 x.1,AV.int .i64 x.2.1,.int .i64 x.2.2]=[qa8 y.1,AV.int .i64 y.2.1,.int .i64 y.2.2]):x=y:=by simp only[jl,jJ,AV.int.injEq,yc]at h;obtain⟨h1,h2,h3⟩:=h;exact yv (qou x.1 y.1 (by rw[h1])) (yv h2 h3)
theorem c142(hC:qIn 78 T e78) (L:List Int) (hl:L.length<=1000000) (at_ x:Int):CA T 142 [qa8 L,.int .i64 at_,.int .i64 x] zH (qa8 (qgx L at_ x)) zH:=by
 obtain⟨p,hp⟩ : ∃p:Nat,min (max at_ 0) (L.length:Int)=(p:Int):=jy (by omega);have hpl:p<=L.length:=by omega
 have eins:qgx L at_ x=qdb L p x:=by unfold qgx;rw[hp];rfl
 rw[eins];obtain⟨N,hN⟩ : ∃N,N=L.length:=⟨_,rfl⟩;have lK:∀H,qf3 PG H 38 (qa8 L)=some N:=fun H=>by simp[qf3,qa8,hN]
 rw[<- hN]at hp;have mx:qkv false (.int .i64 at_) [.int .i64 0]=some (.int .i64 (max at_ 0)):=rfl;have mn:qkv true (.int .i64 (max at_ 0)) [.int .i64 (N:Int)]=some (.int .i64 (p:Int)):=by simp[qkv,hp]
 have rB:∀cs,qyz PG 38 (some 15) cs=.buf 3 0 cs:=fun _=>rfl;have kcl:=fun H=>k78 hC (L:=L) hl H;cases L with
 |nil=>
  have hins:=qvb (T:=T) [] x p hpl (by simp) (b:=1) (vb:=0) (n:=1) (g:=[]) (fs:=[]) (by omega) (fun e he=>by simp at he);simp only[jP,qce,qcg,qki,jv]at hins kcl;refine qa1 (s0:=⟨[0,1,2,6],[qa8 ([]),.int .i64 at_,.int .i64 x,uD],[],17,⟨0,[[]]⟩⟩) Tryz.func142 rfl rfl rfl ?_;apply qR;simp[zS];repeat apply wq
  refine qb0 (qci [⟨91,_,_,_,_,hins⟩]) ?_;simp[zS,qdz,kcl,lK,mx,mn,rB];apply qa7;simp[zQ,Tryz.f142];exact⟨[],[],FitH.empty⟩
 |cons y r=>
  have hins:=qvb (T:=T) (y::r) x p hpl hl (b:=0) (vb:=1) (n:=2) (g:=[]) (fs:=[]) (by omega) (fun e he=>by simp at he);simp only[List.map_cons,qce,qcg,qki,jh,List.cons_append,jv]at hins kcl;generalize qdb (y::r) p x=K' at *;refine qa1 (s0:=⟨[0,1,2,6],[qa8 (y::r),.int .i64 at_,.int .i64 x,uD],[],17,⟨0,[[]]⟩⟩) Tryz.func142 rfl rfl rfl ?_;apply qR;simp[zS];repeat apply wq
  refine qb0 (qci [⟨91,_,_,_,_,hins⟩]) ?_;simp[zS,qdz,kcl,lK,mx,mn,rB];apply qa7;simp[zQ,Tryz.f142];exact⟨[],[],FitH.empty⟩
def e142:Entry PG:=mkE 142 [[1],[],[]] (fun x:List Int × Int × Int=>[qa8 x.1,.int .i64 x.2.1,.int .i64 x.2.2]) (fun x=>x.1.length<=1000000) (fun x=>qa8 (qgx x.1 x.2.1 x.2.2)) fun x h=>c142 (T:=[e78]) rfl x.1 h x.2.1 x.2.2
theorem k142(hT:qIn 142 T e142) {L:List Int} (hl:L.length<=1000000) (at_ x:Int) (H:Heap):qb5 (ctx T) (.fn 142) [qa8 L,.int .i64 at_,.int .i64 x] H=some (qa8 (qgx L at_ x),H):=
 qds hT qro (L,at_,x) hl (by simp[qa6,qa2]) (by simp[qbl,qam,okV,qa2]) H
def swp(a b x:Int):Int:=if x=a then b else x
def qm3(a b:Int) (L:List Int) (j:Nat):List Int:=(L.take j).map (swp a b)++L.drop j
theorem qqw{a b:Int} {L:List Int} {j:Nat} (h:j<=L.length):(qm3 a b L j).length=L.length:=by simp[qm3];omega
theorem qzn{a b:Int} {L:List Int} {j:Nat} (h:j < L.length):(qm3 a b L j)[j]'(by rw[qqw (by omega)];exact h)=L[j]:=by simp only[qm3];rw[jB (by simp;omega)];simp[show j - min j L.length=0 by omega]
theorem qsy{a b:Int} {L:List Int} {j:Nat} (h:j < L.length):qm3 a b L (j+1)=(qm3 a b L j).set j (swp a b L[j]):=by
 have hl:((L.take j).map (swp a b)).length=j:=by simp;omega
 unfold qm3;rw[List.set_append_right _ _ (by omega),hl,Jg,jj h,List.drop_eq_getElem_cons h,List.set_cons_zero,j5,List.append_assoc];rfl
theorem c124(hC:qIn 78 T e78) (L:List Int) (hl:L.length<=1000000) (a b:Int):CA T 124 [qa8 L,.int .i64 a,.int .i64 b] zH (qa8 (L.map (swp a b))) zH:=by
 have kcl:=fun H=>k78 hC (L:=L) hl H;by_cases h0:L=[]
 ·subst h0;simp only[jP,qce,qki]at kcl;refine qa1 (s0:=⟨[0,1,2,6,7,8,12,13],[qa8 [],.int .i64 a,.int .i64 b,uD,uD,uD,uD,uD],[],28,⟨0,[[]]⟩⟩) Tryz.func124 rfl rfl rfl ?_;apply qR;simp[zS];apply qR;simp[zS,kcl];have l0:∀H,qf3 PG H 38 .zslc=some 0:=fun _=>rfl;apply qR;simp[zS,l0];refine qa3 (qb6 (fun _:Unit=>(⟨[0,1,2,6,7,8,12,13],[qa8 [],.int .i64 a,.int .i64 b,.nilS,.zslc,uD,.int .i64 0,.int .i64 0],[],28,⟨0,[[]]⟩⟩ : St)) (fun _=>True) (fun _=>0) [] [] () trivial ⟨rfl,rfl,rfl,by simp[qb8,qas,qa2,qa6,qa8],FitH.nothing⟩ ?_);rintro⟨⟩ _ B hB;apply qR;simp[zS];repeat apply wq
  apply qaj rfl;apply qak;simp;apply qR;simp[zS];apply qa7;simp[zQ,Tryz.f124];exact zc0 rfl
 ·obtain⟨y,r,hyr⟩ : ∃y r,L=y::r:=by cases L;exact absurd rfl h0;exact⟨_,_,rfl⟩
  have e1:qce 0 1 (L.map qat)=.slc 0 0 L.length (.rest 1):=by rw[qbr (by simp[h0])];simp
  have e2:qki ⟨0,[[]]⟩ (L.map qat)=⟨1,[[(0,.cells (qay L))]]⟩:=by subst hyr;exact(ql7 [] r y ⟨0,[[]]⟩).trans rfl
  have kc0:=kcl ⟨0,[[]]⟩;simp only[e1,e2]at kc0;refine qa1 (s0:=⟨[0,1,2,6,7,8,12,13],[qa8 L,.int .i64 a,.int .i64 b,uD,uD,uD,uD,uD],[],28,⟨0,[[]]⟩⟩) Tryz.func124 rfl rfl rfl ?_;apply qR;simp[zS];apply qR;simp[zS,kc0];apply qR;simp[zS,qf3];refine qa3 (qb6 (fun j:Nat=>(⟨[0,1,2,6,7,8,12,13],[qa8 L,.int .i64 a,.int .i64 b,.nilS,.slc 0 0 L.length (.rest 1),uD,.int .i64 (L.length:Int),.int .i64 (j:Int)],[],28,⟨1,[[(0,.cells (qay (qm3 a b L j)))]]⟩⟩ : St))
   (fun j=>j<=L.length) (fun j=>L.length - j) [(0,0)] [] 0 (jx _)
   ⟨rfl,rfl,rfl,by simp[qb8,qas,qaw,qa2,qd0],by rw[show qm3 a b L 0=L by simp[qm3]];exact FitH.id1 (g:=[(0,.cells (qay (L)))]) (by simp) (by simp) (by simp[zG,qea])⟩ ?_)
  rintro j hj B hB;by_cases hj2:j < L.length
  ·have hn:(j:Int) < (L.length:Int):=(by omega);have hR:j < (qm3 a b L j).length:=(by rw[qqw hj];exact hj2);have hat:=qzn (a:=a) (b:=b) hj2;have hnx:=qsy (a:=a) (b:=b) hj2;have hg:=get1 hR;rw[hat]at hg;have hly:=fun v=>qrk (L:=qm3 a b L j) (i:=j) (v:=v) hR;have hself:(qm3 a b L j).set j L[j]=qm3 a b L j:=by
    have:=List.set_getElem_self hR
    rwa [hat]at this
   clear hat;generalize L[j]=c at *;generalize qm3 a b L j=R at *;apply qR;simp[zS,hn,hj2];repeat apply wq
   apply qag rfl;apply qa5;simp;repeat apply wq
   apply qa3;apply qR;simp[zS];by_cases q:c=a
   ·have hs:swp a b c=b:=jo q;rw[hs]at hnx;apply qR;simp[zS,ixO hj2,hg,q];refine qag (by simp[qc5,St.get,q]) ?_;apply qR;simp[zS,ixO hj2,hly];apply qR;simp[zS,qbb (show j<=1000000000 by omega)];refine hB _ (j+1) (by omega) (by omega) ⟨[(0,0)],[],rfl,rfl,rfl,by simp[qb8,qas,qaw,qa2,qd0],?_⟩;rw[hnx];exact FitH.id1 (g:=[(0,.cells (qay (R.set j b)))]) (by simp) (by simp) (by simp[zG,qea])
   ·have hs:swp a b c=c:=jm q;rw[hs]at hnx;apply qR;simp[zS,ixO hj2,hg,q];refine qaj (by simp[qc5,St.get,q]) ?_;apply qa5;simp;apply qR;simp[zS,qbb (show j<=1000000000 by omega)];refine hB _ (j+1) (by omega) (by omega) ⟨[(0,0)],[],rfl,rfl,rfl,by simp[qb8,qas,qaw,qa2,qd0],?_⟩;rw[hnx,hself];exact FitH.id1 (g:=[(0,.cells (qay (R)))]) (by simp) (by simp) (by simp[zG,qea])
  ·have ej:j=L.length:=(by omega);have hn:¬ (j:Int) < (L.length:Int):=(by omega);apply qR;simp[zS,hn,hj2];repeat apply wq
   apply qaj rfl;apply qak;simp;apply qR;simp[zS];apply qa7;simp[zQ,Tryz.f124];have er:qm3 a b L j=L.map (swp a b):=(by rw[ej];simp[qm3]);rw[er];exact qh7 (es:=qay (L.map (swp a b))) (fr:=qay (L.map (swp a b))) (qca _) (by rw[qbf];simp[zG]) (by rw[qcc];simp) (by rw[ju (by rw[qcc];simp)])
def e124:Entry PG:=mkE 124 [[1],[],[]] (fun x:List Int × Int × Int=>[qa8 x.1,.int .i64 x.2.1,.int .i64 x.2.2]) (fun x=>x.1.length<=1000000) (fun x=>qa8 (x.1.map (swp x.2.1 x.2.2))) fun x h=>c124 (T:=[e78]) rfl x.1 h x.2.1 x.2.2
theorem k124(hT:qIn 124 T e124) {L:List Int} (hl:L.length<=1000000) (a b:Int) (H:Heap):qb5 (ctx T) (.fn 124) [qa8 L,.int .i64 a,.int .i64 b] H=some (qa8 (L.map (swp a b)),H):=
 qds hT qro (L,a,b) hl (by simp[qa6,qa2]) (by simp[qbl,qam,okV,qa2]) H
theorem fit_row{H:Heap} {b:Nat} {L:List Int} (hb:H.get b=some (.cells (qay L))):FitH 0 [(b,0)] [] H ⟨1,[[(0,.cells (qay L))]]⟩:=by refine⟨by simp,by simp,by simp[Heap.ents],by simp,fun x hx h=>absurd h (j3 _),jx _,?_,fun x h=>by cases h⟩;intro e he;simp only[Heap.ents,jq,j7,jh,j2]at he;subst he;exact⟨b,.cells (qay L),by simp,hb,qau (qea _)⟩
theorem c126(L:List Int) (hl:L.length<=1000000) (a b:Int):CA T 126 [qa8 L,.int .i64 a,.int .i64 b] zH (qa8 (L.map (swp a b))) zH:=by
 have happ:=qh3 (P:=PG) (elem:=3) (b:=0) (m:=1) (es:=L.map qat) (g:=[]) (fs:=[]) qhz qk2 qjw rfl (by omega) (by omega) (qiw _) (qfq _) (by simp;omega);by_cases h0:L=[]
 ·subst h0;simp only[jP,qsp,qki]at happ;refine qa1 (s0:=⟨[0,1,2,6,7,8],[qa8 [],.int .i64 a,.int .i64 b,uD,uD,uD],[],29,⟨0,[[]]⟩⟩) Tryz.func126 rfl rfl rfl ?_;apply qR;simp[zS];apply qR;simp[zS,qa8,happ];have l0:∀H,qf3 PG H 38 (.slc 0 0 0 (.ex 0))=some 0:=fun _=>rfl;apply qR;simp[zS];refine qa3 (qb6 (fun _:Unit=>(⟨[0,1,2,6,7,8],[.fslc 1 [],.int .i64 a,.int .i64 b,.nilS,.slc 0 0 0 (.ex 0),.int .i64 0],[],29,⟨1,[[(0,.cells [])]]⟩⟩ : St)) (fun _=>True) (fun _=>0) [(0,0)] [] () trivial ⟨rfl,rfl,rfl,by simp[qb8,qas,qaw,qa2,qa6],FitH.id1 (g:=[(0,.cells [])]) (by simp) (by simp) (by simp[zG,qa6])⟩ ?_);rintro⟨⟩ _ B hB;apply qR;simp[zS,l0];apply qaj rfl;apply qak;simp;apply qR;simp[zS];apply qa7;simp[zQ,Tryz.f126];exact qh7 (es:=[]) (fr:=[]) (qca []) (by simp[zG,qaa]) (by simp) rfl
 ·obtain⟨y,r,hyr⟩ : ∃y r,L=y::r:=by cases L;exact absurd rfl h0;exact⟨_,_,rfl⟩
  have e1:qsp 0 1 1 (L.map qat)=.slc 1 0 L.length (.rest 1):=by subst hyr;simp[qsp]
  have e2:qki ⟨1,[[(0,.cells [])]]⟩ (L.map qat)=⟨2,[[(1,.cells (qay L)),(0,.cells [])]]⟩:=by subst hyr;exact(ql7 [] r y ⟨1,[[(0,.cells [])]]⟩).trans rfl
  rw[e1,e2,show AV.fslc 1 (L.map qat)=qa8 L from rfl]at happ;refine qa1 (s0:=⟨[0,1,2,6,7,8],[qa8 L,.int .i64 a,.int .i64 b,uD,uD,uD],[],29,⟨0,[[]]⟩⟩) Tryz.func126 rfl rfl rfl ?_;apply qR;simp[zS];apply qR;simp[zS,happ];apply qR;simp[zS];refine qa3 (qb6 (fun j:Nat=>(⟨[0,1,2,6,7,8],[qa8 L,.int .i64 a,.int .i64 b,.nilS,.slc 0 0 L.length (.rest 1),.int .i64 (j:Int)],[],29,⟨1,[[(0,.cells (qay (qm3 a b L j)))]]⟩⟩ : St))
   (fun j=>j<=L.length) (fun j=>L.length - j) [(1,0)] [] 0 (jx _)
   ⟨rfl,rfl,rfl,by simp[qb8,qas,qaw,qa2,qd0],by rw[show qm3 a b L 0=L by simp[qm3]];exact fit_row (by simp[zG])⟩ ?_)
  rintro j hj B hB;by_cases hj2:j < L.length
  ·have hn:(j:Int) < (L.length:Int):=(by omega);have hR:j < (qm3 a b L j).length:=(by rw[qqw hj];exact hj2);have hat:=qzn (a:=a) (b:=b) hj2;have hnx:=qsy (a:=a) (b:=b) hj2;have hg:=get1 hR;rw[hat]at hg;have hly:=fun v=>qrk (L:=qm3 a b L j) (i:=j) (v:=v) hR;have hself:(qm3 a b L j).set j L[j]=qm3 a b L j:=by
    have:=List.set_getElem_self hR
    rwa [hat]at this
   clear hat;generalize L[j]=c at *;generalize qm3 a b L j=R at *;apply qR;simp[zS,qf3,hn,hj2];apply qag rfl;apply qa5;simp;repeat apply wq
   apply qa3;by_cases q:c=a
   ·have hs:swp a b c=b:=jo q;rw[hs]at hnx;apply qR;simp[zS,ixO hj2,hg,q];refine qag (by simp[qc5,St.get,q]) ?_;apply qR;simp[zS,ixO hj2,hly];apply qR;simp[zS,qbb (show j<=1000000000 by omega)];refine hB _ (j+1) (by omega) (by omega) ⟨[(0,0)],[],rfl,rfl,rfl,by simp[qb8,qas,qaw,qa2,qd0],?_⟩;rw[hnx];exact FitH.id1 (g:=[(0,.cells (qay (R.set j b)))]) (by simp) (by simp) (by simp[zG,qea])
   ·have hs:swp a b c=c:=jm q;rw[hs]at hnx;apply qR;simp[zS,ixO hj2,hg,q];refine qaj (by simp[qc5,St.get,q]) ?_;apply qa5;simp;apply qR;simp[zS,qbb (show j<=1000000000 by omega)];refine hB _ (j+1) (by omega) (by omega) ⟨[(0,0)],[],rfl,rfl,rfl,by simp[qb8,qas,qaw,qa2,qd0],?_⟩;rw[hnx,hself];exact FitH.id1 (g:=[(0,.cells (qay (R)))]) (by simp) (by simp) (by simp[zG,qea])
  ·have ej:j=L.length:=(by omega);have hn:¬ (j:Int) < (L.length:Int):=(by omega);apply qR;simp[zS,qf3,hn,hj2];apply qaj rfl;apply qak;simp;apply qR;simp[zS];apply qa7;simp[zQ,Tryz.f126];have er:qm3 a b L j=L.map (swp a b):=(by rw[ej];simp[qm3]);rw[er];exact qh7 (es:=qay (L.map (swp a b))) (fr:=qay (L.map (swp a b))) (qca _) (by rw[qbf];simp[zG]) (by rw[qcc];simp) (by rw[ju (by rw[qcc];simp)])
def e126:Entry PG:=mkE 126 [[1],[],[]] (fun x:List Int × Int × Int=>[qa8 x.1,.int .i64 x.2.1,.int .i64 x.2.2]) (fun x=>x.1.length<=1000000) (fun x=>qa8 (x.1.map (swp x.2.1 x.2.2))) fun x h=>c126 (T:=[]) x.1 h x.2.1 x.2.2
theorem k126(hT:qIn 126 T e126) {L:List Int} (hl:L.length<=1000000) (a b:Int) (H:Heap):qb5 (ctx T) (.fn 126) [qa8 L,.int .i64 a,.int .i64 b] H=some (qa8 (L.map (swp a b)),H):=
 qds hT qro (L,a,b) hl (by simp[qa6,qa2]) (by simp[qbl,qam,okV,qa2]) H
theorem c93(t:Tr) (i:Int):CA T 93 [qao t,.int .i64 i] zH (.bool (isB t i)) zH:=by
 refine qa1 (s0:=⟨[0,1,2,4],[qao t,.int .i64 i,uD,uD],[],14,⟨0,[[]]⟩⟩) Tryz.func93 rfl rfl rfl ?_;apply qR;simp[zS,qao];by_cases h:0<=i
 ·apply qR;simp[zS,qlv,h];apply qa7;simp[zQ,Tryz.f93];exact qai rfl (by simp[isB,h])
 ·apply qR;simp[zS,qlv,h];apply qa7;simp[zQ,Tryz.f93];exact qai rfl (by simp[isB,h])
def e93:Entry PG:=mkE 93 [[7],[]] (fun x:Tr × Int=>[qao x.1,.int .i64 x.2]) (fun _=>True) (fun x=>.bool (isB x.1 x.2)) fun x _=>c93 (T:=[]) x.1 x.2
theorem k93(hT:qIn 93 T e93) (t:Tr) (i:Int) (H:Heap):qb5 (ctx T) (.fn 93) [qao t,.int .i64 i] H=some (.bool (isB t i),H):=
 qb9 hT qrp (t,i) trivial rfl (by simp[qny])
theorem q93(hT:qIn 93 T e93) {a:AV} {H:Heap} {t:Tr} (ha:qco H [7] a=some (qao t)) (i:Int):qb5 (ctx T) (.fn 93) [a,.int .i64 i] H=some (.bool (isB t i),H):=
 qb9 hT qrp (t,i) trivial rfl (by simp[ha])
theorem c94(hS:qIn 93 T e93) (t:Tr) (ht:t.length<=1000000) (up kid:Int):CA T 94 [qao t,.int .i64 up,.int .i64 kid] zH (.bool (qft t up kid)) zH:=by
 have ks:=fun i H=>k93 hS t i H;simp only[qao]at ks;refine qa1 (s0:=⟨[0,1,2,3,6,7],[qao t,.int .i64 up,.int .i64 kid,uD,uD,uD],[],34,⟨0,[[]]⟩⟩) Tryz.func94 rfl rfl rfl ?_;apply qR;simp[zS,qao];apply qR;simp[zS];refine qa3 (qb6 (fun x:Nat × Int=>(⟨[0,1,2,3,6,7],[uD,.int .i64 up,.int .i64 x.2,.ptr 0 0,.bool false,.int .i64 (x.1:Int)],[],34,⟨1,[[(0,.cells [qb3 t])]]⟩⟩ : St))
   (fun x=>x.1<=t.length+1/\qft t up kid=(isB t up && qgo t up (t.length+1 - x.1) x.2)) (fun x=>t.length+1 - x.1) [(0,0)] [] (0,kid) ⟨by omega,rfl⟩ ⟨rfl,rfl,rfl,by simp[qb8,qas,qaw,qa2],.id1 (g:=[(0,.cells [qb3 t])]) (by simp) (by simp) (by simp[zG,qa6])⟩ ?_)
 rintro⟨i,k⟩ ⟨hi,hx⟩ B hB;simp only at hi hx;by_cases h:i<=t.length
 ·have hc:(i:Int)<=(t.length:Int):=by omega
  have hs:t.length+1 - i=(t.length - i)+1:=by omega
  rw[hs]at hx;have hno:(isB t k=false\/isB t up=false)->qft t up kid=false:=fun q=>by
   rw[hx];rcases q with q|q
   ·simp[qgo,q]
   ·simp[q]
  cases h1:isB t k with
  |false=>apply qR;simp[zS,qlv,qao,hc,h,ks,h1];apply qaj rfl;apply qak;simp;apply qR;simp[zS];apply qa7;simp[zQ,Tryz.f94];exact qai rfl (by rw[hno (.inl h1)])
  |true=>
   cases h0:isB t up with
   |false=>apply qR;simp[zS,qlv,qao,hc,h,ks,h1,h0];apply qaj rfl;apply qak;simp;apply qR;simp[zS];apply qa7;simp[zQ,Tryz.f94];exact qai rfl (by rw[hno (.inr h0)])
   |true=>
    apply qR;simp[zS,qlv,qao,hc,h,ks,h1,h0];apply qag rfl;apply qa5;simp;repeat apply wq
    apply qa3;by_cases h2:k=up
    ·apply qR;simp[zS,h2];apply qag rfl;apply qR;simp[zS];apply qa7;simp[zQ,Tryz.f94];exact qai rfl (by rw[hx];simp[h0,qgo,h1,h2])
    ·have hk:0<=k/\k < (t.length:Int):=(by simpa[isB]using h1);apply qR;simp[zS,h2];apply qaj rfl;apply qa5;simp;apply qR;simp[zS,atX hk.1 hk.2,Nd.cs,qat];apply qR;simp[zS,qbb (show i<=1000000000 by omega)];refine hB _ (i+1,(qa0 t k).up) (by simp only;omega) ⟨by simp only;omega,?_⟩ ⟨[(0,0)],[],rfl,rfl,rfl,by simp[qb8,qas,qaw,qa2],.id1 (g:=[(0,.cells [qb3 t])]) (by simp) (by simp) (by simp[zG,qa6])⟩;simp only;rw[show t.length+1 - (i+1)=t.length - i by omega,hx];simp[h0,qgo,h1,h2]
 ·have hc:¬ (i:Int)<=(t.length:Int):=by omega
  rw[show t.length+1 - i=0 by omega]at hx;apply qR;simp[zS,qlv,qao,hc,h];apply qaj rfl;apply qak;simp;apply qR;simp[zS];apply qa7;simp[zQ,Tryz.f94];exact qai rfl (by rw[hx];simp[qgo])
def e94:Entry PG:=mkE 94 [[7],[],[]] (fun x:Tr × Int × Int=>[qao x.1,.int .i64 x.2.1,.int .i64 x.2.2]) (fun x=>x.1.length<=1000000) (fun x=>.bool (qft x.1 x.2.1 x.2.2)) fun x h=>c94 (T:=[e93]) rfl x.1 h x.2.1 x.2.2
theorem q94(hT:qIn 94 T e94) {a:AV} {H:Heap} {t:Tr} (ha:qco H [7] a=some (qao t)) (ht:t.length<=1000000) (up kid:Int):qb5 (ctx T) (.fn 94) [a,.int .i64 up,.int .i64 kid] H=some (.bool (qft t up kid),H):=
 qb9 hT injTII (t,up,kid) ht rfl (by simp[ha])
theorem c135(hI:qIn 47 T e47) (L:List Int) (x:Int) (hl:L.length<=1000000):CA T 135 [qa8 L,.int .i64 x] zH (.int .i64 (atP L x)) zH:=by have hk:=fun H=>k47 hI x hl H;rw[atP_eq]at hk;generalize atP L x=v at *;refine qa1 (s0:=⟨[0,1,4],[qa8 L,.int .i64 x,uD],[],8,⟨0,[[]]⟩⟩) Tryz.func135 rfl rfl rfl ?_;apply qR;simp[zS];apply qR;simp[zS,hk];apply qa7;simp[zQ,Tryz.f135];exact qai rfl (by rfl)
theorem c182(t:Tr) (i:Int):CA T 182 [qao t,.int .i64 i] zH (.bool (isB t i)) zH:=by
 refine qa1 (s0:=⟨[0,1,2,4],[qao t,.int .i64 i,uD,uD],[],14,⟨0,[[]]⟩⟩) Tryz.func182 rfl rfl rfl ?_;apply qR;simp[zS,qao];by_cases h:0<=i
 ·apply qR;simp[zS,qlv,h];apply qa7;simp[zQ,Tryz.f182];exact qai rfl (by simp[isB,h])
 ·apply qR;simp[zS,qlv,h];apply qa7;simp[zQ,Tryz.f182];exact qai rfl (by simp[isB,h])
def endN(L:List Int):Nat->Int
 |0=>0
 |j+1=>if L.getD j 0 = -1 then ((j+1:Nat):Int) else endN L j
def qsq(L:List Int):Int:=endN L L.length
theorem c107(L:List Int) (hl:L.length<=1000000):CA T 107 [qa8 L] zH (.int .i64 (qsq L)) zH:=by
 obtain⟨w,hw⟩ : ∃w:Int,w=(L.length:Int) - 1:=⟨_,rfl⟩;have hws:wr .i64 ((L.length:Int) - 1)=some w:=by rw[hw];exact qbi (by omega) (by omega)
 refine qa1 (s0:=⟨[0,2,3],[qa8 L,uD,uD],[],18,⟨0,[[]]⟩⟩) Tryz.func107 rfl rfl rfl ?_;apply qR;simp[zS];apply qR;simp[zS,qgi,hws];refine qa3 (qb6 (fun x:Nat × Int=>(⟨[0,2,3],[qa8 L,.int .i64 0,.int .i64 x.2],[],18,⟨0,[[]]⟩⟩ : St))
  (fun x=>x.1<=L.length/\x.2=(x.1:Int) - 1/\qsq L=endN L x.1) (fun x=>x.1) [] [] (L.length,w) ⟨ja _,hw,rfl⟩ ⟨rfl,rfl,rfl,by simp[qb8,qas,qa2,qa6,qa8],FitH.nothing⟩ ?_)
 rintro⟨j,v⟩ ⟨hj,hv,hx⟩ B hB;simp only at hj hv hx;cases j with
 |zero=>
  have hn:¬ 0<=v:=by omega
  apply qR;simp[zS,hn];apply qaj rfl;apply qak;simp;apply qR;simp[zS];apply qa7;simp[zQ,Tryz.f107];exact qai rfl (by rw[hx];rfl)
 |succ q=>
  have hvq:v=(q:Int):=by omega
  subst hvq;have hq:q < L.length:=by omega
  have hix:=atIx hq;have hgd:L.getD q 0=L[q]:=by simp[hq]
  unfold endN at hx;rw[hgd]at hx;have hn:(0:Int)<=(q:Int):=by omega
  generalize L[q]=c at *;apply qR;simp[zS,hn];apply qag rfl;apply qa5;simp;repeat apply wq
  apply qa3;by_cases h2:c = -1
  ·rw[jo h2]at hx;apply qR;simp[zS,hix,h2];apply qag rfl;apply qR;simp[zS,qbb (show q<=1000000000 by omega)];apply qa7;simp[zQ,Tryz.f107];exact qai rfl (by rw[hx];simp)
  ·rw[jm h2]at hx;have hws2:wr .i64 ((q:Int) - 1)=some ((q:Int) - 1):=qbi (by omega) (by omega);apply qR;simp[zS,hix,h2];apply qaj rfl;apply qa5;simp;apply qR;simp[zS,hws2];exact hB _ (q,(q:Int) - 1) (by simp only;omega) ⟨by simp only;omega,rfl,hx⟩ ⟨[],[],⟨rfl,rfl,rfl,by simp[qb8,qas,qa2,qa6,qa8],FitH.nothing⟩⟩
def e107:Entry PG:=mkE 107 [[1]] (fun x:List Int=>[qa8 x]) (fun x=>x.length<=1000000) (fun x=>.int .i64 (qsq x)) fun x h=>c107 (T:=[]) x h
theorem k107(hT:qIn 107 T e107) {L:List Int} (hl:L.length<=1000000) (H:Heap):qb5 (ctx T) (.fn 107) [qa8 L] H=some (.int .i64 (qsq L),H):=
 qb9 hT qou L hl rfl (by simp[qa8])
theorem zc1(L:List Int):∀j:Nat,0<=endN L j/\endN L j<=(j:Int)
 |0=>⟨Int.le_refl _,Int.le_refl _⟩
 |j+1=>by have:=zc1 L j;unfold endN;split<;>omega
theorem qx9{H:Heap} {L:List Int} {k:Nat} (h:k<=L.length):qcq PG H 38 (qa8 L) none (some (.int .i64 (k:Int))) none=some (qa8 (L.take k)):=by have h2:idx (k:Int) (Nat.succ (List.map qat L).length)=some k:=qbn (by simp;omega);unfold qcq qa8;simp only[qqe,Tryz.underlying38,jc,qhz,jC,qdc,yK,h2,yq,List.map_take]
theorem qno{H:Heap} {L:List Int} {k:Nat} (h:k<=L.length):qcq PG H 38 (qa8 L) (some (.int .i64 (k:Int))) none none=some (qa8 (L.drop k)):=by have h2:idx (k:Int) (Nat.succ (List.map qat L).length)=some k:=qbn (by simp;omega);unfold qcq qa8;simp only[qqe,Tryz.underlying38,jc,qhz,jC,qdc,yK,h2,yx,List.map_drop]
def e135:Entry PG:=mkE 135 [[1],[]] (fun x:List Int × Int=>[qa8 x.1,.int .i64 x.2]) (fun x=>x.1.length<=1000000) (fun x=>.int .i64 (atP x.1 x.2)) fun x h=>c135 (T:=[e47]) rfl x.1 x.2 h
theorem k135(hT:qIn 135 T e135) {L:List Int} (x:Int) (hl:L.length<=1000000) (H:Heap):qb5 (ctx T) (.fn 135) [qa8 L,.int .i64 x] H=some (.int .i64 (atP L x),H):=
 qb9 hT qlf (L,x) hl rfl (by simp[qa8])
def e182:Entry PG:=mkE 182 [[7],[]] (fun x:Tr × Int=>[qao x.1,.int .i64 x.2]) (fun _=>True) (fun x=>.bool (isB x.1 x.2)) fun x _=>c182 (T:=[]) x.1 x.2
theorem k182(hT:qIn 182 T e182) (t:Tr) (i:Int) (H:Heap):qb5 (ctx T) (.fn 182) [qao t,.int .i64 i] H=some (.bool (isB t i),H):=
 qb9 hT qrp (t,i) trivial rfl (by simp[qny])
def qbp(t:Tr) (i:Int):Nd:=if isB t i=true then qa0 t i else ⟨1,0,[],[],[],0,[]⟩
theorem c157(t:Tr) (i:Int):CA T 157 [qao t,.int .i64 i] zH (qa9 (qbp t i)) zH:=by
 refine qa1 (s0:=⟨[0,1,2,4],[qao t,.int .i64 i,uD,uD],[],20,⟨0,[[]]⟩⟩) Tryz.func157 rfl rfl rfl ?_;apply qR;simp[zS,qao];by_cases h:0<=i
 ·by_cases h2:i < (t.length:Int)
  ·apply qR;simp[zS,qlv,h,h2];apply qag rfl;have sA:∀L,(qae L).single=true:=fun _=>rfl;have sI:∀L,(qa8 L).single=true:=fun _=>rfl;have rA:∀L,refs 6 (qae L)=[]:=fun _=>rfl;have rI:∀L,refs 6 (qa8 L)=[]:=fun _=>rfl;have ho:isB t i=true:=isB_iff.2 ⟨h,h2⟩;apply qR;simp[zS,atX h h2,Nd.cs,qat,sA,sI,rA,rI];apply qa7;simp[zQ,Tryz.f157,readCells,zG,Blk.rd,qfe,qey];refine⟨[],[],?_,FitH.empty⟩;simp[qbp,ho,qa9,Nd.cs,qat,qas,qb8,qa2]
  ·apply qR;simp[zS,qlv,h,h2];apply qaj rfl;have ho:isB t i=false:=(by simp[isB,h2]);have bld:qe6 PG 65 [(0,.int .i64 1)]=some (.agg [.int .i64 1,.int .i64 0,.str [],.nilS,.str [],.int .i64 0,.nilS]):=rfl;apply qa5;simp;apply qR;simp[zS,bld];apply qa7;simp[zQ,Tryz.f157,readCells,zG,Blk.rd,qfe,qey];refine⟨[],[],?_,FitH.empty⟩;simp[qbp,ho,qa9,Nd.cs,qat,qa8,qae,qas,qb8,qa2]
 ·have ho:isB t i=false:=by simp[isB,h]
  have bld:qe6 PG 65 [(0,.int .i64 1)]=some (.agg [.int .i64 1,.int .i64 0,.str [],.nilS,.str [],.int .i64 0,.nilS]):=rfl;apply qR;simp[zS,qlv,h];apply qaj rfl;apply qa5;simp;apply qR;simp[zS,bld];apply qa7;simp[zQ,Tryz.f157,readCells,zG,Blk.rd,qfe,qey];refine⟨[],[],?_,FitH.empty⟩;simp[qbp,ho,qa9,Nd.cs,qat,qa8,qae,qas,qb8,qa2]
theorem c159(t:Tr) (i:Int):CA T 159 [qao t,.int .i64 i] zH (qa9 (qbp t i)) zH:=by
 refine qa1 (s0:=⟨[0,1,2,4],[qao t,.int .i64 i,uD,uD],[],20,⟨0,[[]]⟩⟩) Tryz.func159 rfl rfl rfl ?_;apply qR;simp[zS,qao];by_cases h:i < 0
 ·have h':¬ 0<=i:=by omega
  have ho:isB t i=false:=by simp[isB,h']
  have bld:qe6 PG 65 [(0,.int .i64 1)]=some (.agg [.int .i64 1,.int .i64 0,.str [],.nilS,.str [],.int .i64 0,.nilS]):=rfl;apply qR;simp[zS,h];apply qag rfl;apply qR;simp[zS,bld];apply qa7;simp[zQ,Tryz.f159,readCells,zG,Blk.rd,qfe,qey];refine⟨[],[],?_,FitH.empty⟩;simp[qbp,ho,qa9,Nd.cs,qat,qa8,qae,qas,qb8,qa2]
 ·by_cases h2:(t.length:Int)<=i
  ·have h2':¬ i < (t.length:Int):=(by omega);have ho:isB t i=false:=(by simp[isB,h2']);have bld:qe6 PG 65 [(0,.int .i64 1)]=some (.agg [.int .i64 1,.int .i64 0,.str [],.nilS,.str [],.int .i64 0,.nilS]):=rfl;apply qR;simp[zS,qlv,h,h2];apply qag rfl;apply qR;simp[zS,bld];apply qa7;simp[zQ,Tryz.f159,readCells,zG,Blk.rd,qfe,qey];refine⟨[],[],?_,FitH.empty⟩;simp[qbp,ho,qa9,Nd.cs,qat,qa8,qae,qas,qb8,qa2]
  ·have h0:0<=i:=(by omega);have h3:i < (t.length:Int):=(by omega);have sA:∀L,(qae L).single=true:=fun _=>rfl;have sI:∀L,(qa8 L).single=true:=fun _=>rfl;have rA:∀L,refs 6 (qae L)=[]:=fun _=>rfl;have rI:∀L,refs 6 (qa8 L)=[]:=fun _=>rfl;have ho:isB t i=true:=isB_iff.2 ⟨h0,h3⟩;apply qR;simp[zS,qlv,h,h2];apply qaj rfl;apply qa5;simp;apply qR;simp[zS,atX h0 h3,Nd.cs,qat,sA,sI,rA,rI];apply qa7;simp[zQ,Tryz.f159,readCells,zG,Blk.rd,qfe,qey];refine⟨[],[],?_,FitH.empty⟩;simp[qbp,ho,qa9,Nd.cs,qat,qas,qb8,qa2]
def e157:Entry PG:=mkE 157 [[7],[]] (fun x:Tr × Int=>[qao x.1,.int .i64 x.2]) (fun _=>True) (fun x=>qa9 (qbp x.1 x.2)) fun x _=>c157 (T:=[]) x.1 x.2
theorem k157(hT:qIn 157 T e157) (t:Tr) (i:Int) (H:Heap):qb5 (ctx T) (.fn 157) [qao t,.int .i64 i] H=some (qa9 (qbp t i),H):=
 qds hT qrp (t,i) trivial (by simp[qa6,qa2,qao]) (by simp[qbl,qam,okV,qa2,qny]) H
def e159:Entry PG:=mkE 159 [[7],[]] (fun x:Tr × Int=>[qao x.1,.int .i64 x.2]) (fun _=>True) (fun x=>qa9 (qbp x.1 x.2)) fun x _=>c159 (T:=[]) x.1 x.2
theorem k159(hT:qIn 159 T e159) (t:Tr) (i:Int) (H:Heap):qb5 (ctx T) (.fn 159) [qao t,.int .i64 i] H=some (qa9 (qbp t i),H):=
 qds hT qrp (t,i) trivial (by simp[qa6,qa2,qao]) (by simp[qbl,qam,okV,qa2,qny]) H
def qcy(n:Nd) (W:Str):Bool:=!decide (n.name=[]) && decide (n.kind=1) && decide (n.space=0) && inW W n.name
theorem c76(hN:qIn 157 T e157) (hI:qac 133 T=some e133a.g) (t:Tr) (i:Int) (W:Str) (hW:qd9 W) (hl:W.length<=1100000) (hx:(qbp t i).name.length<=1000000000):CA T 76 [qao t,.int .i64 i,.str W] zH (.bool (qcy (qbp t i) W)) zH:=by
 have kn:=fun H=>k157 hN t i H;have ki:=fun H=>qv8 hI (x:=(qbp t i).name) hW hl hx H;generalize qbp t i=n at *;obtain⟨kind,space,name,attrs,data,up,kids⟩:=n;simp only[qao,qa9,Nd.cs,qat]at kn ki;have sA:∀L,(qae L).single=true:=fun _=>rfl;have sI:∀L,(qa8 L).single=true:=fun _=>rfl;have rA:∀L,refs 6 (qae L)=[]:=fun _=>rfl;have rI:∀L,refs 6 (qa8 L)=[]:=fun _=>rfl;refine qa1 (s0:=⟨[0,1,2,3,6,7],[qao t,.int .i64 i,.str W,uD,uD,uD],[],30,⟨0,[[]]⟩⟩) Tryz.func76 rfl rfl rfl ?_;apply qR;simp[zS,qao];apply qR;simp[zS,kn,sA,sI,rA,rI];by_cases h1:name=[]
 ·apply qR;simp[zS,h1];apply qa7;simp[zQ,Tryz.f76];exact qai rfl (by simp[qcy,h1])
 ·by_cases h2:kind=1
  ·by_cases h3:space=0
   ·apply qR;simp[zS,h1,h2,h3,ki];apply qa7;simp[zQ,Tryz.f76];exact qai rfl (by simp[qcy,h1,h2,h3])
   ·apply qR;simp[zS,h1,h2,h3];apply qa7;simp[zQ,Tryz.f76];exact qai rfl (by simp[qcy,h1,h2,h3])
  ·apply qR;simp[zS,h1,h2];apply qa7;simp[zQ,Tryz.f76];exact qai rfl (by simp[qcy,h1,h2])
def qwv(t:Tr) (i:Int) (W:Str):Bool:=isB t i && decide ((qbp t i).kind=1) && decide ((qbp t i).space=0) && inW W (qbp t i).name
theorem c80(hN:qIn 159 T e159) (hI:qIn 71 T e71) (t:Tr) (i:Int) (W:Str) (hl:W.length<=100000):CA T 80 [qao t,.int .i64 i,.str W] zH (.bool (qwv t i W)) zH:=by
 have kn:=fun H=>k159 hN t i H;have ki:=fun H=>k71 hI (w:=W) (qbp t i).name (by omega) H;unfold qwv;generalize qbp t i=n at *;obtain⟨kind,space,name,attrs,data,up,kids⟩:=n;simp only[qao,qa9,Nd.cs,qat]at kn ki;have sA:∀L,(qae L).single=true:=fun _=>rfl;have sI:∀L,(qa8 L).single=true:=fun _=>rfl;have rA:∀L,refs 6 (qae L)=[]:=fun _=>rfl;have rI:∀L,refs 6 (qa8 L)=[]:=fun _=>rfl;refine qa1 (s0:=⟨[0,1,2,3,6,7],[qao t,.int .i64 i,.str W,uD,uD,uD],[],36,⟨0,[[]]⟩⟩) Tryz.func80 rfl rfl rfl ?_;apply qR;simp[zS,qao];apply qR;simp[zS,kn,sA,sI,rA,rI];by_cases h:0<=i
 ·by_cases h0:i < (t.length:Int)
  ·have hb:isB t i=true:=isB_iff.2 ⟨h,h0⟩;by_cases h2:kind=1
   ·by_cases h3:space=0
    ·apply qR;simp[zS,qlv,h,h0,h2,h3,ki];apply qa7;simp[zQ,Tryz.f80];exact qai rfl (by simp[hb,h2,h3])
    ·apply qR;simp[zS,qlv,h,h0,h2,h3];apply qa7;simp[zQ,Tryz.f80];exact qai rfl (by simp[hb,h2,h3])
   ·apply qR;simp[zS,qlv,h,h0,h2];apply qa7;simp[zQ,Tryz.f80];exact qai rfl (by simp[hb,h2])
  ·have hb:isB t i=false:=(by simp[isB,h0]);apply qR;simp[zS,qlv,h,h0];apply qa7;simp[zQ,Tryz.f80];exact qai rfl (by simp[hb])
 ·have hb:isB t i=false:=by simp[isB,h]
  apply qR;simp[zS,qlv,h];apply qa7;simp[zQ,Tryz.f80];exact qai rfl (by simp[hb])
theorem qye(t:Tr) (i:Int) (W:Str):qwv t i W=qcy (qbp t i) W:=by
 have hw:inW W []=false:=by unfold inW;simp[qvy W]
 unfold qwv qcy;cases hb:isB t i with
 |false=>
  have:qbp t i=⟨1,0,[],[],[],0,[]⟩:=by unfold qbp;simp[hb]
  rw[this];simp
 |true=>
  generalize qbp t i=n;by_cases h:n.name=[]
  ·simp[h,hw]
  ·simp[h]
theorem zbb(x y:Tr × Int × Str) (h:[qao x.1,.int .i64 x.2.1,.str x.2.2]=[qao y.1,.int .i64 y.2.1,.str y.2.2]):x=y:=by simp at h;exact yv (qem h.1) (yv h.2.1 h.2.2)
def e76:Entry PG:=mkE 76 [[7],[],[]] (fun x:Tr × Int × Str=>[qao x.1,.int .i64 x.2.1,.str x.2.2]) (fun x=>qd9 x.2.2/\x.2.2.length<=1100000/\(qbp x.1 x.2.1).name.length<=1000000000) (fun x=>.bool (qcy (qbp x.1 x.2.1) x.2.2)) fun x h=>c76 (T:=[e157,e133a]) rfl rfl x.1 x.2.1 x.2.2 h.1 h.2.1 h.2.2
theorem q76(hT:qIn 76 T e76) {a:AV} {H:Heap} {t:Tr} (ha:qco H [7] a=some (qao t)) (i:Int) {W:Str} (hW:qd9 W) (hl:W.length<=1100000) (hx:(qbp t i).name.length<=1000000000):qb5 (ctx T) (.fn 76) [a,.int .i64 i,.str W] H=some (.bool (qcy (qbp t i) W),H):=
 qb9 hT zbb (t,i,W) ⟨hW,hl,hx⟩ rfl (by simp[ha])
def e80:Entry PG:=mkE 80 [[7],[],[]] (fun x:Tr × Int × Str=>[qao x.1,.int .i64 x.2.1,.str x.2.2]) (fun x=>x.2.2.length<=100000) (fun x=>.bool (qcy (qbp x.1 x.2.1) x.2.2)) fun x h=>by
 have:=c80 (T:=[e159,e71]) rfl rfl x.1 x.2.1 x.2.2 h;rw[qye]at this;exact this
theorem q80(hT:qIn 80 T e80) {a:AV} {H:Heap} {t:Tr} (ha:qco H [7] a=some (qao t)) (i:Int) {W:Str} (hl:W.length<=100000):qb5 (ctx T) (.fn 80) [a,.int .i64 i,.str W] H=some (.bool (qcy (qbp t i) W),H):=
 qb9 hT zbb (t,i,W) hl rfl (by simp[ha])
