/- An agency (a state, an element, a mark) in rows; entries of calls that take it. No condition. -/
import Derived.Test.YtnfdakclfmchfaaGreatMN
namespace Go.Proofs.YtnfdakclfmchfaaGreat
noncomputable section
set_option linter.unusedSimpArgs false
set_option linter.unusedVariables false
open Go Go.RowKit
set_option maxRecDepth 100000
variable {T:List (Entry Tryz.prog)}
theorem qmx{b:Nat} {rs:List Nat} {f:List (Nat × Blk)} {r:List (List (Nat × Blk))} (h:(getF b f).isSome=true):qdd b rs [] (f::r)=f::r:=by obtain⟨k,hk⟩:=Option.isSome_iff_exists.1 h;unfold qdd;rw[hk];rfl
theorem WpSr.perm{C:Ctx} {n:Nat} {r:Option Nat} {Q:Out->St->Prop} {c:Code} {ks:List Nat} {vs:List AV} {ts:List (Nat × AV)} {sz:Nat} {H:Heap} (H2:Heap) (hn:H2.n=H.n) (p:H2.ents.Perm H.ents)
  (h:WpSr C n r c ⟨ks,vs,ts,sz,H2⟩ Q):WpSr C n r c ⟨ks,vs,ts,sz,H⟩ Q:=by
 intro b a w hb ha K hK;obtain⟨ρ,g1,g2,g3,g4⟩:=ha;have g1':Since b ρ H w:=g1;have g2':Sim ρ H w:=g2;refine h b a w hb ⟨ρ,?_,g2'.perm hn p,⟨g3.size,g3.val⟩,?_⟩ K hK
 ·exact { fz:=g1.fz,os:=g1.os,tape:=g1.tape,output:=g1.output,size:=g1.size,keeps:=g1.keeps,rows:=fun e he=>g1.rows e (p.mem_iff.1 he),cold:=g1.cold,low:=g1.low,num:=by rw[show (St.mk ks vs ts sz H2).H.n=H2.n from rfl,hn];exact g1'.num }
 ·have g4':Dfr b.w.heap.size ρ H w a.defers b.ds:=g4;obtain⟨rs,h1,h2,h3⟩:=g4';exact⟨rs,h1,h2,fun r hr=>⟨(h3 r hr).ge,(h3 r hr).obj,(h3 r hr).cold,fun e he=>(h3 r hr).apart e (p.mem_iff.1 he)⟩⟩
structure JS where
 s:SS
 t:Tk
 b:Str
section
variable {x x':JS} {n k jb tb:Nat} {f fr:List (Nat × Blk)}
def offJ(k jb tb:Nat) (fr:List (Nat × Blk)):Prop:=∀e,e∈fr->e.1≠0/\e.1≠k/\e.1≠jb/\e.1≠tb
@[simp]theorem offJ_nil:offJ k jb tb []=True:=by simp[offJ]
@[simp]theorem offJ_cons{e:Nat × Blk} {r:List (Nat × Blk)}:offJ k jb tb (e::r)=((e.1≠0/\e.1≠k/\e.1≠jb/\e.1≠tb)/\offJ k jb tb r):=by simp[offJ]
structure dJ (n k jb tb:Nat):Prop where
 k0:k≠0
 j0:jb≠0
 t0:tb≠0
 kj:k≠jb
 kt:k≠tb
 jt:jb≠tb
 kn:k < n
 jn:jb < n
 tn:tb < n
end
section
variable {α:Type} (f:FuncId) (ss:List (List Nat)) (enc:α->List AV) (pre:α->JS->Prop) (post:α->JS->AV) (st:α->JS->JS)
open Classical in
variable {f ss enc pre post st}
end
theorem CallAt.norm2{C:Ctx} {f:FuncId} {a b:AV} {args args':List AV} {H H':Heap} {v:AV} (h:CallAt C f (a::b::args') H v H') (hf:qax [] [] args args'):CallAt C f (a::b::args) H v H':=by
 intro ρ w xs sm hx;have ft:Fits [] [] ρ ρ H w:=⟨ρ.bare_le,sm.below,fun _ _ h=>(by cases h),fun _ _ h=>(by cases h)⟩;obtain⟨k1,k2⟩:=qco hf;refine h ρ w xs sm ⟨by rw[hx.1];simp[k1],fun i h1 h2=>?_⟩
 match i with
 |0=>exact hx.2 0 (by simp) h2
 |1=>exact hx.2 1 (by simp) h2
 |i+2=>simp only[List.length_cons]at h1;have:=hx.2 (i+2) (by simp;omega) h2;exact Fits.run ft sm _ (Nat.le_refl _) this (k2 i (by omega) (by omega))
structure TS where
 s:SS
 t:Tk
def TKR(tb:Nat) (x:TS):List (Nat × Blk):=[(tb,.cells x.t.cs)]
abbrev TC(T:List (Entry PG)) (g:FuncId) (args:List AV) (x:TS) (v:AV) (x':TS):Prop:=CallAt (ctx T) g (.ptr 0 0::.ptr 1 0::args) ⟨3,[TKR 1 x++VS 2 x.s]⟩ v ⟨4,[TKR 1 x'++VS 3 x'.s]⟩
section
variable {x x':TS} {n k tb:Nat} {f fr:List (Nat × Blk)}
theorem fitTR{N k' m' tb':Nat} (hN:(k' < N->k=k')/\(tb' < N->tb=tb')/\N<=m') (d':(k'≠0/\tb'≠0)/\k'≠tb'/\k' < m'/\tb' < m') (d:(k≠0/\tb≠0)/\k≠tb)
  (hne:x.s.tree≠[]) (hf0:getF 0 f=none) (hfk:getF k f=none) (ht:getF tb f=some (.cells x.t.cs)) :
  FitH N [(k,k'),(0,0),(tb,tb')] [] ⟨n,[f,VS k x.s]⟩ ⟨m',[TKR tb' x++VS k' x.s]⟩ where
 nd1:=by simp;omega
 nd2:=by simp;omega
 nd3:=by rw[qf4 hne];simp[Heap.ents,TKR];omega
 lt:=by simp;omega
 idn:=by simp;omega
 num:=by simp;omega
 src:=by
  intro e he;rw[qf4 hne]at he;simp only[Heap.ents,TKR,List.flatten_cons,List.flatten_nil,List.append_nil,List.cons_append,List.nil_append,List.mem_cons,List.not_mem_nil,or_false]at he;rcases he with rfl|rfl|rfl
  ·exact⟨tb,.cells x.t.cs,by simp,by simp[Heap.get,getFs,ht],qao (qqh _)⟩
  ·refine⟨0,_,by simp,sget0 hne hf0,?_⟩;simp only[qji,qax];exact⟨by simp[qap,qav],qao (qfe x.s)⟩
  ·exact⟨k,_,by simp,sgetk (by omega) hne hfk,qao (qbw x.s.tree).pure⟩
 frz:=fun x h=>by cases h
def qg9(k tb:Nat) (fr:List (Nat × Blk)):Prop:=∀e,e∈fr->e.1≠0/\e.1≠k/\e.1≠tb
@[simp]theorem offT_nil:qg9 k tb []=True:=by simp[qg9]
@[simp]theorem offT_cons{e:Nat × Blk} {r:List (Nat × Blk)}:qg9 k tb (e::r)=((e.1≠0/\e.1≠k/\e.1≠tb)/\qg9 k tb r):=by simp[qg9]
structure dT (n k tb:Nat):Prop where
 k0:k≠0
 t0:tb≠0
 kt:k≠tb
 kn:k < n
 tn:tb < n
theorem call_T{C:Ctx} {g:FuncId} {args:List AV} {v:AV} {f1 f2:List (Nat × Blk)} (h:CallAt C g (.ptr 0 0::.ptr 1 0::args) ⟨3,[TKR 1 x++VS 2 x.s]⟩ v ⟨4,[TKR 1 x'++VS 3 x'.s]⟩) (ha:qa3 args=true) (hv:qa2 v=true) (d:dT n k tb) (hne:x.s.tree≠[]) (hne':x'.s.tree≠[]) (h1:qg9 k tb f1) (h2:qg9 k tb f2) :
  CallAt C g (.ptr 0 0::.ptr tb 0::args) ⟨n,[f1++(tb,.cells x.t.cs)::f2,VS k x.s]⟩ v ⟨n+1,[f1++(tb,.cells x'.t.cs)::f2,VS n x'.s]⟩:=by
 obtain⟨k0,t0,kt,kn,tn⟩:=d;have all:∀(c:List AV) e,e∈f1++(tb,Blk.cells c)::f2->e=(tb,.cells c)\/(e.1≠0/\e.1≠k/\e.1≠tb):=fun c e he=>by
  rcases List.mem_append.1 he with he|he
  ·exact .inr (h1 e he)
  ·rcases List.mem_cons.1 he with rfl|he
   ·exact .inl rfl
   ·exact .inr (h2 e he)
 have g0:getF 0 (f1++(tb,.cells x.t.cs)::f2)=none:=quu fun e he=>by
  rcases all _ e he with rfl|h
  ·exact t0
  ·exact h.1
 have gk:getF k (f1++(tb,.cells x.t.cs)::f2)=none:=quu fun e he=>by
  rcases all _ e he with rfl|h
  ·exact kt.symm
  ·exact h.2.1
 have gt:getF tb (f1++(tb,.cells x.t.cs)::f2)=some (.cells x.t.cs):=by
  have key:∀f1:List (Nat × Blk),qg9 k tb f1->getF tb (f1++(tb,.cells x.t.cs)::f2)=some (.cells x.t.cs):=by
   intro f1;induction f1 with
   |nil=>intro _;simp[getF]
   |cons e r ih=>intro h;have b1:Nat.beq e.1 tb=false:=qb4 (h e (by simp)).2.2;simp only[List.cons_append,getF,b1];exact ih fun e he=>h e (by simp[he])
  exact key f1 h1
 have fh:FitH 0 [(k,2),(0,0),(tb,1)] [] ⟨n,[f1++(tb,.cells x.t.cs)::f2,VS k x.s]⟩ ⟨3,[TKR 1 x++VS 2 x.s]⟩:=fitTR ⟨by omega,by omega,by omega⟩ (by omega) ⟨⟨k0,t0⟩,kt⟩ hne g0 gk gt;have b1:¬ 0=tb:=t0.symm;have b2:¬ k=0:=k0;have:=h.framed (H':=⟨n+1,[f1++(tb,.cells x'.t.cs)::f2,VS n x'.s]⟩) (args:=.ptr 0 0::.ptr tb 0::args) fh (by simp only[qax];exact⟨by simp[qap,qav,b2],by simp[qap,qav,b1,kt],qao ha⟩) ?_ (by simp)
 ·simpa[qg0 _ hv]using this
 ·have e0:qlg [(k,2),(0,0),(tb,1)] n 3 0=0:=by simp[qlg,qf3]
  have e1:qlg [(k,2),(0,0),(tb,1)] n 3 1=tb:=by simp[qlg,qf3]
  have e3:qlg [(k,2),(0,0),(tb,1)] n 3 3=n:=by simp[qlg,qf3]
  refine⟨by simp,?_,?_⟩
  ·intro nd lt;have es:∀c:List AV,(f1++(tb,Blk.cells c)::f2).map (fun x:Nat × Blk=>x.1)=f1.map (fun x:Nat × Blk=>x.1)++tb::f2.map (fun x:Nat × Blk=>x.1):=fun c=>(by simp);have nd1:((f1++(tb,Blk.cells x.t.cs)::f2).map (fun x:Nat × Blk=>x.1)).Nodup:=(List.Sublist.map (fun x:Nat × Blk=>x.1) (show List.Sublist (f1++(tb,Blk.cells x.t.cs)::f2) (Heap.ents ⟨n,[f1++(tb,Blk.cells x.t.cs)::f2,VS k x.s]⟩) from by unfold Heap.ents;simp only[List.flatten_cons];exact List.sublist_append_left _ _)).nodup nd;rw[qf4 hne'];show (((f1++(tb,Blk.cells x'.t.cs)::f2)++([(0,Blk.cells (nV n x'.s.tree::x'.s.post)),(n,Blk.cells (qa8 (x'.s.tree.map qag)))]++[])).map (fun x:Nat × Blk=>x.1)).Nodup;rw[List.map_append,List.nodup_append];refine⟨by rw[es,<- es x.t.cs];exact nd1,by simp;omega,fun a ha b hb=>?_⟩;rw[es]at ha;have hx:∃e,e∈f1++(tb,Blk.cells x.t.cs)::f2/\e.1=a:=(by rw[<- es x.t.cs]at ha;obtain⟨e,he,h⟩:=List.mem_map.1 ha;exact⟨e,he,h⟩);obtain⟨e,he,rfl⟩:=hx;have l1:=lt e (by simp only[Heap.ents,List.flatten_cons];exact List.mem_append_left _ he);have l2:e.1≠0:=by
    rcases all _ e he with rfl|h
    ·exact t0
    ·exact h.1
   simp only at l1;simp at hb;rcases hb with rfl|rfl<;>omega
  ·intro e he;simp only[Heap.ents,TKR,List.flatten_cons,List.flatten_nil,List.append_nil]at he ⊢;rcases List.mem_append.1 he with he|he
   ·rcases List.mem_append.1 he with he|he
    ·refine .inr ⟨List.mem_append_left _ (List.mem_append_left _ he),fun y hy=>?_⟩;have:=h1 e he;simp at hy;rcases hy with rfl|rfl|rfl
     ·exact fun h=>this.2.1 h.symm
     ·exact fun h=>this.1 h.symm
     ·exact fun h=>this.2.2 h.symm
    ·rcases List.mem_cons.1 he with rfl|he
     ·refine .inl ⟨(1,.cells x'.t.cs),by simp,?_⟩;simp only[qz4,e1,qdb _ (qqh x'.t)]
     ·refine .inr ⟨List.mem_append_left _ (List.mem_append_right _ (List.mem_cons_of_mem _ he)),fun y hy=>?_⟩;have:=h2 e he;simp at hy;rcases hy with rfl|rfl|rfl
      ·exact fun h=>this.2.1 h.symm
      ·exact fun h=>this.1 h.symm
      ·exact fun h=>this.2.2 h.symm
   ·rw[qf4 hne']at he ⊢;simp only[List.mem_cons,List.not_mem_nil,or_false]at he;rcases he with rfl|rfl
    ·refine .inl ⟨(0,.cells (nV 3 x'.s.tree::x'.s.post)),by simp,?_⟩;simp only[qz4,qln,qdb _ (qfe x'.s),qmv,e0,e3]
    ·refine .inl ⟨(3,.cells (qa8 (x'.s.tree.map qag))),by simp,?_⟩;simp only[qz4,e3,qdb _ (qbw x'.s.tree).pure]
theorem ends_T{v v':AV} {n:Nat} (e:v=v') (hv:qa2 v'=true) (k3:k=2\/3<=k) (hne:x.s.tree≠[]) (hf0:getF 0 f=none) (hfk:getF k f=none) (ht:getF 1 f=some (.cells x.t.cs)) :
  ∃σ Φ,qap σ Φ v v'/\FitH 3 σ Φ ⟨n,[f,VS k x.s]⟩ ⟨4,[TKR 1 x++VS 3 x.s]⟩:=
 ⟨_,[],by subst e;exact qbd hv,fitTR (k':=3) (tb':=1) ⟨by omega,by omega,by omega⟩ (by omega) (by omega) hne hf0 hfk ht⟩
end
theorem qvh{tb:Nat} {c d:List AV}:∀{f1 f2 g1 g2:List (Nat × Blk)},(∀e,e∈f1->e.1≠tb)->(∀e,e∈g1->e.1≠tb)->f1++(tb,Blk.cells c)::f2=g1++(tb,Blk.cells d)::g2->f1=g1/\c=d/\f2=g2
 |[],f2,[],g2,_,_,h=>by simp at h;exact⟨rfl,h.1,h.2⟩
 |[],f2,y::g1,g2,_,hg,h=>by simp only[List.nil_append,List.cons_append,List.cons.injEq]at h;exact absurd (by rw[<- h.1]) (hg y (by simp))
 |x::f1,f2,[],g2,hf,_,h=>by simp only[List.nil_append,List.cons_append,List.cons.injEq]at h;exact absurd (by rw[h.1]) (hf x (by simp))
 |x::f1,f2,y::g1,g2,hf,hg,h=>by simp only[List.cons_append,List.cons.injEq]at h;obtain⟨a,b,c⟩:=qvh (fun e he=>hf e (by simp[he])) (fun e he=>hg e (by simp[he])) h.2;exact⟨by rw[h.1,a],b,c⟩
section
variable {α:Type} (f:FuncId) (ss:List (List Nat)) (enc:α->List AV) (pre:α->TS->Prop) (post:α->TS->AV) (st:α->TS->TS)
structure TArg (args:List AV) (H:Heap) (z:α × TS × Nat × Nat × List (Nat × Blk) × List (Nat × Blk)):Prop where
 ar:∃rest,args=.ptr 0 0::.ptr z.2.2.2.1 0::rest/\qa3 rest=true/\qbb zH ss rest=some (enc z.1)
 hp:H=⟨H.n,[z.2.2.2.2.1++(z.2.2.2.1,.cells z.2.1.t.cs)::z.2.2.2.2.2,VS z.2.2.1 z.2.1.s]⟩
 dj:dT H.n z.2.2.1 z.2.2.2.1
 of1:qg9 z.2.2.1 z.2.2.2.1 z.2.2.2.2.1
 of2:qg9 z.2.2.1 z.2.2.2.1 z.2.2.2.2.2
 ne:z.2.1.s.tree≠[]
 pr:pre z.1 z.2.1
open Classical in
def tG(args:List AV) (H:Heap):Option (AV × Heap):=
 if h:∃z,TArg ss enc pre args H z then some (post h.choose.1 h.choose.2.1,⟨H.n+1,[h.choose.2.2.2.2.1++(h.choose.2.2.2.1,.cells (st h.choose.1 h.choose.2.1).t.cs)::h.choose.2.2.2.2.2,VS H.n (st h.choose.1 h.choose.2.1).s]⟩) else none
def mkT(h:∀a x,x.s.tree≠[]->pre a x->CallAt ⟨PG,fun _=>[],fun _=>none⟩ f (.ptr 0 0::.ptr 1 0::enc a) ⟨3,[TKR 1 x++VS 2 x.s]⟩ (post a x) ⟨4,[TKR 1 (st a x)++VS 3 (st a x).s]⟩/\qa3 (enc a)=true/\qa2 (post a x)=true/\(st a x).s.tree≠[]):Entry PG:=
 ⟨f,tG ss enc pre post st,fun args H v H' hv=>by
  unfold tG at hv;split at hv
  next hx=>simp only[sj,Prod.mk.injEq]at hv;obtain⟨rfl,rfl⟩:=hv;have hs:=hx.choose_spec;generalize hx.choose=z at *;obtain⟨⟨rest,rfl,hp,ht⟩,hH,dj,of1,of2,ne,pr⟩:=hs;obtain⟨h1,h2,h3,h4⟩:=h z.1 z.2.1 ne pr;have hf:=qeu (H:=zH) List.nodup_nil ht;have:=(call_T h1 h2 h3 dj ne h4 of1 of2).norm2 hf;rw[<- hH]at this;exact this
  ·cases hv⟩
variable {f ss enc pre post st}
theorem qg3{h:∀a x,x.s.tree≠[]->pre a x->CallAt ⟨PG,fun _=>[],fun _=>none⟩ f (.ptr 0 0::.ptr 1 0::enc a) ⟨3,[TKR 1 x++VS 2 x.s]⟩ (post a x) ⟨4,[TKR 1 (st a x)++VS 3 (st a x).s]⟩/\qa3 (enc a)=true/\qa2 (post a x)=true/\(st a x).s.tree≠[]}
  {T:List (Entry PG)} (hT:qa9 f T=some (mkT f ss enc pre post st h).g) (inj:∀x y,enc x=enc y->x=y) (a:α) {x:TS} (hne:x.s.tree≠[]) (hx:pre a x) {rest:List AV} (hp:qa3 rest=true) (ht:qbb zH ss rest=some (enc a))
  {n k tb:Nat} {f1 f2:List (Nat × Blk)} (d:dT n k tb) (of1:qg9 k tb f1) (of2:qg9 k tb f2):qat (ctx T) (.fn f) (.ptr 0 0::.ptr tb 0::rest) ⟨n,[f1++(tb,.cells x.t.cs)::f2,VS k x.s]⟩=some (post a x,⟨n+1,[f1++(tb,.cells (st a x).t.cs)::f2,VS n (st a x).s]⟩):=by
 rw[qfa (C:=ctx T) (g:=(mkT f ss enc pre post st h).g) hT];show tG ss enc pre post st _ _=_;unfold tG;have hex:∃y,TArg ss enc pre (.ptr 0 0::.ptr tb 0::rest) ⟨n,[f1++(tb,.cells x.t.cs)::f2,VS k x.s]⟩ y:=⟨(a,x,k,tb,f1,f2),⟨rest,rfl,hp,ht⟩,rfl,d,of1,of2,hne,hx⟩;rw[dif_pos hex];have hs:=hex.choose_spec;generalize hex.choose=y at *;obtain⟨⟨rest',e1,_,ht'⟩,hH,_,o1,o2,ne,_⟩:=hs;obtain⟨y1,y2,y3,y4,y5,y6⟩:=y;simp only[List.cons.injEq,AV.ptr.injEq,and_true,true_and]at e1;obtain⟨e1,e2⟩:=e1;subst e1 e2;have ex:y1=a:=inj _ _ (Option.some.inj (ht'.symm.trans ht));simp only[Heap.mk.injEq,true_and,List.cons.injEq,and_true]at hH;obtain⟨hj,hv⟩:=hH;obtain⟨rfl,h2,rfl⟩:=qvh (fun e he=>(of1 e he).2.2) (fun e he=>(o1 e he).2.2) hj;have h2:=zbd h2;obtain⟨rfl,h5⟩:=zcz hne ne hv;subst ex;cases x;cases y2;simp only at h2 h5;subst h2 h5;rfl
end
theorem qcg{C:Ctx} {n:Nat} {r:Option Nat} {Q:Out->St->Prop} {c:Code} {ks:List Nat} {vs:List AV} {ts:List (Nat × AV)} {sz:Nat} {s:SS} {t:Tk}
  (h:WpSr C n r c ⟨ks,vs,ts,sz,⟨3,[[(1,.cells t.cs)],VS 2 s]⟩⟩ Q):WpSr C n r c ⟨ks,vs,ts,sz,⟨3,[[],TKR 1 ⟨s,t⟩++VS 2 s]⟩⟩ Q:=
 WpSr.perm ⟨3,[[(1,.cells t.cs)],VS 2 s]⟩ rfl (by simp[Heap.ents,TKR]) h
theorem qbe{s s':SS} {t:Tk} {k n:Nat} {f:List (Nat × Blk)} {v v':AV} (e:v=v') (es:s=s') (hv:qa2 v'=true) (k3:k=2\/3<=k) (hne:s'.tree≠[]) (hf0:getF 0 f=none) (hfk:getF k f=none) (ht:getF 1 f=some (.cells t.cs)) :
  ∃σ Φ,qap σ Φ v v'/\FitH 3 σ Φ ⟨n,[f,VS k s]⟩ ⟨4,[TKR 1 ⟨s',t⟩++VS 3 s']⟩:=by
 subst es;exact ends_T (x:=⟨s,t⟩) e hv k3 hne hf0 hfk ht
@[simp]theorem dT_iff{n k tb:Nat}:dT n k tb=(k≠0/\tb≠0/\k≠tb/\k < n/\tb < n):=propext ⟨fun h=>⟨h.k0,h.t0,h.kt,h.kn,h.tn⟩,fun h=>⟨h.1,h.2.1,h.2.2.1,h.2.2.2.1,h.2.2.2.2⟩⟩
@[simp]theorem dJ_iff{n k jb tb:Nat}:dJ n k jb tb=(k≠0/\jb≠0/\tb≠0/\k≠jb/\k≠tb/\jb≠tb/\k < n/\jb < n/\tb < n):=propext ⟨fun h=>⟨h.k0,h.j0,h.t0,h.kj,h.kt,h.jt,h.kn,h.jn,h.tn⟩,fun h=>⟨h.1,h.2.1,h.2.2.1,h.2.2.2.1,h.2.2.2.2.1,h.2.2.2.2.2.1,h.2.2.2.2.2.2.1,h.2.2.2.2.2.2.2.1,h.2.2.2.2.2.2.2.2⟩⟩
set_option maxHeartbeats 1000000
structure BOk (m:Nat) (s:SS):Prop where
 fo:s.foster=false
 nm:qhc s.tree
 ln:s.tree.length<=m
 kd:qd1 s.tree m
 op:s.opn.length<=m
theorem BOk.sok{m:Nat} {s:SS} (h:BOk m s) (hm:m<=90000):SOk s:=⟨by have:=h.ln;omega,fun n hn=>by have:=h.kd n hn;omega,by have:=h.op;omega⟩
theorem BOk.opn{m:Nat} {s:SS} (h:BOk m s) {o:List Int} (ho:o.length<=s.opn.length):BOk m { s with opn:=o }:=⟨h.fo,h.nm,h.ln,h.kd,by have:=h.op;simp only;omega⟩
theorem BOk.endP{m:Nat} {s:SS} (h:BOk m s):BOk m (qdg s):=by obtain⟨e1,e2⟩:=qpx s;have:=zc6 s;have:=h.op;exact⟨by rw[e2];exact h.fo,by rw[e1];exact h.nm,by rw[e1];exact h.ln,by rw[e1];exact h.kd,by omega⟩
theorem c164(hc0:qa9 145 T=some e145.g) (hc1:qa9 146 T=some e146.g) (hc2:qa9 53 T=some e53.g) {s:SS} {t:Tk} (ne:s.tree≠[])  (h:BOk 90000 s) (ha:t.attrs.length<=1000000):TC T 164 [] ⟨s,t⟩ (.int .i64 (s.tree.length:Int)) ⟨elS (qdg s) 0 t.name t.attrs,t⟩:=by
 have kc0:=@k145 T hc0;have kc1:=@k146 T hc1;have kc2:=@k53 T hc2;have g0:=@vg0;have v0:=@vset;obtain⟨kd,nm,L,sf,dt⟩:=t;have kH:=fun n k fr=>@kc0 s ne [112] 2 (qyw (by decide)) (by decide) h.nm (by have:=h.op;omega) n k fr;have kP:=fun n k fr=>@kc1 s ne h.nm (by have:=h.op;omega) n k fr;have hp:=h.endP;have et:=qpx s;have kE:=fun n k fr=>@kc2 (qdg s) (by rw[et.1];exact ne) ⟨kd,nm,L,sf,dt⟩ 0 hp.fo (hp.sok (by omega)) ha n k fr;have n1:(elS (qdg s) 0 nm L).tree≠[]:=qbi _ _ _ _;rw[show ((qdg s).tree.length:Int)=(s.tree.length:Int) by rw[et.1]]at kE;have np:(qow s).tree≠[]:=ne;have e:qdg s=if qgb s.tree s.opn [112] 2=true then qow s else s:=rfl;simp only[qer,Tk.cs]at kE;generalize elS (qdg s) 0 nm L=s1 at *;generalize qgb s.tree s.opn [112] 2=b at *;generalize qow s=s2 at *;rw[e]at kE;clear e et hp h ha kc0 kc1 kc2;cases b;all_goals simp only[Bool.false_eq_true,if_true,if_false]at kE
 all_goals
  (try simp only[Tk.cs]at *)
  refine qa0 (s0:=⟨[0,1,4],[.ptr 0 0,.ptr 1 0,uD],[],14,⟨3,[]::[_]⟩⟩) Tryz.func164 rfl rfl rfl ?_;apply qcg;try simp only[Tk.cs]
  (repeat' (first
   |with_reducible apply qaa
   |(with_reducible apply rE;simp[zS, *,SS.post];exact rfl)
   |(with_reducible apply qad;simp only[qab,qa5])
   |apply qah rfl
   |apply qai rfl
   |(with_reducible apply qa6;simp only[qab,qa5])
   |(with_reducible apply qa7;simp[zQ,Tryz.f164])))
  all_goals first|(((try simp[zQ,Tryz.f164]);refine qbe (by simp[*]) (by first|rfl|(simp[*];done)) (by simp[qa2,qa3]) (by omega) (by(try exact n1);(all_goals exact qbi _ _ _ _)) (by simp[getF]) (by simp[getF]) (by first|(simp[getF,Tk.cs];done)|(simp[getF,Tk.cs, *];done))))|(exfalso;omega)
def e164:Entry PG:=mkT 164 [] (fun z:Unit=>[]) (fun z x=>(BOk 90000 x.s)/\(x.t.attrs.length<=1000000)) (fun z x=>.int .i64 (x.s.tree.length:Int)) (fun z x=>⟨elS (qdg x.s) 0 x.t.name x.t.attrs,x.t⟩) fun z x ne h=>⟨c164 (T:=[e145,e146,e53]) rfl rfl rfl ne  h.1 h.2,by simp[qa3,qa2],by simp[qa2,qa3],by(try exact n1);(all_goals exact qbi _ _ _ _)⟩
theorem k164(hT:qa9 164 T=some e164.g) {s:SS} {t:Tk} (ne:s.tree≠[])  (h:BOk 90000 s) (ha:t.attrs.length<=1000000) {n k tb:Nat} {fr:List (Nat × Blk)} (d:dT n k tb) (of:qg9 k tb fr):qat (ctx T) (.fn 164) [.ptr 0 0,.ptr tb 0] ⟨n,[(tb,.cells t.cs)::fr,VS k s]⟩=some (.int .i64 (s.tree.length:Int),⟨n+1,[(tb,.cells (Tk.cs (t)))::fr,VS n (elS (qdg s) 0 t.name t.attrs)]⟩):=
 qg3 (x:=⟨s,t⟩) (f1:=[]) hT inj_165 () ne ⟨h,ha⟩ (by simp[qa3,qa2]) (by simp[qbb,qaj]) d (by simp) of
def qcr(s:SS) (W:Str) (sc:Int) (but:Str):SS:=if qgb s.tree s.opn W sc=true then { s with opn:=qmn s.tree (qgt s.tree s.opn but) W } else s
theorem c58(hc0:qa9 145 T=some e145.g) (hc1:qa9 77 T=some e77.g) (hc2:qa9 45 T=some e45.g) {s:SS} (ne:s.tree≠[]) (W:Str) (sc:Int) (but:Str) (hW:qbx W) (hl:W.length<=100000) (hb:qbx but) (hbl:but.length<=100000) (hn:qhc s.tree) (ho:s.opn.length<=100000):SC T 58 [.str W,.int .i64 sc,.str but] s (.bool (qgb s.tree s.opn W sc)) (qcr s W sc but):=by
 have kc0:=@k145 T hc0;have kc1:=@k77 T hc1;have kc2:=@k45 T hc2;have g0:=@vg0;have v0:=@vset;have kH:=fun n k fr=>@kc0 s ne W sc hW hl hn ho n k fr;have kI:=fun n k fr=>@kc1 s ne but hb hbl hn ho n k fr;have kP:=fun n k fr=>@kc2 { s with opn:=qgt s.tree s.opn but } ne W hW hl hn (by have:=qhn s.tree s.opn but;simp only;omega) n k fr;have e:qcr s W sc but=if qgb s.tree s.opn W sc=true then { s with opn:=qmn s.tree (qgt s.tree s.opn but) W } else s:=rfl;rw[e];clear e kc0 kc1 kc2 hn ho hb hbl;simp only at kP;generalize qmn s.tree (qgt s.tree s.opn but) W=P at *;generalize qgt s.tree s.opn but=I at *;generalize qgb s.tree s.opn W sc=b at *;cases b with
 |true=>
  rw[if_pos rfl];refine qa0 (s0:=⟨[0,1,2,3,8,9],[.ptr 0 0,.str W,.int .i64 sc,.str but,uD,uD],[],22,⟨2,[]::[VS 1 s]⟩⟩) Tryz.func58 rfl rfl rfl ?_
  (repeat' (first
   |with_reducible apply qaa
   |(with_reducible apply rE;simp[zS, *,SS.post];exact rfl)
   |(with_reducible apply qad;simp only[qab,qa5])
   |apply qah rfl
   |(with_reducible apply qa7;simp[zQ,Tryz.f58])))
  all_goals first|(((try simp[zQ,Tryz.f58]);exact qbz rfl rfl rfl (by decide) ne rfl rfl))|(exfalso;omega)
 |false=>
  rw[if_neg (by simp)];refine qa0 (s0:=⟨[0,1,2,3,8,9],[.ptr 0 0,.str W,.int .i64 sc,.str but,uD,uD],[],22,⟨2,[]::[VS 1 s]⟩⟩) Tryz.func58 rfl rfl rfl ?_
  (repeat' (first
   |with_reducible apply qaa
   |(with_reducible apply rE;simp[zS, *,SS.post];exact rfl)
   |(with_reducible apply qad;simp only[qab,qa5])
   |apply qai rfl
   |(with_reducible apply qa6;simp only[qab,qa5])
   |(with_reducible apply qa7;simp[zQ,Tryz.f58])))
  all_goals first|(((try simp[zQ,Tryz.f58]);exact qbz rfl rfl rfl (by decide) ne rfl rfl))|(exfalso;omega)
theorem inj_58(x y:Str × Int × Str) (h:(fun z:Str × Int × Str=>([.str z.1,.int .i64 z.2.1,.str z.2.2]:List AV)) x=(fun z:Str × Int × Str=>([.str z.1,.int .i64 z.2.1,.str z.2.2]:List AV)) y):x=y:=by obtain⟨x0,x1,x2⟩:=x;obtain⟨y0,y1,y2⟩:=y;simp only[List.cons.injEq,and_true]at h;obtain⟨h0,h1,h2⟩:=h;have g0:x0=y0:=AV.str.inj h0;have g1:x1=y1:=AV.int.inj h1 |>.2;have g2:x2=y2:=AV.str.inj h2;subst g0 g1 g2;rfl
def e58:Entry PG:=mkS 58 [[],[],[]] (fun z:Str × Int × Str=>[.str z.1,.int .i64 z.2.1,.str z.2.2]) (fun z s=>(qbx z.1)/\(z.1.length<=100000)/\(qbx z.2.2)/\(z.2.2.length<=100000)/\(qhc s.tree)/\(s.opn.length<=100000)) (fun z s=>.bool (qgb s.tree s.opn z.1 z.2.1)) (fun z s=>qcr s z.1 z.2.1 z.2.2) fun z s ne h=>⟨c58 (T:=[e145,e77,e45]) rfl rfl rfl ne z.1 z.2.1 z.2.2 h.1 h.2.1 h.2.2.1 h.2.2.2.1 h.2.2.2.2.1 h.2.2.2.2.2,by simp[qa3,qa2],by simp[qa2,qa3],by(try exact ne);(all_goals (unfold qcr;split<;>exact ne))⟩
theorem k58(hT:qa9 58 T=some e58.g) {s:SS} (ne:s.tree≠[]) (W:Str) (sc:Int) (but:Str) (hW:qbx W) (hl:W.length<=100000) (hb:qbx but) (hbl:but.length<=100000) (hn:qhc s.tree) (ho:s.opn.length<=100000) {n k:Nat} {fr:List (Nat × Blk)} (k0:0 < k) (kn:k < n) (of:qga k fr):qat (ctx T) (.fn 58) [.ptr 0 0,.str W,.int .i64 sc,.str but] ⟨n,[fr,VS k s]⟩=some (.bool (qgb s.tree s.opn W sc),⟨n+1,[fr,VS n (qcr s W sc but)]⟩):=
 qct hT inj_58 (W,sc,but) ne ⟨hW,hl,hb,hbl,hn,ho⟩ (by simp[qa3,qa2]) (by simp[qbb,qaj]) k0 kn of
def qk2(o:List Int) (i:Int):Bool:=!decide (i = -1) && !decide (i∈o)
theorem c123(hc0:qa9 128 T=some e128.g) {s:SS} (ne:s.tree≠[]) (i:Int) (ho:s.opn.length<=100000):SC T 123 [.int .i64 i] s (.bool (qk2 s.opn i)) (s):=by
 have kc0:=@k128 T hc0;have g0:=@vg0;have v0:=@vset;have kC:=fun H=>kc0 (L:=s.opn) i (by omega) H;have e:qk2 s.opn i=(!decide (i = -1) && !decide (i∈s.opn)):=rfl;rw[e];clear e kc0 ho;generalize decide (i∈s.opn)=b at *;refine qa0 (s0:=⟨[0,1,4],[.ptr 0 0,.int .i64 i,uD],[],16,⟨2,[]::[VS 1 s]⟩⟩) Tryz.func123 rfl rfl rfl ?_
 (repeat' (first
  |with_reducible apply qaa
  |(with_reducible apply rE;simp[zS, *,SS.post];exact rfl)
  |(with_reducible apply qad;simp only[qab,qa5])
  |(with_reducible refine qe3 (fun hc=>?_) (fun hc=>?_)<;>(have hd:=hc;(try simp at hd);(try subst hd);apply qz1;simp[zS, *,SS.post];exact rfl))
  |(with_reducible apply qa7;simp[zQ,Tryz.f123])))
 all_goals first|(((try simp[zQ,Tryz.f123]);exact qbz (by first|(simp[*];done)|(simp_all;done)) rfl rfl (by decide) ne rfl rfl))|(exfalso;omega)
def e123:Entry PG:=mkS 123 [[]] (fun z:Int=>[.int .i64 z]) (fun z s=>(s.opn.length<=100000)) (fun z s=>.bool (qk2 s.opn z)) (fun z s=>s) fun z s ne h=>⟨c123 (T:=[e128]) rfl ne z h,by simp[qa3,qa2],by simp[qa2,qa3],ne⟩
theorem k123(hT:qa9 123 T=some e123.g) {s:SS} (ne:s.tree≠[]) (i:Int) (ho:s.opn.length<=100000) {n k:Nat} {fr:List (Nat × Blk)} (k0:0 < k) (kn:k < n) (of:qga k fr):qat (ctx T) (.fn 123) [.ptr 0 0,.int .i64 i] ⟨n,[fr,VS k s]⟩=some (.bool (qk2 s.opn i),⟨n+1,[fr,VS n (s)]⟩):=
 qct hT inj_162 (i) ne ho (by simp[qa3,qa2]) (by simp[qbb,qaj]) k0 kn of
def qz5(o a:List Int):Nat->Nat
 |0=>0
 |k+1=>if qk2 o (a.getD k 0)=true then qz5 o a k else k+1
theorem za9(o a:List Int):∀k,qz5 o a k<=k
 |0=>Nat.le_refl 0
 |k+1=>by
  unfold qz5;split
  ·have:=za9 o a k;omega
  ·exact Nat.le_refl _
def qjg(s:SS) (i:Int):SS:=⟨(elS s 0 (qa1 s.tree i).name (qa1 s.tree i).attrs).tree,(elS s 0 (qa1 s.tree i).name (qa1 s.tree i).attrs).opn,s.act.map (swp i (s.tree.length:Int)),s.mode,s.back,s.lex,s.form,s.head,s.foster,s.skip,s.inside⟩
def qjx(s:SS):List Int:=s.act.drop (qz5 s.opn s.act s.act.length)
def qci(s:SS):SS:=(qjx s).foldl qjg s
structure RcOk (s:SS):Prop where
 op:s.opn.length<=100000
 ac:s.act.length<=100000
 st:∀j,j<=(qjx s).length->SOk (((qjx s).take j).foldl qjg s)/\(((qjx s).take j).foldl qjg s).foster=false/\(((qjx s).take j).foldl qjg s).act.length<=100000
 rg:∀j (h:j < (qjx s).length),0<=(qjx s)[j]/\(qjx s)[j] < ((((qjx s).take j).foldl qjg s).tree.length:Int)/\(qa1 (((qjx s).take j).foldl qjg s).tree (qjx s)[j]).attrs.length<=1000000
theorem recT_ne{s:SS} (i:Int):(qjg s i).tree≠[]:=qbi _ _ _ _
theorem qlu:∀(l:List Int) {s:SS},s.tree≠[]->(l.foldl qjg s).tree≠[]
 |[],_,h=>h
 |i::l,s,h=>qlu l (recT_ne i)
theorem c39(hc0:qa9 123 T=some e123.g) (hc1:qa9 53 T=some e53.g) (hc2:qa9 124 T=some e124.g) {s:SS} (ne:s.tree≠[])  (h:RcOk s):SC T 39 [] s (.tup []) (qci s):=by
 have kc0:=@k123 T hc0;have kc1:=@k53 T hc1;have kc2:=@k124 T hc2;have g0:=@vg0;have v0:=@vset;have lA:=fun H=>qn0 (H:=H) (L:=s.act);have n9:(qci s).tree≠[]:=qlu _ ne;have hop:=h.op;have hac:=h.ac;obtain⟨f0,hf0⟩ : ∃f0,f0=qz5 s.opn s.act s.act.length:=⟨_,rfl⟩;have hfl:f0<=s.act.length:=by rw[hf0];exact za9 _ _ _
 have fS:∀(s:SS) (f:List (Nat × Blk)) (n k:Nat),0 < k->s.tree≠[]->getF 0 f=none->getF k f=none->FitH 2 [(k,2),(0,0)] [] ⟨n,[f,VS k s]⟩ ⟨3,[[],VS 2 s]⟩:=fun s f n k k0 ne h1 h2=>qv0 ⟨by omega,by omega,by omega⟩ (by omega) k0 ne h1 h2;refine qa0 (s0:=⟨[0,2,4,5,6,33,34,35],[.ptr 0 0,uD,uD,uD,uD,uD,uD,uD],[],65,⟨2,[]::[VS 1 s]⟩⟩) Tryz.func39 rfl rfl rfl ?_;apply qaa;apply qR;simp[zS,g0,ne,SS.post,lA];refine qry (fun _:Unit=>(⟨[0,2,4,5,6,33,34,35],[.ptr 0 0,.int .i64 (f0:Int),uD,uD,uD,uD,uD,uD],[],65,⟨3,[[],VS 2 s]⟩⟩ : St)) (fun _=>True) ?rest fun hE=>?_
 case rest=>
  intro _ _;have hd:=fun H=>qn3 (H:=H) (L:=s.act) (k:=f0) hfl;obtain⟨l,hl⟩ : ∃l,l=qjx s:=⟨_,rfl⟩;have hl':s.act.drop f0=l:=by rw[hl,hf0];rfl
  have hst:=h.st;have hrg:=h.rg;rw[<- hl]at hst;rw[hl']at hd;have lL:=fun H=>qn0 (H:=H) (L:=l);have eE:qci s=(l.take l.length).foldl qjg s:=by rw[List.take_length,hl];rfl
  rw[eE];have hrg:∀j (h:j < l.length),0<=l[j]/\l[j] < (((l.take j).foldl qjg s).tree.length:Int)/\(qa1 ((l.take j).foldl qjg s).tree l[j]).attrs.length<=1000000:=by subst hl;exact hrg
  have eN:∀j (h:j < l.length),(l.take (j+1)).foldl qjg s=qjg ((l.take j).foldl qjg s) l[j]:=fun j h=>by rw[List.take_succ_eq_append_getElem h,List.foldl_append];rfl
  have nS:∀j,((l.take j).foldl qjg s).tree≠[]:=fun j=>qlu _ ne;have e0:(l.take 0).foldl qjg s=s:=rfl;have hll:l.length<=100000:=by rw[<- hl'];simp;omega
  obtain⟨st,hst0⟩ : ∃st:Nat->SS,st=fun j=>(l.take j).foldl qjg s:=⟨_,rfl⟩;have hst:∀j,j<=l.length->SOk (st j)/\(st j).foster=false/\(st j).act.length<=100000:=by rw[hst0];exact hst
  have hrg:∀j (h:j < l.length),0<=l[j]/\l[j] < ((st j).tree.length:Int)/\(qa1 (st j).tree l[j]).attrs.length<=1000000:=by rw[hst0];exact hrg
  have eN:∀j (h:j < l.length),st (j+1)=qjg (st j) l[j]:=by rw[hst0];exact eN
  have nS:∀j,(st j).tree≠[]:=by rw[hst0];exact nS
  have e0:st 0=s:=by rw[hst0];rfl
  rw[show (l.take l.length).foldl qjg s=st l.length by rw[hst0]];clear hst0 eE hl hl' h lA hac hop n9;apply qR;simp[zS,g0,ne,SS.post,hd,lL];apply qa4;refine qb1 (fun j:Nat=>(⟨[0,2,4,5,6,33,34,35],[.ptr 0 0,uD,uD,uD,uD,qac l,.int .i64 (l.length:Int),.int .i64 (j:Int)],[],65,⟨3,[[],VS 2 (st j)]⟩⟩ : St)) (fun j=>j<=l.length) (fun j=>l.length - j) [(2,2),(0,0)] [] 0 (Nat.zero_le _)
   ⟨rfl,rfl,rfl,by simp[qax,qap,qav,qa2,qac],by rw[e0];exact fS s _ _ 2 (by omega) ne (by simp[getF]) (by simp[getF])⟩ ?_
  intro j hj B hB;apply qR;simp[zS];repeat apply wq
  refine qbf rfl (fun h=>?_) fun h=>?_
  ·simp at h;apply qa6;simp;repeat apply wq
   apply qa4;obtain⟨o1,o2,o3⟩:=hst j (by omega);obtain⟨r1,r2,r3⟩:=hrg j h;have en:=eN j h;have hat:=atI h;have nj:=nS j;have nj1:=nS (j+1);generalize l[j]=i at *;obtain⟨u,rfl⟩ : ∃u:Nat,i=u:=⟨i.toNat,by omega⟩;obtain⟨x,hx⟩ : ∃x,x=st j:=⟨_,rfl⟩;rw[<- hx]at o1 o2 o3 r2 r3 en nj ⊢;rw[en]at nj1;have ix:=ixN (k:=2) (t:=x.tree) (i:=u) (by omega);have sb:=subN (t:=x.tree) (i:=u) (by omega);have gk:=@vgk;have kE:=fun n k fr=>@kc1 x nj ⟨1,(qa1 x.tree u).name,(qa1 x.tree u).attrs,false,[]⟩ 0 o2 o1 r3 n k fr;have kW:=fun H=>kc2 (L:=x.act) (by omega) (u:Int) (x.tree.length:Int) H;have bld:qdw PG 48 [(0,.int .i64 1),(1,.str (qa1 x.tree u).name),(2,qaf (qa1 x.tree u).attrs)]=some (.agg [.int .i64 1,.str (qa1 x.tree u).name,qaf (qa1 x.tree u).attrs,.bool false,.str []]):=rfl;have e1:elS x 0 (qa1 x.tree u).name (qa1 x.tree u).attrs=⟨(elS x 0 (qa1 x.tree u).name (qa1 x.tree u).attrs).tree,(elS x 0 (qa1 x.tree u).name (qa1 x.tree u).attrs).opn,x.act,x.mode,x.back,x.lex,x.form,x.head,x.foster,x.skip,x.inside⟩:=rfl;have q1:(elS x 0 (qa1 x.tree u).name (qa1 x.tree u).attrs).tree≠[]:=qbi _ _ _ _;rw[e1]at kE;simp only[qer,Tk.cs]at kE;have er:qjg x (u:Int)=⟨(elS x 0 (qa1 x.tree u).name (qa1 x.tree u).attrs).tree,(elS x 0 (qa1 x.tree u).name (qa1 x.tree u).attrs).opn,x.act.map (swp u (x.tree.length:Int)),x.mode,x.back,x.lex,x.form,x.head,x.foster,x.skip,x.inside⟩:=rfl;rw[er]at en nj1;generalize (elS x 0 (qa1 x.tree u).name (qa1 x.tree u).attrs).tree=t1 at *;generalize (elS x 0 (qa1 x.tree u).name (qa1 x.tree u).attrs).opn=p1 at *;generalize x.act.map (swp (u:Int) (x.tree.length:Int))=A2 at *;apply qR;simp[zS,hat];apply qR;simp[zS,g0,gk,nj,SS.post,ix,sb,nV];apply qR;simp[zS,bld,kE,Nd.cs];apply qR;simp[zS,g0,q1,SS.post,kW,v0];apply qR;simp[zS,qbo (show j<=1000000000 by omega)];refine hB _ (j+1) (by omega) (by omega) ⟨[(4,2),(0,0)],[],rfl,rfl,rfl,by simp[qax,qap,qav,qa2,qac],?_⟩;rw[en];exact fS _ _ _ _ (by omega) q1 (by simp[getF]) (by simp[getF])
  ·simp at h;have hj2:j=l.length:=(by omega);subst hj2;apply qas;simp;refine⟨[],rfl,?_⟩;exact qbz rfl rfl rfl (by decide) (nS _) rfl rfl
 apply qa4;refine qb1 (fun k:Nat=>(⟨[0,2,4,5,6,33,34,35],[.ptr 0 0,.int .i64 (k:Int),uD,uD,uD,uD,uD,uD],[],65,⟨3,[[],VS 2 s]⟩⟩ : St)) (fun k=>k<=s.act.length/\f0=qz5 s.opn s.act k) (fun k=>k) [(1,2),(0,0)] [] s.act.length ⟨Nat.le_refl _,hf0⟩
  ⟨rfl,rfl,rfl,by simp[qax,qap,qav,qa2],fS s _ _ 1 (by omega) ne (by simp[getF]) (by simp[getF])⟩ ?_
 rintro k ⟨hk,he⟩ B hB;cases k with
 |zero=>apply qR;simp[zS];apply qai rfl;apply qas;simp;have:f0=0:=he;rw[this]at hE;exact hE _ () trivial ⟨[(2,2),(0,0)],[],rfl,rfl,rfl,by simp[qax,qap,qav,qa2],fS s _ _ 2 (by omega) ne (by simp[getF]) (by simp[getF])⟩
 |succ k=>
  have hat:=atI (L:=s.act) (i:=k) (by omega);have kL:=fun n j fr=>@kc0 s ne s.act[k] hop n j fr;have hw:wr .i64 (((k+1:Nat):Int) - 1)=some (k:Int):=by rw[show (((k+1:Nat):Int) - 1)=(k:Int) by omega];exact qbs (by omega) (by omega)
  have hg:s.act.getD k 0=s.act[k]:=by have:k < s.act.length:=(by omega);simp[List.getD_eq_getElem?_getD,this]
  have hr:qz5 s.opn s.act (k+1)=if qk2 s.opn s.act[k]=true then qz5 s.opn s.act k else k+1:=by show (if qk2 s.opn (s.act.getD k 0)=true then _ else _)=_;rw[hg]
  rw[hr]at he;have hp:(0:Int) < ((k+1:Nat):Int):=by omega
  obtain⟨kk,hkk⟩ : ∃kk:Int,kk=((k+1:Nat):Int):=⟨_,rfl⟩;rw[<- hkk]at hw hp ⊢;cases hb:qk2 s.opn s.act[k]with
  |false=>rw[hb]at he kL;apply qR;simp[zS,hp,g0,ne,SS.post,hw,hat,kL];apply qai rfl;apply qas;simp;have hk2:(f0:Int)=kk:=(by rw[hkk,he];rfl);rw[hk2]at hE;exact hE _ () trivial ⟨[(3,2),(0,0)],[],rfl,rfl,rfl,by simp[qax,qap,qav,qa2],fS s _ _ 3 (by omega) ne (by simp[getF]) (by simp[getF])⟩
  |true=>rw[hb]at he kL;apply qR;simp[zS,hp,g0,ne,SS.post,hw,hat,kL];apply qah rfl;apply qa6;simp;apply qa4;apply qR;simp[zS,hw];exact hB _ k (by omega) ⟨by omega,he⟩ ⟨[(3,2),(0,0)],[],rfl,rfl,rfl,by simp[qax,qap,qav,qa2],fS s _ _ 3 (by omega) ne (by simp[getF]) (by simp[getF])⟩
def e39:Entry PG:=mkS 39 [] (fun z:Unit=>[]) (fun z s=>(RcOk s)) (fun z s=>.tup []) (fun z s=>qci s) fun z s ne h=>⟨c39 (T:=[e123,e53,e124]) rfl rfl rfl ne  h,by simp[qa3,qa2],by simp[qa2,qa3],by(try exact n9);(all_goals exact qlu _ ne)⟩
theorem k39(hT:qa9 39 T=some e39.g) {s:SS} (ne:s.tree≠[])  (h:RcOk s) {n k:Nat} {fr:List (Nat × Blk)} (k0:0 < k) (kn:k < n) (of:qga k fr):qat (ctx T) (.fn 39) [.ptr 0 0] ⟨n,[fr,VS k s]⟩=some (.tup [],⟨n+1,[fr,VS n (qci s)]⟩):=
 qct hT inj_165 () ne h (by simp[qa3,qa2]) (by simp[qbb,qaj]) k0 kn of
theorem elemQ(hT:qa9 53 T=some e53.g) {s:SS} (ne:s.tree≠[]) (x:Str) (hf:s.foster=false) (ok:SOk s) {n k:Nat} {fr:List (Nat × Blk)} (k0:0 < k) (kn:k < n) (of:qga k fr) :
  qat (ctx T) (.fn 53) [.ptr 0 0,.agg [.int .i64 1,.str x,.nilS,.bool false,.str []],.int .i64 0] ⟨n,[fr,VS k s]⟩=some (.int .i64 (s.tree.length:Int),⟨n+1,[fr,VS n (elS s 0 x [])]⟩):=
 qct hT inj_53 (⟨1,x,[],false,[]⟩,0) ne ⟨hf,ok,by simp⟩ (by simp[qa3,qa2]) (by simp[qbb,qcy,qjf,qhd,okV,qer,Tk.cs,qau,qaf,qa2,qa3]) k0 kn of
theorem quw:∀(l:List Int) (s:SS),(l.foldl qjg s).foster=s.foster
 |[],_=>rfl
 |i::l,s=>quw l (qjg s i)
theorem c206g(hc0:qa9 39 T=some e39.g) (hc1:qa9 53 T=some e53.g) {s:SS} {t:Tk} (ne:s.tree≠[])  (h:RcOk s) (ok:SOk (qci s)) (hf:s.foster=false) (ha:t.attrs.length<=1000000):TC T 206 [] ⟨s,t⟩ (.int .i64 ((qci s).tree.length:Int)) ⟨elS (qci s) 0 t.name t.attrs,t⟩:=by
 have kc0:=@k39 T hc0;have kc1:=@k53 T hc1;have g0:=@vg0;have v0:=@vset;obtain⟨kd,nm,L,sf,dt⟩:=t;have kR:=fun n k fr=>@kc0 s ne h n k fr;have hf2:(qci s).foster=false:=by unfold qci;rw[quw];exact hf
 have nr:(qci s).tree≠[]:=qlu _ ne;have kE:=fun n k fr=>@kc1 (qci s) nr ⟨kd,nm,L,sf,dt⟩ 0 hf2 ok ha n k fr;have n1:(elS (qci s) 0 nm L).tree≠[]:=qbi _ _ _ _;simp only[qer,Tk.cs]at kE;clear kc0 kc1 h ok hf ha hf2;simp only;generalize elS (qci s) 0 nm L=s2 at *;generalize qci s=s1 at *;all_goals
  (try simp only[Tk.cs]at *)
  refine qa0 (s0:=⟨[0,1,4],[.ptr 0 0,.ptr 1 0,uD],[],12,⟨3,[]::[_]⟩⟩) Tryz.func206 rfl rfl rfl ?_;apply qcg;try simp only[Tk.cs]
  (repeat' (first
   |with_reducible apply qaa
   |(with_reducible apply rE;simp[zS, *,SS.post];exact rfl)
   |(with_reducible apply qad;simp only[qab,qa5])
   |(with_reducible apply qa7;simp[zQ,Tryz.f206])))
  all_goals first|(((try simp[zQ,Tryz.f206]);refine qbe (by simp[*]) (by first|rfl|(simp[*];done)) (by simp[qa2,qa3]) (by omega) (by(try exact n1);(all_goals exact qbi _ _ _ _)) (by simp[getF]) (by simp[getF]) (by first|(simp[getF,Tk.cs];done)|(simp[getF,Tk.cs, *];done))))|(exfalso;omega)
def e206g:Entry PG:=mkT 206 [] (fun z:Unit=>[]) (fun z x=>(RcOk x.s)/\(SOk (qci x.s))/\(x.s.foster=false)/\(x.t.attrs.length<=1000000)) (fun z x=>.int .i64 ((qci x.s).tree.length:Int)) (fun z x=>⟨elS (qci x.s) 0 x.t.name x.t.attrs,x.t⟩) fun z x ne h=>⟨c206g (T:=[e39,e53]) rfl rfl ne  h.1 h.2.1 h.2.2.1 h.2.2.2,by simp[qa3,qa2],by simp[qa2,qa3],by(try exact n1);(all_goals exact qbi _ _ _ _)⟩
theorem k206g(hT:qa9 206 T=some e206g.g) {s:SS} {t:Tk} (ne:s.tree≠[])  (h:RcOk s) (ok:SOk (qci s)) (hf:s.foster=false) (ha:t.attrs.length<=1000000) {n k tb:Nat} {fr:List (Nat × Blk)} (d:dT n k tb) (of:qg9 k tb fr):qat (ctx T) (.fn 206) [.ptr 0 0,.ptr tb 0] ⟨n,[(tb,.cells t.cs)::fr,VS k s]⟩=some (.int .i64 ((qci s).tree.length:Int),⟨n+1,[(tb,.cells (Tk.cs (t)))::fr,VS n (elS (qci s) 0 t.name t.attrs)]⟩):=
 qg3 (x:=⟨s,t⟩) (f1:=[]) hT inj_165 () ne ⟨h,ok,hf,ha⟩ (by simp[qa3,qa2]) (by simp[qbb,qaj]) d (by simp) of
def qox(s:SS) (but:Str):SS:=if qgb s.tree s.opn [114,117,98,121] 0=true then { s with opn:=qgt s.tree s.opn but } else s
theorem c169(hc0:qa9 145 T=some e145.g) (hc1:qa9 77 T=some e77.g) (hc2:qa9 53 T=some e53.g) {s:SS} {t:Tk} (ne:s.tree≠[]) (but:Str) (h:BOk 90000 s) (hb:qbx but) (hbl:but.length<=100000) (ha:t.attrs.length<=1000000):TC T 169 [.str but] ⟨s,t⟩ (.tup []) ⟨elS (qox s but) 0 t.name t.attrs,t⟩:=by
 have kc0:=@k145 T hc0;have kc1:=@k77 T hc1;have kc2:=@k53 T hc2;have g0:=@vg0;have v0:=@vset;obtain⟨kd,nm,L,sf,dt⟩:=t;have kH:=fun n k fr=>@kc0 s ne [114,117,98,121] 0 (qyw (by decide)) (by decide) h.nm (by have:=h.op;omega) n k fr;have kI:=fun n k fr=>@kc1 s ne but hb hbl h.nm (by have:=h.op;omega) n k fr;have hs:BOk 90000 (qox s but):=by
  unfold qox;split
  ·exact h.opn (qhn _ _ _)
  ·exact h
 have kE:=fun n k fr=>@kc2 (qox s but) (by unfold qox;split<;>exact ne) ⟨kd,nm,L,sf,dt⟩ 0 hs.fo (hs.sok (by omega)) ha n k fr;have n1:(elS (qox s but) 0 nm L).tree≠[]:=qbi _ _ _ _;rw[show ((qox s but).tree.length:Int)=(s.tree.length:Int) by unfold qox;split<;>rfl]at kE;have e:qox s but=if qgb s.tree s.opn [114,117,98,121] 0=true then { s with opn:=qgt s.tree s.opn but } else s:=rfl;simp only[qer,Tk.cs]at kE;simp only;generalize elS (qox s but) 0 nm L=s1 at *;rw[e]at kE;clear e hs h ha hb hbl kc0 kc1 kc2;generalize qgb s.tree s.opn [114,117,98,121] 0=b at *;generalize qgt s.tree s.opn but=I at *;cases b;all_goals simp only[Bool.false_eq_true,if_true,if_false]at kE
 all_goals
  (try simp only[Tk.cs]at *)
  refine qa0 (s0:=⟨[0,1,2],[.ptr 0 0,.ptr 1 0,.str but],[],16,⟨3,[]::[_]⟩⟩) Tryz.func169 rfl rfl rfl ?_;apply qcg;try simp only[Tk.cs]
  (repeat' (first
   |with_reducible apply qaa
   |(with_reducible apply rE;simp[zS, *,SS.post];exact rfl)
   |(with_reducible apply qad;simp only[qab,qa5])
   |apply qah rfl
   |apply qai rfl
   |(with_reducible apply qa6;simp only[qab,qa5])))
  all_goals first|(((try simp[zQ,Tryz.f169]);refine qbe (by simp[*]) (by first|rfl|(simp[*];done)) (by simp[qa2,qa3]) (by omega) (by(try exact n1);(all_goals exact qbi _ _ _ _)) (by simp[getF]) (by simp[getF]) (by first|(simp[getF,Tk.cs];done)|(simp[getF,Tk.cs, *];done))))|(exfalso;omega)
def e169:Entry PG:=mkT 169 [[]] (fun z:Str=>[.str z]) (fun z x=>(BOk 90000 x.s)/\(qbx z)/\(z.length<=100000)/\(x.t.attrs.length<=1000000)) (fun z x=>.tup []) (fun z x=>⟨elS (qox x.s z) 0 x.t.name x.t.attrs,x.t⟩) fun z x ne h=>⟨c169 (T:=[e145,e77,e53]) rfl rfl rfl ne z h.1 h.2.1 h.2.2.1 h.2.2.2,by simp[qa3,qa2],by simp[qa2,qa3],by(try exact n1);(all_goals exact qbi _ _ _ _)⟩
theorem k169(hT:qa9 169 T=some e169.g) {s:SS} {t:Tk} (ne:s.tree≠[]) (but:Str) (h:BOk 90000 s) (hb:qbx but) (hbl:but.length<=100000) (ha:t.attrs.length<=1000000) {n k tb:Nat} {fr:List (Nat × Blk)} (d:dT n k tb) (of:qg9 k tb fr):qat (ctx T) (.fn 169) [.ptr 0 0,.ptr tb 0,.str but] ⟨n,[(tb,.cells t.cs)::fr,VS k s]⟩=some (.tup [],⟨n+1,[(tb,.cells (Tk.cs (t)))::fr,VS n (elS (qox s but) 0 t.name t.attrs)]⟩):=
 qg3 (x:=⟨s,t⟩) (f1:=[]) hT inj_147 (but) ne ⟨h,hb,hbl,ha⟩ (by simp[qa3,qa2]) (by simp[qbb,qaj]) d (by simp) of
def qe6(s:SS):SS:=if qgb s.tree s.opn [112] 2=true then s else elS s 0 [112] []
theorem c57(hc0:qa9 145 T=some e145.g) (hc1:qa9 53 T=some e53.g) (hc2:qa9 146 T=some e146.g) {s:SS} (ne:s.tree≠[])  (h:BOk 90000 s) (hn:qhc (qe6 s).tree) (ho:(qe6 s).opn.length<=100000):SC T 57 [] s (.tup []) (qow (qe6 s)):=by
 have kc0:=@k145 T hc0;have kc2:=@k146 T hc2;have g0:=@vg0;have v0:=@vset;have kH:=fun n k fr=>@kc0 s ne [112] 2 (qyw (by decide)) (by decide) h.nm (by have:=h.op;omega) n k fr;have kE:=fun n k fr=>@elemQ T hc1 s ne [112] h.fo (h.sok (by omega)) n k fr;have np:(qe6 s).tree≠[]:=by unfold qe6;split;exact ne;exact qbi _ _ _ _
 have kP:=fun n k fr=>@kc2 (qe6 s) np hn ho n k fr;have bld:qdw PG 48 [(0,.int .i64 1),(1,.str [112])]=some (.agg [.int .i64 1,.str [112],.nilS,.bool false,.str []]):=rfl;have n1:(qow (qe6 s)).tree≠[]:=np;have e:qe6 s=if qgb s.tree s.opn [112] 2=true then s else elS s 0 [112] []:=rfl;clear kc0 kc2 h hn ho;generalize qow (qe6 s)=s2 at *;rw[e]at kP;clear e np;generalize qgb s.tree s.opn [112] 2=b at *;generalize elS s 0 [112] []=s1 at *;cases b;all_goals
  simp only[Bool.false_eq_true,if_true,if_false]at kP;refine qa0 (s0:=⟨[0],[.ptr 0 0],[],10,⟨2,[]::[VS 1 s]⟩⟩) Tryz.func57 rfl rfl rfl ?_
  (repeat' (first
   |with_reducible apply qaa
   |(with_reducible apply rE;simp[zS, *,SS.post];exact rfl)
   |(with_reducible apply qad;simp only[qab,qa5])
   |apply qah rfl
   |apply qai rfl
   |(with_reducible apply qa6;simp only[qab,qa5])))
  all_goals first|(((try simp[zQ,Tryz.f57]);exact qbz rfl rfl rfl (by decide) n1 rfl rfl))|(exfalso;omega)
def e57:Entry PG:=mkS 57 [] (fun z:Unit=>[]) (fun z s=>(BOk 90000 s)/\(qhc (qe6 s).tree)/\((qe6 s).opn.length<=100000)) (fun z s=>.tup []) (fun z s=>qow (qe6 s)) fun z s ne h=>⟨c57 (T:=[e145,e53,e146]) rfl rfl rfl ne  h.1 h.2.1 h.2.2,by simp[qa3,qa2],by simp[qa2,qa3],by(try exact n1);(all_goals (unfold qe6;split;exact ne;exact qbi _ _ _ _))⟩
theorem k57(hT:qa9 57 T=some e57.g) {s:SS} (ne:s.tree≠[])  (h:BOk 90000 s) (hn:qhc (qe6 s).tree) (ho:(qe6 s).opn.length<=100000) {n k:Nat} {fr:List (Nat × Blk)} (k0:0 < k) (kn:k < n) (of:qga k fr):qat (ctx T) (.fn 57) [.ptr 0 0] ⟨n,[fr,VS k s]⟩=some (.tup [],⟨n+1,[fr,VS n (qow (qe6 s))]⟩):=
 qct hT inj_165 () ne ⟨h,hn,ho⟩ (by simp[qa3,qa2]) (by simp[qbb,qaj]) k0 kn of
def qhv(s:SS):SS:=if qgb s.tree s.opn [98,111,100,121] 0=true then { s with mode:=15 } else s
theorem c55(hc0:qa9 145 T=some e145.g) {s:SS} (ne:s.tree≠[]) (nm:Str) (hn:qhc s.tree) (ho:s.opn.length<=100000):SC T 55 [.str nm] s (.bool (qgb s.tree s.opn [98,111,100,121] 0 && decide (nm=[104,116,109,108]))) (qhv s):=by
 have kc0:=@k145 T hc0;have g0:=@vg0;have v0:=@vset;have kH:=fun n k fr=>@kc0 s ne [98,111,100,121] 0 (qyw (by decide)) (by decide) hn ho n k fr;have e:qhv s=if qgb s.tree s.opn [98,111,100,121] 0=true then { s with mode:=15 } else s:=rfl;rw[e];clear e kc0 hn ho;generalize qgb s.tree s.opn [98,111,100,121] 0=b at *;cases b;all_goals simp only[Bool.false_eq_true,if_true,if_false,Bool.false_and,Bool.true_and]
 all_goals
  refine qa0 (s0:=⟨[0,1,4],[.ptr 0 0,.str nm,uD],[],13,⟨2,[]::[VS 1 s]⟩⟩) Tryz.func55 rfl rfl rfl ?_
  (repeat' (first
   |with_reducible apply qaa
   |(with_reducible apply rE;simp[zS, *,SS.post];exact rfl)
   |(with_reducible apply qad;simp only[qab,qa5])
   |apply qah rfl
   |apply qai rfl
   |(with_reducible apply qa6;simp only[qab,qa5])
   |(with_reducible apply qa7;simp[zQ,Tryz.f55])))
  all_goals first|(((try simp[zQ,Tryz.f55]);exact qbz (by first|rfl|(simp[*];done)) rfl (by simp[qa2]) (by decide) ne rfl rfl))|(exfalso;omega)
def e55:Entry PG:=mkS 55 [[]] (fun z:Str=>[.str z]) (fun z s=>(qhc s.tree)/\(s.opn.length<=100000)) (fun z s=>.bool (qgb s.tree s.opn [98,111,100,121] 0 && decide (z=[104,116,109,108]))) (fun z s=>qhv s) fun z s ne h=>⟨c55 (T:=[e145]) rfl ne z h.1 h.2,by simp[qa3,qa2],by simp[qa2,qa3],by(try exact ne);(all_goals (unfold qhv;split<;>exact ne))⟩
theorem k55(hT:qa9 55 T=some e55.g) {s:SS} (ne:s.tree≠[]) (nm:Str) (hn:qhc s.tree) (ho:s.opn.length<=100000) {n k:Nat} {fr:List (Nat × Blk)} (k0:0 < k) (kn:k < n) (of:qga k fr):qat (ctx T) (.fn 55) [.ptr 0 0,.str nm] ⟨n,[fr,VS k s]⟩=some (.bool (qgb s.tree s.opn [98,111,100,121] 0 && decide (nm=[104,116,109,108])),⟨n+1,[fr,VS n (qhv s)]⟩):=
 qct hT inj_147 (nm) ne ⟨hn,ho⟩ (by simp[qa3,qa2]) (by simp[qbb,qaj]) k0 kn of
def brS(r:SS):SS:=⟨(elS r 0 [98,114] []).tree,qcj (elS r 0 [98,114] []).opn (r.tree.length:Int),r.act,r.mode,r.back,r.lex,r.form,r.head,r.foster,r.skip,r.inside⟩
theorem c60(hc0:qa9 39 T=some e39.g) (hc1:qa9 53 T=some e53.g) (hc2:qa9 143 T=some e143.g) {s:SS} (ne:s.tree≠[])  (h:RcOk s) (ok:SOk (qci s)) (hf:s.foster=false) (ho:(qci s).opn.length<=900):SC T 60 [] s (.tup []) (brS (qci s)):=by
 have kc0:=@k39 T hc0;have kc2:=@k143 T hc2;have g0:=@vg0;have v0:=@vset;have kR:=fun n k fr=>@kc0 s ne h n k fr;have hf2:(qci s).foster=false:=by unfold qci;rw[quw];exact hf
 have nr:(qci s).tree≠[]:=qlu _ ne;have kE:=fun n k fr=>@elemQ T hc1 (qci s) nr [98,114] hf2 ok n k fr;have bld:qdw PG 48 [(0,.int .i64 1),(1,.str [98,114])]=some (.agg [.int .i64 1,.str [98,114],.nilS,.bool false,.str []]):=rfl;have n1:(brS (qci s)).tree≠[]:=qbi _ _ _ _;have e1:elS (qci s) 0 [98,114] []=⟨(elS (qci s) 0 [98,114] []).tree,(elS (qci s) 0 [98,114] []).opn,(qci s).act,(qci s).mode,(qci s).back,(qci s).lex,(qci s).form,(qci s).head,(qci s).foster,(qci s).skip,(qci s).inside⟩:=rfl;have kD:=fun H=>kc2 (L:=(elS (qci s) 0 [98,114] []).opn) (by simp[elS];omega) ((qci s).tree.length:Int) H;have q1:(elS (qci s) 0 [98,114] []).tree≠[]:=qbi _ _ _ _;rw[e1]at kE;clear e1 kc0 kc2 h ok hf ho hf2;unfold brS at n1 ⊢;generalize (elS (qci s) 0 [98,114] []).tree=t1 at *;generalize (elS (qci s) 0 [98,114] []).opn=p1 at *;generalize qcj p1 ((qci s).tree.length:Int)=d1 at *;generalize qci s=r at *;refine qa0 (s0:=⟨[0,2],[.ptr 0 0,uD],[],17,⟨2,[]::[VS 1 s]⟩⟩) Tryz.func60 rfl rfl rfl ?_
 (repeat' (first
  |with_reducible apply qaa
  |(with_reducible apply rE;simp[zS, *,SS.post];exact rfl)
  |(with_reducible apply qad;simp only[qab,qa5])))
 all_goals first|(((try simp[zQ,Tryz.f60]);exact qbz rfl rfl rfl (by decide) n1 rfl rfl))|(exfalso;omega)
def e60:Entry PG:=mkS 60 [] (fun z:Unit=>[]) (fun z s=>(RcOk s)/\(SOk (qci s))/\(s.foster=false)/\((qci s).opn.length<=900)) (fun z s=>.tup []) (fun z s=>brS (qci s)) fun z s ne h=>⟨c60 (T:=[e39,e53,e143]) rfl rfl rfl ne  h.1 h.2.1 h.2.2.1 h.2.2.2,by simp[qa3,qa2],by simp[qa2,qa3],by(try exact n1);(all_goals exact qbi _ _ _ _)⟩
theorem k60(hT:qa9 60 T=some e60.g) {s:SS} (ne:s.tree≠[])  (h:RcOk s) (ok:SOk (qci s)) (hf:s.foster=false) (ho:(qci s).opn.length<=900) {n k:Nat} {fr:List (Nat × Blk)} (k0:0 < k) (kn:k < n) (of:qga k fr):qat (ctx T) (.fn 60) [.ptr 0 0] ⟨n,[fr,VS k s]⟩=some (.tup [],⟨n+1,[fr,VS n (brS (qci s))]⟩):=
 qct hT inj_165 () ne ⟨h,ok,hf,ho⟩ (by simp[qa3,qa2]) (by simp[qbb,qaj]) k0 kn of
def othN(t:Tr) (L:List Int) (W:Str):Nat->Option Nat
 |0=>none
 |k+1=>if qbv (qbh t (L.getD (k+1) 0)) W=true then some (k+1) else if qd5 (qa1 t (L.getD (k+1) 0)).space (qa1 t (L.getD (k+1) 0)).name=true then none else othN t L W k
def cutI(I:List Int) (i:Int):List Int:=if 0<=qal (fun y=>decide (i=y)) I 0 then I.take (qal (fun y=>decide (i=y)) I 0).toNat else I
def qe7(s:SS) (W:Str):SS:=match othN s.tree s.opn W (s.opn.length - 1)with
 |none=>s
 |some k=>{ s with opn:=cutI (qgt s.tree s.opn W) (s.opn.getD k 0) }
theorem qf8(s:SS) (W:Str):(qe7 s W).tree=s.tree:=by unfold qe7;split<;>rfl
theorem qpq{p:Int->Bool}:∀(L:List Int) (k:Nat),qal p L k < ((k+L.length:Nat):Int)\/qal p L k = -1
 |[],k=>.inr rfl
 |a::r,k=>by
  unfold qal;split
  ·left;simp only[List.length_cons];omega
  ·rcases qpq (p:=p) r (k+1)with h|h
   ·left;simp only[List.length_cons];omega
   ·exact .inr h
theorem c19(hc0:qa9 76 T=some e76.g) (hc1:qa9 77 T=some e77.g) (hc2:qa9 47 T=some e47.g) (hc3:qa9 78 T=some e78z.g) (hc4:qa9 79 T=some e79.g) {s:SS} (ne:s.tree≠[]) (W:Str) (hl:W.length<=100000) (hn:qhc s.tree) (ho:s.opn.length<=100000) (h0:s.opn≠[]) (hr:∀i,i∈s.opn->0<=i/\i < (s.tree.length:Int)):SC T 19 [.str W] s (.tup []) (qe7 s W):=by
 have kc1:=@k77 T hc1;have kc2:=@k47 T hc2;have kc3:=@k78z T hc3;have kc4:=@k79 T hc4;have g0:=@vg0;have v0:=@vset;have lO:=fun H=>qn0 (H:=H) (L:=s.opn);have n9:(qe7 s W).tree≠[]:=by rw[qf8];exact ne
 have hlen:=List.length_pos_iff.2 h0;have fS:∀(f:List (Nat × Blk)) (n k:Nat),0 < k->getF 0 f=none->getF k f=none->FitH 2 [(k,2),(0,0)] [] ⟨n,[f,VS k s]⟩ ⟨3,[[],VS 2 s]⟩:=fun f n k k0 h1 h2=>qv0 ⟨by omega,by omega,by omega⟩ (by omega) k0 ne h1 h2;have hw:wr .i64 ((s.opn.length:Int) - 1)=some ((s.opn.length - 1:Nat):Int):=by rw[show ((s.opn.length:Int) - 1)=((s.opn.length - 1:Nat):Int) by omega];exact qbs (by omega) (by omega)
 obtain⟨m,hm⟩ : ∃m,m=s.opn.length - 1:=⟨_,rfl⟩;rw[<- hm]at hw;refine qa0 (s0:=⟨[0,1,4,5,6,7],[.ptr 0 0,.str W,uD,uD,uD,uD],[],66,⟨2,[]::[VS 1 s]⟩⟩) Tryz.func19 rfl rfl rfl ?_;apply qR;simp[zS,g0,ne,SS.post,lO,hw];apply qa4;refine qb1 (fun k:Nat=>(⟨[0,1,4,5,6,7],[.ptr 0 0,.str W,.int .i64 (k:Int),uD,uD,uD],[],66,⟨3,[[],VS 2 s]⟩⟩ : St)) (fun k=>k < s.opn.length/\othN s.tree s.opn W m=othN s.tree s.opn W k) (fun k=>k) [(1,2),(0,0)] [] m ⟨by omega,rfl⟩
  ⟨rfl,rfl,rfl,by simp[qax,qap,qav,qa2],fS _ _ 1 (by omega) (by simp[getF]) (by simp[getF])⟩ ?_
 rintro k ⟨hk,he⟩ B hB;cases k with
 |zero=>
  have eo:qe7 s W=s:=by unfold qe7;rw[<- hm,he];rfl
  rw[eo];apply qR;simp[zS];apply qai rfl;apply qas;simp;refine⟨[],rfl,?_⟩;exact qbz rfl rfl rfl (by decide) ne rfl rfl
 |succ k=>
  have hat:=atI (L:=s.opn) (i:=k+1) hk;have hg:s.opn.getD (k+1) 0=s.opn[k+1]:=by simp[List.getD_eq_getElem?_getD,hk]
  have hwk:wr .i64 (((k+1:Nat):Int) - 1)=some (k:Int):=by rw[show (((k+1:Nat):Int) - 1)=(k:Int) by omega];exact qbs (by omega) (by omega)
  have hp:(0:Int) < ((k+1:Nat):Int):=by omega
  obtain⟨r0,r1⟩:=hr s.opn[k+1] (List.getElem_mem hk);obtain⟨u,hu⟩ : ∃u:Nat,s.opn[k+1]=u:=⟨s.opn[k+1].toNat,by omega⟩;rw[hu]at hat r1 hg;have hul:u < s.tree.length:=by omega
  have ix:=ixN (k:=2) (t:=s.tree) hul;have sb:=subN (t:=s.tree) hul;have gk:=@vgk;have kI:=fun n k f (k0:0 < k) (hf:getF k f=none)=>q76 hc0 (thS (n:=n) k0 ne hf) (u:Int) (trivial:qbx W) hl (hn _);have kM:=fun n k fr=>@kc1 s ne W trivial hl hn ho n k fr;have kX:=fun H=>kc2 (L:=qgt s.tree s.opn W) (u:Int) (by have:=qhn s.tree s.opn W;omega) H;have kS:=fun H=>kc4 (qa1 s.tree u).space (qa1 s.tree u).name (by have:=hn u;unfold qbh at this;rw[if_pos (by simp[isB];omega)]at this;exact this) H;have ho:othN s.tree s.opn W (k+1)=if qbv (qbh s.tree u) W=true then some (k+1) else if qd5 (qa1 s.tree u).space (qa1 s.tree u).name=true then none else othN s.tree s.opn W k:=by show (if qbv (qbh s.tree (s.opn.getD (k+1) 0)) W=true then _ else _)=_;rw[hg]
  rw[ho]at he;obtain⟨kk,hkk⟩ : ∃kk:Int,kk=((k+1:Nat):Int):=⟨_,rfl⟩;rw[<- hkk]at hwk hp hat ⊢;cases hb:qbv (qbh s.tree u) W with
  |true=>
   rw[hb,if_pos rfl]at he;rw[hb]at kI;have eo:qe7 s W={ s with opn:=cutI (qgt s.tree s.opn W) (u:Int) }:=(by unfold qe7;rw[<- hm,he];simp only;rw[hg]);rw[eo];have hI:=qhn s.tree s.opn W;generalize qgt s.tree s.opn W=I at *;by_cases hi:0<=qal (fun y=>decide ((u:Int)=y)) I 0
   ·have hto:=fun H=>qx0 (H:=H) (L:=I) (k:=(qal (fun y=>decide ((u:Int)=y)) I 0).toNat) (by rcases qpq (p:=fun y=>decide ((u:Int)=y)) I 0 with h|h<;>omega);rw[show (((qal (fun y=>decide ((u:Int)=y)) I 0).toNat:Nat):Int)=qal (fun y=>decide ((u:Int)=y)) I 0 by omega]at hto;have kC:=fun H=>kc3 (L:=I.take (qal (fun y=>decide ((u:Int)=y)) I 0).toNat) (by simp;omega) H;have ec:cutI I u=I.take (qal (fun y=>decide ((u:Int)=y)) I 0).toNat:=(by unfold cutI;rw[if_pos hi]);rw[ec];generalize I.take (qal (fun y=>decide ((u:Int)=y)) I 0).toNat=J at *;generalize qal (fun y=>decide ((u:Int)=y)) I 0=x at *;clear hkk hB he ho eo ec hr hn n9
    (repeat' (first
     |with_reducible apply qaa
     |with_reducible apply qa4
     |(with_reducible apply rE;simp[zS, *,SS.post];exact rfl)
     |(with_reducible apply qad;simp only[qab,qa5])
     |apply qah rfl
     |(with_reducible apply qa6;simp only[qab,qa5])
     |(with_reducible apply qa7;simp[zQ,Tryz.f19])))
    all_goals first|(((try simp[zQ,Tryz.f19]);exact qbz rfl rfl rfl (by decide) ne rfl rfl))|(exfalso;omega)
   ·have ec:cutI I u=I:=(by unfold cutI;rw[if_neg hi]);rw[ec];generalize qal (fun y=>decide ((u:Int)=y)) I 0=x at *;clear hkk hB he ho eo ec hr hn n9
    (repeat' (first
     |with_reducible apply qaa
     |with_reducible apply qa4
     |(with_reducible apply rE;simp[zS, *,SS.post];exact rfl)
     |(with_reducible apply qad;simp only[qab,qa5])
     |apply qah rfl
     |apply qai rfl
     |(with_reducible apply qa6;simp only[qab,qa5])
     |(with_reducible apply qa7;simp[zQ,Tryz.f19])))
    all_goals first|(((try simp[zQ,Tryz.f19]);exact qbz rfl rfl rfl (by decide) ne rfl rfl))|(exfalso;omega)
  |false=>
   rw[hb,if_neg (by simp)]at he;rw[hb]at kI;cases hs:qd5 (qa1 s.tree u).space (qa1 s.tree u).name with
   |true=>
    rw[hs,if_pos rfl]at he;rw[hs]at kS;have eo:qe7 s W=s:=(by unfold qe7;rw[<- hm,he]);rw[eo];clear hkk hB he ho eo hr hn n9
    (repeat' (first
     |with_reducible apply qaa
     |with_reducible apply qa4
     |(with_reducible apply rE;simp[zS, *,SS.post,Nd.cs,qau];exact rfl)
     |(with_reducible apply qad;simp only[qab,qa5])
     |apply qah rfl
     |apply qai rfl
     |(with_reducible apply qa6;simp only[qab,qa5])
     |(with_reducible apply qa7;simp[zQ,Tryz.f19])))
    all_goals first|(((try simp[zQ,Tryz.f19]);exact qbz rfl rfl rfl (by decide) ne rfl rfl))|(exfalso;omega)
   |false=>
    rw[hs,if_neg (by simp)]at he;rw[hs]at kS;have hB2:=fun s' h=>hB s' k (by omega) ⟨by omega,he⟩ h;clear hkk hB he ho hr hn n9
    (repeat' (first
     |with_reducible apply qaa
     |with_reducible apply qa4
     |(with_reducible apply rE;simp[zS, *,SS.post,Nd.cs,qau];exact rfl)
     |(with_reducible apply qad;simp only[qab,qa5])
     |apply qah rfl
     |apply qai rfl
     |(with_reducible apply qa6;simp only[qab,qa5])))
    all_goals first|(exact hB2 _ ⟨[(_,2),(0,0)],[],rfl,rfl,rfl,by simp[qax,qap,qav,qa2],fS _ _ _ (by omega) (by simp[getF]) (by simp[getF])⟩)|(exfalso;omega)
def e19:Entry PG:=mkS 19 [[]] (fun z:Str=>[.str z]) (fun z s=>(z.length<=100000)/\(qhc s.tree)/\(s.opn.length<=100000)/\(s.opn≠[])/\(∀i,i∈s.opn->0<=i/\i < (s.tree.length:Int))) (fun z s=>.tup []) (fun z s=>qe7 s z) fun z s ne h=>⟨c19 (T:=[e76,e77,e47,e78z,e79]) rfl rfl rfl rfl rfl ne z h.1 h.2.1 h.2.2.1 h.2.2.2.1 h.2.2.2.2,by simp[qa3,qa2],by simp[qa2,qa3],by(try exact n9);(all_goals (rw[qf8];exact ne))⟩
theorem k19(hT:qa9 19 T=some e19.g) {s:SS} (ne:s.tree≠[]) (W:Str) (hl:W.length<=100000) (hn:qhc s.tree) (ho:s.opn.length<=100000) (h0:s.opn≠[]) (hr:∀i,i∈s.opn->0<=i/\i < (s.tree.length:Int)) {n k:Nat} {fr:List (Nat × Blk)} (k0:0 < k) (kn:k < n) (of:qga k fr):qat (ctx T) (.fn 19) [.ptr 0 0,.str W] ⟨n,[fr,VS k s]⟩=some (.tup [],⟨n+1,[fr,VS n (qe7 s W)]⟩):=
 qct hT inj_147 (W) ne ⟨hl,hn,ho,h0,hr⟩ (by simp[qa3,qa2]) (by simp[qbb,qaj]) k0 kn of
def qxr(t:Tr) (i:Int):Bool:=qgi 0 (qa1 t i).space (qa1 t i).name
def f0S(s:SS):SS:=⟨s.tree,s.opn,s.act,s.mode,s.back,s.lex,0,s.head,s.foster,s.skip,s.inside⟩
def qmf(s:SS):Int:=qal (fun y=>decide (s.form=y)) s.opn 0
def qh8(s:SS):SS:=
 if s.form=0\/qmf s < 0 then f0S s
 else if (s.opn.drop ((qmf s).toNat+1)).any (qxr s.tree)=true then f0S s
 else ⟨s.tree,qcj (qgt s.tree s.opn []) s.form,s.act,s.mode,s.back,s.lex,0,s.head,s.foster,s.skip,s.inside⟩
theorem qps(s:SS):(qh8 s).tree=s.tree:=by unfold qh8;split;rfl;split<;>rfl
theorem c56(hc0:qa9 47 T=some e47.g) (hc1:qa9 51 T=some e51.g) (hc2:qa9 77 T=some e77.g) (hc3:qa9 143 T=some e143.g) {s:SS} (ne:s.tree≠[])  (hn:qhc s.tree) (ho:s.opn.length<=900) (hr:∀i,i∈s.opn->0<=i/\i < (s.tree.length:Int)):SC T 56 [] s (.tup []) (qh8 s):=by
 have kc0:=@k47 T hc0;have kc1:=@k51 T hc1;have kc2:=@k77 T hc2;have kc3:=@k143 T hc3;have g0:=@vg0;have v0:=@vset;have n9:(qh8 s).tree≠[]:=by rw[qps];exact ne
 have kX:=fun H=>kc0 (L:=s.opn) s.form (by omega) H;have kM:=fun n k fr=>@kc2 (f0S s) ne [] trivial (by decide) hn (by simp only[f0S];omega) n k fr;have kD:=fun H=>kc3 (L:=qgt s.tree s.opn []) (by have:=qhn s.tree s.opn [];omega) s.form H;have hfa:qmf s=qal (fun y=>decide (s.form=y)) s.opn 0:=rfl;rw[<- hfa]at kX;by_cases h0:s.form=0
 case pos=>
  have e:qh8 s=f0S s:=by unfold qh8;rw[if_pos (.inl h0)]
  rw[e];rw[h0]at kX;unfold f0S;clear kM kD hr hn n9 e hfa;generalize qmf s=x at *;refine qa0 (s0:=⟨[0,2,3,5,6,32,33,34],[.ptr 0 0,uD,uD,uD,uD,uD,uD,uD],[],63,⟨2,[]::[VS 1 s]⟩⟩) Tryz.func56 rfl rfl rfl ?_
  (repeat' (first
   |with_reducible apply qaa
   |(with_reducible apply rE;simp[zS, *,SS.post];exact rfl)
   |(with_reducible apply qad;simp only[qab,qa5])
   |apply qah rfl
   |(with_reducible apply qa7;simp[zQ,Tryz.f56])))
  all_goals first|(((try simp[zQ,Tryz.f56]);exact qbz rfl rfl rfl (by decide) ne rfl rfl))|(exfalso;omega)
 by_cases h1:qmf s < 0
 case pos=>
  have e:qh8 s=f0S s:=by unfold qh8;rw[if_pos (.inr h1)]
  rw[e];unfold f0S;clear kM kD hr hn n9 e hfa;generalize qmf s=x at *;refine qa0 (s0:=⟨[0,2,3,5,6,32,33,34],[.ptr 0 0,uD,uD,uD,uD,uD,uD,uD],[],63,⟨2,[]::[VS 1 s]⟩⟩) Tryz.func56 rfl rfl rfl ?_
  (repeat' (first
   |with_reducible apply qaa
   |(with_reducible apply rE;simp[zS, *,SS.post];exact rfl)
   |(with_reducible apply qad;simp only[qab,qa5])
   |apply qah rfl
   |(with_reducible apply qa7;simp[zQ,Tryz.f56])))
  all_goals first|(((try simp[zQ,Tryz.f56]);exact qbz rfl rfl rfl (by decide) ne rfl rfl))|(exfalso;omega)
 obtain⟨x,hx⟩ : ∃x:Nat,qmf s=x:=⟨(qmf s).toNat,by omega⟩;have hxl:x < s.opn.length:=by rcases qpq (p:=fun y=>decide (s.form=y)) s.opn 0 with h|h<;>(rw[<- hfa,hx]at h;omega)
 obtain⟨l,hl⟩ : ∃l,l=s.opn.drop (x+1):=⟨_,rfl⟩;have hll:l.length<=900:=by rw[hl];simp;omega
 have hd:=fun H=>qn3 (H:=H) (L:=s.opn) (k:=x+1) (by omega);rw[<- hl]at hd;have lL:=fun H=>qn0 (H:=H) (L:=l);have hw:wr .i64 ((x:Int)+1)=some ((x+1:Nat):Int):=qbs (by omega) (by omega);have ef:qh8 s=if l.any (qxr s.tree)=true then f0S s else ⟨s.tree,qcj (qgt s.tree s.opn []) s.form,s.act,s.mode,s.back,s.lex,0,s.head,s.foster,s.skip,s.inside⟩:=by unfold qh8;rw[if_neg (by intro h;rcases h with h|h;exact h0 h;exact h1 h),hx,Int.toNat_natCast,<- hl]
 have hrl:∀i,i∈l->0<=i/\i < (s.tree.length:Int):=fun i hi=>hr i (by rw[hl]at hi;exact List.mem_of_mem_drop hi);have nf:(f0S s).tree≠[]:=ne;have fS:∀(f:List (Nat × Blk)) (n k:Nat),0 < k->getF 0 f=none->getF k f=none->FitH 2 [(k,2),(0,0)] [] ⟨n,[f,VS k (f0S s)]⟩ ⟨3,[[],VS 2 (f0S s)]⟩:=fun f n k k0 h1 h2=>qv0 ⟨by omega,by omega,by omega⟩ (by omega) k0 nf h1 h2;rw[hx]at kX;have hx0:¬ (x:Int) < 0:=by omega
 clear hfa h1 hx hl;refine qa0 (s0:=⟨[0,2,3,5,6,32,33,34],[.ptr 0 0,uD,uD,uD,uD,uD,uD,uD],[],63,⟨2,[]::[VS 1 s]⟩⟩) Tryz.func56 rfl rfl rfl ?_;apply qR;simp[zS,g0,ne,SS.post];apply qR;simp[zS,g0,v0,ne,SS.post];apply qR;simp[zS,g0,ne,SS.post,kX];apply qR;simp[zS,h0,hx0];apply qai rfl;apply qa6;simp;generalize ((x+1:Nat):Int)=x1 at *;apply qR;simp[zS,g0,ne,SS.post,hw,hd,lL];apply qa4;refine qb1 (fun j:Nat=>(⟨[0,2,3,5,6,32,33,34],[.ptr 0 0,.int .i64 s.form,uD,uD,uD,qac l,.int .i64 (l.length:Int),.int .i64 (j:Int)],[],63,⟨3,[[],VS 2 (f0S s)]⟩⟩ : St)) (fun j=>j<=l.length/\l.any (qxr s.tree)=(l.drop j).any (qxr s.tree)) (fun j=>l.length - j) [(1,2),(0,0)] [] 0 ⟨Nat.zero_le _,rfl⟩
  ⟨rfl,rfl,rfl,by simp[qax,qap,qav,qa2,qac],fS _ _ 1 (by omega) (by simp[getF]) (by simp[getF])⟩ ?_
 rintro j ⟨hj,he⟩ B hB;apply qR;simp[zS];repeat apply wq
 refine qbf rfl (fun h=>?_) fun h=>?_
 ·simp at h;apply qa6;simp;repeat apply wq
  apply qa4;have hat:=atI h;obtain⟨r0,r1⟩:=hrl _ (List.getElem_mem h);rw[List.drop_eq_getElem_cons h,List.any_cons]at he;obtain⟨u,hu⟩ : ∃u:Nat,l[j]=u:=⟨l[j].toNat,by omega⟩;rw[hu]at hat r1 he;have hul:u < s.tree.length:=by omega
  have ix:=ixN (k:=2) (t:=s.tree) hul;have sb:=subN (t:=s.tree) hul;have gk:=@vgk;have kS:=fun H=>kc1 0 (qa1 s.tree u).space (qa1 s.tree u).name (by have:=hn u;unfold qbh at this;rw[if_pos (by simp[isB];omega)]at this;exact this) H;have es:qxr s.tree u=qgi 0 (qa1 s.tree u).space (qa1 s.tree u).name:=rfl;rw[<- es]at kS;have hf:(f0S s).tree=s.tree:=rfl;apply qR;simp[zS,hat];apply qR;simp[zS,g0,gk,nf,ne,SS.post,hf,ix,sb,nV];cases hb:qxr s.tree u with
  |true=>rw[hb]at kS he;apply qR;simp[zS,kS,Nd.cs,qau];apply qah rfl;apply qa7;have e:qh8 s=f0S s:=(by rw[ef,he];rfl);rw[e];simp[zQ,Tryz.f56];exact qbz rfl rfl rfl (by decide) nf (by simp[getF]) (by simp[getF])
  |false=>rw[hb,Bool.false_or]at he;rw[hb]at kS;apply qR;simp[zS,kS,Nd.cs,qau];apply qai rfl;apply qa6;simp;apply qR;simp[zS,qbo (show j<=1000000000 by omega)];exact hB _ (j+1) (by omega) ⟨by omega,he⟩ ⟨[(2,2),(0,0)],[],rfl,rfl,rfl,by simp[qax,qap,qav,qa2,qac],fS _ _ 2 (by omega) (by simp[getF]) (by simp[getF])⟩
 ·simp at h;rw[List.drop_eq_nil_of_le h]at he;have e:qh8 s=⟨s.tree,qcj (qgt s.tree s.opn []) s.form,s.act,s.mode,s.back,s.lex,0,s.head,s.foster,s.skip,s.inside⟩:=by rw[ef,he];rfl
  rw[e];apply qas;simp;simp only[f0S]at kM ⊢;generalize qgt s.tree s.opn []=I at *;apply qR;simp[zS,kM,ne];apply qR;simp[zS,g0,v0,ne,SS.post,kD];refine⟨[],rfl,?_⟩;exact qbz rfl rfl rfl (by decide) ne rfl rfl
def e56:Entry PG:=mkS 56 [] (fun z:Unit=>[]) (fun z s=>(qhc s.tree)/\(s.opn.length<=900)/\(∀i,i∈s.opn->0<=i/\i < (s.tree.length:Int))) (fun z s=>.tup []) (fun z s=>qh8 s) fun z s ne h=>⟨c56 (T:=[e47,e51,e77,e143]) rfl rfl rfl rfl ne  h.1 h.2.1 h.2.2,by simp[qa3,qa2],by simp[qa2,qa3],by(try exact n9);(all_goals (rw[qps];exact ne))⟩
theorem k56(hT:qa9 56 T=some e56.g) {s:SS} (ne:s.tree≠[])  (hn:qhc s.tree) (ho:s.opn.length<=900) (hr:∀i,i∈s.opn->0<=i/\i < (s.tree.length:Int)) {n k:Nat} {fr:List (Nat × Blk)} (k0:0 < k) (kn:k < n) (of:qga k fr):qat (ctx T) (.fn 56) [.ptr 0 0] ⟨n,[fr,VS k s]⟩=some (.tup [],⟨n+1,[fr,VS n (qh8 s)]⟩):=
 qct hT inj_165 () ne ⟨hn,ho,hr⟩ (by simp[qa3,qa2]) (by simp[qbb,qaj]) k0 kn of
theorem qwg:∀{L M:List Int},L.Nodup->(∀x,x∈L->x∈M)->L.length<=M.length
 |[],M,_,_=>Nat.zero_le _
 |x::L,M,hn,hs=>by have hx:=hs x (by simp);have h1:=qwg (L:=L) (M:=M.erase x) (List.nodup_cons.1 hn).2 (fun y hy=>by have:y≠x:=fun e=>(List.nodup_cons.1 hn).1 (e ▸ hy);exact(List.mem_erase_of_ne this).2 (hs y (by simp[hy])));rw[List.length_erase_of_mem hx]at h1;have:=List.length_pos_of_mem hx;simp;omega
def NDm(l:List Int):Prop:=l.Pairwise fun x y=>x=y->x = -1
structure BI (n d a c e:Nat) (s:SS):Prop where
 tb:TB n n d a s.tree
 fo:s.foster=false
 hd:s.opn.head? = some 1
 rg:∀i,i∈s.opn->1<=i/\i < (s.tree.length:Int)
 nd:s.opn.Nodup
 ac:∀i,i∈s.act->i = -1\/(2<=i/\i < (s.tree.length:Int))
 an:NDm s.act
 al:s.act.length<=e
 fm:s.form=0\/2<=s.form
 cv:∃M:List Int,M.length<=c/\∀x,(x∈s.opn\/(x∈s.act/\x ≠ -1))->x∈M
 h1:2<=s.tree.length/\(qa1 s.tree 1).kind=1/\(qa1 s.tree 1).space=0/\(qa1 s.tree 1).name=[104,116,109,108]
section
variable {n d a c e n' d' a' c' e':Nat} {s:SS}
theorem BI.mono(h:BI n d a c e s) (h1:n<=n') (h2:d<=d') (h3:a<=a') (h4:c<=c') (h5:e<=e'):BI n' d' a' c' e' s:=
 ⟨h.tb.mono h1 h1 h2 h3,h.fo,h.hd,h.rg,h.nd,h.ac,h.an,by have:=h.al;omega,h.fm,by obtain⟨M,hM,h⟩:=h.cv;exact⟨M,by omega,h⟩,h.h1⟩
theorem qwv{t t':Tr} (h:2<=t.length/\(qa1 t 1).kind=1/\(qa1 t 1).space=0/\(qa1 t 1).name=[104,116,109,108]) (k:KeepN t t'):2<=t'.length/\(qa1 t' 1).kind=1/\(qa1 t' 1).space=0/\(qa1 t' 1).name=[104,116,109,108]:=by obtain⟨h0,h1,h2,h3⟩:=h;have:=k.2 1 (by omega);rw[show ((1:Nat):Int)=1 from rfl]at this;exact⟨Nat.le_trans h0 k.1,by rw[this.1,h1],by rw[this.2.1,h2],by rw[this.2.2,h3]⟩
theorem BI.ne(h:BI n d a c e s):s.tree≠[]:=fun e=>by have:=h.h1.1;rw[e]at this;simp at this
theorem BI.on(h:BI n d a c e s):s.opn≠[]:=fun e=>by have:=h.hd;rw[e]at this;simp at this
theorem BI.ol(h:BI n d a c e s):s.opn.length<=c:=by obtain⟨M,hM,hc⟩:=h.cv;exact Nat.le_trans (qwg h.nd fun x hx=>hc x (.inl hx)) hM
theorem BI.le(h:BI n d a c e s) {m:Nat} (hm:n<=m):qd1 s.tree m:=h.tb.le hm
theorem BI.sok(h:BI n d a c e s) (hn:n<=90000) (hc:c<=90000):SOk s:=⟨by have:=h.tb.n1;omega,h.le (by omega),by have:=h.ol;omega⟩
theorem BI.bok(h:BI n d a c e s) {m:Nat} (hn:n<=m) (hc:c<=m):BOk m s:=⟨h.fo,h.tb.nm,by have:=h.tb.n1;omega,h.le hn,by have:=h.ol;omega⟩
theorem BI.r0(h:BI n d a c e s):∀i,i∈s.opn->0<=i/\i < (s.tree.length:Int):=fun i hi=>by have:=h.rg i hi;omega
theorem BI.top(h:BI n d a c e s):1<=qgd s.opn/\qgd s.opn < (s.tree.length:Int):=by have ho:=h.on;unfold qgd;rw[List.getLast?_eq_some_getLast ho];exact h.rg _ (List.getLast_mem ho)
theorem BI.sub(h:BI n d a c e s) {o:List Int} (hs:o.Sublist s.opn) (hh:o.head? = some 1):BI n d a c e { s with opn:=o }:=by obtain⟨M,hM,hc⟩:=h.cv;exact⟨h.tb,h.fo,hh,fun i hi=>h.rg i (hs.subset hi),hs.nodup h.nd,h.ac,h.an,h.al,h.fm,⟨M,hM,fun x hx=>hc x (hx.imp (fun h=>hs.subset h) id)⟩,h.h1⟩
def PreL(o L:List Int):Prop:=o <+: L/\(L≠[]->o≠[])
theorem PreL.refl(L:List Int):PreL L L:=⟨List.prefix_refl L,id⟩
theorem PreL.trans{o p L:List Int} (h:PreL o p) (g:PreL p L):PreL o L:=⟨h.1.trans g.1,fun hl=>h.2 (g.2 hl)⟩
theorem PreL.head{o L:List Int} (h:PreL o L):o.head? = L.head?:=by
 cases L with
 |nil=>rw[List.prefix_nil.1 h.1]
 |cons x r=>
  cases o with
  |nil=>exact absurd rfl (h.2 (by simp))
  |cons y q=>obtain⟨z,hz⟩:=h.1;simp at hz;simp[hz.1]
theorem BI.pre(h:BI n d a c e s) {o:List Int} (p:PreL o s.opn):BI n d a c e { s with opn:=o }:=h.sub p.1.sublist (by rw[p.head];exact h.hd)
theorem qri{X:Type} {goes:X->Int->Bool} {nx:X->Int->X}:∀(x:X) (l:List Int),(qn9 goes nx x l).1 <:+ l/\(l≠[]->(qn9 goes nx x l).1≠[])
 |x,[]=>⟨List.suffix_refl _,id⟩
 |x,[i]=>⟨List.suffix_refl _,fun _=>by simp[qn9]⟩
 |x,i::j::r=>by
  unfold qn9;simp only;split
  ·obtain⟨h1,h2⟩:=qri (goes:=goes) (nx:=nx) (nx x i) (j::r);exact⟨h1.trans (List.suffix_cons _ _),fun _=>h2 (by simp)⟩
  ·exact⟨List.suffix_refl _,fun _=>by simp⟩
theorem qqj(t:Tr) (L:List Int) (W:Str):PreL (qmn t L W) L:=by unfold qmn;obtain⟨h1,h2⟩:=qri (goes:=fun(b:Bool) _=>!b) (nx:=fun b i=>if b=true then true else qbv (qbh t i) W) false L.reverse;refine⟨by rw[<- List.reverse_prefix]at h1;simpa using h1,fun hl=>?_⟩;have:=h2 (by simpa using hl);simpa using this
theorem qlo(t:Tr) (L:List Int) (W:Str):PreL (qgt t L W) L:=by unfold qgt;obtain⟨h1,h2⟩:=qri (goes:=fun(_:Unit) i=>qus t W i) (nx:=fun _ _=>()) () L.reverse;refine⟨by rw[<- List.reverse_prefix]at h1;simpa using h1,fun hl=>?_⟩;have:=h2 (by simpa using hl);simpa using this
theorem qqi(L:List Int) {k:Nat} (hk:1<=k):PreL (L.take k) L:=⟨List.take_prefix _ _,fun hl=>by
 cases L with
 |nil=>exact absurd rfl hl
 |cons x r=>obtain⟨j,rfl⟩ : ∃j,k=j+1:=⟨k - 1,by omega⟩;simp⟩
theorem BI.drop(h:BI n d a c e s) {i:Int} (hi:i≠1):BI n d a c e { s with opn:=qcj s.opn i }:=by
 refine h.sub List.filter_sublist ?_;have:=h.hd;cases hs:s.opn with
 |nil=>rw[hs]at this;simp at this
 |cons x r=>rw[hs]at this;simp at this;subst this;have:¬ (1:Int)=i:=fun e=>hi e.symm;simp[qcj,this]
theorem BI.act(h:BI n d a c e s) {A:List Int} (hs:A.Sublist s.act):BI n d a c e { s with act:=A }:=by obtain⟨M,hM,hc⟩:=h.cv;exact⟨h.tb,h.fo,h.hd,h.rg,h.nd,fun i hi=>h.ac i (hs.subset hi),List.Pairwise.sublist hs h.an,by have:=hs.length_le;have:=h.al;simp only;omega,h.fm,⟨M,hM,fun x hx=>hc x (hx.imp id fun h=>⟨hs.subset h.1,h.2⟩)⟩,h.h1⟩
theorem BI.elS(h:BI n d a c e s) (sp:Int) {nm:Str} {L:List At1} (hn:nm.length<=40) (hL:L.length<=a):BI (n+1) d a (c+1) e (elS s sp nm L):=by
 obtain⟨M,hM,hc⟩:=h.cv;have kp:KeepN s.tree (elT s.tree (qgd s.opn) sp nm L):=qqv _ _ _ _;have l:(elT s.tree (qgd s.opn) sp nm L).length=s.tree.length+1:=qqo _ _ _;refine⟨h.tb.new _ _ _ hn (by simp) hL,h.fo,?_,fun i hi=>?_,?_,fun i hi=>?_,h.an,h.al,h.fm,⟨(s.tree.length:Int)::M,by simp;omega,fun x hx=>?_⟩,qwv h.h1 kp⟩
 ·have:=h.hd;have ho:=h.on;simp only[Go.Proofs.YtnfdakclfmchfaaGreat.elS];rw[List.head?_append,this];rfl
 ·simp only[Go.Proofs.YtnfdakclfmchfaaGreat.elS,List.mem_append,List.mem_singleton]at hi ⊢;rw[l];rcases hi with hi|rfl
  ·have:=h.rg i hi;omega
  ·have:=h.h1.1;omega
 ·simp only[Go.Proofs.YtnfdakclfmchfaaGreat.elS];rw[List.nodup_append];refine⟨h.nd,by simp,fun x hx y hy=>?_⟩;simp at hy;have:=h.rg x hx;omega
 ·simp only[Go.Proofs.YtnfdakclfmchfaaGreat.elS]at hi ⊢;rw[l];have:=h.ac i hi;omega
 ·simp only[Go.Proofs.YtnfdakclfmchfaaGreat.elS,List.mem_append,List.mem_singleton]at hx;rcases hx with(hx|rfl)|hx
  ·exact List.mem_cons_of_mem _ (hc x (.inl hx))
  ·simp
  ·exact List.mem_cons_of_mem _ (hc x (.inr hx))
theorem elS_open(s:SS) (sp:Int) (nm:Str) (L:List At1):(elS s sp nm L).opn=s.opn++[(s.tree.length:Int)]:=rfl
theorem qzq{i b x y:Int} (hx:x≠b) (hy:y≠b) (h:swp i b x=swp i b y):x=y:=by
 unfold swp at h;split at h<;>split at h
 ·omega
 ·exact absurd h.symm hy
 ·exact absurd h hx
 ·exact h
theorem zav{l:List Int} {i b:Int} (h:NDm l) (hb:∀x,x∈l->x≠b) (hi:i ≠ -1):NDm (l.map (swp i b)):=by unfold NDm at *;rw[List.pairwise_map];refine List.Pairwise.imp_of_mem (fun {x y} hx hy hxy e=>?_) h;have:=qzq (hb x hx) (hb y hy) e;have e1:=hxy this;subst e1;have e2:=this;unfold swp;rw[if_neg (fun h=>hi h.symm)]
theorem nd_map{l:List Int} {i b:Int} (h:l.Nodup) (hb:∀x,x∈l->x≠b):(l.map (swp i b)).Nodup:=by unfold List.Nodup at *;rw[List.pairwise_map];exact List.Pairwise.imp_of_mem (fun {x y} hx hy hxy e=>hxy (qzq (hb x hx) (hb y hy) e)) h
theorem qlr{l:List Int} {i b x:Int} (h:x∈l.map (swp i b)):(x∈l/\x≠i)\/(x=b/\i∈l):=by
 obtain⟨y,hy,rfl⟩:=List.mem_map.1 h;unfold swp;split
 next e=>exact .inr ⟨rfl,e ▸ hy⟩
 next e=>exact .inl ⟨hy,e⟩
theorem qm1{M:List Int} {i b x:Int} (h:x∈M) (hx:x≠i):x∈M.map (swp i b):=List.mem_map.2 ⟨x,h,by unfold swp;rw[if_neg hx]⟩
theorem qm2{M:List Int} {i b:Int} (h:i∈M):b∈M.map (swp i b):=List.mem_map.2 ⟨i,h,by unfold swp;rw[if_pos rfl]⟩
end
theorem qw7(o A:List Int):∀k,k<=A.length->∀j,qz5 o A k<=j->j < k->qk2 o (A.getD j 0)=true
 |0,_,j,_,h=>by omega
 |k+1,hk,j,h1,h2=>by
  unfold qz5 at h1;split at h1
  ·rename_i hl;by_cases e:j=k
   ·subst e;exact hl
   ·exact qw7 o A k (by omega) j h1 (by omega)
  ·omega
theorem qnn(s:SS):∀i,i∈qjx s->qk2 s.opn i=true:=fun i hi=>by unfold qjx at hi;obtain⟨j,hj,rfl⟩:=List.getElem_of_mem hi;rw[List.getElem_drop];simp at hj;have:=qw7 s.opn s.act s.act.length (Nat.le_refl _) (qz5 s.opn s.act s.act.length+j) (by omega) (by omega);rw[List.getD_eq_getElem?_getD,List.getElem?_eq_getElem (by omega)]at this;exact this
theorem BI.rec1{n d a c e:Nat} {s:SS} (h:BI n d a c e s) {A R:List Int} {i:Int} (hs:s.act=A++i::R) (hl:qk2 s.opn i=true):BI (n+1) d a c e (qjg s i)/\(∃A',(qjg s i).act=A'++R/\A'.length=A.length+1)/\(qjg s i).opn=s.opn++[(s.tree.length:Int)]/\(qjg s i).tree.length=s.tree.length+1:=by
 obtain⟨M,hM,hc⟩:=h.cv;simp only[qk2,Bool.and_eq_true,Bool.not_eq_true',decide_eq_false_iff_not]at hl;have hia:i∈s.act:=by rw[hs];simp
 obtain⟨i2,il⟩ : 2<=i/\i < (s.tree.length:Int):=by rcases h.ac i hia with h|h;exact absurd h hl.1;exact h
 obtain⟨at1,at2,_⟩:=h.tb.at_ (i:=i) (by omega) il;have he:=h.elS (nm:=(qa1 s.tree i).name) (L:=(qa1 s.tree i).attrs) 0 at2 at1;have l:(qjg s i).tree.length=s.tree.length+1:=qqo _ _ _;have hfr:∀x,x∈s.act->x≠(s.tree.length:Int):=fun x hx=>by have:=h.ac x hx;omega
 refine⟨⟨he.tb,he.fo,he.hd,he.rg,he.nd,fun x hx=>?_,zav h.an hfr hl.1,by simp only[qjg,List.length_map];exact h.al,he.fm,⟨M.map (swp i (s.tree.length:Int)),by simpa using hM,fun x hx=>?_⟩,he.h1⟩,⟨A.map (swp i (s.tree.length:Int))++[(s.tree.length:Int)],?_,by simp⟩,rfl,l⟩
 ·rw[l];rcases qlr hx with⟨hx,_⟩|⟨rfl,_⟩
  ·have:=h.ac x hx;omega
  ·have:=h.h1.1;omega
 ·rcases hx with hx|⟨hx,hx1⟩
  ·have hx:x∈s.opn++[(s.tree.length:Int)]:=hx;rw[List.mem_append,List.mem_singleton]at hx;rcases hx with hx|rfl
   ·exact qm1 (hc x (.inl hx)) fun e=>hl.2 (e ▸ hx)
   ·exact qm2 (hc i (.inr ⟨hia,hl.1⟩))
  ·rcases qlr hx with⟨hx,hxi⟩|⟨rfl,_⟩
   ·exact qm1 (hc x (.inr ⟨hx,hx1⟩)) hxi
   ·exact qm2 (hc i (.inr ⟨hia,hl.1⟩))
 ·simp only[qjg,hs,List.map_append,List.map_cons,List.append_assoc,List.cons_append,List.nil_append];have e1:swp i (s.tree.length:Int) i=(s.tree.length:Int):=by unfold swp;rw[if_pos rfl]
  have e2:R.map (swp i (s.tree.length:Int))=R:=by have hp:=h.an;unfold NDm at hp;rw[hs,List.pairwise_append]at hp;have hp2:=(List.pairwise_cons.1 hp.2.1).1;refine(List.map_congr_left fun x hx=>?_).trans (List.map_id R);unfold swp;rw[if_neg (fun e=>hl.1 (hp2 x hx e.symm))];rfl
  rw[e1,e2]
theorem BI.recs{d a c e:Nat}:∀(l:List Int) {n:Nat} {s:SS} (h:BI n d a c e s) {A R:List Int} (hs:s.act=A++l++R) (hl:∀i,i∈l->qk2 s.opn i=true),
  BI (n+l.length) d a c e (l.foldl qjg s)/\s.tree.length<=(l.foldl qjg s).tree.length
 |[],n,s,h,A,R,hs,hl=>⟨h,Nat.le_refl _⟩
 |i::l,n,s,h,A,R,hs,hl=>by obtain⟨h1,⟨A',h2,_⟩,h3,h4⟩:=h.rec1 (A:=A) (R:=l++R) (i:=i) (by rw[hs];simp) (hl i (by simp));have hp:=h.an;unfold NDm at hp;rw[hs,List.append_assoc,List.pairwise_append]at hp;obtain⟨k1,k2⟩:=BI.recs l h1 (A:=A') (R:=R) (by rw[h2,List.append_assoc]) (fun j hj=>by have hl2:=hl j (by simp[hj]);have hja:j∈s.act:=(by rw[hs];simp[hj]);have:=h.ac j hja;rw[h3];simp only[qk2,Bool.and_eq_true,Bool.not_eq_true',decide_eq_false_iff_not,List.mem_append,List.mem_singleton,not_or]at hl2 ⊢;exact⟨hl2.1,hl2.2,by omega⟩);refine⟨?_,by simp only[List.foldl_cons];omega⟩;rw[List.length_cons,show n+(l.length+1)=n+1+l.length by omega];exact k1
theorem zaa(s:SS):s.act=s.act.take (qz5 s.opn s.act s.act.length)++qjx s++[]:=by unfold qjx;simp
theorem BI.recon{n d a c e:Nat} {s:SS} (h:BI n d a c e s):BI (n+e) d a c e (qci s):=by
 have:=(BI.recs (qjx s) h (zaa s) (qnn s)).1;have hl:(qjx s).length<=e:=by unfold qjx;have:=h.al;simp;omega
 exact this.mono (by omega) (Nat.le_refl _) (Nat.le_refl _) (Nat.le_refl _) (Nat.le_refl _)
theorem BI.rok{n d a c e:Nat} {s:SS} (h:BI n d a c e s) (hn:n+e<=90000) (hc:c<=90000) (ha:a<=1000000):RcOk s:=by
 have hal:=h.al;have hl:(qjx s).length<=e:=by unfold qjx;simp;omega
 have key:∀j,j<=(qjx s).length->BI (n+j) d a c e (((qjx s).take j).foldl qjg s)/\s.tree.length<=(((qjx s).take j).foldl qjg s).tree.length:=fun j hj=>by have e1:=zaa s;rw[<- List.take_append_drop j (qjx s),<- List.append_assoc,List.append_assoc,List.append_nil]at e1;have:=BI.recs ((qjx s).take j) h e1 (fun i hi=>qnn s i (List.mem_of_mem_take hi));rw[List.length_take,Nat.min_eq_left hj]at this;exact this
 refine⟨by have:=h.ol;omega,by omega,fun j hj=>?_,fun j hj=>?_⟩
 ·obtain⟨k1,k2⟩:=key j hj;exact⟨k1.sok (by omega) hc,k1.fo,by have:=k1.al;omega⟩
 ·obtain⟨k1,k2⟩:=key j (by omega);have hm:(qjx s)[j]∈s.act:=by have:(qjx s)[j]∈qjx s:=List.getElem_mem hj;unfold qjx at this;exact List.mem_of_mem_drop this
  have hlo:=qnn s _ (List.getElem_mem hj);simp only[qk2,Bool.and_eq_true,Bool.not_eq_true',decide_eq_false_iff_not]at hlo;rcases h.ac _ hm with e0|⟨b1,b2⟩
  ·exact absurd e0 hlo.1
  ·exact⟨by omega,by omega,by have:=(k1.tb.at_ (i:=(qjx s)[j]) (by omega) (by omega)).1;omega⟩
structure AS where
 s:SS
 el:Int
 mr:Int
abbrev agC(x:AS):List AV:=[.ptr 0 0,.int .i64 x.el,.int .i64 x.mr]
def AR(ab:Nat) (x:AS):List (Nat × Blk):=[(ab,.cells (agC x))]
abbrev GC(T:List (Entry PG)) (g:FuncId) (args:List AV) (x:AS) (v:AV) (x':AS):Prop:=CallAt (ctx T) g (.ptr 1 0::args) ⟨3,[AR 1 x++VS 2 x.s]⟩ v ⟨4,[AR 1 x'++VS 3 x'.s]⟩
section
variable {x x':AS} {n k ab:Nat} {f fr:List (Nat × Blk)}
theorem fitAR{N k' m' ab':Nat} (hN:(k' < N->k=k')/\(ab' < N->ab=ab')/\N<=m') (d':(k'≠0/\ab'≠0)/\k'≠ab'/\k' < m'/\ab' < m') (d:(k≠0/\ab≠0)/\k≠ab)
  (hne:x.s.tree≠[]) (hf0:getF 0 f=none) (hfk:getF k f=none) (ht:getF ab f=some (.cells (agC x))) :
  FitH N [(k,k'),(0,0),(ab,ab')] [] ⟨n,[f,VS k x.s]⟩ ⟨m',[AR ab' x++VS k' x.s]⟩ where
 nd1:=by simp;omega
 nd2:=by simp;omega
 nd3:=by rw[qf4 hne];simp[Heap.ents,AR];omega
 lt:=by simp;omega
 idn:=by simp;omega
 num:=by simp;omega
 src:=by
  intro e he;rw[qf4 hne]at he;simp only[Heap.ents,AR,List.flatten_cons,List.flatten_nil,List.append_nil,List.cons_append,List.nil_append,List.mem_cons,List.not_mem_nil,or_false]at he;rcases he with rfl|rfl|rfl
  ·refine⟨ab,.cells (agC x),by simp,by simp[Heap.get,getFs,ht],?_⟩;simp only[qji,qax];have b1:¬ 0=k:=(by omega);have c1:¬ k=0:=(by omega);exact⟨by simp[qap,qav,b1,c1],qbd (by simp[qa2]),qbd (by simp[qa2]),trivial⟩
  ·refine⟨0,_,by simp,sget0 hne hf0,?_⟩;simp only[qji,qax];exact⟨by simp[qap,qav],qao (qfe x.s)⟩
  ·exact⟨k,_,by simp,sgetk (by omega) hne hfk,qao (qbw x.s.tree).pure⟩
 frz:=fun x h=>by cases h
theorem call_A{C:Ctx} {g:FuncId} {args:List AV} {v:AV} {f1 f2:List (Nat × Blk)} (h:CallAt C g (.ptr 1 0::args) ⟨3,[AR 1 x++VS 2 x.s]⟩ v ⟨4,[AR 1 x'++VS 3 x'.s]⟩) (ha:qa3 args=true) (hv:qa2 v=true) (d:dT n k ab) (hne:x.s.tree≠[]) (hne':x'.s.tree≠[]) (h1:qg9 k ab f1) (h2:qg9 k ab f2) :
  CallAt C g (.ptr ab 0::args) ⟨n,[f1++(ab,.cells (agC x))::f2,VS k x.s]⟩ v ⟨n+1,[f1++(ab,.cells (agC x'))::f2,VS n x'.s]⟩:=by
 obtain⟨k0,t0,kt,kn,tn⟩:=d;have all:∀(c:List AV) e,e∈f1++(ab,Blk.cells c)::f2->e=(ab,.cells c)\/(e.1≠0/\e.1≠k/\e.1≠ab):=fun c e he=>by
  rcases List.mem_append.1 he with he|he
  ·exact .inr (h1 e he)
  ·rcases List.mem_cons.1 he with rfl|he
   ·exact .inl rfl
   ·exact .inr (h2 e he)
 have g0:getF 0 (f1++(ab,.cells (agC x))::f2)=none:=quu fun e he=>by
  rcases all _ e he with rfl|h
  ·exact t0
  ·exact h.1
 have gk:getF k (f1++(ab,.cells (agC x))::f2)=none:=quu fun e he=>by
  rcases all _ e he with rfl|h
  ·exact kt.symm
  ·exact h.2.1
 have gt:getF ab (f1++(ab,.cells (agC x))::f2)=some (.cells (agC x)):=by
  have key:∀f1:List (Nat × Blk),qg9 k ab f1->getF ab (f1++(ab,.cells (agC x))::f2)=some (.cells (agC x)):=by
   intro f1;induction f1 with
   |nil=>intro _;simp[getF]
   |cons e r ih=>intro h;have b1:Nat.beq e.1 ab=false:=qb4 (h e (by simp)).2.2;simp only[List.cons_append,getF,b1];exact ih fun e he=>h e (by simp[he])
  exact key f1 h1
 have fh:FitH 0 [(k,2),(0,0),(ab,1)] [] ⟨n,[f1++(ab,.cells (agC x))::f2,VS k x.s]⟩ ⟨3,[AR 1 x++VS 2 x.s]⟩:=fitAR ⟨by omega,by omega,by omega⟩ (by omega) ⟨⟨k0,t0⟩,kt⟩ hne g0 gk gt;have b1:¬ 0=ab:=t0.symm;have b2:¬ k=0:=k0;have:=h.framed (H':=⟨n+1,[f1++(ab,.cells (agC x'))::f2,VS n x'.s]⟩) (args:=.ptr ab 0::args) fh (by simp only[qax];exact⟨by simp[qap,qav,b1,kt],qao ha⟩) ?_ (by simp)
 ·simpa[qg0 _ hv]using this
 ·have e0:qlg [(k,2),(0,0),(ab,1)] n 3 0=0:=by simp[qlg,qf3]
  have e1:qlg [(k,2),(0,0),(ab,1)] n 3 1=ab:=by simp[qlg,qf3]
  have e3:qlg [(k,2),(0,0),(ab,1)] n 3 3=n:=by simp[qlg,qf3]
  refine⟨by simp,?_,?_⟩
  ·intro nd lt;have es:∀c:List AV,(f1++(ab,Blk.cells c)::f2).map (fun x:Nat × Blk=>x.1)=f1.map (fun x:Nat × Blk=>x.1)++ab::f2.map (fun x:Nat × Blk=>x.1):=fun c=>(by simp);have nd1:((f1++(ab,Blk.cells (agC x))::f2).map (fun x:Nat × Blk=>x.1)).Nodup:=(List.Sublist.map (fun x:Nat × Blk=>x.1) (show List.Sublist (f1++(ab,Blk.cells (agC x))::f2) (Heap.ents ⟨n,[f1++(ab,Blk.cells (agC x))::f2,VS k x.s]⟩) from by unfold Heap.ents;simp only[List.flatten_cons];exact List.sublist_append_left _ _)).nodup nd;rw[qf4 hne'];show (((f1++(ab,Blk.cells (agC x'))::f2)++([(0,Blk.cells (nV n x'.s.tree::x'.s.post)),(n,Blk.cells (qa8 (x'.s.tree.map qag)))]++[])).map (fun x:Nat × Blk=>x.1)).Nodup;rw[List.map_append,List.nodup_append];refine⟨by rw[es,<- es (agC x)];exact nd1,by simp;omega,fun a ha b hb=>?_⟩;rw[es]at ha;have hx:∃e,e∈f1++(ab,Blk.cells (agC x))::f2/\e.1=a:=(by rw[<- es (agC x)]at ha;obtain⟨e,he,h⟩:=List.mem_map.1 ha;exact⟨e,he,h⟩);obtain⟨e,he,rfl⟩:=hx;have l1:=lt e (by simp only[Heap.ents,List.flatten_cons];exact List.mem_append_left _ he);have l2:e.1≠0:=by
    rcases all _ e he with rfl|h
    ·exact t0
    ·exact h.1
   simp only at l1;simp at hb;rcases hb with rfl|rfl<;>omega
  ·intro e he;simp only[Heap.ents,AR,List.flatten_cons,List.flatten_nil,List.append_nil]at he ⊢;rcases List.mem_append.1 he with he|he
   ·rcases List.mem_append.1 he with he|he
    ·refine .inr ⟨List.mem_append_left _ (List.mem_append_left _ he),fun y hy=>?_⟩;have:=h1 e he;simp at hy;rcases hy with rfl|rfl|rfl
     ·exact fun h=>this.2.1 h.symm
     ·exact fun h=>this.1 h.symm
     ·exact fun h=>this.2.2 h.symm
    ·rcases List.mem_cons.1 he with rfl|he
     ·refine .inl ⟨(1,.cells (agC x')),by simp,?_⟩;simp only[qz4,qln,qmv,e0,e1]
     ·refine .inr ⟨List.mem_append_left _ (List.mem_append_right _ (List.mem_cons_of_mem _ he)),fun y hy=>?_⟩;have:=h2 e he;simp at hy;rcases hy with rfl|rfl|rfl
      ·exact fun h=>this.2.1 h.symm
      ·exact fun h=>this.1 h.symm
      ·exact fun h=>this.2.2 h.symm
   ·rw[qf4 hne']at he ⊢;simp only[List.mem_cons,List.not_mem_nil,or_false]at he;rcases he with rfl|rfl
    ·refine .inl ⟨(0,.cells (nV 3 x'.s.tree::x'.s.post)),by simp,?_⟩;simp only[qz4,qln,qdb _ (qfe x'.s),qmv,e0,e3]
    ·refine .inl ⟨(3,.cells (qa8 (x'.s.tree.map qag))),by simp,?_⟩;simp only[qz4,e3,qdb _ (qbw x'.s.tree).pure]
theorem qjm{s':SS} {e m:Int} {s:SS} {v v':AV} {n:Nat} (ev:v=v') (es:s=s') (hv:qa2 v'=true) (k3:k=2\/3<=k) (hne:s'.tree≠[]) (hf0:getF 0 f=none) (hfk:getF k f=none) (ht:getF 1 f=some (.cells [.ptr 0 0,.int .i64 e,.int .i64 m])) :
  ∃σ Φ,qap σ Φ v v'/\FitH 3 σ Φ ⟨n,[f,VS k s]⟩ ⟨4,[AR 1 ⟨s',e,m⟩++VS 3 s']⟩:=by
 subst es ev;exact⟨_,[],qbd hv,fitAR (x:=⟨s,e,m⟩) (k':=3) (ab':=1) ⟨by omega,by omega,by omega⟩ (by omega) (by omega) hne hf0 hfk ht⟩
end
theorem agC_inj{x y:AS} (h:agC x=agC y):x.el=y.el/\x.mr=y.mr:=by simpa using h
section
variable {α:Type} (f:FuncId) (ss:List (List Nat)) (enc:α->List AV) (pre:α->AS->Prop) (post:α->AS->AV) (st:α->AS->AS)
structure GArg (args:List AV) (H:Heap) (z:α × AS × Nat × Nat × List (Nat × Blk) × List (Nat × Blk)):Prop where
 ar:∃rest,args=.ptr z.2.2.2.1 0::rest/\qa3 rest=true/\qbb zH ss rest=some (enc z.1)
 hp:H=⟨H.n,[z.2.2.2.2.1++(z.2.2.2.1,.cells (agC z.2.1))::z.2.2.2.2.2,VS z.2.2.1 z.2.1.s]⟩
 dj:dT H.n z.2.2.1 z.2.2.2.1
 of1:qg9 z.2.2.1 z.2.2.2.1 z.2.2.2.2.1
 of2:qg9 z.2.2.1 z.2.2.2.1 z.2.2.2.2.2
 ne:z.2.1.s.tree≠[]
 pr:pre z.1 z.2.1
open Classical in
def gG(args:List AV) (H:Heap):Option (AV × Heap):=
 if h:∃z,GArg ss enc pre args H z then some (post h.choose.1 h.choose.2.1,⟨H.n+1,[h.choose.2.2.2.2.1++(h.choose.2.2.2.1,.cells (agC (st h.choose.1 h.choose.2.1)))::h.choose.2.2.2.2.2,VS H.n (st h.choose.1 h.choose.2.1).s]⟩) else none
def mkG(h:∀a x,x.s.tree≠[]->pre a x->CallAt ⟨PG,fun _=>[],fun _=>none⟩ f (.ptr 1 0::enc a) ⟨3,[AR 1 x++VS 2 x.s]⟩ (post a x) ⟨4,[AR 1 (st a x)++VS 3 (st a x).s]⟩/\qa3 (enc a)=true/\qa2 (post a x)=true/\(st a x).s.tree≠[]):Entry PG:=
 ⟨f,gG ss enc pre post st,fun args H v H' hv=>by
  unfold gG at hv;split at hv
  next hx=>simp only[sj,Prod.mk.injEq]at hv;obtain⟨rfl,rfl⟩:=hv;have hs:=hx.choose_spec;generalize hx.choose=z at *;obtain⟨⟨rest,rfl,hp,ht⟩,hH,dj,of1,of2,ne,pr⟩:=hs;obtain⟨h1,h2,h3,h4⟩:=h z.1 z.2.1 ne pr;have hf:=qeu (H:=zH) List.nodup_nil ht;have:=(call_A h1 h2 h3 dj ne h4 of1 of2).norm1 hf;rw[<- hH]at this;exact this
  ·cases hv⟩
variable {f ss enc pre post st}
theorem qkw{h:∀a x,x.s.tree≠[]->pre a x->CallAt ⟨PG,fun _=>[],fun _=>none⟩ f (.ptr 1 0::enc a) ⟨3,[AR 1 x++VS 2 x.s]⟩ (post a x) ⟨4,[AR 1 (st a x)++VS 3 (st a x).s]⟩/\qa3 (enc a)=true/\qa2 (post a x)=true/\(st a x).s.tree≠[]}
  {T:List (Entry PG)} (hT:qa9 f T=some (mkG f ss enc pre post st h).g) (inj:∀x y,enc x=enc y->x=y) (a:α) {x:AS} (hne:x.s.tree≠[]) (hx:pre a x) {rest:List AV} (hp:qa3 rest=true) (ht:qbb zH ss rest=some (enc a))
  {n k ab:Nat} {f1 f2:List (Nat × Blk)} (d:dT n k ab) (of1:qg9 k ab f1) (of2:qg9 k ab f2):qat (ctx T) (.fn f) (.ptr ab 0::rest) ⟨n,[f1++(ab,.cells (agC x))::f2,VS k x.s]⟩=some (post a x,⟨n+1,[f1++(ab,.cells (agC (st a x)))::f2,VS n (st a x).s]⟩):=by
 rw[qfa (C:=ctx T) (g:=(mkG f ss enc pre post st h).g) hT];show gG ss enc pre post st _ _=_;unfold gG;have hex:∃y,GArg ss enc pre (.ptr ab 0::rest) ⟨n,[f1++(ab,.cells (agC x))::f2,VS k x.s]⟩ y:=⟨(a,x,k,ab,f1,f2),⟨rest,rfl,hp,ht⟩,rfl,d,of1,of2,hne,hx⟩;rw[dif_pos hex];have hs:=hex.choose_spec;generalize hex.choose=y at *;obtain⟨⟨rest',e1,_,ht'⟩,hH,_,o1,o2,ne,_⟩:=hs;obtain⟨y1,y2,y3,y4,y5,y6⟩:=y;simp only[List.cons.injEq,AV.ptr.injEq,and_true,true_and]at e1;obtain⟨e1,e2⟩:=e1;subst e1 e2;have ex:y1=a:=inj _ _ (Option.some.inj (ht'.symm.trans ht));simp only[Heap.mk.injEq,true_and,List.cons.injEq,and_true]at hH;obtain⟨hj,hv⟩:=hH;obtain⟨rfl,h2,rfl⟩:=qvh (fun e he=>(of1 e he).2.2) (fun e he=>(o1 e he).2.2) hj;have h2:=agC_inj h2;obtain⟨rfl,h5⟩:=zcz hne ne hv;subst ex;obtain⟨x1,x2,x3⟩:=x;obtain⟨y21,y22,y23⟩:=y2;simp only at h2 h5;obtain⟨rfl,rfl⟩:=h2;subst h5;rfl
end
theorem qp2{C:Ctx} {n:Nat} {r:Option Nat} {Q:Out->St->Prop} {c:Code} {ks:List Nat} {vs:List AV} {ts:List (Nat × AV)} {sz:Nat} {s:SS} {e m:Int}
  (h:WpSr C n r c ⟨ks,vs,ts,sz,⟨3,[[(1,.cells [.ptr 0 0,.int .i64 e,.int .i64 m])],VS 2 s]⟩⟩ Q):WpSr C n r c ⟨ks,vs,ts,sz,⟨3,[[],AR 1 ⟨s,e,m⟩++VS 2 s]⟩⟩ Q:=
 WpSr.perm ⟨3,[[(1,.cells [.ptr 0 0,.int .i64 e,.int .i64 m])],VS 2 s]⟩ rfl (by simp[Heap.ents,AR]) h
