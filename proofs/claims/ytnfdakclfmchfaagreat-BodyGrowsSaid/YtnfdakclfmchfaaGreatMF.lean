/- What a call leaves may be told weaker. No condition. -/
import Derived.Test.YtnfdakclfmchfaaGreatME
namespace Go.Proofs.YtnfdakclfmchfaaGreat
noncomputable section
set_option linter.unusedSimpArgs false
set_option linter.unusedVariables false
open Go Go.RowKit
theorem qkm{α:Type} {a b c:List α} {o n:Nat} (h1:a.length=o) (h2:b.length=n):qf1 o n (a++b++c)=some b:=by subst h1;subst h2;unfold qf1;rw[List.append_assoc,List.drop_left,qhe (by simp),List.take_left]
theorem qsl{α:Type}:∀{b b' c:List α},b.length=b'.length->qhi b' (b++c)=some (b'++c)
 |[],[],c,_=>rfl
 |x::b,y::b',c,h=>by simp only[qhi,List.cons_append];rw[qsl (by simpa using h)];rfl
 |[],_::_,_,h=>by simp at h
 |_::_,[],_,h=>by simp at h
theorem qef{α:Type} {b b' c:List α} (h:b.length=b'.length):∀{a:List α},qjh b' a.length (a++b++c)=some (a++b'++c)
 |[]=>by simpa[qjh]using qsl h
 |x::a=>by simp only[List.length_cons,qjh,List.cons_append];rw[qef h];rfl
theorem qbk(a b:List AV):qa8 (a++b)=qa8 a++qa8 b:=by
 induction a with
 |nil=>rfl
 |cons x r ih=>simp[qa8,ih]
theorem qlv{es:List AV} {i:Nat} (h:i < es.length):qa8 es=qa8 (es.take i)++es[i].cells++qa8 (es.drop (i+1)):=by
 have e:es=es.take i++(es[i]::es.drop (i+1)):=by rw[<- List.drop_eq_getElem_cons h,List.take_append_drop]
 conv=>lhs;rw[e]
 rw[qbk,qa8,List.append_assoc]
theorem Elems.take{sz:Nat} {es:List AV} (h:Elems sz es) (i:Nat):Elems sz (es.take i):=⟨h.sz0,fun e he=>h.all e (List.mem_of_mem_take he)⟩
theorem Elems.drop{sz:Nat} {es:List AV} (h:Elems sz es) (i:Nat):Elems sz (es.drop i):=⟨h.sz0,fun e he=>h.all e (List.mem_of_mem_drop he)⟩
theorem Elems.len{sz:Nat} {es:List AV} (h:Elems sz es):(qa8 es).length=es.length * sz:=qr8 fun e he=>(h.all e he).1
theorem Elems.pure{sz:Nat} {es:List AV} (h:Elems sz es):qa3 (qa8 es)=true:=qog fun e he=>(h.all e he).2.1
theorem Elems.size{sz:Nat} {es:List AV} (h:Elems sz es):qfl sz es=true:=qje fun e he=>(h.all e he).1
theorem Elems.append{sz:Nat} {a b:List AV} (h:Elems sz a) (k:Elems sz b):Elems sz (a++b):=⟨h.sz0,fun e he=>(List.mem_append.1 he).elim (h.all e) (k.all e)⟩
theorem sub_at{sz:Nat} {es:List AV} (h:Elems sz es) {i:Nat} (hi:i < es.length):qf1 (i * sz) sz (qa8 es)=some es[i].cells:=by rw[qlv hi];refine qkm ?_ (h.all _ (List.getElem_mem hi)).1;rw[(h.take i).len,List.length_take,Nat.min_eq_left (by omega)]
theorem lay_at{sz:Nat} {es:List AV} (h:Elems sz es) {i:Nat} (hi:i < es.length) {e:AV} (he:e.cells.length=sz):qjh e.cells (i * sz) (qa8 es)=some (qa8 (es.set i e)):=by
 rw[qlv hi];have h1:(qa8 (es.take i)).length=i * sz:=by rw[(h.take i).len,List.length_take,Nat.min_eq_left (by omega)]
 have h2:es[i].cells.length=e.cells.length:=by rw[he];exact(h.all _ (List.getElem_mem hi)).1
 rw[<- h1,qef h2,List.set_eq_take_append_cons_drop,if_pos hi,qbk,qa8,List.append_assoc]
theorem qwq{sz:Nat} {es:List AV} (h:Elems sz es) {i:Nat} (hi:i < es.length) {p q:List AV} {x v:AV} (he:es[i].cells=p++x::q):qjh [v] (i * sz+p.length) (qa8 es)=some (qa8 (es.set i (.agg (p++v::q)))):=by
 rw[qlv hi,he];have h1:(qa8 (es.take i)).length=i * sz:=by rw[(h.take i).len,List.length_take,Nat.min_eq_left (by omega)]
 have e1:qa8 (es.take i)++(p++x::q)++qa8 (es.drop (i+1))=(qa8 (es.take i)++p)++[x]++(q++qa8 (es.drop (i+1))):=by simp
 have e2:i * sz+p.length=(qa8 (es.take i)++p).length:=by simp[h1]
 rw[e1,e2,qef (by simp),List.set_eq_take_append_cons_drop,if_pos hi,qbk,qa8];simp
theorem qeh{a b:List AV}:allSingle (a++b)=(allSingle a && allSingle b):=by
 induction a with
 |nil=>simp[allSingle]
 |cons x r ih=>cases h:x.single<;>simp[allSingle,h,ih]
theorem lay_end{sz:Nat} {es:List AV} (h:Elems sz es) {i:Nat} (hi:i<=es.length) {l:List AV} (hl:l.length=(es.length - i) * sz):qjh l (i * sz) (qa8 es)=some (qa8 (es.take i)++l):=by
 have e:qa8 es=qa8 (es.take i)++qa8 (es.drop i)++[]:=by rw[List.append_nil,<- qbk,List.take_append_drop]
 have h1:(qa8 (es.take i)).length=i * sz:=by rw[(h.take i).len,List.length_take,Nat.min_eq_left hi]
 rw[e,<- h1,qef (by rw[(h.drop i).len,hl,List.length_drop]),List.append_nil]
theorem qsc{z:List AV}:∀(n:Nat),(replL z n).length=n * z.length
 |0=>by simp[replL]
 |n+1=>by simp only[replL,List.length_append,qsc n];rw[Nat.add_mul];omega
theorem qq9{sz:Nat} {es:List AV} (h:Elems sz es) {k:Nat} (hk:k<=es.length):qf1 0 (k * sz) (qa8 es)=some (qa8 (es.take k)):=by
 have e:qa8 es=[]++qa8 (es.take k)++qa8 (es.drop k):=by rw[List.nil_append,<- qbk,List.take_append_drop]
 rw[e];exact qkm rfl (by rw[(h.take k).len,List.length_take,Nat.min_eq_left hk])
theorem Elems.map{α:Type} {f:α->AV} {sz:Nat} (h0:sz≠0) (h:∀x,(f x).cells.length=sz/\qa3 (f x).cells=true/\(sz=1->(f x).cells=[f x])/\(sz≠1->∃cs,f x=.agg cs)) (l:List α):Elems sz (l.map f):=
 ⟨h0,fun e he=>by obtain⟨x,_,rfl⟩:=List.mem_map.1 he;exact h x⟩
def qcv(b sz:Nat) (es:List AV):AV:=match es with
 |[]=>.zslc
 |_::_=>.slc b 0 es.length (.rest sz)
def qd6(b:Nat) (es:List AV):List (Nat × Blk):=match es with
 |[]=>[]
 |_::_=>[(b,.cells (qa8 es))]
def qhu(H:Heap) (es:List AV):Heap:=match es with
 |[]=>H
 |_::_=>H.new (.cells (qa8 es))
theorem zan{b:Nat} {es:List AV} {f g:List (Nat × Blk)} {n:Nat} {fs:List (List (Nat × Blk))} (h:∀e,e∈f++g->e.1≠b) (h2:∀e,e∈fs.flatten->e.1≠b):Heap.drop ⟨n,(f++(qd6 b es++g))::fs⟩ b=⟨n,(f++g)::fs⟩:=by
 have miss:∀(l:List (Nat × Blk)),(∀e,e∈l->e.1≠b)->getF b l=none:=by
  intro l;induction l with
  |nil=>intro _;rfl
  |cons e r ih=>intro h;unfold getF;rw[qb4 (h e (by simp))];exact ih fun x hx=>h x (by simp[hx])
 have stay:∀(l:List (Nat × Blk)),(∀e,e∈l->e.1≠b)->killF b l=l:=by
  intro l;induction l with
  |nil=>intro _;rfl
  |cons e r ih=>intro h;unfold killF;rw[qb4 (h e (by simp))];simp only;rw[ih fun x hx=>h x (by simp[hx])]
 have stayF:∀(l:List (List (Nat × Blk))),(∀e,e∈l.flatten->e.1≠b)->qeo b l=l:=by
  intro l;induction l with
  |nil=>intro _;rfl
  |cons f r ih=>intro h;unfold qeo;rw[miss f fun e he=>h e (by simp[he])];simp only;rw[ih fun e he=>h e (by rw[List.flatten_cons];exact List.mem_append_right _ he)]
 unfold Heap.drop;simp only;congr 1;cases es with
 |nil=>simp only[qd6,List.nil_append];rw[stayF];intro e he;rw[List.flatten_cons]at he;exact(List.mem_append.1 he).elim (h e) (h2 e)
 |cons x r=>
  have hit:∀(l:List (Nat × Blk)),(∀e,e∈l->e.1≠b)->∀k,getF b (l++((b,k)::g))=some k/\killF b (l++((b,k)::g))=l++g:=by
   intro l;induction l with
   |nil=>intro _ k;simp[getF,killF]
   |cons e r ih=>intro h k;obtain⟨i1,i2⟩:=ih (fun x hx=>h x (by simp[hx])) k;simp only[List.cons_append];unfold getF killF;rw[qb4 (h e (by simp))];exact⟨i1,by simp[i2]⟩
  obtain⟨i1,i2⟩:=hit f (fun e he=>h e (List.mem_append_left _ he)) (.cells (qa8 (x::r)));simp only[qd6,List.cons_append,List.nil_append];unfold qeo;rw[i1];simp only[i2]
theorem qcm{b sz:Nat} {es:List AV} (h:es≠[]):qcv b sz es=.slc b 0 es.length (.rest sz):=by cases es<;>first|exact absurd rfl h|rfl
theorem qe9{b:Nat} {es:List AV} (h:es≠[]):qd6 b es=[(b,.cells (qa8 es))]:=by cases es<;>first|exact absurd rfl h|rfl
theorem qlp{P:Program} {H:Heap} {elem:TypeId} {b sz by_ n:Nat} {es cs:List AV} {x z:AV} (hsz:qc1 P elem=some sz) (hby:qce P elem=some by_) (hz:qbq P elem=some z) (hzl:z.cells.length=sz) (h0:sz≠0) (hb0:by_≠0)
  (hx:qc3 x=some (n+1)) (hc:qb3 H sz (n+1) x=some cs) (hcl:cs.length=(n+1) * sz) (hcs:allSingle cs=true) (he:Elems sz es) (hroom:(es.length+(n+1)) * by_<=17592186044416)
  (hb:es≠[]->H.get b=some (.cells (qa8 es))) (hd:es=[]->H.drop b=H)
  (hrow:∀cs,qpi P elem cs=.cells cs):qby P H elem (qcv b sz es) x=some (.slc H.n 0 (es.length+(n+1)) (.rest sz),(H.drop b).new (.cells (qa8 es++cs))):=by
 have c0:(Nat.beq sz 0 || !(Nat.beq z.cells.length sz && Nat.blt 0 by_))=false:=by
  have h1:Nat.beq sz 0=false:=qb4 h0;have h2:Nat.blt 0 by_=true:=by simp;omega
  rw[h1,hzl,Nat.beq_refl,h2];rfl
 have hr:qde (es.length+(n+1)) by_=true:=by unfold qde;rw[Nat.ble_eq];exact hroom
 have hcb:Nat.beq cs.length ((n+1) * sz)=true:=by rw[hcl];exact Nat.beq_refl _
 unfold qby;simp only[hsz,hby,hz,hx,Option.bind_some,c0];cases es with
 |nil=>simp only[qcv];simp only[List.length_nil,Nat.zero_add]at hr;simp only[hr,hc,Option.bind_some,hcb,hd rfl,qa8,List.nil_append,List.length_nil,Nat.zero_add,hrow]
 |cons e r=>
  have hg:=hb (by simp);have hl:(qa8 (e::r)).length=(e::r).length * sz:=he.len;simp only[qcv,hc,Option.bind_some,hr,hcs];have h1:Nat.beq sz sz=true:=Nat.beq_refl _;have hk:qbp H b=some ((e::r).length * sz):=by unfold qbp;simp only[hg,Option.bind_some,qfc,hl]
  have h2:Nat.ble (0+((e::r).length+(n+1)) * sz) ((e::r).length * sz)=false:=by rw[<- Bool.not_eq_true,Nat.ble_eq,Nat.add_mul];have:0 < (n+1) * sz:=Nat.mul_pos (by omega) (by omega);omega
  have h3:Nat.beq (0+(e::r).length * sz) ((e::r).length * sz)=true:=by rw[Nat.zero_add];exact Nat.beq_refl _
  have h4:readCells H b 0 ((e::r).length * sz)=some (qa8 (e::r)):=by unfold readCells;simp only[hg,Option.bind_some,qfc];unfold qf1;rw[List.drop_zero,<- hl,qfd]
  simp only[h1,hk,Option.bind_some,h2,h3,hcb,h4,hg,qpr]
theorem qqk{P:Program} {elem:TypeId} {b sz by_ t m:Nat} {es cs:List AV} {z:AV} {g:List (Nat × Blk)} {fs:List (List (Nat × Blk))} (hsz:qc1 P elem=some sz) (hby:qce P elem=some by_) (hz:qbq P elem=some z) (hzl:z.cells.length=sz)
  (h0:sz≠0) (hb0:by_≠0) (hcl:cs.length=sz) (hcs:allSingle cs=true) (he:Elems sz es) (hroom:(es.length+1) * by_<=17592186044416) (htb:t≠b) (hg:∀e,e∈g->e.1≠b) (hfs:∀e,e∈fs.flatten->e.1≠b) (hrow:∀cs,qpi P elem cs=.cells cs:=by intro cs;rfl) :
  qby P ⟨m,((t,.cells cs)::(qd6 b es++g))::fs⟩ elem (qcv b sz es) (.slc t 0 1 (.ex 1))=some (.slc m 0 (es.length+1) (.rest sz),⟨m+1,((m,.cells (qa8 es++cs))::(t,.cells cs)::g)::fs⟩):=by
 have hd:=zan (b:=b) (es:=es) (f:=[(t,.cells cs)]) (g:=g) (n:=m) (fs:=fs) (fun e he=>by
  rcases List.mem_append.1 he with he|he
  ·simp at he;subst he;exact htb
  ·exact hg e he) hfs
 simp only[List.cons_append,List.nil_append]at hd;have hsub:qf1 0 sz cs=some cs:=by have:=qfd cs;rw[hcl]at this;unfold qf1;rw[List.drop_zero];exact this
 have:=qlp (P:=P) (H:=⟨m,((t,.cells cs)::(qd6 b es++g))::fs⟩) (elem:=elem) (b:=b) (n:=0) (es:=es) (x:=.slc t 0 1 (.ex 1)) (cs:=cs) hsz hby hz hzl h0 hb0 rfl
  (by simp[qb3,readCells,Heap.get,getFs,getF,hsub]) (by simpa using hcl) hcs he (by simpa using hroom)
  (fun hne=>by rw[qe9 hne];simp[Heap.get,getFs,getF,qb4 htb]) (fun hes=>by subst hes;simpa[qd6]using hd) hrow
 rw[hd]at this;simpa[Heap.new,pushF]using this
theorem CallAt.new{C:Ctx} {f:FuncId} {args:List AV} {len:Nat} {cap:Cap} {cs:List AV} (h:CallAt C f args ⟨0,[]⟩ (.slc 0 0 len cap) ⟨1,[[(0,.cells cs)]]⟩) (hp:qa3 args=true) (hc:qa3 cs=true) (H:Heap) :
  CallAt C f args H (.slc H.n 0 len cap) (H.new (.cells cs)):=by
 intro ρ w xs sm hx;have up:∀{x:Value} {ρ':Place} {w':World},VR ρ' (.slc 0 0 len cap) x->Sim ρ' ⟨1,[[(0,.cells cs)]]⟩ w'->Step ρ.bare ⟨0,[]⟩ w ρ' ⟨1,[[(0,.cells cs)]]⟩ w' ->
   ∃ρ'',VR ρ'' (.slc H.n 0 len cap) x/\Sim ρ'' (H.new (.cells cs)) w'/\Step ρ H w ρ'' (H.new (.cells cs)) w':=by
  intro x ρ' w' h1 h2 h3;obtain⟨l,l1,l2,l3,l4⟩:=h2.live (0,.cells cs) (by simp[Heap.ents]);simp only at l1;have hrow:w.heap.size<=l.cb:=by
   rcases h3.rows (0,.cells cs) (by simp[Heap.ents]) l l1 with⟨e,he,_⟩|h
   ·cases he
   ·exact h
  have hkeep:∀k,k < w.heap.size->w'.heap[k]? = w.heap[k]?:=fun k hk=>h3.keeps k hk fun e he=>by cases he
  have hle:ρ.le { ρ' with at_:=fun b=>if b=H.n then some l else ρ b }:=⟨fun b m hb=>by show (if b=H.n then some l else ρ b)=some m;rw[if_neg (fun e=>by subst e;rw[sm.dom _ (Nat.le_refl _)]at hb;cases hb)];exact hb,h3.le.fz,h3.le.os,h3.le.tape,h3.le.output⟩;have hat:(({ ρ' with at_:=fun b=>if b=H.n then some l else ρ b }:Place)) H.n=some l:=if_pos rfl;have hother:∀b,b≠H.n->(({ ρ' with at_:=fun b=>if b=H.n then some l else ρ b }:Place)) b=ρ b:=fun b hb=>if_neg hb;have hid:∀e,e∈H.ents->e.1≠H.n:=fun e he=>by have:=sm.id_lt he;omega
  refine⟨{ ρ' with at_:=fun b=>if b=H.n then some l else ρ b },?_,⟨h2.base,h2.below,h2.os,h2.tape,h2.output,fun b hb=>?_,?_,fun e he=>?_,fun e e' he he' m m' hm hm' hcb=>?_⟩,
   ⟨hle,h3.size,fun k hk _=>hkeep k hk,fun e he m hm=>?_,Nat.le_succ _,fun b hb=>hother b (by omega),fun k hk=>?_⟩⟩
  ·cases h1 with
   |slcE b o len' c l' hl' hcap=>rw[l1]at hl';cases hl';exact .slcE _ _ _ c l hat hcap
   |slcR b o len' sz c l' hl' hcap hfin=>rw[l1]at hl';cases hl';exact .slcR _ _ _ _ c l hat hcap hfin
  ·have hb':H.n+1<=b:=hb;rw[hother b (by omega)];exact sm.dom b (by omega)
  ·rw[Heap.new_ents,List.map_cons,List.nodup_cons];exact⟨fun hm=>by obtain⟨e,he,hx⟩:=List.mem_map.1 hm;exact hid e he hx,sm.nodup⟩
  ·rw[Heap.new_ents]at he;rcases List.mem_cons.1 he with rfl|he
   ·refine⟨l,hat,l2,l3,l4.1,l4.2.1,fun i hi=>?_⟩;obtain⟨y,hy,hv⟩:=l4.2.2 i hi;have hbl:ρ'.bare.le { ρ' with at_:=fun b=>if b=H.n then some l else ρ b }:=⟨fun _ _ h=>(by simp[Place.bare]at h),fun _ hk=>⟨hk,rfl⟩,rfl,rfl,rfl⟩;exact⟨y,hy,(hv.pure (qec hc i hi)).mono hbl⟩
   ·obtain⟨m,g1,g2,g3,g4⟩:=sm.live e he;refine⟨m,by rw[hother _ (hid e he)];exact g1,fun hB=>?_,Nat.lt_of_lt_of_le g3 h3.size,(g4.same (hkeep _ g3)).mono hle⟩;rcases h3.cold _ hB with h|⟨e,he,_⟩|h
    ·exact g2 h
    ·cases he
    ·omega
  ·rw[Heap.new_ents]at he he';rcases List.mem_cons.1 he with rfl|he<;>rcases List.mem_cons.1 he' with rfl|he'
   ·rfl
   ·rw[hat]at hm;cases hm;rw[hother _ (hid e' he')]at hm';obtain⟨q,g1,_,g3,_⟩:=sm.live e' he';rw[hm']at g1;cases g1;omega
   ·rw[hat]at hm';cases hm';rw[hother _ (hid e he)]at hm;obtain⟨q,g1,_,g3,_⟩:=sm.live e he;rw[hm]at g1;cases g1;omega
   ·rw[hother _ (hid e he)]at hm;rw[hother _ (hid e' he')]at hm';exact sm.inj e e' he he' m m' hm hm' hcb
  ·rw[Heap.new_ents]at he;rcases List.mem_cons.1 he with rfl|he
   ·rw[hat]at hm;cases hm;exact .inr hrow
   ·rw[hother _ (hid e he)]at hm;exact .inl ⟨e,he,m,hm,rfl⟩
  ·rcases h3.cold _ hk with h|⟨e,he,_⟩|h
   ·exact .inl h
   ·cases he
   ·exact .inr (.inr h)
 rcases h ρ.bare w xs sm.bare (hx.pure hp)with⟨x,ρ',w',h0,h1,h2,h3⟩|⟨g,ys,h0,h1⟩
 ·obtain⟨ρ'',k1,k2,k3⟩:=up h1 h2 h3;exact .inl ⟨x,ρ'',w',h0,k1,k2,k3⟩
 ·refine .inr ⟨g,ys,h0,h1.mono ?_⟩;rintro e w' ⟨x,ρ',rfl,m1,m2,m3⟩;obtain⟨ρ'',k1,k2,k3⟩:=up m1 m2 m3;exact⟨x,ρ'',rfl,k1,k2,k3⟩
theorem CallAt.own{C:Ctx} {f:FuncId} {args:List AV} {sz:Nat} {es:List AV} (he:Elems sz es) (h:CallAt C f args ⟨0,[]⟩ (qcv 0 sz es) ⟨1,[qd6 0 es]⟩) (hp:qa3 args=true) (H:Heap) :
  CallAt C f args H (qcv H.n sz es) (qhu H es):=by
 cases es with
 |nil=>
  have h':CallAt C f args ⟨0,[]⟩ .zslc ⟨0,[]⟩:=by
   intro ρ w xs sm hx;have dn:∀{x:Value} {ρ':Place} {w':World},VR ρ' .zslc x->Sim ρ' ⟨1,[[]]⟩ w'->Step ρ ⟨0,[]⟩ w ρ' ⟨1,[[]]⟩ w'->∃ρ'',VR ρ'' .zslc x/\Sim ρ'' ⟨0,[]⟩ w'/\Step ρ ⟨0,[]⟩ w ρ'' ⟨0,[]⟩ w':=fun {x ρ' w'} h1 h2 h3=>(by have hd:∀b,ρ b=none:=fun b=>sm.dom b (Nat.zero_le _);refine⟨ρ'.bare,h1.pure rfl,h2.bare,⟨⟨fun b l hb=>(by rw[hd b]at hb;cases hb),h3.le.fz,h3.le.os,h3.le.tape,h3.le.output⟩,h3.size,h3.keeps,fun e he=>(by cases he),Nat.le_refl _,fun b hb=>absurd hb (Nat.not_lt_zero b),h3.cold⟩⟩);rcases h ρ w xs sm hx with⟨x,ρ',w',h0,h1,h2,h3⟩|⟨g,ys,h0,h1⟩
   ·obtain⟨ρ'',k1,k2,k3⟩:=dn h1 h2 h3;exact .inl ⟨x,ρ'',w',h0,k1,k2,k3⟩
   ·refine .inr ⟨g,ys,h0,h1.mono ?_⟩;rintro e w' ⟨x,ρ',rfl,m1,m2,m3⟩;obtain⟨ρ'',k1,k2,k3⟩:=dn m1 m2 m3;exact⟨x,ρ'',rfl,k1,k2,k3⟩
  exact h'.lift hp H
 |cons e r=>exact CallAt.new h hp he.pure H
theorem FitH.keep1{H:Heap} {b:Nat} {cs:List AV} (h:H.get b=some (.cells cs)) (hp:qa3 cs=true) {fs:List (List (Nat × Blk))} (hfs:fs.flatten=[(0,.cells cs)]):FitH 0 [(b,0)] [] H ⟨1,fs⟩ where
 nd1:=by simp
 nd2:=by simp
 nd3:=by simp[Heap.ents,hfs]
 lt:=fun x hx=>by simp at hx;subst hx;exact Nat.zero_lt_one
 idn:=fun x hx h=>absurd h (Nat.not_lt_zero _)
 num:=Nat.zero_le _
 src:=fun e he=>by have he':e∈fs.flatten:=he;rw[hfs]at he';simp at he';subst he';exact⟨b,.cells cs,by simp,h,qao hp⟩
 frz:=fun x hx=>by cases hx
theorem FitH.keep0{H:Heap} {m:Nat} {fs:List (List (Nat × Blk))} (hfs:fs.flatten=[]):FitH 0 [] [] H ⟨m,fs⟩ where
 nd1:=List.nodup_nil
 nd2:=List.nodup_nil
 nd3:=by simp[Heap.ents,hfs]
 lt:=fun x h=>by cases h
 idn:=fun x h=>by cases h
 num:=Nat.zero_le _
 src:=fun e he=>by have he':e∈fs.flatten:=he;rw[hfs]at he';cases he'
 frz:=fun x h=>by cases h
theorem FitH.same{n:Nat} {σ:List (Nat × Nat)} {H H':Heap} (hσ:∀x,x∈σ->x.1=x.2) (nd:(σ.map (·.1)).Nodup) (lt:∀x,x∈σ->x.2 < H'.n) (num:n<=H'.n) (nd3:(H'.ents.map (·.1)).Nodup)
  (src:∀e,e∈H'.ents->(e.1,e.1)∈σ/\H.get e.1=some e.2/\qji σ [] e.2 e.2):FitH n σ [] H H' where
 nd1:=by simpa using nd
 nd2:=by have:σ.map (·.2)=σ.map (·.1):=List.map_congr_left fun x hx=>(hσ x hx).symm;rw[this];exact nd
 nd3:=nd3
 lt:=lt
 idn:=fun x hx _=>hσ x hx
 num:=num
 src:=fun e he=>⟨e.1,e.2,(src e he).1,(src e he).2.1,(src e he).2.2⟩
 frz:=fun x h=>by cases h
theorem FitH.canonS{sz b:Nat} {es:List AV} {g g0:List (Nat × Blk)} (he:Elems sz es) (hs:g.Sublist g0) (h0:∀e,e∈g0->e.1 < b) (hg:∀e,e∈g->qji ((b,b)::g.map fun e=>(e.1,e.1)) [] e.2 e.2) (hn0:(g0.map (·.1)).Nodup) :
  FitH 0 ((b,b)::g.map fun e=>(e.1,e.1)) [] (qhu ⟨b,[g0]⟩ es) ⟨b+1,[qd6 b es++g]⟩:=by
 have hn:(g.map (·.1)).Nodup:=(hs.map _).nodup hn0;have hb0:b ∉ g0.map (·.1):=fun h=>by obtain⟨e,he,hx⟩:=List.mem_map.1 h;have:=h0 e he;omega
 have hb:b ∉ g.map (·.1):=fun h=>hb0 ((hs.map _).subset h);have hm:(g.map fun e=>(e.1,e.1)).map (·.1)=g.map (·.1):=by simp
 refine .same (fun x hx=>?_) ?_ (fun x hx=>?_) (Nat.zero_le _) ?_ fun e hx=>?_
 ·rcases List.mem_cons.1 hx with rfl|hx
  ·rfl
  ·obtain⟨e,_,rfl⟩:=List.mem_map.1 hx;rfl
 ·rw[List.map_cons,hm];exact List.nodup_cons.2 ⟨hb,hn⟩
 ·rcases List.mem_cons.1 hx with rfl|hx
  ·exact Nat.lt_succ_self _
  ·obtain⟨e,hm,rfl⟩:=List.mem_map.1 hx;have:=h0 e (hs.subset hm);show e.1 < b+1;omega
 ·cases es with
  |nil=>simpa[Heap.ents,qd6]using hn
  |cons x r=>simp only[Heap.ents,qd6,List.flatten_cons,List.flatten_nil,List.append_nil,List.cons_append,List.nil_append,List.map_cons];exact List.nodup_cons.2 ⟨hb,hn⟩
 ·have old:e∈g->(e.1,e.1)∈(b,b)::(g.map fun e=>(e.1,e.1))/\(qhu ⟨b,[g0]⟩ es).get e.1=some e.2/\qji ((b,b)::g.map fun e=>(e.1,e.1)) [] e.2 e.2:=fun h=>by
   refine⟨List.mem_cons_of_mem _ (List.mem_map.2 ⟨e,h,rfl⟩),?_,hg e h⟩;cases es with
   |nil=>exact qj6 (fs:=[g0]) (by simpa using hn0) (by simpa using hs.subset h)
   |cons x r=>exact qj6 (fs:=[(b,.cells (qa8 (x::r)))::g0]) (by simpa using⟨fun y hy=>hb0 (List.mem_map.2 ⟨_,hy,rfl⟩),hn0⟩) (by simp[hs.subset h])
  have hx':e∈qd6 b es++g:=by simpa[Heap.ents]using hx
  cases es with
  |nil=>exact old hx'
  |cons x r=>
   rcases List.mem_cons.1 hx' with rfl|h
   ·refine⟨List.mem_cons_self,?_,qao he.pure⟩;simp[qhu,Heap.new,pushF,Heap.get,getFs,getF]
   ·exact old h
theorem FitH.canon{sz b:Nat} {es:List AV} {g:List (Nat × Blk)} (he:Elems sz es) (hg:∀e,e∈g->e.1 < b/\qji ((b,b)::g.map fun e=>(e.1,e.1)) [] e.2 e.2) (hn:(g.map (·.1)).Nodup) :
  FitH 0 ((b,b)::g.map fun e=>(e.1,e.1)) [] (qhu ⟨b,[g]⟩ es) ⟨b+1,[qd6 b es++g]⟩:=
 .canonS he (List.Sublist.refl _) (fun e h=>(hg e h).1) (fun e h=>(hg e h).2) hn
def litV(b m sz:Nat) (es:List AV):AV:=match es with
 |[]=>.slc b 0 0 (.ex 0)
 |_::_=>.slc m 0 es.length (.rest sz)
theorem qeg{σ:List (Nat × Nat)} {Φ:List (Nat × List AV)} {b b' sz:Nat} {es:List AV} (h:qav b σ=some b'):qap σ Φ (qcv b sz es) (qcv b' sz es):=by cases es<;>simp[qcv,qap,h]
theorem qn7{H:Heap} {b sz len:Nat} {es:List AV} (he:Elems sz es) (hne:es≠[]) (hl:es.length=len) (hb:H.get b=some (.cells (qa8 es))):∃σ Φ,qap σ Φ (.slc b 0 len (.rest sz)) (qcv 0 sz es)/\FitH 0 σ Φ H ⟨1,[qd6 0 es]⟩:=by subst hl;refine⟨[(b,0)],[],?_,.keep1 hb he.pure (by simp[qe9 hne])⟩;rw[qcm hne];simp[qap,qav]
theorem qii{H:Heap} {u:AV} {sz:Nat} (h:u=.nilS\/u=.zslc\/∃b,u=.slc b 0 0 (.ex 0)):∃σ Φ,qap σ Φ u (qcv 0 sz [])/\FitH 0 σ Φ H ⟨1,[qd6 0 []]⟩:=by refine⟨[],[],?_,.keep0 (by simp[qd6])⟩;rcases h with rfl|rfl|⟨b,rfl⟩<;>simp[qcv,qap]
open Classical in
def ownG{α:Type} (ss:List (List Nat)) (enc:α->List AV) (pre:α->Prop) (sz:Nat) (els:α->List AV):List AV->Heap->Option (AV × Heap):=fun args H=>
 if h:qa3 args=true/\∃x,qbb ⟨0,[]⟩ ss args=some (enc x)/\pre x then some (qcv H.n sz (els h.2.choose),qhu H (els h.2.choose)) else none
def mkOwn{P:Program} {α:Type} (f:FuncId) (ss:List (List Nat)) (enc:α->List AV) (pre:α->Prop) (sz:Nat) (els:α->List AV) (he:∀x,Elems sz (els x))
  (h:∀x,pre x->CallAt ⟨P,fun _=>[],fun _=>none⟩ f (enc x) ⟨0,[]⟩ (qcv 0 sz (els x)) ⟨1,[qd6 0 (els x)]⟩):Entry P:=
 ⟨f,ownG ss enc pre sz els,fun args H v H' hv=>by
  unfold ownG at hv;split at hv
  next hx=>obtain⟨hp,hx2⟩:=hx;simp only[sj,Prod.mk.injEq]at hv;obtain⟨rfl,rfl⟩:=hv;have hs:=hx2.choose_spec;have hf:=qeu (H:=⟨0,[]⟩) List.nodup_nil hs.1;exact((h _ hs.2).norm hf).own (he _) hp H
  ·cases hv⟩
theorem qwi{P:Program} {keep:FuncId->List Nat} {T:List (Entry P)} {α:Type} {f:FuncId} {ss:List (List Nat)} {enc:α->List AV} {pre:α->Prop} {sz:Nat} {els:α->List AV} {he:∀x,Elems sz (els x)}
  {h:∀x,pre x->CallAt ⟨P,fun _=>[],fun _=>none⟩ f (enc x) ⟨0,[]⟩ (qcv 0 sz (els x)) ⟨1,[qd6 0 (els x)]⟩} (hT:qa9 f T=some (mkOwn f ss enc pre sz els he h).g) (inj:∀x y,enc x=enc y->x=y) (x:α) (hx:pre x)
  {args:List AV} (hp:qa3 args=true) (ht:qbb ⟨0,[]⟩ ss args=some (enc x)) (H:Heap):qat (mkC P keep T) (.fn f) args H=some (qcv H.n sz (els x),qhu H (els x)):=by
 rw[qfa (g:=(mkOwn f ss enc pre sz els he h).g) hT];show ownG ss enc pre sz els args H=_;unfold ownG;have hex:qa3 args=true/\∃y,qbb ⟨0,[]⟩ ss args=some (enc y)/\pre y:=⟨hp,x,ht,hx⟩;rw[dif_pos hex];have e:enc x=enc hex.2.choose:=Option.some.inj (ht.symm.trans hex.2.choose_spec.1);rw[<- inj _ _ e]
theorem qvq{H:Heap} {sz n:Nat} {es:List AV} (h:es.length=n):qc3 (.fslc sz es)=some n/\qb3 H sz n (.fslc sz es)=some (qa8 es):=by subst h;refine⟨rfl,?_⟩;simp only[qb3,Nat.beq_refl,List.take_length]
theorem app_lit{P:Program} {H:Heap} {elem:TypeId} {b sz by_ n:Nat} {cs:List AV} {x z:AV} (hsz:qc1 P elem=some sz) (hby:qce P elem=some by_) (hz:qbq P elem=some z) (hzl:z.cells.length=sz) (h0:sz≠0) (hb0:by_≠0)
  (hx:qc3 x=some (n+1)) (hc:qb3 H sz (n+1) x=some cs) (hcl:cs.length=(n+1) * sz) (hcs:allSingle cs=true) (hroom:(n+1) * by_<=17592186044416) (hb:H.get b=some (.cells [])) (hrow:∀cs,qpi P elem cs=.cells cs) :
  qby P H elem (.slc b 0 0 (.ex 0)) x=some (.slc H.n 0 (n+1) (.rest sz),H.new (.cells cs)):=by
 have c0:(Nat.beq sz 0 || !(Nat.beq z.cells.length sz && Nat.blt 0 by_))=false:=by
  have h1:Nat.beq sz 0=false:=qb4 h0;have h2:Nat.blt 0 by_=true:=by simp;omega
  rw[h1,hzl,Nat.beq_refl,h2];rfl
 have hr:qde (0+(n+1)) by_=true:=by unfold qde;rw[Nat.ble_eq,Nat.zero_add];exact hroom
 have hcb:Nat.beq cs.length ((n+1) * sz)=true:=by rw[hcl];exact Nat.beq_refl _
 have h2:Nat.ble (0+(n+1)) 0=false:=by rw[<- Bool.not_eq_true,Nat.ble_eq];omega
 unfold qby;simp only[hsz,hby,hz,hx,Option.bind_some,c0,hc,hr,hcs,h2,hcb,hrow];simp[readCells,hb,qf1,qe8]
theorem qro{P:Program} {elem:TypeId} {b m sz by_:Nat} {es:List AV} {z:AV} {g:List (Nat × Blk)} {fs:List (List (Nat × Blk))} (hsz:qc1 P elem=some sz) (hby:qce P elem=some by_) (hz:qbq P elem=some z) (hzl:z.cells.length=sz) (h0:sz≠0) (hb0:by_≠0)
  (he:Elems sz es) (hcs:allSingle (qa8 es)=true) (hroom:es.length * by_<=17592186044416) (hrow:∀cs,qpi P elem cs=.cells cs:=by intro cs;rfl) :
  qby P ⟨m,((b,.cells [])::g)::fs⟩ elem (.slc b 0 0 (.ex 0)) (.fslc sz es)=some (litV b m sz es,qhu ⟨m,((b,.cells [])::g)::fs⟩ es):=by
 cases es with
 |nil=>
  have c0:(Nat.beq sz 0 || !(Nat.beq z.cells.length sz && Nat.blt 0 by_))=false:=by have h1:Nat.beq sz 0=false:=qb4 h0;have h2:Nat.blt 0 by_=true:=(by simp;omega);rw[h1,hzl,Nat.beq_refl,h2];rfl
  unfold qby;simp only[hsz,hby,hz,Option.bind_some,qc3,List.length_nil,c0,qb3,Nat.beq_refl,List.take_nil,qa8];simp[qde,allSingle,writeCells,Heap.get,getFs,getF,qjh,qhi,Heap.ready,Heap.set,setFs,setF,litV,qhu]
 |cons e r=>have:=app_lit (P:=P) (H:=⟨m,((b,.cells [])::g)::fs⟩) (elem:=elem) (b:=b) (n:=r.length) (x:=.fslc sz (e::r)) (cs:=qa8 (e::r)) hsz hby hz hzl h0 hb0 (qvq (H:=⟨0,[]⟩) (es:=e::r) (n:=r.length+1) (by simp)).1 (qvq (es:=e::r) (n:=r.length+1) (by simp)).2 he.len hcs hroom (by simp[Heap.get,getFs,getF]) hrow;rw[this];rfl
theorem FitH.grown{H:Heap} {b sz:Nat} {es:List AV} (he:Elems sz es) (hne:es≠[]) (h:H.get b=some (.cells (qa8 es))):FitH 0 [(b,0)] [] H ⟨1,[qd6 0 es]⟩:=.keep1 h he.pure (by simp[qe9 hne])
section
variable {P:Program} {H:Heap} {t elem:TypeId} {b sz len i:Nat} {cs:List AV}
theorem qpd(hu:P.underlying t=some (.slice elem)) (hs:qc1 P elem=some sz) (h0:sz≠0) (hb:H.get b=some (.cells cs)) (hc:cs.length=len * sz) (hi:i < len) :
  qcs P H t (.slc b 0 len (.rest sz)) (some (.int .i64 (i:Int))) none none=some (.slc b (i * sz) (len - i) (.rest sz)):=by
 have hk:qbp H b=some (len * sz):=by unfold qbp;simp only[hb,Option.bind_some,qfc,hc]
 have h1:Nat.ble (len * sz) (i * sz)=false:=by rw[<- Bool.not_eq_true,Nat.ble_eq];have:=Nat.mul_lt_mul_of_pos_right hi (show 0 < sz by omega);omega
 unfold qcs;simp only[qr3,hu,Option.bind_some,hs,qfb,hk,Nat.beq_refl,qch,Nat.sub_zero];have h2:idx (i:Int) (Nat.succ len)=some i:=qbj (by omega);simp only[h2,Option.bind_some,h1,Nat.zero_add]
theorem qqd(hu:P.underlying t=some (.slice elem)) (hs:qc1 P elem=some sz) (h0:sz≠0) (hb:H.get b=some (.cells cs)) (hc:cs.length=len * sz) (hi:i<=len) (hl:0 < len) :
  qcs P H t (.slc b 0 len (.rest sz)) none (some (.int .i64 (i:Int))) none=some (.slc b 0 i (.rest sz)):=by
 have hk:qbp H b=some (len * sz):=by unfold qbp;simp only[hb,Option.bind_some,qfc,hc]
 have h1:Nat.ble (len * sz) (0 * sz)=false:=by rw[<- Bool.not_eq_true,Nat.ble_eq];have:=Nat.mul_pos hl (show 0 < sz by omega);omega
 have hd:len * sz / sz=len:=Nat.mul_div_cancel _ (by omega);unfold qcs;simp only[qr3,hu,Option.bind_some,hs,qfb,hk,Nat.beq_refl,qch,Nat.sub_zero,hd];have h2:idx (i:Int) (Nat.succ len)=some i:=qbj (by omega);rw[Nat.zero_mul]at h1;simp only[h2,Option.bind_some,Nat.zero_mul,h1,Nat.zero_add,Nat.sub_zero]
end
theorem CallAt.freeze{C:Ctx} {f:FuncId} {args:List AV} {v v':AV} {H1:Heap} {Φ:List (Nat × List AV)} (h:CallAt C f args ⟨0,[]⟩ v H1) (fv:qap [] Φ v v') (fh:FitH 0 [] Φ H1 ⟨0,[]⟩):CallAt C f args ⟨0,[]⟩ v' ⟨0,[]⟩:=by
 intro ρ w xs sm hx;have dn:∀{x:Value} {ρ':Place} {w':World},VR ρ' v x->Sim ρ' H1 w'->Step ρ ⟨0,[]⟩ w ρ' H1 w'->∃ρ'',VR ρ'' v' x/\Sim ρ'' ⟨0,[]⟩ w'/\Step ρ ⟨0,[]⟩ w ρ'' ⟨0,[]⟩ w':=fun {x ρ' w'} h1 h2 h3=>by
  have hd:∀b,ρ b=none:=fun b=>sm.dom b (Nat.zero_le _);refine⟨qbl 0 [] Φ ρ' w' h2.below,Fits.run (fh.fits h2) h2 _ (Nat.le_refl _) h1 fv,fh.sim h2 (Nat.zero_le _),⟨⟨fun b l hb=>(by rw[hd b]at hb;cases hb),fun k hk=>?_,?_,?_,?_⟩,h3.size,h3.keeps,fun e he=>(by cases he),Nat.le_refl _,fun b hb=>absurd hb (Nat.not_lt_zero b),fun k hk=>?_⟩⟩
  ·obtain⟨g1,g2⟩:=h3.le.fz k hk;exact⟨.inl g1,(h2.below k g1).trans g2⟩
  ·exact h2.os.trans h3.le.os
  ·exact h2.tape.trans h3.le.tape
  ·exact h2.output.trans h3.le.output
  ·rcases hk with hk|⟨b,cs,l,m1,m2,rfl⟩
   ·exact h3.cold k hk
   ·obtain⟨cs0,g1,_⟩:=fh.frz _ m1;rcases h3.rows _ (Heap.get_mem g1) l m2 with⟨e,he,_⟩|h
    ·cases he
    ·exact .inr (.inr h)
 rcases h ρ w xs sm hx with⟨x,ρ',w',h0,h1,h2,h3⟩|⟨g,ys,h0,h1⟩
 ·obtain⟨ρ'',k1,k2,k3⟩:=dn h1 h2 h3;exact .inl ⟨x,ρ'',w',h0,k1,k2,k3⟩
 ·refine .inr ⟨g,ys,h0,h1.mono ?_⟩;rintro e w' ⟨x,ρ',rfl,m1,m2,m3⟩;obtain⟨ρ'',k1,k2,k3⟩:=dn m1 m2 m3;exact⟨x,ρ'',rfl,k1,k2,k3⟩
theorem CallAt.froze{C:Ctx} {f:FuncId} {args:List AV} {sz:Nat} {es:List AV} (he:Elems sz es) (h:CallAt C f args ⟨0,[]⟩ (qcv 0 sz es) ⟨1,[qd6 0 es]⟩):CallAt C f args ⟨0,[]⟩ (.fslc sz es) ⟨0,[]⟩:=by
 cases es with
 |nil=>exact h.freeze (Φ:=[]) (by simp[qcv,qap]) FitH.empty
 |cons e r=>
  refine h.freeze (Φ:=[(0,qa8 (e::r))]) ?_ (.froze (by simp) fun x hx=>?_)
  ·simp only[qcv,qap];refine .inl ⟨qa8 (e::r),by simp[qcn],?_,trivial,he.size⟩;unfold qf1;rw[List.drop_zero,<- he.len,qfd]
  ·simp at hx;subst hx;exact⟨qa8 (e::r),by simp[qd6,Heap.get,getFs,getF],qao he.pure,he.pure⟩
theorem qha{H:Heap} {b sz len:Nat} {cap:Cap} {es fr:List AV} (he:Elems sz es) (hb:H.get b=some (.cells (qa8 es))) (hl:len<=es.length) (hf:fr=es.take len):∃σ Φ,qap σ Φ (.slc b 0 len cap) (.fslc sz fr)/\FitH 0 σ Φ H ⟨0,[]⟩:=by
 subst hf;refine⟨[],[(b,qa8 es)],?_,.froze (by simp) fun x hx=>?_⟩
 ·simp only[qap];exact .inl ⟨qa8 es,by simp[qcn],qq9 he hl,by simp;omega,(he.take len).size⟩
 ·simp only[List.mem_singleton]at hx;subst hx;exact⟨qa8 es,hb,qao he.pure,he.pure⟩
theorem zc4{H:Heap} {sz:Nat} {es:List AV} (h:es=[]):∃σ Φ,qap σ Φ .zslc (.fslc sz es)/\FitH 0 σ Φ H ⟨0,[]⟩:=⟨[],[],by subst h;simp[qap],FitH.empty⟩
section
variable {κ ν:Type} [DecidableEq κ]
def qk6(a:κ):List (κ × ν)->Option ν
 |[]=>none
 |p::r=>if p.1=a then some p.2 else qk6 a r
def qs7(a:κ) (v:ν):List (κ × ν)->List (κ × ν)
 |[]=>[(a,v)]
 |p::r=>if p.1=a then (a,v)::r else p::qs7 a v r
def qu3(a:κ):List (κ × ν)->List (κ × ν)
 |[]=>[]
 |p::r=>if p.1=a then r else p::qu3 a r
def qmp(a:κ):List (κ × ν)->Option Nat
 |[]=>none
 |p::r=>if p.1=a then some 0 else (qmp a r).map (· + 1)
structure MapT (P:Program) (t:TypeId) (ek:κ->AV) (ev:ν->AV) where
 tk:TypeId
 te:TypeId
 kd:TypeDesc
 hu:P.underlying t=some (.map tk te)
 hk:P.underlying tk=some kd
 eq:∀a b,qt2 P tk kd (ek a) (ek b)=some (decide (a=b))
 pure:∀a v,[ek a,ev v].flatMap (refs 6)=[]
def qcz(ek:κ->AV) (ev:ν->AV) (M:List (κ × ν)):List (AV × AV):=M.map fun p=>(ek p.1,ev p.2)
variable {P:Program} {t:TypeId} {ek:κ->AV} {ev:ν->AV}
theorem MapT.pos(m:MapT P t ek ev) (a:κ):∀(M:List (κ × ν)) (i:Nat),posA P m.tk m.kd (ek a) i (qcz ek ev M)=some ((qmp a M).map (i + ·))
 |[],i=>rfl
 |p::r,i=>by
  simp only[qcz,List.map_cons,posA,m.eq,Option.bind_some,qmp];by_cases h:p.1=a
  ·have h':a=p.1:=h.symm;simp[h]
  ·have h':¬ a=p.1:=fun e=>h e.symm;simp only[h',decide_false,h,if_false];have:=MapT.pos m a r (i+1);rw[qcz]at this;rw[this];cases qmp a r with
   |none=>rfl
   |some j=>simp;omega
theorem MapT.ok(m:MapT P t ek ev) (a:κ):qt1 P m.tk m.kd (ek a)=some ():=by simp[qt1,m.eq]
theorem qqz{a:κ}:∀{M:List (κ × ν)} {i:Nat},qmp a M=some i->∃h:i < M.length,M[i].1=a/\qk6 a M=some M[i].2
 |[],_,h=>by cases h
 |p::r,i,h=>by
  unfold qmp at h;unfold qk6;split at h
  next hp=>simp only[sj]at h;subst h;exact⟨by simp,hp,by simp[hp]⟩
  ·rename_i hp;cases hj:qmp a r with
   |none=>simp[hj]at h
   |some j=>simp only[hj,Option.map_some,sj]at h;subst h;obtain⟨h1,h2,h3⟩:=qqz hj;exact⟨by simpa using h1,by simpa using h2,by simp[hp,h3]⟩
theorem qt7{a:κ}:∀{M:List (κ × ν)},qmp a M=none->qk6 a M=none
 |[],_=>rfl
 |p::r,h=>by
  unfold qmp at h;unfold qk6;split at h
  ·cases h
  ·rename_i hp;cases hj:qmp a r with
   |none=>simp[hp,qt7 hj]
   |some j=>simp[hj]at h
theorem MapT.find(m:MapT P t ek ev) (a:κ) (M:List (κ × ν)):findA P m.tk m.kd (ek a) (qcz ek ev M)=some ((qk6 a M).map ev):=by
 unfold findA;rw[m.pos];simp only[Option.bind_some];cases h:qmp a M with
 |none=>simp[qt7 h]
 |some i=>
  obtain⟨h1,h2,h3⟩:=qqz h;simp only[Option.map_some,Nat.zero_add,h3];have hl:i < (qcz ek ev M).length:=by simpa[qcz]using h1
  rw[qe2 hl];simp[qcz]
theorem qvz{a:κ} {v:ν}:∀{M:List (κ × ν)} {i:Nat},qmp a M=some i->setL (ek a,ev v) (qcz ek ev M) i=some (qcz ek ev (qs7 a v M))
 |[],_,h=>by cases h
 |p::r,i,h=>by
  unfold qmp at h;unfold qs7;split at h
  next hp=>simp only[sj]at h;subst h;simp[hp,qcz,setL]
  ·rename_i hp;cases hj:qmp a r with
   |none=>simp[hj]at h
   |some j=>simp only[hj,Option.map_some,sj]at h;subst h;have:=qvz (v:=v) hj;rw[qcz]at this;simp[hp,qcz,setL,this]
theorem qvy{a:κ} {v:ν}:∀{M:List (κ × ν)},qmp a M=none->qs7 a v M=M++[(a,v)]
 |[],_=>rfl
 |p::r,h=>by
  unfold qmp at h;unfold qs7;split at h
  ·cases h
  ·rename_i hp;cases hj:qmp a r with
   |none=>simp[hp,qvy hj]
   |some j=>simp[hj]at h
theorem MapT.upd(m:MapT P t ek ev) (a:κ) (v:ν) (M:List (κ × ν)):updA P m.tk m.kd (ek a) (ev v) (qcz ek ev M)=some (qcz ek ev (qs7 a v M)):=by
 unfold updA;rw[m.pos];simp only[Option.bind_some];cases h:qmp a M with
 |none=>simp[qvy h,qcz]
 |some i=>
  obtain⟨h1,h2,_⟩:=qqz h;simp only[Option.map_some,Nat.zero_add];have hl:i < (qcz ek ev M).length:=by simpa[qcz]using h1
  rw[qe2 hl];have he:(qcz ek ev M)[i].1=ek a:=by simp[qcz,h2]
  simp only[Option.bind_some,he,decide_true];exact qvz h
theorem qxc{a:κ}:∀{M:List (κ × ν)} {i:Nat},qmp a M=some i->(qcz ek ev M).eraseIdx i=qcz ek ev (qu3 a M)
 |[],_,h=>by cases h
 |p::r,i,h=>by
  unfold qmp at h;unfold qu3;split at h
  next hp=>simp only[sj]at h;subst h;simp[hp,qcz]
  ·rename_i hp;cases hj:qmp a r with
   |none=>simp[hj]at h
   |some j=>simp only[hj,Option.map_some,sj]at h;subst h;have:=qxc hj;rw[qcz]at this;simp[hp,qcz,this]
theorem qtl{a:κ}:∀{M:List (κ × ν)},qmp a M=none->qu3 a M=M
 |[],_=>rfl
 |p::r,h=>by
  unfold qmp at h;unfold qu3;split at h
  ·cases h
  ·rename_i hp;cases hj:qmp a r with
   |none=>simp[hp,qtl hj]
   |some j=>simp[hj]at h
theorem MapT.del(m:MapT P t ek ev) (a:κ) (M:List (κ × ν)):delA P m.tk m.kd (ek a) (qcz ek ev M)=some (qcz ek ev (qu3 a M)):=by
 unfold delA;rw[m.pos];simp only[Option.bind_some];cases h:qmp a M with
 |none=>simp[qtl h]
 |some i=>simp[qxc h]
variable {H:Heap} {b:Nat} {M:List (κ × ν)}
theorem MapT.look(m:MapT P t ek ev) {z:AV} (hz:qbq P m.te=some z) (hb:H.get b=some (.map (qcz ek ev M))) (a:κ):qia P H t (.map b) (ek a) false=some (((qk6 a M).map ev).getD z):=by unfold qia;simp only[m.hu,m.hk,Option.bind_some,m.ok,hb,m.find];cases qk6 a M<;>simp[hz]
theorem MapT.update(m:MapT P t ek ev) (hb:H.get b=some (.map (qcz ek ev M))) (a:κ) (v:ν):qi9 P H t (.map b) (ek a) (ev v)=H.set b (.map (qcz ek ev (qs7 a v M))):=by
 unfold qi9;simp only[m.hu,m.hk,Option.bind_some,m.ok,hb,m.upd];have:H.ready b [ek a,ev v]=H:=by unfold Heap.ready;rw[m.pure]
 rw[this]
theorem MapT.delete(m:MapT P t ek ev) (hb:H.get b=some (.map (qcz ek ev M))) (a:κ):qm0 P H t (.map b) (ek a)=H.set b (.map (qcz ek ev (qu3 a M))):=by unfold qm0;simp only[m.hu,m.hk,Option.bind_some,m.ok,hb,m.del]
theorem MapT.len(m:MapT P t ek ev) (hb:H.get b=some (.map (qcz ek ev M))):qeq P H t (.map b)=some M.length:=by unfold qeq;simp only[m.hu,Option.bind_some,hb];simp[qcz]
theorem qr5{a c:κ} {v:ν}:∀{M:List (κ × ν)},qk6 c (qs7 a v M)=if a=c then some v else qk6 c M
 |[]=>by simp only[qs7,qk6]
 |p::r=>by
  unfold qs7;by_cases h:p.1=a
  ·simp only[h,if_true,qk6];by_cases hc:a=c
   ·simp[hc]
   ·simp[hc]
  ·simp only[h,if_false,qk6,qr5 (M:=r)];by_cases hc:a=c
   ·subst hc;simp[h]
   ·simp[hc]
theorem qr6{a c:κ}:∀{M:List (κ × ν)},(M.map (·.1)).Nodup->qk6 c (qu3 a M)=if a=c then none else qk6 c M
 |[],_=>by simp[qu3,qk6]
 |p::r,hn=>by
  rw[List.map_cons,List.nodup_cons]at hn;have hno:∀{x:κ} {l:List (κ × ν)},x ∉ l.map (·.1)->qk6 x l=none:=fun {x l}=>by
   induction l with
   |nil=>intro _;rfl
   |cons q l ih=>intro h;simp only[List.map_cons,List.mem_cons,not_or]at h;have hq:¬ q.1=x:=fun e=>h.1 e.symm;simp only[qk6,hq,if_false];exact ih h.2
  unfold qu3;by_cases h:p.1=a
  ·simp only[h,if_true,qk6];by_cases hc:a=c
   ·subst hc;simp[hno (h ▸ hn.1)]
   ·simp[hc]
  ·simp only[h,if_false,qk6,qr6 hn.2];by_cases hc:a=c
   ·subst hc;simp[h]
   ·simp[hc]
theorem mem_keys{a:κ}:∀{M:List (κ × ν)},a∈M.map (·.1)↔(qk6 a M).isSome=true
 |[]=>by simp[qk6]
 |p::r=>by
  simp only[List.map_cons,List.mem_cons,qk6,mem_keys (M:=r)];by_cases h:p.1=a
  ·simp[h]
  ·have h':¬ a=p.1:=fun e=>h e.symm;simp[h,h']
theorem za2{a:κ} {v:ν} {M:List (κ × ν)} (h:(M.map (·.1)).Nodup):((qs7 a v M).map (·.1)).Nodup:=by
 induction M with
 |nil=>simp[qs7]
 |cons p r ih=>
  rw[List.map_cons,List.nodup_cons]at h;unfold qs7;split
  next hp=>rw[List.map_cons,List.nodup_cons];exact⟨by rw[<- hp];exact h.1,h.2⟩
  ·rename_i hp;rw[List.map_cons,List.nodup_cons];refine⟨fun hm=>?_,ih h.2⟩;rw[mem_keys,qr5]at hm;split at hm
   next he=>exact hp he.symm
   ·exact h.1 (mem_keys.2 hm)
theorem zcb{a:κ} {M:List (κ × ν)} (h:(M.map (·.1)).Nodup):((qu3 a M).map (·.1)).Nodup:=by
 induction M with
 |nil=>simp[qu3]
 |cons p r ih=>
  rw[List.map_cons,List.nodup_cons]at h;unfold qu3;split
  ·exact h.2
  ·rename_i hp;rw[List.map_cons,List.nodup_cons];refine⟨fun hm=>?_,ih h.2⟩;rw[mem_keys,qr6 h.2]at hm;split at hm
   ·cases hm
   ·exact h.1 (mem_keys.2 hm)
end
def okFs(ok:TypeId->Bool) (P:Program):Nat->List Field->Option Nat
 |o,[]=>some o
 |o,f::r=>match Nat.beq f.offset o && ok f.type with
  |true=>okFs ok P (o+P.cellsOf f.type) r
  |false=>none
def qza(P:Program):Nat->TypeId->Bool
 |0,_=>false
 |Nat.succ n,t=>match P.underlying t with
  |some .bool=>Nat.beq (P.cellsOf t) 1
  |some (.int _)=>Nat.beq (P.cellsOf t) 1
  |some .string=>Nat.beq (P.cellsOf t) 1
  |some (.slice e)=>Nat.beq (P.cellsOf t) 1 && Nat.ble 1 (P.cellsOf e) && (qgc P e).isSome && qza P n e && (match qgc P e with
   |some false=>Nat.beq (P.cellsOf e) 1
   |_=>true)
  |some (.struct fs)=>match okFs (qza P n) P 0 fs.toList with
   |some k=>Nat.beq k (P.cellsOf t)
   |none=>false
  |_=>false
inductive Parts (S:TypeId->List AV->Prop):List Field->List AV->Prop
 |nil:Parts S [] []
 |cons (f:Field) (r:List Field) (a b:List AV) (h:S f.type a) (k:Parts S r b):Parts S (f::r) (a++b)
def qcu(P:Program):Nat->TypeId->List AV->Prop
 |0,_,_=>False
 |Nat.succ n,t,as=>match P.underlying t with
  |some .bool=>∃b,as=[.bool b]
  |some (.int k)=>∃i,as=[.int k i]/\(Lit.int k i).wf=true
  |some .string=>∃s:List UInt8,as=[.str s]/\s.length<=maxLen
  |some (.slice e)=>∃es,as=[.fslc (P.cellsOf e) es]/\es.length<=maxLen/\∀x,x∈es->∃ag cs,qgc P e=some ag/\qgq ag cs=some x/\qcu P n e cs
  |some (.struct fs)=>Parts (qcu P n) fs.toList as
  |_=>False
section
variable {W:World} {H:Type} {enc:TypeId × Value->H} {P:Program} {base:Nat} {sp:Nat->Bool} {held:Bool}
theorem qhz:∀{n:Nat} {t:TypeId} {as:List AV},qza P n t=true->qcu P n t as->as.length=P.cellsOf t/\allSingle as=true
 |0,_,_,h,_=>by simp[qza]at h
 |n+1,t,as,h,hs=>by
  unfold qza at h;unfold qcu at hs;split at h
  next hu=>rw[hu]at hs;obtain⟨b,rfl⟩:=hs;exact⟨(Nat.eq_of_beq_eq_true h).symm,rfl⟩
  next hu=>rw[hu]at hs;obtain⟨b,rfl,_⟩:=hs;exact⟨(Nat.eq_of_beq_eq_true h).symm,rfl⟩
  next hu=>rw[hu]at hs;obtain⟨b,rfl,_⟩:=hs;exact⟨(Nat.eq_of_beq_eq_true h).symm,rfl⟩
  next hu=>rw[hu]at hs;obtain⟨es,rfl,_⟩:=hs;simp only[Bool.and_eq_true]at h;exact⟨(Nat.eq_of_beq_eq_true h.1.1.1.1).symm,rfl⟩
  ·rename_i fs hu;rw[hu]at hs;have key:∀(l:List Field) (o:Nat) (as:List AV) (k:Nat),okFs (qza P n) P o l=some k->Parts (qcu P n) l as->o+as.length=k/\allSingle as=true:=by
    intro l;induction l with
    |nil=>intro o as k h1 h2;cases h2;simp only[okFs,sj]at h1;exact⟨by simpa using h1,rfl⟩
    |cons f r ih=>
     intro o as k h1 h2;cases h2 with
     |cons _ _ a b ha hb=>
      unfold okFs at h1;split at h1
      next hc=>simp only[Bool.and_eq_true]at hc;obtain⟨l1,l2⟩:=qhz hc.2 ha;obtain⟨m1,m2⟩:=ih _ _ _ h1 hb;exact⟨by rw[List.length_append];omega,by rw[qeh,l2,m2];rfl⟩
      ·cases h1
   split at h
   next k hk=>obtain⟨h1,h2⟩:=key _ _ _ _ hk hs;exact⟨by rw[<- Nat.eq_of_beq_eq_true h];omega,h2⟩
   ·cases h
  ·cases h
theorem qnj:∀{n:Nat} {fuel:Nat} {t:TypeId} {cs:List Value} {x:DataW H × List MemPlace},qza P n t=true->DataW.trod enc P W base sp held fuel t cs=some x->∃as,qf5 P n t x.1=some as/\qcu P n t as
 |0,_,_,_,_,h,_=>by simp[qza]at h
 |n+1,fuel,t,cs,x,h,htr=>by
  have hfu:∃m,fuel=m+1:=by
   cases fuel with
   |zero=>simp[DataW.trod]at htr
   |succ m=>exact⟨m,rfl⟩
  obtain⟨m,rfl⟩:=hfu;have h':=h;unfold qza at h;split at h
  next hu=>unfold DataW.trod at htr;rw[hu]at htr;split at htr<;>simp_all;obtain⟨rfl⟩:=htr;exact⟨_,by simp[qf5,hu,litA];rfl,by simp[qcu,hu]⟩
  next k hu=>unfold DataW.trod at htr;rw[hu]at htr;split at htr<;>simp_all;obtain⟨⟨rfl,hw⟩,rfl⟩:=htr;exact⟨_,by simp[qf5,hu,litA];rfl,by simp[qcu,hu,hw]⟩
  next hu=>unfold DataW.trod at htr;rw[hu]at htr;split at htr<;>simp_all;obtain⟨hw,rfl⟩:=htr;refine⟨_,by simp[qf5,hu,litA];rfl,?_⟩;simp only[qcu,hu];refine⟨_,rfl,?_⟩;have e:∀s:ByteArray,s.data.toList.length=s.size:=fun s=>(by rw[Array.length_toList];rfl);rw[e];exact hw
  ·rename_i e hu;simp only[Bool.and_eq_true]at h;obtain⟨⟨⟨⟨_,h1⟩,h2⟩,h3⟩,h4⟩:=h;obtain⟨ag,hag⟩:=Option.isSome_iff_exists.1 h2;rw[hag]at h4;rcases DataW.trod_slice hu htr with⟨rfl,rfl⟩|⟨a,len,cap,elems,rest,m',hm,rfl,rfl,hb,hl,hc,hlen,hel,_⟩
   ·refine⟨_,by simp only[qf5,hu,Option.bind_some];rfl,?_⟩;simp only[qcu,hu];exact⟨[],rfl,Nat.zero_le _,fun x hx=>by cases hx⟩
   ·-- each element
    have each:∀y,y∈elems->∃as a,qf5 P n e y.1=some as/\qcu P n e as/\qgq ag as=some a:=by
     intro y hy;obtain⟨i,hi,rfl⟩:=List.getElem_of_mem hy;have hi':=hel i (by omega);rw[List.getElem?_eq_getElem hi]at hi';obtain⟨ci,_,hti⟩:=obs hi';obtain⟨as,q1,q2⟩:=qnj h3 hti;obtain⟨l1,l2⟩:=qhz h3 q2;refine⟨as,?_⟩;cases ag with
     |true=>exact⟨_,q1,q2,rfl⟩
     |false=>
      have h5:=Nat.eq_of_beq_eq_true h4;rw[h5]at l1
      match as,l1,l2 with
      |[a],_,l2=>
       refine⟨a,q1,q2,?_⟩;have hs:a.single=true:=by
        cases hx:a.single with
        |true=>rfl
        |false=>simp[allSingle,hx]at l2
       simp only[qgq,hs]
    have all:∀l:List (DataW H × List MemPlace),(∀y,y∈l->∃as a,qf5 P n e y.1=some as/\qcu P n e as/\qgq ag as=some a) ->
      ∃es,qpn (fun d=>(qf5 P n e d).bind (qgq ag)) (l.map (·.1))=some es/\es.length=l.length/\∀x,x∈es->∃ag cs,qgc P e=some ag/\qgq ag cs=some x/\qcu P n e cs:=by
     intro l;induction l with
     |nil=>intro _;exact⟨[],rfl,rfl,fun x hx=>by cases hx⟩
     |cons y r ih=>
      intro hy;obtain⟨as,a,q1,q2,q3⟩:=hy y (by simp);obtain⟨es,r1,r2,r3⟩:=ih fun z hz=>hy z (by simp[hz]);refine⟨a::es,by simp[qpn,q1,q3,r1],by simp[r2],fun x hx=>?_⟩;rcases List.mem_cons.1 hx with rfl|hx
      ·exact⟨ag,as,hag,q3,q2⟩
      ·exact r3 x hx
    obtain⟨es,r1,r2,r3⟩:=all elems each;have hlenes:es.length<=maxLen:=(by omega);cases elems with
    |nil=>refine⟨_,by simp only[qf5,hu,Option.bind_some,List.map_nil];rfl,?_⟩;simp only[qcu,hu];exact⟨[],rfl,Nat.zero_le _,fun x hx=>by cases hx⟩
    |cons y r=>
     have hsz:qfl (P.cellsOf e) es=true:=qje fun x hx=>(by obtain⟨ag',cs',k1,k2,k3⟩:=r3 x hx;rw[qnc k2];exact(qhz h3 k3).1);refine⟨[.fslc (P.cellsOf e) es],?_,?_⟩
     ·simp only[qf5,hu,Option.bind_some,List.map_cons,hag];simp only[List.map_cons]at r1;simp only[r1,Option.bind_some,hsz,h1]
     ·simp only[qcu,hu];exact⟨es,rfl,hlenes,r3⟩
  ·rename_i fs hu;unfold DataW.trod at htr;rw[hu]at htr;have hst:(if cs.length=P.cellsOf t then (fs.toList.mapM fun f=>DataW.trod enc P W base sp held m f.type ((cs.drop f.offset).take (P.cellsOf f.type))).map fun xs=>(DataW.agg (xs.map (·.1)),xs.flatMap (·.2)) else none)=some x:=(by split at htr<;>simp_all);split at hst
   ·obtain⟨xs,hxs,rfl⟩:=Option.map_eq_some_iff.1 hst;have key:∀(l:List Field) (o k:Nat) (xs:List (DataW H × List MemPlace)),okFs (qza P n) P o l=some k->l.mapM (fun f=>DataW.trod enc P W base sp held m f.type ((cs.drop f.offset).take (P.cellsOf f.type)))=some xs ->
      ∃as,qns (qf5 P n) P o l (xs.map (·.1))=some as/\Parts (qcu P n) l as/\o+as.length=k:=by
     intro l;induction l with
     |nil=>intro o k xs h1 h2;simp at h2;subst h2;simp only[okFs,sj]at h1;exact⟨[],rfl,.nil,by simpa using h1⟩
     |cons f r ih=>
      intro o k xs h1 h2;rw[List.mapM_cons]at h2;obtain⟨y,hy,h2⟩:=obs h2;obtain⟨ys,hys,h2⟩:=obs h2;obtain rfl:y::ys=xs:=(by simpa using h2);unfold okFs at h1;split at h1
      next hc=>simp only[Bool.and_eq_true]at hc;obtain⟨as,q1,q2⟩:=qnj hc.2 hy;obtain⟨bs,r1,r2,r3⟩:=ih _ _ _ h1 hys;obtain⟨l1,_⟩:=qhz hc.2 q2;have hb:Nat.beq as.length (P.cellsOf f.type)=true:=(by rw[l1];exact Nat.beq_refl _);refine⟨as++bs,?_,.cons f r as bs q2 r2,by rw[List.length_append];omega⟩;simp only[List.map_cons,qns,hc.1,q1,Option.bind_some,hb,r1]
      ·cases h1
    split at h
    next k hk=>obtain⟨as,q1,q2,q3⟩:=key _ _ _ _ hk hxs;have hb:Nat.beq as.length (P.cellsOf t)=true:=(by rw[<- Nat.eq_of_beq_eq_true h,<- q3,Nat.zero_add];exact Nat.beq_refl _);refine⟨as,?_,by simp only[qcu,hu];exact q2⟩;simp only[qf5,hu,Option.bind_some,q1,hb]
    ·cases h
   ·cases hst
  ·cases h
end
open Classical in
def qrf(C:Ctx) (call:qc5) (ops:Array Oper) (H0:Heap):List Oper->St->Option St
 |[],s=>some s
 |o::r,s=>(qdt C call ops o s).bind fun s1=>if s1.H=H0 then qrf C call ops H0 r s1 else none
def qgl:List Oper->Bool
 |[]=>true
 |o::r=>match qb9 o.op with
  |.allocs=>false
  |_=>qgl r
section
variable {C:Ctx} {call:qc5} {ops:Array Oper} {H0:Heap}
theorem qti{s:St}:qrf C call ops H0 [] s=some s:=rfl
open Classical in
theorem qpu{o:Oper} {r:List Oper} {s:St}:qrf C call ops H0 (o::r) s=(qdt C call ops o s).bind fun s1=>if s1.H=H0 then qrf C call ops H0 r s1 else none:=rfl
open Classical in
def thenK(C:Ctx) (call:qc5) (ops:Array Oper) (H0:Heap):Option St->List Oper->Option St
 |some s,l=>if s.H=H0 then qrf C call ops H0 l s else none
 |none,_=>none
theorem evalK_c{o:Oper} {r:List Oper} {s:St}:qrf C call ops H0 (o::r) s=thenK C call ops H0 (qdt C call ops o s) r:=by rw[qpu];cases qdt C call ops o s<;>rfl
theorem qxo{s:St} {l:List Oper} (h:s.H=H0):thenK C call ops H0 (some s) l=qrf C call ops H0 l s:=by simp only[thenK,h,if_true]
structure InvK (C:Ctx) (call:qc5) (H0:Heap) (d:DrawSt) (s:St):Prop where
 s_:d.s=s
 H_:s.H=H0
 ps:d.ps=[]
 hs:∀h,h∈d.hs->h.2=H0
 rs:∀x,x∈d.rs->∃y,qae C call x.o { x.s with H:=H0 }=some y/\y.1=x.v
theorem step_K{bef:Array Nat} {base i:Nat} {o:Oper} {s s1:St} {d:DrawSt} (hn:qb9 o.op≠.allocs) (h:qdt C call ops o s=some s1) (hH:s1.H=H0) (k:InvK C call H0 d s):∃d',qhf C call ops bef base i o d=some d'/\InvK C call H0 d' s1:=by
 obtain⟨ds,ps,hs,rs⟩:=d;obtain⟨rfl,k2,rfl,k4,k5⟩:=k;simp only at k2 k4 k5 h;obtain⟨g,hg,h⟩:=obs h;unfold qhf;simp only[hg,Option.bind_some];cases g with
 |false=>
  simp only at h ⊢;rw[h];simp only[Option.bind_some,qbg,qb7,Heap.lay];cases hc:qb9 o.op with
  |acts=>exact⟨_,rfl,rfl,hH,rfl,fun x hx=>by
    rcases List.mem_cons.1 hx with rfl|hx
    ·exact hH
    ·exact k4 x hx,k5⟩
  |pure=>exact⟨_,rfl,rfl,hH,rfl,k4,k5⟩
  |reads=>exact⟨_,rfl,rfl,hH,rfl,k4,k5⟩
  |allocs=>exact absurd hc hn
 |true=>
  simp only at h ⊢;obtain⟨⟨v,Hv⟩,hv,hp⟩:=obs h;simp only at hp;cases hc:qb9 o.op with
  |acts=>
   simp only[qbg,qb7,Heap.lay];have e:qae C call o (ds.wH ds.H)=some (v,Hv):=hv;have hp':St.put (ds.wH Hv) o.dst v=some s1:=hp;simp only[e,Option.bind_some,hp'];exact⟨_,rfl,rfl,hH,rfl,fun x hx=>by
    rcases List.mem_cons.1 hx with rfl|hx
    ·exact hH
    ·exact k4 x hx,k5⟩
  |pure=>obtain⟨e,_⟩:=qgp hc hv;subst e;have hp':ds.put o.dst v=some s1:=hp;simp only[hv,Option.bind_some,hp'];exact⟨_,rfl,rfl,hH,rfl,k4,k5⟩
  |reads=>
   have e:=qft hc hv;subst e;have hp':ds.put o.dst v=some s1:=hp;simp only[hv,Option.bind_some,hp'];refine⟨_,rfl,rfl,hH,rfl,k4,fun x hx=>?_⟩;rcases List.mem_cons.1 hx with rfl|hx
   ·simp only;rw[<- k2];exact⟨_,hv,rfl⟩
   ·exact k5 x hx
  |allocs=>exact absurd hc hn
theorem zc1{bef:Array Nat} {base:Nat}:∀{l:List Oper} {i:Nat} {s s':St} {d:DrawSt},qgl l=true->qrf C call ops H0 l s=some s'->InvK C call H0 d s->∃d',qly C call ops bef base i l d=some d'/\InvK C call H0 d' s'
 |[],i,s,s',d,_,h,k=>by rw[qti,sj]at h;subst h;exact⟨d,rfl,k⟩
 |o::r,i,s,s',d,hn,h,k=>by
  have hno:qb9 o.op≠.allocs/\qgl r=true:=by unfold qgl at hn;cases hc:qb9 o.op<;>simp[hc]at hn ⊢<;>exact hn
  rw[qpu]at h;obtain⟨s1,h1,h2⟩:=obs h;split at h2
  next hH=>obtain⟨d1,q1,q2⟩:=step_K (bef:=bef) (base:=base) (i:=i) hno.1 h1 hH k;obtain⟨d2,r1,r2⟩:=zc1 (bef:=bef) (base:=base) (i:=i+1) hno.2 h2 q2;exact⟨d2,by simp only[qly,q1,Option.bind_some];exact r1,r2⟩
  ·cases h2
theorem zbr:∀{l:List Oper} {s:St},qgl l=true->qar l s=s
 |[],s,_=>rfl
 |o::r,s,hn=>by
  have hno:qb9 o.op≠.allocs/\qgl r=true:=by unfold qgl at hn;cases hc:qb9 o.op<;>simp[hc]at hn ⊢<;>exact hn
  have:qbn s o=s:=by unfold qbn;cases hop:o.op<;>first|rfl|(exfalso;exact hno.1 (by rw[hop];rfl))
  simp only[qar,this];exact zbr hno.2
theorem za6{bef:Array Nat} {x:Rec} (hx:∃y,qae C call x.o { x.s with H:=H0 }=some y/\y.1=x.v):∀{hs:List (Nat × Heap)},(∀h,h∈hs->h.2=H0)->qcq C call bef x H0 hs=true
 |[],_=>by obtain⟨y,h1,h2⟩:=hx;simp only[qcq,qeb,h1,h2,decide_true]
 |h::r,hh=>by
  obtain⟨y,h1,h2⟩:=hx;have e:=hh h (by simp);have ih:=za6 (bef:=bef) ⟨y,h1,h2⟩ (hs:=r) fun z hz=>hh z (by simp[hz]);have hs:qeb C call x h.2=true:=by rw[e];simp only[qeb,h1,h2,decide_true]
  unfold qcq;rw[hs,ih];cases ahead bef x.i h.1<;>cases ahead bef h.1 x.i<;>rfl
theorem za5{bef:Array Nat} {hs:List (Nat × Heap)} (hh:∀h,h∈hs->h.2=H0):∀{rs:List Rec},(∀x,x∈rs->∃y,qae C call x.o { x.s with H:=H0 }=some y/\y.1=x.v)->qcp C call bef H0 hs rs=true
 |[],_=>rfl
 |x::r,h=>by unfold qcp;rw[za6 (h x (by simp)) hh];exact za5 hh fun y hy=>h y (by simp[hy])
theorem qzf{n:Nat} {s:St} {Q:Out->St->Prop} {id:Nat} (hm:C.P.follows .mixedOrders=true) (hC:CallOK C call) (hd:qpz ops=true) (hn:qgl ops.toList=true)
  (h:∃s',qrf C call ops ⟨s.H.n+ops.size,s.H.fs⟩ ops.toList { s with ts:=[],H:=⟨s.H.n+ops.size,s.H.fs⟩ }=some s'/\Q .normal s'):WpS C n (.region id ops true) s Q:=by
 obtain⟨s',h1,h2⟩:=h;refine qdh hm hC hd fun B hB=>?_;have hr:qc7 (qar ops.toList { s with ts:=[] }) ops.size={ s with ts:=[],H:=⟨s.H.n+ops.size,s.H.fs⟩ }:=by rw[zbr hn];rfl
 rw[hr];obtain⟨d,q1,q2⟩:=zc1 (bef:=B) (base:=s.H.n) (i:=0) (d:=⟨{ s with ts:=[],H:=⟨s.H.n+ops.size,s.H.fs⟩ },[],[],[]⟩) hn h1 ⟨rfl,rfl,rfl,fun h hh=>(by cases hh),fun x hx=>(by cases hx)⟩;refine⟨d,q1,za5 q2.hs q2.rs,?_⟩;rw[q2.ps,q2.s_];exact h2
end
theorem zb5 {C : Ctx} {f : FuncId} {fn : Func} {body : Code} {args : Array Value} {as : List AV} {W : World} {hg : GlobsIn W} (hf : C.P.funcs[f]? = some fn) (hname : (fn.name == "runtime.NumGoroutine") = false) (hb : fn.body = some body)
  (h:CallAt C f as ⟨0,[]⟩ (.bool true) ⟨0,[]⟩) (hx:VRs (start W hg) as args.toList):Calls C.P f args W fun e w'=>e=.returned (.bool true)/\Below W.heap.size W w':=by
 have hname' : ¬ fn.name = "runtime.NumGoroutine" := fun e => by rw [e] at hname; simp at hname
 have hrun:(callFunc f args).run C.P W=.ok (.enter f args) W:=by simp[callFunc,hf,hname',hb]
 rcases h (start W hg) W args.toList (qzz W hg) hx with⟨x,ρ',w',h0,_⟩|⟨g,ys,h0,h1⟩
 ·rw[Array.toArray_toList,hrun]at h0;cases h0
 ·rw[Array.toArray_toList,hrun]at h0;cases h0;refine(h1.calls fun k=>room_wide k).mono ?_;rintro e w' ⟨x,ρ',rfl,k1,k2,k3⟩;have hx':x=.bool true:=by cases k1;rfl
  subst hx';exact⟨rfl,Step.grown k2 k3⟩
section
variable {H:Type} {enc:TypeId × Value->H} {P:Program} {W:World} {hg:GlobsIn W}
theorem zcw{n:Nat} {r:Reach} {b0 base:Nat} {sp:Nat->Bool} {held:Bool} {t:TypeId} {v:Value} {d:DataW H} {ps:List MemPlace} (hok:qza P n t=true) {ag:Bool} (hag:qgc P t=some ag) (ha:ag=false->P.cellsOf t=1)
  (ht:DataW.Trod enc P W base sp held t v d ps) (hv:Value.okWide P W r b0 t v):∃as a,qcu P n t as/\qgq ag as=some a/\VR (start W hg) a v:=by
 have ht':=ht;obtain⟨fuel,hf⟩:=ht;obtain⟨as,h1,h2⟩:=qnj hok hf;obtain⟨l1,l2⟩:=qhz hok h2;have hw:∃a,qgq ag as=some a:=by
  cases ag with
  |true=>exact⟨_,rfl⟩
  |false=>
   rw[ha rfl]at l1
   match as,l1,l2 with
   |[a],_,l2=>
    have hs:a.single=true:=by
     cases hx:a.single with
     |true=>rfl
     |false=>simp[allSingle,hx]at l2
    exact⟨a,by simp only[qgq,hs]⟩
 obtain⟨a,hw⟩:=hw;have harg:argA P n t d=some a:=by unfold argA;simp only[hag,Option.bind_some,h1];exact hw
 exact⟨as,a,h2,hw,argA_run ht' hv harg⟩
end
mutual
def qmv(τ:Nat->Nat):AV->AV
 |.ptr b o=>.ptr (τ b) o
 |.slc b o len cap=>.slc (τ b) o len cap
 |.map b=>.map (τ b)
 |.yld b=>.yld (τ b)
 |.zptr b o=>.zptr (τ b) o
 |.func fn a c=>.func fn (qln τ a) (qln τ c)
 |.iface t v=>.iface t (qmv τ v)
 |.agg cs=>.agg (qln τ cs)
 |.tup cs=>.tup (qln τ cs)
 |v=>v
def qln(τ:Nat->Nat):List AV->List AV
 |[]=>[]
 |v::r=>qmv τ v::qln τ r
end
theorem qcb(τ:Nat->Nat):∀(l:List AV),(qln τ l).length=l.length
 |[]=>rfl
 |v::r=>by simp[qln,qcb τ r]
theorem qj3(τ:Nat->Nat):∀(l:List AV) (i:Nat) (h:i < (qln τ l).length) (h':i < l.length),(qln τ l)[i]=qmv τ l[i]
 |[],i,h,_=>absurd h (Nat.not_lt_zero i)
 |v::r,0,_,_=>rfl
 |v::r,i+1,h,h'=>by simpa[qln]using qj3 τ r i (by simpa[qln]using h) (by simpa using h')
mutual
theorem qg0(τ:Nat->Nat):∀{v:AV},qa2 v=true->qmv τ v=v
 |.func fn a c,h=>by simp only[qa2,Bool.and_eq_true]at h;simp only[qmv,qdb τ h.1,qdb τ h.2]
 |.iface t v,h=>by simp only[qmv,qg0 τ (show qa2 v=true from h)]
 |.agg cs,h=>by simp only[qmv,qdb τ (show qa3 cs=true from h)]
 |.tup cs,h=>by simp only[qmv,qdb τ (show qa3 cs=true from h)]
 |.ptr _ _,h=>by simp[qa2]at h
 |.slc _ _ _ _,h=>by simp[qa2]at h
 |.map _,h=>by simp[qa2]at h
 |.yld _,h=>by simp[qa2]at h
 |.zptr _ _,h=>by simp[qa2]at h
 |.undef,_=>rfl
 |.bool _,_=>rfl
 |.int _ _,_=>rfl
 |.float _ _,_=>rfl
 |.cplx _ _ _,_=>rfl
 |.str _,_=>rfl
 |.nilP,_=>rfl
 |.fptr _ _,_=>rfl
 |.nilS,_=>rfl
 |.eslc,_=>rfl
 |.zslc,_=>rfl
 |.fslc _ _,_=>rfl
 |.xslc _ _,_=>rfl
 |.nilM,_=>rfl
 |.nilF,_=>rfl
 |.nilI,_=>rfl
 |.val _,_=>rfl
theorem qdb(τ:Nat->Nat):∀{l:List AV},qa3 l=true->qln τ l=l
 |[],_=>rfl
 |v::r,h=>by simp only[qa3,Bool.and_eq_true]at h;simp only[qln,qg0 τ h.1,qdb τ h.2]
end
theorem VR.ren{τ:Nat->Nat} {ρ ρ':Place} {v:AV} {x:Value} (r:VR ρ v x):(∀b l,ρ b=some l->ρ' (τ b)=some l)->ρ'.bare=ρ.bare->VR ρ' (qmv τ v) x:=by
 induction r generalizing ρ' with
 |undef x=>exact fun _ _=>.undef x
 |bool b=>exact fun _ _=>.bool b
 |int k n=>exact fun _ _=>.int k n
 |float k n=>exact fun _ _=>.float k n
 |cplx k a b=>exact fun _ _=>.cplx k a b
 |str s=>exact fun _ _=>.str s
 |nilP=>exact fun _ _=>.nilP
 |ptr b o l e=>exact fun h _=>.ptr _ o l (h b l e)
 |fptr cs o cb off vs hB hc hv ih=>intro _ hb;have hW:=congrArg Place.W hb;have hBB:=congrArg Place.B hb;simp only[Place.bare]at hW hBB;exact .fptr cs o cb off vs (by rw[hBB];exact hB) (fun i hi=>by rw[hW];exact hc i hi) fun i hi=>by rw[hb];exact hv i hi
 |nilS=>exact fun _ _=>.nilS
 |eslc a c=>exact fun _ _=>.eslc a c
 |zslcN=>exact fun _ _=>.zslcN
 |zslcE a=>exact fun _ _=>.zslcE a
 |slcE b o len c l e hc=>exact fun h _=>.slcE _ o len c l (h b l e) hc
 |slcR b o len sz c l e hc hf=>exact fun h _=>.slcR _ o len sz c l (h b l e) hc hf
 |fslc sz es cb off cap vs hB hcap hz hc hv ih=>intro _ hb;have hW:=congrArg Place.W hb;have hBB:=congrArg Place.B hb;simp only[Place.bare]at hW hBB;exact .fslc sz es cb off cap vs (by rw[hBB];exact hB) hcap hz (fun i hi j hj=>by rw[hW];exact hc i hi j hj) fun i hi j hj=>by rw[hb];exact hv i hi j hj
 |xslc sz es cb off vs hB hz hc hv ih=>intro _ hb;have hW:=congrArg Place.W hb;have hBB:=congrArg Place.B hb;simp only[Place.bare]at hW hBB;exact .xslc sz es cb off vs (by rw[hBB];exact hB) hz (fun i hi j hj=>by rw[hW];exact hc i hi j hj) fun i hi j hj=>by rw[hb];exact hv i hi j hj
 |fnil sz=>exact fun _ _=>.fnil sz
 |fnone sz a c=>exact fun _ _=>.fnone sz a c
 |nilM=>exact fun _ _=>.nilM
 |map b l e=>exact fun h _=>.map _ l (h b l e)
 |nilF=>exact fun _ _=>.nilF
 |func fn a c a' c' ha hc hav hcv iha ihc=>
  intro h hb;exact .func fn _ _ a' c' (by rw[qcb];exact ha) (by rw[qcb];exact hc)
   (fun i h1 h2=>by rw[qj3 τ a i h1 (by rw[<- qcb τ];exact h1)];exact iha i _ h2 h hb)
   (fun i h1 h2=>by rw[qj3 τ c i h1 (by rw[<- qcb τ];exact h1)];exact ihc i _ h2 h hb)
 |nilI=>exact fun _ _=>.nilI
 |iface t v x _ ih=>exact fun h hb=>.iface t _ x (ih h hb)
 |agg cs vs hl hv ih=>exact fun h hb=>.agg _ vs (by rw[qcb];exact hl) fun i h1 h2=>by rw[qj3 τ cs i h1 (by rw[<- qcb τ];exact h1)];exact ih i _ h2 h hb
 |tup cs vs hl hv ih=>exact fun h hb=>.tup _ vs (by rw[qcb];exact hl) fun i h1 h2=>by rw[qj3 τ cs i h1 (by rw[<- qcb τ];exact h1)];exact ih i _ h2 h hb
 |yld b l e=>exact fun h _=>.yld _ l (h b l e)
 |zptrN b o=>exact fun _ _=>.zptrN _ o
 |zptrP b o l e=>exact fun h _=>.zptrP _ o l (h b l e)
 |val v e=>exact fun _ _=>.val v e
def renT(τ:Nat->Nat):List (Nat × AV)->List (Nat × AV)
 |[]=>[]
 |x::r=>(x.1,qmv τ x.2)::renT τ r
def renM(τ:Nat->Nat):List (AV × AV)->List (AV × AV)
 |[]=>[]
 |x::r=>(qmv τ x.1,qmv τ x.2)::renM τ r
def qz4(τ:Nat->Nat):Blk->Blk
 |.cells cs=>.cells (qln τ cs)
 |.map es=>.map (renM τ es)
 |.obj t cs=>.obj t (qln τ cs)
 |.buf t fz cs=>.buf t fz (qln τ cs)
 |.iter s p=>.iter s p
 |.rng l c=>.rng l c
 |.loop st pend ks vs ts sz ps a b=>.loop st pend ks (qln τ vs) (renT τ ts) sz ps a b
theorem qjw(τ:Nat->Nat):∀(l:List (AV × AV)),(renM τ l).length=l.length
 |[]=>rfl
 |v::r=>by simp[renM,qjw τ r]
theorem qw6(τ:Nat->Nat):∀(l:List (AV × AV)) (i:Nat) (h:i < (renM τ l).length) (h':i < l.length),(renM τ l)[i]=(qmv τ l[i].1,qmv τ l[i].2)
 |[],i,h,_=>absurd h (Nat.not_lt_zero i)
 |v::r,0,_,_=>rfl
 |v::r,i+1,h,h'=>by simpa[renM]using qw6 τ r i (by simpa[renM]using h) (by simpa using h')
theorem qwl(τ:Nat->Nat) {t:Nat}:∀{ts:List (Nat × AV)} {v:AV},look t (renT τ ts)=some v->∃u,look t ts=some u/\v=qmv τ u
 |[],v,h=>by simp[renT,qma]at h
 |x::r,v,h=>by
  unfold renT at h;rw[qgm]at h;rw[qgm];split at h
  next hb=>simp only[sj]at h;exact⟨x.2,by simp[hb],h.symm⟩
  next hb=>obtain⟨u,h1,h2⟩:=qwl τ h;exact⟨u,by simp[hb,h1],h2⟩
theorem qsx(τ:Nat->Nat) {t:Nat}:∀{ks:List Nat} {vs:List AV},qfi t ks (qln τ vs)=(qfi t ks vs).map (qmv τ)
 |[],vs=>by simp[qdk,qic]
 |k::ks,[]=>by simp[qln,qdk]
 |k::ks,v::r=>by
  unfold qln;rw[qdk,qdk];simp only;split
  ·rfl
  ·exact qsx τ
theorem BlkR.ren{τ:Nat->Nat} {ρ ρ':Place} {w:World} {l:Loc} {k:Blk} (r:BlkR ρ w l k) (h:∀b l,ρ b=some l->ρ' (τ b)=some l) (hb:ρ'.bare=ρ.bare):BlkR ρ' w l (qz4 τ k):=by
 have cells:∀{cs:List AV},(∀i (h:i < cs.length),∃x,w.cell? ⟨l.cb,l.off+i,none⟩=some x/\VR ρ cs[i] x)->∀i (h:i < (qln τ cs).length),∃x,w.cell? ⟨l.cb,l.off+i,none⟩=some x/\VR ρ' (qln τ cs)[i] x:=fun {cs} hv i hi=>by
  have hi':i < cs.length:=by rw[<- qcb τ];exact hi
  obtain⟨x,hx,hxv⟩:=hv i hi';exact⟨x,hx,by rw[qj3 τ cs i hi hi'];exact hxv.ren h hb⟩
 cases k with
 |cells cs=>exact⟨by rw[qcb];exact r.1,r.2.1,cells r.2.2⟩
 |map es=>
  obtain⟨ents,clock,h1,h2,h3,h4⟩:=r;refine⟨ents,clock,h1,by rw[qjw];exact h2,fun i a b=>?_,h4⟩;have ha:i < es.length:=by rw[<- qjw τ];exact a
  rw[qw6 τ es i a ha];exact⟨(h3 i ha b).1.ren h hb,(h3 i ha b).2.ren h hb⟩
 |obj t cs=>exact⟨⟨by rw[qcb];exact r.1.1,r.1.2.1,cells r.1.2.2⟩,r.2.1,by rw[qcb];exact r.2.2⟩
 |buf t fz cs=>exact⟨⟨by rw[qcb];exact r.1.1,r.1.2.1,cells r.1.2.2⟩,r.2.1,by rw[qcb];exact r.2.2.1,r.2.2.2⟩
 |iter s p=>exact r
 |rng l c=>obtain⟨h0,q,h1,h2,h3,h4,h5⟩:=r;have hW:=congrArg Place.W hb;have hBB:=congrArg Place.B hb;simp only[Place.bare]at hW hBB;exact⟨h0,q,by rw[hBB];exact h1,by rw[hW];exact h2,h3,h4,by rw[hb];exact h5⟩
 |loop st pend ks vs ts sz ps a b=>
  obtain⟨q,h1,h2,h3,h4,h5,h6,h7,h8⟩:=r;refine⟨q,h1,h2,h3,h4,h5,h6,h7,fun t v hv=>?_⟩;rw[qsx]at hv;cases hk:qfi t ks vs with
  |some u=>simp only[hk,Option.map_some,sj]at hv;subst hv;exact(h8 t u (by simp[hk])).ren h hb
  |none=>simp only[hk,Option.map_none]at hv;obtain⟨u,g1,g2⟩:=qwl τ hv;subst g2;exact(h8 t u (by simp[hk,g1])).ren h hb
def qlg(σ:List (Nat × Nat)) (N m:Nat) (b:Nat):Nat:=match qf3 b σ with
 |some x=>x
 |none=>N+(b - m)
structure OutH (σ:List (Nat × Nat)) (H Hs Hs' H':Heap):Prop where
 num:H'.n=H.n+(Hs'.n - Hs.n)
 nodup:(H.ents.map (·.1)).Nodup->(∀e,e∈H.ents->e.1 < H.n)->(H'.ents.map (·.1)).Nodup
 src:∀e,e∈H'.ents->(∃e',e'∈Hs'.ents/\e=(qlg σ H.n Hs.n e'.1,qz4 (qlg σ H.n Hs.n) e'.2))\/(e∈H.ents/\∀x,x∈σ->x.1≠e.1)
theorem CallAt.framed{C:Ctx} {f:FuncId} {args args':List AV} {v':AV} {H Hs Hs' H':Heap} {σ:List (Nat × Nat)} (h:CallAt C f args' Hs v' Hs') (fh:FitH 0 σ [] H Hs) (hf:qax σ [] args args') (out:OutH σ H Hs Hs' H') (hmn:Hs.n<=Hs'.n) :
  CallAt C f args H (qmv (qlg σ H.n Hs.n) v') H':=by
 intro ρ w xs sm hx;obtain⟨ρs,hρs⟩ : ∃ρs,ρs=qbl 0 σ [] ρ w sm.below:=⟨_,rfl⟩;have sms:Sim ρs Hs w:=by rw[hρs];exact fh.sim sm (Nat.zero_le _)
 have hxs:VRs ρs args' xs:=by obtain⟨k1,k2⟩:=qco hf;rw[hρs];refine⟨by rw[hx.1,k1],fun i h1 h2=>?_⟩;exact Fits.run (fh.fits sm) sm _ (Nat.le_refl _) (hx.2 i (by omega) h2) (k2 i (by omega) h1)
 have hB:∀k,ρs.B k->ρ.B k:=fun k hk=>by
  rw[hρs]at hk;rcases hk with hk|⟨b,cs,l,h1,_⟩
  ·exact hk
  ·cases h1
 have hB':∀k,ρ.B k->ρs.B k:=fun k hk=>by rw[hρs];exact .inl hk
 have hat:∀b,ρs b=(qf3 b σ).bind ρ.at_:=fun b=>by subst hρs;simp only[qbl,Nat.not_lt_zero,if_false]
 have hsW:ρs.W=w:=by rw[hρs];rfl
 have hrowS:∀e,e∈Hs.ents->∀l,ρs e.1=some l->∃e0,e0∈H.ents/\ρ e0.1=some l/\(e0.1,e.1)∈σ:=fun e he l hl=>by obtain⟨b,k,h1,h2,_⟩:=fh.src e he;rw[hρs,qdy fh h1]at hl;exact⟨(b,k),Heap.get_mem h2,hl,h1⟩
 have up:∀{x:Value} {ρ1:Place} {w':World},VR ρ1 v' x->Sim ρ1 Hs' w'->Step ρs Hs w ρ1 Hs' w'->∃ρ',VR ρ' (qmv (qlg σ H.n Hs.n) v') x/\Sim ρ' H' w'/\Step ρ H w ρ' H' w':=by
  intro x ρ1 w' hv s1 t1;obtain⟨ρ',hρ'⟩ : ∃ρ':Place,ρ'={ ρ1 with at_:=fun b=>if b < H.n then ρ b else if b < H.n+(Hs'.n - Hs.n) then ρ1 (b - H.n+Hs.n) else none }:=⟨_,rfl⟩;have hlow:∀b,b < H.n->ρ' b=ρ b:=fun b hb=>by rw[hρ'];show (if b < H.n then ρ b else _)=_;rw[if_pos hb]
  have hW':ρ'.W=ρ1.W:=by rw[hρ']
  have hB1:ρ'.B=ρ1.B:=by rw[hρ']
  have hbare:ρ'.bare=ρ1.bare:=by rw[hρ'];rfl
  have key:∀b l,ρ1 b=some l->ρ' (qlg σ H.n Hs.n b)=some l:=fun b l hl=>by
   have hbn:b < Hs'.n:=by
    rcases Nat.lt_or_ge b Hs'.n with hh|hh
    ·exact hh
    ·rw[s1.dom b hh]at hl;cases hl
   rcases Nat.lt_or_ge b Hs.n with hh|hh
   ·rw[t1.low b hh,hat]at hl;obtain⟨y,hy,hyl⟩:=obs hl;unfold qlg;rw[hy];have hyn:y < H.n:=by
     rcases Nat.lt_or_ge y H.n with hq|hq
     ·exact hq
     ·rw[sm.dom y hq]at hyl;cases hyl
    rw[hlow y hyn];exact hyl
   ·have hno:qf3 b σ=none:=by
     cases hq:qf3 b σ with
     |none=>rfl
     |some y=>have:=fh.lt _ (qo0 hq);simp only at this;omega
    unfold qlg;rw[hno,hρ'];show (if H.n+(b - Hs.n) < H.n then _ else if H.n+(b - Hs.n) < H.n+(Hs'.n - Hs.n) then ρ1 (H.n+(b - Hs.n) - H.n+Hs.n) else none)=_;rw[if_neg (by omega),if_pos (by omega),show H.n+(b - Hs.n) - H.n+Hs.n=b by omega];exact hl
  have hle:ρ.le ρ':=by
   refine⟨fun b l hl=>?_,fun k hk=>?_,?_,?_,?_⟩
   ·have hbn:b < H.n:=by
     rcases Nat.lt_or_ge b H.n with hq|hq
     ·exact hq
     ·rw[sm.dom b hq]at hl;cases hl
    rw[hlow b hbn];exact hl
   ·obtain⟨g1,g2⟩:=t1.le.fz k (hB' k hk);refine⟨by rw[hB1];exact g1,?_⟩;rw[hW',g2,hsW];exact sm.below k hk
   ·rw[hW',t1.le.os,hsW];exact sm.os
   ·rw[hW',t1.le.tape,hsW];exact sm.tape
   ·rw[hW',t1.le.output,hsW];exact sm.output
  have other:∀e,e∈H.ents->(∀y,y∈σ->y.1≠e.1)->∀l,ρ e.1=some l->∀e',e'∈Hs.ents->∀l',ρs e'.1=some l'->l'.cb≠l.cb:=fun e he hn l hl e' he' l' hl' hcb=>by obtain⟨e0,h1,h2,h3⟩:=hrowS e' he' l' hl';have:=sm.inj _ _ h1 he l' l h2 hl hcb;exact hn _ h3 this
  refine⟨ρ',hv.ren key hbare,⟨?_,?_,?_,?_,?_,?_,?_,?_,?_⟩,⟨hle,t1.size,?_,?_,?_,?_,?_⟩⟩
  ·rw[hB1];exact s1.base
  ·rw[hB1,hW'];exact s1.below
  ·rw[hW'];exact s1.os
  ·rw[hW'];exact s1.tape
  ·rw[hW'];exact s1.output
  ·intro b hb;rw[out.num]at hb;rw[hρ'];show (if b < H.n then ρ b else if b < H.n+(Hs'.n - Hs.n) then _ else none)=none;rw[if_neg (by omega),if_neg (by omega)]
  ·exact out.nodup sm.nodup fun e he=>sm.id_lt he
  ·intro e he;rcases out.src e he with⟨e',he',rfl⟩|⟨he',hn⟩
   ·obtain⟨l,g1,g2,g3,g4⟩:=s1.live e' he';exact⟨l,key _ l g1,by rw[hB1];exact g2,g3,g4.ren key hbare⟩
   ·obtain⟨l,g1,g2,g3,g4⟩:=sm.live e he';refine⟨l,hle.at_ _ _ g1,fun hB2=>?_,Nat.lt_of_lt_of_le g3 t1.size,(g4.same (t1.keeps _ g3 fun e2 he2 l2 hl2=>other e he' hn l g1 e2 he2 l2 hl2)).mono hle⟩;rw[hB1]at hB2;rcases t1.cold _ hB2 with hh|⟨e2,he2,l2,hl2,hcb⟩|hh
    ·exact g2 (hB _ hh)
    ·exact other e he' hn l g1 e2 he2 l2 hl2 hcb
    ·omega
  ·intro e e2 he he2 l l2 hl hl2 hcb;have side:∀a,a∈Hs'.ents->∀la,ρ' (qlg σ H.n Hs.n a.1)=some la->ρ1 a.1=some la:=fun a ha la hla=>(by obtain⟨l0,g1,_⟩:=s1.live a ha;rw[key _ l0 g1]at hla;cases hla;exact g1);have mixed:∀a,a∈Hs'.ents->∀q,q∈H.ents->(∀y,y∈σ->y.1≠q.1)->∀la lq,ρ1 a.1=some la->ρ q.1=some lq->la.cb≠lq.cb:=fun a ha q hq hn la lq hla hlq hc=>by
    rcases t1.rows a ha la hla with⟨e0,he0,l0,hl0,hc0⟩|hge
    ·exact other q hq hn lq hlq e0 he0 l0 hl0 (hc0.trans hc)
    ·obtain⟨l3,g1,_,g3,_⟩:=sm.live q hq;rw[hlq]at g1;cases g1;omega
   rcases out.src e he with⟨a,ha,rfl⟩|⟨ha,hn⟩<;>rcases out.src e2 he2 with⟨a2,ha2,rfl⟩|⟨ha2,hn2⟩
   ·have:=s1.inj a a2 ha ha2 l l2 (side a ha l hl) (side a2 ha2 l2 hl2) hcb;simp only[this]
   ·have hq:ρ e2.1=some l2:=(by rw[<- hlow _ (sm.id_lt ha2)];exact hl2);exact absurd hcb (mixed a ha e2 ha2 hn2 l l2 (side a ha l hl) hq)
   ·have hq:ρ e.1=some l:=(by rw[<- hlow _ (sm.id_lt ha)];exact hl);exact absurd hcb.symm (mixed a2 ha2 e ha hn l2 l (side a2 ha2 l2 hl2) hq)
   ·have hq:ρ e.1=some l:=(by rw[<- hlow _ (sm.id_lt ha)];exact hl);have hq2:ρ e2.1=some l2:=(by rw[<- hlow _ (sm.id_lt ha2)];exact hl2);exact sm.inj e e2 ha ha2 l l2 hq hq2 hcb
  ·intro k hk hn;refine t1.keeps k hk fun e he l hl=>?_;obtain⟨e0,h1,h2,_⟩:=hrowS e he l hl;exact hn e0 h1 l h2
  ·intro e he l hl;rcases out.src e he with⟨a,ha,rfl⟩|⟨ha,hn⟩
   ·obtain⟨l0,g1,_⟩:=s1.live a ha;have e1:=key _ l0 g1;simp only at hl;rw[e1]at hl;cases hl;rcases t1.rows a ha _ g1 with⟨e0,he0,l1,hl1,hc0⟩|hge
    ·obtain⟨e3,h1,h2,_⟩:=hrowS e0 he0 l1 hl1;exact .inl ⟨e3,h1,l1,h2,hc0⟩
    ·exact .inr hge
   ·have hq:ρ e.1=some l:=(by rw[<- hlow _ (sm.id_lt ha)];exact hl);exact .inl ⟨e,ha,l,hq,rfl⟩
  ·rw[out.num];omega
  ·exact hlow
  ·intro k hk;rw[hB1]at hk;rcases t1.cold k hk with hh|⟨e,he,l,hl,hlk⟩|hh
   ·exact .inl (hB _ hh)
   ·obtain⟨e0,h1,h2,_⟩:=hrowS e he l hl;exact .inr (.inl ⟨e0,h1,l,h2,hlk⟩)
   ·exact .inr (.inr hh)
 rcases h ρs w xs sms hxs with⟨x,ρ1,w',h0,h1,h2,h3⟩|⟨g,ys,h0,h1⟩
 ·obtain⟨ρ',k1,k2,k3⟩:=up h1 h2 h3;exact .inl ⟨x,ρ',w',h0,k1,k2,k3⟩
 ·refine .inr ⟨g,ys,h0,h1.mono ?_⟩;rintro e w' ⟨x,ρ1,rfl,m1,m2,m3⟩;obtain⟨ρ',k1,k2,k3⟩:=up m1 m2 m3;exact⟨x,ρ',rfl,k1,k2,k3⟩
def shrB(k k':Blk):Prop:=k=k'\/∃cs G,k=.cells (cs++G)/\k'=.cells cs
def shrL:List (Nat × Blk)->List (Nat × Blk)->Prop
 |[],[]=>True
 |e::r,e'::r'=>e.1=e'.1/\shrB e.2 e'.2/\shrL r r'
 |_,_=>False
theorem qs6:∀(l:List (Nat × Blk)),shrL l l
 |[]=>trivial
 |e::r=>⟨rfl,.inl rfl,qs6 r⟩
theorem qvw:∀{l l':List (Nat × Blk)},shrL l l'->l'.map (·.1)=l.map (·.1)
 |[],[],_=>rfl
 |e::r,e'::r',h=>by simp[h.1,qvw h.2.2]
 |[],_::_,h=>h.elim
 |_::_,[],h=>h.elim
theorem qkn:∀{l l':List (Nat × Blk)} {e':Nat × Blk},shrL l l'->e'∈l'->∃e,e∈l/\e.1=e'.1/\shrB e.2 e'.2
 |e::r,e1::r',e',h,he=>by
  rcases List.mem_cons.1 he with rfl|he
  ·exact⟨e,by simp,h.1,h.2.1⟩
  ·obtain⟨x,h1,h2⟩:=qkn h.2.2 he;exact⟨x,by simp[h1],h2⟩
 |[],[],_,_,he=>by cases he
 |[],_::_,_,h,_=>h.elim
 |_::_,[],_,h,_=>h.elim
structure Shr (H H':Heap):Prop where
 n:H'.n=H.n
 l:shrL H.ents H'.ents
theorem BlkR.shr{ρ:Place} {w:World} {l:Loc} {k k':Blk} (r:BlkR ρ w l k) (h:shrB k k'):BlkR ρ w l k':=by
 rcases h with rfl|⟨cs,G,rfl,rfl⟩
 ·exact r
 ·refine⟨by have:=r.1;simp at this;omega,r.2.1,fun i hi=>?_⟩;have h2:=r.2.2 i (by simp;omega)
  rwa [List.getElem_append_left hi]at h2
theorem Sim.shr{ρ:Place} {H H':Heap} {w:World} (s:Sim ρ H w) (h:Shr H H'):Sim ρ H' w where
 base:=s.base
 below:=s.below
 os:=s.os
 tape:=s.tape
 output:=s.output
 dom:=fun b hb=>s.dom b (by rw[<- h.n];exact hb)
 nodup:=by rw[qvw h.l];exact s.nodup
 live:=fun e' he'=>by obtain⟨e,he,h1,h2⟩:=qkn h.l he';obtain⟨l,hl,hb,hlt,hr⟩:=s.live e he;exact⟨l,by rw[<- h1];exact hl,hb,hlt,hr.shr h2⟩
 inj:=fun e1 e2 h1 h2 l1 l2 k1 k2 hcb=>by obtain⟨a1,ha1,b1,_⟩:=qkn h.l h1;obtain⟨a2,ha2,b2,_⟩:=qkn h.l h2;rw[<- b1,<- b2];exact s.inj a1 a2 ha1 ha2 l1 l2 (by rw[b1];exact k1) (by rw[b2];exact k2) hcb
theorem Step.shr{ρ:Place} {H H':Heap} {w:World} (s:Sim ρ H w) (h:Shr H H'):Step ρ H w ρ H' w where
 le:=Place.le_refl ρ
 size:=Nat.le_refl _
 keeps:=fun _ _ _=>rfl
 rows:=fun e' he' l' hl'=>by obtain⟨e,he,h1,_⟩:=qkn h.l he';exact .inl ⟨e,he,l',by rw[h1];exact hl',rfl⟩
 num:=Nat.le_of_eq h.n.symm
 low:=fun _ _=>rfl
 cold:=fun _ h=>.inl h
theorem At.shr{b:Base} {s:St} {a:Act} {w:World} {H':Heap} (h:At b s a w) (k:Shr s.H H'):At b (s.wH H') a w:=by obtain⟨ρ,h1,h2,h3,h4⟩:=h;obtain⟨ks,vs,ts,sz,H⟩:=s;exact⟨ρ,h1.step (Step.shr h2 k),h2.shr k,⟨h3.1,h3.2⟩,h4.step (Step.shr h2 k)⟩
theorem WpSr.shr{C:Ctx} {n:Nat} {r:Option Nat} {c:Code} {s:St} {Q:Out->St->Prop} {H':Heap} (k:Shr s.H H') (h:WpSr C n r c (s.wH H') Q):WpSr C n r c s Q:=
 fun b a w hb ha K hK=>h b a w hb (ha.shr k) K hK
def FitS(n:Nat) (σ:List (Nat × Nat)) (Φ:List (Nat × List AV)) (s s':St):Prop:=∃H',Shr s.H H'/\Fit n σ Φ (s.wH H') s'
theorem At.fitS{b:Base} {s s':St} {a:Act} {w:World} {σ:List (Nat × Nat)} {Φ:List (Nat × List AV)} (h:At b s a w) (f:FitS b.n σ Φ s s'):At b s' a w:=by obtain⟨H',h1,h2⟩:=f;exact(h.shr h1).fit h2
theorem Fit.s{n:Nat} {σ:List (Nat × Nat)} {Φ:List (Nat × List AV)} {s s':St} (h:Fit n σ Φ s s'):FitS n σ Φ s s':=by obtain⟨ks,vs,ts,sz,H⟩:=s;exact⟨H,⟨rfl,qs6 _⟩,h⟩
theorem WpSr.fitS{C:Ctx} {n:Nat} {r:Option Nat} {c:Code} {s s':St} {Q:Out->St->Prop} (σ:List (Nat × Nat)) (Φ:List (Nat × List AV)) (f:FitS n σ Φ s s') (h:WpSr C n r c s' Q):WpSr C n r c s Q:=
 fun b a w hb ha K hK=>h b a w hb (ha.fitS (hb ▸ f)) K hK
section
variable {σ:List (Nat × Nat)} {Φ:List (Nat × List AV)} {ρ:Place} {H H1:Heap} {w:World}
theorem FitH.step(f:FitH H.n σ Φ H H1) (sm:Sim ρ H w):Step ρ H w (qbl H.n σ Φ ρ w sm.below) H1 w where
 le:=⟨fun b l hb=>by
  have hlt:b < H.n:=by
   rcases Nat.lt_or_ge b H.n with h|h
   ·exact h
   ·rw[sm.dom b h]at hb;cases hb
  show (if b < H.n then ρ b else _)=_;rw[if_pos hlt];exact hb,fun k hk=>⟨.inl hk,sm.below k hk⟩,sm.os,sm.tape,sm.output⟩
 size:=Nat.le_refl _
 keeps:=fun _ _ _=>rfl
 rows:=fun e he l hl=>by obtain⟨c,k,h1,h2,_⟩:=f.src e he;rw[qdy f h1]at hl;exact .inl ⟨_,Heap.get_mem h2,l,hl,rfl⟩
 num:=f.num
 low:=fun b hb=>by show (if b < H.n then ρ b else _)=_;rw[if_pos hb]
 cold:=fun k hk=>by
  rcases hk with hk|⟨c,cs,l,h1,h2,rfl⟩
  ·exact .inl hk
  ·obtain⟨cs0,g1,_⟩:=f.frz _ h1;exact .inr (.inl ⟨_,Heap.get_mem g1,l,h2,rfl⟩)
theorem CallAt.drop{C:Ctx} {f:FuncId} {args args':List AV} {v:AV} {H':Heap} (h:CallAt C f args' H1 v H') (fh:(H.ents.map (·.1)).Nodup->FitH H.n σ Φ H H1) (hf:qax σ Φ args args'):CallAt C f args H v H':=by
 intro ρ w xs sm hx;have f:=fh sm.nodup;have hx':VRs (qbl H.n σ Φ ρ w sm.below) args' xs:=by obtain⟨k1,k2⟩:=qco hf;refine⟨by rw[hx.1,k1],fun i h1 h2=>?_⟩;exact Fits.run (f.fits sm) sm _ (Nat.le_refl _) (hx.2 i (by omega) h2) (k2 i (by omega) h1)
 have st:=f.step sm;rcases h _ w xs (f.sim sm (Nat.le_refl _)) hx' with⟨x,ρ',w',h0,h1,h2,h3⟩|⟨g,ys,h0,h1⟩
 ·exact .inl ⟨x,ρ',w',h0,h1,h2,st.trans h3⟩
 ·refine .inr ⟨g,ys,h0,h1.mono ?_⟩;rintro e w' ⟨x,ρ',rfl,m1,m2,m3⟩;exact⟨x,ρ',rfl,m1,m2,st.trans m3⟩
end
structure RgA where
 C:Ctx
 call:qc5
 ops:Array Oper
 bef:Array Nat
 base:Nat
 H0:Heap
open Classical in
section
variable {A:RgA} {i:Nat} {o:Oper} {r:List Oper} {s s':St} {ps:List Pend} {v:AV} {H:Heap}
open Classical in
end
structure RgE where
 C:Ctx
 call:qc5
 ops:Array Oper
 bef:Array Nat
 base:Nat
def evE(A:RgE) (i:Nat) (l:List Oper) (s:St) (ps:List Pend) (hs:List (Nat × Heap)) (rs:List Rec):Option DrawSt:=qly A.C A.call A.ops A.bef A.base i l ⟨s,ps,hs,rs⟩
section
variable {A:RgE} {i:Nat} {o:Oper} {r:List Oper} {s s':St} {ps:List Pend} {hs:List (Nat × Heap)} {rs:List Rec} {v:AV} {H:Heap}
def putE(A:RgE) (i:Nat) (r:List Oper) (ps:List Pend) (hs:List (Nat × Heap)) (rs:List Rec):Option St->Option DrawSt
 |none=>none
 |some s'=>evE A (i+1) r s' ps hs rs
def putX(A:RgE) (i:Nat) (r:List Oper) (ps:List Pend) (hs:List (Nat × Heap)) (rs:List Rec):Option St->Option DrawSt
 |none=>none
 |some s'=>evE A (i+1) r s' ps ((i,s'.H)::hs) rs
def valE(A:RgE) (i:Nat) (o:Oper) (r:List Oper) (s:St) (ps:List Pend) (hs:List (Nat × Heap)) (rs:List Rec):Option (AV × Heap)->Option DrawSt
 |none=>none
 |some v=>putE A i r ps hs rs (s.put o.dst v.1)
def redE(A:RgE) (i:Nat) (o:Oper) (r:List Oper) (s:St) (ps:List Pend) (hs:List (Nat × Heap)) (rs:List Rec):Option (AV × Heap)->Option DrawSt
 |none=>none
 |some v=>putE A i r ps hs (⟨i,o,s,v.1⟩::rs) (s.put o.dst v.1)
def actE(A:RgE) (i:Nat) (o:Oper) (r:List Oper) (s:St) (ps:List Pend) (hs:List (Nat × Heap)) (rs:List Rec):Option (AV × Heap)->Option DrawSt
 |none=>none
 |some v=>putX A i r (qb7 A.bef i ps) hs rs (St.put (s.wH v.2) o.dst v.1)
def layE(A:RgE) (i:Nat) (o:Oper) (r:List Oper) (s:St) (ps:List Pend) (hs:List (Nat × Heap)) (rs:List Rec):Option ((Nat->AV) × Blk)->Option DrawSt
 |none=>none
 |some k=>putE A i r (⟨i,A.base+i,k.2⟩::ps) hs rs (s.put o.dst (k.1 (A.base+i)))
def clsE(A:RgE) (i:Nat) (o:Oper) (r:List Oper) (s:St) (ps:List Pend) (hs:List (Nat × Heap)) (rs:List Rec):Cls->Option DrawSt
 |.allocs=>layE A i o r s ps hs rs (qbt A.C o s)
 |.acts=>actE A i o r s ps hs rs (qae A.C A.call o (s.wH (s.H.lay (qbg A.bef i ps))))
 |.reads=>redE A i o r s ps hs rs (qae A.C A.call o s)
 |.pure=>valE A i o r s ps hs rs (qae A.C A.call o s)
def clsF(A:RgE) (i:Nat) (o:Oper) (r:List Oper) (ps:List Pend) (hs:List (Nat × Heap)) (rs:List Rec):Cls->Option St->Option DrawSt
 |_,none=>none
 |.acts,some s'=>evE A (i+1) r (s'.wH (s'.H.lay (qbg A.bef i ps))) (qb7 A.bef i ps) ((i,s'.H.lay (qbg A.bef i ps))::hs) rs
 |.allocs,some s'=>evE A (i+1) r s' ps hs rs
 |.reads,some s'=>evE A (i+1) r s' ps hs rs
 |.pure,some s'=>evE A (i+1) r s' ps hs rs
def qyk(A:RgE) (i:Nat) (o:Oper) (r:List Oper) (s:St) (ps:List Pend) (hs:List (Nat × Heap)) (rs:List Rec):Option Bool->Option DrawSt
 |none=>none
 |some false=>clsF A i o r ps hs rs (qb9 o.op) (s.put o.dst (.tup []))
 |some true=>clsE A i o r s ps hs rs (qb9 o.op)
theorem qoj:evE A i [] s ps hs rs=some ⟨s,ps,hs,rs⟩:=rfl
theorem qok:evE A i (o::r) s ps hs rs=qyk A i o r s ps hs rs (qaz A.ops s o):=by
 show (qhf A.C A.call A.ops A.bef A.base i o ⟨s,ps,hs,rs⟩).bind (fun d=>qly A.C A.call A.ops A.bef A.base (Nat.succ i) r d)=_;cases hg:qaz A.ops s o with
 |none=>unfold qhf;simp only[hg,qyk];rfl
 |some g=>
  cases g with
  |false=>
   simp only[qyk];unfold qhf;simp only[hg,Option.bind_some];cases s.put o.dst (.tup [])with
   |none=>cases qb9 o.op<;>rfl
   |some s'=>cases qb9 o.op<;>rfl
  |true=>
   simp only[qyk];unfold qhf;simp only[hg,Option.bind_some];cases hc:qb9 o.op with
   |allocs=>
    simp only[clsE];cases qbt A.C o s with
    |none=>rfl
    |some k=>simp only[Option.bind_some,layE];cases s.put o.dst (k.1 (A.base+i))<;>rfl
   |acts=>
    simp only[clsE];cases qae A.C A.call o (s.wH (s.H.lay (qbg A.bef i ps)))with
    |none=>rfl
    |some v=>simp only[Option.bind_some,actE];cases St.put (s.wH v.2) o.dst v.1<;>rfl
   |reads=>
    simp only[clsE];cases qae A.C A.call o s with
    |none=>rfl
    |some v=>simp only[Option.bind_some,redE];cases s.put o.dst v.1<;>rfl
   |pure=>
    simp only[clsE];cases qae A.C A.call o s with
    |none=>rfl
    |some v=>simp only[Option.bind_some,valE];cases s.put o.dst v.1<;>rfl
theorem qi6:putE A i r ps hs rs (some s')=evE A (i+1) r s' ps hs rs:=rfl
theorem qi4:putX A i r ps hs rs (some s')=evE A (i+1) r s' ps ((i,s'.H)::hs) rs:=rfl
theorem qhw:valE A i o r s ps hs rs (some (v,H))=putE A i r ps hs rs (s.put o.dst v):=rfl
theorem qi3:redE A i o r s ps hs rs (some (v,H))=putE A i r ps hs (⟨i,o,s,v⟩::rs) (s.put o.dst v):=rfl
theorem qiy:actE A i o r s ps hs rs (some (v,H))=putX A i r (qb7 A.bef i ps) hs rs (St.put (s.wH H) o.dst v):=rfl
theorem qid{k:(Nat->AV) × Blk}:layE A i o r s ps hs rs (some k)=putE A i r (⟨i,A.base+i,k.2⟩::ps) hs rs (s.put o.dst (k.1 (A.base+i))):=rfl
theorem qg4:qyk A i o r s ps hs rs (some true)=clsE A i o r s ps hs rs (qb9 o.op):=rfl
theorem qin:clsF A i o r ps hs rs .acts (some s')=evE A (i+1) r (s'.wH (s'.H.lay (qbg A.bef i ps))) (qb7 A.bef i ps) ((i,s'.H.lay (qbg A.bef i ps))::hs) rs:=rfl
theorem qim:clsF A i o r ps hs rs .allocs (some s')=evE A (i+1) r s' ps hs rs:=rfl
theorem qik:clsF A i o r ps hs rs .reads (some s')=evE A (i+1) r s' ps hs rs:=rfl
theorem qil:clsF A i o r ps hs rs .pure (some s')=evE A (i+1) r s' ps hs rs:=rfl
theorem qg5:qyk A i o r s ps hs rs (some false)=clsF A i o r ps hs rs (qb9 o.op) (s.put o.dst (.tup [])):=rfl
theorem qiq:clsE A i o r s ps hs rs .allocs=layE A i o r s ps hs rs (qbt A.C o s):=rfl
theorem qir:clsE A i o r s ps hs rs .acts=actE A i o r s ps hs rs (qae A.C A.call o (s.wH (s.H.lay (qbg A.bef i ps)))):=rfl
theorem qip:clsE A i o r s ps hs rs .pure=valE A i o r s ps hs rs (qae A.C A.call o s):=rfl
theorem qio:clsE A i o r s ps hs rs .reads=redE A i o r s ps hs rs (qae A.C A.call o s):=rfl
end
theorem qom{C:Ctx} {call:qc5} {ops:Array Oper} {s:St} {E:Option DrawSt} {P:DrawSt->Prop} (B:Array Nat)
  (h:evE ⟨C,call,ops,B,s.H.n⟩ 0 ops.toList (qc7 (qar ops.toList { s with ts:=[] }) ops.size) [] [] []=E) (k:∃d,E=some d/\P d) :
  ∃d,qly C call ops B s.H.n 0 ops.toList ⟨qc7 (qar ops.toList { s with ts:=[] }) ops.size,[],[],[]⟩=some d/\P d:=by
 subst h;exact k
theorem CallAt.post{C:Ctx} {f:FuncId} {args:List AV} {v v':AV} {H H1 H':Heap} {σ:List (Nat × Nat)} {Φ:List (Nat × List AV)} (h:CallAt C f args H v H1) (fv:qap σ Φ v v') (fh:FitH H.n σ Φ H1 H'):CallAt C f args H v' H':=by
 intro ρ w xs sm hx;have dn:∀{x:Value} {ρ':Place} {w':World},VR ρ' v x->Sim ρ' H1 w'->Step ρ H w ρ' H1 w'->∃ρ'',VR ρ'' v' x/\Sim ρ'' H' w'/\Step ρ H w ρ'' H' w':=fun {x ρ' w'} h1 h2 h3=>by
  have at_low:∀b,b < H.n->(qbl H.n σ Φ ρ' w' h2.below) b=ρ b:=fun b hb=>by show (if b < H.n then ρ' b else _)=_;rw[if_pos hb];exact h3.low b hb
  refine⟨qbl H.n σ Φ ρ' w' h2.below,Fits.run (fh.fits h2) h2 _ (Nat.le_refl _) h1 fv,fh.sim h2 h3.num,⟨⟨fun b l hb=>?_,fun k hk=>?_,?_,?_,?_⟩,h3.size,h3.keeps,fun e he l hl=>?_,fh.num,at_low,fun k hk=>?_⟩⟩
  ·have hlt:b < H.n:=by
    rcases Nat.lt_or_ge b H.n with hq|hq
    ·exact hq
    ·rw[sm.dom b hq]at hb;cases hb
   rw[at_low b hlt];exact hb
  ·obtain⟨g1,g2⟩:=h3.le.fz k hk;exact⟨.inl g1,(h2.below k g1).trans g2⟩
  ·exact h2.os.trans h3.le.os
  ·exact h2.tape.trans h3.le.tape
  ·exact h2.output.trans h3.le.output
  ·obtain⟨c,k,g1,g2,_⟩:=fh.src e he;rw[qdy fh g1]at hl;exact h3.rows _ (Heap.get_mem g2) l hl
  ·rcases hk with hk|⟨b,cs,l,m1,m2,rfl⟩
   ·exact h3.cold k hk
   ·obtain⟨cs0,g1,_⟩:=fh.frz _ m1;rcases h3.rows _ (Heap.get_mem g1) l m2 with⟨e,he,l0,q1,q2⟩|hge
    ·exact .inr (.inl ⟨e,he,l0,q1,q2⟩)
    ·exact .inr (.inr hge)
 rcases h ρ w xs sm hx with⟨x,ρ',w',h0,h1,h2,h3⟩|⟨g,ys,h0,h1⟩
 ·obtain⟨ρ'',k1,k2,k3⟩:=dn h1 h2 h3;exact .inl ⟨x,ρ'',w',h0,k1,k2,k3⟩
 ·refine .inr ⟨g,ys,h0,h1.mono ?_⟩;rintro e w' ⟨x,ρ',rfl,m1,m2,m3⟩;obtain⟨ρ'',k1,k2,k3⟩:=dn m1 m2 m3;exact⟨x,ρ'',rfl,k1,k2,k3⟩
