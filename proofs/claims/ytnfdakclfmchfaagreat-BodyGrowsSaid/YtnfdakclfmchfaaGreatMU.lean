/- What is handed in is a list of tokens. No condition. -/
import Derived.Test.YtnfdakclfmchfaaGreatMT
import Derived.HandedShaped
namespace Go.Proofs.YtnfdakclfmchfaaGreat
noncomputable section
set_option linter.unusedSimpArgs false
set_option linter.unusedVariables false
open Go Go.RowKit Go.ChangeShapes Go.WideShapes Go.ChangeAt
set_option maxRecDepth 100000
set_option maxHeartbeats 1000000
variable {T:List (Entry Tryz.prog)}
theorem c92d{s:SS} (ne:s.tree≠[]) (nm:Str) (at_:Int) (last:Bool) (hnm:nm=[100,105,118]):SC T 92 [.str nm,.int .i64 at_,.bool last] s (.tup [.int .i64 0,.bool false]) (s):=by
 have g0:=@vg0;have v0:=@vset;refine qa0 (s0:=⟨[0,1,2,3,8,9,10,17,24],[.ptr 0 0,.str nm,.int .i64 at_,.bool last,uD,uD,uD,uD,uD],[],47,⟨2,[]::[VS 1 s]⟩⟩) Tryz.func92 rfl rfl rfl ?_
 (repeat' (first
  |with_reducible apply qaa
  |with_reducible apply qa4
  |(with_reducible apply rE;simp[zS, *,SS.post];exact rfl)
  |(with_reducible apply qad;simp only[qab,qa5])
  |apply qai rfl
  |(with_reducible apply qa6;simp only[qab,qa5])
  |(with_reducible apply qa7;simp[zQ,Tryz.f92])))
 all_goals first|((try simp[zQ,Tryz.f92]);exact qbz (by simp[*]) (by first|rfl|(simp[*];done)) (by simp[qa2,qa3]) (by decide) (ne) rfl rfl)|(exfalso;omega)
theorem inj_92d(x y:Str × Int × Bool) (h:(fun z:Str × Int × Bool=>([.str z.1,.int .i64 z.2.1,.bool z.2.2]:List AV)) x=(fun z:Str × Int × Bool=>([.str z.1,.int .i64 z.2.1,.bool z.2.2]:List AV)) y):x=y:=by obtain⟨x0,x1,x2⟩:=x;obtain⟨y0,y1,y2⟩:=y;simp only[List.cons.injEq,and_true]at h;obtain⟨h0,h1,h2⟩:=h;have g0:x0=y0:=AV.str.inj h0;have g1:x1=y1:=AV.int.inj h1 |>.2;have g2:x2=y2:=AV.bool.inj h2;subst g0 g1 g2;rfl
def e92d:Entry PG:=mkS 92 [[],[],[]] (fun z:Str × Int × Bool=>[.str z.1,.int .i64 z.2.1,.bool z.2.2]) (fun z s=>(z.1=[100,105,118])) (fun z s=>.tup [.int .i64 0,.bool false]) (fun z s=>s) fun z s ne h=>⟨c92d (T:=[])  ne z.1 z.2.1 z.2.2 h,by simp[qa3,qa2],by simp[qa2,qa3],ne⟩
theorem k92d(hT:qa9 92 T=some e92d.g) {s:SS} (ne:s.tree≠[]) (nm:Str) (at_:Int) (last:Bool) (hnm:nm=[100,105,118]) {n k:Nat} {fr:List (Nat × Blk)} (k0:0 < k) (kn:k < n) (of:qga k fr):qat (ctx T) (.fn 92) [.ptr 0 0,.str nm,.int .i64 at_,.bool last] ⟨n,[fr,VS k s]⟩=some (.tup [.int .i64 0,.bool false],⟨n+1,[fr,VS n (s)]⟩):=
 qct hT inj_92d (nm,at_,last) ne hnm (by simp[qa3,qa2]) (by simp[qbb,qaj]) k0 kn of
def bodyS(s:SS):SS:={ s with mode:=5 }
theorem c28d(hc0:qa9 92 T=some e92d.g) {s:SS} (ne:s.tree≠[])  (h1:s.opn.length=1) (hr:∀i,i∈s.opn->0<=i/\i < (s.tree.length:Int)) (hin:s.inside=[100,105,118]):SC T 28 [] s (.tup []) (bodyS s):=by
 have kc0:=@k92d T hc0;have g0:=@vg0;have v0:=@vset;obtain⟨i,hi⟩:=List.length_eq_one_iff.1 h1;obtain⟨u,rfl⟩ : ∃u:Nat,i=(u:Int):=⟨i.toNat,by have:=(hr i (by rw[hi];simp)).1;omega⟩;have hu:u < s.tree.length:=by have:=(hr (u:Int) (by rw[hi];simp)).2;omega
 have lO:=fun H=>qn0 (H:=H) (L:=[(u:Int)]);have hat:qan PG 38 (qac [(u:Int)]) (.int .i64 0)=some (.fptr [.int .i64 (u:Int)] 0):=atI (L:=[(u:Int)]) (i:=0) (by simp);have ix:=ixN (k:=1) hu;have gk:=vgk (k:=1) (s:=s) (by omega) ne;have sN:=subN hu;have kt:=fun n k fr=>@kc0 s ne [100,105,118] 0 true rfl n k fr;clear kc0 hr h1;have hw0:wr .i64 0=some 0:=rfl;have bld:qdw PG 65 [(2,.str [100,105,118])]=some (.agg [.int .i64 0,.int .i64 0,.str [100,105,118],.nilS,.str [],.int .i64 0,.nilS]):=rfl;have hob:memT 65 objs=false:=rfl;have hw1:wr .i64 (-1)=some (-1):=rfl;have fits:∀(s':SS) (f:List (Nat × Blk)) (k n:Nat),s'.tree≠[]->0 < k->getF 0 f=none->getF k f=none->FitH 2 [(k,2),(0,0)] [] ⟨n,[f,VS k s']⟩ ⟨3,[[],VS 2 s']⟩:=fun s' f k n h1 h0 h2 h3=>qv0 ⟨by omega,by omega,by omega⟩ (by omega) h0 h1 h2 h3;refine qa0 (s0:=⟨[0,2,3,4,5,6],[.ptr 0 0,uD,uD,uD,uD,uD],[],66,⟨2,[]::[VS 1 s]⟩⟩) Tryz.func28 rfl rfl rfl ?_
 (repeat' (first
  |with_reducible apply qaa
  |with_reducible apply qa4
  |(with_reducible apply rE;simp[zS, *,SS.post];exact rfl)
  |(with_reducible apply qad;simp only[qab,qa5])))
 all_goals first|(skip)|(exfalso;omega)
 refine qb1 (fun b:Bool=>(⟨[0,2,3,4,5,6],[.ptr 0 0,.int .i64 (if b=true then 0 else -1),uD,uD,uD,uD],[],66,⟨3,[[],VS 2 s]⟩⟩ : St)) (fun _=>True) (fun b=>b.toNat) [(1,2),(0,0)] [] true trivial ⟨rfl,rfl,rfl,by simp[qax,qap,qav,qa2],fits s _ _ _ ne (by decide) rfl rfl⟩ ?_;rintro b - B hB;have gk:=vgk (k:=2) (s:=s) (by omega) ne;have ix:=ixN (k:=2) hu;cases b with
 |false=>
  (repeat' (first
   |with_reducible apply qaa
   |(with_reducible apply rE;simp[zS, *,SS.post];exact rfl)
   |(with_reducible apply qad;simp only[qab,qa5])
   |apply qai rfl
   |(with_reducible apply qas;simp)))
  all_goals first|(((try simp[zQ,Tryz.f28]);exact qbz rfl (by simp[bodyS,hi,hin]) rfl (by decide) ne rfl rfl))|(exfalso;omega)
 |true=>
  (repeat' (first
   |with_reducible apply qaa
   |with_reducible apply qa4
   |(with_reducible apply rE;simp[zS, *,SS.post,Nd.cs,qau];exact rfl)
   |(with_reducible apply qad;simp only[qab,qa5])
   |(refine qay mixed qb6 (by decide +kernel) (by decide +kernel) rfl ?_;apply qh0;simp[zS,zW,qb9,qbt,qaz,Heap.lay,qb8, *,SS.post,Nd.cs,qau];exact rfl)
   |(with_reducible apply qbc;refine⟨by repeat first|exact qdi|refine qdj (by decide +kernel) ?_,?_⟩;simp only[qab,qa5,allPend,Heap.lay,qb8])
   |apply qah rfl
   |apply qai rfl
   |(with_reducible apply qa6;simp only[qab,qa5])))
  all_goals first|(exact hB _ false (by decide) trivial ⟨[(19,2),(0,0)],[],rfl,rfl,rfl,by simp[qax,qap,qav,qa2],fits s _ _ _ ne (by decide) (by simp[getF]) (by simp[getF])⟩)|(exfalso;omega)
def e28d:Entry PG:=mkS 28 [] (fun z:Unit=>[]) (fun z s=>(s.opn.length=1)/\(∀i,i∈s.opn->0<=i/\i < (s.tree.length:Int))/\(s.inside=[100,105,118])) (fun z s=>.tup []) (fun z s=>bodyS s) fun z s ne h=>⟨c28d (T:=[e92d]) rfl ne  h.1 h.2.1 h.2.2,by simp[qa3,qa2],by simp[qa2,qa3],ne⟩
theorem k28d(hT:qa9 28 T=some e28d.g) {s:SS} (ne:s.tree≠[])  (h1:s.opn.length=1) (hr:∀i,i∈s.opn->0<=i/\i < (s.tree.length:Int)) (hin:s.inside=[100,105,118]) {n k:Nat} {fr:List (Nat × Blk)} (k0:0 < k) (kn:k < n) (of:qga k fr):qat (ctx T) (.fn 28) [.ptr 0 0] ⟨n,[fr,VS k s]⟩=some (.tup [],⟨n+1,[fr,VS n (bodyS s)]⟩):=
 qct hT inj_165 () ne ⟨h1,hr,hin⟩ (by simp[qa3,qa2]) (by simp[qbb,qaj]) k0 kn of
theorem VR.slcInv{ρ:Place} {b o n c:Nat} {x:Value} (h:VR ρ (.slc b o n (.ex c)) x):∃l,ρ b=some l/\x=.slice (some ⟨l.cb,l.off+o,none⟩) n c/\n<=c:=by
 cases h with
 |slcE b o len c l h hc=>exact⟨l,h,rfl,hc⟩
theorem VR.aggInv1{ρ:Place} {v:AV} {x:Value} (h:VR ρ (.agg [v]) x):∃y,x=.agg #[y]/\VR ρ v y:=by
 cases h with
 |agg cs vs hl hv=>
  have h0:0 < vs.size:=by rw[hl];simp
  refine⟨vs[0],?_,hv 0 (by simp) h0⟩;congr 1;apply Array.ext
  ·rw[hl];rfl
  ·intro i h1 h2;have:i=0:=(by simp at h2;omega);subst this;rfl
theorem CallAt.rest{C:Ctx} {f:FuncId} {args:List AV} {n sz:Nat} {cs:List AV} (h:CallAt C f args zH (.agg [.slc 0 0 n (.ex n)]) ⟨1,[[(0,.cells cs)]]⟩) (hc:cs.length=n * sz) (hp:qa3 cs=true) (hn:n<=9223372036854775807) :
  CallAt C f args zH (.agg [.slc 0 0 n (.rest sz)]) ⟨1,[[(0,.cells cs)]]⟩:=by
 intro ρ w xs sm hx;have key:∀{x:Value} {ρ':Place} {w':World},VR ρ' (.agg [.slc 0 0 n (.ex n)]) x->Sim ρ' ⟨1,[[(0,.cells cs)]]⟩ w'->Step ρ zH w ρ' ⟨1,[[(0,.cells cs)]]⟩ w'->∃ρ'',VR ρ'' (.agg [.slc 0 0 n (.rest sz)]) x/\Sim ρ'' ⟨1,[[(0,.cells cs)]]⟩ w'/\Step ρ zH w ρ'' ⟨1,[[(0,.cells cs)]]⟩ w':=fun {x ρ' w'} h1 h2 h3=>by
  obtain⟨y,rfl,hy⟩:=h1.aggInv1;obtain⟨l,hl,rfl,_⟩:=hy.slcInv;obtain⟨l',hl',g2,g3,g4⟩:=h2.live (0,.cells cs) (by simp[Heap.ents]);rw[hl]at hl';cases hl';obtain⟨r1,r2,r3⟩:=g4;obtain⟨ρ'',e⟩ : ∃ρ'':Place,ρ''=ρ'.upd 0 ⟨l.cb,l.off,l.off+cs.length⟩:=⟨_,rfl⟩;have u0:ρ'' 0=some ⟨l.cb,l.off,l.off+cs.length⟩:=by rw[e];exact Place.upd_same
  have uo:∀b,b≠0->ρ'' b=ρ' b:=fun b hb=>by rw[e];exact Place.upd_other hb
  have eB:ρ''.B=ρ'.B:=by rw[e];rfl
  have eW:ρ''.W=ρ'.W:=by rw[e];rfl
  have ebare:ρ''.bare=ρ'.bare:=by rw[e];rfl
  have hd:∀b,ρ b=none:=fun b=>sm.dom b (Nat.zero_le _);have only:∀e,e∈(⟨1,[[(0,.cells cs)]]⟩ : Heap).ents->e=(0,.cells cs):=fun e he=>by simpa[Heap.ents]using he
  refine⟨ρ'',?_,⟨?_,?_,?_,?_,?_,?_,?_,?_,?_⟩,⟨⟨?_,?_,?_,?_,?_⟩,h3.size,?_,?_,h3.num,?_,?_⟩⟩
  ·refine .agg _ _ (by simp) fun i hi hi'=>?_;have:i=0:=(by simp at hi;omega);subst this;exact .slcR 0 0 n sz n ⟨l.cb,l.off,l.off+cs.length⟩ u0 (Nat.le_refl _) ⟨by simp[hc],hn⟩
  ·rw[eB];exact h2.base
  ·rw[eB,eW];exact h2.below
  ·rw[eW];exact h2.os
  ·rw[eW];exact h2.tape
  ·rw[eW];exact h2.output
  ·intro b hb;rw[uo b (by simp at hb;omega)];exact h2.dom b hb
  ·exact h2.nodup
  ·intro e he;rw[only e he];refine⟨_,u0,by rw[eB];exact g2,g3,⟨by simp,fun i hi=>r2 i (by simp at hi;omega),fun i hi=>?_⟩⟩;obtain⟨x,hx1,hx2⟩:=r3 i hi;refine⟨x,hx1,?_⟩;have:=hx2.pure (qec hp i hi);rw[<- ebare]at this;exact this.mono ρ''.bare_le
  ·intro e e' he he' _ _ _ _ _;rw[only e he,only e' he']
  ·intro b l0 hb;rw[hd b]at hb;cases hb
  ·intro k hk;rw[eB,eW];exact h3.le.fz k hk
  ·rw[eW];exact h3.le.os
  ·rw[eW];exact h3.le.tape
  ·rw[eW];exact h3.le.output
  ·exact h3.keeps
  ·intro e he l0 hl0;rw[only e he]at hl0;rw[u0]at hl0;cases hl0;exact h3.rows (0,.cells cs) (by simp[Heap.ents]) l hl
  ·intro b hb;exact absurd hb (Nat.not_lt_zero b)
  ·intro k hk;rw[eB]at hk;exact h3.cold k hk
 rcases h ρ w xs sm hx with⟨x,ρ',w',h0,h1,h2,h3⟩|⟨g,ys,h0,h1⟩
 ·obtain⟨ρ'',k1,k2,k3⟩:=key h1 h2 h3;exact .inl ⟨x,ρ'',w',h0,k1,k2,k3⟩
 ·refine .inr ⟨g,ys,h0,h1.mono ?_⟩;rintro e w' ⟨x,ρ',rfl,m1,m2,m3⟩;obtain⟨ρ'',k1,k2,k3⟩:=key m1 m2 m3;exact⟨x,ρ'',rfl,k1,k2,k3⟩
def root0:Nd:=⟨0,0,[],[],[],-1,[]⟩
theorem c24:CallAt (ctx T) 24 [] zH (.agg [.slc 0 0 1 (.rest 7)]) ⟨1,[[(0,.cells root0.cs)]]⟩:=by
 refine CallAt.rest ?_ rfl (by simp[root0,Nd.cs,qau,qaf,qa3,qa2]) (by omega);have b5:qdw PG 65 [(5,.int .i64 (-1))]=some (.agg [.int .i64 0,.int .i64 0,.str [],.nilS,.str [],.int .i64 (-1),.nilS]):=rfl;refine qa0 (s0:=⟨[0],[uD],[],4,⟨0,[[]]⟩⟩) Tryz.func24 rfl rfl rfl ?_;have bt:∀b n c,qdw PG 37 [(0,.slc b 0 n c)]=some (.agg [.slc b 0 n c]):=fun b n c=>rfl;have pr:qdd 0 [1] [] [[(1,.cells [.int .i64 0,.int .i64 0,.str [],.nilS,.str [],.int .i64 (-1),.nilS]),(0,.cells [.nilS])]]=[[(1,.cells [.int .i64 0,.int .i64 0,.str [],.nilS,.str [],.int .i64 (-1),.nilS]),(0,.cells [.nilS])]]:=rfl;apply qR;simp[zS,b5,bt,pr];apply qR;simp[zS,b5,bt,pr];apply qa7;simp[zQ,Tryz.f24];refine⟨_,rfl,[(1,0)],[],?_,⟨by simp,by simp,by simp[Heap.ents],by simp,fun x hx h=>absurd h (Nat.not_lt_zero _),by simp,fun e he=>?_,fun x hx=>by cases hx⟩⟩
 ·simp[qap,qax,qav,readCells,oneOr]
 ·simp only[Heap.ents,List.flatten_cons,List.flatten_nil,List.append_nil,List.mem_singleton]at he;subst he;exact⟨1,_,by simp,rfl,by simp[qji,qax,qap,root0,Nd.cs,qau,qaf,qa2]⟩
theorem new_at(m:Nat) (f:List (Nat × Blk)) (fs:List (List (Nat × Blk))):CallAt (ctx T) 24 [] ⟨m,f::fs⟩ (.agg [.slc m 0 1 (.rest 7)]) ⟨m+1,((m,.cells root0.cs)::f)::fs⟩:=by
 have fh:FitH 0 [] [] ⟨m,f::fs⟩ zH:=⟨by simp,by simp,by simp[Heap.ents],fun x h=>(by cases h),fun x h=>(by cases h),Nat.zero_le _,fun e he=>by simp[Heap.ents]at he,fun x h=>by cases h⟩;have pr:qa3 root0.cs=true:=by simp[root0,Nd.cs,qau,qaf,qa3,qa2]
 have:=(c24 (T:=T)).framed (args:=[]) (H:=⟨m,f::fs⟩) (H':=⟨m+1,((m,.cells root0.cs)::f)::fs⟩) fh (by simp[qax]) ⟨by simp,fun nd lt=>?_,fun e he=>?_⟩ (by simp)
 ·simpa[qmv,qln,qlg,qf3]using this
 ·simp only[Heap.ents,List.flatten_cons,List.cons_append,List.map_cons,List.nodup_cons]at nd ⊢;refine⟨fun hx=>?_,nd⟩;obtain⟨e,he,hx⟩:=List.mem_map.1 hx;have:=lt e (by simpa[Heap.ents]using he);simp only at this;omega
 ·simp only[Heap.ents,List.flatten_cons,List.cons_append,List.mem_cons]at he;rcases he with rfl|he
  ·refine .inl ⟨(0,.cells root0.cs),by simp[Heap.ents],?_⟩;simp[qlg,qf3,qz4,qdb _ pr]
  ·exact .inr ⟨by simpa[Heap.ents]using he,fun x hx=>by cases hx⟩
def s0:SS:=⟨[⟨0,0,[],[],[],-1,[1]⟩,⟨1,0,[104,116,109,108],[],[],0,[]⟩],[1],[],5,0,0,0,0,false,false,[100,105,118]⟩
def zam:List AV:=[.nilS,.nilS,.int .i64 0,.int .i64 0,.int .i64 0,.int .i64 0,.int .i64 0,.bool false,.bool false,.str [100,105,118]]
theorem ok_New(t:Tr) {k m:Nat} (k0:0 < k) (km:k < m):Eok m 0 [] k 7 (t.map qag) zam [] where
 lp:=by omega
 lk:=⟨km,by simp;omega⟩
 lg:=fun e he=>by cases he
 nd:=by simp
 sg:=fun e he=>by cases he
 sp:=fun σ hσ=>qao rfl
 sq:=fun σ hσ=>qao rfl
 el:=qbw t
theorem prom_L{c:Nat} {cs:List AV} {g r:List (Nat × Blk)} (hc:qa3 cs=true) (h0:getF 0 ((c,.cells cs)::g)=none) (h2:(getF 0 r).isSome=true):qdd 0 [c] [] [(c,.cells cs)::g,r]=[g,(c,.cells cs)::r]:=by
 have h1:=zab (n:=99998) (b:=c) (g:=g) hc;have h3:qht 100000 [c] ((c,.cells cs)::g) []=([(c,.cells cs)],g):=h1;unfold qdd;simp only[h0,h3];unfold qdd;cases hr:getF 0 r with
 |none=>rw[hr]at h2;cases h2
 |some y=>simp only[List.append_nil,List.cons_append,List.nil_append]
theorem ap_n(H:Heap) (b:Nat) (i:Int) (hb:H.get b=some (.cells [.int .i64 i])):qby PG H 3 .nilS (.slc b 0 1 (.ex 1))=some (.slc H.n 0 1 (.rest 1),H.new (.cells [.int .i64 i])):=by
 have hx:qb3 H 1 1 (.slc b 0 1 (.ex 1))=some [.int .i64 i]:=by simp[qb3,readCells,hb,Blk.rd]
 simp only[qby,qmt,qxh,qvk,Option.bind_some,qc3,hx];rfl
theorem c7(hA:qa9 87 T=some e87.g) (hP:qa9 173 T=some e173G.g) (hS:qa9 88 T=some e88.g) (hH:qa9 89 T=some e89.g)
  (hC:qa9 78 T=some e78.g) (hL:qa9 27 T=some e27.g) (hR:qa9 28 T=some e28d.g) :
  CallAt (ctx T) 7 [.str [100,105,118]] zH (.ptr 0 0) ⟨3,[VS 2 s0]⟩:=by
 have hnew:=new_at (T:=T) 0 [] [];obtain⟨t1,ht1⟩ : ∃t1:Tr,t1=[root0]++[fresh ⟨1,0,[104,116,109,108],[],[],0,[]⟩]:=⟨_,rfl⟩;have h1:=ok_New [root0] (k:=1) (m:=2) (by omega) (by omega);have hadd:=c25 (T:=T) hA h1 (by simp) ⟨1,0,[104,116,109,108],[],[],0,[]⟩ (by simp);have h2:=ok_New t1 (k:=2) (m:=3) (by omega) (by omega);have hput:=c26G (T:=T) hP hS hH hC h2 (by simp[ht1]) (by simp[ht1]) (fun n hn=>by simp[ht1]at hn;rcases hn with rfl|rfl<;>simp[root0,fresh]) 0 0 1;have et:qlf t1 0 0 1=s0.tree:=by rw[ht1];rfl
 rw[et]at hput;have hadd:=hadd.perm (H2:=⟨2,[[],VE 0 [] 1 7 ([root0].map qag) zam []]⟩) (H2':=⟨3,[[],VE 0 [] 2 7 (t1.map qag) zam []]⟩) rfl rfl (by simp[Heap.ents]) (by rw[ht1];simp[Heap.ents,fresh]);have hput:=hput.perm (H2:=⟨3,[[],VE 0 [] 2 7 (t1.map qag) zam []]⟩) (H2':=⟨3,[[],[(0,.cells (nV 2 s0.tree::zam)),(2,.cells (qa8 (s0.tree.map qag)))]]⟩) rfl rfl (by simp[Heap.ents]) (by exact List.Perm.refl _);clear et h1 h2;have bS:∀b,qdw PG 40 [(0,.agg [.slc b 0 1 (.rest 7)]),(10,.str [100,105,118])]=some (.agg (.slc b 0 1 (.rest 7)::zam)):=fun _=>rfl;refine qa0 (s0:=⟨[0,2,3,4],[.str [100,105,118],uD,uD,uD],[],40,⟨0,[[]]⟩⟩) Tryz.func7 rfl rfl rfl ?_;apply qR;simp[zS];repeat apply wq
 refine qam (qbu [⟨24,_,_,_,_,hnew⟩]) ?_;simp[zS,qd9,bS,zam];apply qR;simp[zS];apply qai rfl;apply qa6;simp;repeat apply wq
 refine .fit (s':=(⟨[0,2,3,4],[.str [100,105,118],uD,.ptr 0 0,uD],[],40,⟨2,[[],VE 0 [] 1 7 ([root0].map qag) zam []]⟩⟩ : St)) [(0,1),(1,0)] [] ⟨rfl,rfl,rfl,by simp[qax,qap,qav,qa2],⟨by simp,by simp,by simp[Heap.ents,VE,qd6],by simp,by simp,by simp,fun e he=>?_,fun x hx=>by cases hx⟩⟩ ?_
 ·simp[Heap.ents,VE,qd6,qcv]at he;rcases he with rfl|rfl
  ·exact⟨1,_,by simp,rfl,by simp[qji,qax,qap,qav,zam,qa2]⟩
  ·exact⟨0,_,by simp,rfl,by simp[qji,qa8,AV.cells,qag]⟩
 have bN:qdw PG 65 [(0,.int .i64 1),(2,.str [104,116,109,108])]=some (.agg [.int .i64 1,.int .i64 0,.str [104,116,109,108],.nilS,.str [],.int .i64 0,.nilS]):=rfl;have hadd2:=hadd.norm1 (args:=[.agg [.int .i64 1,.int .i64 0,.str [104,116,109,108],.nilS,.str [],.int .i64 0,.nilS]]) (by simp[qax,qap,qag,Nd.cs,qau,qaf,qac,qa2]);refine qam (qbu [⟨25,_,_,_,_,hadd2⟩]) ?_;simp[zS,qd9,bN];repeat apply wq
 refine qam (qbu [⟨26,_,_,_,_,hput⟩]) ?_;simp[zS,qd9];have pL:=@prom_L;have kl:=fun H=>k27 hL [100,105,118] H;generalize hF:qa8 (s0.tree.map qag)=F at *;have aN:=@ap_n;have el:qo3 [100,105,118]=0:=by decide
 rw[el]at kl;apply qR;simp[zS,pL,zam,qa3,qa2,aN];apply qR;simp[zS,pL,zam,qa3,qa2,kl];repeat apply wq
 refine .fit (s':=(⟨[0,2,3,4],[.str [100,105,118],uD,.ptr 0 0,uD],[],40,⟨3,[[],VS 2 ⟨s0.tree,[1],[],0,0,0,0,0,false,false,[100,105,118]⟩]⟩⟩ : St)) [(2,2),(0,0)] [(4,[.int .i64 1])] ⟨rfl,rfl,rfl,by simp[qax,qap,qav,qa2],?_⟩ ?_
 ·have hf:=fitSG (N:=0) (k:=2) (k':=2) (m':=3) (H:=⟨5,[[(3,.cells [.int .i64 1])],[(4,.cells [.int .i64 1]),(0,.cells [nV 2 s0.tree,.slc 4 0 1 (.rest 1),.nilS,.int .i64 0,.int .i64 0,.int .i64 0,.int .i64 0,.int .i64 0,.bool false,.bool false,.str [100,105,118]]),(2,.cells F)]]⟩) (s':=⟨s0.tree,[1],[],0,0,0,0,0,false,false,[100,105,118]⟩) (Φ:=[(4,[.int .i64 1])])
   ⟨by omega,by omega,by omega⟩ (by omega) (by omega) (by simp[s0]) (by simp[zG];rfl) (by simp[zG,hF]) (by simp only[qax,SS.post];refine⟨by simp[qap,qav],ql4 (L:=[1]) rfl,by simp[qap,qac],?_⟩;simp[qap,qa2]) (by simp) (fun x hx=>by simp at hx;subst hx;exact⟨by simp[zG],by simp[qa3,qa2]⟩)
  exact⟨hf.nd1,hf.nd2,by simpa[Heap.ents]using hf.nd3,hf.lt,hf.idn,hf.num,fun e he=>hf.src e (by simpa[Heap.ents]using he),hf.frz⟩
 have kR:=fun n k fr=>@k28d T hR ⟨s0.tree,[1],[],0,0,0,0,0,false,false,[100,105,118]⟩ (by simp[s0]) rfl (by intro i hi;simp at hi;subst hi;simp[s0]) rfl n k fr;apply qR;simp[zS,kR];apply qR;simp[zS];apply qa7;simp[zQ,Tryz.f7];exact⟨[(3,2),(0,0)],[],by simp[qap,qav],fitS (s:=s0) ⟨by omega,by omega,by omega⟩ (by omega) (by omega) (by simp[s0]) rfl rfl⟩
set_option maxHeartbeats 2000000
theorem few_tk3{t:Tk} (h:qv1 t=true):t.name.length<=40/\t.attrs.length<=14/\t.data.length<=200:=by simp only[qv1,ql5,Bool.and_eq_true,decide_eq_true_eq]at h;exact⟨h.1,h.2.2.1,h.2.1⟩
theorem s0_bi:BI 2 200 14 1 0 s0:=by
 refine⟨⟨by decide,by decide,fun i hi=>?_,fun i hi=>?_,fun i hi=>?_,fun i hi=>?_,fun i hi=>?_,fun i hi=>?_⟩,rfl,rfl,by decide,by decide,(fun i hi=>by cases hi),List.Pairwise.nil,by decide,.inl rfl,⟨[1],by decide,fun x hx=>by simpa[s0]using hx⟩,by decide⟩;all_goals
  have hi:i < 2:=hi;rcases(by omega:i=0\/i=1)with rfl|rfl
 all_goals decide
theorem BI.recov{n d a c e:Nat} {s:SS} (h:BI n d a c e s):BI n d a (s.opn.length+s.act.length) e s:=
 ⟨h.tb,h.fo,h.hd,h.rg,h.nd,h.ac,h.an,h.al,h.fm,⟨s.opn++s.act,by simp,fun x hx=>by rw[List.mem_append];exact hx.imp id fun h=>h.1⟩,h.h1⟩
theorem BI.grows{n d a c e:Nat} {s:SS} (h:BI n d a c e s) (he:e<=900) {t:Tk} (hn:t.name.length<=40) (hL:t.attrs.length<=14) (hd:t.data.length<=200) (ha:14<=a) (hdd:200<=d):(qge s t).2.1.opn.length<=s.opn.length+s.act.length+1/\1<=(qge s t).2.1.opn.length:=by have h1:=h.recov.step he hn hL hd ha hdd;exact⟨h1.ol,List.length_pos_iff.2 h1.on⟩
section
variable {T:List (Entry PG)} (hq1:qa9 87 T=some e87.g) (hq2:qa9 173 T=some e173G.g) (hq3:qa9 88 T=some e88.g) (hq4:qa9 89 T=some e89.g) (hq5:qa9 78 T=some e78.g) (hq6:qa9 27 T=some e27.g) (hq7:qa9 28 T=some e28d.g)
 (hA:qa9 23 T=some e23.g) (hBS:qa9 22 T=some e22g.g) (hP:qa9 21 T=some e21.g)
include hq1 hq2 hq3 hq4 hq5 hq6 hq7 hA hBS hP
theorem c6(l:List Tk):CallAt (ctx T) 6 [.fslc 5 (l.map qer)] zH (.bool true) zH:=by
 have hnew:=(c7 (T:=T) hq1 hq2 hq3 hq4 hq5 hq6 hq7).perm (H2:=⟨0,[[]]⟩) (H2':=⟨3,[[],VS 2 s0]⟩) rfl rfl (by simp[Heap.ents]) (by simp[Heap.ents]);have ka:=fun H=>k23 hA H;have ne0:s0.tree≠[]:=by simp[s0]
 have bN:qda PG .eql 23 (.ptr 0 0) .nilP=some (.bool false):=rfl;have htk:=fun i (h:i < l.length)=>@atTk l i h;have hlk:=fun H=>lenTk H l;have g0:=@vg0;refine qa0 (s0:=⟨[0,2,3,4,5,6,7,11,12,13],[.fslc 5 (l.map qer),uD,uD,uD,uD,uD,uD,uD,uD,uD],[],57,⟨0,[[]]⟩⟩) Tryz.func6 rfl rfl rfl ?_;apply qR;simp[zS];repeat apply wq
 refine qam (qbu [⟨7,_,_,_,_,hnew⟩]) ?_;simp[zS,qd9];apply qR;simp[zS,bN];apply qai rfl;apply qa6;simp;refine qrx (fun _:Unit=>(⟨[0,2,3,4,5,6,7,11,12,13],[uD,uD,uD,uD,uD,uD,uD,uD,uD,uD],[],57,⟨0,[[]]⟩⟩ : St)) (fun _=>True) (fun _ _=>?rest) fun P hE=>?_
 case rest=>
  apply qR;simp[zS,ka];apply qa7;simp[zQ,Tryz.f6];exact qak rfl (by rfl)
 have hEX:∀(s':St),s'.ks=[0,2,3,4,5,6,7,11,12,13]->s'.sz=57->s'.vs.length=10->P s':=fun s' h1 h2 h3=>by
  obtain⟨ks,vs,ts,sz,H⟩:=s';simp only at h1 h2 h3;subst h1 h2
  match vs,h3 with
  |[v0,v1,v2,v3,v4,v5,v6,v7,v8,v9],_=>exact hE _ () trivial ⟨[],[],rfl,rfl,rfl,by simp[qax,qap],.keep0 rfl⟩
 clear hE;apply qR;simp[zS,hlk];apply qa4;refine qb1 (fun x:Nat × SS=>(⟨[0,2,3,4,5,6,7,11,12,13],[uD,uD,.ptr 0 0,uD,uD,uD,uD,.fslc 5 (l.map qer),.int .i64 (l.length:Int),.int .i64 (x.1:Int)],[],57,⟨3,[[],VS 2 x.2]⟩⟩ : St)) (fun x=>x.1<=l.length/\x.1<=40/\BI (2+145 * x.1) (200+200 * x.1) (14+14 * x.1) (1+x.1) x.1 x.2) (fun x=>l.length - x.1) [(2,2),(0,0)] [] (0,s0) ⟨Nat.zero_le _,by simp,s0_bi⟩
  ⟨rfl,rfl,rfl,by simp[qax,qap,qav,qa2],qv0 ⟨by omega,by omega,by omega⟩ (by omega) (by omega) ne0 (by simp[getF]) (by simp[getF])⟩ ?_
 clear ne0 bN hnew;rintro⟨j,s⟩ ⟨hj,hj4,hs⟩ B hB;simp only at hj hj4 hs;have ne:=hs.ne;apply qR;simp[zS];repeat apply wq
 refine qbf rfl (fun h=>?_) fun h=>?_
 ·simp at h;apply qa6;simp;repeat apply wq
  apply qa4;obtain⟨t,ht⟩ : ∃t,t=l[j]:=⟨_,rfl⟩;have hix:=htk j h;rw[<- ht]at hix;clear htk ka;have kP:=fun H=>k21 hP t H;simp only[qer,Tk.cs]at kP;by_cases c1:(40:Int)<=(j:Int)
  ·have c1':40<=j:=(by omega);apply qR;simp[zS,hix,Tk.cs];apply qR;simp[zS,c1,c1'];apply qah rfl;apply qas;simp;exact hEX _ rfl rfl rfl
  have c1':¬ 40<=j:=by omega
  cases hf:qv1 t with
  |false=>rw[hf]at kP;apply qR;simp[zS,hix,Tk.cs];apply qR;simp[zS,c1,c1',kP];apply qah rfl;apply qas;simp;exact hEX _ rfl rfl rfl
  |true=>
   rw[hf]at kP;obtain⟨f1,f2,f3⟩:=few_tk3 hf;have hst:=hs.step (t:=t) (by omega) f1 f2 f3 (by omega) (by omega);have hgr:=hs.grows (t:=t) (by omega) f1 f2 f3 (by omega) (by omega);have ne2:=hst.ne;have hol:=hs.ol;have hal:=hs.al;have kS:=fun n k tb fr=>@k22g T hBS s t ne (hs.mono (by omega) (by omega) (by omega) (by omega) (by omega)) f2 f1 f3 n k tb fr;have hB2:=fun s'=>hB s' (j+1,(qge s t).2.1) (by simp only;omega) ⟨by simp only;omega,by simp only;omega,hst.mono (by simp only;omega) (by simp only;omega) (by simp only;omega) (by simp only;omega) (by simp only;omega)⟩;simp only at hB2;clear hB;obtain⟨kd,nm,L,sf,dt⟩:=t;simp only[Tk.cs]at kP kS hix;have lo:=fun H=>qn0 (H:=H) (L:=s.opn);have la:=fun H=>qn0 (H:=H) (L:=s.act);have lo2:=fun H=>qn0 (H:=H) (L:=(qge s ⟨kd,nm,L,sf,dt⟩).2.1.opn);have w1:wr .i64 ((s.opn.length:Int)+(s.act.length:Int))=some ((s.opn.length:Int)+(s.act.length:Int)):=qbs (by omega) (by omega);have w2:wr .i64 ((s.opn.length:Int)+(s.act.length:Int)+1)=some ((s.opn.length:Int)+(s.act.length:Int)+1):=qbs (by omega) (by omega);have d1:¬ (s.opn.length:Int)+(s.act.length:Int)+1 < ((qge s ⟨kd,nm,L,sf,dt⟩).2.1.opn.length:Int):=(by omega);have d2:¬ ((qge s ⟨kd,nm,L,sf,dt⟩).2.1.opn.length:Int) < 1:=(by omega);have hjw:=qbo (show j<=1000000000 by omega);clear hst hgr hf hs hEX;generalize (qge s ⟨kd,nm,L,sf,dt⟩).2.2=nm2 at *;generalize (qge s ⟨kd,nm,L,sf,dt⟩).2.1=s2 at *;generalize (qge s ⟨kd,nm,L,sf,dt⟩).1=b2 at *
   (repeat' (first
    |with_reducible apply qaa
    |(with_reducible apply rE;simp[zS, *,SS.post];exact rfl)
    |(with_reducible apply qad;simp only[qab,qa5])
    |(refine qay mixed qb6 (by decide +kernel) (by decide +kernel) rfl ?_;apply qh0;simp[zS,zW,qb9,qbt,qaz,Heap.lay,qb8, *,SS.post];exact rfl)
    |(with_reducible apply qbc;refine⟨by repeat first|exact qdi|refine qdj (by decide +kernel) ?_,?_⟩;simp only[qab,qa5,allPend,Heap.lay,qb8])
    |apply qai rfl
    |(with_reducible apply qa6;simp only[qab,qa5])))
   all_goals first|(skip)|(exfalso;omega)
   all_goals exact hB2 _ ⟨[(_,2),(0,0)],[],rfl,rfl,rfl,by simp[qax,qap,qav,qa2],qv0 ⟨by omega,by omega,by omega⟩ (by omega) (by omega) ne2 (by simp[getF]) (by simp[getF])⟩
 ·simp at h;apply qas;simp;exact hEX _ rfl rfl rfl
end
theorem qyr:PG.cellsOf 48=5:=by kernel_rfl
theorem qxw{n:Nat} {qs:List AV} (h:qcu PG (n+1) 4 qs):∃s:Bool,qs=[.bool s]:=by unfold qcu at h;simp only[Tryz.underlying4]at h;obtain⟨s,rfl,_⟩:=h;exact⟨s,rfl⟩
theorem qu9{n:Nat} {qs:List AV} (h:qcu PG (n+4) 48 qs):∃a:Tk,AV.agg qs=qer a:=by unfold qcu at h;simp only[Tryz.underlying48]at h;obtain _|⟨_,_,_,_,h1,h⟩:=h;obtain _|⟨_,_,_,_,h2,h⟩:=h;obtain _|⟨_,_,_,_,h3,h⟩:=h;obtain _|⟨_,_,_,_,h4,h⟩:=h;obtain _|⟨_,_,_,_,h5,h⟩:=h;cases h;obtain⟨x1,rfl⟩:=za0 h1;obtain⟨x2,rfl⟩:=qko h2;obtain⟨x3,rfl⟩:=qua (n:=n) h3;obtain⟨x4,rfl⟩:=qxw h4;obtain⟨x5,rfl⟩:=qko h5;exact⟨⟨x1,x2,x3,x4,x5⟩,rfl⟩
theorem okTokens:qza PG 5 58=true:=by kernel_rfl
theorem agTok:qgc PG 48=some true:=rfl
theorem agToks:qgc PG 58=some false:=rfl
section
variable {H:Type} {enc:TypeId × Value->H} {W:World} {hg:GlobsIn W}
theorem zcx{b0 base:Nat} {sp:Nat->Bool} {held:Bool} {v:Value} {d:DataW H} {ps:List MemPlace} (ht:DataW.Trod enc PG W base sp held 58 v d ps) (hv:Value.okWide PG W .any b0 58 v):∃l:List Tk,VR (start W hg) (.fslc 5 (l.map qer)) v:=by obtain⟨qs,a,h1,h2,h3⟩:=zcw (hg:=hg) okTokens (ag:=false) agToks (fun _=>by kernel_rfl) ht hv;obtain⟨L,rfl⟩:=qni (n:=4) (enc:=qer) (ag:=true) Tryz.underlying58 agTok (fun cs x h hw=>by simp only[qgq,sj]at hw;obtain⟨a,ha⟩:=qu9 (n:=0) h;exact⟨a,by rw[<- hw,ha]⟩) h1;simp only[qgq,AV.single,sj]at h2;exact⟨L,by rw[<- qyr,h2];exact h3⟩
