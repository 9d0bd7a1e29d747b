/- Headings, markers, void elements, in both codes. No condition. -/
import Derived.Test.YtgpjifeeneeiaaaGreatDoorMK
namespace Go.Proofs.YtgpjifeeneeiaaaGreatDoor
set_option linter.unusedSimpArgs false
set_option linter.unusedVariables false
open Go Go.RowKit
set_option maxRecDepth 100000
structure FactR (C:Ctx) where
 b:Nat
 args:List AV
 H:Heap
 v:AV
 H':Heap
 ok:qe5 C b args H v H'
open Classical in
noncomputable def qw6 {C:Ctx}:List (FactR C)→qbv→qbv
 | [],call,c,args,H=>call c args H
 | x::r,call,c,args,H=>if c=.yl x.b∧args=x.args∧H=x.H then some (x.v,x.H') else qw6 r call c args H
theorem qs0 {C:Ctx} {call:qbv} (hc:CallOK C call):∀ (l:List (FactR C)),CallOK C (qw6 l call)
 | []=>hc
 | x::r=>{
  fn:=fun f args H v H' h=>by
   unfold qw6 at h
   split at h
   ·rename_i hx
    cases hx.1
   ·exact (qs0 hc r).fn f args H v H' h
  yl:=fun b args H v H' h=>by
   unfold qw6 at h
   split at h
   ·rename_i hx
    obtain ⟨hf,rfl,rfl⟩:=hx
    simp only [sj,Prod.mk.injEq] at h
    obtain ⟨rfl,rfl⟩:=h
    cases hf
    exact x.ok
   ·exact (qs0 hc r).yl b args H v H' h }
theorem zdy {T:List (Entry Tryz.prog)} (l:List (FactR (ctx T))):CallOK (ctx T) (qw6 l (qb9 (ctx T))):=qs0 qa1 l
theorem quk {C:Ctx} {b:Nat} {args:List AV} {H H':Heap} {v:AV} {ok:qe5 C b args H v H'} {r:List (FactR C)} {call:qbv}:qw6 (⟨b,args,H,v,H',ok⟩::r) call (.yl b) args H=some (v,H'):=by simp [qw6]
section
variable {C:Ctx} {call:qbv} {ops:Array Oper} {H0:Heap} {s:St} {o:Oper} {l:List Oper} {P:St→Prop}
theorem qg3 {b:Bool} (h1:b=true→∃ s',qyp C call ops H0 (qpd C call s o (some true)) l=some s'∧P s') (h2:b=false→∃ s',qyp C call ops H0 (qpd C call s o (some false)) l=some s'∧P s') :
  ∃ s',qyp C call ops H0 (qpd C call s o (some b)) l=some s'∧P s':=by
 cases b with
 | true=>exact h1 rfl
 | false=>exact h2 rfl
end
theorem qep {b k:Nat} {x:Blk} (h:k≠b):getF b [(k,x)]=none:=by unfold getF;rw [qbg h];rfl
structure FactP (C:Ctx) where
 f:FuncId
 args:List AV
 v:AV
 pure:qac args=true
 ok:CallAt C f args ⟨0,[]⟩ v ⟨0,[]⟩
open Classical in
noncomputable def qmo {C:Ctx}:List (FactP C)→qbv→qbv
 | [],call,c,args,H=>call c args H
 | x::r,call,c,args,H=>if c=.fn x.f∧args=x.args then some (x.v,H) else qmo r call c args H
theorem qs1 {C:Ctx} {call:qbv} (hc:CallOK C call):∀ (l:List (FactP C)),CallOK C (qmo l call)
 | []=>hc
 | x::r=>{
  fn:=fun f args H v H' h=>by
   unfold qmo at h
   split at h
   ·rename_i hx
    obtain ⟨hf,rfl⟩:=hx
    simp only [sj,Prod.mk.injEq] at h
    obtain ⟨rfl,rfl⟩:=h
    cases hf
    exact x.ok.lift x.pure _
   ·exact (qs1 hc r).fn f args H v H' h
  yl:=fun b args H v H' h=>by
   unfold qmo at h
   split at h
   ·rename_i hx
    cases hx.1
   ·exact (qs1 hc r).yl b args H v H' h }
theorem qhs {T:List (Entry Tryz.prog)} (l:List (FactP (ctx T))):CallOK (ctx T) (qmo l (qb9 (ctx T))):=qs1 qa1 l
theorem qg5 {C:Ctx} {f:FuncId} {args:List AV} {H:Heap} {v:AV} {hp:qac args=true} {ok:CallAt C f args ⟨0,[]⟩ v ⟨0,[]⟩} {r:List (FactP C)} {call:qbv}:qmo (⟨f,args,v,hp,ok⟩::r) call (.fn f) args H=some (v,H):=by simp [qmo]
def rgIn:Code→Option (Code × Code)
 | .rangeFunc _ _ a b=>some (a,b)
 | .seq a b=>match rgIn a with
  | some x=>some x
  | none=>rgIn b
 | .block _ b=>rgIn b
 | .loop b=>rgIn b
 | .cond _ a b=>match rgIn a with
  | some x=>some x
  | none=>rgIn b
 | _=>none
def rgA (o:Option Code):Code:=match o.bind rgIn with
 | some x=>x.1
 | none=>.skip
def rgB (o:Option Code):Code:=match o.bind rgIn with
 | some x=>x.2
 | none=>.skip
def rowsB (b:Nat) (R:List (Nat × Blk)):Prop:=(R.map (·.1)).Nodup∧∀ e,e∈R→e.1 < b∧∃ cs,e.2=.cells cs∧qac cs=true
structure RgK where
 ks:List Nat
 vs:List AV
 sz:Nat
 ps:List Nat
 as':Code
 bd:Code
def RgK.blk (K:RgK) (st:LoopState) (pend:Option Code) (ts:List (Nat × AV)):Blk:=.loop st pend K.ks K.vs ts K.sz K.ps K.as' K.bd
def RgK.rows {ρ:Type} (K:RgK) (b:Nat) (R:Option ρ→List (Nat × Blk)):Option ρ→List (Nat × Blk)
 | none=>(b,K.blk .ready none [])::R none
 | some r=>(b,K.blk .done (some .ret) [])::R (some r)
structure RgK.Ok {ρ:Type} (K:RgK) (b:Nat) (R:Option ρ→List (Nat × Blk)):Prop where
 vs:∀ σ,Idl b σ→qb6 σ [] K.vs K.vs
 rows:∀ c,rowsB b (R c)
section
variable {ρ:Type} {K:RgK} {b:Nat} {R:Option ρ→List (Nat × Blk)}
theorem RgK.Ok.self (h:K.Ok b R) (st:LoopState) (pend:Option Code) (ts:List (Nat × AV)):∀ σ,Idl (b+1) σ→qi0 σ [] (K.blk st pend ts) (K.blk st pend []):=fun σ hσ=>
 ⟨rfl,rfl,rfl,h.vs σ fun i hi=>hσ i (by omega),rfl,rfl,rfl,rfl,rfl⟩
theorem RgK.Ok.fit (h:K.Ok b R) {N m:Nat} {st:LoopState} {pend:Option Code} {ts:List (Nat × AV)} {c:Option ρ} {H:Heap} (hN:N≤b+1) (hm:b+1≤m) (hb:H.get b=some (K.blk st pend ts)) (hr:∀ e,e∈R c→H.get e.1=some e.2)
  {fs:List (List (Nat × Blk))} (hfs:fs.flatten=(b,K.blk st pend [])::R c):FitH N (idn (b+1)) [] H ⟨m,fs⟩ where
 nd1:=by simpa using idn_nd (b+1)
 nd2:=idn_nd2 (b+1)
 nd3:=by
  simp only [Heap.ents,hfs,List.map_cons,List.nodup_cons]
  refine ⟨fun hx=>?_,(h.rows c).1⟩
  obtain ⟨e,he,hx⟩:=List.mem_map.1 hx
  have:=((h.rows c).2 e he).1
  omega
 lt:=fun x hx=>by
  obtain ⟨i,hi,rfl⟩:=List.mem_map.1 hx
  have:i < b+1:=by simpa using hi
  show i < m;omega
 idn:=fun x hx hlt=>by
  obtain ⟨i,hi,rfl⟩:=List.mem_map.1 hx
  rfl
 num:=by show N≤m;omega
 src:=fun e he=>by
  simp only [Heap.ents,hfs,List.mem_cons] at he
  rcases he with rfl | he
  ·exact ⟨b,_,qvq (Nat.lt_succ_self b),hb,h.self _ _ _ _ (idl_idn (b+1))⟩
  ·obtain ⟨h1,cs,h2,h3⟩:=(h.rows c).2 e he
   refine ⟨e.1,e.2,qvq (by omega),hr e he,?_⟩
   rw [h2]
   exact qak h3
 frz:=fun x h=>by cases h
def qsa (go:Nat→Option ρ):Nat→Option ρ
 | 0=>none
 | j+1=>match go j with
  | some r=>some r
  | none=>qsa go j
def qxh:Option ρ→Out
 | none=>.normal
 | some _=>.ret
theorem round_K {T:List (Entry Tryz.prog)} (h:K.Ok b R) {args:List AV} {g:Option ρ} {s1:St} (hp:qt0 ⟨K.ks,K.vs,[],K.sz,⟨b+1,[[],[],(b,K.blk .ready none [])::R none]⟩⟩ K.ps args=some s1)
  (hw:∀ l,WpSr (ctx T) (b+1) (some l) K.as' s1 fun x s=>x=.normal∧∃ m f,s.H=⟨m,[f,[],(b,K.blk .ready none [])::R none]⟩∧getF b f=none ∧
   ∀ B,B=K.blk .busy none []→WpSr (ctx T) (b+1) (some l) K.bd { s with H:=⟨m,[f,[],(b,B)::R none]⟩ } fun x s'=>∃ m' f',(∀ i,i < b+1→getF i f'=none)∧s'.H=⟨m',[f',[],(b,B)::R g]⟩∧x=qxh g) :
  qe5 (ctx T) b args ⟨b+1,[[],(b,K.blk .ready none [])::R none]⟩ (.bool g.isNone) ⟨b+1,[[],K.rows b R g]⟩:=by
 refine qgb (pend:=none) (ks:=K.ks) (vs:=K.vs) (ts:=[]) (sz:=K.sz) (ps:=K.ps) (assign:=K.as') (body:=K.bd) (by simp [Heap.get,getFs,getF,RgK.blk]) hp fun l=>?_
 refine (hw l).mono fun x s hs=>?_
 obtain ⟨rfl,m,f,hH,hf,hb⟩:=hs
 refine ⟨rfl,none,K.ks,K.vs,[],K.sz,K.ps,K.as',K.bd,⟨m,[f,[],(b,K.blk .busy none [])::R none]⟩,?_,?_,(hb _ rfl).mono fun x s' hs'=>?_⟩
 ·rw [hH];simp [Heap.get,getFs,getF,hf,RgK.blk]
 ·rw [hH]
  have hn:setF b (K.blk .busy none []) f=none:=qnp hf
  unfold RgK.blk at hn
  simp [Heap.set,setFs,setF,hn,RgK.blk]
 ·obtain ⟨m',f',hf',hH',rfl⟩:=hs'
  have hfb:=hf' b (Nat.lt_succ_self b)
  have hn:∀ k,setF b k f'=none:=fun k=>qnp hfb
  refine ⟨.busy,none,K.ks,K.vs,[],K.sz,K.ps,K.as',K.bd,⟨m',[f',[],(b,K.blk (qgn (qxh g)).2.1 (qgn (qxh g)).2.2 [])::R g]⟩,?_,?_,?_,idn (b+1),[],?_⟩
  ·rw [hH'];simp [Heap.get,getFs,getF,hfb,RgK.blk]
  ·rw [hH'];simp [Heap.set,setFs,setF,hn,RgK.blk]
  ·cases g <;> rfl
  ·have hg:∀ e,e∈R g→Heap.get ⟨m',[f',[],(b,K.blk (qgn (qxh g)).2.1 (qgn (qxh g)).2.2 [])::R g]⟩ e.1=some e.2:=fun e he=>by
    have h1:=((h.rows g).2 e he).1
    have h2:Nat.beq b e.1=false:=qbg (by omega)
    simp only [Heap.get,getFs,hf' e.1 (by omega),getF,h2]
    rw [gF_of (h.rows g).1 he]
   refine h.fit (c:=g) (st:=(qgn (qxh g)).2.1) (pend:=(qgn (qxh g)).2.2) (ts:=[]) (Nat.le_refl _) (Nat.le_refl _) (by simp [Heap.get,getFs,getF,hfb]) hg ?_
   cases g <;> simp [RgK.rows,qxh,qgn]
end
def ze6 (L:List Nd):AV:=.func (.func 122) [] [.fptr [qa5 L] 0]
theorem zbf (L:List Nd):qaf (ze6 L)=true:=by simp [ze6,qaf,qac]
theorem c84 {T:List (Entry Tryz.prog)} (L:List Nd):CallAt (ctx T) 84 [qa5 L] ⟨0,[]⟩ (ze6 L) ⟨0,[]⟩:=by
 refine qa3 (fn:=Tryz.f84) (s0:=⟨[0,1,2],[qa5 L,.undef,.undef],[],4,⟨0,[[]]⟩⟩) Tryz.func84 rfl rfl rfl ?_
 repeat apply wq
 refine qa0 qa1 ?_
 simp [zS]
 repeat apply wq
 refine qa0 qa1 ?_
 simp [zS]
 refine qa8 ?_
 simp [qab,Tryz.f84,oneOr]
 refine ⟨[],[(0,[qa5 L])],by simp [ze6,qay,qb6,qc1],.froze (by simp) fun x hx=>?_⟩
 rw [List.mem_singleton] at hx
 subst hx
 exact ⟨[qa5 L],by simp [Heap.get,getFs,getF],qak (by simp [qac]),by simp [qac]⟩
noncomputable def e84:Entry Tryz.prog:=mkE 84 [[7]] (fun L:List Nd=>[qa5 L]) (fun _=>True) ze6 fun L _=>c84 (T:=[]) L
theorem k84 {T:List (Entry Tryz.prog)} (hT:qag 84 T=some e84.g) (L:List Nd) (H:Heap):qb9 (ctx T) (.fn 84) [qa5 L] H=some (ze6 L,H):=
 qdd hT (fun x y h=>by simp only [List.cons.injEq,and_true] at h;exact qc4 h) L trivial (by simp [qac]) (by simp [qfx]) H
section
variable {ρ:Type} {K:RgK} {b:Nat} {R:Option ρ→List (Nat × Blk)}
theorem za1 {T:List (Entry Tryz.prog)} (h:K.Ok b R) (L:List Nd) (hl:L.length≤1000000) (go:Nat→Option ρ) (hy:∀ j (hj:j < L.length),qe5 (ctx T) b [.int .i64 (j:Int),qaj L[j]] ⟨b+1,[[],(b,K.blk .ready none [])::R none]⟩ (.bool (go j).isNone) ⟨b+1,[[],K.rows b R (go j)]⟩) :
  CallAt (ctx T) 122 [.yld b,.fptr [qa5 L] 0] ⟨b+1,[(b,K.blk .ready none [])::R none]⟩ (.tup []) ⟨b+1,[K.rows b R (qsa go L.length)]⟩:=by
 obtain ⟨w,hw⟩ : ∃ w:Int,w=(L.length:Int) - 1:=⟨_,rfl⟩
 have hws:wr .i64 ((L.length:Int) - 1)=some w:=by rw [hw];exact qc6 (by omega) (by omega)
 have lb:qb2 b (idn (b+1))=some b:=qoc (Nat.lt_succ_self b)
 have gb:∀ {c:Option ρ} {n:Nat},∀ e,e∈R c→Heap.get ⟨n,[[],K.rows b R c]⟩ e.1=some e.2:=fun {c n} e he=>by
  have h1:=((h.rows c).2 e he).1
  have h2:Nat.beq b e.1=false:=qbg (by omega)
  cases c with
  | none=>simp only [Heap.get,getFs,getF,RgK.rows,h2];rw [gF_of (h.rows _).1 he]
  | some r=>simp only [Heap.get,getFs,getF,RgK.rows,h2];rw [gF_of (h.rows _).1 he]
 have lnL:∀ H,qe3 Tryz.prog H 22 (qa5 L)=some L.length:=fun H=>qfu
 refine qa3 (fn:=Tryz.f122) (s0:=⟨[0,1,3],[.yld b,.fptr [qa5 L] 0,.undef],[],19,⟨b+1,[]::[(b,K.blk .ready none [])::R none]⟩⟩) Tryz.func122 rfl rfl rfl ?_
 repeat apply wq
 refine qa0 qa1 ?_
 simp [zS,lnL,hws]
 refine qa9 (qax (fun x:Nat × Int=>(⟨[0,1,3],[.yld b,.fptr [qa5 L] 0,.int .i64 x.2],[],19,⟨b+1,[[],(b,K.blk .ready none [])::R none]⟩⟩ : St))
  (fun x=>x.1≤L.length∧x.2=(x.1:Int) - 1∧qsa go L.length=qsa go x.1) (fun x=>x.1) (idn (b+1)) [] (L.length,w) ⟨Nat.le_refl _,hw,rfl⟩
  ⟨rfl,rfl,rfl,by simp [qb6,qay,qaf,qac,lb],h.fit (c:=none) (st:=.ready) (pend:=none) (ts:=[]) (Nat.le_refl _) (Nat.le_refl _) (by simp [Heap.get,getFs,getF,RgK.rows]) (gb (c:=none)) (by simp)⟩ ?_)
 rintro ⟨j,v⟩ ⟨hj,hv,hx⟩ B hB
 simp only at hj hv hx
 cases j with
 | zero=>
  have hn:¬ 0≤v:=by omega
  repeat apply wq
  refine qa0 qa1 ?_
  simp [zS,hn]
  refine qal rfl ?_
  refine qat ?_
  simp
  refine ⟨[],rfl,idn (b+1),[],by simp [oneOr,qay,qb6],?_⟩
  rw [hx]
  exact h.fit (c:=none) (st:=.ready) (pend:=none) (ts:=[]) (Nat.le_refl _) (Nat.le_refl _) (by simp [Heap.get,getFs,getF,RgK.rows]) (gb (c:=none)) (by simp [qsa,RgK.rows])
 | succ q=>
  have hvq:v=(q:Int):=by omega
  subst hvq
  have hq:q < L.length:=by omega
  have hyq:=hy q hq
  have hix:qb1 Tryz.prog 22 (qa5 L) (.int .i64 (q:Int))=some (.fptr (L[q]).cs 0):=by rw [atX (by omega) (by omega),qc3 hq]
  have hn:(0:Int)≤(q:Int):=by omega
  have hs1:wr .i64 ((q:Int) - 1)=some ((q:Int) - 1):=qc6 (by omega) (by omega)
  simp only [qsa] at hx
  generalize L[q]=x at *
  repeat apply wq
  refine qa0 qa1 ?_
  simp [zS,hn]
  refine qai rfl ?_
  refine qa7 ?_
  simp
  repeat apply wq
  refine qa9 ?_
  obtain ⟨g,hg⟩ : ∃ g,go q=g:=⟨_,rfl⟩
  rw [hg] at hx hyq
  cases g with
  | some r=>
   simp only [Option.isNone_some] at hyq
   repeat apply wq
   refine qa0 (zdy [⟨b,_,_,_,_,hyq⟩]) ?_
   simp [zS,hix,qao,quk]
   refine qai rfl ?_
   refine qa8 ?_
   simp [qaa,qa2]
   refine ⟨[],rfl,idn (b+1),[],by simp [oneOr,qay,qb6],?_⟩
   rw [hx]
   exact h.fit (c:=some r) (st:=.done) (pend:=some .ret) (ts:=[]) (Nat.le_refl _) (Nat.le_refl _) (by simp [Heap.get,getFs,getF,RgK.rows]) (gb (c:=some r)) (by simp [RgK.rows])
  | none=>
   simp only [Option.isNone_none] at hyq
   repeat apply wq
   refine qa0 (zdy [⟨b,_,_,_,_,hyq⟩]) ?_
   simp [zS,hix,qao,quk]
   refine qal rfl ?_
   refine qa7 ?_
   simp
   refine qa0 qa1 ?_
   simp [zS,hs1]
   exact hB _ (q,(q:Int) - 1) (by simp) ⟨by simp only;omega,rfl,hx⟩ ⟨idn (b+1),[],rfl,rfl,rfl,by simp [qb6,qay,qaf,qac,lb],h.fit (c:=none) (st:=.ready) (pend:=none) (ts:=[]) (Nat.le_refl _) (Nat.le_refl _) (by simp [Heap.get,getFs,getF,RgK.rows]) (gb (c:=none)) (by simp)⟩
theorem qwf {T:List (Entry Tryz.prog)} (h:K.Ok b R) (L:List Nd) {ts:List (Nat × AV)} {g:Operand} {ps:Array Nat} (hps:ps.toList=K.ps) (ho:qbq ⟨K.ks,K.vs,ts,K.sz,⟨b,[R none]⟩⟩ g=some (ze6 L)) {r:Option ρ} {call:qbv}
  (hc:call (.fn 122) [.yld b,.fptr [qa5 L] 0] ⟨b+1,[(b,K.blk .ready none ts)::R none]⟩=some (.tup [],⟨b+1,[K.rows b R r]⟩)) :
  qeg (ctx T) call g ps K.as' K.bd ⟨K.ks,K.vs,ts,K.sz,⟨b,[R none]⟩⟩=some (qxh r,⟨K.ks,K.vs,ts,K.sz,⟨b+1,[R r]⟩⟩):=by
 have hent:qk3 (ctx T) 122=true:=by kernel_rfl
 unfold qeg
 rw [ho]
 simp only [Option.bind_some,hent,ze6,hps]
 have e:call (.fn 122) ([]++[.yld b]++[.fptr [qa5 L] 0]) (Heap.new ⟨b,[R none]⟩ (.loop .ready none K.ks K.vs ts K.sz K.ps K.as' K.bd))=some (.tup [],⟨b+1,[K.rows b R r]⟩):=hc
 rw [e]
 cases r with
 | none=>simp [Heap.get,getFs,getF,RgK.rows,RgK.blk,qxh,St.wH,Heap.drop,qea,killF]
 | some r=>simp [Heap.get,getFs,getF,RgK.rows,RgK.blk,qxh,St.wH,Heap.drop,qea,killF,qvj]
theorem zaf {T:List (Entry Tryz.prog)} (h:K.Ok b R) (L:List Nd) (hl:L.length≤1000000) (go:Nat→Option ρ) (hy:∀ j (hj:j < L.length),qe5 (ctx T) b [.int .i64 (j:Int),qaj L[j]] ⟨b+1,[[],(b,K.blk .ready none [])::R none]⟩ (.bool (go j).isNone) ⟨b+1,[[],K.rows b R (go j)]⟩)
  {ts:List (Nat × AV)} {g:Operand} {ps:Array Nat} (hps:ps.toList=K.ps) (ho:qbq ⟨K.ks,K.vs,ts,K.sz,⟨b,[R none]⟩⟩ g=some (ze6 L)) {n:Nat} {Q:Out→St→Prop} (hq:Q (qxh (qsa go L.length)) ⟨K.ks,K.vs,ts,K.sz,⟨b+1,[R (qsa go L.length)]⟩⟩) :
  WpS (ctx T) n (.rangeFunc g ps K.as' K.bd) ⟨K.ks,K.vs,ts,K.sz,⟨b,[R none]⟩⟩ Q:=by
 have lb:qb2 b (idn (b+1))=some b:=qoc (Nat.lt_succ_self b)
 have hcall:CallAt (ctx T) 122 [.yld b,.fptr [qa5 L] 0] ⟨b+1,[(b,K.blk .ready none ts)::R none]⟩ (.tup []) ⟨b+1,[K.rows b R (qsa go L.length)]⟩:=
  (za1 h L hl go hy).drop (σ:=idn (b+1)) (Φ:=[]) (fun _=>h.fit (c:=none) (st:=.ready) (pend:=none) (ts:=ts) (Nat.le_refl _) (Nat.le_refl _) (by simp [Heap.get,getFs,getF]) (fun e he=>by
   have h1:=((h.rows none).2 e he).1
   have h2:Nat.beq b e.1=false:=qbg (by omega)
   simp only [Heap.get,getFs,getF,h2];rw [gF_of (h.rows _).1 he]) (by simp)) (by simp [qb6,qay,qaf,qac,lb])
 exact qn8 (qca [⟨122,_,_,_,_,hcall⟩]) ⟨_,_,qwf (T:=T) h L hps ho (r:=qsa go L.length) (by simp [qdb]),hq⟩
end
abbrev lsSvg:Str:= lsB0
abbrev qq4:Str:= lsB4
abbrev qtj:Str:= lsB10
abbrev qky:Str:= lsB14
abbrev zc0:Str:= lsB2
def qdc (sp:Int) (x:Str):Bool:=if sp=1 then inW lsSvg x else if sp=2 then decide (x=[97,110,110,111,116,97,116,105,111,110,45,120,109,108]) || inW qq4 x else decide (sp=0) && inW qtj x
def qge (sc sp:Int) (x:Str):Bool:=
 if sc=3 then decide (sp=0) && inW zc0 x
 else if sc=0∨sc=1∨sc=2 then
  if sp=0 then (if x=[111,108]∨x=[117,108] then decide (sc=1) else if x=[98,117,116,116,111,110] then decide (sc=2) else inW qky x) else qdc sp x
 else !decide (sc=4) || !decide (sp=0) || (!decide (x=[111,112,116,103,114,111,117,112]) && !decide (x=[111,112,116,105,111,110]))
theorem c86 {T:List (Entry Tryz.prog)} (hc0:qag 44 T=some e44a.g) (sp:Int) (x:Str) (hx:x.length≤1000000000):CallAt (ctx T) 86 [.int .i64 sp,.str x] ⟨0,[]⟩ (.bool (qdc sp x)) ⟨0,[]⟩:=by
 have kw0:=fun (x:Str) (hx:x.length≤1000000000) (H:Heap)=>k44a (W:= lsB0) (x:=x) hc0 (qmp (by decide)) (by decide) hx H
 have kw1:=fun (x:Str) (hx:x.length≤1000000000) (H:Heap)=>k44a (W:= lsB4) (x:=x) hc0 (qmp (by decide)) (by decide) hx H
 have kw2:=fun (x:Str) (hx:x.length≤1000000000) (H:Heap)=>k44a (W:= lsB10) (x:=x) hc0 (qmp (by decide)) (by decide) hx H
 refine qa3 (fn:=Tryz.f86) (s0:=⟨[0,1,4,5],[.int .i64 sp,.str x,.undef,.undef],[],24,⟨0,[[]]⟩⟩) Tryz.func86 rfl rfl rfl ?_
 (repeat' (first
  | with_reducible refine qah ?_
  | with_reducible refine qa9 ?_
  | (with_reducible refine qa0 qa1 ?_;apply qbn;simp [zS, *];exact rfl)
  | (with_reducible refine qas ?_;simp only [qaa,qa2])
  | (with_reducible refine qaz (fun hc=>?_) (fun hc=>?_) <;> ((have hd:=hc);(try simp at hd);(try subst hd);apply qbn;simp [zS, *];exact rfl))
  | (refine qau rfl (fun hc=>?_) (fun hc=>?_) <;> ((have hd:=hc);(try simp at hd);(try subst hd)))
  | (with_reducible refine qa7 ?_;simp only [qaa,qa2])
  | (with_reducible refine qa8 ?_;simp [qab,Tryz.f86,oneOr,qaa,qa2])))
 all_goals first | exact qa4 rfl (by simp [qdc, *]) | (exfalso;omega)
theorem inj_86 (x y:Int × Str) (h:(fun z:Int × Str=>([.int .i64 z.1,.str z.2]:List AV)) x=(fun z:Int × Str=>([.int .i64 z.1,.str z.2]:List AV)) y):x=y:=by
 obtain ⟨x0,x1⟩:=x
 obtain ⟨y0,y1⟩:=y
 simp only [List.cons.injEq,and_true] at h
 obtain ⟨h0,h1⟩:=h
 have g0:x0=y0:=AV.int.inj h0 |>.2
 have g1:x1=y1:=AV.str.inj h1
 subst g0 g1
 rfl
noncomputable def e86:Entry Tryz.prog:=mkE 86 [[],[]] (fun z:Int × Str=>[.int .i64 z.1,.str z.2]) (fun z=>(z.2.length≤1000000000)) (fun z=>.bool (qdc z.1 z.2)) fun z h=>c86 (T:=[e44a]) rfl z.1 z.2 h
theorem k86 {T:List (Entry Tryz.prog)} (hT:qag 86 T=some e86.g) (sp:Int) (x:Str) (hx:x.length≤1000000000) (H:Heap):qb9 (ctx T) (.fn 86) [.int .i64 sp,.str x] H=some (.bool (qdc sp x),H):=
 qae hT inj_86 (sp,x) hx rfl (by simp [qar])
theorem c51 {T:List (Entry Tryz.prog)} (hc0:qag 44 T=some e44a.g) (hc1:qag 86 T=some e86.g) (sc:Int) (sp:Int) (x:Str) (hx:x.length≤1000000000):CallAt (ctx T) 51 [.int .i64 sc,.int .i64 sp,.str x] ⟨0,[]⟩ (.bool (qge sc sp x)) ⟨0,[]⟩:=by
 have kw0:=fun (x:Str) (hx:x.length≤1000000000) (H:Heap)=>k44a (W:= lsB2) (x:=x) hc0 (qmp (by decide)) (by decide) hx H
 have kw1:=fun (x:Str) (hx:x.length≤1000000000) (H:Heap)=>k44a (W:= lsB14) (x:=x) hc0 (qmp (by decide)) (by decide) hx H
 have kc1:=@k86 T hc1
 refine qa3 (fn:=Tryz.f51) (s0:=⟨[0,1,2,6,7,10,32,41,42],[.int .i64 sc,.int .i64 sp,.str x,.undef,.undef,.undef,.undef,.undef,.undef],[],53,⟨0,[[]]⟩⟩) Tryz.func51 rfl rfl rfl ?_
 (repeat' (first
  | with_reducible refine qah ?_
  | with_reducible refine qa9 ?_
  | (with_reducible refine qa0 qa1 ?_;apply qbn;simp [zS, *];exact rfl)
  | (with_reducible refine qas ?_;simp only [qaa,qa2])
  | (with_reducible refine qaz (fun hc=>?_) (fun hc=>?_) <;> ((have hd:=hc);(try simp at hd);(try subst hd);apply qbn;simp [zS, *];exact rfl))
  | (refine qai rfl ?_)
  | (refine qau rfl (fun hc=>?_) (fun hc=>?_) <;> ((have hd:=hc);(try simp at hd);(try subst hd)))
  | (with_reducible refine qa7 ?_;simp only [qaa,qa2])
  | (with_reducible refine qa8 ?_;simp [qab,Tryz.f51,oneOr,qaa,qa2])))
 all_goals first | exact qa4 rfl (by simp [qge, *]) | (exfalso;omega)
theorem inj_51 (x y:Int × Int × Str) (h:(fun z:Int × Int × Str=>([.int .i64 z.1,.int .i64 z.2.1,.str z.2.2]:List AV)) x=(fun z:Int × Int × Str=>([.int .i64 z.1,.int .i64 z.2.1,.str z.2.2]:List AV)) y):x=y:=by
 obtain ⟨x0,x1,x2⟩:=x
 obtain ⟨y0,y1,y2⟩:=y
 simp only [List.cons.injEq,and_true] at h
 obtain ⟨h0,h1,h2⟩:=h
 have g0:x0=y0:=AV.int.inj h0 |>.2
 have g1:x1=y1:=AV.int.inj h1 |>.2
 have g2:x2=y2:=AV.str.inj h2
 subst g0 g1 g2
 rfl
noncomputable def e51:Entry Tryz.prog:=mkE 51 [[],[],[]] (fun z:Int × Int × Str=>[.int .i64 z.1,.int .i64 z.2.1,.str z.2.2]) (fun z=>(z.2.2.length≤1000000000)) (fun z=>.bool (qge z.1 z.2.1 z.2.2)) fun z h=>c51 (T:=[e44a,e86]) rfl rfl z.1 z.2.1 z.2.2 h
theorem k51 {T:List (Entry Tryz.prog)} (hT:qag 51 T=some e51.g) (sc:Int) (sp:Int) (x:Str) (hx:x.length≤1000000000) (H:Heap):qb9 (ctx T) (.fn 51) [.int .i64 sc,.int .i64 sp,.str x] H=some (.bool (qge sc sp x),H):=
 qae hT inj_51 (sc,sp,x) hx rfl (by simp [qar])
theorem c109 {T:List (Entry Tryz.prog)} (hc0:qag 44 T=some e44a.g) (x:Str) (hx:x.length≤1000000000):CallAt (ctx T) 109 [.str x] ⟨0,[]⟩ (.bool (inW qpb x)) ⟨0,[]⟩:=by
 have kw0:=fun (x:Str) (hx:x.length≤1000000000) (H:Heap)=>k44a (W:= qpb) (x:=x) hc0 (qmp (by decide)) (by decide) hx H
 refine qa3 (fn:=Tryz.f109) (s0:=⟨[0,2],[.str x,.undef],[],5,⟨0,[[]]⟩⟩) Tryz.func109 rfl rfl rfl ?_
 (repeat' (first
  | with_reducible refine qah ?_
  | (with_reducible refine qa0 qa1 ?_;apply qbn;simp [zS, *];exact rfl)
  | (with_reducible refine qas ?_;simp only [qaa,qa2])
  | (with_reducible refine qa8 ?_;simp [qab,Tryz.f109,oneOr,qaa,qa2])))
 all_goals first | exact qa4 rfl (by rfl) | (exfalso;omega)
theorem inj_109 (x y:Str) (h:(fun z:Str=>([.str z]:List AV)) x=(fun z:Str=>([.str z]:List AV)) y):x=y:=by
 simp only [List.cons.injEq,and_true] at h
 exact AV.str.inj h
noncomputable def e109:Entry Tryz.prog:=mkE 109 [[]] (fun z:Str=>[.str z]) (fun z=>(z.length≤1000000000)) (fun z=>.bool (inW qpb z)) fun z h=>c109 (T:=[e44a]) rfl z h
theorem k109 {T:List (Entry Tryz.prog)} (hT:qag 109 T=some e109.g) (x:Str) (hx:x.length≤1000000000) (H:Heap):qb9 (ctx T) (.fn 109) [.str x] H=some (.bool (inW qpb x),H):=
 qae hT inj_109 (x) hx rfl (by simp [qar])
theorem sp_math:qbo lsB12=[97,110,110,111,116,97,116,105,111,110,45,120,109,108]::qbo qq4:=by decide +kernel
theorem in_math (x:Str):inW lsB12 x=(decide (x=[97,110,110,111,116,97,116,105,111,110,45,120,109,108]) || inW qq4 x):=by
 unfold inW;rw [sp_math];simp [List.mem_cons,Bool.decide_or]
theorem sp_list:qbo [111,108,32,117,108]=[[111,108],[117,108]]:=by decide +kernel
theorem zb3:qbo [98,117,116,116,111,110]=[[98,117,116,116,111,110]]:=by decide +kernel
theorem sp_opts:qbo lsB5=[[111,112,116,103,114,111,117,112],[111,112,116,105,111,110]]:=by decide +kernel
theorem in_list (x:Str):inW [111,108,32,117,108] x=decide (x=[111,108]∨x=[117,108]):=by unfold inW;rw [sp_list];simp
theorem zcj (x:Str):inW [98,117,116,116,111,110] x=decide (x=[98,117,116,116,111,110]):=by unfold inW;rw [zb3];simp
theorem in_opts (x:Str):inW lsB5 x=decide (x=[111,112,116,103,114,111,117,112]∨x=[111,112,116,105,111,110]):=by unfold inW;rw [sp_opts];simp
def qey (sp:Int) (x:Str):Bool:=decide (sp=2) && inW lsB12 x || decide (sp=1) && inW lsSvg x
theorem c170 {T:List (Entry Tryz.prog)} (hc0:qag 105 T=some e105.g) (sp:Int) (x:Str):CallAt (ctx T) 170 [.int .i64 sp,.str x] ⟨0,[]⟩ (.bool (qey sp x)) ⟨0,[]⟩:=by
 have kw0:=fun (x:Str) (H:Heap)=>k105 hc0 (w:= lsB12) x (by decide) H
 have kw1:=fun (x:Str) (H:Heap)=>k105 hc0 (w:= lsB0) x (by decide) H
 refine qa3 (fn:=Tryz.f170) (s0:=⟨[0,1,4],[.int .i64 sp,.str x,.undef],[],19,⟨0,[[]]⟩⟩) Tryz.func170 rfl rfl rfl ?_
 (repeat' (first
  | with_reducible refine qah ?_
  | (with_reducible refine qa0 qa1 ?_;apply qbn;simp [zS, *];exact rfl)
  | (with_reducible refine qas ?_;simp only [qaa,qa2])
  | (with_reducible refine qaz (fun hc=>?_) (fun hc=>?_) <;> ((have hd:=hc);(try simp at hd);(try subst hd);apply qbn;simp [zS, *];exact rfl))
  | (with_reducible refine qa8 ?_;simp [qab,Tryz.f170,oneOr,qaa,qa2])))
 all_goals first | exact qa4 rfl (by simp [qey, *]) | (exfalso;omega)
theorem inj_170 (x y:Int × Str) (h:(fun z:Int × Str=>([.int .i64 z.1,.str z.2]:List AV)) x=(fun z:Int × Str=>([.int .i64 z.1,.str z.2]:List AV)) y):x=y:=by
 obtain ⟨x0,x1⟩:=x
 obtain ⟨y0,y1⟩:=y
 simp only [List.cons.injEq,and_true] at h
 obtain ⟨h0,h1⟩:=h
 have g0:x0=y0:=AV.int.inj h0 |>.2
 have g1:x1=y1:=AV.str.inj h1
 subst g0 g1
 rfl
noncomputable def e170:Entry Tryz.prog:=mkE 170 [[],[]] (fun z:Int × Str=>[.int .i64 z.1,.str z.2]) (fun z=>True) (fun z=>.bool (qey z.1 z.2)) fun z h=>c170 (T:=[e105]) rfl z.1 z.2 
theorem k170 {T:List (Entry Tryz.prog)} (hT:qag 170 T=some e170.g) (sp:Int) (x:Str) (H:Heap):qb9 (ctx T) (.fn 170) [.int .i64 sp,.str x] H=some (.bool (qey sp x),H):=
 qae hT inj_170 (sp,x) trivial rfl (by simp [qar])
theorem qpq (sp:Int) (x:Str):(qey sp x || decide (sp=0) && inW qtj x)=qdc sp x:=by
 unfold qey qdc
 rw [in_math]
 by_cases h1:sp=1
 ·subst h1;simp
 ·by_cases h2:sp=2
  ·subst h2;simp
  ·simp [h1,h2]
theorem c161 {T:List (Entry Tryz.prog)} (hc0:qag 170 T=some e170.g) (hc1:qag 136 T=some e136.g) (sp:Int) (x:Str):CallAt (ctx T) 161 [.int .i64 sp,.str x] ⟨0,[]⟩ (.bool (qdc sp x)) ⟨0,[]⟩:=by
 have kc0:=@k170 T hc0
 have kw0:=fun (s:Int) (x:Str) (H:Heap)=>k136 hc1 s x (W:= lsB10) (by decide) H
 refine qa3 (fn:=Tryz.f161) (s0:=⟨[0,1,4],[.int .i64 sp,.str x,.undef],[],13,⟨0,[[]]⟩⟩) Tryz.func161 rfl rfl rfl ?_
 (repeat' (first
  | with_reducible refine qah ?_
  | (with_reducible refine qa0 qa1 ?_;apply qbn;simp [zS, *];exact rfl)
  | (with_reducible refine qas ?_;simp only [qaa,qa2])
  | (with_reducible refine qaz (fun hc=>?_) (fun hc=>?_) <;> ((have hd:=hc);(try simp at hd);(try subst hd);apply qbn;simp [zS, *];exact rfl))
  | (with_reducible refine qa8 ?_;simp [qab,Tryz.f161,oneOr,qaa,qa2])))
 all_goals first | exact qa4 rfl (by simp [← qpq, *]) | (exfalso;omega)
theorem inj_161 (x y:Int × Str) (h:(fun z:Int × Str=>([.int .i64 z.1,.str z.2]:List AV)) x=(fun z:Int × Str=>([.int .i64 z.1,.str z.2]:List AV)) y):x=y:=by
 obtain ⟨x0,x1⟩:=x
 obtain ⟨y0,y1⟩:=y
 simp only [List.cons.injEq,and_true] at h
 obtain ⟨h0,h1⟩:=h
 have g0:x0=y0:=AV.int.inj h0 |>.2
 have g1:x1=y1:=AV.str.inj h1
 subst g0 g1
 rfl
noncomputable def e161:Entry Tryz.prog:=mkE 161 [[],[]] (fun z:Int × Str=>[.int .i64 z.1,.str z.2]) (fun z=>True) (fun z=>.bool (qdc z.1 z.2)) fun z h=>c161 (T:=[e170,e136]) rfl rfl z.1 z.2 
theorem k161 {T:List (Entry Tryz.prog)} (hT:qag 161 T=some e161.g) (sp:Int) (x:Str) (H:Heap):qb9 (ctx T) (.fn 161) [.int .i64 sp,.str x] H=some (.bool (qdc sp x),H):=
 qae hT inj_161 (sp,x) trivial rfl (by simp [qar])
theorem qu1 (x:Str):qey 0 x=false:=rfl
theorem zau (sp:Int) (x:Str):(qey sp x || decide (sp=0) && inW qky x)=if sp=0 then inW qky x else qdc sp x:=by
 by_cases h:sp=0
 ·subst h;simp [qu1]
 ·simp [h,← qpq]
theorem ends_ol:inW qky [111,108]=false∧inW qky [117,108]=false∧inW qky [98,117,116,116,111,110]=false:=by decide +kernel
theorem stops_eq (sc sp:Int) (x:Str):qge sc sp x =
  if sc=0 then (qey sp x || decide (sp=0) && inW qky x) else if sc=1 then (qey sp x || decide (sp=0) && inW qky x) || (decide (sp=0) && inW [111,108,32,117,108] x)
  else if sc=2 then (qey sp x || decide (sp=0) && inW qky x) || (decide (sp=0) && inW [98,117,116,116,111,110] x)
  else if sc=3 then decide (sp=0) && inW zc0 x else !decide (sc=4) || !(decide (sp=0) && inW lsB5 x):=by
 obtain ⟨e1,e2,e3⟩:=ends_ol
 rw [zau,in_list,zcj,in_opts]
 unfold qge
 by_cases h0:sp=0
 ·subst h0
  by_cases a:x=[111,108]
  ·subst a;by_cases c0:sc=0 <;> by_cases c1:sc=1 <;> by_cases c2:sc=2 <;> by_cases c3:sc=3 <;> simp_all
  ·by_cases b:x=[117,108]
   ·subst b;by_cases c0:sc=0 <;> by_cases c1:sc=1 <;> by_cases c2:sc=2 <;> by_cases c3:sc=3 <;> simp_all
   ·by_cases d:x=[98,117,116,116,111,110]
    ·subst d;by_cases c0:sc=0 <;> by_cases c1:sc=1 <;> by_cases c2:sc=2 <;> by_cases c3:sc=3 <;> simp_all
    ·by_cases c0:sc=0 <;> by_cases c1:sc=1 <;> by_cases c2:sc=2 <;> by_cases c3:sc=3 <;> simp_all
 ·by_cases c0:sc=0 <;> by_cases c1:sc=1 <;> by_cases c2:sc=2 <;> by_cases c3:sc=3 <;> simp_all
theorem c159 {T:List (Entry Tryz.prog)} (hc0:qag 170 T=some e170.g) (hc1:qag 136 T=some e136.g) (sc:Int) (sp:Int) (x:Str):CallAt (ctx T) 159 [.int .i64 sc,.int .i64 sp,.str x] ⟨0,[]⟩ (.bool (qge sc sp x)) ⟨0,[]⟩:=by
 have kc0:=@k170 T hc0
 have kw0:=fun (s:Int) (x:Str) (H:Heap)=>k136 hc1 s x (W:= lsB14) (by decide) H
 have kw1:=fun (s:Int) (x:Str) (H:Heap)=>k136 hc1 s x (W:=[111,108,32,117,108]) (by decide) H
 have kw2:=fun (s:Int) (x:Str) (H:Heap)=>k136 hc1 s x (W:=[98,117,116,116,111,110]) (by decide) H
 have kw3:=fun (s:Int) (x:Str) (H:Heap)=>k136 hc1 s x (W:= lsB2) (by decide) H
 have kw4:=fun (s:Int) (x:Str) (H:Heap)=>k136 hc1 s x (W:= lsB5) (by decide) H
 refine qa3 (fn:=Tryz.f159) (s0:=⟨[0,1,2,6,7],[.int .i64 sc,.int .i64 sp,.str x,.undef,.undef],[],48,⟨0,[[]]⟩⟩) Tryz.func159 rfl rfl rfl ?_
 (repeat' (first
  | with_reducible refine qah ?_
  | (with_reducible refine qa0 qa1 ?_;apply qbn;simp [zS, *];exact rfl)
  | (with_reducible refine qas ?_;simp only [qaa,qa2])
  | (with_reducible refine qaz (fun hc=>?_) (fun hc=>?_) <;> ((have hd:=hc);(try simp at hd);(try subst hd);apply qbn;simp [zS, *];exact rfl))
  | (with_reducible refine qj3 (fun hc=>?_) (fun hc=>?_) <;> ((have hd:=hc);(try simp at hd);(try subst hd);apply qbn;simp [zS, *];exact rfl))
  | (refine qau rfl (fun hc=>?_) (fun hc=>?_) <;> ((have hd:=hc);(try simp at hd);(try subst hd)))
  | (with_reducible refine qa7 ?_;simp only [qaa,qa2])
  | (with_reducible refine qa8 ?_;simp [qab,Tryz.f159,oneOr,qaa,qa2])))
 all_goals first | exact qa4 rfl (by simp [stops_eq, *]) | (exfalso;omega)
theorem inj_159 (x y:Int × Int × Str) (h:(fun z:Int × Int × Str=>([.int .i64 z.1,.int .i64 z.2.1,.str z.2.2]:List AV)) x=(fun z:Int × Int × Str=>([.int .i64 z.1,.int .i64 z.2.1,.str z.2.2]:List AV)) y):x=y:=by
 obtain ⟨x0,x1,x2⟩:=x
 obtain ⟨y0,y1,y2⟩:=y
 simp only [List.cons.injEq,and_true] at h
 obtain ⟨h0,h1,h2⟩:=h
 have g0:x0=y0:=AV.int.inj h0 |>.2
 have g1:x1=y1:=AV.int.inj h1 |>.2
 have g2:x2=y2:=AV.str.inj h2
 subst g0 g1 g2
 rfl
noncomputable def e159:Entry Tryz.prog:=mkE 159 [[],[],[]] (fun z:Int × Int × Str=>[.int .i64 z.1,.int .i64 z.2.1,.str z.2.2]) (fun z=>True) (fun z=>.bool (qge z.1 z.2.1 z.2.2)) fun z h=>c159 (T:=[e170,e136]) rfl rfl z.1 z.2.1 z.2.2 
theorem k159 {T:List (Entry Tryz.prog)} (hT:qag 159 T=some e159.g) (sc:Int) (sp:Int) (x:Str) (H:Heap):qb9 (ctx T) (.fn 159) [.int .i64 sc,.int .i64 sp,.str x] H=some (.bool (qge sc sp x),H):=
 qae hT inj_159 (sc,sp,x) trivial rfl (by simp [qar])
theorem c130 {T:List (Entry Tryz.prog)} (hc0:qag 105 T=some e105.g) (x:Str):CallAt (ctx T) 130 [.str x] ⟨0,[]⟩ (.bool (inW qpb x)) ⟨0,[]⟩:=by
 have kw0:=fun (x:Str) (H:Heap)=>k105 hc0 (w:= qpb) x (by decide) H
 refine qa3 (fn:=Tryz.f130) (s0:=⟨[0,2],[.str x,.undef],[],5,⟨0,[[]]⟩⟩) Tryz.func130 rfl rfl rfl ?_
 (repeat' (first
  | with_reducible refine qah ?_
  | (with_reducible refine qa0 qa1 ?_;apply qbn;simp [zS, *];exact rfl)
  | (with_reducible refine qas ?_;simp only [qaa,qa2])
  | (with_reducible refine qa8 ?_;simp [qab,Tryz.f130,oneOr,qaa,qa2])))
 all_goals first | exact qa4 rfl (by rfl) | (exfalso;omega)
theorem inj_130 (x y:Str) (h:(fun z:Str=>([.str z]:List AV)) x=(fun z:Str=>([.str z]:List AV)) y):x=y:=by
 simp only [List.cons.injEq,and_true] at h
 exact AV.str.inj h
noncomputable def e130:Entry Tryz.prog:=mkE 130 [[]] (fun z:Str=>[.str z]) (fun z=>True) (fun z=>.bool (inW qpb z)) fun z h=>c130 (T:=[e105]) rfl z 
theorem k130 {T:List (Entry Tryz.prog)} (hT:qag 130 T=some e130.g) (x:Str) (H:Heap):qb9 (ctx T) (.fn 130) [.str x] H=some (.bool (inW qpb x),H):=
 qae hT inj_130 (x) trivial rfl (by simp [qar])
@[simp] theorem szT33:qc7 Tryz.prog 33=some 1:=rfl
@[simp] theorem agT33:qgs Tryz.prog 33=some false:=rfl
@[simp] theorem byT33:qce Tryz.prog 33=some 8:=rfl
@[simp] theorem alT33 (H:Heap):alV Tryz.prog H 33=some (.ptr H.n 0,H.new (.cells [.nilF])):=rfl
@[simp] theorem zeT33:qbt Tryz.prog 33=some (.nilF):=rfl
attribute [simp] Tryz.underlying33
@[simp 500] theorem rvF33 (H:Heap) (cs:List AV) (o:Nat):qb5 Tryz.prog H 33 (.fptr cs o)=qcl cs o:=rfl
@[simp 500] theorem rvP33 (H:Heap) (b o:Nat):qb5 Tryz.prog H 33 (.ptr b o)=(H.get b).bind fun k=>k.rd.bind fun cs=>qcl cs o:=rfl
def qfh (f:FuncId) (c:List AV):AV:=.func (.func f) [] c
def qok (p q:Nd→Bool) (L:List Nd) (j:Nat):Option Bool:=if p (qa6 L j)=true then some true else if q (qa6 L j)=true then some false else none
def zbp (p q:Nd→Bool) (L:List Nd):Bool:=(qsa (qok p q L) L.length).getD false
noncomputable def zca (L:List Nd) (v1 v2:AV):RgK:=⟨[0,1,2,4,5,6,8,10,11,12],[qa5 L,v1,v2,.ptr 0 0,.ptr 1 0,.ptr 2 0,.undef,ze6 L,.undef,.undef],19,[11,12],rgA Tryz.f48.body,rgB Tryz.f48.body⟩
def rOut (v1 v2:AV):Option Bool→List (Nat × Blk)
 | none=>[(2,.cells [.bool false]),(1,.cells [v2]),(0,.cells [v1])]
 | some r=>[(2,.cells [.bool r]),(1,.cells [v2]),(0,.cells [v1])]
theorem zc9 {L:List Nd} {v1 v2:AV} (h1:qaf v1=true) (h2:qaf v2=true):(zca L v1 v2).Ok 3 (rOut v1 v2) where
 vs:=fun σ hσ=>by simp [zca,qb6,qay,hσ 0 (by omega),hσ 1 (by omega),hσ 2 (by omega),h1,h2,zbf]
 rows:=fun c=>by cases c <;> simp [rOut,rowsB,qac,qaf,h1,h2]
theorem zb8 {T:List (Entry Tryz.prog)} (L:List Nd) {f1 f2:FuncId} {c1 c2:List AV} (k1:qac c1=true) (k2:qac c2=true) {p q:Nd→Bool} (n:Nd) (hp:CallAt (ctx T) f1 (qaj n::c1) ⟨0,[]⟩ (.bool (p n)) ⟨0,[]⟩) (hq:CallAt (ctx T) f2 (qaj n::c2) ⟨0,[]⟩ (.bool (q n)) ⟨0,[]⟩) (j:Int) :
  qe5 (ctx T) 3 [.int .i64 j,qaj n] ⟨4,[[],(3,(zca L (qfh f1 c1) (qfh f2 c2)).blk .ready none [])::rOut (qfh f1 c1) (qfh f2 c2) none]⟩ (.bool (if p n=true then some true else if q n=true then some false else none:Option Bool).isNone)
   ⟨4,[[],(zca L (qfh f1 c1) (qfh f2 c2)).rows 3 (rOut (qfh f1 c1) (qfh f2 c2)) (if p n=true then some true else if q n=true then some false else none)]⟩:=by
 have v1:qaf (qfh f1 c1)=true:=by simp [qfh,qaf,qac,k1]
 have v2:qaf (qfh f2 c2)=true:=by simp [qfh,qaf,qac,k2]
 refine round_K (zc9 v1 v2) (s1:=⟨[0,1,2,4,5,6,8,10,11,12],[qa5 L,qfh f1 c1,qfh f2 c2,.ptr 0 0,.ptr 1 0,.ptr 2 0,.undef,ze6 L,.int .i64 j,qaj n],[],19,⟨4,[[],[],(3,(zca L (qfh f1 c1) (qfh f2 c2)).blk .ready none [])::rOut (qfh f1 c1) (qfh f2 c2) none]⟩⟩) rfl fun l=>?_
 generalize (zca L (qfh f1 c1) (qfh f2 c2)).blk .ready none []=B0
 generalize (zca L (qfh f1 c1) (qfh f2 c2)).blk .busy none []=B1
 simp only [zca,rgA,rgB,rgIn,Tryz.f48,Option.bind_some]
 refine qa0 qa1 ?_
 simp [zN]
 refine ⟨_,_,⟨rfl,rfl⟩,rfl,?_⟩
 simp only [rOut,qfh]
 refine qa9 ?_
 have p1:qac (qaj n::c1)=true:=by simp [qac,k1]
 have p2:qac (qaj n::c2)=true:=by simp [qac,k2]
 repeat apply wq
 refine qa0 (qhs [⟨f1,_,_,p1,hp⟩]) ?_
 rcases Bool.eq_false_or_eq_true (p n) with hb | hb
 ·simp [zS,qao,qg5,hb]
  refine qai rfl ?_
  repeat apply wq
  refine qa0 qa1 ?_
  simp [zS]
  refine qa8 ?_
  simp only [qaa,qa2]
  exact ⟨_,_,fun i hi=>qep (by omega),rfl,rfl⟩
 ·simp [zS,qao,qg5,hb]
  refine qal rfl ?_
  refine qa7 ?_
  simp only [qaa,qa2]
  repeat apply wq
  refine qa0 (qhs [⟨f2,_,_,p2,hq⟩]) ?_
  rcases Bool.eq_false_or_eq_true (q n) with hd | hd
  ·simp [zS,qao,qg5,hd]
   refine qai rfl ?_
   repeat apply wq
   refine qa0 qa1 ?_
   simp [zS]
   refine qa8 ?_
   simp only [qaa,qa2]
   exact ⟨_,_,fun i hi=>qep (by omega),rfl,rfl⟩
  ·simp [zS,qao,qg5,hd]
   refine qal rfl ?_
   refine qa7 ?_
   simp only [qaa,qa2]
   exact ⟨_,_,fun i hi=>qep (by omega),rfl,rfl⟩
theorem c48 {T:List (Entry Tryz.prog)} (hB:qag 84 T=some e84.g) (L:List Nd) (hl:L.length≤1000000) {f1 f2:FuncId} {c1 c2:List AV} (k1:qac c1=true) (k2:qac c2=true) {p q:Nd→Bool}
  (hp:∀ n,n∈L→CallAt (ctx T) f1 (qaj n::c1) ⟨0,[]⟩ (.bool (p n)) ⟨0,[]⟩) (hq:∀ n,n∈L→CallAt (ctx T) f2 (qaj n::c2) ⟨0,[]⟩ (.bool (q n)) ⟨0,[]⟩):CallAt (ctx T) 48 [qa5 L,qfh f1 c1,qfh f2 c2] ⟨0,[]⟩ (.bool (zbp p q L)) ⟨0,[]⟩:=by
 have v1:qaf (qfh f1 c1)=true:=by simp [qfh,qaf,qac,k1]
 have v2:qaf (qfh f2 c2)=true:=by simp [qfh,qaf,qac,k2]
 have kb:=fun H=>k84 hB L H
 have s1:(qfh f1 c1).single=true:=rfl
 have s2:(qfh f2 c2).single=true:=rfl
 have e1:(qfh f1 c1).cells=[qfh f1 c1]:=rfl
 have e2:(qfh f2 c2).cells=[qfh f2 c2]:=rfl
 refine qa3 (fn:=Tryz.f48) (s0:=⟨[0,1,2,4,5,6,8,10,11,12],[qa5 L,qfh f1 c1,qfh f2 c2,.undef,.undef,.undef,.undef,.undef,.undef,.undef],[],19,⟨0,[[]]⟩⟩) Tryz.func48 rfl rfl rfl ?_
 repeat apply wq
 refine qa0 qa1 ?_
 simp [zS,s1,s2,e1,e2]
 repeat apply wq
 refine qa0 qa1 ?_
 simp [zS,kb]
 refine qa9 ?_
 refine zaf (K:=zca L (qfh f1 c1) (qfh f2 c2)) (b:=3) (R:=rOut (qfh f1 c1) (qfh f2 c2)) (zc9 v1 v2) L hl (qok p q L) (fun j hj=>?_) rfl rfl ?_
 ·have:=zb8 L k1 k2 (p:=p) (q:=q) L[j] (hp _ (List.getElem_mem hj)) (hq _ (List.getElem_mem hj)) (j:Int)
  rw [show qok p q L j=_ from rfl,qok,qc3 hj]
  exact this
 ·obtain ⟨r,hr⟩ : ∃ r,qsa (qok p q L) L.length=r:=⟨_,rfl⟩
  unfold zbp
  rw [hr]
  cases r with
  | none=>
   simp [qxh,zca,rOut]
   repeat apply wq
   refine qa0 qa1 ?_
   simp [zS]
   refine qa8 ?_
   simp [qab,Tryz.f48,oneOr]
   exact ⟨[.bool false],rfl,[],[],qbb rfl,FitH.empty⟩
  | some i=>
   simp [qxh,zca,rOut,qaa,qa2]
   exact ⟨[.bool i],rfl,[],[],qbb rfl,FitH.empty⟩
def qd3 (sp:Int) (x:Str):Bool:=decide (sp=0) && inW lsB3 x
theorem sp_head:qbo lsB3=[[104,49],[104,50],[104,51],[104,52],[104,53],[104,54]]:=by decide +kernel
theorem qvn (x:Str):inW lsB3 x=decide (x=[104,49]∨x=[104,50]∨x=[104,51]∨x=[104,52]∨x=[104,53]∨x=[104,54]):=by unfold inW;rw [sp_head];simp
theorem head_len {x:Str} (h:¬ x.length=2):inW lsB3 x=false:=by
 rw [qvn]
 simp only [decide_eq_false_iff_not]
 rintro (rfl | rfl | rfl | rfl | rfl | rfl) <;> exact h rfl
theorem head_two (a b:UInt8):inW lsB3 [a,b]=(decide ((a.toNat:Int)=104) && decide (49≤(b.toNat:Int)) && decide ((b.toNat:Int)≤54)):=by
 rw [qvn]
 have key:∀ n:Nat,n < 256→(b=UInt8.ofNat n↔b.toNat=n):=fun n hn=>⟨fun h=>by rw [h];simp;omega,fun h=>by rw [← h];simp⟩
 have ha:a=104↔a.toNat=104:=⟨fun h=>by rw [h];rfl,fun h=>UInt8.toNat_inj.1 (by rw [h];rfl)⟩
 have k1:∀ c:UInt8,b=c↔b.toNat=c.toNat:=fun c=>UInt8.toNat_inj.symm
 rw [Bool.eq_iff_iff]
 simp only [List.cons.injEq,and_true,decide_eq_true_eq,Bool.and_eq_true,ha,k1]
 simp only [show (49:UInt8).toNat=49 from rfl,show (50:UInt8).toNat=50 from rfl,show (51:UInt8).toNat=51 from rfl,show (52:UInt8).toNat=52 from rfl,show (53:UInt8).toNat=53 from rfl,show (54:UInt8).toNat=54 from rfl]
 omega
theorem c73 {T:List (Entry Tryz.prog)} (sp:Int) (x:Str):CallAt (ctx T) 73 [.int .i64 sp,.str x] ⟨0,[]⟩ (.bool (qd3 sp x)) ⟨0,[]⟩:=by
 by_cases hl:x.length=2
 ·match x,hl with
  | [a,b],_=>
   have i0:qh6 Tryz.prog 9 (.str [a,b]) (.int .i64 0)=some (.int .u8 a.toNat):=qih (s:=[a,b]) (i:=0) (by simp)
   have i1:qh6 Tryz.prog 9 (.str [a,b]) (.int .i64 1)=some (.int .u8 b.toNat):=qih (s:=[a,b]) (i:=1) (by simp)
   unfold qd3
   rw [head_two]
   refine qa3 (fn:=Tryz.f73) (s0:=⟨[0,1,4],[.int .i64 sp,.str [a,b],.undef],[],27,⟨0,[[]]⟩⟩) Tryz.func73 rfl rfl rfl ?_
   (repeat' (first
    | with_reducible refine qah ?_
    | (with_reducible refine qa0 qa1 ?_;apply qbn;simp [zS, *];exact rfl)
    | (with_reducible refine qas ?_;simp only [qaa,qa2])
    | (with_reducible refine qaz (fun hc=>?_) (fun hc=>?_) <;> ((have hd:=hc);(try simp at hd);(try subst hd);apply qbn;simp [zS, *];exact rfl))
    | (with_reducible refine qa8 ?_;simp [qab,Tryz.f73,oneOr,qaa,qa2])))
   all_goals first | exact qa4 rfl (by simp [*]) | (exfalso;omega)
 ·have hl':¬ ((x.length:Nat):Int)=2:=by omega
  unfold qd3
  rw [head_len hl]
  refine qa3 (fn:=Tryz.f73) (s0:=⟨[0,1,4],[.int .i64 sp,.str x,.undef],[],27,⟨0,[[]]⟩⟩) Tryz.func73 rfl rfl rfl ?_
  (repeat' (first
   | with_reducible refine qah ?_
   | (with_reducible refine qa0 qa1 ?_;apply qbn;simp [zS, *];exact rfl)
   | (with_reducible refine qas ?_;simp only [qaa,qa2])
   | (with_reducible refine qaz (fun hc=>?_) (fun hc=>?_) <;> ((have hd:=hc);(try simp at hd);(try subst hd);apply qbn;simp [zS, *];exact rfl))
   | (with_reducible refine qa8 ?_;simp [qab,Tryz.f73,oneOr,qaa,qa2])))
  all_goals first | exact qa4 rfl (by simp [*]) | (exfalso;omega)
theorem inj_73 (x y:Int × Str) (h:(fun z:Int × Str=>([.int .i64 z.1,.str z.2]:List AV)) x=(fun z:Int × Str=>([.int .i64 z.1,.str z.2]:List AV)) y):x=y:=by
 obtain ⟨x0,x1⟩:=x
 obtain ⟨y0,y1⟩:=y
 simp only [List.cons.injEq,and_true] at h
 obtain ⟨h0,h1⟩:=h
 have g0:x0=y0:=AV.int.inj h0 |>.2
 have g1:x1=y1:=AV.str.inj h1
 subst g0 g1
 rfl
noncomputable def e73:Entry Tryz.prog:=mkE 73 [[],[]] (fun z:Int × Str=>[.int .i64 z.1,.str z.2]) (fun z=>True) (fun z=>.bool (qd3 z.1 z.2)) fun z h=>c73 (T:=[])  z.1 z.2 
theorem k73 {T:List (Entry Tryz.prog)} (hT:qag 73 T=some e73.g) (sp:Int) (x:Str) (H:Heap):qb9 (ctx T) (.fn 73) [.int .i64 sp,.str x] H=some (.bool (qd3 sp x),H):=
 qae hT inj_73 (sp,x) trivial rfl (by simp [qar])
theorem c129 {T:List (Entry Tryz.prog)} (hc0:qag 136 T=some e136.g) (sp:Int) (x:Str):CallAt (ctx T) 129 [.int .i64 sp,.str x] ⟨0,[]⟩ (.bool (qd3 sp x)) ⟨0,[]⟩:=by
 have kw0:=fun (s:Int) (x:Str) (H:Heap)=>k136 hc0 s x (W:= lsB3) (by decide) H
 refine qa3 (fn:=Tryz.f129) (s0:=⟨[0,1,4],[.int .i64 sp,.str x,.undef],[],8,⟨0,[[]]⟩⟩) Tryz.func129 rfl rfl rfl ?_
 (repeat' (first
  | with_reducible refine qah ?_
  | (with_reducible refine qa0 qa1 ?_;apply qbn;simp [zS, *];exact rfl)
  | (with_reducible refine qas ?_;simp only [qaa,qa2])
  | (with_reducible refine qa8 ?_;simp [qab,Tryz.f129,oneOr,qaa,qa2])))
 all_goals first | exact qa4 rfl (by rfl) | (exfalso;omega)
theorem inj_129 (x y:Int × Str) (h:(fun z:Int × Str=>([.int .i64 z.1,.str z.2]:List AV)) x=(fun z:Int × Str=>([.int .i64 z.1,.str z.2]:List AV)) y):x=y:=by
 obtain ⟨x0,x1⟩:=x
 obtain ⟨y0,y1⟩:=y
 simp only [List.cons.injEq,and_true] at h
 obtain ⟨h0,h1⟩:=h
 have g0:x0=y0:=AV.int.inj h0 |>.2
 have g1:x1=y1:=AV.str.inj h1
 subst g0 g1
 rfl
noncomputable def e129:Entry Tryz.prog:=mkE 129 [[],[]] (fun z:Int × Str=>[.int .i64 z.1,.str z.2]) (fun z=>True) (fun z=>.bool (qd3 z.1 z.2)) fun z h=>c129 (T:=[e136]) rfl z.1 z.2 
theorem k129 {T:List (Entry Tryz.prog)} (hT:qag 129 T=some e129.g) (sp:Int) (x:Str) (H:Heap):qb9 (ctx T) (.fn 129) [.int .i64 sp,.str x] H=some (.bool (qd3 sp x),H):=
 qae hT inj_129 (sp,x) trivial rfl (by simp [qar])
theorem c113 {T:List (Entry Tryz.prog)} (hc0:qag 44 T=some e44a.g) (sp:Int) (x:Str) (hx:x.length≤1000000000):CallAt (ctx T) 113 [.int .i64 sp,.str x] ⟨0,[]⟩ (.bool (decide (sp=0) && inW qpa x)) ⟨0,[]⟩:=by
 have kw0:=fun (x:Str) (hx:x.length≤1000000000) (H:Heap)=>k44a (W:= qpa) (x:=x) hc0 (qmp (by decide)) (by decide) hx H
 refine qa3 (fn:=Tryz.f113) (s0:=⟨[0,1,4],[.int .i64 sp,.str x,.undef],[],11,⟨0,[[]]⟩⟩) Tryz.func113 rfl rfl rfl ?_
 (repeat' (first
  | with_reducible refine qah ?_
  | (with_reducible refine qa0 qa1 ?_;apply qbn;simp [zS, *];exact rfl)
  | (with_reducible refine qas ?_;simp only [qaa,qa2])
  | (with_reducible refine qaz (fun hc=>?_) (fun hc=>?_) <;> ((have hd:=hc);(try simp at hd);(try subst hd);apply qbn;simp [zS, *];exact rfl))
  | (with_reducible refine qa8 ?_;simp [qab,Tryz.f113,oneOr,qaa,qa2])))
 all_goals first | exact qa4 rfl (by first | (simp [*];done) | (simp_all;done)) | (exfalso;omega)
theorem inj_113 (x y:Int × Str) (h:(fun z:Int × Str=>([.int .i64 z.1,.str z.2]:List AV)) x=(fun z:Int × Str=>([.int .i64 z.1,.str z.2]:List AV)) y):x=y:=by
 obtain ⟨x0,x1⟩:=x
 obtain ⟨y0,y1⟩:=y
 simp only [List.cons.injEq,and_true] at h
 obtain ⟨h0,h1⟩:=h
 have g0:x0=y0:=AV.int.inj h0 |>.2
 have g1:x1=y1:=AV.str.inj h1
 subst g0 g1
 rfl
noncomputable def e113:Entry Tryz.prog:=mkE 113 [[],[]] (fun z:Int × Str=>[.int .i64 z.1,.str z.2]) (fun z=>(z.2.length≤1000000000)) (fun z=>.bool (decide (z.1=0) && inW qpa z.2)) fun z h=>c113 (T:=[e44a]) rfl z.1 z.2 h
theorem k113 {T:List (Entry Tryz.prog)} (hT:qag 113 T=some e113.g) (sp:Int) (x:Str) (hx:x.length≤1000000000) (H:Heap):qb9 (ctx T) (.fn 113) [.int .i64 sp,.str x] H=some (.bool (decide (sp=0) && inW qpa x),H):=
 qae hT inj_113 (sp,x) hx rfl (by simp [qar])
theorem c160 {T:List (Entry Tryz.prog)} (hc0:qag 136 T=some e136.g) (sp:Int) (x:Str):CallAt (ctx T) 160 [.int .i64 sp,.str x] ⟨0,[]⟩ (.bool (decide (sp=0) && inW qpa x)) ⟨0,[]⟩:=by
 have kw0:=fun (s:Int) (x:Str) (H:Heap)=>k136 hc0 s x (W:= qpa) (by decide) H
 refine qa3 (fn:=Tryz.f160) (s0:=⟨[0,1,4],[.int .i64 sp,.str x,.undef],[],8,⟨0,[[]]⟩⟩) Tryz.func160 rfl rfl rfl ?_
 (repeat' (first
  | with_reducible refine qah ?_
  | (with_reducible refine qa0 qa1 ?_;apply qbn;simp [zS, *];exact rfl)
  | (with_reducible refine qas ?_;simp only [qaa,qa2])
  | (with_reducible refine qa8 ?_;simp [qab,Tryz.f160,oneOr,qaa,qa2])))
 all_goals first | exact qa4 rfl (by rfl) | (exfalso;omega)
theorem inj_160 (x y:Int × Str) (h:(fun z:Int × Str=>([.int .i64 z.1,.str z.2]:List AV)) x=(fun z:Int × Str=>([.int .i64 z.1,.str z.2]:List AV)) y):x=y:=by
 obtain ⟨x0,x1⟩:=x
 obtain ⟨y0,y1⟩:=y
 simp only [List.cons.injEq,and_true] at h
 obtain ⟨h0,h1⟩:=h
 have g0:x0=y0:=AV.int.inj h0 |>.2
 have g1:x1=y1:=AV.str.inj h1
 subst g0 g1
 rfl
noncomputable def e160:Entry Tryz.prog:=mkE 160 [[],[]] (fun z:Int × Str=>[.int .i64 z.1,.str z.2]) (fun z=>True) (fun z=>.bool (decide (z.1=0) && inW qpa z.2)) fun z h=>c160 (T:=[e136]) rfl z.1 z.2 
theorem k160 {T:List (Entry Tryz.prog)} (hT:qag 160 T=some e160.g) (sp:Int) (x:Str) (H:Heap):qb9 (ctx T) (.fn 160) [.int .i64 sp,.str x] H=some (.bool (decide (sp=0) && inW qpa x),H):=
 qae hT inj_160 (sp,x) trivial rfl (by simp [qar])
end Go.Proofs.YtgpjifeeneeiaaaGreatDoor