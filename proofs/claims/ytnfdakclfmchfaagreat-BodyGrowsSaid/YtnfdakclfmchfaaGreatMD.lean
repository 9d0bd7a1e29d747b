/- E on terms: what a piece of code comes to, step by step. No condition. -/
import Derived.Test.YtnfdakclfmchfaaGreatMC
import Derived.RangeFuncLeaves
import Derived.RangeFuncRecord
import Derived.LoopNIn
import Derived.Scope
import Derived.WalkKit
import Derived.ProofKit
import Derived.OpenShut
import Derived.Carry
import Derived.ChangeSame
namespace Go.Proofs.YtnfdakclfmchfaaGreat
set_option linter.unusedSimpArgs false
set_option linter.unusedVariables false
open Go Go.RowKit
noncomputable section
def Out.exit_:Out->Exit
 |.normal=>.normal
 |.exit id=>.exit id
 |.goto l=>.goto l
 |.ret=>.ret
section
variable {F:Fence} {n:Nat} {P:Program} {Q:Exit->Act->World->Prop} {a:Act} {w:World}
def LoopGoes(F:Fence) (n:Nat) (P:Program) (c:Code) (Q:Exit->Act->World->Prop) (a:Act) (w:World):Prop:=
 ∀(b:Frame) (k:List Item) (cs:List Frame),b.roundOf=F.round->F.fn b.fn->F.room (cs.length+1+n) ->
  ∃e a' w',Q e a' w'/\ArrivesIn (Machine.fenced P F) P (lone (b.atR a (.code c::.inLoop c::k)) cs w) b k cs e a' w'
theorem LoopGoes.wp{c:Code} (h:LoopGoes F n P c Q a w):(Code.loop c).wpIn F n P Q a w:=by intro b k cs hro hb hr;obtain⟨e,a',w',hq,harr⟩:=h b k cs hro hb hr;exact⟨e,a',w',hq,.of_steps (.one (fenced_calm hb hr rfl) stepR_loop) harr⟩
theorem LoopGoes.round{c:Code} (h:c.wpIn F n P (Exit.then (LoopGoes F n P c Q) Q) a w):LoopGoes F n P c Q a w:=by
 intro b k cs hro hb hr;obtain⟨e,a₁,w₁,hq,harr⟩:=h b (.inLoop c::k) cs hro hb hr;cases e with
 |normal=>obtain⟨e₂,a₂,w₂,hq₂,harr₂⟩:=hq b k cs hro hb hr;exact⟨e₂,a₂,w₂,hq₂,.of_steps (StepsIn.trans harr (.one (fenced_calm hb hr rfl) stepR_inLoop)) harr₂⟩
 |exit id=>exact⟨_,a₁,w₁,hq,.pass (x:=.inLoop c) rfl (fun _ _=>.inl (by simp)) harr⟩
 |goto l=>exact⟨_,a₁,w₁,hq,.pass (x:=.inLoop c) rfl (fun _ _=>.inl (by simp)) harr⟩
 |ret=>exact⟨_,a₁,w₁,hq,.pass (x:=.inLoop c) rfl (fun _ _=>.inl (by simp)) harr⟩
 |panic ch=>exact⟨_,a₁,w₁,hq,.pass (x:=.inLoop c) rfl (fun _ _=>.inl (by simp)) harr⟩
 |outgrown=>exact⟨_,a₁,w₁,hq,.pass (x:=.inLoop c) rfl (fun _ _=>.inl (by simp)) harr⟩
theorem qu6{b:Frame} {k:List Item} {cs:List Frame} {c:Code}:step P (lone (b.atR a (.code (.scope c)::k)) cs w)=.next (lone (b.atR a (.code c::.inScope c::k)) cs w):=
 step_lone_go (by simp[stepG,stepG.exec,Frame.atR])
theorem qqb{b:Frame} {k:List Item} {cs:List Frame} {c:Code}:step P (lone (b.atR a (.inScope c::k)) cs w)=.next (lone (b.atR a k) cs w):=
 step_lone_go (by simp[stepG,stepG.exec,Frame.atR])
def ScopeGoes(F:Fence) (n:Nat) (P:Program) (body:Code) (Q:Exit->Act->World->Prop) (c:Code) (a:Act) (w:World):Prop:=
 ∀(b:Frame) (k:List Item) (cs:List Frame),b.roundOf=F.round->F.fn b.fn->F.room (cs.length+1+n) ->
  ∃e a' w',Q e a' w'/\ArrivesIn (Machine.fenced P F) P (lone (b.atR a (.code c::.inScope body::k)) cs w) b k cs e a' w'
def Exit.inScope(F:Fence) (n:Nat) (P:Program) (body:Code) (Q:Exit->Act->World->Prop):Exit->Act->World->Prop
 |.goto l,a,w=>match findLabel body l with
  |some rest=>ScopeGoes F n P body Q rest a w
  |none=>Q (.goto l) a w
 |e,a,w=>Q e a w
theorem ScopeGoes.wp{c:Code} (h:ScopeGoes F n P c Q c a w):(Code.scope c).wpIn F n P Q a w:=by intro b k cs hro hb hr;obtain⟨e,a',w',hq,harr⟩:=h b k cs hro hb hr;exact⟨e,a',w',hq,.of_steps (.one (fenced_calm hb hr rfl) qu6) harr⟩
theorem ScopeGoes.pass{body c:Code} (h:c.wpIn F n P (Exit.inScope F n P body Q) a w):ScopeGoes F n P body Q c a w:=by
 intro b k cs hro hb hr;obtain⟨e,a₁,w₁,hq,harr⟩:=h b (.inScope body::k) cs hro hb hr;cases e with
 |normal=>exact⟨.normal,a₁,w₁,hq,StepsIn.trans harr (.one (fenced_calm hb hr rfl) qqb)⟩
 |exit id=>
  have hx:exitTo id (.inScope body::k)=exitTo id k:=by simp[exitTo]
  exact⟨.exit id,a₁,w₁,hq,fun k' hk=>harr.1 k' (by rw[hx];exact hk),fun hr' hk=>let ⟨k₁,h1,h2⟩:=harr.2 hr' (by rw[hx];exact hk);⟨k₁,h1,h2⟩⟩
 |goto l=>
  cases hf:findLabel body l with
  |some rest=>simp only[Exit.inScope,hf]at hq;have hg:gotoIn l (.inScope body::k)=some (.code rest::.inScope body::k):=(by simp[gotoIn,hf]);obtain⟨e₂,a₂,w₂,hq₂,harr₂⟩:=hq b k cs hro hb hr;exact⟨e₂,a₂,w₂,hq₂,.of_steps (harr.1 _ hg) harr₂⟩
  |none=>simp only[Exit.inScope,hf]at hq;have hg:gotoIn l (.inScope body::k)=gotoIn l k:=(by simp[gotoIn,hf]);exact⟨.goto l,a₁,w₁,hq,fun k' hk=>harr.1 k' (by rw[hg];exact hk),fun hr' hk=>let ⟨k₁,h1,h2⟩:=harr.2 hr' (by rw[hg];exact hk);⟨k₁,h1,h2⟩⟩
 |ret=>exact⟨_,a₁,w₁,hq,harr⟩
 |panic ch=>exact⟨_,a₁,w₁,hq,harr⟩
 |outgrown=>exact⟨_,a₁,w₁,hq,harr⟩
end
section
structure Mk (n0:Nat) (ρ:Place) (H:Heap) (w:World) (r:Nat):Prop where
 ge:n0<=r
 obj:w.heap[r]? = some (.deferred (some []))
 cold:¬ ρ.B r
 apart:∀e,e∈H.ents->∀l,ρ e.1=some l->l.cb≠r
theorem Mk.lt{n0:Nat} {ρ:Place} {H:Heap} {w:World} {r:Nat} (m:Mk n0 ρ H w r):r < w.heap.size:=(Array.getElem?_eq_some_iff.1 m.obj).1
theorem Mk.step{n0:Nat} {ρ ρ':Place} {H H':Heap} {w w':World} {r:Nat} (m:Mk n0 ρ H w r) (t:Step ρ H w ρ' H' w'):Mk n0 ρ' H' w' r where
 ge:=m.ge
 obj:=by rw[t.keeps r m.lt (fun e he l hl=>m.apart e he l hl)];exact m.obj
 cold:=fun hr=>by
  rcases t.cold r hr with h|⟨e,he,l,hl,hlr⟩|h
  ·exact m.cold h
  ·exact m.apart e he l hl hlr
  ·have:=m.lt;omega
 apart:=fun e he l hl=>by
  rcases t.rows e he l hl with⟨e0,he0,l0,hl0,hcb⟩|hge
  ·rw[<- hcb];exact m.apart e0 he0 l0 hl0
  ·have:=m.lt;omega
def mkD(r:Nat):Deferred:={ target:=.collected r,args:=#[] }
def Dfr(n0:Nat) (ρ:Place) (H:Heap) (w:World) (new old:List Deferred):Prop:=∃rs:List Nat,new=rs.map mkD++old/\rs.Nodup/\∀r,r∈rs->Mk n0 ρ H w r
theorem Dfr.of_eq{n0:Nat} {ρ:Place} {H:Heap} {w:World} {new old:List Deferred} (h:new=old):Dfr n0 ρ H w new old:=⟨[],by simp[h],List.nodup_nil,fun r hr=>by cases hr⟩
theorem Dfr.step{n0:Nat} {ρ ρ':Place} {H H':Heap} {w w':World} {new old:List Deferred} (h:Dfr n0 ρ H w new old) (t:Step ρ H w ρ' H' w'):Dfr n0 ρ' H' w' new old:=
 let ⟨rs,h1,h2,h3⟩:=h;⟨rs,h1,h2,fun r hr=>(h3 r hr).step t⟩
theorem Dfr.then{n0:Nat} {ρ1 ρ2:Place} {H1 H2:Heap} {w1 w2:World} {a0 a1 a2:List Deferred} (h:Dfr n0 ρ1 H1 w1 a1 a0) (hn:n0<=w1.heap.size) (t:Step ρ1 H1 w1 ρ2 H2 w2) (k:Dfr w1.heap.size ρ2 H2 w2 a2 a1):Dfr n0 ρ2 H2 w2 a2 a0:=by
 obtain⟨rs,rfl,h2,h3⟩:=h;obtain⟨ss,rfl,k2,k3⟩:=k;refine⟨ss++rs,by simp,List.nodup_append.2 ⟨k2,h2,fun a ha b hb e=>?_⟩,fun r hr=>?_⟩
 ·have:=(k3 a ha).ge;have:=(h3 b hb).lt;omega
 ·rcases List.mem_append.1 hr with hr|hr
  ·exact⟨Nat.le_trans hn (k3 r hr).ge,(k3 r hr).obj,(k3 r hr).cold,(k3 r hr).apart⟩
  ·exact(h3 r hr).step t
theorem Sim.poke{ρ:Place} {H:Heap} {w:World} (s:Sim ρ H w) {k:Nat} (o:Obj) (hB:¬ ρ.B k) (ha:∀e,e∈H.ents->∀l,ρ e.1=some l->l.cb≠k):Sim ρ H (w.putObj k o) where
 base:=fun j hj=>by rw[World.putObj_size];exact s.base j hj
 below:=fun j hj=>by rw[World.putObj_heap_other (show j≠k from fun e=>hB (e ▸ hj))];exact s.below j hj
 os:=s.os
 tape:=s.tape
 output:=s.output
 dom:=s.dom
 nodup:=s.nodup
 live:=fun e he=>by obtain⟨l,h1,h2,h3,h4⟩:=s.live e he;exact⟨l,h1,h2,by rw[World.putObj_size];exact h3,h4.same (World.putObj_heap_other (ha e he l h1))⟩
 inj:=s.inj
theorem Step.poke{ρ ρ':Place} {H H':Heap} {w w':World} (t:Step ρ H w ρ' H' w') {k:Nat} (o:Obj) (hk:w.heap.size<=k):Step ρ H w ρ' H' (w'.putObj k o) where
 le:=t.le
 size:=by rw[World.putObj_size];exact t.size
 keeps:=fun j hj hn=>by rw[World.putObj_heap_other (by omega)];exact t.keeps j hj hn
 rows:=t.rows
 num:=t.num
 low:=t.low
 cold:=t.cold
theorem Sim.extra{ρ:Place} {H:Heap} {w:World} (s:Sim ρ H w) (o:Obj):Sim ρ H (w.alloc o)/\Step ρ H w ρ H (w.alloc o):=by
 have hcell:∀k,k < w.heap.size->(w.alloc o).heap[k]? = w.heap[k]?:=fun k hk=>Below.heap_alloc w o k hk;refine⟨⟨fun k hk=>?_,fun k hk=>?_,s.os,s.tape,s.output,s.dom,s.nodup,fun e he=>?_,s.inj⟩,⟨Place.le_refl _,by simp,fun k hk _=>hcell k hk,fun e he l hl=>.inl ⟨e,he,l,hl,rfl⟩,Nat.le_refl _,fun _ _=>rfl,fun k hk=>.inl hk⟩⟩
 ·have:=s.base k hk;simp;omega
 ·rw[hcell k (s.base k hk)];exact s.below k hk
 ·obtain⟨l,h1,h2,h3,h4⟩:=s.live e he;exact⟨l,h1,h2,by simp;omega,h4.same (hcell _ h3)⟩
theorem qmc{P:Program} {fn:Func} {tmps:Array Value} {R:Ending->World->Prop} {n0:Nat} {ρ0 ρ:Place} {H0 H:Heap} {w0:World} (hn0:w0.heap.size<=n0):∀(rs:List Nat) (w:World),rs.Nodup->(∀r,r∈rs->Mk n0 ρ H w r)->Sim ρ H w->Step ρ0 H0 w0 ρ H w ->
  (∀w',Sim ρ H w'->Step ρ0 H0 w0 ρ H w'->∃v,(results fn tmps).run P w'=.ok v w'/\R (.returned v) w')->LeavesInM Fence.wide 0 P fn tmps R (rs.map mkD) .returning w
 |[],w,_,_,s,t,h=>h w s t
 |r::rs,w,nd,hm,s,t,h=>by have m:=hm r List.mem_cons_self;rw[List.nodup_cons]at nd;refine⟨by simp,.inl ⟨r,w.putObj r (.deferred none),rfl,run_takeDeferred m.obj,?_⟩⟩;refine qmc hn0 rs _ nd.2 (fun q hq=>?_) (s.poke _ m.cold m.apart) (t.poke _ (Nat.le_trans hn0 m.ge)) h;have mq:=hm q (List.mem_cons_of_mem _ hq);exact⟨mq.ge,by rw[World.putObj_heap_other (show q≠r from fun e=>nd.1 (e ▸ hq))];exact mq.obj,mq.cold,mq.apart⟩
def Goes(C:Ctx) (r:Option Nat) (c:Code) (Q:Exit->Act->World->Prop) (a:Act) (w:World):Prop:=match c with
 |.loop b=>LoopGoes (fen r) 0 C.P b Q a w
 |c=>c.wpIn (fen r) 0 C.P Q a w
theorem Goes.wp{C:Ctx} {r:Option Nat} {c:Code} {Q:Exit->Act->World->Prop} {a:Act} {w:World} (h:Goes C r c Q a w):c.wpIn (fen r) 0 C.P Q a w:=by cases c<;>first|exact LoopGoes.wp h|exact h
def qld(C:Ctx) (r:Option Nat) (ih:qov):Prop:=∀c s x s',ih c s=some (x,s')->∀ρ a w Q,Sim ρ s.H w->EnvR ρ s a ->
 (∀a' w' ρ',Sim ρ' s'.H w'->Step ρ s.H w ρ' s'.H w'->EnvR ρ' s' a'->Dfr w.heap.size ρ' s'.H w' a'.defers a.defers->Q x.exit_ a' w')->Goes C r c Q a w
theorem qw3{C:Ctx} {r:Option Nat} {ih:qov} (hI:qld C r ih) (body:Code):∀(n:Nat) (c:Code) (s:St) (x:Out) (s':St),ql6 ih body n c s=some (x,s') ->
  ∀ρ a w Q,Sim ρ s.H w->EnvR ρ s a ->
  (∀a' w' ρ',Sim ρ' s'.H w'->Step ρ s.H w ρ' s'.H w'->EnvR ρ' s' a'->Dfr w.heap.size ρ' s'.H w' a'.defers a.defers->Q x.exit_ a' w')->ScopeGoes (fen r) 0 C.P body Q c a w
 |0,c,s,x,s',h=>by simp[ql6]at h
 |n+1,c,s,x,s',h=>by
  intro ρ a w Q sm e hk;obtain⟨⟨y,s1⟩,h1,h2⟩:=obs h;refine ScopeGoes.pass (hI c s y s1 h1 ρ a w _ sm e fun a1 w1 ρ1 g1 g2 g3 g4=>?_).wp;cases y with
  |goto l=>
   simp only at h2;show Exit.inScope _ _ _ _ _ (.goto l) a1 w1;unfold Exit.inScope;simp only;cases hf:findLabel body l with
   |some rest=>simp only[hf]at h2;simp only;exact qw3 hI body n rest s1 x s' h2 ρ1 a1 w1 Q g1 g3 fun a2 w2 ρ2 k1 k2 k3 k4=>hk a2 w2 ρ2 k1 (g2.trans k2) k3 (g4.then g2.size k2 k4)
   |none=>simp only[hf,sj,Prod.mk.injEq]at h2;obtain⟨rfl,rfl⟩:=h2;exact hk a1 w1 ρ1 g1 g2 g3 g4
  |normal|exit _|ret=>
   simp only[sj,Prod.mk.injEq]at h2;obtain⟨rfl,rfl⟩:=h2;exact hk a1 w1 ρ1 g1 g2 g3 g4
theorem qyn{C:Ctx} {f:FuncId} (h:qrg C f=true) (xs:Array Value) (w:World):(callFunc f xs).run C.P w=.ok (.enter f xs) w:=by
 unfold qrg at h;split at h
 ·rename_i fn hfn;split at h
  ·cases h
  ·rename_i hname
   have hname' : ¬ fn.name = "runtime.NumGoroutine" := fun e => by rw [e] at hname; simp at hname
   obtain⟨body,hb⟩:=Option.isSome_iff_exists.1 h;simp[callFunc,hfn,hname',hb]
 ·cases h
theorem qw9{C:Ctx} {call:qc5} (hC:CallOK C call) {g:Operand} {ps:Array Tmp} {assign body:Code} {s:St} {x:Out} {s':St} (h:qh9 C call g ps assign body s=some (x,s')) :
  ∀ρ a w Q,Sim ρ s.H w->EnvR ρ s a ->
  (∀a' w' ρ',Sim ρ' s'.H w'->Step ρ s.H w ρ' s'.H w'->EnvR ρ' s' a'->Dfr w.heap.size ρ' s'.H w' a'.defers a.defers->Q x.exit_ a' w')->Goes C none (.rangeFunc g ps assign body) Q a w:=by
 intro ρ a w Q sm e hk;unfold qh9 at h;replace h:=obs h;obtain⟨gv,hg,h⟩:=h;split at h
 ·rename_i f first cap
  split at h
  ·simp at h
  ·rename_i hent;have henter:=qyn hent;replace h:=obs h;obtain⟨⟨v,H2⟩,hcall,h⟩:=h;replace h:=obs h;obtain⟨k,hk2,h⟩:=h;simp only at hk2 h;split at h
   ·rename_i st pend ks vs ts sz ps2 as2 bd2;show (Code.rangeFunc g ps assign body).wpIn Fence.wide 0 C.P Q a w;refine wpIn_rangeFunc fun fn _=>?_;obtain⟨first',cap',hfe,hfi,hca⟩:=(qb5 e hg).args;obtain⟨sx,tx⟩:=sm.extra (.deferred (some []));obtain⟨lp,hlp⟩ : ∃lp:Loop,lp={ state:=.ready,pending:=none,fn:=fn,tmps:=a.tmps,params:=ps,assign:=assign,body:=body,defers:=w.heap.size }:=⟨_,rfl⟩;have hln:(w.alloc (.deferred (some []))).heap.size=w.heap.size+1:=(by simp);have hlh:((w.alloc (.deferred (some []))).alloc (.loop lp)).heap[w.heap.size+1]? = some (.loop lp):=(by rw[<- hln];exact World.alloc_heap_new _ _);obtain⟨sn,tn⟩:=sx.new (.loop lp) 0 (.loop .ready none s.ks s.vs s.ts s.sz ps.toList assign body) (by
     refine⟨lp,?_,by rw[hlp],by rw[hlp],by rw[hlp],by rw[hlp],by rw[hlp],by rw[hlp];exact e.size.symm,fun t v hv=>?_⟩
     ·rw[hln];exact hlh
     ·rw[hlp];exact(e.val t v hv).mono (Place.le_upd (sm.dom _ (Nat.le_refl _))))
    rw[hln]at sn tn;obtain⟨ρ1,hρ1⟩ : ∃ρ1,ρ1=ρ.upd s.H.n ⟨w.heap.size+1,0,0⟩:=⟨_,rfl⟩;rw[<- hρ1]at sn tn;have hb1:ρ1 s.H.n=some ⟨w.heap.size+1,0,0⟩:=(by rw[hρ1];exact Place.upd_same);have all1:Step ρ s.H w ρ1 (s.H.new (.loop .ready none s.ks s.vs s.ts s.sz ps.toList assign body)) ((w.alloc (.deferred (some []))).alloc (.loop lp)):=tx.trans tn;have hargs:VRs ρ1 (first++[.yld s.H.n]++cap) (first'.toList++[Value.func (.yield (w.heap.size+1)) #[] #[]]++cap'.toList):=
     ((hfi.mono all1.le).append (.cons (.yld _ _ hb1) .nil)).append (hca.mono all1.le)
    have henterL:(Instr.enterLoop fn a.tmps ps assign body none).run C.P w=.ok (w.heap.size+1,[mkD w.heap.size]) ((w.alloc (.deferred (some []))).alloc (.loop lp)):=(by have:=run_enterLoop_outer (P:=C.P) (w:=w) fn a.tmps ps assign body;rw[<- hlp]at this;exact this);have mk1:Mk w.heap.size ρ1 (s.H.new (.loop .ready none s.ks s.vs s.ts s.sz ps.toList assign body)) ((w.alloc (.deferred (some []))).alloc (.loop lp)) w.heap.size:=by
     refine⟨Nat.le_refl _,?_,fun hB=>?_,fun q hq l hl hcb=>?_⟩
     ·rw[Below.heap_alloc _ _ _ (by simp)];exact World.alloc_heap_new _ _
     ·rw[hρ1]at hB;exact absurd (sm.base _ hB) (Nat.lt_irrefl _)
     ·rw[Heap.new_ents]at hq;rcases List.mem_cons.1 hq with rfl|hq
      ·simp only at hl;rw[hb1]at hl;cases hl;simp at hcb
      ·obtain⟨l0,hl0,_,hlt0,_⟩:=sm.live q hq;rw[all1.le _ _ hl0]at hl;cases hl;omega
    generalize (w.alloc (.deferred (some []))).alloc (.loop lp)=W1 at *;refine⟨w.heap.size+1,[mkD w.heap.size],W1,{ target:=.fn (.func f) cap',args:=first' ++ #[Value.func (.yield (w.heap.size+1)) #[] #[]] },W1,f,(first'.toList++[Value.func (.yield (w.heap.size+1)) #[] #[]]++cap'.toList).toArray,W1,
     henterL,?_,fun _ _=>trivial,?_,fun hd=>(by cases hd),?_⟩
    ·have e2 : #[Operand.const (Value.func (.yield (w.heap.size+1)) #[] #[])].map a.eval = #[Value.func (.yield (w.heap.size+1)) #[] #[]]:=(by simp[Act.eval]);simp only[resolve,rangeCall,Deferred.ofValue,hfe,e2];rfl
    ·simp only[invoke];have e1:(first'.toList++[Value.func (.yield (w.heap.size+1)) #[] #[]]++cap'.toList).toArray=first' ++ #[Value.func (.yield (w.heap.size+1)) #[] #[]]++cap':=(by apply Array.ext';simp);rw[e1];exact henter _ _
    ·rcases hC.fn f _ _ v H2 hcall ρ1 _ _ sn hargs with⟨x1,ρ',w',h1,_⟩|⟨g',ys,h1,h2⟩
     ·rw[henter]at h1;cases h1
     ·rw[henter]at h1;cases h1;refine CallsIn.mono h2 ?_;rintro e' w3 ⟨x1,ρ2,rfl,_,s2,t2⟩;have hb2:ρ2 s.H.n=some ⟨w.heap.size+1,0,0⟩:=(by rw[t2.low _ (Nat.lt_succ_self _)];exact hb1);obtain⟨l2,hl2,hcold,_,r,hrh,hrs,hrp,_⟩:=s2.block hk2;rw[hb2]at hl2;cases hl2;obtain⟨sd,td⟩:=s2.dropped s.H.n;have hap:∀e,e∈(H2.drop s.H.n).ents->∀l,ρ2 e.1=some l->l.cb≠w.heap.size+1:=fun q hq l hl hcb=>(by have hp:H2.ents.Perm ((s.H.n,_)::(H2.drop s.H.n).ents):=qk4 hk2;have hd:(((s.H.n,_)::(H2.drop s.H.n).ents).map (·.1)).Nodup:=(hp.map _).nodup_iff.1 s2.nodup;rw[List.map_cons,List.nodup_cons]at hd;have:=s2.inj _ _ (hp.mem_iff.2 (List.mem_cons_of_mem _ hq)) (Heap.get_mem hk2) l _ hl hb2 hcb;exact hd.1 (List.mem_map.2 ⟨q,hq,this⟩));have s4:=sd.poke (k:=w.heap.size+1) (.loop { r with state:=.exhausted }) hcold hap;have t3:Step ρ s.H w ρ2 (H2.drop s.H.n) w3:=(all1.trans t2).trans td;have t4:=t3.poke (k:=w.heap.size+1) (.loop { r with state:=.exhausted }) (Nat.le_succ _);have hnb:r.state≠.busy:=(by intro hb;rw[hrs]at hb;subst hb;simp at h);have hend:=run_endLoop (P:=C.P) hrh hnb;have mk3:=(mk1.step t2).step td;have dfr:Dfr w.heap.size ρ2 (H2.drop s.H.n) (w3.putObj (w.heap.size+1) (.loop { r with state:=.exhausted })) (mkD w.heap.size::a.defers) a.defers:=
       ⟨[w.heap.size],rfl,by simp,fun q hq=>by simp only[List.mem_singleton]at hq;subst hq;exact⟨mk3.ge,by rw[World.putObj_heap_other (by omega)];exact mk3.obj,mk3.cold,mk3.apart⟩⟩
      generalize w3.putObj (w.heap.size+1) (.loop { r with state:=.exhausted })=w4 at *;have env:∀H',EnvR ρ2 { s with H:=H' } { a with defers:=mkD w.heap.size::a.defers }:=fun H'=>⟨e.size,fun t v hv=>(e.val t v hv).mono t4.le⟩;refine⟨r.pending,w4,hend,?_⟩;rw[hrp];split at h
      ·split at h
       ·simp only[sj,Prod.mk.injEq]at h;obtain⟨rfl,rfl⟩:=h;exact hk _ _ ρ2 s4 t4 (env _) dfr
       ·simp at h
      ·replace h:=obs h;obtain⟨c,rfl,h⟩:=h;replace h:=obs h;obtain⟨y,hy,h⟩:=h;simp only[sj,Prod.mk.injEq]at h;obtain⟨rfl,rfl⟩:=h;have fin:=hk _ _ ρ2 s4 t4 (env _) dfr;unfold qun at hy;split at hy<;>simp only[sj,reduceCtorEq]at hy<;>subst hy
       ·exact wpIn_ret fin
       ·exact wpIn_exit fin
       ·exact wpIn_goto fin
      ·simp at h
   ·simp at h
 ·simp at h
theorem qzu{C:Ctx} {call:qc5} {r:Option Nat} {rf:Bool} {ih:qov} (hm:C.P.follows .mixedOrders=true) (hC:CallOK C call) (hI:qld C r ih) (hr:rf=true->r=none):qld C r (qfu C call rf ih):=by
 intro c s x s' h ρ a w Q sm e hk;cases c with
 |skip=>simp only[qfu,sj,Prod.mk.injEq]at h;obtain⟨rfl,rfl⟩:=h;exact wpIn_skip (hk a w ρ sm (.refl _ _ _) e (.of_eq rfl))
 |label l=>simp only[qfu,sj,Prod.mk.injEq]at h;obtain⟨rfl,rfl⟩:=h;exact wpIn_label (hk a w ρ sm (.refl _ _ _) e (.of_eq rfl))
 |exit id=>simp only[qfu,sj,Prod.mk.injEq]at h;obtain⟨rfl,rfl⟩:=h;exact wpIn_exit (hk a w ρ sm (.refl _ _ _) e (.of_eq rfl))
 |goto l=>simp only[qfu,sj,Prod.mk.injEq]at h;obtain⟨rfl,rfl⟩:=h;exact wpIn_goto (hk a w ρ sm (.refl _ _ _) e (.of_eq rfl))
 |ret=>simp only[qfu,sj,Prod.mk.injEq]at h;obtain⟨rfl,rfl⟩:=h;exact wpIn_ret (hk a w ρ sm (.refl _ _ _) e (.of_eq rfl))
 |region id ops draw=>
  have sm':Sim ρ ({ s with ts:=[] }:St).H w:=sm;cases draw with
  |false=>obtain⟨s1,h1,h2⟩:=obs h;simp only[sj,Prod.mk.injEq]at h2;obtain⟨rfl,rfl⟩:=h2;apply wpIn_region;have:=zaq hC (ops:=ops) (r:=r) (Q:=Q) (l:=ops.toList) (i:=0) (fun j=>by simp) h1 sm' e.fresh (fun a' w' ρ' k1 k2 k3 k4=>hk a' w' ρ' k1 k2 k3 (.of_eq k4));rw[List.range_eq_range'];simpa using this
  |true=>obtain⟨s1,h1,h2⟩:=obs h;simp only[sj,Prod.mk.injEq]at h2;obtain⟨rfl,rfl⟩:=h2;exact zc9 hC hm h1 sm' e.fresh (fun a' w' ρ' k1 k2 k3 k4=>hk a' w' ρ' k1 k2 k3 (.of_eq k4))
 |seq c d=>
  obtain⟨⟨y,s1⟩,h1,h2⟩:=obs h;refine wpIn_seq (hI c s y s1 h1 ρ a w _ sm e fun a1 w1 ρ1 g1 g2 g3 g4=>?_).wp;cases y with
  |normal=>exact(hI d s1 x s' h2 ρ1 a1 w1 Q g1 g3 fun a2 w2 ρ2 k1 k2 k3 k4=>hk a2 w2 ρ2 k1 (g2.trans k2) k3 (g4.then g2.size k2 k4)).wp
  |exit _|goto _|ret=>
   simp only[sj,Prod.mk.injEq]at h2;obtain⟨rfl,rfl⟩:=h2;exact hk a1 w1 ρ1 g1 g2 g3 g4
 |cond c x1 x2=>
  obtain⟨v,hv,h⟩:=obs h;have hvr:=qb5 e hv;split at h
  ·rename_i t;have hce:a.eval c=.bool t:=(by cases hq:a.eval c<;>rw[hq]at hvr<;>cases hvr;rfl);cases t with
   |true=>exact wpIn_cond_true hce (hI x1 s x s' h ρ a w Q sm e hk).wp
   |false=>exact wpIn_cond_false hce (hI x2 s x s' h ρ a w Q sm e hk).wp
  ·simp at h
 |block id b=>
  obtain⟨⟨y,s1⟩,h1,h2⟩:=obs h;refine wpIn_block (hI b s y s1 h1 ρ a w _ sm e fun a1 w1 ρ1 g1 g2 g3 g4=>?_).wp;cases y with
  |exit k=>
   show Exit.inBlock id Q (.exit k) a1 w1;simp only at h2;unfold Exit.inBlock;simp only;split at h2
   next hb=>have hkid:k=id:=Nat.eq_of_beq_eq_true hb;simp only[sj,Prod.mk.injEq]at h2;obtain⟨rfl,rfl⟩:=h2;rw[if_pos hkid];exact hk a1 w1 ρ1 g1 g2 g3 g4
   next hb=>have hkid:k≠id:=fun e=>(by subst e;simp at hb);simp only[sj,Prod.mk.injEq]at h2;obtain⟨rfl,rfl⟩:=h2;rw[if_neg hkid];exact hk a1 w1 ρ1 g1 g2 g3 g4
  |normal|goto _|ret=>
   simp only[sj,Prod.mk.injEq]at h2;obtain⟨rfl,rfl⟩:=h2;exact hk a1 w1 ρ1 g1 g2 g3 g4
 |loop b=>
  obtain⟨⟨y,s1⟩,h1,h2⟩:=obs h;refine LoopGoes.round (hI b s y s1 h1 ρ a w _ sm e fun a1 w1 ρ1 g1 g2 g3 g4=>?_).wp;cases y with
  |normal=>exact hI (.loop b) s1 x s' h2 ρ1 a1 w1 Q g1 g3 fun a2 w2 ρ2 k1 k2 k3 k4=>hk a2 w2 ρ2 k1 (g2.trans k2) k3 (g4.then g2.size k2 k4)
  |exit _|goto _|ret=>
   simp only[sj,Prod.mk.injEq]at h2;obtain⟨rfl,rfl⟩:=h2;exact hk a1 w1 ρ1 g1 g2 g3 g4
 |scope b=>exact ScopeGoes.wp (qw3 hI b _ b s x s' h ρ a w Q sm e hk)
 |rangeFunc g ps assign body=>
  cases rf with
  |false=>simp[qfu]at h
  |true=>cases hr rfl;exact qw9 hC h ρ a w Q sm e hk
 |refuse _=>simp[qfu]at h
def za8(tmps:Array Value):ResultVar->Sem Value
 |.tmp t=>pure (tmps.getD t undef)
 |.cell a t=>do loadVar t (<- asAddr (tmps.getD a undef))
theorem qy1(fn:Func) (tmps:Array Value):results fn tmps=(do let vs <- fn.results.mapM (za8 tmps);pure (if h:vs.size=1 then vs[0] else .tuple vs)):=by unfold results;congr 1
theorem que{P:Program} {H:Heap} {t:TypeId} {p v:AV} {ρ:Place} {x:Value} (h:qaq P H t p=some v) (hp:VR ρ p x):∃ad,x=.pointer (some ad):=by
 obtain⟨ag,_,h⟩:=obs h;obtain⟨n,_,h⟩:=obs h;cases hp
 case ptr=>exact⟨_,rfl⟩
 case fptr=>exact⟨_,rfl⟩
 all_goals (cases ag<;>simp at h)
theorem zas{s:St} {a:Act} {C:Ctx} {ρ:Place} {w:World} (sm:Sim ρ s.H w) (e:EnvR ρ s a):∀{rs:List ResultVar} {vs:List AV},retVal C s rs=some vs ->
  ∃xs:List Value,(rs.mapM (za8 a.tmps)).run C.P w=.ok xs w/\VRs ρ vs xs
 |[],vs,h=>by simp only[retVal,sj]at h;subst h;exact⟨[],by simp,.nil⟩
 |x::r,vs,h=>by
  obtain⟨v,hv,h'⟩:=obs h;obtain⟨us,hu,h'⟩:=obs h';simp only[sj]at h';subst h';obtain⟨xs,h1,h2⟩:=zas sm e hu;have one:∃y,(za8 a.tmps x).run C.P w=.ok y w/\VR ρ v y:=by
   cases x with
   |tmp t=>exact⟨a.tmps.getD t undef,by simp only[za8];rfl,e.val t v hv⟩
   |cell c t=>obtain⟨p,hp,hv⟩:=obs hv;obtain⟨y,g1,g2⟩:=qno sm hv (e.val c p hp);obtain⟨ad,had⟩:=que hv (e.val c p hp);refine⟨y,?_,g2⟩;rw[had]at g1;simp only[za8];rw[had];simpa[Instr.loadAt,Instr.sureAddr,asAddr]using g1
  obtain⟨y,g1,g2⟩:=one;refine⟨y::xs,?_,.cons g2 h2⟩;rw[List.mapM_cons];simp[g1,h1]
theorem VRs.oneOr{ρ:Place} {vs:List AV} {xs:List Value} (h:VRs ρ vs xs):VR ρ (oneOr vs) (if h:xs.toArray.size=1 then xs.toArray[0] else .tuple xs.toArray):=by
 have tup:VR ρ (.tup vs) (.tuple xs.toArray):=.tup vs xs.toArray (by simpa using h.1) fun i h1 h2=>by simpa using h.2 i h1 (by simpa using h2)
 rcases vs with _|⟨v,_|⟨u,r⟩⟩
 ·have:xs=[]:=by cases xs with|nil=>rfl|cons _ _=>have:=h.1;simp at this
  subst this;simpa[Proofs.YtnfdakclfmchfaaGreat.oneOr]using tup
 ·rcases xs with _|⟨x,_|⟨y,r⟩⟩
  ·have:=h.1;simp at this
  ·simpa[Proofs.YtnfdakclfmchfaaGreat.oneOr]using h.head
  ·have:=h.1;simp at this
 ·rcases xs with _|⟨x,_|⟨y,r'⟩⟩
  ·have:=h.1;simp at this
  ·have:=h.1;simp at this
  ·simpa[Proofs.YtnfdakclfmchfaaGreat.oneOr]using tup
theorem qnl{s:St} {a:Act} {C:Ctx} {ρ:Place} {w:World} (sm:Sim ρ s.H w) (e:EnvR ρ s a) {fn:Func} {vs:List AV} (h:retVal C s fn.results.toList=some vs) :
  ∃x,(results fn a.tmps).run C.P w=.ok x w/\VR ρ (oneOr vs) x:=by
 obtain⟨xs,h1,h2⟩:=zas sm e h;refine⟨_,?_,h2.oneOr⟩;rw[qy1,Array.mapM_eq_mapM_toList];simp[h1]
theorem qib{t:Nat} {v:AV}:∀{ks:List Nat},qfi t ks (qp9 ks)=some v->v=.undef
 |[],h=>by simp[qdk,qic]at h
 |k::r,h=>by
  rw[qdk]at h;simp only[qp9]at h;split at h
  ·simp only[sj]at h;exact h.symm
  ·exact qib h
theorem qjz{ρ:Place}:∀{args:List AV} {xs:List Value} {i:Nat} {s s':St} {a:Act},qqg s i args=some s'->EnvR ρ s a->VRs ρ args xs ->
  (∀j (h:j < xs.length),a.tmps.getD (i+j) undef=xs[j])->EnvR ρ s' a/\s'.H=s.H
 |[],xs,i,s,s',a,h,e,_,_=>by simp only[qqg,sj]at h;subst h;exact⟨e,rfl⟩
 |v::r,[],i,s,s',a,_,_,hr,_=>by have:=hr.1;simp at this
 |v::r,x::xs,i,s,s',a,h,e,hr,hx=>by
  obtain⟨s1,h1,h2⟩:=obs h;obtain⟨hlt,hsz,hH,_,hget⟩:=St.set_get h1;have e1:EnvR ρ s1 a:=by
   refine⟨by rw[hsz];exact e.size,fun t u hu=>?_⟩;rw[hget]at hu;split at hu
   next ht=>simp only[sj]at hu;subst ht;subst hu;have:=hx 0 (by simp);simp only[Nat.add_zero,List.getElem_cons_zero]at this;rw[this];exact hr.head
   ·exact e.val t u hu
  obtain⟨g1,g2⟩:=qjz (i:=Nat.succ i) h2 e1 hr.tail fun j hj=>by have:=hx (j+1) (by simpa using hj);have e:Nat.succ i+j=i+(j+1):=(by omega);rw[e];simpa using this
  exact⟨g1,by rw[g2,hH]⟩
def qtz(C:Ctx):Prop:=∀f g,C.summ f=some g->∀args H v H',g args H=some (v,H')->CallAt C f args H v H'
theorem fn_calls{C:Ctx} {ih ihR:qov} (hI:qld C none ih) {f:FuncId} {args:List AV} {H H':Heap} {v:AV} (hs:C.summ f=none) (h:qpv C ih ihR (.fn f) args H=some (v,H')) {ρ:Place} {w:World} {xs:List Value}
  (sm:Sim ρ H w) (hx:VRs ρ args xs):(callFunc f xs.toArray).run C.P w=.ok (.enter f xs.toArray) w/\CallsIn Fence.wide 0 C.P f xs.toArray w (qvj ρ H w v H'):=by
 unfold qpv at h;simp only[hs]at h;obtain⟨fn,hfn,h⟩:=obs h;split at h
 ·simp at h
 ·rename_i hname;obtain⟨body,hb,h⟩:=obs h;obtain⟨s,hs0,h⟩:=obs h;obtain⟨⟨y,s1⟩,h1,h2⟩:=obs h;refine⟨?_,?_⟩
  ·have hname' : ¬ fn.name = "runtime.NumGoroutine" := fun e => by rw [e] at hname; simp at hname
   simp[callFunc,hfn,hname',hb]
  ·refine callsIn_of_wp_marks hfn hb trivial ?_;obtain⟨o1,o2⟩:=sm.opened;have hlen:xs.length=args.length:=hx.1;have env0:EnvR ρ { ks:=C.keep f,vs:=qp9 (C.keep f),ts:=[],sz:=args.length+(fn.ntmps - args.length),H:=⟨H.n,[]::H.fs⟩ }
     { tmps:=xs.toArray++Array.replicate (fn.ntmps - xs.toArray.size) undef,defers:=[] }:=by
    refine⟨by simp[hlen],fun t u hu=>?_⟩;simp only[St.get]at hu;split at hu
    next hl=>have:=qib hl;simp only[sj]at hu;subst hu;subst this;exact .undef _
    ·simp[qgm,qma]at hu
   obtain⟨e1,hH1⟩:=qjz (i:=0) hs0 env0 hx fun j hj=>(by simp only[Nat.zero_add,Array.getD_eq_getD_getElem?];rw[Array.getElem?_append_left (by simpa using hj)];simp[hj]);have hH:s.H=⟨H.n,[]::H.fs⟩:=hH1;refine(hI body s y s1 h1 ρ _ w _ (by rw[hH];exact o1) e1 fun a' w' ρ' g1 g2 g3 g4=>?_).wp;rw[hH]at g2;have fin:∀vs,retVal C s1 fn.results.toList=some vs->oneOr vs=v->qsj (oneOr vs) s1.H=H' ->
     LeavesInM Fence.wide 0 C.P fn a'.tmps (qvj ρ H w v H') a'.defers .returning w':=by
    intro vs hvs hv hpop;obtain⟨rs,hrs,hnd,hmk⟩:=g4;rw[hrs,List.append_nil];refine qmc (ρ0:=ρ) (H0:=⟨H.n,[]::H.fs⟩) (w0:=w) (Nat.le_refl _) rs w' hnd hmk g1 g2 fun w2 q1 q2=>?_;obtain⟨x,k1,k2⟩:=qnl q1 g3 hvs;obtain⟨p1,p2⟩:=q1.pop (oneOr vs);rw[hpop]at p1 p2;exact⟨x,k1,x,ρ',rfl,hv ▸ k2,p1,(o2.trans q2).trans p2⟩
   cases y with
   |normal=>obtain⟨vs,hvs,h3⟩:=obs h2;simp only[sj,Prod.mk.injEq]at h3;exact fin vs hvs h3.1 h3.2
   |ret=>obtain⟨vs,hvs,h3⟩:=obs h2;simp only[sj,Prod.mk.injEq]at h3;exact fin vs hvs h3.1 h3.2
   |exit _|goto _=>simp at h2
theorem qof(f:Array Value->Tmp × Value->Array Value) (hf:f=fun tmps p=>tmps.setIfInBounds p.1 p.2) {ρ:Place} {n:Nat}:∀{ps:List Nat} {vs:List AV} {xs:List Value} {s s':St} {tm:Array Value},qse s ps vs=some s'->VRs ρ vs xs->∀(e:EnvR ρ s { tmps:=tm,defers:=[] }),
  ps.length=xs.length/\s'.H=s.H/\EnvR ρ s' { tmps:=(ps.zip xs).foldl f tm,defers:=[] }
 |[],[],xs,s,s',tm,h,hv,e=>by
  simp only[qse,sj]at h;subst h;have:xs=[]:=by cases xs with|nil=>rfl|cons _ _=>have:=hv.1;simp at this
  subst this;exact⟨rfl,rfl,e⟩
 |p::ps,v::vs,xs,s,s',tm,h,hv,e=>by
  cases xs with
  |nil=>have:=hv.1;simp at this
  |cons x xs=>
   obtain⟨s1,h1,h2⟩:=obs h;have e1:=e.set h1 hv.head;obtain⟨g1,g2,g3⟩:=qof f hf (n:=n) h2 hv.tail e1;refine⟨by simp[g1],?_,?_⟩
   ·rw[g2];exact(St.set_get h1).2.2.1
   ·simp only[List.zip_cons_cons,List.foldl_cons];have:f tm (p,x)=tm.setIfInBounds p x:=(by rw[hf]);rw[this];exact g3
 |[],_::_,_,_,_,_,h,_,_=>by simp[qse]at h
 |_::_,[],_,_,_,_,h,_,_=>by simp[qse]at h
theorem Sim.turnLoop{ρ:Place} {H H1:Heap} {w:World} (s:Sim ρ H w) {b:Nat} {l:Loc} {st st':LoopState} {pend pend':Option Code} {ks:List Nat} {vs:List AV} {ts:List (Nat × AV)} {sz:Nat} {ps:List Nat} {as' bd:Code} {r:Loop}
  (hg:H.get b=some (.loop st pend ks vs ts sz ps as' bd)) (hl:ρ b=some l) (hr:w.heap[l.cb]? = some (.loop r)) (hset:H.set b (.loop st' pend' ks vs ts sz ps as' bd)=some H1) :
  Sim ρ H1 (w.putObj l.cb (.loop { r with state:=st',pending:=pend' }))/\Step ρ H w ρ H1 (w.putObj l.cb (.loop { r with state:=st',pending:=pend' })):=by
 obtain⟨l',hl',_,hlt,r',hr',q1,q2,q3,q4,q5,q6,q7⟩:=s.block hg;rw[hl]at hl';cases hl';rw[hr]at hr';cases hr';obtain⟨hn,hd,hk',⟨k0,hk0⟩,hs⟩:=qkp (vs:=[]) hset s.nodup;exact s.turned hk0 hl hn hd hk' hs World.putObj_size (fun j hj=>World.putObj_heap_other hj) rfl rfl rfl ⟨_,World.putObj_heap_same hlt,rfl,rfl,q3,q4,q5,q6,q7⟩
theorem yield_ok{C:Ctx} {ih:qov} (hI:∀l,qld C (some l) ih) {b:Nat} {args:List AV} {H H':Heap} {v:AV} (h:qoi ih b args H=some (v,H')):qg8 C b args H v H':=by
 intro ρ w xs l sm hx hl;unfold qoi at h;replace h:=obs h;obtain⟨k,hk,h⟩:=h;split at h
 ·rename_i st pend ks vs ts sz ps assign body;split at h
  ·replace h:=obs h;obtain⟨s1,hs1,h⟩:=h;replace h:=obs h;obtain⟨⟨x1,s2⟩,h1,h⟩:=h;obtain⟨l',hl',_,hlt,r,hr,q1,q2,q3,q4,q5,q6,q7⟩:=sm.block hk;rw[hl]at hl';cases hl';obtain⟨o1,o2⟩:=sm.opened;have env0:EnvR ρ ⟨ks,vs,ts,sz,⟨H.n,[]::H.fs⟩⟩ { tmps:=r.tmps,defers:=[] }:=⟨q6.symm,q7⟩;obtain⟨f1,f2,f3⟩:=qof (fun tmps p=>tmps.setIfInBounds p.1 p.2) rfl (n:=0) hs1 hx env0;have f2:s1.H=⟨H.n,[]::H.fs⟩:=f2;have hps:xs.toArray.size=r.params.size:=(by rw[<- q3]at f1;simpa using f1.symm);refine⟨r.fn,_,r.assign,r.body,run_yield hr hps,?_⟩;have hz:(r.params.zip xs.toArray).foldl (fun tmps (x:Tmp × Value)=>match x with|(t,a)=>tmps.setIfInBounds t a) r.tmps=(ps.zip xs).foldl (fun tmps p=>tmps.setIfInBounds p.1 p.2) r.tmps:=(by rw[<- Array.foldl_toList,Array.toList_zip,q3]);rw[hz,q4,q5];refine roundIn_of_wpIn trivial ?_;refine(hI l.cb assign s1 x1 s2 h1 ρ _ w _ (by rw[f2];exact o1) f3 fun a1 w1 ρ1 g1 g2 g3 g4=>?_).wp;rw[f2]at g2;simp only at h;split at h
   ·replace h:=obs h;obtain⟨k1,hk1,h⟩:=h;split at h
    ·rename_i st1 pend1 ks1 vs1 ts1 sz1 ps1 as1 bd1;split at h
     ·replace h:=obs h;obtain⟨H1,hset1,h⟩:=h;replace h:=obs h;obtain⟨⟨x3,s3⟩,h3,h⟩:=h;replace h:=obs h;obtain⟨k2,hk2,h⟩:=h;simp only at hk2 h;split at h
      ·rename_i st2 pend2 ks2 vs2 ts2 sz2 ps2 as2 bd2;replace h:=obs h;obtain⟨H2,hset2,h⟩:=h;simp only[sj,Prod.mk.injEq]at h;obtain⟨rfl,rfl⟩:=h;have hl1:ρ1 b=some l:=g2.le _ _ hl;obtain⟨l1,hl1',_,hlt1,r1,hr1,u1,u2,_⟩:=g1.block hk1;rw[hl1]at hl1';cases hl1';refine⟨w1.putObj l.cb (.loop { r1 with state:=.busy }),run_beginRound hr1 u1,?_⟩;have hset1':s2.H.set b (.loop .busy r1.pending ks1 vs1 ts1 sz1 ps1 as1 bd1)=some H1:=(by rw[u2];exact hset1);obtain⟨s4,t4⟩:=g1.turnLoop hk1 hl1 hr1 hset1';refine(hI l.cb body { s2 with H:=H1 } x3 s3 h3 ρ1 a1 _ _ s4 (g3.heap H1) fun a2 w2 ρ2 m1 m2 m3 m4=>?_).wp;have hl2:ρ2 b=some l:=m2.le _ _ hl1;obtain⟨l2,hl2',_,hlt2,r2,hr2,_⟩:=m1.block hk2;rw[hl2]at hl2';cases hl2';have fin:∀(jump:Option Code) (H2:Heap) (st':LoopState),st'=(if jump.isNone then .ready else .done)->s3.H.set b (.loop st' jump ks2 vs2 ts2 sz2 ps2 as2 bd2)=some H2 ->
         ∃v w',(Instr.endRound l.cb jump).run C.P w2=.ok v w'/\qvj ρ H w (.bool jump.isNone) (qsj (.bool true) H2) (.returned v) w':=by
        intro jump H2 st' hst' hset;obtain⟨s5,t5⟩:=m1.turnLoop hk2 hl2 hr2 hset;obtain⟨s6,t6⟩:=s5.pop (.bool true);refine⟨_,_,run_endRound jump hr2,.bool jump.isNone,ρ2,rfl,.bool _,?_,?_⟩
        ·rw[<- hst'];exact s6
        ·rw[<- hst'];exact((((o2.trans g2).trans t4).trans m2).trans t5).trans t6
       cases x3 with
       |normal=>exact fin none H2 _ rfl hset2
       |ret=>exact fin (some .ret) H2 _ rfl hset2
       |exit id=>exact fin (some (.exit id)) H2 _ rfl hset2
       |goto q=>exact fin (some (.goto q)) H2 _ rfl hset2
      ·simp at h
     ·simp at h
    ·simp at h
   ·simp at h
  ·simp at h
 ·simp at h
theorem fn_ok{C:Ctx} {ih ihR:qov} (hS:qtz C) (hI:qld C none ih) (hR:∀l,qld C (some l) ihR):CallOK C (qpv C ih ihR) where
 fn:=by
  intro f args H v H' h;cases hs:C.summ f with
  |some g=>unfold qpv at h;simp only[hs]at h;exact hS f g hs args H v H' h
  |none=>exact fun ρ w xs sm hx=>.inr ⟨f,xs.toArray,fn_calls hI hs h sm hx⟩
 yl:=fun b args H v H' h=>yield_ok hR h
theorem qv2{C:Ctx} (hm:C.P.follows .mixedOrders=true) (hS:qtz C):∀n,qld C none (qre C n true)/\∀l,qld C (some l) (qre C n false)
 |0=>⟨fun c s x s' h=>by simp[qre]at h,fun l c s x s' h=>by simp[qre]at h⟩
 |n+1=>
  have⟨h1,h2⟩:=qv2 hm hS n
  ⟨qzu (rf:=true) hm (fn_ok hS h1 h2) h1 (fun _=>rfl),fun l=>qzu (rf:=false) hm (fn_ok hS h1 h2) (h2 l) (fun h=>by cases h)⟩
theorem call_ok{C:Ctx} (hm:C.P.follows .mixedOrders=true) (hS:qtz C) (n:Nat):CallOK C (callN C n):=fn_ok hS (qv2 hm hS n).1 (qv2 hm hS n).2
def qat(C:Ctx):qc5:=fun c args H=>match c with
 |.fn f=>match C.summ f with
  |some g=>g args H
  |none=>none
 |.yl _=>none
theorem callL_ok{C:Ctx} (hS:qtz C):CallOK C (qat C) where
 fn:=by
  intro f args H v H' h;unfold qat at h;split at h
  ·rename_i g hs;split at h
   next g' hs'=>cases hs;exact hS _ g' hs' args H v H' h
   ·cases h
  ·cases h
 yl:=fun b args H v H' h=>by cases h
end
structure GlobsIn (W:World):Prop where
 gl:∀g,g∈globs->∃m,W.cell? ⟨g,0,none⟩=some (.int .i64 m)
 gi:∀g,g∈ivars->∃v,W.cell? ⟨g,0,none⟩=some v/\isIf v
 gp:∀x,x∈pins->∀i n,x.2[i]? = some n->W.cell? ⟨x.1,i,none⟩=some (.int .u8 n)
 gx:∀x,x∈tabs->∃t fz,W.heap[x.1]? = some (.cells (x.2.2.map (Value.int x.2.1)).toArray t fz)
theorem zai:∀x,x∈pins->∃n,x.2[0]? = some n:=by
 intro x h;have:pins.all (fun x=>(x.2[0]?).isSome)=true:=by decide +kernel
 exact Option.isSome_iff_exists.1 (List.all_eq_true.1 this x h)
theorem heap_lt{W:World} {g:Nat} {o:Obj} (hm:W.heap[g]? = some o):g < W.heap.size:=by apply Decidable.byContradiction;intro hn;have:W.heap[g]? = none:=Array.getElem?_eq_none (Nat.le_of_not_lt hn);rw[this]at hm;cases hm
theorem qv7{W:World} {g:Nat} {v:Value} (hm:W.cell? ⟨g,0,none⟩=some v):g < W.heap.size:=by apply Decidable.byContradiction;intro hn;have:W.heap[g]? = none:=Array.getElem?_eq_none (Nat.le_of_not_lt hn);simp[World.cell?,this]at hm
def start(W:World) (hg:GlobsIn W):Place:=⟨fun _=>none,W,fun k=>k < W.heap.size,fun g h=>⟨let ⟨_,hm⟩:=hg.gl g h;qv7 hm,hg.gl g h⟩,fun g h=>⟨let ⟨_,hm,_⟩:=hg.gi g h;qv7 hm,hg.gi g h⟩,fun x h=>⟨let ⟨n,hn⟩:=zai x h;qv7 (hg.gp x h 0 n hn),hg.gp x h⟩,fun x h=>⟨let ⟨_,_,hm⟩:=hg.gx x h;heap_lt hm,hg.gx x h⟩⟩
variable {W:World} {hg:GlobsIn W}
theorem qzz(W:World) (hg:GlobsIn W):Sim (start W hg) ⟨0,[]⟩ W where
 base:=fun _ h=>h
 below:=fun _ _=>rfl
 os:=rfl
 tape:=rfl
 output:=rfl
 dom:=fun _ _=>rfl
 nodup:=List.nodup_nil
 live:=fun e he=>by cases he
 inj:=fun e e' he=>by cases he
theorem Step.grown{ρ:Place} {H:Heap} {w:World} (s:Sim ρ H w) (t:Step (start W hg) ⟨0,[]⟩ W ρ H w):Below W.heap.size W w:=
 ⟨s.os.trans t.le.os,s.tape.trans t.le.tape,s.output.trans t.le.output,t.size,fun k hk=>t.keeps k hk fun e he=>by cases he⟩
section
variable {H:Type} {enc:TypeId × Value->H} {P:Program}
theorem qq7{ts:List TypeId} (hl:laidOutB P=true) (hr:∀t,t∈ts->P.readableRec t=true/\t < P.types.size) {W W':World} {sp:Nat->Bool} {vs:List Value} {ds:List (DataW H)} {ps:List MemPlace}
  (h:DataW.TrodAll enc P W 0 (fun _=>true) true ts vs ds ps) (hb:Below W.heap.size W W') (hlt:∀x,x∈ps->x.block < W.heap.size) (hsp:∀x,x∈ps->sp x.block=true) :
  DataW.TrodAll enc P W' 0 sp true ts vs ds ps:=by
 induction ts generalizing vs ds ps with
 |nil=>cases vs<;>cases ds<;>first|exact h|exact h.elim
 |cons t ts ih=>
  cases vs with
  |nil=>exact h.elim
  |cons v vs=>
   cases ds with
   |nil=>exact h.elim
   |cons d ds=>obtain⟨p,q,h1,h2,rfl⟩:=h;refine⟨p,q,WideElems.Trod_stays hl (hr t List.mem_cons_self).1 (hr t List.mem_cons_self).2 h1 (fun x hx=>hb.same (hlt x (by simp[hx]))) (fun x hx=>hsp x (by simp[hx])),?_,rfl⟩;exact ih (fun t ht=>hr t (List.mem_cons_of_mem _ ht)) h2 (fun x hx=>hlt x (by simp[hx])) (fun x hx=>hsp x (by simp[hx]))
theorem law_post{f:Func} {s:ChangeSpec} {apart fresh handsOn again:Bool} {W W':World} {args:Array Value} {ds gs:List (DataW H)} {before:List MemPlace} {tb:TypeId}
  (hl:laidOutB P=true) (hr:∀t,t∈f.params.toList->P.readableRec t=true/\t < P.types.size) (hb:P.underlying tb=some .bool) (hres:f.resultTypes = #[tb]) (hvars:s.vars=[])
  (hfn:(s.fn H (ds++gs)).results=[.lit (.bool true)]/\(s.fn H (ds++gs)).args=ds/\(s.fn H (ds++gs)).vars=[])
  (hW:DataW.Whole enc P f.params.toList s.vars apart W args.toList ds gs before) (hg:Below W.heap.size W W'):s.post enc P f apart fresh handsOn again W args (.bool true) W':=by
 have hlt:=hW.lt;have hW':=hW;obtain⟨p,q,h1,h2,rfl,hz,hn⟩:=hW';rw[hvars]at h2;have hq:q=[]:=by
  cases gs with
  |nil=>exact h2
  |cons g gs=>exact h2.elim
 subst hq;rw[List.append_nil]at hlt hz hn hW;have hres1:(Value.bool true).resultList f.resultTypes.size=[.bool true]:=by rw[hres];rfl
 have tr:∀(b:Nat) (sp:Nat->Bool) (hd:Bool),DataW.TrodAll enc P W' b sp hd f.resultTypes.toList ((Value.bool true).resultList f.resultTypes.size) (s.fn H (ds++gs)).results []:=fun b sp hd=>by rw[hres1,hres,hfn.1];exact⟨[],[],⟨1,by simp[DataW.trod,Value.cells,hb]⟩,rfl,rfl⟩
 have ta:∀sp:Nat->Bool,(∀x,x∈p->sp x.block=true)->DataW.TrodAll enc P W' 0 sp true f.params.toList args.toList (s.fn H (ds++gs)).args p:=fun sp hsp=>by rw[hfn.2.1];exact qq7 hl hr h1 hg hlt hsp
 have tv:∀sp:Nat->Bool,DataW.TrodVars enc P W' sp s.vars (s.fn H (ds++gs)).vars []:=fun sp=>by rw[hvars,hfn.2.2];rfl
 refine⟨ds,gs,p,[],p,[],hW,tr _ _ _,ta _ (fun x hx=>by simpa using hlt x hx),tv _,World.keptBut_mono (fun x hx=>hx.elim) (hg.frame fun _=>False),fun _=>?_⟩;refine⟨?_,_,_,([]++p)++[],⟨[]++p,[],ChangeShapes.trodAll_append (ta _ fun _ _=>rfl) (tr _ _ _),tv _,rfl,?_,?_⟩,?_⟩
 ·rw[hres1];intro j t r hj hr';rw[hres]at hj;cases j with
  |zero=>simp at hj hr';subst hj;subst hr';simp[Value.okWide,hb,Cell.okWide,Cell.ok]
  |succ j=>simp at hj
 ·intro b off hp;have hp':MemPlace.cell b off∈p:=by simpa using hp
  have hlt':b < W.heap.size:=hlt _ hp';have:=hz b off hp';simp only[World.frozen?]at this ⊢;rw[hg.block b hlt'];exact this
 ·intro ha;have:=hn ha;simpa using this
 ·intro x hx _;simpa using hx
end
def qgq(ag:Bool) (as:List AV):Option AV:=match ag with
 |true=>some (.agg as)
 |false=>match as with
  |[a]=>match a.single with
   |true=>some a
   |false=>none
  |_=>none
def litA:Lit->Option AV
 |.bool b=>some (.bool b)
 |.int k n=>some (.int k n)
 |.float k b=>some (.float k b)
 |.string s=>some (.str s)
 |_=>none
def qfl(n:Nat):List AV->Bool
 |[]=>true
 |a::r=>match Nat.beq a.cells.length n with
  |true=>qfl n r
  |false=>false
def qpn{α β:Type} (f:α->Option β):List α->Option (List β)
 |[]=>some []
 |x::r=>(f x).bind fun y=>(qpn f r).bind fun ys=>some (y::ys)
theorem qny{α β:Type} {f:α->Option β}:∀{l:List α} {r:List β},qpn f l=some r->r.length=l.length/\∀i (h:i < l.length) (h':i < r.length),f l[i]=some r[i]
 |[],r,h=>by simp only[qpn,sj]at h;subst h;exact⟨rfl,fun i h=>absurd h (Nat.not_lt_zero i)⟩
 |x::l,r,h=>by
  obtain⟨y,hy,h⟩:=obs h;obtain⟨ys,hys,h⟩:=obs h;simp only[sj]at h;subst h;obtain⟨h1,h2⟩:=qny hys;refine⟨by simp[h1],fun i hi hi'=>?_⟩;cases i with
  |zero=>exact hy
  |succ i=>exact h2 i (by simpa using hi) (by simpa using hi')
def qns{H:Type} (f:TypeId->DataW H->Option (List AV)) (P:Program):Nat->List Field->List (DataW H)->Option (List AV)
 |_,[],ds=>match ds with
  |[]=>some []
  |_::_=>none
 |o,x::fs,ds=>match ds with
  |[]=>none
  |d::ds=>match Nat.beq x.offset o with
   |false=>none
   |true=>(f x.type d).bind fun as=>match Nat.beq as.length (P.cellsOf x.type)with
    |false=>none
    |true=>(qns f P (o+P.cellsOf x.type) fs ds).bind fun r=>some (as++r)
def qf5{H:Type} (P:Program):Nat->TypeId->DataW H->Option (List AV)
 |0,_,_=>none
 |Nat.succ n,t,d=>(P.underlying t).bind fun u=>match u,d with
  |.bool,.lit l=>(litA l).bind fun a=>some [a]
  |.int _,.lit l=>(litA l).bind fun a=>some [a]
  |.string,.lit l=>(litA l).bind fun a=>some [a]
  |.slice e,.nil=>some [.fslc (P.cellsOf e) []]
  |.slice e,.slice elems _=>match elems with
   |[]=>some [.fslc (P.cellsOf e) []]
   |_::_=>(qgc P e).bind fun ag=>(qpn (fun d=>(qf5 P n e d).bind (qgq ag)) elems).bind fun es=>match qfl (P.cellsOf e) es with
    |true=>match Nat.ble 1 (P.cellsOf e)with
     |true=>some [.fslc (P.cellsOf e) es]
     |false=>none
    |false=>none
  |.struct fs,.agg parts=>(qns (qf5 P n) P 0 fs.toList parts).bind fun as=>match Nat.beq as.length (P.cellsOf t)with
   |true=>some as
   |false=>none
  |_,_=>none
def argA{H:Type} (P:Program) (n:Nat) (t:TypeId) (d:DataW H):Option AV:=(qgc P t).bind fun ag=>(qf5 P n t d).bind (qgq ag)
section
variable {W:World} {hg:GlobsIn W} {ρ:Place} {H:Type} {enc:TypeId × Value->H} {P:Program}
theorem qnc{ag:Bool} {as:List AV} {a:AV} (h:qgq ag as=some a):a.cells=as:=by
 cases ag with
 |true=>simp only[qgq,sj]at h;subst h;rfl
 |false=>
  unfold qgq at h;simp only at h;split at h
  ·rename_i b;split at h
   next hs=>simp only[sj]at h;subst h;cases b<;>first|rfl|simp[AV.single]at hs
   ·cases h
  ·cases h
theorem qiv{n:Nat}:∀{l:List AV},qfl n l=true->∀i (h:i < l.length),l[i].cells.length=n
 |[],_,i,hi=>absurd hi (Nat.not_lt_zero i)
 |a::r,h,i,hi=>by
  unfold qfl at h;split at h
  ·rename_i hb;cases i with
   |zero=>exact Nat.eq_of_beq_eq_true hb
   |succ i=>exact qiv h i (by simpa using hi)
  ·cases h
theorem qm4{w:World} {base:Nat} {a:Addr} {n:Nat} {cs:List Value} (h:w.cells? base a n=some cs):cs.length=n/\∀i (h':i < cs.length),w.cell? (a.add i)=some cs[i]:=by
 unfold World.cells? at h;split at h
 ·have key:∀(l:List Nat) (cs:List Value),l.mapM (fun i=>w.cell? (a.add i))=some cs->cs.length=l.length/\∀i (h1:i < l.length) (h2:i < cs.length),w.cell? (a.add l[i])=some cs[i]:=by
   intro l;induction l with
   |nil=>intro cs h;simp at h;subst h;exact⟨rfl,fun i h=>absurd h (Nat.not_lt_zero i)⟩
   |cons x l ih=>
    intro cs h;rw[List.mapM_cons]at h;obtain⟨y,hy,h⟩:=obs h;obtain⟨ys,hys,h⟩:=obs h;obtain rfl:y::ys=cs:=(by simpa using h);obtain⟨h1,h2⟩:=ih ys hys;refine⟨by simp[h1],fun i a b=>?_⟩;cases i with
    |zero=>exact hy
    |succ i=>exact h2 i (by simpa using a) (by simpa using b)
  obtain⟨h1,h2⟩:=key _ _ h;refine⟨by simpa using h1,fun i hi=>?_⟩;have:=h2 i (by rw[<- h1];exact hi) hi;simpa using this
 ·cases h
theorem qys{w:World} {a:Addr} {v:Value} (h:w.cell? a=some v):a.spot=none/\a.block < w.heap.size:=by
 unfold World.cell? at h;split at h
 ·rename_i c t fr hh;split at h
  ·cases h
  ·rename_i hs;exact⟨by cases hsp:a.spot with
    |none=>rfl
    |some _=>rw[hsp]at hs;simp at hs,(Array.getElem?_eq_some_iff.1 hh).1⟩
 ·cases h
theorem qna{a:Addr} (h:a.spot=none) (k:Nat):a.add k=⟨a.block,a.off+k,none⟩:=by
 cases a;simp only at h;subst h;unfold Addr.add;split
 next hk=>simp[hk]
 ·rfl
theorem qm3{base:Nat} {sp:Nat->Bool} {held:Bool}:∀{n:Nat} {fuel:Nat} {t:TypeId} {cs:List Value} {x:DataW H × List MemPlace} {as:List AV},
  DataW.trod enc P W base sp held fuel t cs=some x->qf5 P n t x.1=some as->VRs (start W hg) as cs
 |0,_,_,_,_,_,_,h=>by simp[qf5]at h
 |n+1,fuel,t,cs,x,as,htr,h=>by
  obtain⟨u,hu,h⟩:=obs h;have one:∀{a:AV} {v:Value},VR (start W hg) a v->VRs (start W hg) [a] [v]:=fun h=>.cons h .nil;cases u with
  |bool=>
   cases fuel with
   |zero=>simp[DataW.trod]at htr
   |succ m=>unfold DataW.trod at htr;rw[hu]at htr;split at htr<;>simp_all;obtain⟨rfl⟩:=htr;obtain⟨a,ha,rfl⟩:=h;exact one (.bool _)
  |int k=>
   cases fuel with
   |zero=>simp[DataW.trod]at htr
   |succ m=>unfold DataW.trod at htr;rw[hu]at htr;split at htr<;>simp_all;obtain⟨⟨rfl,_⟩,rfl⟩:=htr;obtain⟨a,ha,rfl⟩:=h;exact one (.int _ _)
  |string=>
   cases fuel with
   |zero=>simp[DataW.trod]at htr
   |succ m=>unfold DataW.trod at htr;rw[hu]at htr;split at htr<;>simp_all;obtain⟨_,rfl⟩:=htr;obtain⟨a,ha,rfl⟩:=h;rename_i sb _;have hb:(⟨sb.data.toList.toArray⟩ : ByteArray)=sb:=(by cases sb;simp);have:=VR.str (ρ:=start W hg) sb.data.toList;rw[hb]at this;exact one this
  |slice e=>
   rcases DataW.trod_slice hu htr with⟨rfl,rfl⟩|⟨a,len,cap,elems,rest,m,rfl,rfl,rfl,hb,hl,hc,hlen,hel,_⟩
   ·simp only[sj]at h;subst h;exact one (.fnil _)
   ·simp only at h;split at h
    next hnil=>simp only[sj]at h;subst h;have:len=0:=(by rw[<- hlen];simpa using hnil);subst this;exact one (.fnone _ a cap)
    ·rename_i hcons;obtain⟨ag,hag,h⟩:=obs h;obtain⟨es,hes,h⟩:=obs h;split at h
     ·rename_i hsz;split at h
      ·rename_i hpos;simp only[sj]at h;subst h;obtain⟨g1,g2⟩:=qny hes;have hel':es.length=len:=(by rw[g1];simpa using hlen);have hpos':1<=P.cellsOf e:=Nat.le_of_ble_eq_true hpos;have hes':=qiv hsz;have each:∀i (hi:i < es.length),∃ci:List Value,W.cells? base (a.add (i * P.cellsOf e)) (P.cellsOf e)=some ci/\VRs (start W hg) es[i].cells ci:=(by intro i hi;have hil:i < len:=(by omega);have hie:i < elems.length:=(by omega);have h1:=hel i hil;rw[List.getElem?_eq_getElem hie]at h1;obtain⟨ci,hci,hti⟩:=obs h1;have h2:=g2 i (by simpa using hie) hi;obtain⟨as',ha',hw'⟩:=obs h2;rw[qnc hw'];exact⟨ci,hci,qm3 hti (by simpa using ha')⟩);have hne:0 < es.length:=by
        cases elems with
        |nil=>simp at hcons
        |cons _ _=>simp at g1;omega
       obtain⟨c0,hc0,hv0⟩:=each 0 hne;obtain⟨l0,cell0⟩:=qm4 hc0;obtain⟨hspot,hblk⟩:=qys (cell0 0 (by omega));have hspot':a.spot=none:=(by simpa[Addr.add]using hspot);have hblk':a.block < W.heap.size:=(by simpa[Addr.add]using hblk);have ha:a=⟨a.block,a.off,none⟩:=(by cases a;simp at hspot';simp[hspot']);have key:VR (start W hg) (.fslc (P.cellsOf e) es) (.slice (some ⟨a.block,a.off,none⟩) es.length cap):=by
        refine .fslc (P.cellsOf e) es a.block a.off cap (fun i j=>(W.cell? ⟨a.block,a.off+i * P.cellsOf e+j,none⟩).getD undef) hblk' (by omega) hes' (fun i hi j hj=>?_) (fun i hi j hj=>?_)
        ·obtain⟨ci,hci,hvi⟩:=each i hi;obtain⟨li,celli⟩:=qm4 hci;have:=celli j (by omega);have e1:(a.add (i * P.cellsOf e)).add j=⟨a.block,a.off+i * P.cellsOf e+j,none⟩:=(by rw[qna hspot',qna rfl]);rw[e1]at this;show W.cell? _=_;rw[this];rfl
        ·obtain⟨ci,hci,hvi⟩:=each i hi;obtain⟨li,celli⟩:=qm4 hci;have hj':j < ci.length:=(by rw[hvi.1];exact hj);have:=celli j hj';have e1:(a.add (i * P.cellsOf e)).add j=⟨a.block,a.off+i * P.cellsOf e+j,none⟩:=(by rw[qna hspot',qna rfl]);rw[e1]at this;rw[this];exact(hvi.2 j hj hj')
       rw[hel',<- ha]at key;exact one key
      ·cases h
     ·cases h
  |struct fs=>
   obtain⟨xs,m,rfl,rfl,hlen,hxs,hf⟩:=DataW.trod_struct hu htr;simp only at h;have key:∀(l:List Field) (o k:Nat) (as:List AV),(∀i (hi:i < l.length),fs[k+i]? = some l[i])->k+l.length=fs.size->qns (qf5 P n) P o l ((xs.map (·.1)).drop k)=some as ->
     ∃len,as.length=len/\(o+len<=cs.length\/len=0)/\VRs (start W hg) as ((cs.drop o).take len):=by
    intro l;induction l with
    |nil=>
     intro o k as _ _ h;unfold qns at h;split at h
     ·simp only[sj]at h;subst h;exact⟨0,rfl,.inr rfl,by simpa using VRs.nil⟩
     ·cases h
    |cons y l ih=>
     intro o k as hfs hk h;have hy:fs[k]? = some y:=hfs 0 (Nat.zero_lt_succ _);have hkx:k < xs.length:=(by rw[hxs];simp at hk;omega);have hdrop:(xs.map (·.1)).drop k=xs[k].1::(xs.map (·.1)).drop (k+1):=(by rw[List.drop_eq_getElem_cons (by simpa using hkx)];simp);rw[hdrop]at h;unfold qns at h;simp only at h;split at h
     ·cases h
     ·rename_i hoff;obtain⟨as1,h1,h⟩:=obs h;split at h
      ·cases h
      next hl1=>obtain⟨r,hr,h⟩:=obs h;simp only[sj]at h;subst h;have hoff':y.offset=o:=Nat.eq_of_beq_eq_true hoff;have hl1':as1.length=P.cellsOf y.type:=Nat.eq_of_beq_eq_true hl1;have ht:=hf k y hy;rw[List.getElem?_eq_getElem hkx,hoff']at ht;have hv1:=qm3 ht h1;obtain⟨len,q1,q2,q3⟩:=ih (o+P.cellsOf y.type) (k+1) r (fun i hi=>by have:=hfs (i+1) (by simpa using hi);simpa[Nat.add_assoc,Nat.add_comm 1 i]using this) (by simp at hk;omega) hr;have hsize:((cs.drop o).take (P.cellsOf y.type)).length=P.cellsOf y.type:=(by rw[hv1.1,hl1']);have hle:o+P.cellsOf y.type<=cs.length\/P.cellsOf y.type=0:=(by rw[List.length_take,List.length_drop]at hsize;omega);refine⟨P.cellsOf y.type+len,by simp[hl1',q1],by omega,?_⟩;have hsplit:(cs.drop o).take (P.cellsOf y.type+len)=(cs.drop o).take (P.cellsOf y.type)++(cs.drop (o+P.cellsOf y.type)).take len:=(by rw[List.take_add,List.drop_drop]);rw[hsplit];exact hv1.append q3
   obtain⟨as',has,h⟩:=obs h;split at h
   next htot=>simp only[sj]at h;subst h;have htot':as'.length=P.cellsOf t:=Nat.eq_of_beq_eq_true htot;obtain⟨len,q1,q2,q3⟩:=key fs.toList 0 0 as' (fun i hi=>by simp at hi ⊢) (by simp) (by simpa using has);have hle:len=cs.length:=(by omega);simpa[hle]using q3
   ·cases h
  |_=>simp at h
theorem argA_run{n:Nat} {r:Reach} {b0:Nat} {base:Nat} {sp:Nat->Bool} {held:Bool} {t:TypeId} {v:Value} {d:DataW H} {ps:List MemPlace} {a:AV} (ht:DataW.Trod enc P W base sp held t v d ps) (hok:Value.okWide P W r b0 t v) (h:argA P n t d=some a):VR (start W hg) a v:=by
 obtain⟨fuel,hf⟩:=ht;obtain⟨ag,hag,h⟩:=obs h;obtain⟨as,has,h⟩:=obs h;have hv:=qm3 (hg:=hg) hf has;obtain⟨u,hu,hag⟩:=obs hag;have agg:∀cs:Array Value,v=.agg cs->ag=true->VR (start W hg) a v:=by rintro cs rfl rfl;simp only[qgq,sj]at h;subst h;exact .agg as cs (by simpa[Value.cells]using hv.1) fun i h1 h2=>hv.2 i h1 (by simpa[Value.cells]using h2)
 have cell:ag=false->Cell.okWide P W r b0 t v->VR (start W hg) a v:=by
  rintro rfl hc;have hcs:v.cells = #[v]:=by
   cases v with
   |agg cs=>simp only[Cell.okWide,Cell.ok]at hc;revert hc;cases P.underlying t with
    |none=>exact fun h=>h.elim
    |some u=>cases u<;>exact fun h=>h.elim
   |_=>rfl
  unfold qgq at h;simp only at h;split at h
  ·split at h
   ·simp only[sj]at h;subst h;rw[hcs]at hv;exact hv.head
   ·cases h
  ·cases h
 unfold Value.okWide at hok;rw[hu]at hok;cases u with
 |struct fs=>obtain⟨cs,h1,_⟩:=hok;simp only[sj]at hag;exact agg cs h1 hag.symm
 |array k e=>obtain⟨cs,h1,_⟩:=hok;simp only[sj]at hag;exact agg cs h1 hag.symm
 |_=>simp only[sj]at hag;exact cell hag.symm hok
end
@[simp]theorem lookK_hit{t:Nat} {ks:List Nat} {v:AV} {vs:List AV}:qfi t (t::ks) (v::vs)=some v:=by simp[qdk,qic]
@[simp]theorem lookK_miss{t k:Nat} (h:k≠t) {ks:List Nat} {v:AV} {vs:List AV}:qfi t (k::ks) (v::vs)=qfi t ks vs:=by simp[qdk,qb4 h]
@[simp]theorem lookK_nil{t:Nat} {vs:List AV}:qfi t [] vs=none:=rfl
@[simp]theorem look_hit{t:Nat} {v:AV} {r:List (Nat × AV)}:look t ((t,v)::r)=some v:=by simp[qgm,qma]
@[simp]theorem look_miss{t k:Nat} (h:k≠t) {v:AV} {r:List (Nat × AV)}:look t ((k,v)::r)=look t r:=by simp[qgm,qb4 h]
@[simp]theorem look_nil{t:Nat}:look t []=none:=rfl
@[simp]theorem putK_hit{t:Nat} {ks:List Nat} {x v:AV} {vs:List AV}:qu1 t v (t::ks) (x::vs)=some (v::vs):=by simp[qsg,putK_n]
@[simp]theorem putK_miss{t k:Nat} (h:k≠t) {ks:List Nat} {x v:AV} {vs:List AV}:qu1 t v (k::ks) (x::vs)=(qu1 t v ks vs).bind fun r=>some (x::r):=by simp[qsg,qb4 h]
@[simp]theorem putK_nil{t:Nat} {v:AV} {vs:List AV}:qu1 t v [] vs=none:=rfl
@[simp]theorem St_get_mk{ks:List Nat} {vs:List AV} {ts:List (Nat × AV)} {sz t:Nat} {H:Heap}:St.get ⟨ks,vs,ts,sz,H⟩ t=match qfi t ks vs with
  |some v=>some v
  |none=>look t ts:=rfl
@[simp]theorem St_set_mk{ks:List Nat} {vs:List AV} {ts:List (Nat × AV)} {sz t:Nat} {H:Heap} {v:AV} (h:t < sz):St.set ⟨ks,vs,ts,sz,H⟩ t v=match qu1 t v ks vs with
  |some vs=>some ⟨ks,vs,ts,sz,H⟩
  |none=>some ⟨ks,vs,(t,v)::ts,sz,H⟩:=by
 have:Nat.blt t sz=true:=by simpa using h
 unfold St.set;simp only[this];cases qu1 t v ks vs<;>rfl
@[simp]theorem St_put_some{s:St} {t:Nat} {v:AV}:s.put (some t) v=s.set t v:=rfl
@[simp]theorem St_put_none{s:St} {v:AV}:s.put none v=some s:=rfl
@[simp]theorem opnd_tmp{s:St} {t:Nat}:qbr s (.tmp t)=s.get t:=rfl
@[simp]theorem opnd_const{s:St} {v:Value}:qbr s (.const v)=some (ofV v):=rfl
@[simp]theorem opnd_func{s:St} {f:FuncId}:qbr s (.func f)=some (.func (.func f) [] []):=rfl
@[simp]theorem opnds_nil{s:St}:qex s []=some []:=rfl
theorem qya{s:St} {x:Operand} {r:List Operand}:qex s (x::r)=(qbr s x).bind fun v=>(qex s r).bind fun vs=>some (v::vs):=rfl
section
variable {C:Ctx} {s:St}
@[simp]theorem evalOps_nil{call:qc5} {ops:Array Oper}:qej C call ops [] s=some s:=rfl
theorem qth{call:qc5} {ops:Array Oper} {o:Oper} {r:List Oper}:qej C call ops (o::r) s=(qdt C call ops o (qbn s o)).bind fun s=>qej C call ops r s:=rfl
end
def qab(K:St->Prop) (Q:Out->St->Prop):Out->St->Prop
 |.normal,s=>K s
 |x,s=>Q x s
def qa5(id:Nat) (Q:Out->St->Prop):Out->St->Prop
 |.exit k,s=>if k=id then Q .normal s else Q (.exit k) s
 |x,s=>Q x s
section
variable {C:Ctx} {s:St} {Q:Out->St->Prop}
@[simp]theorem thenQ_normal{K:St->Prop} {s:St}:qab K Q .normal s=K s:=rfl
@[simp]theorem thenQ_exit{K:St->Prop} {s:St} {k:Nat}:qab K Q (.exit k) s=Q (.exit k) s:=rfl
@[simp]theorem thenQ_goto{K:St->Prop} {s:St} {k:Nat}:qab K Q (.goto k) s=Q (.goto k) s:=rfl
@[simp]theorem thenQ_ret{K:St->Prop} {s:St}:qab K Q .ret s=Q .ret s:=rfl
@[simp]theorem blockQ_normal{id:Nat} {s:St}:qa5 id Q .normal s=Q .normal s:=rfl
@[simp]theorem qve{id k:Nat} {s:St}:qa5 id Q (.exit k) s=if k=id then Q .normal s else Q (.exit k) s:=rfl
@[simp]theorem blockQ_goto{id k:Nat} {s:St}:qa5 id Q (.goto k) s=Q (.goto k) s:=rfl
@[simp]theorem blockQ_ret{id:Nat} {s:St}:qa5 id Q .ret s=Q .ret s:=rfl
