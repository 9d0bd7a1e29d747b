/- ref28.Tree: may a tree be written and read again? The document's code. No condition. -/
import Derived.Test.YtocnpnnplllneaaGreatDoorMH
import Derived.Test.YtocnpnnplllneaaGreatDoorMJ
import Derived.Test.YtocnpnnplllneaaGreatDoorMQ
import Derived.Test.YtocnpnnplllneaaGreatDoorMK
namespace Go.Proofs.YtocnpnnplllneaaGreatDoor
set_option linter.unusedSimpArgs false
set_option linter.unusedVariables false
open Go Go.RowKit
set_option maxRecDepth 100000
def bls (s:List Bool):List AV:=s.map AV.bool
theorem qj1 (s:List Bool):qac (bls s)=true:=by
 unfold bls
 induction s with
 | nil=>rfl
 | cons x r ih=>simp only [List.map_cons,qac,qah,ih];rfl
theorem getB {s:List Bool} {i:Nat} (h:i < s.length):qc7 (bls s) i=some (.bool s[i]):=by simp [bls,qg3 h]
theorem layB:∀ {s:List Bool} {i:Nat},i < s.length→qge [.bool true] i (bls s)=some (bls (s.set i true))
 | [],i,h=>absurd h (Nat.not_lt_zero i)
 | x::r,0,h=>rfl
 | x::r,i+1,h=>by
  show ((qge _ i (bls r)).bind fun r'=>some (_::r'))=_
  rw [layB (s:=r) (by simpa using h)];rfl
theorem qw9:∀ (n:Nat),replL [.bool false] n=bls (List.replicate n false)
 | 0=>rfl
 | n+1=>by simp only [replL,qw9 n,List.replicate_succ,bls,List.map_cons];rfl
theorem msBool {n:Nat} (h:n≤1000000):msB Tryz.prog 45 (.int .i64 (n:Int)) (.int .i64 (n:Int))=some (fun b=>.slc b 0 n (.ex n),.cells (bls (List.replicate n false))):=by
 have h1:idx (n:Int) 17592186044416=some n:=qbs (by omega)
 have h2:idx (n:Int) (Nat.succ n)=some n:=qbs (by omega)
 have hz:qbn Tryz.prog 4=some (.bool false):=zeT4
 have hs:qbw Tryz.prog 4=some 1:=szT4
 have hb:qc6 Tryz.prog 4=some 1:=byT4
 have h3:qck n 1=true:=by simp [qck];omega
 simp only [msB,Tryz.underlying45,Option.bind_some,hs,hb,h1,h2,h3,hz]
 simp [AV.cells,qw9]
theorem ixB {b n i:Nat} {cap:Cap} (h:i < n):qat Tryz.prog 45 (.slc b 0 n cap) (.int .i64 (i:Int))=some (.ptr b i):=by simp [qat,qbs h]
theorem qcu {b:Nat} {rs:List Nat} {f:List (Nat × Blk)} {r:List (List (Nat × Blk))} (h:(getF b f).isSome=true):qct b rs [] (f::r)=f::r:=by
 obtain ⟨k,hk⟩:=Option.isSome_iff_exists.1 h
 unfold qct
 rw [hk];rfl
theorem qly:∀ (L:List Nd),allSingle (qa4 (L.map qa7))=true
 | []=>rfl
 | x::r=>by
  rw [List.map_cons]
  show allSingle (x.cs++qa4 (r.map qa7))=true
  rw [qd2,qly r];rfl
theorem WpSr.perm {C:Ctx} {n:Nat} {r:Option Nat} {Q:Out→St→Prop} {c:Code} {ks:List Nat} {vs:List AV} {ts:List (Nat × AV)} {sz:Nat} {H:Heap} (H2:Heap) (hn:H2.n=H.n) (p:H2.ents.Perm H.ents)
  (h:WpSr C n r c ⟨ks,vs,ts,sz,H2⟩ Q):WpSr C n r c ⟨ks,vs,ts,sz,H⟩ Q:=by
 intro b a w hb ha K hK
 obtain ⟨ρ,g1,g2,g3,g4⟩:=ha
 have g1':Since b ρ H w:=g1
 have g2':Sim ρ H w:=g2
 refine h b a w hb ⟨ρ,?_,g2'.perm hn p,⟨g3.size,g3.val⟩,?_⟩ K hK
 ·exact { fz:=g1.fz,os:=g1.os,tape:=g1.tape,output:=g1.output,size:=g1.size,keeps:=g1.keeps,rows:=fun e he=>g1.rows e (p.mem_iff.1 he),cold:=g1.cold,low:=g1.low,num:=by rw [show (St.mk ks vs ts sz H2).H.n=H2.n from rfl,hn];exact g1'.num }
 ·have g4':Dfr b.w.heap.size ρ H w a.defers b.ds:=g4
  obtain ⟨rs,h1,h2,h3⟩:=g4'
  exact ⟨rs,h1,h2,fun r hr=>⟨(h3 r hr).ge,(h3 r hr).obj,(h3 r hr).cold,fun e he=>(h3 r hr).apart e (p.mem_iff.1 he)⟩⟩
theorem qpm:∀ {l:List AV},allSingle l=true→∀ i (h:i < l.length),l[i].single=true
 | [],_,i,h=>absurd h (Nat.not_lt_zero i)
 | v::r,h,i,hi=>by
  unfold allSingle at h
  cases hv:v.single with
  | false=>rw [hv] at h;cases h
  | true=>
   rw [hv] at h
   cases i with
   | zero=>exact hv
   | succ i=>exact qpm h i (by simpa using hi)
theorem qsm:∀ (xs:List Value),qac (xs.map AV.val)=true
 | []=>rfl
 | x::r=>by simp [qac,qah,qsm r]
theorem qnk:∀ (xs:List Value),allSingle (xs.map AV.val)=true
 | []=>rfl
 | x::r=>by simp [allSingle,AV.single,qnk r]
theorem qsv {α:Type} {p:Nat→α→Prop}:∀ (n:Nat),(∀ i,i < n→∃ x,p i x)→∃ l:List α,l.length=n∧∀ i (h:i < l.length),p i l[i]
 | 0,_=>⟨[],rfl,fun i h=>absurd h (Nat.not_lt_zero i)⟩
 | n+1,h=>by
  obtain ⟨l,hl,hp⟩:=qsv n fun i hi=>h i (by omega)
  obtain ⟨x,hx⟩:=h n (by omega)
  refine ⟨l++[x],by simp [hl],fun i hi=>?_⟩
  by_cases hlt:i < l.length
  ·rw [List.getElem_append_left hlt];exact hp i hlt
  ·have:i=l.length:=by simp at hi;omega
   subst this
   simp only [List.getElem_append_right (Nat.le_refl _),Nat.sub_self,List.getElem_cons_zero]
   rw [hl];exact hx
theorem CallAt.anyfront {C:Ctx} {f:FuncId} {args:List AV} {v:AV} {n n' b b':Nat} {P c0 cs:List AV} {g g':List (Nat × Blk)} (hs:allSingle P=true)
  (h:∀ pre,qac pre=true→allSingle pre=true→pre.length=P.length→CallAt C f args ⟨n,[(b,.cells (pre++c0))::g]⟩ v ⟨n',[(b',.cells (pre++cs))::g']⟩) :
  CallAt C f args ⟨n,[(b,.cells (P++c0))::g]⟩ v ⟨n',[(b',.cells (P++cs))::g']⟩:=by
 intro ρ w xs sm hx
 obtain ⟨l,hl,hB,hlt,hr⟩:=sm.live (b,.cells (P++c0)) (by simp [Heap.ents])
 obtain ⟨vs,hvl,hvs⟩:=qsv (p:=fun i x=>w.cell? ⟨l.cb,l.off+i,none⟩=some x∧∀ h:i < P.length,VR ρ P[i] x) P.length fun i hi=>by
  obtain ⟨x,h1,h2⟩:=hr.2.2 i (by simp only [List.length_append];omega)
  refine ⟨x,h1,fun _=>?_⟩
  rwa [List.getElem_append_left hi] at h2
 have one:∀ i (h:i < vs.length),vs[i].oneCell'=true:=fun i hi=>((hvs i hi).2 (by omega)).oneCell (qpm hs i (by omega))
 obtain ⟨pre,hpre⟩ : ∃ p,p=vs.map AV.val:=⟨_,rfl⟩
 have hpl:pre.length=P.length:=by rw [hpre];simpa using hvl
 have sm1:Sim ρ ⟨n,[(b,.cells (pre++c0))::g]⟩ w:={
  base:=sm.base
  below:=sm.below
  os:=sm.os
  tape:=sm.tape
  output:=sm.output
  dom:=sm.dom
  nodup:=by simpa [Heap.ents] using sm.nodup
  live:=fun e he=>by
   simp only [Heap.ents,List.flatten_cons,List.flatten_nil,List.append_nil,List.mem_cons] at he
   rcases he with rfl | he
   ·refine ⟨l,hl,hB,hlt,by have:=hr.1;simp only [List.length_append] at this ⊢;omega,hr.2.1,fun i hi=>?_⟩
    by_cases hi2:i < P.length
    ·have hi':i < vs.length:=by omega
     refine ⟨vs[i],(hvs i hi').1,?_⟩
     rw [List.getElem_append_left (by omega)]
     simp only [hpre,List.getElem_map]
     exact .val _ (one i hi')
    ·obtain ⟨x,h1,h2⟩:=hr.2.2 i (by simp only [List.length_append] at hi ⊢;omega)
     refine ⟨x,h1,?_⟩
     rw [List.getElem_append_right (by omega)] at h2
     rw [List.getElem_append_right (by omega)]
     simpa only [hpl] using h2
   ·exact sm.live e (by simp [Heap.ents,he])
  inj:=fun e e' he he' l l' hl hl' hc=>by
   have mk:∀ e,e∈Heap.ents ⟨n,[(b,.cells (pre++c0))::g]⟩→∃ e2,e2∈Heap.ents ⟨n,[(b,.cells (P++c0))::g]⟩∧e2.1=e.1:=fun e he=>by
    simp only [Heap.ents,List.flatten_cons,List.flatten_nil,List.append_nil,List.mem_cons] at he
    rcases he with rfl | he
    ·exact ⟨(b,.cells (P++c0)),by simp [Heap.ents],rfl⟩
    ·exact ⟨e,by simp [Heap.ents,he],rfl⟩
   obtain ⟨e2,h1,h2⟩:=mk e he
   obtain ⟨e3,h3,h4⟩:=mk e' he'
   rw [← h2,← h4]
   exact sm.inj e2 e3 h1 h3 l l' (by rw [h2];exact hl) (by rw [h4];exact hl') hc }
 have up:∀ {x:Value} {ρ':Place} {w':World},VR ρ' v x→Sim ρ' ⟨n',[(b',.cells (pre++cs))::g']⟩ w'→Step ρ ⟨n,[(b,.cells (pre++c0))::g]⟩ w ρ' ⟨n',[(b',.cells (pre++cs))::g']⟩ w' →
   Sim ρ' ⟨n',[(b',.cells (P++cs))::g']⟩ w'∧Step ρ ⟨n,[(b,.cells (P++c0))::g]⟩ w ρ' ⟨n',[(b',.cells (P++cs))::g']⟩ w':=by
  intro x ρ' w' hv s1 t1
  have mk:∀ e,e∈Heap.ents ⟨n',[(b',.cells (P++cs))::g']⟩→∃ e2,e2∈Heap.ents ⟨n',[(b',.cells (pre++cs))::g']⟩∧e2.1=e.1:=fun e he=>by
   simp only [Heap.ents,List.flatten_cons,List.flatten_nil,List.append_nil,List.mem_cons] at he
   rcases he with rfl | he
   ·exact ⟨(b',.cells (pre++cs)),by simp [Heap.ents],rfl⟩
   ·exact ⟨e,by simp [Heap.ents,he],rfl⟩
  have mk0:∀ e,e∈Heap.ents ⟨n,[(b,.cells (pre++c0))::g]⟩→∃ e2,e2∈Heap.ents ⟨n,[(b,.cells (P++c0))::g]⟩∧e2.1=e.1:=fun e he=>by
   simp only [Heap.ents,List.flatten_cons,List.flatten_nil,List.append_nil,List.mem_cons] at he
   rcases he with rfl | he
   ·exact ⟨(b,.cells (P++c0)),by simp [Heap.ents],rfl⟩
   ·exact ⟨e,by simp [Heap.ents,he],rfl⟩
  refine ⟨{
   base:=s1.base
   below:=s1.below
   os:=s1.os
   tape:=s1.tape
   output:=s1.output
   dom:=s1.dom
   nodup:=by simpa [Heap.ents] using s1.nodup
   live:=fun e he=>by
    simp only [Heap.ents,List.flatten_cons,List.flatten_nil,List.append_nil,List.mem_cons] at he
    rcases he with rfl | he
    ·obtain ⟨l1,g1,g2,g3,g4⟩:=s1.live (b',.cells (pre++cs)) (by simp [Heap.ents])
     refine ⟨l1,g1,g2,g3,?_,g4.2.1,fun i hi=>?_⟩
     ·have:=g4.1
      simp only [List.length_append] at this ⊢
      omega
     ·obtain ⟨y,hy,hvy⟩:=g4.2.2 i (by simp only [List.length_append] at hi ⊢;omega)
      refine ⟨y,hy,?_⟩
      by_cases hi2:i < P.length
      ·have hi3:i < vs.length:=by omega
       rw [List.getElem_append_left (by omega)] at hvy
       rw [List.getElem_append_left hi2]
       simp only [hpre,List.getElem_map] at hvy
       have:y=vs[i]:=by cases hvy;rfl
       rw [this]
       exact ((hvs i hi3).2 hi2).mono t1.le
      ·rw [List.getElem_append_right (by omega)] at hvy
       rw [List.getElem_append_right (by omega)]
       simpa only [hpl] using hvy
    ·exact s1.live e (by simp [Heap.ents,he])
   inj:=fun e e' he he' l l' hl hl' hc=>by
    obtain ⟨e2,h1,h2⟩:=mk e he
    obtain ⟨e3,h3,h4⟩:=mk e' he'
    rw [← h2,← h4]
    exact s1.inj e2 e3 h1 h3 l l' (by rw [h2];exact hl) (by rw [h4];exact hl') hc },{
   le:=t1.le
   size:=t1.size
   keeps:=fun k hk hn=>t1.keeps k hk fun e he l hl=>by
    obtain ⟨e2,h1,h2⟩:=mk0 e he
    exact hn e2 h1 l (by rw [h2];exact hl)
   rows:=fun e he l hl=>by
    obtain ⟨e2,h1,h2⟩:=mk e he
    rcases t1.rows e2 h1 l (by rw [h2];exact hl) with ⟨e3,h3,l3,hl3,hc⟩ | hge
    ·obtain ⟨e4,h4,h5⟩:=mk0 e3 h3
     exact .inl ⟨e4,h4,l3,by rw [h5];exact hl3,hc⟩
    ·exact .inr hge
   num:=t1.num
   low:=t1.low
   cold:=fun k hk=>by
    rcases t1.cold k hk with hh | ⟨e3,h3,l3,hl3,hc⟩ | hh
    ·exact .inl hh
    ·obtain ⟨e4,h4,h5⟩:=mk0 e3 h3
     exact .inr (.inl ⟨e4,h4,l3,by rw [h5];exact hl3,hc⟩)
    ·exact .inr (.inr hh) }⟩
 rcases h pre (by rw [hpre];exact qsm vs) (by rw [hpre];exact qnk vs) hpl ρ w xs sm1 hx with ⟨x,ρ1,w',h0,h1,h2,h3⟩ | ⟨q,ys,h0,h1⟩
 ·obtain ⟨k1,k2⟩:=up h1 h2 h3
  exact .inl ⟨x,ρ1,w',h0,h1,k1,k2⟩
 ·refine .inr ⟨q,ys,h0,h1.mono ?_⟩
  rintro e w' ⟨x,ρ1,rfl,m1,m2,m3⟩
  obtain ⟨k1,k2⟩:=up m1 m2 m3
  exact ⟨x,ρ1,rfl,m1,k1,k2⟩
def qp5 (rec:Int→Nat→List Bool→List Nd × List Bool) (n:Nat):List Int→Nat→List Bool→List Int × List Nd × List Bool
 | [],_,s=>([],[],s)
 | k::r,z,s=>
  if 0≤k∧k < (n:Int)∧s.getD k.toNat true=false then
   let a:=rec k z s
   let b:=qp5 rec n r (z+a.1.length) a.2
   ((z:Int)::b.1,a.1++b.2.1,b.2.2)
  else qp5 rec n r z s
def qs3:Nat→Tr→Int→Int→Nat→List Bool→List Nd × List Bool
 | 0,_,_,_,_,s=>([],s)
 | f+1,t,i,up,z,s=>
  let r:=qp5 (fun k z' s'=>qs3 f t k (z:Int) z' s') t.length (qa3 t i).kids (z+1) (s.set i.toNat true)
  ({ qa3 t i with up:=up,kids:=r.1 }::r.2.1,r.2.2)
def ql4 (s:List Bool):Nat:=s.count false
theorem qk3:∀ {s:List Bool} {i:Nat},s.getD i true=false→ql4 (s.set i true)+1=ql4 s
 | [],i,h=>by simp at h
 | x::r,0,h=>by
  simp at h;subst h
  simp [ql4]
 | x::r,i+1,h=>by
  have:=qk3 (s:=r) (i:=i) (by simpa using h)
  simp only [ql4,List.set_cons_succ,List.count_cons] at this ⊢
  omega
theorem qnl {rec:Int→Nat→List Bool→List Nd × List Bool} {n:Nat} (hrec:∀ k z s,s.length=n→s.getD k.toNat true=false→(rec k z s).2.length=n∧(rec k z s).1.length+ql4 (rec k z s).2≤ql4 s):∀ (K:List Int) (z:Nat) (s:List Bool),s.length=n →
  (qp5 rec n K z s).2.2.length=n∧(qp5 rec n K z s).2.1.length+ql4 (qp5 rec n K z s).2.2≤ql4 s∧(qp5 rec n K z s).1.length≤K.length
 | [],z,s,h=>by simp [qp5,h]
 | k::r,z,s,h=>by
  unfold qp5
  split
  ·rename_i hc
   obtain ⟨h1,h2⟩:=hrec k z s h hc.2.2
   obtain ⟨h3,h4,h5⟩:=qnl hrec r (z+(rec k z s).1.length) (rec k z s).2 h1
   simp only [List.length_append,List.length_cons]
   refine ⟨h3,by omega,by omega⟩
  ·obtain ⟨h3,h4,h5⟩:=qnl hrec r z s h
   simp only [List.length_cons]
   exact ⟨h3,h4,by omega⟩
theorem qsp:∀ (f:Nat) (t:Tr) (i up:Int) (z:Nat) (s:List Bool),s.length=t.length→s.getD i.toNat true=false →
  (qs3 f t i up z s).2.length=t.length∧(qs3 f t i up z s).1.length+ql4 (qs3 f t i up z s).2≤ql4 s
 | 0,t,i,up,z,s,h,_=>by simp [qs3,h]
 | f+1,t,i,up,z,s,h,hs=>by
  have h1:=qk3 hs
  obtain ⟨h3,h4,_⟩:=qnl (rec:=fun k z' s'=>qs3 f t k (z:Int) z' s') (n:=t.length) (fun k z' s' hl hu=>qsp f t k z z' s' hl hu) (qa3 t i).kids (z+1) (s.set i.toNat true) (by simpa using h)
  unfold qs3
  simp only [List.length_cons]
  exact ⟨h3,by omega⟩
def pR (z:Nat) (pre:List AV):Option Unit→AV × List (Nat × Blk)
 | none=>(.nilS,[])
 | some _=>(.slc 0 0 z (.rest 7),[(0,.cells pre)])
def qc9 (t:Tr):Tr:=(qs3 t.length t 0 (-1) 0 (List.replicate t.length false)).1
theorem qmi:∀ (n:Nat),ql4 (List.replicate n false)=n
 | 0=>rfl
 | n+1=>by
  have:=qmi n
  simp only [ql4,List.replicate_succ,List.count_cons] at this ⊢
  simp
theorem qml {t:Tr} (h:qbq t=true):∀ n,n∈t→∀ k,k∈n.kids→0≤k∧k < (t.length:Int):=by
 intro n hn k hk
 obtain ⟨i,hi,rfl⟩:=List.getElem_of_mem hn
 have hok:qlb t i=true:=by
  cases hb:qlb t i with
  | true=>rfl
  | false=>rw [qdw hi hb] at h;cases h
 have hnd:qa3 t (i:Int)=t[i]:=qbi hi
 simp only [qlb,Bool.and_eq_true,Bool.not_eq_true'] at hok
 have:=hok.2.2
 rw [hnd] at this
 have h1:=List.any_eq_false.1 this k hk
 simp only [badC,Bool.or_eq_true,decide_eq_true_eq,not_or] at h1
 omega
theorem qw8 {t:Tr} (h:qbq t=true):t≠[]:=by
 rintro rfl
 simp [qbq] at h
theorem right_ok {t:Tr} (h:qbq t=true) (ht:zay t) (hn:∀ n,n∈t→okN n):okT t:=⟨ht,hn,qml h⟩
end Go.Proofs.YtocnpnnplllneaaGreatDoor