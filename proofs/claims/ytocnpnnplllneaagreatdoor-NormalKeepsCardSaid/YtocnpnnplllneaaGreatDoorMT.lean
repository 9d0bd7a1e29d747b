/- (*page.printer).put. No condition. -/
import Derived.Test.YtocnpnnplllneaaGreatDoorMH
import Derived.Test.YtocnpnnplllneaaGreatDoorMS
import Derived.Test.YtocnpnnplllneaaGreatDoorMQ
import Derived.Test.YtocnpnnplllneaaGreatDoorMJ
import Derived.Test.YtocnpnnplllneaaGreatDoorMK
namespace Go.Proofs.YtocnpnnplllneaaGreatDoor
set_option linter.unusedSimpArgs false
set_option linter.unusedVariables false
open Go Go.RowKit
set_option maxRecDepth 100000
end Go.Proofs.YtocnpnnplllneaaGreatDoor
namespace Go.Proofs.YtocnpnnplllneaaGreatDoor
noncomputable section
set_option linter.unusedSimpArgs false
set_option linter.unusedVariables false
open Go Go.RowKit
end
end Go.Proofs.YtocnpnnplllneaaGreatDoor
namespace Go.Proofs.YtocnpnnplllneaaGreatDoor
set_option linter.unusedSimpArgs false
set_option linter.unusedVariables false
open Go Go.RowKit
set_option maxRecDepth 100000
section
variable {t:Tr}
theorem qtw {α:Type} {p q:α→Bool} (hpq:∀ x,p x=true→q x=true):∀ {l:List α} {a:α},a∈l→q a=true→p a=false→l.countP p < l.countP q
 | [],a,h,_,_=>by cases h
 | b::l,a,h,hq,hp=>by
  rw [List.countP_cons,List.countP_cons]
  have hle:=List.countP_mono_left (l:=l) fun x _ h=>hpq x h
  rcases List.mem_cons.1 h with rfl | h
  ·rw [hq,hp,if_pos rfl,if_neg (by simp)];omega
  ·have ih:=qtw hpq h hq hp
   cases hb:p b with
   | true=>rw [hpq b hb];omega
   | false=>
    rw [if_neg (by simp)]
    split <;> omega
theorem qod:∀ (f:Nat) (i:Int),qco t f i=true→qco t (f+1) i=true
 | 0,i,h=>by simp [qco] at h
 | f+1,i,h=>by
  rw [qco] at h ⊢
  by_cases hu:(qa3 t i).up = -1
  ·simp [hu]
  ·simp only [hu,if_false] at h ⊢
   exact qod f _ h
theorem zbu {f:Nat} {i:Int} (hh:qco t f i=true):∀ (k:Nat),qco t (f+k) i=true
 | 0=>hh
 | k+1=>qod _ _ (zbu hh k)
theorem ups_at (hu:qqq t) {i:Int} (h0:0≤i) (h1:i < (t.length:Int)):(qa3 t i).up = -1∨(0≤(qa3 t i).up∧(qa3 t i).up < (t.length:Int)):=hu _ (qb3 h0 h1)
def cntH (t:Tr) (f:Nat):Nat:=(List.range t.length).countP fun i:Nat=>qco t f (i:Int)
theorem qtg (hu:qqq t):∀ f,(∀ g i,i < t.length→f≤g→qco t g ((i:Nat):Int)=true→qco t f (i:Int)=true)∨f≤cntH t f
 | 0=>.inr (Nat.zero_le _)
 | f+1=>by
  by_cases hs:∀ i,i < t.length→qco t (f+1) ((i:Nat):Int)=true→qco t f (i:Int)=true
  ·left
   have key:∀ k i,i < t.length→qco t (f+k) ((i:Nat):Int)=true→qco t f (i:Int)=true:=by
    intro k
    induction k with
    | zero=>intro i hi h;exact h
    | succ k ih=>
     intro i hi h
     apply hs i hi
     rw [show f+(k+1)=(f+k)+1 by omega,qco] at h
     rw [qco]
     by_cases hup:(qa3 t i).up = -1
     ·simp [hup]
     ·simp only [hup,if_false] at h ⊢
      obtain ⟨u,hu',e⟩ : ∃ u:Nat,u < t.length∧(qa3 t i).up=(u:Int):=by
       have:=ups_at hu (i:=(i:Int)) (by omega) (by omega)
       exact ⟨(qa3 t i).up.toNat,by omega,by omega⟩
      rw [e] at h ⊢
      exact ih u hu' h
   intro g i hi hg h
   obtain ⟨k,rfl⟩:=Nat.exists_eq_add_of_le hg
   exact qod f _ (key (k+1) i hi (by rw [show f+(k+1)=f+1+k by omega];exact h))
  ·right
   obtain ⟨i,hs⟩:=Classical.not_forall.1 hs
   obtain ⟨hi,hs⟩:=Classical.not_imp.1 hs
   obtain ⟨h1,h2⟩:=Classical.not_imp.1 hs
   have hcf:f≤cntH t f:=by
    rcases qtg hu f with h | h
    ·exact absurd (h (f+1) i hi (by omega) h1) h2
    ·exact h
   have hlt:cntH t f < cntH t (f+1):=qtw (fun x hx=>qod f _ hx) (a:=i) (by simpa using hi) h1 (by simpa using h2)
   omega
theorem zbt (hu:qqq t) {g i:Nat} (hi:i < t.length) (h:qco t g (i:Int)=true):qco t t.length (i:Int)=true:=by
 rcases qtg hu t.length with hs | hs
 ·by_cases hg:t.length≤g
  ·exact hs g i hi hg h
  ·have:=zbu h (t.length - g)
   rw [show g+(t.length - g)=t.length by omega] at this
   exact this
 ·have h2:(List.range t.length).countP (fun i=>qco t t.length ((i:Nat):Int))=(List.range t.length).length:=by
   have:=List.countP_le_length (p:=fun i=>qco t t.length ((i:Nat):Int)) (l:=List.range t.length)
   unfold cntH at hs
   simp only [List.length_range] at this ⊢
   omega
  rw [List.countP_eq_length] at h2
  exact h2 i (by simpa using hi)
theorem held_n (hu:qqq t) {g i:Nat} (hi:i < t.length) (h:qco t g (i:Int)=true):qco t (t.length+1) (i:Int)=true:=qod _ _ (zbt hu hi h)
def Hd (t:Tr) (x:Int):Prop:=x = -1∨(0≤x∧x < (t.length:Int)∧∃ f,qco t f x=true)
end
end Go.Proofs.YtocnpnnplllneaaGreatDoor
namespace Go.Proofs.YtocnpnnplllneaaGreatDoor
set_option linter.unusedSimpArgs false
set_option linter.unusedVariables false
open Go Go.RowKit
section
variable {t v:Tr} {pos:Int→Int}
end
section
variable {t:Tr}
theorem dep_lt:∀ (f:Nat) (i:Int),qco t f i=true→qrs t f i < f
 | 0,i,h=>by simp [qco] at h
 | f+1,i,h=>by
  rw [qco] at h
  rw [qrs]
  by_cases hu:(qa3 t i).up = -1
  ·simp [hu]
  ·simp only [hu,if_false] at h ⊢
   have:=dep_lt f _ h
   omega
theorem qzn (h:qbq t=true):qqq t:=qzo (qhv h).1 fun j hj=>qmk h hj
theorem dep_n (h:qbq t=true) {i:Nat} (hi:i < t.length):qrs t (t.length+1) (i:Int) < t.length:=by
 have hh:=zbt (qzn h) hi (ql8 h hi)
 rw [← qlj _ _ hh]
 exact dep_lt _ _ hh
theorem qwg (h:qbq t=true):∀ (f i:Nat),i < t.length→t.length≤f+qrs t (t.length+1) (i:Int)→qdj (qap t) (f+1) i=qdj (qap t) f i
 | 0,i,hi,hf=>by have:=dep_n h hi;omega
 | f+1,i,hi,hf=>by
  rw [qdj,qdj]
  have e:(qap t i).flatMap (fun k=>qdj (qap t) (f+1) k.toNat)=(qap t i).flatMap fun k=>qdj (qap t) f k.toNat:=by
   unfold List.flatMap
   congr 1
   refine List.map_congr_left fun k hk=>?_
   obtain ⟨k0,k1,_,k2⟩:=(qde h).kd i hi k hk
   have eN:((k.toNat:Nat):Int)=k:=by omega
   exact qwg h f k.toNat (by omega) (by rw [eN];omega)
  rw [e]
theorem qmm (h:qbq t=true):∀ k,qdj (qap t) (t.length+k) 0=qdj (qap t) t.length 0
 | 0=>rfl
 | k+1=>by
  rw [show t.length+(k+1)=(t.length+k)+1 by omega,qwg h _ 0 (qdv h) (by omega),qmm h k]
structure NewT (t v:Tr) (O:List Int) (pos:Int→Int):Prop where
 len:v.length=O.length
 zero:(0:Int)∈O∧pos 0=0
 neg:pos (-1) = -1
 rng:∀ x,x∈O→0≤x∧x < (t.length:Int)
 out:∀ x,x ∉ O→pos x = -1
 ps:∀ x,x∈O→0≤pos x∧pos x < (v.length:Int)
 inj:∀ x y,x∈O→y∈O→pos x=pos y→x=y
 cl:∀ x,x∈O→∀ k,k∈(qa3 t x).kids→k∈O
 all:∀ j:Nat,j < v.length→∃ x,x∈O∧pos x=(j:Int)
 nd:∀ x,x∈O→qa3 v (pos x)=newN t pos x
 od:O.map pos=(List.range v.length).map fun j=>((j:Nat):Int)
 pre:O=qdj (qap t) t.length 0
theorem qh4 (h:qbq t=true):NewT t (qc9 t) (qbf t.length (qap t)) (atP (qbf t.length (qap t))):=by
 have ht:=qde h
 have hn:=qdv h
 have ho:=qfk ht hn
 have hnd:=qnq (n:=t.length) (ks:=qap t)
 have hm:∀ x,x∈qbf t.length (qap t)→0≤x∧x < (t.length:Int):=fun x hx=>qnr hx
 have hv:=qqu h
 have hcl:∀ x,x∈qbf t.length (qap t)→∀ k,k∈(qa3 t x).kids→k∈qbf t.length (qap t):=fun x hx k hk=>by
  obtain ⟨x0,x1⟩:=hm x hx
  have eN:((x.toNat:Nat):Int)=x:=by omega
  exact (zbg h (i:=x.toNat) (by omega) (by rw [eN];exact hx) (by rw [eN];exact hk)).1
 have hz:=qya ht hn
 obtain ⟨O,hO⟩ : ∃ O,O=qbf t.length (qap t):=⟨_,rfl⟩
 rw [← hO] at ho hnd hm hv hcl hz ⊢
 have hat:∀ j (hj:j < O.length),atP O O[j]=(j:Int):=fun j hj=>at_nd hnd hj
 have hidx:∀ x,x∈O→∃ j,∃ hj:j < O.length,O[j]=x:=fun x hx=>by
  obtain ⟨j,hj,e⟩:=List.getElem_of_mem hx
  exact ⟨j,hj,e⟩
 have hl:(qc9 t).length=O.length:=by rw [hv,List.length_map]
 refine { len:=hl,zero:=⟨hz,?_⟩,neg:=zdp (fun hx=>by have:=(hm _ hx).1;omega),rng:=hm,out:=fun x hx=>zdp hx,ps:=fun x hx=>?_,inj:=fun x y hx hy e=>?_,cl:=hcl,all:=fun j hj=>?_,nd:=fun x hx=>?_,od:=?_,pre:=ho }
 ·have e:∃ r,O=0::r:=by
   rw [ho]
   obtain ⟨n',hn'⟩ : ∃ n',t.length=n'+1:=⟨t.length - 1,by omega⟩
   rw [hn',qdj]
   exact ⟨_,rfl⟩
  obtain ⟨r,e⟩:=e
  have:=hat 0 (by rw [e];simp)
  simp only [e,List.getElem_cons_zero] at this
  rw [← e] at this
  exact this
 ·obtain ⟨j,hj,rfl⟩:=hidx x hx
  rw [hat j hj,hl]
  omega
 ·obtain ⟨j,hj,rfl⟩:=hidx x hx
  obtain ⟨j2,hj2,rfl⟩:=hidx y hy
  rw [hat j hj,hat j2 hj2] at e
  have:j=j2:=by omega
  subst this;rfl
 ·rw [hl] at hj
  exact ⟨O[j],List.getElem_mem hj,hat j hj⟩
 ·obtain ⟨j,hj,rfl⟩:=hidx x hx
  rw [hat j hj,qbi (by rw [hl];exact hj)]
  simp only [hv,List.getElem_map]
 ·refine List.ext_getElem (by simp [hl]) fun j h1 h2=>?_
  rw [List.getElem_map,List.getElem_map,List.getElem_range]
  exact hat j (by simpa using h1)
section
variable {v:Tr} {O:List Int} {pos:Int→Int}
theorem zai (h:qbq t=true) (w:NewT t v O pos) {x:Int} (hx:x∈O):(qa3 v (pos x)).up=pos (qa3 t x).up∧(qa3 v (pos x)).kids=(qa3 t x).kids.map pos∧(qa3 v (pos x)).kind=(qa3 t x).kind:=by
 rw [w.nd x hx]
 exact ⟨rfl,rfl,rfl⟩
theorem qzp (w:NewT t v O pos) {L:List Int} (hL:∀ k,k∈L→k∈O) {x:Int} (hx:x∈O):qe8 (L.map pos) (pos x)=qe8 L x:=by
 unfold qe8
 rw [List.countP_map]
 refine List.countP_congr fun k hk=>?_
 simp only [Function.comp_apply,decide_eq_true_eq]
 exact ⟨fun e=>w.inj _ _ (hL k hk) hx e,fun e=>by rw [e]⟩
theorem qx2 (w:NewT t v O pos):∀ (f:Nat) (x:Int),x∈O→qco t f x=true→qco v f (pos x)=true
 | 0,x,_,h=>by simp [qco] at h
 | f+1,x,hx,h=>by
  rw [qco] at h ⊢
  rw [w.nd x hx,show (newN t pos x).up=pos (qa3 t x).up from rfl]
  by_cases hu:(qa3 t x).up∈O
  ·have hne:¬ (qa3 t x).up = -1:=fun e=>by have:=(w.rng _ hu).1;omega
   have hne2:¬ pos (qa3 t x).up = -1:=fun e=>by have:=(w.ps _ hu).1;omega
   rw [if_neg hne] at h
   rw [if_neg hne2]
   exact qx2 w f _ hu h
  ·rw [if_pos (w.out _ hu)]
theorem qgh (h:qbq t=true) (w:NewT t v O pos):qbq v=true:=by
 have hne:v≠[]:=fun e=>by
  have:=w.len
  have h0:=List.length_pos_of_mem w.zero.1
  rw [e] at this
  simp only [List.length_nil] at this
  omega
 have h0:=w.nd 0 w.zero.1
 rw [w.zero.2] at h0
 have hk0:(qa3 v 0).kind=0:=by rw [h0];exact (qhv h).2
 have hu0:(qa3 v 0).up = -1:=by
  rw [h0]
  show pos (qa3 t 0).up = -1
  rw [(qhv h).1];exact w.neg
 have hok:∀ j,j < v.length→qlb v j=true:=fun j hj=>by
  obtain ⟨x,hx,hxj⟩:=w.all j hj
  obtain ⟨x0,x1⟩:=w.rng x hx
  obtain ⟨i,rfl⟩ : ∃ i:Nat,x=(i:Int):=⟨x.toNat,by omega⟩
  have hi:i < t.length:=by omega
  obtain ⟨n1,n2,n3⟩:=zai h w hx
  have hok:=qmk h hi
  simp only [qlb,Bool.and_eq_true,Bool.not_eq_true'] at hok ⊢
  have hups:pos (qa3 t i).up = -1∨((qa3 t i).up∈O∧0≤pos (qa3 t i).up∧pos (qa3 t i).up < (v.length:Int)):=by
   by_cases hm:(qa3 t i).up∈O
   ·exact .inr ⟨hm,w.ps _ hm⟩
   ·exact .inl (w.out _ hm)
  rw [hxj] at n1 n2 n3
  refine ⟨?_,?_,?_⟩
  ·unfold qzc
   rw [n1,n3]
   by_cases hz:i=0
   ·subst hz
    have:j=0:=by have:=w.zero.2;have e0:((0:Nat):Int)=0:=rfl;rw [e0] at hxj;omega
    subst this
    simp
   ·have ha:=hok.1
    have hp:0 < i:=by omega
    simp only [qzc,hp,decide_true,Bool.true_and,Bool.or_eq_false_iff,decide_eq_false_iff_not] at ha
    simp only [Bool.and_eq_false_iff,Bool.or_eq_false_iff,decide_eq_false_iff_not]
    exact .inr ⟨ha.1,ha.2.1,by omega,by omega⟩
  ·unfold badB
   rw [n1]
   rcases hups with hu | ⟨hu,hu0,hu1⟩
   ·simp [hu]
   ·obtain ⟨p1,p2,p3⟩:=zai h w hu
    have hb:=hok.2.1
    have hup0:=(w.rng _ hu).1
    simp only [badB,hup0,decide_true,Bool.true_and,Bool.or_eq_false_iff,decide_eq_false_iff_not] at hb
    rw [p2,p3,← hxj,qzp w (fun k hk=>w.cl _ hu k hk) hx]
    simp only [hu0,decide_true,Bool.true_and,Bool.or_eq_false_iff,decide_eq_false_iff_not]
    exact hb
  ·rw [n2,List.any_eq_false]
   intro k' hk'
   obtain ⟨k,hk,rfl⟩:=List.mem_map.1 hk'
   have hkO:=w.cl _ hx k hk
   obtain ⟨p1,p2⟩:=w.ps k hkO
   obtain ⟨q1,_,_⟩:=zai h w hkO
   obtain ⟨_,_,k2,_⟩:=qf6 h hi hk
   simp only [badC,q1,k2,hxj,Bool.or_eq_true,decide_eq_true_eq,not_or]
   exact ⟨by omega,by omega,fun e=>e rfl⟩
 have hups:=qzo hu0 hok
 refine qpp hne hk0 hu0 hok fun j hj=>?_
 obtain ⟨x,hx,hxj⟩:=w.all j hj
 obtain ⟨x0,x1⟩:=w.rng x hx
 have hh:=ql8 h (i:=x.toNat) (by omega)
 rw [show ((x.toNat:Nat):Int)=x by omega] at hh
 have:=qx2 w _ x hx hh
 rw [hxj] at this
 exact held_n hups hj this
theorem zah (w:NewT t v O pos):∀ (f i:Nat),(i:Int)∈O→qdj (qap v) f (pos i).toNat=(qdj (qap t) f i).map pos
 | 0,_,_=>rfl
 | f+1,i,hi=>by
  obtain ⟨p0,p1⟩:=w.ps _ hi
  obtain ⟨x0,x1⟩:=w.rng _ hi
  have ek:qap v (pos i).toNat=(qap t i).map pos:=by
   have a1:=qd5 (t:=v) (i:=(pos i).toNat) (by omega)
   have a2:=qd5 (t:=t) (i:=i) (by omega)
   rw [← a1,← a2,← qbi,← qbi,show (((pos i).toNat:Nat):Int)=pos i by omega,w.nd _ hi]
   rfl
  rw [qdj,qdj,ek,List.map_cons,show (((pos i).toNat:Nat):Int)=pos i by omega,List.flatMap_map,List.map_flatMap]
  congr 1
  unfold List.flatMap
  congr 1
  refine List.map_congr_left fun k hk=>?_
  have hk':k∈(qa3 t i).kids:=by rw [qbi (by omega),qd5 (by omega)];exact hk
  have hkO:=w.cl _ hi k hk'
  have eN:((k.toNat:Nat):Int)=k:=by have:=(w.rng _ hkO).1;omega
  have:=zah w f k.toNat (by rw [eN];exact hkO)
  rwa [eN] at this
theorem qsy (h:qbq t=true) (w:NewT t v O pos):qbf v.length (qap v)=(List.range v.length).map fun j=>((j:Nat):Int):=by
 have hr:=qgh h w
 have hv:=qde hr
 rw [qfk hv (qdv hr)]
 have hle:v.length≤t.length:=by
  rw [w.len,w.pre,← qfk (qde h) (qdv h)]
  exact qns
 obtain ⟨d,hd⟩:=Nat.exists_eq_add_of_le hle
 have e1:=qmm hr d
 rw [← hd] at e1
 rw [← e1]
 have e2:=zah w t.length 0 (by have:=w.zero.1;exact this)
 have e0:((0:Nat):Int)=0:=rfl
 rw [e0,w.zero.2] at e2
 rw [show (0:Int).toNat=0 from rfl] at e2
 rw [e2,← w.pre,w.od]
end
end
end Go.Proofs.YtocnpnnplllneaaGreatDoor
namespace Go.Proofs.YtocnpnnplllneaaGreatDoor
set_option linter.unusedSimpArgs false
set_option linter.unusedVariables false
open Go Go.RowKit
set_option maxRecDepth 100000
theorem ins_at {T:List (Entry Tryz.prog)} (L:List Int) (x:Int) (hl:L.length≤1000000) {b vb n:Nat} {g:List (Nat × Blk)} {fs:List (List (Nat × Blk))} (hbv:vb≠b) (hg:∀ e,e∈g++fs.flatten→e.1≠b∧e.1≠vb) :
  CallAt (ctx T) 127 [qdk b 1 (L.map qb6),.int .i64 (L.length:Int),.slc vb 0 1 (.ex 1)] ⟨n,((vb,.cells [.int .i64 x])::(qes b (L.map qb6)++g))::fs⟩ (.slc n 0 (L.length+1) (.rest 1)) ⟨n+1,((n,.cells (qa4 ((L++[x]).map qb6)))::(vb,.cells [.int .i64 x])::g)::fs⟩:=by
 have hp:qac (qa4 ((L++[x]).map qb6))=true:=(qhh _).pure
 have hp0:qac (qa4 (L.map qb6))=true:=(qhh _).pure
 have px:qac [AV.int .i64 x]=true:=by simp [qac,qah]
 have fh:FitH 0 [(b,0),(vb,1)] [] ⟨n,((vb,.cells [.int .i64 x])::(qes b (L.map qb6)++g))::fs⟩ ⟨2,[qes 0 (L.map qb6)++[(1,.cells [.int .i64 x])]]⟩:=by
  refine ⟨by simp [Ne.symm hbv],by simp,?_,?_,fun x hx h=>absurd h (Nat.not_lt_zero _),Nat.zero_le _,?_,fun x h=>by cases h⟩
  ·cases L <;> simp [Heap.ents,qes]
  ·intro y hy
   simp at hy
   rcases hy with rfl | rfl <;> simp
  ·intro e he
   have h1:∃ b' k,(b',1)∈[(b,0),(vb,1)]∧Heap.get ⟨n,((vb,.cells [.int .i64 x])::(qes b (L.map qb6)++g))::fs⟩ b'=some k∧qh6 [(b,0),(vb,1)] [] k (.cells [.int .i64 x]):=⟨vb,.cells [.int .i64 x],by simp,by simp [Heap.get,getFs,getF],by show qb1 _ _ _ _;exact qaj px⟩
   cases L with
   | nil=>
    simp only [Heap.ents,List.map_nil,qes,List.nil_append,List.flatten_cons,List.flatten_nil,List.append_nil,List.mem_singleton] at he
    subst he
    exact h1
   | cons y r=>
    simp only [Heap.ents,List.map_cons,qes,List.cons_append,List.nil_append,List.flatten_cons,List.flatten_nil,List.append_nil,List.mem_cons,List.not_mem_nil,or_false] at he
    rcases he with rfl | rfl
    ·exact ⟨b,.cells (qa4 ((y::r).map qb6)),by simp,by simp [Heap.get,getFs,getF,qes,qao hbv],by show qb1 _ _ _ _;exact qaj hp0⟩
    ·exact h1
 have hf:qb1 [(b,0),(vb,1)] [] [qdk b 1 (L.map qb6),.int .i64 (L.length:Int),.slc vb 0 1 (.ex 1)] [qdk 0 1 (L.map qb6),.int .i64 (L.length:Int),.slc 1 0 1 (.ex 1)]:=by
  cases L <;> simp [qb1,qar,qay,qdk,qah,Ne.symm hbv]
 have out:OutH [(b,0),(vb,1)] ⟨n,((vb,.cells [.int .i64 x])::(qes b (L.map qb6)++g))::fs⟩ ⟨2,[qes 0 (L.map qb6)++[(1,.cells [.int .i64 x])]]⟩ ⟨3,[[(2,.cells (qa4 ((L++[x]).map qb6))),(1,.cells [.int .i64 x])]]⟩ ⟨n+1,((n,.cells (qa4 ((L++[x]).map qb6)))::(vb,.cells [.int .i64 x])::g)::fs⟩:=by
  refine ⟨rfl,fun nd lt=>?_,fun e he=>?_⟩
  ·simp only [Heap.ents,List.flatten_cons,List.cons_append,List.map_cons,List.nodup_cons,List.mem_cons,not_or] at nd ⊢
   have hsub:((g++fs.flatten).map (·.1)).Sublist ((qes b (L.map qb6)++g++fs.flatten).map (·.1)):=by
    rw [List.append_assoc]
    exact (List.sublist_append_right _ _).map _
   refine ⟨⟨?_,fun hx=>?_⟩,fun hx=>nd.1 (hsub.subset hx),nd.2.sublist hsub⟩
   ·have:=lt (vb,.cells [.int .i64 x]) (by simp [Heap.ents])
    simp only at this;omega
   ·obtain ⟨e,he,hx⟩:=List.mem_map.1 hx
    have:=lt e (by
     simp only [Heap.ents,List.flatten_cons,List.cons_append,List.mem_cons,List.mem_append] at he ⊢
     rcases he with he | he
     ·exact .inr (.inl (.inr he))
     ·exact .inr (.inr he))
    simp only at this
    omega
  ·simp only [Heap.ents,List.flatten_cons,List.cons_append,List.mem_cons] at he
   rcases he with rfl | rfl | he
   ·refine .inl ⟨(2,.cells (qa4 ((L++[x]).map qb6))),by simp [Heap.ents],?_⟩
    simp only [ql9,qbr _ hp,qgm,qdt]
    simp
   ·refine .inl ⟨(1,.cells [.int .i64 x]),by simp [Heap.ents],?_⟩
    simp only [ql9,qbr _ px,qgm,qdt]
    simp
   ·refine .inr ⟨?_,fun y hy=>?_⟩
    ·simp only [Heap.ents,List.flatten_cons,List.cons_append,List.mem_cons,List.mem_append] at he ⊢
     rcases he with he | he
     ·exact .inr (.inl (.inr he))
     ·exact .inr (.inr he)
    ·obtain ⟨h1,h2⟩:=hg e he
     simp only [List.mem_cons,List.not_mem_nil,or_false] at hy
     rcases hy with rfl | rfl
     ·exact h1.symm
     ·exact h2.symm
 have:=(c127 (T:=T) L x hl).framed fh hf out (by show 2≤3;omega)
 simpa [qhx,qgm,qdt] using this
theorem get_kids {t:Tr} {i:Nat} (h:i < t.length):qc7 (qa4 (t.map qa7)) (i * 7+6)=some (qbh (qa3 t i).kids):=by
 have hl:(qa4 ((t.take i).map qa7)).length=i * 7:=by rw [(qbp _).len];simp;omega
 have e1:qa4 (t.map qa7)=(qa4 ((t.take i).map qa7)++[qb6 (qa3 t i).kind,qb6 (qa3 t i).space,.str (qa3 t i).name,qak (qa3 t i).attrs,.str (qa3 t i).data,qb6 (qa3 t i).up])++(qbh (qa3 t i).kids::qa4 ((t.drop (i+1)).map qa7)):=by
  conv=>lhs;rw [qe3 h]
  simp [qbm,qa4,Nd.cs]
 have l6:(qa4 ((t.take i).map qa7)++[qb6 (qa3 t i).kind,qb6 (qa3 t i).space,.str (qa3 t i).name,qak (qa3 t i).attrs,.str (qa3 t i).data,qb6 (qa3 t i).up]).length=i * 7+6:=by rw [List.length_append,hl];rfl
 rw [e1,qee (by rw [List.length_append,l6];simp),List.getElem_append_right (by omega)]
 simp only [l6,Nat.sub_self,List.getElem_cons_zero]
theorem own_heap {n:Nat} {f:List (Nat × Blk)} {fs:List (List (Nat × Blk))} (es:List AV):qu8 ⟨n,f::fs⟩ es=⟨n+(if es=[] then 0 else 1),(qes n es++f)::fs⟩:=by
 cases es <;> simp [qu8,qes,Heap.new,pushF]
theorem prom_any {b c:Nat} {row:List AV} {f F:List (Nat × Blk)} {k0:Blk} (hcb:c≠b) (hf:getF b f=none) (hF:getF b F=some k0) (hr:qac row=true) :
  qct b [c] [] [(c,.cells row)::f,F]=[f,(c,.cells row)::F]:=by
 have hcp:Nat.beq c b=false:=qao hcb
 have r1:qfc 100000 [c] ((c,.cells row)::f) []=([(c,.cells row)],f):=by
  have hk:qp4 (.cells row)=[]:=qdf 4 _ hr
  show qfc (Nat.succ (Nat.succ 99998)) [c] ((c,.cells row)::f) []=_
  unfold qfc
  simp only [getF,Nat.beq_refl,hk,List.nil_append,killF]
  unfold qfc
  rfl
 have e1:qnh [((c,.cells row):Nat × Blk)]++[c]=[c]:=by
  have hk:qp4 (.cells row)=[]:=qdf 4 _ hr
  simp [qnh,hk]
 have n1:getF b ((c,Blk.cells row)::f)=none:=by simp [getF,hcp,hf]
 unfold qct
 rw [n1]
 simp only [r1,e1]
 unfold qct
 simp [hF]
theorem qxo {m N n pb k c u:Nat} {pre post R:List AV} {g f:List (Nat × Blk)} {t:Tr} (h:Eok m pb pre k 7 (t.map qa7) post g) (hu:u < t.length) (hc:m≤c) (hf:∀ j,j < m→getF j f=none) (hR:qac R=true) :
  writeVar Tryz.prog ⟨N,[(c,.cells R)::f,VE pb pre k 7 (t.map qa7) post g]⟩ 30 (.ptr k (u * 7+6)) (.slc c 0 n (.rest 1)) =
   some ⟨N,[f,(c,.cells R)::(pb,.cells (pre++qdk k 7 (t.map qa7)::post))::(k,.cells (qhg t u (.slc c 0 n (.rest 1))))::g]⟩:=by
 have hne:t.map qa7≠[]:=by
  intro e
  have:=congrArg List.length e
  simp at this
  subst this
  simp at hu
 have hck:c≠k:=by have:=h.lk.1;omega
 have hk:getF k f=none:=hf k h.lk.1
 have hk1:getF k ((c,Blk.cells R)::f)=none:=by simp [getF,qao hck,hk]
 have hg:Heap.get ⟨N,[(c,.cells R)::f,VE pb pre k 7 (t.map qa7) post g]⟩ k=some (.cells (qa4 (t.map qa7))):=by
  simp only [Heap.get,getFs]
  rw [hk1,VE_k h hne]
 have pr:=prom_any (f:=f) hck hk (VE_k h hne) hR
 have hs:Heap.set ⟨N,[f,(c,.cells R)::VE pb pre k 7 (t.map qa7) post g]⟩ k (.cells (qhg t u (.slc c 0 n (.rest 1))))=some ⟨N,[f,(c,.cells R)::(pb,.cells (pre++qdk k 7 (t.map qa7)::post))::(k,.cells (qhg t u (.slc c 0 n (.rest 1))))::g]⟩:=by
  simp only [Heap.set,setFs]
  rw [ql7 hk]
  unfold VE
  rw [qc4 hne]
  simp [setF,h.k_p,qao hck]
 have hr:Heap.ready ⟨N,[(c,.cells R)::f,VE pb pre k 7 (t.map qa7) post g]⟩ k [.slc c 0 n (.rest 1)]=⟨N,[f,(c,.cells R)::VE pb pre k 7 (t.map qa7) post g]⟩:=by
  unfold Heap.ready
  simp [refs,pr]
 unfold writeVar
 simp [AV.cells,allSingle,AV.single,writeCells,hg,Blk.wt,lay_kids hu,hr,hs,Blk.re]
theorem c88 {T:List (Entry Tryz.prog)} (hP:qai 154 T=some e154.g) (hS:qai 124 T=some e124.g) (hH:qai 125 T=some e125.g) (hC:qai 128 T=some e128.g)
  {m pb k:Nat} {pre post:List AV} {g:List (Nat × Blk)} {t:Tr} (h:Eok m pb pre k 7 (t.map qa7) post g) (ht:t.length≤1000000) {u i a:Nat} (hu:u < t.length) (hi:i < t.length) (h0:i≠0) (hh:qi9 t (i:Int) (u:Int)=false) (hup:(qa3 t (i:Int)).up = -1) (hk:(qa3 t (u:Int)).kids.length≤a) (ha:a≤1000000) :
  CallAt (ctx T) 88 [.ptr pb pre.length,.int .i64 (u:Int),.int .i64 (a:Int),.int .i64 (i:Int)] ⟨m,[VE pb pre k 7 (t.map qa7) post g]⟩ (.tup []) ⟨m,[VE pb pre k 7 ((qfu (qcn t u ((qa3 t (u:Int)).kids++[(i:Int)])) i (u:Int)).map qa7) post g]⟩:=by
 have hne:t≠[]:=by intro e;subst e;simp at hi
 have hne':t.map qa7≠[]:=by simpa using hne
 have hbi:isB t (i:Int)=true:=by simp [isB,hi]
 have hbu:isB t (u:Int)=true:=by simp [isB,hu]
 have nf:∀ j,j < m→getF j ([]:List (Nat × Blk))=none:=fun _ _=>rfl
 have rdT:=fun n=>(qnj (n:=n) h nf).1
 have rdN:=fun n=>(qnj (n:=n) h nf).2
 have hkg:∀ n,Heap.get ⟨n,[[],VE pb pre k 7 (t.map qa7) post g]⟩ k=some (.cells (qa4 (t.map qa7))):=fun n=>by
  simp only [Heap.get,getFs]
  rw [nf k h.lk.1,VE_k h hne']
 have ksi:=fun n=>q124 hS (qhp hne (hkg n)) (i:Int)
 have ksu:=fun n=>q124 hS (qhp hne (hkg n)) (u:Int)
 have kh:=fun n=>q125 hH (qhp hne (hkg n)) ht (i:Int) (u:Int)
 rw [hbi] at ksi
 rw [hbu] at ksu
 rw [hh] at kh
 have hcut:=c126 hP hS h hi h0 hup
 have ix:qat Tryz.prog 22 (qdk k 7 (t.map qa7)) (.int .i64 (u:Int))=some (.ptr k (u * 7)):=by
  rw [qcb hne']
  simp [qat,qbs hu]
 have hcut':CallAt (ctx T) 126 [.ptr pb pre.length,.int .i64 (i:Int)] ⟨m,[[],VE pb pre k 7 (t.map qa7) post g]⟩ (.tup []) ⟨m,[[],VE pb pre k 7 (t.map qa7) post g]⟩:=hcut.perm rfl rfl (by simp [Heap.ents]) (by simp [Heap.ents])
 obtain ⟨K,hK⟩ : ∃ K,K=(qa3 t (u:Int)).kids:=⟨_,rfl⟩
 rw [← hK] at hk
 have rdK:∀ (n:Nat) (f:List (Nat × Blk)),(∀ j,j < m→getF j f=none)→qaq Tryz.prog ⟨n,[f,VE pb pre k 7 (t.map qa7) post g]⟩ 30 (.ptr k (u * 7+6))=some (qbh K):=fun n f hf=>by
  have hg:Heap.get ⟨n,[f,VE pb pre k 7 (t.map qa7) post g]⟩ k=some (.cells (qa4 (t.map qa7))):=by
   simp only [Heap.get,getFs]
   rw [hf k h.lk.1,VE_k h hne']
  simp [hg,get_kids hu,hK]
 have rdK0:=fun n=>rdK n [] nf
 have rdK1:=fun n=>rdK n (qes (m+20) (K.map qb6)) fun j hj=>by
  cases K with
  | nil=>rfl
  | cons y r=>simp [qes,getF,qao (show m+20≠j by omega)]
 have kcl:=k128 hC (L:=K) (by omega) ⟨m+20,[[],VE pb pre k 7 (t.map qa7) post g]⟩
 rw [own_heap] at kcl
 simp only [List.append_nil] at kcl
 have lK:∀ H,qeu Tryz.prog H 30 (qbh K)=some K.length:=fun H=>by simp [qeu,qbh]
 refine qa2 (fn:=Tryz.f88) (s0:=⟨[0,1,2,3,8],[.ptr pb pre.length,.int .i64 (u:Int),.int .i64 (a:Int),.int .i64 (i:Int),.undef],[],71,⟨m,[]::[VE pb pre k 7 (t.map qa7) post g]⟩⟩) Tryz.func88 rfl rfl rfl ?_
 repeat apply wq
 refine qa0 qa1 ?_
 simp [zS,rdT,ksi,ksu,kh,h0]
 refine qam rfl ?_
 refine qa9 ?_
 simp
 repeat apply wq
 refine qa0 (qbc [⟨126,_,_,_,_,hcut'⟩]) ?_
 simp [zS,qce]
 repeat apply wq
 refine qa0 qa1 ?_
 simp [zS,rdN,ix]
 have mx:qt6 false (.int .i64 (a:Int)) [.int .i64 0]=some (.int .i64 (a:Int)):=by
  simp [qt6]
 have mn:qt6 true (.int .i64 (a:Int)) [.int .i64 (K.length:Int)]=some (.int .i64 (K.length:Int)):=by
  simp [qt6]
  omega
 have hins:=ins_at (T:=T) K (i:Int) (by omega) (b:=m+20) (vb:=m+15) (n:=m+20+(if K.map qb6=[] then 0 else 1)) (g:=[]) (fs:=[VE pb pre k 7 (t.map qa7) post g]) (by omega) (fun e he=>by
  have hne2:qes k (t.map qa7)=[(k,.cells (qa4 (t.map qa7)))]:=qc4 hne'
  simp only [List.nil_append,List.flatten_cons,List.flatten_nil,List.append_nil,VE,hne2,List.cons_append,List.mem_cons] at he
  have l1:=h.lp
  have l2:=h.lk.1
  rcases he with rfl | rfl | he
  ·simp only;omega
  ·simp only;omega
  ·have:=h.lg e he;omega)
 simp only [List.append_nil] at hins
 generalize hd:(if K.map qb6=[] then 0 else 1)=d at kcl hins
 have pR:qac (qa4 (K.map qb6++[qb6 (i:Int)]))=true:=by
  have:=(qhh (K++[(i:Int)])).pure
  rwa [List.map_append] at this
 have hw:=qxo (N:=m+20+d+1) (n:=K.length+1) (c:=m+20+d) (f:=[(m+15,.cells [.int .i64 (i:Int)])]) h hu (by omega) (fun j hj=>by simp [getF,qao (show m+15≠j by omega)]) pR
 repeat apply wq
 refine qd3 mixed (qbc [⟨127,_,_,_,_,hins⟩]) (by decide +kernel) fun B_ hB_=>?_
 have d_4_5:ahead B_ 4 5=true:=by rw [hB_];decide +kernel
 have d_4_16:ahead B_ 4 16=true:=by rw [hB_];decide +kernel
 have d_4_19:ahead B_ 4 19=true:=by rw [hB_];decide +kernel
 have d_5_4:ahead B_ 5 4=false:=by rw [hB_];decide +kernel
 have d_5_11:ahead B_ 5 11=false:=by rw [hB_];decide +kernel
 have d_5_12:ahead B_ 5 12=false:=by rw [hB_];decide +kernel
 have d_11_5:ahead B_ 11 5=false:=by rw [hB_];decide +kernel
 have d_11_16:ahead B_ 11 16=true:=by rw [hB_];decide +kernel
 have d_11_19:ahead B_ 11 19=true:=by rw [hB_];decide +kernel
 have d_12_5:ahead B_ 12 5=false:=by rw [hB_];decide +kernel
 have d_12_16:ahead B_ 12 16=true:=by rw [hB_];decide +kernel
 have d_12_19:ahead B_ 12 19=true:=by rw [hB_];decide +kernel
 have d_15_5:ahead B_ 15 5=false:=by rw [hB_];decide +kernel
 have d_15_16:ahead B_ 15 16=true:=by rw [hB_];decide +kernel
 have d_15_19:ahead B_ 15 19=true:=by rw [hB_];decide +kernel
 have d_16_4:ahead B_ 16 4=false:=by rw [hB_];decide +kernel
 have d_16_11:ahead B_ 16 11=false:=by rw [hB_];decide +kernel
 have d_16_12:ahead B_ 16 12=false:=by rw [hB_];decide +kernel
 have d_19_4:ahead B_ 19 4=false:=by rw [hB_];decide +kernel
 have d_19_11:ahead B_ 19 11=false:=by rw [hB_];decide +kernel
 have d_19_12:ahead B_ 19 12=false:=by rw [hB_];decide +kernel
 apply qop B_
 simp [zS,qds,qcc,qbv,qby,qas,qaz,qax,Heap.lay,qeh,qoo,qon,qi0,qhz,qhm,qhy,qis,qi6,qfm,qfn,qih,qig,qie,qif,qik,qil,qij,qii,d_4_5,d_4_16,d_4_19,d_5_4,d_5_11,d_5_12,d_11_5,d_11_16,d_11_19,d_12_5,d_12_16,d_12_19,d_15_5,d_15_16,d_15_19,d_16_4,d_16_11,d_16_12,d_19_4,d_19_11,d_19_12,hw,qce,rdK0,rdK1,kcl,lK,mx,mn]
 exact rfl
 refine ⟨_,rfl,?_,?_⟩
 simp [zS,qby,qas,qcs,qd1,qeq,d_4_5,d_4_16,d_4_19,d_5_4,d_5_11,d_5_12,d_11_5,d_11_16,d_11_19,d_12_5,d_12_16,d_12_19,d_15_5,d_15_16,d_15_19,d_16_4,d_16_11,d_16_12,d_19_4,d_19_11,d_19_12,hw,qce,rdK0,rdK1,kcl,lK,mx,mn]
 simp [qcj,Heap.lay,qeh,qaf]
 have eR:qa4 (K.map qb6++[qb6 (i:Int)])=(K++[(i:Int)]).map qb6:=by
  have:=qmt (K++[(i:Int)])
  rwa [List.map_append] at this ⊢
 have len1:(K++[(i:Int)]).length=K.length+1:=by simp
 have hl1:=h.lk.1
 have hl0:=h.lp
 have hkp:=h.k_p
 have hes':(qcn t u (K++[(i:Int)])).map qa7≠[]:=by simp [qcn]
 have lenS:((qcn t u (K++[(i:Int)])).map qa7).length=(t.map qa7).length:=by simp [qdb hu]
 have b1:Nat.beq (m+15) pb=false:=qao (by omega)
 have b2:Nat.beq (m+20+d) pb=false:=qao (by omega)
 have b3:Nat.beq (m+15) k=false:=qao (by omega)
 have b4:Nat.beq (m+20+d) k=false:=qao (by omega)
 have b5:Nat.beq (m+15) (m+20+d)=false:=qao (by omega)
 have fk:=fit_K (m':=m) (c:=m+20+d) (es':=(qcn t u (K++[(i:Int)])).map qa7) (cs0:=qhg t u (.slc (m+20+d) 0 (K.length+1) (.rest 1))) (K:=(K++[(i:Int)]).map qb6)
  (H:=⟨m+20+d+1,[[(m+15,.cells [.int .i64 (i:Int)])],(m+20+d,.cells (qa4 (K.map qb6++[qb6 (i:Int)])))::(pb,.cells (pre++qdk k 7 (t.map qa7)::post))::(k,.cells (qhg t u (.slc (m+20+d) 0 (K.length+1) (.rest 1))))::g]⟩)
  h (Nat.le_refl m) (by omega) hes' (by
   rw [qcb hes',lenS,← qcb hne']
   simp [Heap.get,getFs,getF,b1,b2]) (fun σ=>by
   have:=fit_kids (t:=t) (i:=u) (c:=m+20+d) (K:=K++[(i:Int)]) σ
   rwa [len1] at this) (by simp [Heap.get,getFs,getF,b3,b4,hkp]) (by simp [Heap.get,getFs,getF,b5,← eR]) (by
   have:=(qhh (K++[(i:Int)])).pure
   rwa [qmt] at this) (fun e he=>by
   have:=h.lg e he
   have nd:=h.nd
   rw [List.nodup_cons] at nd
   have e1:pb≠e.1:=fun x=>nd.1 (List.mem_map.2 ⟨e,he,x.symm⟩)
   have e2:k≠e.1:=fun x=>h.lk.2 (by rw [x];exact List.mem_cons_of_mem _ (List.mem_map.2 ⟨e,he,rfl⟩))
   simp [Heap.get,getFs,getF,qao (show m+15≠e.1 by omega),qao (show m+20+d≠e.1 by omega),qao e1,qao e2,qpb nd.2 he])
 refine .fit (idn m) [(m+20+d,(K++[(i:Int)]).map qb6)] (s':=(⟨[0,1,2,3,8],[.ptr pb pre.length,.int .i64 (u:Int),.int .i64 (a:Int),.int .i64 (i:Int),.undef],[],71,⟨m,[[],VE pb pre k 7 ((qcn t u (K++[(i:Int)])).map qa7) post g]⟩⟩ : St)) ⟨rfl,rfl,rfl,by simp [qb1,qar,qcf h.lp,qah],fk⟩ ?_
 have h':=h.mono (Nat.le_refl m) (qbp (qcn t u (K++[(i:Int)])))
 have hi':i < (qcn t u (K++[(i:Int)])).length:=by rw [qdb hu];exact hi
 have rdN':=fun n=>(qnj (n:=n) h' nf).2
 have ix':qat Tryz.prog 22 (qdk k 7 ((qcn t u (K++[(i:Int)])).map qa7)) (.int .i64 (i:Int))=some (.ptr k (i * 7)):=by
  rw [qcb hes']
  simp [qat,qbs hi']
 have hw':=fun n=>qvp (n:=n) h' hi' (u:Int) nf
 have hes2:(qfu (qcn t u (K++[(i:Int)])) i (u:Int)).map qa7≠[]:=by simp [qfu]
 have h2:=h'.mono (Nat.le_refl m) (qbp (qfu (qcn t u (K++[(i:Int)])) i (u:Int)))
 have hfit:=fit_W (H:=⟨m,[[],VE pb pre k 7 ((qfu (qcn t u (K++[(i:Int)])) i (u:Int)).map qa7) post g]⟩) h2 (Nat.le_refl m) hes2 (qbp _) (by
  simp only [Heap.get,getFs]
  rw [nf pb h.lp,VE_p]) (by
  simp only [Heap.get,getFs]
  rw [nf k h.lk.1,VE_k h2 hes2]) (fun e he=>by
   have nd:=h.nd
   rw [List.nodup_cons] at nd
   have e1:pb≠e.1:=fun x=>nd.1 (List.mem_map.2 ⟨e,he,x.symm⟩)
   have e2:k≠e.1:=fun x=>h.lk.2 (by rw [x];exact List.mem_cons_of_mem _ (List.mem_map.2 ⟨e,he,rfl⟩))
   simp [Heap.get,getFs,VE,qc4 hes2,getF,qao e1,qao e2,qpb nd.2 he])
 refine qa0 qa1 ?_
 simp [zS,rdN',ix',hw']
 rw [← hK]
 refine ⟨_,rfl,_,_,?_,hfit⟩
 simp [oneOr,qar,qb1]
theorem qoc {t:Tr} {x:Int} (hup:∀ i:Int,isB t i=true→i < x→(qa3 t i).up < x):∀ (n:Nat) (kid:Int),kid < x→qjb t x n kid=false
 | 0,kid,_=>rfl
 | n+1,kid,h=>by
  unfold qjb
  cases hb:isB t kid with
  | false=>simp
  | true=>
   have h1:¬ kid=x:=by omega
   simp only [if_true,if_neg h1]
   exact qoc hup n _ (hup kid hb h)
theorem quy {t:Tr} {x kid:Int} (hup:∀ i:Int,isB t i=true→i < x→(qa3 t i).up < x) (h:kid < x):qi9 t x kid=false:=by
 unfold qi9
 rw [qoc hup _ _ h,Bool.and_false]
section
variable {m n pb k sz:Nat} {pre post es:List AV} {g f:List (Nat × Blk)}
theorem Eok.extra (h:Eok m pb pre k sz es post g) {m' q:Nat} {b:Blk} (hq:m≤q) (hm:q < m') (hb:SelfB m' b):Eok m' pb pre k sz es post (g++[(q,b)]) where
 lp:=by have:=h.lp;omega
 lk:=⟨by have:=h.lk.1;omega,fun hx=>by
  simp only [List.map_append,List.map_cons,List.map_nil] at hx
  rw [← List.cons_append,List.mem_append] at hx
  rcases hx with hx | hx
  ·exact h.lk.2 hx
  ·simp only [List.mem_singleton] at hx
   have:=h.lk.1;omega⟩
 lg:=fun e he=>by
  rcases List.mem_append.1 he with he | he
  ·have:=h.lg e he;omega
  ·simp only [List.mem_singleton] at he
   subst he;exact hm
 nd:=by
  simp only [List.map_append,List.map_cons,List.map_nil]
  rw [← List.cons_append,List.nodup_append]
  refine ⟨h.nd,by simp,fun a ha b hb=>?_⟩
  simp only [List.mem_singleton] at hb
  subst hb
  rcases List.mem_cons.1 ha with rfl | ha
  ·have:=h.lp;omega
  ·obtain ⟨e,he,rfl⟩:=List.mem_map.1 ha
   have:=h.lg e he;omega
 sg:=fun e he=>by
  rcases List.mem_append.1 he with he | he
  ·exact (h.sg e he).mono (by omega)
  ·simp only [List.mem_singleton] at he
   subst he;exact hb
 sp:=fun σ hσ=>h.sp σ fun i hi=>hσ i (by omega)
 sq:=fun σ hσ=>h.sq σ fun i hi=>hσ i (by omega)
 el:=h.el
theorem rd_nodes (hf:getF pb f=none) :
  qaq Tryz.prog ⟨n,[f,VE pb pre k 7 es post g]⟩ 24 (.ptr pb pre.length)=some (.agg [qdk k 7 es])∧qaq Tryz.prog ⟨n,[f,VE pb pre k 7 es post g]⟩ 22 (.ptr pb pre.length)=some (qdk k 7 es):=by
 have hgv:Heap.get ⟨n,[f,VE pb pre k 7 es post g]⟩ pb=some (.cells (pre++qdk k 7 es::post)):=by
  simp only [Heap.get,getFs]
  rw [hf,VE_p]
 have gx:qc7 (pre++qdk k 7 es::post) pre.length=some (qdk k 7 es):=by
  rw [qee (by simp),List.getElem_append_right (by omega)]
  simp
 have sx:qek pre.length 1 (pre++qdk k 7 es::post)=some [qdk k 7 es]:=by
  simp [qek,qef]
 constructor
 ·simp [qaq,hgv,gx,sx,readCells,Blk.rd]
 ·simp [hgv,gx]
theorem qlu {e:Nat × Blk}:(⟨n,[[e],VE pb pre k sz es post g]⟩ : Heap).ents.Perm (⟨n,[VE pb pre k sz es post (g++[e])]⟩ : Heap).ents:=by
 simp only [Heap.ents,List.flatten_cons,List.flatten_nil,List.append_nil,VE]
 have:∀ l:List (Nat × Blk),([e]++l).Perm (l++[e]):=fun l=>List.perm_append_comm
 refine (this _).trans ?_
 simp
end
def qgi (t:Tr) (u:Nat) (nd:Nd):Tr:=qfu (qcn (t++[fresh nd]) u ((qa3 t (u:Int)).kids++[(t.length:Int)])) t.length (u:Int)
structure UpOk (t:Tr):Prop where
 up:∀ n,n∈t→n.up < (t.length:Int)
 kids:∀ n,n∈t→n.kids.length≤t.length
theorem qpx {t:Tr} {nd:Nd} {u:Nat} (hu:u < t.length):qa3 (t++[nd]) (u:Int)=qa3 t (u:Int):=by
 rw [qbi (by simp;omega),qbi hu,List.getElem_append_left hu]
theorem qyd {t:Tr} {nd:Nd}:qa3 (t++[nd]) (t.length:Int)=nd:=by
 rw [qbi (by simp)];simp
end Go.Proofs.YtocnpnnplllneaaGreatDoor