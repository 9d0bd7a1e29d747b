/- A step of a loop over a map: whichever entry comes. No condition. -/
import Derived.Test.YtocnpnnplllneaaGreatDoorMR
import Derived.Test.YtocnpnnplllneaaGreatDoorMH
import Derived.Test.YtocnpnnplllneaaGreatDoorMP
import Derived.Test.YtocnpnnplllneaaGreatDoorME
namespace Go.Proofs.YtocnpnnplllneaaGreatDoor
set_option linter.unusedSimpArgs false
set_option linter.unusedVariables false
open Go Go.RowKit
def fits:Nat→Tr→Int→Prop
 | 0,_,_=>False
 | f+1,t,i=>∀ k,k∈(qa3 t i).kids→(qa3 t k).kind=1→fits f t k
def qdj (ks:Nat→List Int):Nat→Nat→List Int
 | 0,_=>[]
 | f+1,i=>(i:Int)::(ks i).flatMap fun k=>qdj ks f k.toNat
structure TreeK (n:Nat) (ks:Nat→List Int) (par:Int→Int) (dep:Int→Nat):Prop where
 kd:∀ i,i < n→∀ k,k∈ks i→0≤k∧k < (n:Int)∧par k=(i:Int)∧dep k=dep (i:Int)+1
 nd:∀ i,i < n→(ks i).Nodup
def qqa (w:Wk) (x b:Int):Prop:=inA w x < inA w b∧qgn w b < qgn w x
structure SubT (ks:Nat→List Int) (par:Int→Int) (w:Wk) (S:List Int) (r:Int):Prop where
 top:r∈S∧∀ x,x∈S→x≠r→qqa w r x
 up:∀ b,b∈S→b≠r→par b∈S∧qqa w (par b) b∧∀ x,x∈S→qqa w x b→x=par b∨qqa w x (par b)
 cl:∀ x,x∈S→∀ k,k∈ks x.toNat→k∈S
 nn:∀ x,x∈S→0≤x
theorem SubT.same {ks:Nat→List Int} {par:Int→Int} {w w':Wk} {S:List Int} {r:Int} (h:SubT ks par w S r) (e:∀ x,x∈S→inA w' x=inA w x∧qgn w' x=qgn w x):SubT ks par w' S r where
 top:=⟨h.top.1,fun x hx hn=>by
  have:=h.top.2 x hx hn
  unfold qqa at this ⊢
  rw [(e _ h.top.1).1,(e _ h.top.1).2,(e x hx).1,(e x hx).2];exact this⟩
 up:=fun b hb hn=>by
  obtain ⟨h1,h2,h3⟩:=h.up b hb hn
  refine ⟨h1,?_,fun x hx hxe=>?_⟩
  ·unfold qqa at h2 ⊢
   rw [(e _ h1).1,(e _ h1).2,(e b hb).1,(e b hb).2];exact h2
  ·have:=h3 x hx (by unfold qqa at hxe ⊢;rw [(e x hx).1,(e x hx).2,(e b hb).1,(e b hb).2] at hxe;exact hxe)
   rcases this with h4 | h4
   ·exact .inl h4
   ·refine .inr ?_
    unfold qqa at h4 ⊢
    rw [(e x hx).1,(e x hx).2,(e _ h1).1,(e _ h1).2];exact h4
 cl:=h.cl
 nn:=h.nn
structure VisT (n:Nat) (ks:Nat→List Int) (par:Int→Int) (w w':Wk) (S:List Int) (r:Int):Prop where
 l:w'.l=w.l++S
 li:w'.inn.length=n
 lo:w'.out.length=n
 cc:w.c≤w'.c
 oth:∀ x,0≤x→x ∉ S→inA w' x=inA w x∧qgn w' x=qgn w x
 rng:∀ x,x∈S→w.c≤inA w' x∧inA w' x < qgn w' x∧qgn w' x < w'.c
 sub:SubT ks par w' S r
 ng:qhl w'.inn≤qhl w.inn
structure VssT (n:Nat) (ks:Nat→List Int) (par:Int→Int) (w w':Wk) (S:Int→List Int) (K:List Int):Prop where
 l:w'.l=w.l++K.flatMap S
 li:w'.inn.length=n
 lo:w'.out.length=n
 cc:w.c≤w'.c
 oth:∀ x,0≤x→(∀ k,k∈K→x ∉ S k)→inA w' x=inA w x∧qgn w' x=qgn w x
 rng:∀ k,k∈K→∀ x,x∈S k→w.c≤inA w' x∧inA w' x < qgn w' x∧qgn w' x < w'.c
 sub:∀ k,k∈K→SubT ks par w' (S k) k
 dis:∀ k,k∈K→∀ k2,k2∈K→k≠k2→∀ x,x∈S k→∀ y,y∈S k2→¬ qqa w' x y
 ng:qhl w'.inn≤qhl w.inn
def Bel (n:Nat) (par:Int→Int) (dep:Int→Nat) (i x:Int):Prop:=0≤x∧x < (n:Int)∧∃ m,dep x=dep i+m∧Nat.repeat par m x=i
theorem qhb {n:Nat} {par:Int→Int} {dep:Int→Nat} {i:Int} (h0:0≤i) (h1:i < (n:Int)):Bel n par dep i i:=⟨h0,h1,0,rfl,rfl⟩
theorem zdi {n:Nat} {ks:Nat→List Int} {par:Int→Int} {dep:Int→Nat} (h:TreeK n ks par dep) {i:Nat} (hi:i < n) {k x:Int} (hk:k∈ks i) (hx:Bel n par dep k x):Bel n par dep i x:=by
 obtain ⟨k0,k1,k2,k3⟩:=h.kd i hi k hk
 obtain ⟨x0,x1,m,h1,h2⟩:=hx
 exact ⟨x0,x1,m+1,by omega,by show par (Nat.repeat par m x)=_;rw [h2,k2]⟩
theorem zdj {n:Nat} {ks:Nat→List Int} {par:Int→Int} {dep:Int→Nat} (h:TreeK n ks par dep) {i:Nat} (hi:i < n) {k k2:Int} (hk:k∈ks i) (hk2:k2∈ks i) (hne:k≠k2) {x:Int} (hx:Bel n par dep k x):¬ Bel n par dep k2 x:=by
 rintro ⟨_,_,m2,h3,h4⟩
 obtain ⟨a0,a1,a2,a3⟩:=h.kd i hi k hk
 obtain ⟨b0,b1,b2,b3⟩:=h.kd i hi k2 hk2
 obtain ⟨_,_,m,h1,h2⟩:=hx
 have:m=m2:=by omega
 subst this
 exact hne (h2.symm.trans h4)
theorem qvj {n:Nat} {ks:Nat→List Int} {par:Int→Int} {dep:Int→Nat} (h:TreeK n ks par dep) {i:Nat} (hi:i < n) {k:Int} (hk:k∈ks i):¬ Bel n par dep k i:=by
 rintro ⟨_,_,m,h1,h2⟩
 obtain ⟨a0,a1,a2,a3⟩:=h.kd i hi k hk
 omega
theorem qno {n:Nat} {ks:Nat→List Int} {par:Int→Int} {dep:Int→Nat} (h:TreeK n ks par dep):∀ (f i:Nat),i < n→∀ x,x∈qdj ks f i→Bel n par dep i x
 | 0,i,hi,x,hx=>by simp [qdj] at hx
 | f+1,i,hi,x,hx=>by
  simp only [qdj,List.mem_cons,List.mem_flatMap] at hx
  rcases hx with rfl | ⟨k,hk,hx⟩
  ·exact qhb (by omega) (by omega)
  ·obtain ⟨k0,k1,k2,k3⟩:=h.kd i hi k hk
   have:=qno h f k.toNat (by omega) x hx
   rw [show ((k.toNat:Nat):Int)=k by omega] at this
   exact zdi h hi hk this
theorem zbd {n:Nat} {ks:Nat→List Int} {par:Int→Int} {dep:Int→Nat} (ht:TreeK n ks par dep) {f i:Nat} (hi:i < n)
  (hg:∀ i w,i < n→w.inn.length=n→w.out.length=n→0≤w.c→(∀ x,Bel n par dep i x→inA w x < 0)→qhl w.inn≤f→VisT n ks par w (vis n ks f i w) (qdj ks f i) i) :
  ∀ (K:List Int),(∀ k,k∈K→k∈ks i)→K.Nodup→∀ (w:Wk),w.inn.length=n→w.out.length=n→0≤w.c→(∀ k,k∈K→∀ x,Bel n par dep k x→inA w x < 0)→qhl w.inn≤f →
   VssT n ks par w (kl n (vis n ks f) K w) (fun k=>qdj ks f k.toNat) K
 | [],_,_,w,h1,h2,h3,_,_=>{
   l:=by simp [kl]
   li:=h1
   lo:=h2
   cc:=Int.le_refl _
   oth:=fun _ _ _=>⟨rfl,rfl⟩
   rng:=fun k hk=>by cases hk
   sub:=fun k hk=>by cases hk
   dis:=fun k hk=>by cases hk
   ng:=Nat.le_refl _ }
 | k::r,hK,hnd,w,h1,h2,h3,hu,hf=>by
  obtain ⟨a0,a1,a2,a3⟩:=ht.kd i hi k (hK k (by simp))
  rw [List.nodup_cons] at hnd
  have e:((k.toNat:Nat):Int)=k:=by omega
  have hk0:=hu k (by simp) k (qhb a0 a1)
  have hc:0≤k∧k < (n:Int)∧w.inn.getD k.toNat 0 < 0:=⟨a0,a1,hk0⟩
  have v:=hg k.toNat w (by omega) h1 h2 h3 (by rw [e];exact hu k (by simp)) hf
  rw [e] at v
  unfold kl
  rw [if_pos hc]
  obtain ⟨w1,hw1⟩ : ∃ w1,w1=vis n ks f k.toNat w:=⟨_,rfl⟩
  rw [← hw1] at v ⊢
  have hmem:∀ k2,k2∈r→k2∈ks i:=fun k2 h=>hK k2 (by simp [h])
  have hne:∀ k2,k2∈r→k≠k2:=fun k2 h he=>hnd.1 (he ▸ h)
  have hin:∀ x,x∈qdj ks f k.toNat→Bel n par dep k x:=fun x hx=>by
   have:=qno ht f k.toNat (by omega) x hx
   rwa [e] at this
  have hbn:∀ k2,k2∈r→∀ x,Bel n par dep k2 x→x ∉ qdj ks f k.toNat:=fun k2 h x hx hx2=>zdj ht hi (hK k (by simp)) (hmem k2 h) (hne k2 h) (hin x hx2) hx
  have hnot:∀ k2,k2∈r→∀ x,x∈qdj ks f k2.toNat→0≤x∧x ∉ qdj ks f k.toNat:=fun k2 h x hx=>by
   obtain ⟨b0,b1,_⟩:=ht.kd i hi k2 (hmem k2 h)
   have:=qno ht f k2.toNat (by omega) x hx
   rw [show ((k2.toNat:Nat):Int)=k2 by omega] at this
   exact ⟨this.1,hbn k2 h x this⟩
  have v2:=zbd ht hi hg r hmem hnd.2 w1 v.li v.lo (by have:=v.cc;omega) (fun k2 h x hx=>by
   rw [(v.oth x hx.1 (hbn k2 h x hx)).1];exact hu k2 (by simp [h]) x hx) (by have:=v.ng;omega)
  obtain ⟨w',hw'⟩ : ∃ w',w'=kl n (vis n ks f) r w1:=⟨_,rfl⟩
  rw [← hw'] at v2 ⊢
  have keep:∀ x,x∈qdj ks f k.toNat→inA w' x=inA w1 x∧qgn w' x=qgn w1 x:=fun x hx=>v2.oth x (v.sub.nn x hx) fun k2 h hx2=>(hnot k2 h x hx2).2 hx
  have c1:=v.cc
  have c2:=v2.cc
  have lowR:∀ x,x∈qdj ks f k.toNat→w.c≤inA w' x∧inA w' x < qgn w' x∧qgn w' x < w1.c:=fun x hx=>by
   rw [(keep x hx).1,(keep x hx).2];exact v.rng x hx
  exact {
   l:=by rw [v2.l,v.l,List.flatMap_cons,List.append_assoc]
   li:=v2.li
   lo:=v2.lo
   cc:=by omega
   oth:=fun x hx hn=>by
    obtain ⟨p1,p2⟩:=v2.oth x hx fun k2 h=>hn k2 (by simp [h])
    obtain ⟨p3,p4⟩:=v.oth x hx (hn k (by simp))
    exact ⟨p1.trans p3,p2.trans p4⟩
   rng:=fun k2 hk2 x hx=>by
    rcases List.mem_cons.1 hk2 with rfl | hk2
    ·have:=lowR x hx;omega
    ·have:=v2.rng k2 hk2 x hx;omega
   sub:=fun k2 hk2=>by
    rcases List.mem_cons.1 hk2 with rfl | hk2
    ·exact v.sub.same keep
    ·exact v2.sub k2 hk2
   dis:=fun k2 hk2 k3 hk3 hne2 x hx y hy he=>by
    rcases List.mem_cons.1 hk2 with rfl | hk2' <;> rcases List.mem_cons.1 hk3 with rfl | hk3'
    ·exact hne2 rfl
    ·have g1:=lowR x hx
     have g2:=v2.rng k3 hk3' y hy
     unfold qqa at he;omega
    ·have g1:=lowR y hy
     have g2:=v2.rng k2 hk2' x hx
     unfold qqa at he;omega
    ·exact v2.dis k2 hk2' k3 hk3' hne2 x hx y hy he
   ng:=by have:=v.ng;have:=v2.ng;omega }
theorem qvr {n:Nat} {ks:Nat→List Int} {par:Int→Int} {dep:Int→Nat} (ht:TreeK n ks par dep):∀ (f i:Nat) (w:Wk),i < n→w.inn.length=n→w.out.length=n→0≤w.c→(∀ x,Bel n par dep i x→inA w x < 0)→qhl w.inn≤f→VisT n ks par w (vis n ks f i w) (qdj ks f i) i
 | 0,i,w,hi,h1,h2,h3,hu,hf=>by
  have hin:=hu i (qhb (by omega) (by omega))
  have e:=qj2 (I:=w.inn) (i:=i) (c:=0) (by omega) (by simpa [inA] using hin) (by omega)
  omega
 | f+1,i,w,hi,h1,h2,h3,hu,hf=>by
  have hin:=hu i (qhb (by omega) (by omega))
  have e:=qj2 (I:=w.inn) (i:=i) (c:=w.c) (by omega) (by simpa [inA] using hin) h3
  have hki:=fun k hk=>ht.kd i hi k hk
  have v:=zbd ht hi (fun i w a b c d e g=>qvr ht f i w a b c d e g) (ks i) (fun _ h=>h) (ht.nd i hi) (into i w) (by simp [into,h1]) h2 (by simp [into];omega) (fun k hk x hx=>by
   have hxi:¬ (i:Int)=x:=fun he=>qvj ht hi hk (he ▸ hx)
   rw [qmq (by omega) hx.1,if_neg hxi]
   exact hu x (zdi ht hi hk hx)) (by simp only [into];omega)
  unfold vis
  obtain ⟨w1,hw1⟩ : ∃ w1,w1=kl n (vis n ks f) (ks i) (into i w):=⟨_,rfl⟩
  rw [← hw1] at v ⊢
  have hsub:∀ k,k∈ks i→∀ x,x∈qdj ks f k.toNat→0≤x∧¬ (i:Int)=x:=fun k hk x hx=>by
   obtain ⟨k0,k1,k2,k3⟩:=hki k hk
   have:=qno ht f k.toNat (by omega) x hx
   rw [show ((k.toNat:Nat):Int)=k by omega] at this
   exact ⟨this.1,fun he=>qvj ht hi hk (he ▸ this)⟩
  have hiK:∀ k,k∈ks i→(i:Int) ∉ qdj ks f k.toNat:=fun k hk hx=>(hsub k hk _ hx).2 rfl
  have ilo:=v.lo
  have ili:=v.li
  have io:=v.oth i (by omega) hiK
  have ii:inA w1 i=w.c:=by rw [io.1,qmq (by omega) (by omega),if_pos rfl]
  have cc:=v.cc
  simp only [into] at cc
  have mI:∀ x,inA (outof i w1) x=inA w1 x:=fun x=>zbr
  have mO:∀ x,0≤x→qgn (outof i w1) x=if (i:Int)=x then w1.c else qgn w1 x:=fun x hx=>qpu (by omega) hx
  have mS:∀ k,k∈ks i→∀ x,x∈qdj ks f k.toNat→inA (outof i w1) x=inA w1 x∧qgn (outof i w1) x=qgn w1 x:=fun k hk x hx=>⟨mI x,by rw [mO x (hsub k hk x hx).1,if_neg (hsub k hk x hx).2]⟩
  have eI:∀ k,k∈ks i→∀ x,x∈qdj ks f k.toNat→qqa (outof i w1) i x:=fun k hk x hx=>by
   have g:=v.rng k hk x hx
   simp only [into] at g
   unfold qqa
   rw [(mS k hk x hx).1,(mS k hk x hx).2,mI,mO i (by omega),if_pos rfl,ii]
   omega
  have nI:∀ x,x∈qdj ks (f+1) i→¬ qqa (outof i w1) x i:=fun x hx he=>by
   simp only [qdj,List.mem_cons,List.mem_flatMap] at hx
   rcases hx with rfl | ⟨k,hk,hx⟩
   ·unfold qqa at he;omega
   ·have:=eI k hk x hx
    unfold qqa at he this;omega
  exact {
   l:=by simp only [outof];rw [v.l];simp [into,qdj]
   li:=ili
   lo:=by simp [outof,ilo]
   cc:=by simp only [outof];omega
   oth:=fun x hx hn=>by
    simp only [qdj,List.mem_cons,List.mem_flatMap,not_or,not_exists,not_and] at hn
    obtain ⟨n1,n2⟩:=hn
    have n1':¬ (i:Int)=x:=fun h=>n1 h.symm
    obtain ⟨p1,p2⟩:=v.oth x hx n2
    rw [mI,mO x hx,if_neg n1',p1,p2,qmq (by omega) hx,if_neg n1']
    exact ⟨rfl,rfl⟩
   rng:=fun x hx=>by
    simp only [qdj,List.mem_cons,List.mem_flatMap] at hx
    rcases hx with rfl | ⟨k,hk,hx⟩
    ·rw [mI,mO i (by omega),if_pos rfl,ii]
     simp only [outof];omega
    ·have g:=v.rng k hk x hx
     simp only [into] at g
     rw [(mS k hk x hx).1,(mS k hk x hx).2]
     simp only [outof];omega
   sub:={
    top:=⟨by simp [qdj],fun x hx hn=>by
     simp only [qdj,List.mem_cons,List.mem_flatMap] at hx
     rcases hx with rfl | ⟨k,hk,hx⟩
     ·exact absurd rfl hn
     ·exact eI k hk x hx⟩
    up:=fun b hb hn=>by
     simp only [qdj,List.mem_cons,List.mem_flatMap] at hb
     rcases hb with rfl | ⟨k,hk,hb⟩
     ·exact absurd rfl hn
     ·have sb:=(v.sub k hk).same (mS k hk)
      obtain ⟨k0,k1,k2,k3⟩:=hki k hk
      have inx:∀ x,x∈qdj ks f k.toNat→x∈qdj ks (f+1) i:=fun x hx=>by
       simp only [qdj,List.mem_cons,List.mem_flatMap]
       exact .inr ⟨k,hk,hx⟩
      have sep:∀ x,x∈qdj ks (f+1) i→qqa (outof i w1) x b→x=(i:Int)∨x∈qdj ks f k.toNat:=fun x hx he=>by
       simp only [qdj,List.mem_cons,List.mem_flatMap] at hx
       rcases hx with rfl | ⟨k4,hk4,hx⟩
       ·exact .inl rfl
       ·by_cases hkk:k4=k
        ·subst hkk;exact .inr hx
        ·refine absurd he ?_
         have:=v.dis k4 hk4 k hk hkk x hx b hb
         unfold qqa at this ⊢
         rw [(mS k4 hk4 x hx).1,(mS k4 hk4 x hx).2,(mS k hk b hb).1,(mS k hk b hb).2]
         exact this
      by_cases hbk:b=k
      ·subst hbk
       rw [k2]
       refine ⟨by simp [qdj],eI b hk b hb,fun x hx he=>?_⟩
       rcases sep x hx he with h | h
       ·exact .inl h
       ·by_cases hxb:x=b
        ·subst hxb;unfold qqa at he;omega
        ·have:=sb.top.2 x h hxb
         unfold qqa at this he;omega
      ·obtain ⟨u1,u2,u3⟩:=sb.up b hb hbk
       refine ⟨inx _ u1,u2,fun x hx he=>?_⟩
       rcases sep x hx he with rfl | h
       ·exact .inr (eI k hk _ u1)
       ·exact u3 x h he
    cl:=fun x hx k hk=>by
     simp only [qdj,List.mem_cons,List.mem_flatMap] at hx ⊢
     rcases hx with rfl | ⟨k2,hk2,hx⟩
     ·simp only [Int.toNat_natCast] at hk
      exact .inr ⟨k,hk,(v.sub k hk).top.1⟩
     ·exact .inr ⟨k2,hk2,(v.sub k2 hk2).cl x hx k hk⟩
    nn:=fun x hx=>by
     simp only [qdj,List.mem_cons,List.mem_flatMap] at hx
     rcases hx with rfl | ⟨k,hk,hx⟩
     ·omega
     ·exact (hsub k hk x hx).1 }
   ng:=by have:=v.ng;simp only [outof,into] at this ⊢;omega }
variable {n:Nat} {ks:Nat→List Int} {par:Int→Int} {dep:Int→Nat}
theorem qvu (ht:TreeK n ks par dep) (hn:0 < n):VisT n ks par (w0 n) (wkOf n ks) (qdj ks n 0) 0:=by
 have h:=qvr ht n 0 (w0 n) hn (by simp [w0]) (by simp [w0]) (by simp [w0]) (fun x hx=>by
  have h1:x.toNat < n:=by have:=hx.1;have:=hx.2.1;omega
  simp [inA,w0,List.getD_eq_getElem?_getD,h1]) (by simp [w0,qmo])
 have e:wkOf n ks=vis n ks n 0 (w0 n):=by unfold wkOf;rw [if_neg (by omega)]
 rw [e];exact h
theorem qfk (ht:TreeK n ks par dep) (hn:0 < n):qbf n ks=qdj ks n 0:=by
 rw [← wk_list,(qvu ht hn).l];simp [w0]
theorem qsx (ht:TreeK n ks par dep) (hn:0 < n):SubT ks par (wkOf n ks) (qbf n ks) 0:=by
 rw [qfk ht hn];exact (qvu ht hn).sub
theorem zar (ht:TreeK n ks par dep) (hn:0 < n) {i:Int} (hi:i∈qbf n ks) {k:Int} (hk:k∈ks i.toNat):k∈qbf n ks:=(qsx ht hn).cl i hi k hk
theorem qya (ht:TreeK n ks par dep) (hn:0 < n):(0:Int)∈qbf n ks:=(qsx ht hn).top.1
section
variable {t:Tr}
theorem qmk (h:qbq t=true) {i:Nat} (hi:i < t.length):qlb t i=true:=by
 cases hb:qlb t i with
 | true=>rfl
 | false=>rw [qdw hi hb] at h;cases h
theorem ql8 (h:qbq t=true) {i:Nat} (hi:i < t.length):qco t (t.length+1) (i:Int)=true:=by
 cases hb:qco t (t.length+1) (i:Int) with
 | true=>rfl
 | false=>rw [qpq hi hb] at h;cases h
theorem qf6 (h:qbq t=true) {i:Nat} (hi:i < t.length) {k:Int} (hk:k∈(qa3 t i).kids):0≤k∧k < (t.length:Int)∧(qa3 t k).up=(i:Int)∧qe8 (qa3 t i).kids k=1∧(qa3 t i).kind≤1:=by
 have hok:=qmk h hi
 simp only [qlb,Bool.and_eq_true,Bool.not_eq_true'] at hok
 have h1:=List.any_eq_false.1 hok.2.2 k hk
 simp only [badC,Bool.or_eq_true,decide_eq_true_eq,not_or] at h1
 obtain ⟨k0,k1,k2⟩:=h1
 have k2:(qa3 t k).up=(i:Int):=Classical.byContradiction k2
 have hok2:=qmk h (i:=k.toNat) (by omega)
 have e:((k.toNat:Nat):Int)=k:=by omega
 simp only [qlb,Bool.and_eq_true,Bool.not_eq_true',badB,e,k2] at hok2
 have h2:=hok2.2.1
 have hi0:(0:Int)≤(i:Int):=by omega
 simp only [hi0,decide_true,Bool.true_and,Bool.or_eq_false_iff,decide_eq_false_iff_not] at h2
 refine ⟨by omega,by omega,k2,?_,by omega⟩
 have:=h2.2
 have h3:(qe8 (qa3 t i).kids k:Int)=1:=Classical.byContradiction this
 omega
theorem qhv (h:qbq t=true):(qa3 t 0).up = -1∧(qa3 t 0).kind=0:=by
 simp only [qbq,Bool.and_eq_true,decide_eq_true_eq] at h
 exact ⟨h.2.2.1,h.2.1⟩
theorem qvv {L:List Int} (h:∀ k,k∈L→qe8 L k=1):L.Nodup:=by
 rw [List.nodup_iff_count]
 intro a
 by_cases ha:a∈L
 ·have:=h a ha
  unfold qe8 at this
  rw [List.count_eq_countP]
  have e:(fun x:Int=>x == a)=fun x=>decide (x=a):=by funext x;rw [Bool.eq_iff_iff];simp
  rw [e,this]
  exact Nat.le_refl _
 ·rw [List.count_eq_zero_of_not_mem ha];omega
def qrs (t:Tr):Nat→Int→Nat
 | 0,_=>0
 | f+1,i=>if (qa3 t i).up = -1 then 0 else qrs t f (qa3 t i).up+1
theorem qlj:∀ (f:Nat) (i:Int),qco t f i=true→qrs t f i=qrs t (f+1) i
 | 0,i,h=>by simp [qco] at h
 | f+1,i,h=>by
  unfold qco at h
  rw [qrs,qrs]
  by_cases hu:(qa3 t i).up = -1
  ·simp [hu]
  ·simp only [hu,if_false] at h ⊢
   rw [qlj f _ h]
theorem qde (h:qbq t=true):TreeK t.length (qap t) (fun x=>(qa3 t x).up) (qrs t (t.length+1)) where
 kd:=fun i hi k hk=>by
  have hk':k∈(qa3 t i).kids:=by rw [qbi hi,qd5 hi];exact hk
  obtain ⟨k0,k1,k2,_⟩:=qf6 h hi hk'
  refine ⟨k0,k1,k2,?_⟩
  have hh:=ql8 h (i:=k.toNat) (by omega)
  rw [show ((k.toNat:Nat):Int)=k by omega] at hh
  have hne:¬ (qa3 t k).up = -1:=by omega
  unfold qco at hh
  simp only [hne,if_false,k2] at hh
  rw [← qlj _ _ hh,qrs,if_neg hne,k2]
 nd:=fun i hi=>by
  rw [← qd5 hi,← qbi hi]
  exact qvv fun k hk=>(qf6 h hi hk).2.2.2.1
theorem qdv (h:qbq t=true):0 < t.length:=List.length_pos_iff.2 (qw8 h)
theorem zc8 (h:qbq t=true):∀ (f:Nat) (i:Nat),i < t.length→t.length+2≤f+qrs t (t.length+1) (i:Int)→fits f t (i:Int)
 | 0,i,hi,hf=>by
  exfalso
  have hd:∀ (f:Nat) (x:Int),qrs t f x≤f:=by
   intro f
   induction f with
   | zero=>intro x;simp [qrs]
   | succ f ih=>intro x;rw [qrs];split;omega;have:=ih (qa3 t x).up;omega
  have:=hd (t.length+1) i
  omega
 | f+1,i,hi,hf=>by
  intro k hk _
  obtain ⟨k0,k1,k2,_⟩:=qf6 h hi hk
  have hd:=((qde h).kd i hi k (by rw [← qd5 hi,← qbi hi];exact hk)).2.2.2
  have:=zc8 h f k.toNat (by omega) (by rw [show ((k.toNat:Nat):Int)=k by omega];omega)
  rwa [show ((k.toNat:Nat):Int)=k by omega] at this
end
section
variable {t:Tr}
theorem at_nd {K:List Int} (hn:K.Nodup) {j:Nat} (hj:j < K.length):atP K K[j]=(j:Int):=by
 have hc:=qkn (p:=fun y=>decide (y=K[j])) K 0
 rw [show qbg (fun y=>decide (y=K[j])) K 0=atP K K[j] from rfl] at hc
 rcases hc with ⟨h1,h2⟩ | ⟨q,hq,h1,h2,h3⟩
 ·have:=h2 K[j] (List.getElem_mem hj)
  simp at this
 ·have he:K[q]=K[j]:=by simpa using h2
  have hq2:q=j:=by
   rcases Nat.lt_trichotomy q j with hlt | hlt | hlt
   ·exact absurd he (List.pairwise_iff_getElem.1 hn q j hq hj hlt)
   ·exact hlt
   ·exact absurd he.symm (List.pairwise_iff_getElem.1 hn j q hj hq hlt)
  rw [h1,hq2];simp
theorem zbg (h:qbq t=true) {i:Nat} (hi:i < t.length) (ho:(i:Int)∈qbf t.length (qap t)) {k:Int} (hk:k∈(qa3 t i).kids):k∈qbf t.length (qap t)∧k≠0:=by
 obtain ⟨k0,k1,k2,_⟩:=qf6 h hi hk
 refine ⟨zar (qde h) (qdv h) ho (by rw [Int.toNat_natCast,← qd5 hi,← qbi hi];exact hk),fun he=>?_⟩
 subst he
 have:=(qhv h).1
 omega
end
section
variable {t:Tr}
def newN (t:Tr) (pos:Int→Int) (x:Int):Nd:={ qa3 t x with up:=pos (qa3 t x).up,kids:=(qa3 t x).kids.map pos }
theorem qn4:∀ {s:List Bool},ql4 s=0→∀ i,s.getD i true=true
 | [],_,i=>by simp
 | x::r,h,0=>by
  cases x with
  | true=>rfl
  | false=>simp [ql4] at h
 | x::r,h,i+1=>by
  have:ql4 r=0:=by
   simp only [ql4,List.count_cons] at h ⊢
   omega
  simpa using qn4 this i
theorem za7 {s:List Bool} {i j:Nat} (hi:i < s.length):(s.set i true).getD j true=false↔s.getD j true=false∧j≠i:=by
 simp only [List.getD_eq_getElem?_getD,List.getElem?_set]
 by_cases h:i=j
 ·subst h;simp [hi]
 ·simp [h,fun e=>h (Eq.symm e)]
  exact fun _ e=>h e.symm
structure PutR (t:Tr) (pos:Int→Int) (s:List Bool) (S:List Int) (a:List Nd × List Bool):Prop where
 nd:a.1=S.map (newN t pos)
 ln:a.2.length=t.length
 sn:∀ x:Nat,a.2.getD x true=false↔s.getD x true=false∧(x:Int) ∉ S
 un:ql4 a.2≤ql4 s
theorem qsq (h:qbq t=true) {pos:Int→Int} {i:Nat} (hi:i < t.length) {f:Nat} {rec:Int→Nat→List Bool→List Nd × List Bool}
  (hrec:∀ k,k∈(qa3 t i).kids→∀ (z:Nat) (s:List Bool),s.length=t.length→ql4 s≤f→(∀ x,Bel t.length (fun x=>(qa3 t x).up) (qrs t (t.length+1)) k x→s.getD x.toNat true=false)→(∀ p (hp:p < (qdj (qap t) f k.toNat).length),pos (qdj (qap t) f k.toNat)[p]=(z:Int)+p) →
   PutR t pos s (qdj (qap t) f k.toNat) (rec k z s)) :
  ∀ (K:List Int),(∀ k,k∈K→k∈(qa3 t i).kids)→K.Nodup→∀ (z:Nat) (s:List Bool),s.length=t.length→ql4 s≤f→(∀ k,k∈K→∀ x,Bel t.length (fun x=>(qa3 t x).up) (qrs t (t.length+1)) k x→s.getD x.toNat true=false) →
   (∀ p (hp:p < (K.flatMap fun k=>qdj (qap t) f k.toNat).length),pos (K.flatMap fun k=>qdj (qap t) f k.toNat)[p]=(z:Int)+p) →
   (qp5 rec t.length K z s).1=K.map pos∧PutR t pos s (K.flatMap fun k=>qdj (qap t) f k.toNat) (qp5 rec t.length K z s).2
 | [],_,_,z,s,hs,hf,hu,hp=>⟨rfl,{ nd:=rfl,ln:=hs,sn:=fun x=>by simp [qp5],un:=Nat.le_refl _ }⟩
 | k::r,hK,hnd,z,s,hs,hf,hu,hp=>by
  have ht:=qde h
  have hkm:=hK k (by simp)
  obtain ⟨k0,k1,k2,_⟩:=qf6 h hi hkm
  rw [List.nodup_cons] at hnd
  have hks:∀ k,k∈(qa3 t i).kids→k∈qap t i:=fun k hk=>by rw [← qd5 hi,← qbi hi];exact hk
  have hks0:=hu k (by simp) k (qhb k0 k1)
  have hf1:0 < f:=by
   rcases Nat.eq_zero_or_pos f with rfl | h1
   ·have:=qn4 (s:=s) (by omega) k.toNat
    rw [this] at hks0;cases hks0
   ·exact h1
  obtain ⟨f',rfl⟩ : ∃ f',f=f'+1:=⟨f - 1,by omega⟩
  have eN:((k.toNat:Nat):Int)=k:=by omega
  simp only [List.flatMap_cons] at hp ⊢
  have ra:=hrec k hkm z s hs hf (hu k (by simp)) (fun p hp1=>by
   have:=hp p (by rw [List.length_append];omega)
   rwa [List.getElem_append_left hp1] at this)
  have hpk:pos k=(z:Int):=by
   have:=hp 0 (by simp [qdj])
   simpa [qdj,eN] using this
  have hmem:∀ k2,k2∈r→k2∈(qa3 t i).kids:=fun k2 hk2=>hK k2 (by simp [hk2])
  have hin:∀ x,x∈qdj (qap t) (f'+1) k.toNat→Bel t.length (fun x=>(qa3 t x).up) (qrs t (t.length+1)) k x:=fun x hx=>by
   have:=qno ht (f'+1) k.toNat (by omega) x hx
   rwa [eN] at this
  obtain ⟨a,ha⟩ : ∃ a,a=rec k z s:=⟨_,rfl⟩
  rw [← ha] at ra
  have hal:a.1.length=(qdj (qap t) (f'+1) k.toNat).length:=by rw [ra.nd,List.length_map]
  obtain ⟨q1,q2⟩:=qsq h hi hrec r hmem hnd.2 (z+a.1.length) a.2 ra.ln (by have:=ra.un;omega) (fun k2 hk2 x hx=>by
   rw [ra.sn]
   refine ⟨hu k2 (by simp [hk2]) x hx,fun hx2=>?_⟩
   rw [show ((x.toNat:Nat):Int)=x by have:=hx.1;omega] at hx2
   exact zdj ht hi (hks k hkm) (hks k2 (hmem k2 hk2)) (fun e=>hnd.1 (e ▸ hk2)) (hin x hx2) hx) (fun p hp1=>by
   have:=hp ((qdj (qap t) (f'+1) k.toNat).length+p) (by rw [List.length_append];exact Nat.add_lt_add_left hp1 _)
   rw [List.getElem_append_right (by omega)] at this
   simp only [Nat.add_sub_cancel_left] at this
   rw [this,hal];omega)
  unfold qp5
  rw [if_pos ⟨k0,k1,hks0⟩]
  simp only [← ha]
  refine ⟨by rw [q1];simp [hpk],{ nd:=?_,ln:=q2.ln,sn:=fun x=>?_,un:=Nat.le_trans q2.un ra.un }⟩
  ·have e1:=q2.nd
   show a.1++(qp5 rec t.length r (z+a.1.length) a.2).2.1=_
   rw [List.map_append,← e1,← ra.nd]
  ·show (qp5 rec t.length r (z+a.1.length) a.2).2.2.getD x true=false↔_
   rw [q2.sn x,ra.sn x,List.mem_append,not_or]
   constructor
   ·rintro ⟨⟨a1,a2⟩,a3⟩;exact ⟨a1,a2,a3⟩
   ·rintro ⟨a1,a2,a3⟩;exact ⟨⟨a1,a2⟩,a3⟩
theorem qso (h : qbq t = true) {pos : Int → Int} : ∀ (f i : Nat), i < t.length → ∀ (z : Nat) (s : List Bool), s.length = t.length → ql4 s ≤ f → (∀ x, Bel t.length (fun x => (qa3 t x).up) (qrs t (t.length + 1)) (i : Int) x → s.getD x.toNat true = false) →
      (∀ p (hp:p < (qdj (qap t) f i).length),pos (qdj (qap t) f i)[p]=(z:Int)+p)→PutR t pos s (qdj (qap t) f i) (qs3 f t i (pos (qa3 t i).up) z s)
 | 0,i,hi,z,s,hs,hf,hu,hp=>by
  have h1:=hu i (qhb (by omega) (by omega))
  have:=qn4 (s:=s) (by omega) (i:Int).toNat
  rw [this] at h1;cases h1
 | f+1,i,hi,z,s,hs,hf,hu,hp=>by
  have ht:=qde h
  have h1:=hu i (qhb (by omega) (by omega))
  simp only [Int.toNat_natCast] at h1
  have hus:=qk3 h1
  have hkk:(qa3 t i).kids=qap t i:=by rw [qbi hi,qd5 hi]
  have hpi:pos (i:Int)=(z:Int):=by
   have:=hp 0 (by simp [qdj])
   simpa [qdj] using this
  have key:=qsq h hi (pos:=pos) (f:=f) (rec:=fun k z' s'=>qs3 f t k (z:Int) z' s') (fun k hk z' s' a b c d=>by
   obtain ⟨k0,k1,k2,_⟩:=qf6 h hi hk
   have eN:((k.toNat:Nat):Int)=k:=by omega
   have:=qso h f k.toNat (by omega) z' s' a b (by rw [eN];exact c) d
   rw [eN,k2,hpi] at this
   exact this) (qa3 t i).kids (fun _ h=>h) (qvv fun k hk=>(qf6 h hi hk).2.2.2.1) (z+1) (s.set i true) (by simpa using hs) (by omega) (fun k hk x hx=>by
   have hx0:=hx.1
   rw [za7 (by omega)]
   have hb:=zdi ht hi (by rw [← hkk];exact hk) hx
   refine ⟨hu x hb,fun e=>?_⟩
   have:x=(i:Int):=by omega
   subst this
   exact qvj ht hi (by rw [← hkk];exact hk) hx) (fun p hp1=>by
   have:=hp (p+1) (by simp only [qdj,List.length_cons];rw [hkk] at hp1;omega)
   simp only [qdj,List.getElem_cons_succ] at this
   simp only [hkk]
   rw [this];omega)
  obtain ⟨q1,q2⟩:=key
  unfold qs3
  simp only [Int.toNat_natCast]
  refine { nd:=?_,ln:=q2.ln,sn:=fun x=>?_,un:=?_ }
  ·simp only [qdj,List.map_cons]
   have e2:=q2.nd
   rw [hkk] at e2 q1
   rw [← e2]
   congr 1
   ·unfold newN
    rw [hkk,← q1]
   ·rw [hkk]
  ·have:=q2.sn x
   simp only at this ⊢
   rw [this,za7 (by omega),hkk]
   simp only [qdj,List.mem_cons,not_or]
   constructor
   ·rintro ⟨⟨a1,a2⟩,a3⟩;exact ⟨a1,by omega,a3⟩
   ·rintro ⟨a1,a2,a3⟩;exact ⟨⟨a1,by omega⟩,a3⟩
  ·have:=q2.un
   simp only at this ⊢
   omega
theorem qqu (h:qbq t=true):qc9 t=(qbf t.length (qap t)).map (newN t (atP (qbf t.length (qap t)))):=by
 have ht:=qde h
 have hn:=qdv h
 have ho:=qfk ht hn
 have hnd:=qnq (n:=t.length) (ks:=qap t)
 have hm1:atP (qbf t.length (qap t)) (-1) = -1:=by
  have hc:=qkn (p:=fun y=>decide (y=(-1:Int))) (qbf t.length (qap t)) 0
  rw [show qbg (fun y=>decide (y=(-1:Int))) (qbf t.length (qap t)) 0=atP (qbf t.length (qap t)) (-1) from rfl] at hc
  rcases hc with ⟨h1,_⟩ | ⟨q,hq,h1,h2,_⟩
  ·exact h1
  ·have:=qnr (List.getElem_mem hq)
   simp at h2
   omega
 have key:=qso h (pos:=atP (qbf t.length (qap t))) t.length 0 hn 0 (List.replicate t.length false) (by simp) (by rw [qmi];exact Nat.le_refl _) (fun x hx=>by
  have h1:x.toNat < t.length:=by have:=hx.1;have:=hx.2.1;omega
  simp [List.getD_eq_getElem?_getD,h1]) (fun p hp=>by
  have hp2:p < (qbf t.length (qap t)).length:=by rw [ho];exact hp
  have:=at_nd hnd hp2
  simp only [ho] at this ⊢
  rw [this];omega)
 have e0:((0:Nat):Int)=0:=rfl
 rw [e0,(qhv h).1,hm1] at key
 rw [ho] at key ⊢
 exact key.nd
end
section
variable {t:Tr}
theorem zdp {L:List Int} {x:Int} (h:x ∉ L):atP L x = -1:=by
 have hc:=qkn (p:=fun y=>decide (y=x)) L 0
 rw [show qbg (fun y=>decide (y=x)) L 0=atP L x from rfl] at hc
 rcases hc with ⟨h1,_⟩ | ⟨q,hq,h1,h2,_⟩
 ·exact h1
 ·simp at h2
  exact absurd (h2 ▸ List.getElem_mem hq) h
end
end Go.Proofs.YtocnpnnplllneaaGreatDoor
namespace Go.Proofs.YtocnpnnplllneaaGreatDoor
noncomputable section
set_option linter.unusedSimpArgs false
set_option linter.unusedVariables false
open Go Go.RowKit
end
end Go.Proofs.YtocnpnnplllneaaGreatDoor