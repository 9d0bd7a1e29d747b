/- ref28.Nodes: the elements above a node. No condition. -/
import Derived.Test.YtocnpnnplllneaaGreatDoorMO
import Derived.Test.YtocnpnnplllneaaGreatDoorMH
import Derived.Test.YtocnpnnplllneaaGreatDoorMJ
namespace Go.Proofs.YtocnpnnplllneaaGreatDoor
set_option linter.unusedSimpArgs false
set_option linter.unusedVariables false
open Go Go.RowKit
set_option maxRecDepth 100000
def oneB (a b:Nd):Bool:=decide (a.kind=b.kind) && decide (a.space=b.space) && decide (a.name=b.name) && decide (a.data=b.data) && decide (a.up=b.up) && decide (a.kids=b.kids) && decide (a.attrs=b.attrs)
theorem one_eq (a b:Nd):oneB a b=true↔a=b:=by
 obtain ⟨k1,s1,n1,a1,d1,u1,c1⟩:=a
 obtain ⟨k2,s2,n2,a2,d2,u2,c2⟩:=b
 simp [oneB]
 constructor
 ·rintro ⟨⟨⟨⟨⟨⟨h1,h2⟩,h3⟩,h4⟩,h5⟩,h6⟩,h7⟩;exact ⟨h1,h2,h3,h7,h4,h5,h6⟩
 ·rintro ⟨h1,h2,h3,h7,h4,h5,h6⟩;exact ⟨⟨⟨⟨⟨⟨h1,h2⟩,h3⟩,h4⟩,h5⟩,h6⟩,h7⟩
instance decNd:DecidableEq Nd:=fun a b=>decidable_of_iff (oneB a b=true) (one_eq a b)
end Go.Proofs.YtocnpnnplllneaaGreatDoor
namespace Go.Proofs.YtocnpnnplllneaaGreatDoor
set_option linter.unusedSimpArgs false
set_option linter.unusedVariables false
abbrev qxl:=List (Nat × Nat) × Wk
def stpW (n:Nat) (ks:Nat→List Int):qxl→Option qxl
 | ([],_)=>none
 | ((i,j)::p,w)=>match (ks i)[j]? with
  | none=>some (p,outof i w)
  | some k=>if 0≤k∧k < (n:Int)∧w.inn.getD k.toNat 0 < 0 then some ((k.toNat,0)::(i,j+1)::p,into k.toNat w) else some ((i,j+1)::p,w)
inductive ReachW (n:Nat) (ks:Nat→List Int):qxl→qxl→Prop where
 | refl (c:qxl):ReachW n ks c c
 | step {c d e:qxl} (h:stpW n ks c=some d) (r:ReachW n ks d e):ReachW n ks c e
theorem ReachW.trans {n:Nat} {ks:Nat→List Int} {c d e:qxl} (h:ReachW n ks c d) (r:ReachW n ks d e):ReachW n ks c e:=by
 induction h with
 | refl=>exact r
 | step h _ ih=>exact .step h (ih r)
theorem ReachW.one {n:Nat} {ks:Nat→List Int} {c d e:qxl} (r:ReachW n ks c d) (h:stpW n ks d=some e):ReachW n ks c e:=r.trans (.step h (.refl _))
def wkOf (n:Nat) (ks:Nat→List Int):Wk:=if n=0 then w0 0 else vis n ks n 0 (w0 n)
theorem wk_list {n:Nat} {ks:Nat→List Int}:(wkOf n ks).l=qbf n ks:=by
 unfold wkOf qbf
 split
 ·simp [w0]
 ·rfl
theorem qg4 {l:List Int} {i j:Nat} {x:Int}:(l.set i x).getD j 0=if i=j∧i < l.length then x else l.getD j 0:=by
 simp only [List.getD_eq_getElem?_getD,List.getElem?_set]
 by_cases h:i=j
 ·subst h
  by_cases h2:i < l.length
  ·simp [h2]
  ·simp [h2]
 ·simp [h]
structure WokW (n:Nat) (P:Nat) (w:Wk):Prop where
 li:w.inn.length=n
 lo:w.out.length=n
 c1:1≤w.c
 cu:w.c+2 * (qhl w.inn:Int)+P≤2 * n
 no:∀ i,i < n→w.inn.getD i 0 < 0→w.out.getD i 0 = -1
theorem WokW.into {n P i:Nat} {w:Wk} (h:WokW n P w) (hi:i < n) (hn:w.inn.getD i 0 < 0):WokW n (P+1) (into i w)∧qhl (Go.Proofs.YtocnpnnplllneaaGreatDoor.into i w).inn+1=qhl w.inn:=by
 have e:=qj2 (I:=w.inn) (c:=w.c) (by rw [h.li];exact hi) hn (by have:=h.c1;omega)
 have h1:=h.cu
 have h2:=h.c1
 refine ⟨⟨by simp [Go.Proofs.YtocnpnnplllneaaGreatDoor.into,h.li],h.lo,?_,?_,fun j hj hlt=>?_⟩,e⟩
 ·simp only [Go.Proofs.YtocnpnnplllneaaGreatDoor.into];omega
 ·simp only [Go.Proofs.YtocnpnnplllneaaGreatDoor.into];omega
 ·simp only [Go.Proofs.YtocnpnnplllneaaGreatDoor.into,qg4] at hlt
  split at hlt
  ·omega
  ·exact h.no j hj hlt
theorem WokW.outof {n P i:Nat} {w:Wk} (h:WokW n (P+1) w) (hi:0≤w.inn.getD i 0):WokW n P (outof i w):=by
 have h1:=h.cu
 have h2:=h.c1
 refine ⟨h.li,by simp [Go.Proofs.YtocnpnnplllneaaGreatDoor.outof,h.lo],by simp only [Go.Proofs.YtocnpnnplllneaaGreatDoor.outof];omega,by simp only [Go.Proofs.YtocnpnnplllneaaGreatDoor.outof];omega,fun j hj hlt=>?_⟩
 have hlt':w.inn.getD j 0 < 0:=hlt
 simp only [Go.Proofs.YtocnpnnplllneaaGreatDoor.outof,qg4]
 rw [if_neg]
 ·exact h.no j hj hlt'
 ·rintro ⟨rfl,_⟩
  omega
end Go.Proofs.YtocnpnnplllneaaGreatDoor
namespace Go.Proofs.YtocnpnnplllneaaGreatDoor
set_option linter.unusedSimpArgs false
set_option linter.unusedVariables false
open Go Go.RowKit
set_option maxRecDepth 100000
theorem ReachW.inv {n:Nat} {ks:Nat→List Int} {J:qxl→Prop} (hs:∀ c d,stpW n ks c=some d→J c→J d) {c d:qxl} (h:ReachW n ks c d) (hc:J c):J d:=by
 induction h with
 | refl=>exact hc
 | step h _ ih=>exact ih (hs _ _ h hc)
structure JW (n:Nat) (c:qxl):Prop where
 k:WokW n c.1.length c.2
 p:∀ e,e∈c.1→e.1 < n
 q:∀ e,e∈c.1→0≤c.2.inn.getD e.1 0
 i:∀ j,-1≤c.2.inn.getD j 0∧c.2.inn.getD j 0≤2 * n
 o:∀ j,-1≤c.2.out.getD j 0∧c.2.out.getD j 0≤2 * n
theorem JW.step {n:Nat} {ks:Nat→List Int} {c d:qxl} (h:stpW n ks c=some d) (j:JW n c):JW n d:=by
 obtain ⟨p,w⟩:=c
 cases p with
 | nil=>cases h
 | cons e p=>
  obtain ⟨i,m⟩:=e
  have hc:=j.k.cu
  have hc1:=j.k.c1
  simp only [List.length_cons] at hc
  simp only at hc1
  simp only [stpW] at h
  split at h
  ·simp only [sj] at h
   subst h
   refine ⟨j.k.outof (j.q (i,m) (by simp)),fun e he=>j.p e (by simp [he]),fun e he=>j.q e (by simp [he]),j.i,fun k=>?_⟩
   simp only [outof,qg4]
   split
   ·constructor <;> omega
   ·exact j.o k
  ·rename_i k hk
   split at h
   ·rename_i hx
    simp only [sj] at h
    subst h
    have hkn:k.toNat < n:=by omega
    refine ⟨by have:=(j.k.into hkn hx.2.2).1;simpa using this,fun e he=>?_,fun e he=>?_,fun l=>?_,j.o⟩
    ·simp only [List.mem_cons] at he
     rcases he with rfl | rfl | he
     ·exact hkn
     ·exact j.p (i,m) (by simp)
     ·exact j.p e (by simp [he])
    ·simp only [into,qg4]
     split
     ·omega
     ·rename_i hne
      simp only [List.mem_cons] at he
      rcases he with rfl | rfl | he
      ·exact absurd ⟨rfl,by rw [j.k.li];exact hkn⟩ hne
      ·exact j.q (i,m) (by simp)
      ·exact j.q e (by simp [he])
    ·simp only [into,qg4]
     split
     ·constructor <;> omega
     ·exact j.i l
   ·simp only [sj] at h
    subst h
    refine ⟨j.k,fun e he=>?_,fun e he=>?_,j.i,j.o⟩
    ·simp only [List.mem_cons] at he
     rcases he with rfl | he
     ·exact j.p (i,m) (by simp)
     ·exact j.p e (by simp [he])
    ·simp only [List.mem_cons] at he
     rcases he with rfl | he
     ·exact j.q (i,m) (by simp)
     ·exact j.q e (by simp [he])
def inA (w:Wk) (a:Int):Int:=w.inn.getD a.toNat 0
def qgn (w:Wk) (a:Int):Int:=w.out.getD a.toNat 0
structure J2 (n:Nat) (c:qxl):Prop where
 j:JW n c
 a0:∀ a,a∈c.2.l→0≤a∧a < (n:Int)∧0≤inA c.2 a∧inA c.2 a < c.2.c
 srt:c.2.l.Pairwise fun a b=>inA c.2 a < inA c.2 b
 all:∀ i:Nat,i < n→0≤c.2.inn.getD i 0→(i:Int)∈c.2.l
 pl:∀ e,e∈c.1→(e.1:Int)∈c.2.l
 ps:c.1.Pairwise fun x y=>c.2.inn.getD y.1 0 < c.2.inn.getD x.1 0
 cl:∀ a,a∈c.2.l→(∃ e,e∈c.1∧(e.1:Int)=a)∨(inA c.2 a < qgn c.2 a∧qgn c.2 a < c.2.c)
 lam:∀ a b,a∈c.2.l→b∈c.2.l→inA c.2 a < inA c.2 b→(∃ e,e∈c.1∧(e.1:Int)=a)∨qgn c.2 a < inA c.2 b∨((∀ e,e∈c.1→(e.1:Int)≠b)∧qgn c.2 b < qgn c.2 a)
theorem qmq {w:Wk} {i:Nat} {a:Int} (hi:i < w.inn.length) (ha:0≤a):inA (into i w) a=if (i:Int)=a then w.c else inA w a:=by
 simp only [inA,into,qg4]
 by_cases h:(i:Int)=a
 ·have:i=a.toNat:=by omega
  simp [h,← this,hi]
 ·have:¬ i=a.toNat:=by omega
  simp [h,this]
theorem zaq {w:Wk} {i:Nat} {a:Int}:qgn (into i w) a=qgn w a:=rfl
theorem zbr {w:Wk} {i:Nat} {a:Int}:inA (outof i w) a=inA w a:=rfl
theorem qpu {w:Wk} {i:Nat} {a:Int} (hi:i < w.out.length) (ha:0≤a):qgn (outof i w) a=if (i:Int)=a then w.c else qgn w a:=by
 simp only [qgn,outof,qg4]
 by_cases h:(i:Int)=a
 ·have:i=a.toNat:=by omega
  simp [h,← this,hi]
 ·have:¬ i=a.toNat:=by omega
  simp [h,this]
theorem J2.step {n:Nat} {ks:Nat→List Int} {c d:qxl} (h:stpW n ks c=some d) (j:J2 n c):J2 n d:=by
 have hj:=j.j.step h
 obtain ⟨p,w⟩:=c
 cases p with
 | nil=>cases h
 | cons e p=>
  obtain ⟨i,m⟩:=e
  have hli:=j.j.k.li
  have hlo:=j.j.k.lo
  have hc1:=j.j.k.c1
  have hin:i < n:=j.j.p (i,m) (by simp)
  simp only at hli hlo hc1
  have hps:=j.ps
  simp only [List.pairwise_cons] at hps
  simp only [stpW] at h
  split at h
  ·simp only [sj] at h
   subst h
   have hil:=j.pl (i,m) (by simp)
   simp only at hil
   have e1:∀ a,inA (outof i w) a=inA w a:=fun a=>rfl
   have e2:∀ a,0≤a→qgn (outof i w) a=if (i:Int)=a then w.c else qgn w a:=fun a ha=>qpu (by omega) ha
   have hci:=(j.a0 _ hil).2.2.2
   simp only at hci
   refine ⟨hj,fun a ha=>?_,j.srt,j.all,fun e he=>j.pl e (by simp [he]),hps.2,fun a ha=>?_,fun a b ha hb hab=>?_⟩
   ·have:=j.a0 a ha
    exact ⟨this.1,this.2.1,this.2.2.1,by show inA w a < w.c+1;have:=this.2.2.2;simp only at this;omega⟩
   ·have h0:=(j.a0 a ha).1
    by_cases hia:(i:Int)=a
    ·right
     show inA w a < qgn (outof i w) a∧qgn (outof i w) a < w.c+1
     rw [e2 a h0,if_pos hia,← hia]
     exact ⟨hci,by omega⟩
    ·rcases j.cl a ha with ⟨e,he,hea⟩ | hcl
     ·simp only [List.mem_cons] at he
      rcases he with rfl | he
      ·exact absurd hea hia
      ·exact .inl ⟨e,he,hea⟩
     ·right
      show inA w a < qgn (outof i w) a∧qgn (outof i w) a < w.c+1
      rw [e2 a h0,if_neg hia]
      have h3:inA w a < qgn w a∧qgn w a < w.c:=hcl
      omega
   ·have ha0:=(j.a0 a ha).1
    have hb0:=(j.a0 b hb).1
    show (∃ e,e∈p∧(e.1:Int)=a)∨qgn (outof i w) a < inA w b∨((∀ e,e∈p→(e.1:Int)≠b)∧qgn (outof i w) b < qgn (outof i w) a)
    rw [e2 a ha0,e2 b hb0]
    have hab':inA w a < inA w b:=hab
    by_cases hia:(i:Int)=a
    ·rw [if_pos hia]
     have hib:¬ (i:Int)=b:=fun e=>by rw [← hia,← e] at hab';omega
     rw [if_neg hib]
     right;right
     have hnb:∀ e,e∈p→(e.1:Int)≠b:=fun e he hb'=>by
      have h1:=hps.1 e he
      have:inA w b=w.inn.getD e.1 0:=by rw [← hb'];simp [inA]
      have h2:inA w a=w.inn.getD i 0:=by rw [← hia];simp [inA]
      omega
     refine ⟨hnb,?_⟩
     rcases j.cl b hb with ⟨e,he,heb⟩ | hcl
     ·simp only [List.mem_cons] at he
      rcases he with rfl | he
      ·exact absurd heb hib
      ·exact absurd heb (hnb e he)
     ·exact hcl.2
    ·rw [if_neg hia]
     rcases j.lam a b ha hb hab with ⟨e,he,hea⟩ | h1 | ⟨h1,h2⟩
     ·simp only [List.mem_cons] at he
      rcases he with rfl | he
      ·exact absurd hea hia
      ·exact .inl ⟨e,he,hea⟩
     ·exact .inr (.inl h1)
     ·have hib:¬ (i:Int)=b:=h1 (i,m) (by simp)
      rw [if_neg hib]
      exact .inr (.inr ⟨fun e he=>h1 e (by simp [he]),h2⟩)
  ·rename_i k hk
   split at h
   ·rename_i hx
    simp only [sj] at h
    subst h
    have hkn:k.toNat < n:=by omega
    have hkk:((k.toNat:Nat):Int)=k:=by omega
    have hkl:k ∉ w.l:=fun hm=>by
     have:=(j.a0 k hm).2.2.1
     simp only [inA] at this
     omega
    have e1:∀ a,0≤a→inA (into k.toNat w) a=if k=a then w.c else inA w a:=fun a ha=>by rw [qmq (by omega) ha,hkk]
    have e3:∀ a,a∈w.l→inA (into k.toNat w) a=inA w a:=fun a ha=>by
     rw [e1 a (j.a0 a ha).1,if_neg (fun (e:k=a)=>hkl (e ▸ ha))]
    have ek:inA (into k.toNat w) k=w.c:=by rw [e1 k hx.1,if_pos rfl]
    have hl:(into k.toNat w).l=w.l++[k]:=by simp [into,hkk]
    have e4:∀ e,e∈(i,m)::p→(into k.toNat w).inn.getD e.1 0=w.inn.getD e.1 0:=fun e he=>by
     have:=e3 _ (j.pl e he)
     simpa [inA] using this
    have hlt:∀ a,a∈w.l→inA w a < w.c:=fun a ha=>(j.a0 a ha).2.2.2
    refine ⟨hj,fun a ha=>?_,?_,fun x hx2 h0=>?_,fun e he=>?_,?_,fun a ha=>?_,fun a b ha hb hab=>?_⟩
    ·simp only [hl,List.mem_append,List.mem_singleton] at ha
     rcases ha with ha | rfl
     ·have:=j.a0 a ha
      refine ⟨this.1,this.2.1,by simp only;rw [e3 a ha];exact this.2.2.1,?_⟩
      simp only
      rw [e3 a ha]
      have:=hlt a ha
      simp only [into];omega
     ·refine ⟨hx.1,hx.2.1,by simp only;rw [ek];omega,?_⟩
      simp only
      rw [ek]
      simp only [into];omega
    ·simp only [hl]
     rw [List.pairwise_append]
     refine ⟨?_,by simp,fun a ha b hb=>?_⟩
     ·refine j.srt.imp_of_mem fun ha hb hab=>?_
      rw [e3 _ ha,e3 _ hb];exact hab
     ·simp only [List.mem_singleton] at hb
      subst hb
      rw [e3 a ha,ek]
      exact hlt a ha
    ·simp only [hl,List.mem_append,List.mem_singleton]
     by_cases hxk:x=k.toNat
     ·right;omega
     ·left
      refine j.all x hx2 ?_
      simp only [into,qg4] at h0
      rw [if_neg (by omega)] at h0
      exact h0
    ·simp only [hl,List.mem_append,List.mem_singleton]
     simp only [List.mem_cons] at he
     rcases he with rfl | rfl | he
     ·right;simp only;omega
     ·exact .inl (j.pl (i,m) (by simp))
     ·exact .inl (j.pl e (by simp [he]))
    ·simp only [List.pairwise_cons]
     have key:∀ e,e∈(i,m)::p→(into k.toNat w).inn.getD e.1 0 < (into k.toNat w).inn.getD k.toNat 0:=fun e he=>by
      rw [e4 e he]
      have h1:=hlt _ (j.pl e he)
      have h2:(into k.toNat w).inn.getD k.toNat 0=w.c:=ek
      rw [h2]
      simpa [inA] using h1
     refine ⟨fun e he=>?_,fun e he=>?_,?_⟩
     ·simp only [List.mem_cons] at he
      rcases he with rfl | he
      ·exact key (i,m) (by simp)
      ·exact key e (by simp [he])
     ·have h1:=hps.1 e he
      have h2:=e4 e (by simp [he])
      have h3:=e4 (i,m) (by simp)
      simp only at h1 h2 h3 ⊢
      rw [h2,h3];exact h1
     ·refine hps.2.imp_of_mem fun {x y} hx hy hxy=>?_
      rw [e4 x (by simp [hx]),e4 y (by simp [hy])];exact hxy
    ·simp only [hl,List.mem_append,List.mem_singleton] at ha
     rcases ha with ha | rfl
     ·rcases j.cl a ha with ⟨e,he,hea⟩ | hcl
      ·left
       simp only [List.mem_cons] at he
       rcases he with rfl | he
       ·exact ⟨(i,m+1),by simp,hea⟩
       ·exact ⟨e,by simp [he],hea⟩
      ·right
       simp only
       rw [e3 a ha,zaq]
       simp only at hcl
       simp only [into]
       omega
     ·exact .inl ⟨(a.toNat,0),by simp,hkk⟩
    ·simp only [hl,List.mem_append,List.mem_singleton] at ha hb
     rcases ha with ha | rfl
     ·rcases hb with hb | rfl
      ·simp only at hab ⊢
       rw [e3 a ha,e3 b hb] at hab
       rw [e3 b hb]
       rcases j.lam a b ha hb hab with ⟨e,he,hea⟩ | h1 | ⟨h1,h2⟩
       ·left
        simp only [List.mem_cons] at he
        rcases he with rfl | he
        ·exact ⟨(i,m+1),by simp,hea⟩
        ·exact ⟨e,by simp [he],hea⟩
       ·exact .inr (.inl h1)
       ·refine .inr (.inr ⟨fun e he=>?_,h2⟩)
        simp only [List.mem_cons] at he
        rcases he with rfl | rfl | he
        ·simp only;rw [hkk];exact fun e=>hkl (e ▸ hb)
        ·exact h1 (i,m) (by simp)
        ·exact h1 e (by simp [he])
      ·simp only
       rw [ek]
       rcases j.cl a ha with ⟨e,he,hea⟩ | hcl
       ·left
        simp only [List.mem_cons] at he
        rcases he with rfl | he
        ·exact ⟨(i,m+1),by simp,hea⟩
        ·exact ⟨e,by simp [he],hea⟩
       ·exact .inr (.inl hcl.2)
     ·rcases hb with hb | rfl
      ·simp only at hab
       rw [ek,e3 b hb] at hab
       have:=hlt b hb
       omega
      ·simp only at hab
       omega
   ·simp only [sj] at h
    subst h
    have ex:∀ a:Int,(∃ e,e∈(i,m)::p∧(e.1:Int)=a)→∃ e,e∈(i,m+1)::p∧(e.1:Int)=a:=by
     rintro a ⟨e,he,hea⟩
     simp only [List.mem_cons] at he
     rcases he with rfl | he
     ·exact ⟨(i,m+1),by simp,hea⟩
     ·exact ⟨e,by simp [he],hea⟩
    refine ⟨hj,j.a0,j.srt,j.all,fun e he=>?_,?_,fun a ha=>?_,fun a b ha hb hab=>?_⟩
    ·simp only [List.mem_cons] at he
     rcases he with rfl | he
     ·exact j.pl (i,m) (by simp)
     ·exact j.pl e (by simp [he])
    ·simp only [List.pairwise_cons]
     exact ⟨fun e he=>hps.1 e he,hps.2⟩
    ·rcases j.cl a ha with h1 | h1
     ·exact .inl (ex a h1)
     ·exact .inr h1
    ·rcases j.lam a b ha hb hab with h1 | h1 | ⟨h1,h2⟩
     ·exact .inl (ex a h1)
     ·exact .inr (.inl h1)
     ·refine .inr (.inr ⟨fun e he=>?_,h2⟩)
      simp only [List.mem_cons] at he
      rcases he with rfl | he
      ·exact h1 (i,m) (by simp)
      ·exact h1 e (by simp [he])
end Go.Proofs.YtocnpnnplllneaaGreatDoor