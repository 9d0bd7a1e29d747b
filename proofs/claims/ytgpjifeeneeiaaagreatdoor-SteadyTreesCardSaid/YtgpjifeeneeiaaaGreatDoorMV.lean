/- The listed variables of laws 28. No condition. -/
import Derived.Test.YtgpjifeeneeiaaaGreatDoorMT
import Derived.Test.YtgpjifeeneeiaaaGreatDoorMU
import Derived.Test.YtgpjifeeneeiaaaGreatDoorRows
import Derived.Test.YtgpjifeeneeiaaaGreatDoorTie
import Derived.Test.YtgpjifeeneeiaaaGreatDoorCards
import Derived.Test.YtgpjifeeneeiaaaGreatDoorMF
import Derived.Test.YtgpjifeeneeiaaaGreatDoorMI
import Derived.HandedShaped
import Derived.Shelf.Vars
import Derived.ChangeMaps5
import Derived.LaidMore
import Derived.Stop.LaidErr
import Derived.SevenTiedAt
import Derived.Lib.LaidU8
namespace Go.Proofs.YtgpjifeeneeiaaaGreatDoor
set_option linter.unusedSimpArgs false
set_option linter.unusedVariables false
open Go Go.RowKit
section
variable {t:Tr}
theorem at_nd {K:List Int} (hn:K.Nodup) {j:Nat} (hj:j < K.length):atP K K[j]=(j:Int):=by
 have hc:=qii (p:=fun y=>decide (y=K[j])) K 0
 rw [show qbk (fun y=>decide (y=K[j])) K 0=atP K K[j] from rfl] at hc
 rcases hc with ⟨h1,h2⟩ | ⟨q,hq,h1,h2,h3⟩
 ·have:=h2 K[j] (List.getElem_mem hj)
  simp at this
 ·have he:K[q]=K[j]:=by simpa using h2
  have hq2:q=j:=by
   rcases Nat.lt_trichotomy q j with hlt | hlt | hlt
   ·exact absurd he (List.pairwise_iff_getElem.1 hn q j hq hj hlt)
   ·exact hlt
   ·exact absurd he.symm (List.pairwise_iff_getElem.1 hn j q hj hq hlt)
  rw [h1,hq2];simp
def PN (t:Tr) (i:Int):List Nd:=((qp8 t.length (qaq t) i++[i]).drop 1).map (qa6 t)
theorem PN_root (h:qbp t=true):PN t 0=[]:=by
 unfold PN
 rw [zbm (qe6 h) (qg1 h)];rfl
theorem qoi (h:qbp t=true) {i:Nat} (hi:i < t.length) (ho:(i:Int)∈qav t.length (qaq t)) {k:Int} (hk:k∈(qa6 t i).kids):k∈qav t.length (qaq t)∧k≠0:=by
 obtain ⟨k0,k1,k2,_⟩:=qcq h hi hk
 refine ⟨zbs (qe6 h) (qg1 h) ho (by rw [Int.toNat_natCast,← qdq hi,← qc3 hi];exact hk),fun he=>?_⟩
 subst he
 have:=(qnq h).1
 omega
theorem qta (h:qbp t=true) {i:Nat} (hi:i < t.length) (ho:(i:Int)∈qav t.length (qaq t)) {k:Int} (hk:k∈(qa6 t i).kids):qp8 t.length (qaq t) k=qp8 t.length (qaq t) i++[(i:Int)]:=by
 obtain ⟨o1,o2⟩:=qoi h hi ho hk
 have:=path_kid (qe6 h) (qg1 h) o1 o2
 rw [this,(qcq h hi hk).2.2.1]
theorem zei (h:qbp t=true) {i:Nat} (hi:i < t.length) (ho:(i:Int)∈qav t.length (qaq t)) {k:Int} (hk:k∈(qa6 t i).kids):qds t k.toNat=PN t i:=by
 have hk0:=(qcq h hi hk).1
 have:=qta h hi ho hk
 unfold qds PN
 rw [← this]
 unfold qnw qp8
 rw [show ((k.toNat:Nat):Int)=k by omega]
theorem PN_kid (h:qbp t=true) {i:Nat} (hi:i < t.length) (ho:(i:Int)∈qav t.length (qaq t)) {k:Int} (hk:k∈(qa6 t i).kids):PN t k=PN t i++[qa6 t k]:=by
 unfold PN
 rw [qta h hi ho hk]
 cases qp8 t.length (qaq t) i <;> simp
def zea (t:Tr):Nat→Int→Int→Prop
 | 0,_,_=>False
 | f+1,i,x=>∃ k,k∈(qa6 t i).kids∧(x=k∨zea t f k x)
theorem no_bel {f:Nat} {i x:Int} (h:(qa6 t i).kids=[]):¬ zea t f i x:=by
 cases f with
 | zero=>exact fun h=>h
 | succ f=>rintro ⟨k,hk,_⟩;rw [h] at hk;cases hk
theorem zao (h:qbp t=true) {i:Nat} (hi:i < t.length) (hk:1 < (qa6 t i).kind):(qa6 t i).kids=[]:=by
 cases he:(qa6 t i).kids with
 | nil=>rfl
 | cons k r=>
  have:=(qcq h hi (k:=k) (by rw [he];simp)).2.2.2.2
  omega
theorem zbi (h:qbp t=true) {i:Nat} (hi:i < t.length) {j:Nat} (hj:j < (qa6 t i).kids.length):qdv t (qa6 t i).kids[j]=(j:Int):=by
 obtain ⟨k0,k1,k2,_⟩:=qcq h hi (List.getElem_mem hj)
 unfold qdv
 have b1:isB t (qa6 t i).kids[j]=true:=isB_iff.2 ⟨k0,k1⟩
 have b2:isB t (qa6 t (qa6 t i).kids[j]).up=true:=by rw [k2];exact isB_iff.2 ⟨by omega,by omega⟩
 rw [if_pos ⟨b1,b2⟩,k2]
 exact at_nd (qqt fun k hk=>(qcq h hi hk).2.2.2.1) hj
theorem kidsL_c {rec:List Nd→Int→Bool} {P:List Nd} {k:Int} {r:List Int} {fst:Bool} {last:Int}:qif rec t P (k::r) fst last =
  if (qa6 t k).kind=1 then (decide ((qa6 t k).data=[]) && qti P (qa6 t k) && qfg (qa6 t k) && rec (P++[qa6 t k]) k) && qif rec t P r false 1
  else if (qa6 t k).kind=2 then (!decide (last=2) && qeh P (qa6 t k).data && qd1 (qa6 t k) && !(fst && lfB (qa6 t k).data && elB (qap P) [112,114,101,32,116,101,120,116,97,114,101,97])) && qif rec t P r false 2
  else false:=rfl
theorem qtq (h:qbp t=true) {i:Nat} (hi:i < t.length) (ho:(i:Int)∈qav t.length (qaq t)) {f:Nat}
  (hrec:∀ k,k∈(qa6 t i).kids→(qa6 t k).kind=1→(qig f t (PN t i++[qa6 t k]) k=true↔∀ x,zea t f k x→qva t x.toNat=true)) :
  ∀ (r:List Int) (j:Nat),(qa6 t i).kids.drop j=r→(qif (qig f t) t (PN t i) r (decide (j=0)) (if j=0 then -1 else (qa6 t ((qa6 t i).kids.getD (j - 1) 0)).kind)=true↔∀ k,k∈r→qva t k.toNat=true∧∀ x,zea t f k x→qva t x.toNat=true)
 | [],j,hr=>by simp [qif]
 | k::r,j,hr=>by
  have hj:j < (qa6 t i).kids.length:=by have:=congrArg List.length hr;simp at this;omega
  have hd:=List.drop_eq_getElem_cons hj
  rw [hr] at hd
  simp only [List.cons.injEq] at hd
  obtain ⟨hk,hr2⟩:=hd
  have hkm:k∈(qa6 t i).kids:=by rw [hk];exact List.getElem_mem hj
  have hpl:=zbi h hi hj
  rw [← hk] at hpl
  obtain ⟨k0,k1,k2,_,_⟩:=qcq h hi hkm
  have ih:=qtq h hi ho hrec r (j+1) hr2.symm
  have hlast:(qa6 t i).kids.getD j 0=k:=by rw [List.getD_eq_getElem?_getD,List.getElem?_eq_getElem hj];simp [hk]
  simp only [Nat.add_eq_zero_iff,Nat.one_ne_zero,and_false,decide_false,if_false,Nat.add_sub_cancel,hlast] at ih
  have eN:((k.toNat:Nat):Int)=k:=by omega
  have hab:=zei h hi ho hkm
  have hprev:zbg t k.toNat=(qa6 t ((qa6 t i).kids.getD (j - 1) 0)).kind:=by
   unfold zbg
   rw [eN,k2,hpl,show ((j:Int) - 1).toNat=j - 1 by omega]
  simp only [List.forall_mem_cons]
  rw [← ih]
  have hrc:=hrec k hkm
  have hnb:(qa6 t k).kind=2→((∀ x,zea t f k x→qva t x.toNat=true)↔True):=fun h2=>by
   have hnk:(qa6 t k).kids=[]:=by
    have:=zao h (i:=k.toNat) (by omega)
    rw [eN] at this
    exact this (by omega)
   exact ⟨fun _=>trivial,fun _ x hx=>absurd hx (no_bel hnk)⟩
  obtain ⟨X,hX⟩ : ∃ X:Prop,X=∀ x,zea t f k x→qva t x.toNat=true:=⟨_,rfl⟩
  rw [← hX] at hrc hnb ⊢
  clear hX ih
  rw [kidsL_c]
  unfold qva
  rw [eN,hab,hpl,hprev]
  by_cases h1:(qa6 t k).kind=1
  ·have hrc:=hrc h1
   simp only [h1,if_true,Bool.and_eq_true,hrc]
  ·by_cases h2:(qa6 t k).kind=2
   ·have hnb:=hnb h2
    have n12:¬ (2:Int)=1:=by omega
    rw [hnb]
    simp only [h2,n12,if_false,if_true,decide_true,Bool.true_and]
    cases hc:qeh (PN t i) (qa6 t k).data <;> cases hn:qd1 (qa6 t k) <;> simp
    by_cases hj0:j=0
    ·subst hj0
     simp
     cases lfB (qa6 t k).data <;> cases elB (qap (PN t i)) [112,114,101,32,116,101,120,116,97,114,101,97] <;> simp
    ·have hj1:0 < j:=by omega
     simp [hj0,hj1]
   ·simp [h1,h2]
theorem qxu (h:qbp t=true):∀ (f i:Nat),i < t.length→(i:Int)∈qav t.length (qaq t)→fits f t (i:Int)→(qig f t (PN t i) i=true↔∀ x,zea t f i x→qva t x.toNat=true)
 | 0,i,_,_,hf=>absurd hf (by simp [fits])
 | f+1,i,hi,ho,hf=>by
  have key:=qtq h hi ho (f:=f) (fun k hk h1=>by
   obtain ⟨k0,k1,_⟩:=qcq h hi hk
   have eN:((k.toNat:Nat):Int)=k:=by omega
   have:=qxu h f k.toNat (by omega) (by rw [eN];exact (qoi h hi ho hk).1) (by rw [eN];exact hf k hk h1)
   rw [eN,PN_kid h hi ho hk] at this
   exact this) (qa6 t i).kids 0 rfl
  show qif (qig f t) t (PN t i) (qa6 t i).kids true (-1)=true↔_
  simp only [decide_true,if_true] at key
  rw [key]
  constructor
  ·rintro hx x ⟨k,hk,rfl | hb⟩
   ·exact (hx _ hk).1
   ·exact (hx k hk).2 x hb
  ·exact fun hx k hk=>⟨hx k ⟨k,hk,.inl rfl⟩,fun x hb=>hx x ⟨k,hk,.inr hb⟩⟩
end
section
variable {t:Tr}
def newN (t:Tr) (pos:Int→Int) (x:Int):Nd:={ qa6 t x with up:=pos (qa6 t x).up,kids:=(qa6 t x).kids.map pos }
theorem qnb:∀ {s:List Bool},qld s=0→∀ i,s.getD i true=true
 | [],_,i=>by simp
 | x::r,h,0=>by
  cases x with
  | true=>rfl
  | false=>simp [qld] at h
 | x::r,h,i+1=>by
  have:qld r=0:=by
   simp only [qld,List.count_cons] at h ⊢
   omega
  simpa using qnb this i
theorem zb6 {s:List Bool} {i j:Nat} (hi:i < s.length):(s.set i true).getD j true=false↔s.getD j true=false∧j≠i:=by
 simp only [List.getD_eq_getElem?_getD,List.getElem?_set]
 by_cases h:i=j
 ·subst h;simp [hi]
 ·simp [h,fun e=>h (Eq.symm e)]
  exact fun _ e=>h e.symm
structure PutR (t:Tr) (pos:Int→Int) (s:List Bool) (S:List Int) (a:List Nd × List Bool):Prop where
 nd:a.1=S.map (newN t pos)
 ln:a.2.length=t.length
 sn:∀ x:Nat,a.2.getD x true=false↔s.getD x true=false∧(x:Int) ∉ S
 un:qld a.2≤qld s
theorem qt3 (h:qbp t=true) {pos:Int→Int} {i:Nat} (hi:i < t.length) {f:Nat} {rec:Int→Nat→List Bool→List Nd × List Bool}
  (hrec:∀ k,k∈(qa6 t i).kids→∀ (z:Nat) (s:List Bool),s.length=t.length→qld s≤f→(∀ x,Bel t.length (fun x=>(qa6 t x).up) (qvz t (t.length+1)) k x→s.getD x.toNat true=false)→(∀ p (hp:p < (qes (qaq t) f k.toNat).length),pos (qes (qaq t) f k.toNat)[p]=(z:Int)+p) →
   PutR t pos s (qes (qaq t) f k.toNat) (rec k z s)) :
  ∀ (K:List Int),(∀ k,k∈K→k∈(qa6 t i).kids)→K.Nodup→∀ (z:Nat) (s:List Bool),s.length=t.length→qld s≤f→(∀ k,k∈K→∀ x,Bel t.length (fun x=>(qa6 t x).up) (qvz t (t.length+1)) k x→s.getD x.toNat true=false) →
   (∀ p (hp:p < (K.flatMap fun k=>qes (qaq t) f k.toNat).length),pos (K.flatMap fun k=>qes (qaq t) f k.toNat)[p]=(z:Int)+p) →
   (qmt rec t.length K z s).1=K.map pos∧PutR t pos s (K.flatMap fun k=>qes (qaq t) f k.toNat) (qmt rec t.length K z s).2
 | [],_,_,z,s,hs,hf,hu,hp=>⟨rfl,{ nd:=rfl,ln:=hs,sn:=fun x=>by simp [qmt],un:=Nat.le_refl _ }⟩
 | k::r,hK,hnd,z,s,hs,hf,hu,hp=>by
  have ht:=qe6 h
  have hkm:=hK k (by simp)
  obtain ⟨k0,k1,k2,_⟩:=qcq h hi hkm
  rw [List.nodup_cons] at hnd
  have hks:∀ k,k∈(qa6 t i).kids→k∈qaq t i:=fun k hk=>by rw [← qdq hi,← qc3 hi];exact hk
  have hks0:=hu k (by simp) k (qhv k0 k1)
  have hf1:0 < f:=by
   rcases Nat.eq_zero_or_pos f with rfl | h1
   ·have:=qnb (s:=s) (by omega) k.toNat
    rw [this] at hks0;cases hks0
   ·exact h1
  obtain ⟨f',rfl⟩ : ∃ f',f=f'+1:=⟨f - 1,by omega⟩
  have eN:((k.toNat:Nat):Int)=k:=by omega
  simp only [List.flatMap_cons] at hp ⊢
  have ra:=hrec k hkm z s hs hf (hu k (by simp)) (fun p hp1=>by
   have:=hp p (by rw [List.length_append];omega)
   rwa [List.getElem_append_left hp1] at this)
  have hpk:pos k=(z:Int):=by
   have:=hp 0 (by simp [qes])
   simpa [qes,eN] using this
  have hmem:∀ k2,k2∈r→k2∈(qa6 t i).kids:=fun k2 hk2=>hK k2 (by simp [hk2])
  have hin:∀ x,x∈qes (qaq t) (f'+1) k.toNat→Bel t.length (fun x=>(qa6 t x).up) (qvz t (t.length+1)) k x:=fun x hx=>by
   have:=qnv ht (f'+1) k.toNat (by omega) x hx
   rwa [eN] at this
  obtain ⟨a,ha⟩ : ∃ a,a=rec k z s:=⟨_,rfl⟩
  rw [← ha] at ra
  have hal:a.1.length=(qes (qaq t) (f'+1) k.toNat).length:=by rw [ra.nd,List.length_map]
  obtain ⟨q1,q2⟩:=qt3 h hi hrec r hmem hnd.2 (z+a.1.length) a.2 ra.ln (by have:=ra.un;omega) (fun k2 hk2 x hx=>by
   rw [ra.sn]
   refine ⟨hu k2 (by simp [hk2]) x hx,fun hx2=>?_⟩
   rw [show ((x.toNat:Nat):Int)=x by have:=hx.1;omega] at hx2
   exact ze9 ht hi (hks k hkm) (hks k2 (hmem k2 hk2)) (fun e=>hnd.1 (e ▸ hk2)) (hin x hx2) hx) (fun p hp1=>by
   have:=hp ((qes (qaq t) (f'+1) k.toNat).length+p) (by rw [List.length_append];exact Nat.add_lt_add_left hp1 _)
   rw [List.getElem_append_right (by omega)] at this
   simp only [Nat.add_sub_cancel_left] at this
   rw [this,hal];omega)
  unfold qmt
  rw [if_pos ⟨k0,k1,hks0⟩]
  simp only [← ha]
  refine ⟨by rw [q1];simp [hpk],{ nd:=?_,ln:=q2.ln,sn:=fun x=>?_,un:=Nat.le_trans q2.un ra.un }⟩
  ·have e1:=q2.nd
   show a.1++(qmt rec t.length r (z+a.1.length) a.2).2.1=_
   rw [List.map_append,← e1,← ra.nd]
  ·show (qmt rec t.length r (z+a.1.length) a.2).2.2.getD x true=false↔_
   rw [q2.sn x,ra.sn x,List.mem_append,not_or]
   constructor
   ·rintro ⟨⟨a1,a2⟩,a3⟩;exact ⟨a1,a2,a3⟩
   ·rintro ⟨a1,a2,a3⟩;exact ⟨⟨a1,a2⟩,a3⟩
theorem qt1 (h : qbp t = true) {pos : Int → Int} : ∀ (f i : Nat), i < t.length → ∀ (z : Nat) (s : List Bool), s.length = t.length → qld s ≤ f → (∀ x, Bel t.length (fun x => (qa6 t x).up) (qvz t (t.length + 1)) (i : Int) x → s.getD x.toNat true = false) →
      (∀ p (hp:p < (qes (qaq t) f i).length),pos (qes (qaq t) f i)[p]=(z:Int)+p)→PutR t pos s (qes (qaq t) f i) (qpy f t i (pos (qa6 t i).up) z s)
 | 0,i,hi,z,s,hs,hf,hu,hp=>by
  have h1:=hu i (qhv (by omega) (by omega))
  have:=qnb (s:=s) (by omega) (i:Int).toNat
  rw [this] at h1;cases h1
 | f+1,i,hi,z,s,hs,hf,hu,hp=>by
  have ht:=qe6 h
  have h1:=hu i (qhv (by omega) (by omega))
  simp only [Int.toNat_natCast] at h1
  have hus:=qke h1
  have hkk:(qa6 t i).kids=qaq t i:=by rw [qc3 hi,qdq hi]
  have hpi:pos (i:Int)=(z:Int):=by
   have:=hp 0 (by simp [qes])
   simpa [qes] using this
  have key:=qt3 h hi (pos:=pos) (f:=f) (rec:=fun k z' s'=>qpy f t k (z:Int) z' s') (fun k hk z' s' a b c d=>by
   obtain ⟨k0,k1,k2,_⟩:=qcq h hi hk
   have eN:((k.toNat:Nat):Int)=k:=by omega
   have:=qt1 h f k.toNat (by omega) z' s' a b (by rw [eN];exact c) d
   rw [eN,k2,hpi] at this
   exact this) (qa6 t i).kids (fun _ h=>h) (qqt fun k hk=>(qcq h hi hk).2.2.2.1) (z+1) (s.set i true) (by simpa using hs) (by omega) (fun k hk x hx=>by
   have hx0:=hx.1
   rw [zb6 (by omega)]
   have hb:=ze7 ht hi (by rw [← hkk];exact hk) hx
   refine ⟨hu x hb,fun e=>?_⟩
   have:x=(i:Int):=by omega
   subst this
   exact qwe ht hi (by rw [← hkk];exact hk) hx) (fun p hp1=>by
   have:=hp (p+1) (by simp only [qes,List.length_cons];rw [hkk] at hp1;omega)
   simp only [qes,List.getElem_cons_succ] at this
   simp only [hkk]
   rw [this];omega)
  obtain ⟨q1,q2⟩:=key
  unfold qpy
  simp only [Int.toNat_natCast]
  refine { nd:=?_,ln:=q2.ln,sn:=fun x=>?_,un:=?_ }
  ·simp only [qes,List.map_cons]
   have e2:=q2.nd
   rw [hkk] at e2 q1
   rw [← e2]
   congr 1
   ·unfold newN
    rw [hkk,← q1]
   ·rw [hkk]
  ·have:=q2.sn x
   simp only at this ⊢
   rw [this,zb6 (by omega),hkk]
   simp only [qes,List.mem_cons,not_or]
   constructor
   ·rintro ⟨⟨a1,a2⟩,a3⟩;exact ⟨a1,by omega,a3⟩
   ·rintro ⟨a1,a2,a3⟩;exact ⟨⟨a1,by omega⟩,a3⟩
  ·have:=q2.un
   simp only at this ⊢
   omega
theorem tidy_new (h:qbp t=true):qnd t=(qav t.length (qaq t)).map (newN t (atP (qav t.length (qaq t)))):=by
 have ht:=qe6 h
 have hn:=qg1 h
 have ho:=qkt ht hn
 have hnd:=qo0 (n:=t.length) (ks:=qaq t)
 have hm1:atP (qav t.length (qaq t)) (-1) = -1:=by
  have hc:=qii (p:=fun y=>decide (y=(-1:Int))) (qav t.length (qaq t)) 0
  rw [show qbk (fun y=>decide (y=(-1:Int))) (qav t.length (qaq t)) 0=atP (qav t.length (qaq t)) (-1) from rfl] at hc
  rcases hc with ⟨h1,_⟩ | ⟨q,hq,h1,h2,_⟩
  ·exact h1
  ·have:=qib (List.getElem_mem hq)
   simp at h2
   omega
 have key:=qt1 h (pos:=atP (qav t.length (qaq t))) t.length 0 hn 0 (List.replicate t.length false) (by simp) (by rw [qmr];exact Nat.le_refl _) (fun x hx=>by
  have h1:x.toNat < t.length:=by have:=hx.1;have:=hx.2.1;omega
  simp [List.getD_eq_getElem?_getD,h1]) (fun p hp=>by
  have hp2:p < (qav t.length (qaq t)).length:=by rw [ho];exact hp
  have:=at_nd hnd hp2
  simp only [ho] at this ⊢
  rw [this];omega)
 have e0:((0:Nat):Int)=0:=rfl
 rw [e0,(qnq h).1,hm1] at key
 rw [ho] at key ⊢
 exact key.nd
end
section
variable {t:Tr}
theorem ordF_iff {L:List Int}:qzf L 0=true↔∀ p (h:p < L.length),L[p]=(p:Int):=by
 unfold qzf
 rw [List.drop_zero,List.all_eq_true]
 constructor
 ·intro h p hp
  have:=h p (by simpa using hp)
  simpa [List.getD_eq_getElem?_getD,hp] using this
 ·intro h p hp
  have hp:p < L.length:=by simpa using hp
  simp [List.getD_eq_getElem?_getD,hp,h p hp]
theorem qx2 (h:qbp t=true) {i:Nat} (hi:i < t.length):(qa6 t i).up = -1∨(0≤(qa6 t i).up∧(qa6 t i).up < (t.length:Int)∧(i:Int)∈(qa6 t (qa6 t i).up).kids):=by
 have hok:=qr1 h hi
 simp only [qi3,Bool.and_eq_true,Bool.not_eq_true'] at hok
 by_cases h0:i=0
 ·subst h0;exact .inl (qnq h).1
 ·have h1:=hok.1
  simp only [za8,Bool.and_eq_false_iff,decide_eq_false_iff_not,Bool.or_eq_false_iff] at h1
  rcases h1 with h1 | ⟨_,_,h2,h3⟩
  ·omega
  ·by_cases hu:(qa6 t i).up = -1
   ·exact .inl hu
   ·have hb:=hok.2.1
    have hu0:(0:Int)≤(qa6 t i).up:=by omega
    simp only [badB,hu0,decide_true,Bool.true_and,Bool.or_eq_false_iff,decide_eq_false_iff_not] at hb
    have hb2:(qcn (qa6 t (qa6 t i).up).kids i:Int)=1:=Classical.byContradiction hb.2
    refine .inr ⟨hu0,by omega,?_⟩
    have:0 < (qa6 t (qa6 t i).up).kids.countP fun x=>decide (x=(i:Int)):=by
     have:qcn (qa6 t (qa6 t i).up).kids i=1:=by omega
     unfold qcn at this;omega
    obtain ⟨y,hy,he⟩:=List.countP_pos_iff.1 this
    have:=of_decide_eq_true he
    rwa [this] at hy
theorem at_none {L:List Int} {x:Int} (h:x ∉ L):atP L x = -1:=by
 have hc:=qii (p:=fun y=>decide (y=x)) L 0
 rw [show qbk (fun y=>decide (y=x)) L 0=atP L x from rfl] at hc
 rcases hc with ⟨h1,_⟩ | ⟨q,hq,h1,h2,_⟩
 ·exact h1
 ·simp at h2
  exact absurd (h2 ▸ List.getElem_mem hq) h
theorem tidy_iff (h:qbp t=true):t=qnd t↔(∀ p (hp:p < (qav t.length (qaq t)).length),(qav t.length (qaq t))[p]=(p:Int))∧(qav t.length (qaq t)).length=t.length:=by
 have ht:=qe6 h
 have hn:=qg1 h
 have hnd:=qo0 (n:=t.length) (ks:=qaq t)
 have hmem:=fun x=>qib (n:=t.length) (ks:=qaq t) (x:=x)
 have hsub:=qia ht hn
 have hlam:=qrc (ks:=qaq t) hn
 have ho:=qkt ht hn
 rw [tidy_new h]
 have h00:∀ (h0:0 < (qav t.length (qaq t)).length),(qav t.length (qaq t))[0]=0:=by
  rw [ho]
  obtain ⟨m,hm⟩ : ∃ m,t.length=m+1:=⟨t.length - 1,by omega⟩
  rw [hm]
  intro h0
  simp [qes]
 obtain ⟨O,hO⟩ : ∃ O,O=qav t.length (qaq t):=⟨_,rfl⟩
 rw [← hO] at hnd hmem hsub hlam h00 ⊢
 clear ho
 have hpos:∀ p (hp:p < O.length),atP O O[p]=(p:Int):=fun p hp=>at_nd hnd hp
 have hm1:atP O (-1) = -1:=at_none fun hx=>by have:=hmem _ hx;omega
 constructor
 ·intro he
  have hl:O.length=t.length:=by have:=congrArg List.length he;simpa using this.symm
  refine ⟨fun p=>?_,hl⟩
  induction p using Nat.strongRecOn with
  | ind p ih=>
   intro hp
   by_cases hp0:p=0
   ·subst hp0;exact h00 hp
   ·obtain ⟨b,hb⟩ : ∃ b,b=O[p]:=⟨_,rfl⟩
    have hbm:b∈O:=by rw [hb];exact List.getElem_mem hp
    have hb0:b≠0:=fun e=>by
     have h1:=h00 (by omega)
     have:=List.pairwise_iff_getElem.1 hnd 0 p (by omega) hp (by omega)
     rw [h1,← hb,e] at this
     exact this rfl
    obtain ⟨u1,u2,_⟩:=hsub.up b hbm hb0
    obtain ⟨q,hq,hqe⟩:=List.getElem_of_mem u1
    have hqp:q < p:=by
     rcases Nat.lt_trichotomy q p with hlt | hlt | hlt
     ·exact hlt
     ·subst hlt
      rw [← hb] at hqe
      rw [← hqe] at u2
      unfold qka at u2;omega
     ·have:=List.pairwise_iff_getElem.1 hlam.srt p q hp hq hlt
      rw [hqe,← hb] at this
      unfold qka at u2;omega
    have hqq:=ih q hqp hq
    obtain ⟨b1,b2⟩:=hmem b hbm
    have hbN:((b.toNat:Nat):Int)=b:=by omega
    rcases qx2 h (i:=b.toNat) (by omega) with hx | ⟨x0,x1,x2⟩
    ·rw [hbN] at hx
     have:=hmem _ u1
     omega
    ·rw [hbN] at x0 x1 x2
     rw [hqe] at hqq
     rw [hqq] at x2
     obtain ⟨j,hj,hje⟩:=List.getElem_of_mem x2
     have hqt:q < t.length:=by omega
     have e1:qa6 t (q:Int)=newN t (atP O) (q:Int):=by
      have e2:t[q]? = (O.map (newN t (atP O)))[q]?:=by rw [← he]
      rw [List.getElem?_eq_getElem hqt,List.getElem?_map,List.getElem?_eq_getElem hq] at e2
      simp only [Option.map_some,sj] at e2
      rw [qc3 hqt,e2,hqe,hqq]
     have e3:(qa6 t (q:Int)).kids=(qa6 t (q:Int)).kids.map (atP O):=by
      have:=congrArg Nd.kids e1
      exact this
     have e4:(qa6 t (q:Int)).kids[j]? = ((qa6 t (q:Int)).kids.map (atP O))[j]?:=by rw [← e3]
     rw [List.getElem?_eq_getElem hj,List.getElem?_map,List.getElem?_eq_getElem hj] at e4
     simp only [Option.map_some,sj] at e4
     rw [hje] at e4
     rw [← hb,e4,hb]
     exact hpos p hp
 ·rintro ⟨h1,h2⟩
  have hid:∀ x:Int,0≤x→x < (t.length:Int)→atP O x=x:=fun x x0 x1=>by
   have hp:x.toNat < O.length:=by omega
   have:=hpos x.toNat hp
   rw [h1 x.toNat hp] at this
   have e:((x.toNat:Nat):Int)=x:=by omega
   rwa [e] at this
  refine List.ext_getElem (by simp [h2]) fun p hp hp2=>?_
  rw [List.getElem_map,h1 p (by omega)]
  unfold newN
  have e1:atP O (qa6 t (p:Int)).up=(qa6 t (p:Int)).up:=by
   rcases qx2 h hp with hu | ⟨u0,u1,_⟩
   ·rw [hu];exact hm1
   ·exact hid _ u0 u1
  have e2:(qa6 t (p:Int)).kids.map (atP O)=(qa6 t (p:Int)).kids:=by
   have:(qa6 t (p:Int)).kids.map (atP O)=(qa6 t (p:Int)).kids.map id:=List.map_congr_left fun k hk=>by
    obtain ⟨k0,k1,_⟩:=qcq h hp hk
    exact hid k k0 k1
   rw [this,List.map_id]
  rw [e1,e2,← qc3 hp]
theorem ze8:∀ (f:Nat) (i x:Int),x∈qes (qaq t) f i.toNat→0≤i→i < (t.length:Int)→qbp t=true→x=i∨zea t f i x
 | 0,i,x,hx,_,_,_=>by simp [qes] at hx
 | f+1,i,x,hx,i0,i1,h=>by
  have eN:((i.toNat:Nat):Int)=i:=by omega
  simp only [qes,List.mem_cons,List.mem_flatMap] at hx
  rcases hx with rfl | ⟨k,hk,hx⟩
  ·exact .inl eN
  ·have hk':k∈(qa6 t i).kids:=by
    have:=qdq (t:=t) (i:=i.toNat) (by omega)
    rw [← this,← qc3 (by omega),eN] at hk
    exact hk
   have hkd:=qcq h (i:=i.toNat) (by omega) (by rw [eN];exact hk')
   exact .inr ⟨k,hk',ze8 f k x hx hkd.1 hkd.2.1 h⟩
theorem qs4:∀ (f:Nat) (i x:Int),zea t f i x→zea t (f+1) i x
 | 0,i,x,h=>absurd h (fun h=>h)
 | f+1,i,x,⟨k,hk,hx⟩=>⟨k,hk,by
  rcases hx with hx | hx
  ·exact .inl hx
  ·exact .inr (qs4 f k x hx)⟩
theorem qup (h:qbp t=true):∀ (f i:Nat),i < t.length→(i:Int)∈qav t.length (qaq t)→∀ x,zea t f i x→x∈qav t.length (qaq t)∧x≠0
 | 0,i,_,_,x,hx=>absurd hx (fun h=>h)
 | f+1,i,hi,ho,x,⟨k,hk,hx⟩=>by
  have hko:=qoi h hi ho hk
  rcases hx with rfl | hx
  ·exact hko
  ·obtain ⟨k0,k1,_⟩:=qcq h hi hk
   have eN:((k.toNat:Nat):Int)=k:=by omega
   exact qup h f k.toNat (by omega) (by rw [eN];exact hko.1) x (by rw [eN];exact hx)
theorem qxv (h:qbp t=true) (ho:∀ p (hp:p < (qav t.length (qaq t)).length),(qav t.length (qaq t))[p]=(p:Int)) (hl:(qav t.length (qaq t)).length=t.length):qig (t.length+2) t [] 0=qku t 1:=by
 have hn:=qg1 h
 have ht:=qe6 h
 have h0:=qze ht hn
 have hfit:=qvt h (t.length+2) 0 hn (by omega)
 have key:=qxu h (t.length+2) 0 hn h0 hfit
 have e0:((0:Nat):Int)=0:=rfl
 rw [e0,PN_root h] at key
 rw [Bool.eq_iff_iff,key]
 unfold qku
 rw [List.all_eq_true]
 constructor
 ·intro hx j hj
  obtain ⟨q,hq,hqe⟩:=List.getElem_of_mem hj
  simp only [List.length_drop,List.length_range] at hq
  simp only [List.getElem_drop,List.getElem_range] at hqe
  subst hqe
  have hm:((1+q:Nat):Int)∈qav t.length (qaq t):=by
   rw [← ho (1+q) (by omega)]
   exact List.getElem_mem _
  rw [qkt ht hn] at hm
  rcases ze8 t.length 0 _ hm (by omega) (by omega) h with hb | hb
  ·omega
  ·have:=hx _ (qs4 _ _ _ (qs4 _ _ _ hb))
   rwa [Int.toNat_natCast] at this
 ·intro hx x hb
  obtain ⟨m1,m2⟩:=qup h _ 0 hn h0 x hb
  obtain ⟨x0,x1⟩:=qib m1
  have:=hx x.toNat (by
   have hq:x.toNat - 1 < ((List.range t.length).drop 1).length:=by simp;omega
   have:((List.range t.length).drop 1)[x.toNat - 1]=x.toNat:=by simp;omega
   rw [← this]
   exact List.getElem_mem _)
  exact this
theorem zam (t:Tr):qp5 t=qsg t:=by
 unfold qp5 qsg
 cases h:qbp t with
 | false=>rfl
 | true=>
  simp only [Bool.true_and]
  have hi:=tidy_iff h
  rw [Bool.eq_iff_iff]
  simp only [Bool.and_eq_true,decide_eq_true_eq,ordF_iff,hi,qd1,rootB]
  constructor
  ·rintro ⟨⟨⟨a,b⟩,c⟩,d,e,f,g⟩
   rw [qxv h e f] at g
   exact ⟨⟨e,f⟩,⟨a,b,d,c⟩,g⟩
  ·rintro ⟨⟨e,f⟩,⟨a,b,d,c⟩,g⟩
   rw [← qxv h e f] at g
   exact ⟨⟨⟨a,b⟩,c⟩,d,e,f,g⟩
end
end Go.Proofs.YtgpjifeeneeiaaaGreatDoor
namespace Go.Proofs.YtgpjifeeneeiaaaGreatDoor
set_option linter.unusedSimpArgs false
set_option linter.unusedVariables false
open Go Go.RowKit
set_option maxRecDepth 100000
theorem few_okN {t:Tr} {m:Int} (h:qoq t m=true):∀ n,n∈t→okN n:=by
 simp only [qoq,Bool.and_eq_true,decide_eq_true_eq,List.all_eq_true] at h
 intro n hn
 have:=h.2 n hn
 simp only [qpe,qjm,Bool.and_eq_true,decide_eq_true_eq,List.all_eq_true] at this
 refine ⟨by omega,by omega,by omega,fun a ha=>?_⟩
 have ha:=this.2.2.2.2 a ha
 simp only [qpf,decide_eq_true_eq] at ha
 omega
structure L28 (T:List (Entry Tryz.prog)):Prop where
 hP:qag 5 T=some e5.g
 hW:qag 6 T=some e6.g
 hS:qag 7 T=some e7.g
 hD:qag 8 T=some e8.g
theorem c3 {T:List (Entry Tryz.prog)} (hT:L28 T) (t:Tr):CallAt (ctx T) 3 [qam t] ⟨0,[]⟩ (.bool true) ⟨0,[]⟩:=by
 have k0:=fun H=>k5 hT.hP t (m:=40) (by omega) H
 have k1:=fun H=>k6 hT.hW H
 cases q:qoq t 40 with
 | false=>
  rw [q] at k0
  simp only [qam] at k0
  refine qa3 (fn:=Tryz.f3) (s0:=⟨[0,1,2],[qam t,.undef,.undef],[],15,⟨0,[[]]⟩⟩) Tryz.func3 rfl rfl rfl ?_
  (repeat' (first
   | with_reducible refine qah ?_
   | (with_reducible refine qa0 qa1 ?_;apply qbn;simp [zS, *,qam];exact rfl)
   | (with_reducible refine qas ?_;simp only [qaa,qa2])
   | (refine qai rfl ?_)
   | (with_reducible refine qa8 ?_;simp [qab,Tryz.f3,oneOr,qaa,qa2])))
  all_goals first | exact qa4 rfl (by rfl) | (exfalso;omega)
 | true=>
  have hs:=zdb (by omega) q
  have hn:=few_okN q
  have k2:=fun H=>k7 hT.hS t hs hn H
  have k3:=fun H=>k8 hT.hD t hs.2 hn H
  rw [q] at k0
  simp only [zam] at k2
  generalize qsg t=b at *
  simp only [qam] at k0 k2 k3
  refine qa3 (fn:=Tryz.f3) (s0:=⟨[0,1,2],[qam t,.undef,.undef],[],15,⟨0,[[]]⟩⟩) Tryz.func3 rfl rfl rfl ?_
  repeat apply wq
  refine qa0 qa1 ?_
  simp [zS,qam]
  repeat apply wq
  refine qa0 qa1 ?_
  simp [zS,k0]
  refine qal rfl ?_
  refine qa7 ?_
  simp
  cases b with
  | true=>
   repeat apply wq
   refine qcm qci qa1 (by decide +kernel) fun B_ hB_=>?_
   have d_0_1:ahead B_ 0 1=true:=by rw [hB_];decide +kernel
   have d_0_3:ahead B_ 0 3=true:=by rw [hB_];decide +kernel
   have d_0_6:ahead B_ 0 6=true:=by rw [hB_];decide +kernel
   have d_1_0:ahead B_ 1 0=false:=by rw [hB_];decide +kernel
   have d_1_2:ahead B_ 1 2=false:=by rw [hB_];decide +kernel
   have d_2_1:ahead B_ 2 1=false:=by rw [hB_];decide +kernel
   have d_2_3:ahead B_ 2 3=true:=by rw [hB_];decide +kernel
   have d_2_6:ahead B_ 2 6=true:=by rw [hB_];decide +kernel
   have d_3_0:ahead B_ 3 0=false:=by rw [hB_];decide +kernel
   have d_3_2:ahead B_ 3 2=false:=by rw [hB_];decide +kernel
   have d_6_0:ahead B_ 6 0=false:=by rw [hB_];decide +kernel
   have d_6_2:ahead B_ 6 2=false:=by rw [hB_];decide +kernel
   apply qlt B_
   simp [zS,qdg,qbz,qby,qbr,qaw,qb4,qb3,Heap.lay,qdp,qlr,qlq,qh1,qh0,qgv,qgy,qhg,qh5,qf8,qf9,qhb,qha,qh8,qh9,qhe,qhf,qhd,qhc,d_0_1,d_0_3,d_0_6,d_1_0,d_1_2,d_2_1,d_2_3,d_2_6,d_3_0,d_3_2,d_6_0,d_6_2,k1,k2,k3]
   exact rfl
   refine ⟨_,rfl,?_,?_⟩
   simp [zS,qbr,qaw,qch,qcp,qdz,d_0_1,d_0_3,d_0_6,d_1_0,d_1_2,d_2_1,d_2_3,d_2_6,d_3_0,d_3_2,d_6_0,d_6_2,k1,k2,k3]
   simp [qcb,Heap.lay,qdp,qaa]
   refine qa8 ?_
   simp [qab,Tryz.f3,oneOr,qaa,qa2]
   exact qa4 rfl (by rfl)
  | false=>
   repeat apply wq
   refine qcm qci qa1 (by decide +kernel) fun B_ hB_=>?_
   have d_0_1:ahead B_ 0 1=true:=by rw [hB_];decide +kernel
   have d_0_3:ahead B_ 0 3=true:=by rw [hB_];decide +kernel
   have d_0_6:ahead B_ 0 6=true:=by rw [hB_];decide +kernel
   have d_1_0:ahead B_ 1 0=false:=by rw [hB_];decide +kernel
   have d_1_2:ahead B_ 1 2=false:=by rw [hB_];decide +kernel
   have d_2_1:ahead B_ 2 1=false:=by rw [hB_];decide +kernel
   have d_2_3:ahead B_ 2 3=true:=by rw [hB_];decide +kernel
   have d_2_6:ahead B_ 2 6=true:=by rw [hB_];decide +kernel
   have d_3_0:ahead B_ 3 0=false:=by rw [hB_];decide +kernel
   have d_3_2:ahead B_ 3 2=false:=by rw [hB_];decide +kernel
   have d_6_0:ahead B_ 6 0=false:=by rw [hB_];decide +kernel
   have d_6_2:ahead B_ 6 2=false:=by rw [hB_];decide +kernel
   apply qlt B_
   simp [zS,qdg,qbz,qby,qbr,qaw,qb4,qb3,Heap.lay,qdp,qlr,qlq,qh1,qh0,qgv,qgy,qhg,qh5,qf8,qf9,qhb,qha,qh8,qh9,qhe,qhf,qhd,qhc,d_0_1,d_0_3,d_0_6,d_1_0,d_1_2,d_2_1,d_2_3,d_2_6,d_3_0,d_3_2,d_6_0,d_6_2,k1,k2,k3]
   exact rfl
   refine ⟨_,rfl,?_,?_⟩
   simp [zS,qbr,qaw,qch,qcp,qdz,d_0_1,d_0_3,d_0_6,d_1_0,d_1_2,d_2_1,d_2_3,d_2_6,d_3_0,d_3_2,d_6_0,d_6_2,k1,k2,k3]
   simp [qcb,Heap.lay,qdp,qaa]
   refine qa8 ?_
   simp [qab,Tryz.f3,oneOr,qaa,qa2]
   exact qa4 rfl (by rfl)
end Go.Proofs.YtgpjifeeneeiaaaGreatDoor
namespace Go.Proofs.YtgpjifeeneeiaaaGreatDoor
set_option linter.unusedSimpArgs false
set_option linter.unusedVariables false
open Go Go.RowKit Go.ChangeShapes Go.WideShapes Go.ChangeAt
set_option maxRecDepth 100000
theorem own_:ownKnob Tryz.prog.godebug=none:=by kernel_rfl
theorem laid_:laidOutB Tryz.prog=true:=by kernel_rfl
abbrev qvh : List (String × DataW Unit) := [("unicode/utf8.acceptRanges", Rows.laid_unicode_utf8_acceptRanges), ("unicode/utf8.first", Rows.laid_unicode_utf8_first)]
theorem qzs:(Rows.laid_unicode_utf8_first:DataW Unit)=Lib.tabData .u8 qmq:=by kernel_rfl
theorem qwg:(Rows.laid_unicode_utf8_acceptRanges:DataW Unit)=.agg ((List.range 16).map fun i=>.agg ([utfAcc.getD (2 * i) 0,utfAcc.getD (2 * i+1) 0].map fun z=>.lit (.int .u8 z))):=by kernel_rfl
theorem acc_len:utfAcc.length=32:=by decide +kernel
theorem gFirst : Tryz.prog.globalNamed "unicode/utf8.first" = some (1) := by kernel_rfl
theorem gAcc : Tryz.prog.globalNamed "unicode/utf8.acceptRanges" = some (2) := by kernel_rfl
theorem tFirst:(Tryz.prog.globals[1]?).map (·.type)=some 130:=by kernel_rfl
theorem tAcc:(Tryz.prog.globals[2]?).map (·.type)=some 133:=by kernel_rfl
theorem qry:Tryz.prog.cellsOf 5=1:=by kernel_rfl
theorem zdv:Tryz.prog.cellsOf 130=256:=by kernel_rfl
theorem quj:Tryz.prog.cellsOf 132=2:=by kernel_rfl
theorem pins_met {W:World} (hL:laidMetH Tryz.prog qvh W):∀ x,x∈pins→∀ i n,x.2[i]? = some n→W.cell? ⟨x.1,i,none⟩=some (.int .u8 n):=by
 rw [MakeChecks.laidMetH_plain _ _ _ (by kernel_rfl)] at hL
 have r1 := Lib.laidMet.reads hL (n := "unicode/utf8.first") (d := Rows.laid_unicode_utf8_first) (by simp)
 have r2 := Lib.laidMet.reads hL (n := "unicode/utf8.acceptRanges") (d := Rows.laid_unicode_utf8_acceptRanges) (by simp)
 rw [qzs] at r1
 rw [qwg] at r2
 intro x hx i n hn
 simp only [pins,List.mem_cons,List.not_mem_nil,or_false] at hx
 rcases hx with rfl | rfl
 ·obtain ⟨g,t,cs,fuel,p,hg,hty,hvar,hd⟩:=r1
  obtain rfl:=Option.some.inj (gFirst.symm.trans hg)
  obtain rfl:=Option.some.inj (tFirst.symm.trans hty)
  have hcs:=Lib.cells_of_tab Tryz.underlying130 Tryz.underlying5 qry zdv hd
  rw [World.var?_cell hg hvar i,← Array.getElem?_toList,hcs,List.getElem?_map,hn]
  rfl
 ·obtain ⟨g,t,cs,fuel,p,hg,hty,hvar,hd⟩:=r2
  obtain rfl:=Option.some.inj (gAcc.symm.trans hg)
  obtain rfl:=Option.some.inj (tAcc.symm.trans hty)
  have hi:i < 32:=by
   have:=(List.getElem?_eq_some_iff.1 hn).1
   rw [acc_len] at this;exact this
  obtain ⟨fuel',d,q,hdi,he⟩:=Lib.array_elem Tryz.underlying133 hd (i / 2) (by omega)
  simp only [List.getElem?_map,List.getElem?_range (show i / 2 < 16 by omega),Option.map_some,sj] at hdi
  subst hdi
  rw [quj] at he
  have hcs:=Lib.ints_of_struct Tryz.underlying132 (fun j f hj=>by
   match j,hj with
   | 0,hj=>simp at hj;subst hj;exact ⟨Tryz.underlying5,rfl,qry⟩
   | 1,hj=>simp at hj;subst hj;exact ⟨Tryz.underlying5,rfl,qry⟩
   | j+2,hj=>simp at hj) (by rw [quj];rfl) he
  have hn':utfAcc.getD i 0=n:=by simp [List.getD_eq_getElem?_getD,hn]
  rw [World.var?_cell hg hvar i,← Array.getElem?_toList]
  rcases Nat.mod_two_eq_zero_or_one i with h2 | h2
  ·have e0:=congrArg (·[0]?) hcs
   simp only [List.getElem?_take,List.getElem?_drop] at e0
   have hidx:i / 2 * 2+0=i:=by omega
   have hidx2:2 * (i / 2)=i:=by omega
   rw [hidx] at e0
   simpa [hidx2,hn',← List.getD_eq_getElem?_getD] using e0
  ·have e1:=congrArg (·[1]?) hcs
   simp only [List.getElem?_take,List.getElem?_drop] at e1
   have hidx:i / 2 * 2+1=i:=by omega
   have hidx2:2 * (i / 2)+1=i:=by omega
   rw [hidx] at e1
   simpa [hidx2,hn',← List.getD_eq_getElem?_getD] using e1
theorem hgs {W:World} (hsh:W.ShapedOpen Tryz.prog) (hL:laidMetH Tryz.prog qvh W):GlobsIn W where
 gl:=by
  intro g h
  simp [globs] at h
  subst h
  exact cell_of_shapedOpen_int (P:=Tryz.prog) (g:=0) (t:=3) (zero:=#[.int .i64 0]) hsh (of_decide_eq_true (by kernel_rfl)) (by kernel_rfl) rfl (by kernel_rfl) (by kernel_rfl) Tryz.underlying3
 gi:=by
  intro g h
  simp [ivars] at h
 gp:=pins_met hL
 gx:=by
  intro x h
  simp [tabs] at h
noncomputable def doorW (os:Os):World:=
 let w0:=World.doorLaid Tryz.prog 4000 os
 { w0 with heap:=w0.heap.modify 1 fun
  | .cells _ t frozen=>.cells (Lib.firstTab.map fun z=>Value.int .u8 z).toArray t frozen
  | o=>o }
theorem door_met (os:Os) (args:Array Value):laidMetH Tryz.prog qvh ((doorW os).forCall (fun _ _=>0) ⟨#[],args,[]⟩).memory:=
 laidMetH_of_parts3 (fuel:=8) (laidMet_of_run' 8 (by kernel_rfl) (by kernel_rfl)) (by kernel_rfl) (by kernel_rfl)
theorem qvy (os:Os) (args:Array Value):((doorW os).forCall (fun _ _=>0) ⟨#[],args,[]⟩).Shaped Tryz.prog:=World.shaped_of_RefB (by kernel_rfl) (by kernel_rfl)
theorem qko {H:Type} {enc:TypeId × Value→H} {a:Assume} {C:Checked} {os:Os} {f:FuncId} {fn:Func} {s:ChangeSpec} {conds:List PathCond} {apart fresh handsOn again:Bool} {X:World→Array Value→Prop}
  (hX:∀ (w w':World) (args:Array Value),w.heap=w'.heap→X w args→X w' args)
  (own:ownKnob C.prog.godebug=none) (started:os.Started) (noInit:C.prog.inits.idxOf? f=none) (hfn:C.prog.funcs[f]? = some fn)
  (witness:∃ (w:World) (tape:Tape) (i:Input),w.os=os∧(w.forCall tape i).Shaped C.prog∧i.vars=[]∧Input.okWide C.prog (w.forCall tape i) .any w.heap.size f i ∧
   ((s.pre enc C.prog fn conds apart (w.forCall tape i).memory i.args∧X (w.forCall tape i).memory i.args)∧sizedMet enc C.prog fn (OpenSpec.ofChange s) apart (w.forCall tape i).memory i.args)∧a.holds C.prog (lone (Frame.enter C.prog f i.args .normal) [] (w.forCall tape i)))
  (contract:∀ (W:World) (base:Nat) (args:Array Value) (ds gs:List (DataW H)) (before:List MemPlace),
   (∀ (j:Nat) t v,fn.params[j]? = some t→args[j]? = some v→Value.okWide C.prog W .any base t v) →
   DataW.Whole enc C.prog fn.params.toList s.vars apart W args.toList ds gs before→W.ShapedOpen C.prog→X W args →
   Calls C.prog f args W fun e W'=>∃ v,e=.returned v∧s.post enc C.prog fn apart fresh handsOn again W args v W') :
  ReturnsInHanded a C os f .any (fun w args=>(s.pre enc C.prog fn conds apart w args∧X w args)∧sizedMet enc C.prog fn (OpenSpec.ofChange s) apart w args) (s.post enc C.prog fn apart fresh handsOn again):=by
 refine returnsInHanded_of_calls own started noInit witness ?_
 intro w tape i _ hsh _ hok hpre hholds
 obtain ⟨_,_,_,fn',hfn',_,_,_,_,hval⟩:=hok
 have e:fn'=fn:=Option.some.inj (hfn'.symm.trans hfn)
 subst e
 obtain ⟨⟨⟨ds,gs,before,hw,hc⟩,hx⟩,hz⟩:=hpre
 have hw':=DataW.Whole.of_heap (w':=w.forCall tape i) (by rfl) hw
 refine (contract (w.forCall tape i) w.heap.size i.args ds gs before hval hw' hsh (hX _ _ _ (by rfl) hx)).mono fun e W' ⟨v,he,hp⟩=>?_
 subst he
 exact ChangeSpec.post_blind hp
end Go.Proofs.YtgpjifeeneeiaaaGreatDoor