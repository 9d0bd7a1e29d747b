/- ref28.one: may a node be where it is? No condition. -/
import Derived.Test.YtocnpnnplllneaaGreatDoorMJ
import Derived.Test.YtocnpnnplllneaaGreatDoorMH
import Derived.Test.YtocnpnnplllneaaGreatDoorMI
import Derived.Test.YtocnpnnplllneaaGreatDoorMK
import Derived.Test.YtocnpnnplllneaaGreatDoorMP
namespace Go.Proofs.YtocnpnnplllneaaGreatDoor
noncomputable section
set_option linter.unusedSimpArgs false
set_option linter.unusedVariables false
open Go Go.RowKit
theorem CallAt.post {C:Ctx} {f:FuncId} {args:List AV} {v v':AV} {H H1 H':Heap} {σ:List (Nat × Nat)} {Φ:List (Nat × List AV)} (h:CallAt C f args H v H1) (fv:qar σ Φ v v') (fh:FitH H.n σ Φ H1 H'):CallAt C f args H v' H':=by
 intro ρ w xs sm hx
 have dn:∀ {x:Value} {ρ':Place} {w':World},VR ρ' v x→Sim ρ' H1 w'→Step ρ H w ρ' H1 w'→∃ ρ'',VR ρ'' v' x∧Sim ρ'' H' w'∧Step ρ H w ρ'' H' w':=fun {x ρ' w'} h1 h2 h3=>by
  have at_low:∀ b,b < H.n→(qdn H.n σ Φ ρ' w' h2.below) b=ρ b:=fun b hb=>by
   show (if b < H.n then ρ' b else _)=_
   rw [if_pos hb];exact h3.low b hb
  refine ⟨qdn H.n σ Φ ρ' w' h2.below,Fits.run (fh.fits h2) h2 _ (Nat.le_refl _) h1 fv,fh.sim h2 h3.num,⟨⟨fun b l hb=>?_,fun k hk=>?_,?_,?_,?_⟩,h3.size,h3.keeps,fun e he l hl=>?_,fh.num,at_low,fun k hk=>?_⟩⟩
  ·have hlt:b < H.n:=by
    rcases Nat.lt_or_ge b H.n with hq | hq
    ·exact hq
    ·rw [sm.dom b hq] at hb;cases hb
   rw [at_low b hlt];exact hb
  ·obtain ⟨g1,g2⟩:=h3.le.fz k hk
   exact ⟨.inl g1,(h2.below k g1).trans g2⟩
  ·exact h2.os.trans h3.le.os
  ·exact h2.tape.trans h3.le.tape
  ·exact h2.output.trans h3.le.output
  ·obtain ⟨c,k,g1,g2,_⟩:=fh.src e he
   rw [qdy fh g1] at hl
   exact h3.rows _ (Heap.get_mem g2) l hl
  ·rcases hk with hk | ⟨b,cs,l,m1,m2,rfl⟩
   ·exact h3.cold k hk
   ·obtain ⟨cs0,g1,_⟩:=fh.frz _ m1
    rcases h3.rows _ (Heap.get_mem g1) l m2 with ⟨e,he,l0,q1,q2⟩ | hge
    ·exact .inr (.inl ⟨e,he,l0,q1,q2⟩)
    ·exact .inr (.inr hge)
 rcases h ρ w xs sm hx with ⟨x,ρ',w',h0,h1,h2,h3⟩ | ⟨g,ys,h0,h1⟩
 ·obtain ⟨ρ'',k1,k2,k3⟩:=dn h1 h2 h3
  exact .inl ⟨x,ρ'',w',h0,k1,k2,k3⟩
 ·refine .inr ⟨g,ys,h0,h1.mono ?_⟩
  rintro e w' ⟨x,ρ',rfl,m1,m2,m3⟩
  obtain ⟨ρ'',k1,k2,k3⟩:=dn m1 m2 m3
  exact ⟨x,ρ'',rfl,k1,k2,k3⟩
end
end Go.Proofs.YtocnpnnplllneaaGreatDoor
namespace Go.Proofs.YtocnpnnplllneaaGreatDoor
set_option linter.unusedSimpArgs false
set_option linter.unusedVariables false
open Go Go.RowKit
set_option maxRecDepth 100000
theorem qkn {α:Type} {p:α→Bool}:∀ (L:List α) (k:Nat),(qbg p L k = -1∧∀ a,a∈L→p a=false)∨∃ i,∃ h:i < L.length,qbg p L k=(k+i:Nat)∧p L[i]=true∧∀ a,a∈L.take i→p a=false
 | [],k=>.inl ⟨rfl,fun a ha=>by cases ha⟩
 | x::r,k=>by
  by_cases hx:p x=true
  ·exact .inr ⟨0,by simp,by simp [qbg,hx],by simpa using hx,fun a ha=>by simp at ha⟩
  ·simp only [Bool.not_eq_true] at hx
   rcases qkn r (k+1) with ⟨h1,h2⟩ | ⟨i,h,h1,h2,h3⟩
   ·refine .inl ⟨by rw [qbg,if_neg (by simp [hx]),h1],fun a ha=>?_⟩
    rcases List.mem_cons.1 ha with rfl | ha
    ·exact hx
    ·exact h2 a ha
   ·refine .inr ⟨i+1,by simpa using h,by simp [qbg,hx,h1];omega,by simpa using h2,fun a ha=>?_⟩
    rw [List.take_succ_cons] at ha
    rcases List.mem_cons.1 ha with rfl | ha
    ·exact hx
    ·exact h3 a ha
structure DelOk (L:List Int) (p:Int→Bool) (i j:Nat) (R:List Int):Prop where
 ij:i < j
 jn:j≤L.length
 len:R.length=L.length
 fr:R.take i=(L.take j).filter fun a=>!p a
 bk:R.drop j=L.drop j
theorem DelOk.keep {L R:List Int} {p:Int→Bool} {i j:Nat} (h:DelOk L p i j R) (hj:j < L.length) (hp:p L[j]=false):DelOk L p (i+1) (j+1) (R.set i L[j]):=by
 have hR:j < R.length:=by rw [h.len];exact hj
 have hij:=h.ij
 refine ⟨by omega,by omega,by simp [h.len],?_,?_⟩
 ·rw [List.take_succ_eq_append_getElem hj,List.filter_append,← h.fr,List.take_succ_eq_append_getElem (by simp;omega)]
  simp [hp,List.take_set_of_le]
 ·rw [List.drop_set_of_lt (by omega)]
  have:=h.bk
  rw [List.drop_eq_getElem_cons hR,List.drop_eq_getElem_cons hj] at this
  exact (List.cons.inj this).2
theorem DelOk.pass {L R:List Int} {p:Int→Bool} {i j:Nat} (h:DelOk L p i j R) (hj:j < L.length) (hp:p L[j]=true):DelOk L p i (j+1) R:=by
 have hR:j < R.length:=by rw [h.len];exact hj
 have hij:=h.ij
 refine ⟨by omega,by omega,h.len,?_,?_⟩
 ·rw [List.take_succ_eq_append_getElem hj,List.filter_append,← h.fr]
  simp [hp]
 ·have:=h.bk
  rw [List.drop_eq_getElem_cons hR,List.drop_eq_getElem_cons hj] at this
  exact (List.cons.inj this).2
theorem DelOk.start {L:List Int} {p:Int→Bool} {i:Nat} (hi:i < L.length) (hp:p L[i]=true) (hb:∀ a,a∈L.take i→p a=false):DelOk L p i (i+1) L:=by
 refine ⟨by omega,by omega,rfl,?_,rfl⟩
 rw [List.take_succ_eq_append_getElem hi,List.filter_append]
 have:(L.take i).filter (fun a=>!p a)=L.take i:=List.filter_eq_self.2 fun a ha=>by simp [hb a ha]
 simp [this,hp]
@[simp] theorem szT157:qbw Tryz.prog 157=some 1:=rfl
@[simp] theorem agT157:qgd Tryz.prog 157=some false:=rfl
@[simp] theorem byT157:qc6 Tryz.prog 157=some 8:=rfl
@[simp] theorem alT157 (H:Heap):alV Tryz.prog H 157=some (.ptr H.n 0,H.new (.cells [.nilF])):=rfl
@[simp] theorem zeT157:qbn Tryz.prog 157=some (.nilF):=rfl
attribute [simp] Tryz.underlying157
@[simp 500] theorem rvF157 (H:Heap) (cs:List AV) (o:Nat):qaq Tryz.prog H 157 (.fptr cs o)=qc7 cs o:=rfl
@[simp 500] theorem rvP157 (H:Heap) (b o:Nat):qaq Tryz.prog H 157 (.ptr b o)=(H.get b).bind fun k=>k.rd.bind fun cs=>qc7 cs o:=rfl
def atP (L:List Int) (i:Int):Int:=qbg (fun k=>decide (k=i)) L 0
structure okT (t:Tr):Prop where
 ok:zay t
 nd:∀ n,n∈t→okN n
 kd:∀ n,n∈t→∀ k,k∈n.kids→0≤k∧k < (t.length:Int)
theorem okT.at_ {t:Tr} (h:okT t) {i:Int} (h0:0≤i) (h1:i < (t.length:Int)):okN (qa3 t i):=h.nd _ (qb3 h0 h1)
end Go.Proofs.YtocnpnnplllneaaGreatDoor