/- steady: the kids of a node may be where they are: a walk that calls itself. No condition. -/
import Derived.Test.YtgpjifeeneeiaaaGreatDoorMI
import Derived.Test.YtgpjifeeneeiaaaGreatDoorMH
import Derived.Test.YtgpjifeeneeiaaaGreatDoorMK
import Derived.Test.YtgpjifeeneeiaaaGreatDoorMR
import Derived.Test.YtgpjifeeneeiaaaGreatDoorMG
import Derived.Test.YtgpjifeeneeiaaaGreatDoorMJ
namespace Go.Proofs.YtgpjifeeneeiaaaGreatDoor
set_option linter.unusedSimpArgs false
set_option linter.unusedVariables false
open Go Go.RowKit
set_option maxRecDepth 100000
theorem qii {α:Type} {p:α→Bool}:∀ (L:List α) (k:Nat),(qbk p L k = -1∧∀ a,a∈L→p a=false)∨∃ i,∃ h:i < L.length,qbk p L k=(k+i:Nat)∧p L[i]=true∧∀ a,a∈L.take i→p a=false
 | [],k=>.inl ⟨rfl,fun a ha=>by cases ha⟩
 | x::r,k=>by
  by_cases hx:p x=true
  ·exact .inr ⟨0,by simp,by simp [qbk,hx],by simpa using hx,fun a ha=>by simp at ha⟩
  ·simp only [Bool.not_eq_true] at hx
   rcases qii r (k+1) with ⟨h1,h2⟩ | ⟨i,h,h1,h2,h3⟩
   ·refine .inl ⟨by rw [qbk,if_neg (by simp [hx]),h1],fun a ha=>?_⟩
    rcases List.mem_cons.1 ha with rfl | ha
    ·exact hx
    ·exact h2 a ha
   ·refine .inr ⟨i+1,by simpa using h,by simp [qbk,hx,h1];omega,by simpa using h2,fun a ha=>?_⟩
    rw [List.take_succ_cons] at ha
    rcases List.mem_cons.1 ha with rfl | ha
    ·exact hx
    ·exact h3 a ha
structure DelOk (L:List Int) (p:Int→Bool) (i j:Nat) (R:List Int):Prop where
 ij:i < j
 jn:j≤L.length
 len:R.length=L.length
 fr:R.take i=(L.take j).filter fun a=>!p a
 bk:R.drop j=L.drop j
theorem DelOk.keep {L R:List Int} {p:Int→Bool} {i j:Nat} (h:DelOk L p i j R) (hj:j < L.length) (hp:p L[j]=false):DelOk L p (i+1) (j+1) (R.set i L[j]):=by
 have hR:j < R.length:=by rw [h.len];exact hj
 have hij:=h.ij
 refine ⟨by omega,by omega,by simp [h.len],?_,?_⟩
 ·rw [List.take_succ_eq_append_getElem hj,List.filter_append,← h.fr,List.take_succ_eq_append_getElem (by simp;omega)]
  simp [hp,List.take_set_of_le]
 ·rw [List.drop_set_of_lt (by omega)]
  have:=h.bk
  rw [List.drop_eq_getElem_cons hR,List.drop_eq_getElem_cons hj] at this
  exact (List.cons.inj this).2
theorem DelOk.pass {L R:List Int} {p:Int→Bool} {i j:Nat} (h:DelOk L p i j R) (hj:j < L.length) (hp:p L[j]=true):DelOk L p i (j+1) R:=by
 have hR:j < R.length:=by rw [h.len];exact hj
 have hij:=h.ij
 refine ⟨by omega,by omega,h.len,?_,?_⟩
 ·rw [List.take_succ_eq_append_getElem hj,List.filter_append,← h.fr]
  simp [hp]
 ·have:=h.bk
  rw [List.drop_eq_getElem_cons hR,List.drop_eq_getElem_cons hj] at this
  exact (List.cons.inj this).2
theorem DelOk.start {L:List Int} {p:Int→Bool} {i:Nat} (hi:i < L.length) (hp:p L[i]=true) (hb:∀ a,a∈L.take i→p a=false):DelOk L p i (i+1) L:=by
 refine ⟨by omega,by omega,rfl,?_,rfl⟩
 rw [List.take_succ_eq_append_getElem hi,List.filter_append]
 have:(L.take i).filter (fun a=>!p a)=L.take i:=List.filter_eq_self.2 fun a ha=>by simp [hb a ha]
 simp [this,hp]
@[simp] theorem szT48:qc7 Tryz.prog 48=some 1:=rfl
@[simp] theorem agT48:qgs Tryz.prog 48=some false:=rfl
@[simp] theorem byT48:qce Tryz.prog 48=some 8:=rfl
@[simp] theorem alT48 (H:Heap):alV Tryz.prog H 48=some (.ptr H.n 0,H.new (.cells [.nilF])):=rfl
@[simp] theorem zeT48:qbt Tryz.prog 48=some (.nilF):=rfl
attribute [simp] Tryz.underlying48
@[simp 500] theorem rvF48 (H:Heap) (cs:List AV) (o:Nat):qb5 Tryz.prog H 48 (.fptr cs o)=qcl cs o:=rfl
@[simp 500] theorem rvP48 (H:Heap) (b o:Nat):qb5 Tryz.prog H 48 (.ptr b o)=(H.get b).bind fun k=>k.rd.bind fun cs=>qcl cs o:=rfl
def atP (L:List Int) (i:Int):Int:=qbk (fun k=>decide (k=i)) L 0
def qdv (t:Tr) (i:Int):Int:=if isB t i=true∧isB t (qa6 t i).up=true then atP (qa6 t (qa6 t i).up).kids i else -1
theorem isB_iff {t:Tr} {i:Int}:isB t i=true↔0≤i∧i < (t.length:Int):=by simp [isB]
theorem c104 {T:List (Entry Tryz.prog)} (t:Tr) (i:Int):CallAt (ctx T) 104 [qam t,.int .i64 i] ⟨0,[]⟩ (.bool (isB t i)) ⟨0,[]⟩:=by
 refine qa3 (fn:=Tryz.f104) (s0:=⟨[0,1,2,4],[qam t,.int .i64 i,.undef,.undef],[],14,⟨0,[[]]⟩⟩) Tryz.func104 rfl rfl rfl ?_
 repeat apply wq
 refine qa0 qa1 ?_
 simp [zS,qam]
 by_cases h:0≤i
 ·repeat apply wq
  refine qa0 qa1 ?_
  simp [zS,qfu,h]
  refine qa8 ?_
  simp [qab,Tryz.f104,oneOr,qaa,qa2]
  exact qa4 rfl (by simp [isB,h])
 ·repeat apply wq
  refine qa0 qa1 ?_
  simp [zS,qfu,h]
  refine qa8 ?_
  simp [qab,Tryz.f104,oneOr,qaa,qa2]
  exact qa4 rfl (by simp [isB,h])
noncomputable def e104:Entry Tryz.prog:=mkE 104 [[7],[]] (fun x:Tr × Int=>[qam x.1,.int .i64 x.2]) (fun _=>True) (fun x=>.bool (isB x.1 x.2)) fun x _=>c104 (T:=[]) x.1 x.2
theorem k104 {T:List (Entry Tryz.prog)} (hT:qag 104 T=some e104.g) (t:Tr) (i:Int) (H:Heap):qb9 (ctx T) (.fn 104) [qam t,.int .i64 i] H=some (.bool (isB t i),H):=
 qae hT injTI (t,i) trivial rfl (by simp [th_tree])
theorem c63 {T:List (Entry Tryz.prog)} (hS:qag 104 T=some e104.g) (t:Tr) (hk:∀ n,n∈t→n.kids.length≤1000000) (i:Int):CallAt (ctx T) 63 [qam t,.int .i64 i] ⟨0,[]⟩ (.int .i64 (qdv t i)) ⟨0,[]⟩:=by
 have ks:=fun i H=>k104 hS t i H
 simp only [qam] at ks
 by_cases h1:isB t i=true
 ·obtain ⟨i0,i1⟩:=isB_iff.1 h1
  have a1:=atX i0 i1
  have c5:qcl (qa6 t i).cs 5=some (.int .i64 (qa6 t i).up):=rfl
  by_cases h2:isB t (qa6 t i).up=true
  ·obtain ⟨u0,u1⟩:=isB_iff.1 h2
   have a2:=atX u0 u1
   have c6:qcl (qa6 t (qa6 t i).up).cs 6=some (qbs (qa6 t (qa6 t i).up).kids):=rfl
   have hl:=hk _ (qcj u0 u1)
   have e:qdv t i=atP (qa6 t (qa6 t i).up).kids i:=by unfold qdv;rw [if_pos ⟨h1,h2⟩]
   rw [e]
   generalize (qa6 t (qa6 t i).up).kids=K at *
   refine qa3 (fn:=Tryz.f63) (s0:=⟨[0,1,2,4,5,6],[qam t,.int .i64 i,.undef,.undef,.undef,.undef],[],46,⟨0,[[]]⟩⟩) Tryz.func63 rfl rfl rfl ?_
   repeat apply wq
   refine qa0 qa1 ?_
   simp [zS,qam]
   repeat apply wq
   refine qcm qci qa1 (by decide +kernel) fun B_ hB_=>?_
   have d_0_2:ahead B_ 0 2=true:=by rw [hB_];decide +kernel
   have d_0_12:ahead B_ 0 12=true:=by rw [hB_];decide +kernel
   have d_2_0:ahead B_ 2 0=false:=by rw [hB_];decide +kernel
   have d_2_5:ahead B_ 2 5=true:=by rw [hB_];decide +kernel
   have d_2_7:ahead B_ 2 7=true:=by rw [hB_];decide +kernel
   have d_2_11:ahead B_ 2 11=true:=by rw [hB_];decide +kernel
   have d_5_2:ahead B_ 5 2=false:=by rw [hB_];decide +kernel
   have d_5_12:ahead B_ 5 12=true:=by rw [hB_];decide +kernel
   have d_7_2:ahead B_ 7 2=false:=by rw [hB_];decide +kernel
   have d_7_12:ahead B_ 7 12=true:=by rw [hB_];decide +kernel
   have d_11_2:ahead B_ 11 2=false:=by rw [hB_];decide +kernel
   have d_11_12:ahead B_ 11 12=true:=by rw [hB_];decide +kernel
   have d_12_0:ahead B_ 12 0=false:=by rw [hB_];decide +kernel
   have d_12_5:ahead B_ 12 5=false:=by rw [hB_];decide +kernel
   have d_12_7:ahead B_ 12 7=false:=by rw [hB_];decide +kernel
   have d_12_11:ahead B_ 12 11=false:=by rw [hB_];decide +kernel
   apply qlt B_
   simp [zS,qdg,qbz,qby,qbr,qaw,qb4,qb3,Heap.lay,qdp,qlr,qlq,qh1,qh0,qgv,qgy,qhg,qh5,qf8,qf9,qhb,qha,qh8,qh9,qhe,qhf,qhd,qhc,d_0_2,d_0_12,d_2_0,d_2_5,d_2_7,d_2_11,d_5_2,d_5_12,d_7_2,d_7_12,d_11_2,d_11_12,d_12_0,d_12_5,d_12_7,d_12_11,ks,h1,h2,a1,c5]
   exact rfl
   refine ⟨_,rfl,?_,?_⟩
   simp [zS,qbr,qaw,qch,qcp,qdz,d_0_2,d_0_12,d_2_0,d_2_5,d_2_7,d_2_11,d_5_2,d_5_12,d_7_2,d_7_12,d_11_2,d_11_12,d_12_0,d_12_5,d_12_7,d_12_11,ks,h1,h2,a1,c5]
   simp [qcb,Heap.lay,qdp,qaa]
   refine qal rfl ?_
   refine qa7 ?_
   simp
   refine qah ?_
   refine qcm qci qa1 (by decide +kernel) fun B_ hB_=>?_
   apply qlt B_
   simp [zS,qdg,qbz,qby,qbr,qaw,qb4,qb3,Heap.lay,qdp,qlr,qlq,qh1,qh0,qgv,qgy,qhg,qh5,qf8,qf9,qhb,qha,qh8,qh9,qhe,qhf,qhd,qhc,a1,a2,c5,c6]
   exact rfl
   refine ⟨_,rfl,?_,?_⟩
   simp [zS,qbr,qaw,qch,qcp,qdz,a1,a2,c5,c6]
   simp [qcb,Heap.lay,qdp,qaa]
   repeat apply wq
   refine qa0 qa1 ?_
   simp [zS]
   refine qa9 (qax (fun j:Nat=>(⟨[0,1,2,4,5,6],[.undef,.int .i64 i,.ptr 0 0,.int .i64 0,qbs K,.int .i64 (j:Int)],[],46,⟨1,[[(0,.cells [qa5 t])]]⟩⟩ : St))
    (fun j=>j≤K.length∧atP K i=qbk (fun k=>decide (k=i)) (K.drop j) j) (fun j=>K.length - j) [(0,0)] [] 0 ⟨Nat.zero_le _,rfl⟩ ⟨rfl,rfl,rfl,by simp [qb6,qay,qb2,qaf,qac,qbs],.id1 (g:=[(0,.cells [qa5 t])]) (by simp) (by simp) (by simp [Heap.get,getFs,getF,qac])⟩ ?_)
   rintro j ⟨hj,hx⟩ B hB
   repeat apply wq
   refine qa0 qa1 ?_
   simp [zS,qm9]
   refine qau rfl (fun h=>?_) fun h=>?_
   ·simp at h
    rw [qfw h] at hx
    refine qa7 ?_
    simp
    repeat apply wq
    refine qa9 ?_
    by_cases h3:K[j]=i
    ·repeat apply wq
     refine qa0 qa1 ?_
     simp [zS,atI h,h3]
     refine qai rfl ?_
     repeat apply wq
     refine qa0 qa1 ?_
     simp [zS]
     refine qa8 ?_
     simp [qab,Tryz.f63,oneOr,qaa,qa2]
     exact qa4 rfl (by rw [hx,if_pos (by simp [h3])])
    ·repeat apply wq
     refine qa0 qa1 ?_
     simp [zS,atI h,h3]
     refine qal rfl ?_
     refine qa7 ?_
     simp
     refine qa0 qa1 ?_
     simp [zS,qba (show j≤1000000000 by omega)]
     exact hB _ (j+1) (by omega) ⟨by omega,by rw [hx,if_neg (by simp [h3])]⟩ ⟨[(0,0)],[],rfl,rfl,rfl,by simp [qb6,qay,qb2,qaf,qac,qbs],.id1 (g:=[(0,.cells [qa5 t])]) (by simp) (by simp) (by simp [Heap.get,getFs,getF,qac])⟩
   ·simp at h
    refine qat ?_
    simp
    repeat apply wq
    refine qa0 qa1 ?_
    simp [zS]
    refine qa8 ?_
    simp [qab,Tryz.f63,oneOr,qaa,qa2]
    exact qa4 rfl (by rw [hx,List.drop_eq_nil_of_le h];rfl)
  ·have h2:isB t (qa6 t i).up=false:=by simpa using h2
   refine qa3 (fn:=Tryz.f63) (s0:=⟨[0,1,2,4,5,6],[qam t,.int .i64 i,.undef,.undef,.undef,.undef],[],46,⟨0,[[]]⟩⟩) Tryz.func63 rfl rfl rfl ?_
   repeat apply wq
   refine qa0 qa1 ?_
   simp [zS,qam]
   repeat apply wq
   refine qcm qci qa1 (by decide +kernel) fun B_ hB_=>?_
   have d_0_2:ahead B_ 0 2=true:=by rw [hB_];decide +kernel
   have d_0_12:ahead B_ 0 12=true:=by rw [hB_];decide +kernel
   have d_2_0:ahead B_ 2 0=false:=by rw [hB_];decide +kernel
   have d_2_5:ahead B_ 2 5=true:=by rw [hB_];decide +kernel
   have d_2_7:ahead B_ 2 7=true:=by rw [hB_];decide +kernel
   have d_2_11:ahead B_ 2 11=true:=by rw [hB_];decide +kernel
   have d_5_2:ahead B_ 5 2=false:=by rw [hB_];decide +kernel
   have d_5_12:ahead B_ 5 12=true:=by rw [hB_];decide +kernel
   have d_7_2:ahead B_ 7 2=false:=by rw [hB_];decide +kernel
   have d_7_12:ahead B_ 7 12=true:=by rw [hB_];decide +kernel
   have d_11_2:ahead B_ 11 2=false:=by rw [hB_];decide +kernel
   have d_11_12:ahead B_ 11 12=true:=by rw [hB_];decide +kernel
   have d_12_0:ahead B_ 12 0=false:=by rw [hB_];decide +kernel
   have d_12_5:ahead B_ 12 5=false:=by rw [hB_];decide +kernel
   have d_12_7:ahead B_ 12 7=false:=by rw [hB_];decide +kernel
   have d_12_11:ahead B_ 12 11=false:=by rw [hB_];decide +kernel
   apply qlt B_
   simp [zS,qdg,qbz,qby,qbr,qaw,qb4,qb3,Heap.lay,qdp,qlr,qlq,qh1,qh0,qgv,qgy,qhg,qh5,qf8,qf9,qhb,qha,qh8,qh9,qhe,qhf,qhd,qhc,d_0_2,d_0_12,d_2_0,d_2_5,d_2_7,d_2_11,d_5_2,d_5_12,d_7_2,d_7_12,d_11_2,d_11_12,d_12_0,d_12_5,d_12_7,d_12_11,ks,h1,h2,a1,c5]
   exact rfl
   refine ⟨_,rfl,?_,?_⟩
   simp [zS,qbr,qaw,qch,qcp,qdz,d_0_2,d_0_12,d_2_0,d_2_5,d_2_7,d_2_11,d_5_2,d_5_12,d_7_2,d_7_12,d_11_2,d_11_12,d_12_0,d_12_5,d_12_7,d_12_11,ks,h1,h2,a1,c5]
   simp [qcb,Heap.lay,qdp,qaa]
   refine qai rfl ?_
   repeat apply wq
   refine qa0 qa1 ?_
   simp [zS]
   refine qa8 ?_
   simp [qab,Tryz.f63,oneOr,qaa,qa2]
   exact qa4 rfl (by simp [qdv,h2])
 ·have h1:isB t i=false:=by simpa using h1
  refine qa3 (fn:=Tryz.f63) (s0:=⟨[0,1,2,4,5,6],[qam t,.int .i64 i,.undef,.undef,.undef,.undef],[],46,⟨0,[[]]⟩⟩) Tryz.func63 rfl rfl rfl ?_
  repeat apply wq
  refine qa0 qa1 ?_
  simp [zS,qam]
  repeat apply wq
  refine qcm qci qa1 (by decide +kernel) fun B_ hB_=>?_
  have d_0_2:ahead B_ 0 2=true:=by rw [hB_];decide +kernel
  have d_0_12:ahead B_ 0 12=true:=by rw [hB_];decide +kernel
  have d_2_0:ahead B_ 2 0=false:=by rw [hB_];decide +kernel
  have d_2_5:ahead B_ 2 5=true:=by rw [hB_];decide +kernel
  have d_2_7:ahead B_ 2 7=true:=by rw [hB_];decide +kernel
  have d_2_11:ahead B_ 2 11=true:=by rw [hB_];decide +kernel
  have d_5_2:ahead B_ 5 2=false:=by rw [hB_];decide +kernel
  have d_5_12:ahead B_ 5 12=true:=by rw [hB_];decide +kernel
  have d_7_2:ahead B_ 7 2=false:=by rw [hB_];decide +kernel
  have d_7_12:ahead B_ 7 12=true:=by rw [hB_];decide +kernel
  have d_11_2:ahead B_ 11 2=false:=by rw [hB_];decide +kernel
  have d_11_12:ahead B_ 11 12=true:=by rw [hB_];decide +kernel
  have d_12_0:ahead B_ 12 0=false:=by rw [hB_];decide +kernel
  have d_12_5:ahead B_ 12 5=false:=by rw [hB_];decide +kernel
  have d_12_7:ahead B_ 12 7=false:=by rw [hB_];decide +kernel
  have d_12_11:ahead B_ 12 11=false:=by rw [hB_];decide +kernel
  apply qlt B_
  simp [zS,qdg,qbz,qby,qbr,qaw,qb4,qb3,Heap.lay,qdp,qlr,qlq,qh1,qh0,qgv,qgy,qhg,qh5,qf8,qf9,qhb,qha,qh8,qh9,qhe,qhf,qhd,qhc,d_0_2,d_0_12,d_2_0,d_2_5,d_2_7,d_2_11,d_5_2,d_5_12,d_7_2,d_7_12,d_11_2,d_11_12,d_12_0,d_12_5,d_12_7,d_12_11,ks,h1]
  exact rfl
  refine ⟨_,rfl,?_,?_⟩
  simp [zS,qbr,qaw,qch,qcp,qdz,d_0_2,d_0_12,d_2_0,d_2_5,d_2_7,d_2_11,d_5_2,d_5_12,d_7_2,d_7_12,d_11_2,d_11_12,d_12_0,d_12_5,d_12_7,d_12_11,ks,h1]
  simp [qcb,Heap.lay,qdp,qaa]
  refine qai rfl ?_
  repeat apply wq
  refine qa0 qa1 ?_
  simp [zS]
  refine qa8 ?_
  simp [qab,Tryz.f63,oneOr,qaa,qa2]
  exact qa4 rfl (by simp [qdv,h1])
noncomputable def e63:Entry Tryz.prog:=mkE 63 [[7],[]] (fun x:Tr × Int=>[qam x.1,.int .i64 x.2]) (fun x=>∀ n,n∈x.1→n.kids.length≤1000000) (fun x=>.int .i64 (qdv x.1 x.2)) fun x h=>c63 (T:=[e104]) rfl x.1 h x.2
theorem q63 {T:List (Entry Tryz.prog)} (hT:qag 63 T=some e63.g) {a:AV} {H:Heap} {t:Tr} (ha:qej H [7] a=some (qam t)) (hk:∀ n,n∈t→n.kids.length≤1000000) (i:Int):qb9 (ctx T) (.fn 63) [a,.int .i64 i] H=some (.int .i64 (qdv t i),H):=
 qae hT injTI (t,i) hk rfl (by simp [ha])
structure okT (t:Tr):Prop where
 ok:qmj t
 nd:∀ n,n∈t→okN n
 kd:∀ n,n∈t→∀ k,k∈n.kids→0≤k∧k < (t.length:Int)
theorem okT.at_ {t:Tr} (h:okT t) {i:Int} (h0:0≤i) (h1:i < (t.length:Int)):okN (qa6 t i):=h.nd _ (qcj h0 h1)
theorem above_ok {t:Tr} (h:okT t) (i:Nat):okP (qds t i):=by
 refine ⟨?_,fun n hn=>?_⟩
 ·have:=qxf t i
  have:=h.ok.1
  simp [qds];omega
 ·unfold qds at hn
  obtain ⟨x,hx,rfl⟩:=List.mem_map.1 hn
  obtain ⟨a,b⟩:=qxe (List.mem_of_mem_drop hx)
  exact h.at_ a b
def zbg (t:Tr) (i:Nat):Int:=(qa6 t ((qa6 t (qa6 t i).up).kids.getD (qdv t i - 1).toNat 0)).kind
def lfB (s:Str):Bool:=match s with
 | []=>false
 | c::_=>decide ((c.toNat:Int)=10)
def qva (t:Tr) (i:Nat):Bool:=
 if (qa6 t i).kind=1 then decide ((qa6 t i).data=[]) && qti (qds t i) (qa6 t i) && qfg (qa6 t i)
 else if (decide ((qa6 t i).kind=2) && qd1 (qa6 t i) && qeh (qds t i) (qa6 t i).data)=true then
  !(decide (0 < qdv t i) && decide (zbg t i=2)) && (!decide (qdv t i=0) || !elB (qap (qds t i)) [112,114,101,32,116,101,120,116,97,114,101,97] || !lfB (qa6 t i).data)
 else false
theorem qyh {L:List Nd} {s:Str} (h:qeh L s=true):∃ c r,s=c::r:=by
 cases s with
 | nil=>simp [qeh] at h
 | cons c r=>exact ⟨c,r,rfl⟩
theorem qzb {t:Tr} {i:Nat} (h:okT t) (hp:0 < qdv t i):∃ q:Nat,qdv t i=((q+1:Nat):Int)∧0≤(qa6 t i).up∧(qa6 t i).up < (t.length:Int)∧∃ hq:q < (qa6 t (qa6 t i).up).kids.length,0≤(qa6 t (qa6 t i).up).kids[q]∧(qa6 t (qa6 t i).up).kids[q] < (t.length:Int)∧zbg t i=(qa6 t (qa6 t (qa6 t i).up).kids[q]).kind:=by
 obtain ⟨a,ha⟩ : ∃ a:Nat,qdv t i=(a:Int):=⟨(qdv t i).toNat,by omega⟩
 have hp0:=hp
 unfold qdv at hp
 split at hp
 case isFalse=>omega
 rename_i hb
 obtain ⟨u0,u1⟩:=isB_iff.1 hb.2
 have hpe:qdv t i=atP (qa6 t (qa6 t i).up).kids i:=by unfold qdv;rw [if_pos hb]
 have hc:=qii (p:=fun y=>decide (y=(i:Int))) (qa6 t (qa6 t i).up).kids 0
 rw [show qbk (fun y=>decide (y=(i:Int))) (qa6 t (qa6 t i).up).kids 0=atP (qa6 t (qa6 t i).up).kids i from rfl,← hpe] at hc
 rcases hc with ⟨h1,_⟩ | ⟨j,hj,h1,_,_⟩
 ·omega
 ·obtain ⟨q,rfl⟩ : ∃ q,j=q+1:=⟨j - 1,by omega⟩
  have hq:q < (qa6 t (qa6 t i).up).kids.length:=by omega
  have hr:=h.kd _ (qcj u0 u1) _ (List.getElem_mem hq)
  refine ⟨q,by omega,u0,u1,hq,hr.1,hr.2,?_⟩
  unfold zbg
  rw [show (qdv t i - 1).toNat=q by omega]
  simp [hq]
set_option maxHeartbeats 1000000 in
theorem c27 {T:List (Entry Tryz.prog)} (hc0:qag 59 T=some e59.g) (hc1:qag 60 T=some e60.g) (hc2:qag 61 T=some e61.g) (hc3:qag 62 T=some e62.g) (hc4:qag 63 T=some e63.g) (hc5:qag 65 T=some e65.g) (hc6:qag 64 T=some e64.g) (t:Tr) (i:Nat) (h:okT t) (hi:i < t.length):CallAt (ctx T) 27 [qam t,.int .i64 ((i:Nat):Int)] ⟨0,[]⟩ (.bool (qva t i)) ⟨0,[]⟩:=by
 have kc0:=@k59 T hc0
 have kc1:=@k60 T hc1
 have kc2:=@k61 T hc2
 have kc3:=@k62 T hc3
 have kc5:=@k65 T hc5
 have kc6:=@k64 T hc6
 have hok:=h.at_ (i:=(i:Int)) (by omega) (by omega)
 have hap:=above_ok h i
 have hix:=atX (t:=t) (i:=(i:Int)) (by omega) (by omega)
 have k0:=fun H=>kc0 h.ok hi H
 have k1:=fun H=>kc1 (qds t i) (qa6 t i) hap hok H
 have k2:=fun H=>kc2 (qa6 t i) hok H
 have k3:=fun H=>kc3 (qds t i) (qa6 t i).data hap (by have:=hok.2.2.1;omega) H
 have k4:=fun H=>q63 hc4 (H:=H) (a:=qam t) (t:=t) (qar (by simp)) (fun n hn=>by have:=(h.ok.2 n hn).1;omega) (i:Int)
 have k5:=fun H=>kc5 (qds t i) (by have:=hap.1;omega) H
 have k6:=fun H=>kc6 (qap (qds t i)) [112,114,101,32,116,101,120,116,97,114,101,97] (by decide) H
 simp only [qam] at k0 k4
 have hpp:=qzb (i:=i) h
 have hcn:=qyh (L:=qds t i) (s:=(qa6 t i).data)
 have la:∀ H,qe3 Tryz.prog H 28 (qb7 (qa6 t i).attrs)=some (qa6 t i).attrs.length:=fun H=>qfo
 clear kc0 kc1 kc2 kc3 kc5 kc6 hc0 hc1 hc2 hc3 hc4 hc5 hc6
 obtain ⟨R,hR⟩ : ∃ R,R=qva t i:=⟨_,rfl⟩
 rw [← hR]
 unfold qva qd1 at hR
 have ea:decide ((qa6 t i).attrs=[]) = !decide (0 < (qa6 t i).attrs.length):=by
  cases (qa6 t i).attrs <;> simp
 rw [ea] at hR
 clear ea
 by_cases hk:(qa6 t i).kind=1
 ·clear hpp hcn k3 k4 k5 k6
  generalize qti (qds t i) (qa6 t i)=b1 at *
  generalize qfg (qa6 t i)=b2 at *
  generalize qds t i=P at *
  generalize qa6 t i=n at *
  refine qa3 (fn:=Tryz.f27) (s0:=⟨[0,1,2,4,5,6,7],[qam t,.int .i64 (i:Int),.undef,.undef,.undef,.undef,.undef],[],95,⟨0,[[]]⟩⟩) Tryz.func27 rfl rfl rfl ?_
  (repeat' (first
   | with_reducible refine qah ?_
   | (with_reducible refine qa0 qa1 ?_;apply qbn;simp [zS, *,qam,qao];exact rfl)
   | (with_reducible refine qas ?_;simp only [qaa,qa2])
   | (with_reducible refine qaz (fun hc=>?_) (fun hc=>?_) <;> ((have hd:=hc);(try simp at hd);(try subst hd);apply qbn;simp [zS, *,qam,qao];exact rfl))
   | (refine qai rfl ?_)
   | (with_reducible refine qa8 ?_;simp [qab,Tryz.f27,oneOr,qaa,qa2])))
  all_goals first | exact qa4 rfl (by rw [hR];simp [*]) | (exfalso;omega)
 ·clear k1 k2
  rcases Bool.eq_false_or_eq_true (qeh (qds t i) (qa6 t i).data) with hb | hb
  ·obtain ⟨c,r,hdat⟩:=hcn hb
   have hx0:qh6 Tryz.prog 9 (.str (c::r)) (.int .i64 0)=some (.int .u8 c.toNat):=qih (s:=c::r) (i:=0) (by simp)
   have hlf:lfB (qa6 t i).data=decide ((c.toNat:Int)=10):=by rw [hdat];rfl
   rw [hlf] at hR
   rw [hb] at hR k3
   clear hcn hlf hb
   rw [hdat] at k3
   generalize elB (qap (qds t i)) [112,114,101,32,116,101,120,116,97,114,101,97]=b6 at *
   generalize qap (qds t i)=up at *
   generalize qds t i=P at *
   by_cases hz:0 < qdv t i
   ·obtain ⟨q,e1,u0,u1,hq,r0,r1,e2⟩:=hpp hz
    have hix2:=atX u0 u1
    have hix3:=atI hq
    have hix4:=atX r0 r1
    obtain ⟨w,hw⟩ : ∃ w:Int,w=((q+1:Nat):Int):=⟨_,rfl⟩
    have hs1:wr .i64 (w - 1)=some (q:Int):=by rw [hw];exact sub_one (by have:=(h.ok.2 _ (qcj u0 u1)).1;omega)
    have hw0:0 < w:=by omega
    have hw1:¬ w=0:=by omega
    rw [← hw] at e1
    clear hw
    rw [e2] at hR
    have hz2:¬ qdv t i=0:=by omega
    simp only [hz,hz2,decide_true,decide_false,Bool.not_false,Bool.true_or,Bool.and_true,Bool.true_and] at hR
    rw [e1] at k4
    clear hpp e1 hz hz2 e2
    generalize (qa6 t (qa6 t i).up).kids[q]=pk at *
    generalize qa6 t pk=pn at *
    generalize qa6 t (qa6 t i).up=un at *
    generalize qa6 t i=n at *
    refine qa3 (fn:=Tryz.f27) (s0:=⟨[0,1,2,4,5,6,7],[qam t,.int .i64 (i:Int),.undef,.undef,.undef,.undef,.undef],[],95,⟨0,[[]]⟩⟩) Tryz.func27 rfl rfl rfl ?_
    (repeat' (first
     | with_reducible refine qah ?_
     | (with_reducible refine qa0 qa1 ?_;apply qbn;simp [zS, *,qam,qao];exact rfl)
     | (refine qbh qci qa1 (by decide +kernel) (by decide +kernel) ?_;apply qbn;simp [zS,qbx,qbd,qb8, *,qam,qao];exact rfl)
     | (with_reducible refine qas ?_;simp only [qaa,qa2])
     | (with_reducible refine qaz (fun hc=>?_) (fun hc=>?_) <;> ((have hd:=hc);(try simp at hd);(try subst hd);apply qbn;simp [zS, *,qam,qao];exact rfl))
     | (refine qai rfl ?_)
     | (refine qal rfl ?_)
     | (refine qau rfl (fun hc=>?_) (fun hc=>?_) <;> ((have hd:=hc);(try simp at hd);(try subst hd)))
     | (with_reducible refine qa7 ?_;simp only [qaa,qa2])
     | (with_reducible refine qa8 ?_;simp [qab,Tryz.f27,oneOr,qaa,qa2])))
    all_goals first | exact qa4 rfl (by rw [hR];first | (simp [*];done) | (simp_all;done)) | (exfalso;omega)
   ·clear hpp
    simp only [hz,decide_false,Bool.false_and,Bool.not_false,Bool.true_and] at hR
    have hz3:¬ (0:Int) < qdv t i:=hz
    generalize qdv t i=at_ at *
    generalize qa6 t i=n at *
    refine qa3 (fn:=Tryz.f27) (s0:=⟨[0,1,2,4,5,6,7],[qam t,.int .i64 (i:Int),.undef,.undef,.undef,.undef,.undef],[],95,⟨0,[[]]⟩⟩) Tryz.func27 rfl rfl rfl ?_
    (repeat' (first
     | with_reducible refine qah ?_
     | (with_reducible refine qa0 qa1 ?_;apply qbn;simp [zS, *,qam,qao];exact rfl)
     | (refine qbh qci qa1 (by decide +kernel) (by decide +kernel) ?_;apply qbn;simp [zS,qbx,qbd,qb8, *,qam,qao];exact rfl)
     | (with_reducible refine qas ?_;simp only [qaa,qa2])
     | (with_reducible refine qaz (fun hc=>?_) (fun hc=>?_) <;> ((have hd:=hc);(try simp at hd);(try subst hd);apply qbn;simp [zS, *,qam,qao];exact rfl))
     | (refine qai rfl ?_)
     | (refine qal rfl ?_)
     | (with_reducible refine qa7 ?_;simp only [qaa,qa2])
     | (with_reducible refine qa8 ?_;simp [qab,Tryz.f27,oneOr,qaa,qa2])))
    all_goals first | exact qa4 rfl (by rw [hR];first | (simp [*];done) | (simp_all;done)) | (exfalso;omega)
  ·rw [hb] at hR k3
   clear hcn hpp k4 k5 k6
   generalize qds t i=P at *
   generalize qa6 t i=n at *
   refine qa3 (fn:=Tryz.f27) (s0:=⟨[0,1,2,4,5,6,7],[qam t,.int .i64 (i:Int),.undef,.undef,.undef,.undef,.undef],[],95,⟨0,[[]]⟩⟩) Tryz.func27 rfl rfl rfl ?_
   (repeat' (first
    | with_reducible refine qah ?_
    | (with_reducible refine qa0 qa1 ?_;apply qbn;simp [zS, *,qam,qao];exact rfl)
    | (with_reducible refine qas ?_;simp only [qaa,qa2])
    | (with_reducible refine qaz (fun hc=>?_) (fun hc=>?_) <;> ((have hd:=hc);(try simp at hd);(try subst hd);apply qbn;simp [zS, *,qam,qao];exact rfl))
    | (refine qai rfl ?_)
    | (refine qal rfl ?_)
    | (with_reducible refine qa7 ?_;simp only [qaa,qa2])
    | (with_reducible refine qa8 ?_;simp [qab,Tryz.f27,oneOr,qaa,qa2])))
   all_goals first | exact qa4 rfl (by rw [hR];first | (simp [*];done) | (simp_all;done)) | (exfalso;omega)
theorem inj_27 (x y:Tr × Nat) (h:(fun z:Tr × Nat=>([qam z.1,.int .i64 ((z.2:Nat):Int)]:List AV)) x=(fun z:Tr × Nat=>([qam z.1,.int .i64 ((z.2:Nat):Int)]:List AV)) y):x=y:=by
 obtain ⟨x0,x1⟩:=x
 obtain ⟨y0,y1⟩:=y
 simp only [List.cons.injEq,and_true] at h
 obtain ⟨h0,h1⟩:=h
 have g0:x0=y0:=qde h0
 have g1:x1=y1:=(by have:=(AV.int.inj h1).2;omega)
 subst g0 g1
 rfl
noncomputable def e27:Entry Tryz.prog:=mkE 27 [[7],[]] (fun z:Tr × Nat=>[qam z.1,.int .i64 ((z.2:Nat):Int)]) (fun z=>(okT z.1)∧(z.2 < z.1.length)) (fun z=>.bool (qva z.1 z.2)) fun z h=>c27 (T:=[e59,e60,e61,e62,e63,e65,e64]) rfl rfl rfl rfl rfl rfl rfl z.1 z.2 h.1 h.2
theorem k27 {T:List (Entry Tryz.prog)} (hT:qag 27 T=some e27.g) (t:Tr) (i:Nat) (h:okT t) (hi:i < t.length) (H:Heap):qb9 (ctx T) (.fn 27) [qam t,.int .i64 ((i:Nat):Int)] H=some (.bool (qva t i),H):=
 qae hT inj_27 (t,i) ⟨h,hi⟩ rfl (by simp [qar])
theorem qla:∀ {l:List AV},allSingle l=true→∀ i (h:i < l.length),l[i].single=true
 | [],_,i,h=>absurd h (Nat.not_lt_zero i)
 | v::r,h,i,hi=>by
  unfold allSingle at h
  cases hv:v.single with
  | false=>rw [hv] at h;cases h
  | true=>
   rw [hv] at h
   cases i with
   | zero=>exact hv
   | succ i=>exact qla h i (by simpa using hi)
theorem qt6:∀ (xs:List Value),qac (xs.map AV.val)=true
 | []=>rfl
 | x::r=>by simp [qac,qaf,qt6 r]
theorem qnk:∀ (xs:List Value),allSingle (xs.map AV.val)=true
 | []=>rfl
 | x::r=>by simp [allSingle,AV.single,qnk r]
theorem qt9 {α:Type} {p:Nat→α→Prop}:∀ (n:Nat),(∀ i,i < n→∃ x,p i x)→∃ l:List α,l.length=n∧∀ i (h:i < l.length),p i l[i]
 | 0,_=>⟨[],rfl,fun i h=>absurd h (Nat.not_lt_zero i)⟩
 | n+1,h=>by
  obtain ⟨l,hl,hp⟩:=qt9 n fun i hi=>h i (by omega)
  obtain ⟨x,hx⟩:=h n (by omega)
  refine ⟨l++[x],by simp [hl],fun i hi=>?_⟩
  by_cases hlt:i < l.length
  ·rw [List.getElem_append_left hlt];exact hp i hlt
  ·have:i=l.length:=by simp at hi;omega
   subst this
   simp only [List.getElem_append_right (Nat.le_refl _),Nat.sub_self,List.getElem_cons_zero]
   rw [hl];exact hx
theorem CallAt.anyrow {C:Ctx} {f:FuncId} {args:List AV} {v:AV} {n n' b b':Nat} {P cs:List AV} {g g':List (Nat × Blk)} (hs:allSingle P=true)
  (h:∀ pre,qac pre=true→allSingle pre=true→pre.length=P.length→CallAt C f args ⟨n,[(b,.cells pre)::g]⟩ v ⟨n',[(b',.cells (pre++cs))::g']⟩) :
  CallAt C f args ⟨n,[(b,.cells P)::g]⟩ v ⟨n',[(b',.cells (P++cs))::g']⟩:=by
 intro ρ w xs sm hx
 obtain ⟨l,hl,hB,hlt,hr⟩:=sm.live (b,.cells P) (by simp [Heap.ents])
 obtain ⟨vs,hvl,hvs⟩:=qt9 (p:=fun i x=>w.cell? ⟨l.cb,l.off+i,none⟩=some x∧∀ h:i < P.length,VR ρ P[i] x) P.length fun i hi=>by
  obtain ⟨x,h1,h2⟩:=hr.2.2 i hi
  exact ⟨x,h1,fun _=>h2⟩
 have one:∀ i (h:i < vs.length),vs[i].oneCell'=true:=fun i hi=>((hvs i hi).2 (by omega)).oneCell (qla hs i (by omega))
 obtain ⟨pre,hpre⟩ : ∃ p,p=vs.map AV.val:=⟨_,rfl⟩
 have hpl:pre.length=P.length:=by rw [hpre];simpa using hvl
 have sm1:Sim ρ ⟨n,[(b,.cells pre)::g]⟩ w:={
  base:=sm.base
  below:=sm.below
  os:=sm.os
  tape:=sm.tape
  output:=sm.output
  dom:=sm.dom
  nodup:=by simpa [Heap.ents] using sm.nodup
  live:=fun e he=>by
   simp only [Heap.ents,List.flatten_cons,List.flatten_nil,List.append_nil,List.mem_cons] at he
   rcases he with rfl | he
   ·refine ⟨l,hl,hB,hlt,by rw [hpl];exact hr.1,hr.2.1,fun i hi=>?_⟩
    have hi':i < vs.length:=by omega
    refine ⟨vs[i],(hvs i hi').1,?_⟩
    simp only [hpre,List.getElem_map]
    exact .val _ (one i hi')
   ·exact sm.live e (by simp [Heap.ents,he])
  inj:=fun e e' he he' l l' hl hl' hc=>by
   have mk:∀ e,e∈Heap.ents ⟨n,[(b,.cells pre)::g]⟩→∃ e2,e2∈Heap.ents ⟨n,[(b,.cells P)::g]⟩∧e2.1=e.1:=fun e he=>by
    simp only [Heap.ents,List.flatten_cons,List.flatten_nil,List.append_nil,List.mem_cons] at he
    rcases he with rfl | he
    ·exact ⟨(b,.cells P),by simp [Heap.ents],rfl⟩
    ·exact ⟨e,by simp [Heap.ents,he],rfl⟩
   obtain ⟨e2,h1,h2⟩:=mk e he
   obtain ⟨e3,h3,h4⟩:=mk e' he'
   rw [← h2,← h4]
   exact sm.inj e2 e3 h1 h3 l l' (by rw [h2];exact hl) (by rw [h4];exact hl') hc }
 have up:∀ {x:Value} {ρ':Place} {w':World},VR ρ' v x→Sim ρ' ⟨n',[(b',.cells (pre++cs))::g']⟩ w'→Step ρ ⟨n,[(b,.cells pre)::g]⟩ w ρ' ⟨n',[(b',.cells (pre++cs))::g']⟩ w' →
   Sim ρ' ⟨n',[(b',.cells (P++cs))::g']⟩ w'∧Step ρ ⟨n,[(b,.cells P)::g]⟩ w ρ' ⟨n',[(b',.cells (P++cs))::g']⟩ w':=by
  intro x ρ' w' hv s1 t1
  have mk:∀ e,e∈Heap.ents ⟨n',[(b',.cells (P++cs))::g']⟩→∃ e2,e2∈Heap.ents ⟨n',[(b',.cells (pre++cs))::g']⟩∧e2.1=e.1:=fun e he=>by
   simp only [Heap.ents,List.flatten_cons,List.flatten_nil,List.append_nil,List.mem_cons] at he
   rcases he with rfl | he
   ·exact ⟨(b',.cells (pre++cs)),by simp [Heap.ents],rfl⟩
   ·exact ⟨e,by simp [Heap.ents,he],rfl⟩
  have mk0:∀ e,e∈Heap.ents ⟨n,[(b,.cells pre)::g]⟩→∃ e2,e2∈Heap.ents ⟨n,[(b,.cells P)::g]⟩∧e2.1=e.1:=fun e he=>by
   simp only [Heap.ents,List.flatten_cons,List.flatten_nil,List.append_nil,List.mem_cons] at he
   rcases he with rfl | he
   ·exact ⟨(b,.cells P),by simp [Heap.ents],rfl⟩
   ·exact ⟨e,by simp [Heap.ents,he],rfl⟩
  refine ⟨{
   base:=s1.base
   below:=s1.below
   os:=s1.os
   tape:=s1.tape
   output:=s1.output
   dom:=s1.dom
   nodup:=by simpa [Heap.ents] using s1.nodup
   live:=fun e he=>by
    simp only [Heap.ents,List.flatten_cons,List.flatten_nil,List.append_nil,List.mem_cons] at he
    rcases he with rfl | he
    ·obtain ⟨l1,g1,g2,g3,g4⟩:=s1.live (b',.cells (pre++cs)) (by simp [Heap.ents])
     refine ⟨l1,g1,g2,g3,?_,g4.2.1,fun i hi=>?_⟩
     ·have:=g4.1
      simp only [List.length_append] at this ⊢
      omega
     ·obtain ⟨y,hy,hvy⟩:=g4.2.2 i (by simp only [List.length_append] at hi ⊢;omega)
      refine ⟨y,hy,?_⟩
      by_cases hi2:i < P.length
      ·have hi3:i < vs.length:=by omega
       rw [List.getElem_append_left (by omega)] at hvy
       rw [List.getElem_append_left hi2]
       simp only [hpre,List.getElem_map] at hvy
       have:y=vs[i]:=by cases hvy;rfl
       rw [this]
       exact ((hvs i hi3).2 hi2).mono t1.le
      ·rw [List.getElem_append_right (by omega)] at hvy
       rw [List.getElem_append_right (by omega)]
       simpa only [hpl] using hvy
    ·exact s1.live e (by simp [Heap.ents,he])
   inj:=fun e e' he he' l l' hl hl' hc=>by
    obtain ⟨e2,h1,h2⟩:=mk e he
    obtain ⟨e3,h3,h4⟩:=mk e' he'
    rw [← h2,← h4]
    exact s1.inj e2 e3 h1 h3 l l' (by rw [h2];exact hl) (by rw [h4];exact hl') hc },{
   le:=t1.le
   size:=t1.size
   keeps:=fun k hk hn=>t1.keeps k hk fun e he l hl=>by
    obtain ⟨e2,h1,h2⟩:=mk0 e he
    exact hn e2 h1 l (by rw [h2];exact hl)
   rows:=fun e he l hl=>by
    obtain ⟨e2,h1,h2⟩:=mk e he
    rcases t1.rows e2 h1 l (by rw [h2];exact hl) with ⟨e3,h3,l3,hl3,hc⟩ | hge
    ·obtain ⟨e4,h4,h5⟩:=mk0 e3 h3
     exact .inl ⟨e4,h4,l3,by rw [h5];exact hl3,hc⟩
    ·exact .inr hge
   num:=t1.num
   low:=t1.low
   cold:=fun k hk=>by
    rcases t1.cold k hk with hh | ⟨e3,h3,l3,hl3,hc⟩ | hh
    ·exact .inl hh
    ·obtain ⟨e4,h4,h5⟩:=mk0 e3 h3
     exact .inr (.inl ⟨e4,h4,l3,by rw [h5];exact hl3,hc⟩)
    ·exact .inr (.inr hh) }⟩
 rcases h pre (by rw [hpre];exact qt6 vs) (by rw [hpre];exact qnk vs) hpl ρ w xs sm1 hx with ⟨x,ρ1,w',h0,h1,h2,h3⟩ | ⟨q,ys,h0,h1⟩
 ·obtain ⟨k1,k2⟩:=up h1 h2 h3
  exact .inl ⟨x,ρ1,w',h0,h1,k1,k2⟩
 ·refine .inr ⟨q,ys,h0,h1.mono ?_⟩
  rintro e w' ⟨x,ρ1,rfl,m1,m2,m3⟩
  obtain ⟨k1,k2⟩:=up m1 m2 m3
  exact ⟨x,ρ1,rfl,m1,k1,k2⟩
def qmt (rec:Int→Nat→List Bool→List Nd × List Bool) (n:Nat):List Int→Nat→List Bool→List Int × List Nd × List Bool
 | [],_,s=>([],[],s)
 | k::r,z,s=>
  if 0≤k∧k < (n:Int)∧s.getD k.toNat true=false then
   let a:=rec k z s
   let b:=qmt rec n r (z+a.1.length) a.2
   ((z:Int)::b.1,a.1++b.2.1,b.2.2)
  else qmt rec n r z s
def qpy:Nat→Tr→Int→Int→Nat→List Bool→List Nd × List Bool
 | 0,_,_,_,_,s=>([],s)
 | f+1,t,i,up,z,s=>
  let r:=qmt (fun k z' s'=>qpy f t k (z:Int) z' s') t.length (qa6 t i).kids (z+1) (s.set i.toNat true)
  ({ qa6 t i with up:=up,kids:=r.1 }::r.2.1,r.2.2)
def qld (s:List Bool):Nat:=s.count false
theorem qke:∀ {s:List Bool} {i:Nat},s.getD i true=false→qld (s.set i true)+1=qld s
 | [],i,h=>by simp at h
 | x::r,0,h=>by
  simp at h;subst h
  simp [qld]
 | x::r,i+1,h=>by
  have:=qke (s:=r) (i:=i) (by simpa using h)
  simp only [qld,List.set_cons_succ,List.count_cons] at this ⊢
  omega
theorem qnt {rec:Int→Nat→List Bool→List Nd × List Bool} {n:Nat} (hrec:∀ k z s,s.length=n→s.getD k.toNat true=false→(rec k z s).2.length=n∧(rec k z s).1.length+qld (rec k z s).2≤qld s):∀ (K:List Int) (z:Nat) (s:List Bool),s.length=n →
  (qmt rec n K z s).2.2.length=n∧(qmt rec n K z s).2.1.length+qld (qmt rec n K z s).2.2≤qld s∧(qmt rec n K z s).1.length≤K.length
 | [],z,s,h=>by simp [qmt,h]
 | k::r,z,s,h=>by
  unfold qmt
  split
  ·rename_i hc
   obtain ⟨h1,h2⟩:=hrec k z s h hc.2.2
   obtain ⟨h3,h4,h5⟩:=qnt hrec r (z+(rec k z s).1.length) (rec k z s).2 h1
   simp only [List.length_append,List.length_cons]
   refine ⟨h3,by omega,by omega⟩
  ·obtain ⟨h3,h4,h5⟩:=qnt hrec r z s h
   simp only [List.length_cons]
   exact ⟨h3,h4,by omega⟩
theorem qt2:∀ (f:Nat) (t:Tr) (i up:Int) (z:Nat) (s:List Bool),s.length=t.length→s.getD i.toNat true=false →
  (qpy f t i up z s).2.length=t.length∧(qpy f t i up z s).1.length+qld (qpy f t i up z s).2≤qld s
 | 0,t,i,up,z,s,h,_=>by simp [qpy,h]
 | f+1,t,i,up,z,s,h,hs=>by
  have h1:=qke hs
  obtain ⟨h3,h4,_⟩:=qnt (rec:=fun k z' s'=>qpy f t k (z:Int) z' s') (n:=t.length) (fun k z' s' hl hu=>qt2 f t k z z' s' hl hu) (qa6 t i).kids (z+1) (s.set i.toNat true) (by simpa using h)
  unfold qpy
  simp only [List.length_cons]
  exact ⟨h3,by omega⟩
def pV (k:Nat):Option (List Nd)→AV
 | none=>.nilS
 | some P=>.slc k 0 P.length (.rest 7)
def oL (o:Option (List Nd)):List Nd:=o.getD []
def kR (t:Tr) (k:Nat):Option (List Nd)→List (Nat × Blk)
 | none=>[(0,.cells [qa5 t,.nilS])]
 | some P=>[(k,.cells (qan (P.map qaj))),(0,.cells [qa5 t,.slc k 0 P.length (.rest 7)])]
section
variable {t:Tr} {k n:Nat} {o:Option (List Nd)} {f:List (Nat × Blk)}
theorem kR_0 (hk:k≠0):getF 0 (kR t k o)=some (.cells [qa5 t,pV k o]):=by
 have:Nat.beq k 0=false:=qbg hk
 cases o <;> simp [kR,getF,pV,this]
theorem kget0 (hk:k≠0) (hf:getF 0 f=none):Heap.get ⟨n,[f,kR t k o]⟩ 0=some (.cells [qa5 t,pV k o]):=by
 simp only [Heap.get,getFs,hf,kR_0 hk]
theorem th_path (hk:k≠0) (hf:getF k f=none):qej ⟨n,[f,kR t k o]⟩ [7] (pV k o)=some (qa5 (oL o)):=by
 cases o with
 | none=>exact qyr (by omega)
 | some P=>
  have h:=qsh (H:=⟨n,[f,kR t k (some P)]⟩) (b:=k) (cap:=.rest 7) (r:=[]) (qec P) (by simp [Heap.get,getFs,hf,kR,getF])
  simpa [pV,oL] using h
theorem len_path {H:Heap}:qe3 Tryz.prog H 22 (pV k o)=some (oL o).length:=by cases o <;> simp [pV,oL,qe3]
theorem qkr (P:List Nd):qac (qan (P.map qaj))=true:=(qec P).pure
theorem app_path {P:List Nd} {x:Nd} {A:Blk} (hl:P.length≤100000) (ho:o=none∧P=[]∨o=some P) :
  qc2 Tryz.prog ⟨32,[[(27,.cells x.cs),(3,A)],kR t 2 o]⟩ 31 (pV 2 o) (.slc 27 0 1 (.ex 1)) =
   some (.slc 32 0 (P.length+1) (.rest 7),⟨33,[[(32,.cells (qan ((P++[x]).map qaj))),(27,.cells x.cs),(3,A)],[(0,.cells [qa5 t,pV 2 o])]]⟩):=by
 rcases ho with ⟨rfl,rfl⟩ | rfl
 ·rfl
 ·cases P with
  | nil=>rfl
  | cons y r=>
   have h:=qj4 (P:=Tryz.prog) (H:=⟨32,[[(27,.cells x.cs),(3,A)],kR t 2 (some (y::r))]⟩) (elem:=31) (b:=2) (n:=0) (es:=(y::r).map qaj) (cs:=x.cs) (x:=.slc 27 0 1 (.ex 1)) zap byT31 zeT31
    rfl (by omega) (by omega) rfl (by simp [qbi,readCells,Heap.get,getFs,getF,Blk.rd]) rfl rfl (qec _) (by simp at hl ⊢;omega) (fun _=>by simp [Heap.get,getFs,getF,kR]) (fun he=>absurd he (by simp)) (by intro cs;rfl)
   have hd:Heap.drop ⟨32,[[(27,.cells x.cs),(3,A)],kR t 2 (some (y::r))]⟩ 2=⟨32,[[(27,.cells x.cs),(3,A)],[(0,.cells [qa5 t,.slc 2 0 (y::r).length (.rest 7)])]]⟩:=rfl
   rw [hd,qju (by simp)] at h
   have e:qan ((y::r).map qaj)++x.cs=qan ((y::r++[x]).map qaj):=by rw [List.map_append,qdl];simp [qan]
   rw [e] at h
   simpa [Heap.new,pushF,pV] using h
theorem put_path {c m n:Nat} {Q:List Nd} {A B:Nat × Blk} {v:AV} (hc:c≠0) (hA:A.1≠0) (hB:B.1≠0) (hv:v.cells=[v]) :
  writeVar Tryz.prog ⟨n,[(c,.cells (qan (Q.map qaj)))::[A,B],[(0,.cells [qa5 t,v])]]⟩ 22 (.ptr 0 1) (.slc c 0 m (.rest 7)) =
   some ⟨n,[[A,B],[(c,.cells (qan (Q.map qaj))),(0,.cells [qa5 t,.slc c 0 m (.rest 7)])]]⟩:=by
 have b1:Nat.beq c 0=false:=qbg hc
 have b2:Nat.beq A.1 0=false:=qbg hA
 have b3:Nat.beq B.1 0=false:=qbg hB
 have hk:qv2 (.cells (qan (Q.map qaj)))=[]:=qf4 4 _ (qkr Q)
 have r1:qgz 100000 [c] ((c,.cells (qan (Q.map qaj)))::[A,B]) []=([(c,.cells (qan (Q.map qaj)))],[A,B]):=by
  have:=qsy (n:=99998) (b:=c) (k:=.cells (qan (Q.map qaj))) (x:=(c,.cells (qan (Q.map qaj)))) (f:=[A,B]) (acc:=[]) (by simp [getF]) hk
  rw [this];simp [killF]
 have e1:qsw [((c,.cells (qan (Q.map qaj))):Nat × Blk)]++[c]=[c]:=by simp [qsw,hk]
 have n1:getF 0 ((c,Blk.cells (qan (Q.map qaj)))::[A,B])=none:=by simp [getF,b1,b2,b3]
 have hp:qda 0 [c] [] [(c,.cells (qan (Q.map qaj)))::[A,B],[(0,.cells [qa5 t,v])]]=[[A,B],[(c,.cells (qan (Q.map qaj))),(0,.cells [qa5 t,v])]]:=by
  unfold qda
  rw [n1]
  simp only [r1,e1]
  unfold qda
  simp [getF]
 have hg:Heap.get ⟨n,[(c,.cells (qan (Q.map qaj)))::[A,B],[(0,.cells [qa5 t,v])]]⟩ 0=some (.cells [qa5 t,v]):=by simp [Heap.get,getFs,getF,b1,b2,b3]
 have hrd:Heap.ready ⟨n,[(c,.cells (qan (Q.map qaj)))::[A,B],[(0,.cells [qa5 t,v])]]⟩ 0 [.slc c 0 m (.rest 7)]=⟨n,[[A,B],[(c,.cells (qan (Q.map qaj))),(0,.cells [qa5 t,v])]]⟩:=by
  show (⟨n,qda 0 [c] [] _⟩ : Heap)=_
  rw [hp]
 have hs1:setF 0 (.cells [qa5 t,.slc c 0 m (.rest 7)]) [A,B]=none:=qnp (by simp [getF,b2,b3])
 unfold writeVar
 simp only [szT22,Option.bind_some,qui,List.length_cons,List.length_nil]
 simp [allSingle,AV.single,writeCells,hg,Blk.wt,hrd,Heap.set,setFs,setF,b1,b2,b3,Blk.re]
theorem cut_path {c m n:Nat} {row:List AV} {A B:Nat × Blk} {v:AV} (hc:c≠0) (hA:A.1≠0) (hB:B.1≠0) (hA2:A.1≠c) (hB2:B.1≠c) (hp:qac row=true) :
  writeVar Tryz.prog ⟨n,[[A,B],[(c,.cells row),(0,.cells [qa5 t,v])]]⟩ 22 (.ptr 0 1) (.slc c 0 m (.rest 7)) =
   some ⟨n,[[A,B],[(c,.cells row),(0,.cells [qa5 t,.slc c 0 m (.rest 7)])]]⟩:=by
 have b1:Nat.beq c 0=false:=qbg hc
 have b2:Nat.beq A.1 0=false:=qbg hA
 have b3:Nat.beq B.1 0=false:=qbg hB
 have b4:Nat.beq A.1 c=false:=qbg hA2
 have b5:Nat.beq B.1 c=false:=qbg hB2
 have r1:qgz 100000 [c] [A,B] []=([],[A,B]):=qx7 (n:=99998) (by simp [getF,b4,b5])
 have n1:getF 0 [A,B]=none:=by simp [getF,b2,b3]
 have hpr:qda 0 [c] [] [[A,B],[(c,.cells row),(0,.cells [qa5 t,v])]]=[[A,B],[(c,.cells row),(0,.cells [qa5 t,v])]]:=by
  unfold qda
  rw [n1]
  simp only [r1]
  unfold qda
  simp [getF,b1]
 have hg:Heap.get ⟨n,[[A,B],[(c,.cells row),(0,.cells [qa5 t,v])]]⟩ 0=some (.cells [qa5 t,v]):=by simp [Heap.get,getFs,getF,b1,b2,b3]
 have hrd:Heap.ready ⟨n,[[A,B],[(c,.cells row),(0,.cells [qa5 t,v])]]⟩ 0 [.slc c 0 m (.rest 7)]=⟨n,[[A,B],[(c,.cells row),(0,.cells [qa5 t,v])]]⟩:=by
  show (⟨n,qda 0 [c] [] _⟩ : Heap)=_
  rw [hpr]
 have hs1:setF 0 (.cells [qa5 t,.slc c 0 m (.rest 7)]) [A,B]=none:=qnp n1
 unfold writeVar
 simp only [szT22,Option.bind_some,qui,List.length_cons,List.length_nil]
 simp [allSingle,AV.single,writeCells,hg,Blk.wt,hrd,Heap.set,setFs,setF,b1,b2,b3,Blk.re]
theorem sl_path {H:Heap} {cs:List AV} {b q kn:Nat} (hb:H.get b=some (.cells cs)) (hl:cs.length=kn * 7) (hq:q+1≤kn) :
  qdy Tryz.prog H 22 (.slc b 0 (q+1) (.rest 7)) none (some (.int .i64 (q:Int))) none=some (.slc b 0 q (.rest 7)):=by
 have hs:qc7 Tryz.prog 31=some 7:=zap
 have hk:qck H b=some (kn * 7):=by simp [qck,hb,Blk.rd,hl]
 simp only [qdy,qzp,Tryz.underlying22,Option.bind_some,hs]
 have e2:kn * 7 / 7=kn:=by omega
 have hi1:idx (q:Int) (Nat.succ kn)=some q:=qc0 (by omega)
 have hn:Nat.ble (kn * 7) 0=false:=by cases kn with
  | zero=>omega
  | succ m=>rfl
 simp only [qhi,hk,Option.bind_some,qcv,Nat.beq_refl,Nat.sub_zero,e2,hi1,Nat.zero_mul,hn,Nat.add_zero]
end
def pR (z:Nat) (pre:List AV):Option Unit→AV × List (Nat × Blk)
 | none=>(.nilS,[])
 | some _=>(.slc 0 0 z (.rest 7),[(0,.cells pre)])
theorem qfl {b:Nat} {rs:List Nat} {f:List (Nat × Blk)} {r:List (List (Nat × Blk))} (h:(getF b f).isSome=true):qda b rs [] (f::r)=f::r:=by
 obtain ⟨k,hk⟩:=Option.isSome_iff_exists.1 h
 unfold qda
 rw [hk];rfl
theorem qm5:∀ (L:List Nd),allSingle (qan (L.map qaj))=true
 | []=>rfl
 | x::r=>by
  rw [List.map_cons]
  show allSingle (x.cs++qan (r.map qaj))=true
  rw [qdr,qm5 r];rfl
theorem app_put {z:Nat} {pre nc:List AV} {o:Option Unit} {v0:AV} {r0:List (Nat × Blk)} {A B C S:Blk} (hpr:pR z pre o=(v0,r0)) (ho:o=none→z=0∧pre=[]) (hpl:pre.length=z * 7) (hnl:nc.length=7) (hns:allSingle nc=true) (hz:z≤100000) :
  qc2 Tryz.prog ⟨7,[(6,.cells nc)::(5,.cells nc)::(4,A)::(3,B)::(2,C)::(1,S)::r0]⟩ 31 v0 (.slc 6 0 1 (.ex 1)) =
   some (.slc 7 0 (z+1) (.rest 7),⟨8,[[(7,.cells (pre++nc)),(6,.cells nc),(5,.cells nc),(4,A),(3,B),(2,C),(1,S)]]⟩):=by
 have hrow:∀ cs,qsb Tryz.prog 31 cs=.cells cs:=by intro cs;rfl
 have htk:qed 7 nc=some nc:=by rw [← hnl];exact qdx nc
 obtain ⟨by_,hby⟩ : ∃ b,qce Tryz.prog 31=some b:=⟨_,byT31⟩
 have hbv:0 < by_∧by_≤1000:=by
  have:=hby.symm.trans byT31
  simp at this;omega
 obtain ⟨zz,hzz,hzl⟩ : ∃ b,qbt Tryz.prog 31=some b∧b.cells.length=7:=⟨_,zeT31,rfl⟩
 have hb1:Nat.blt 0 by_=true:=by simp;omega
 cases o with
 | none=>
  obtain ⟨rfl,rfl⟩:=ho rfl
  simp [pR] at hpr
  obtain ⟨rfl,rfl⟩:=hpr
  have hr:qct 1 by_=true:=by unfold qct;rw [Nat.ble_eq];omega
  unfold qc2
  simp [zap,hby,hzz,hzl,qcc,hb1,hr,qbi,readCells,Heap.get,getFs,getF,qeu,htk,hnl,hrow,Heap.new,pushF]
 | some _=>
  simp [pR] at hpr
  obtain ⟨rfl,rfl⟩:=hpr
  have hr:qct (z+1) by_=true:=by
   unfold qct;rw [Nat.ble_eq]
   have:(z+1) * by_≤100001 * 1000:=Nat.mul_le_mul (by omega) hbv.2
   omega
  have h2:Nat.ble ((z+1) * 7) (z * 7)=false:=by rw [← Bool.not_eq_true,Nat.ble_eq];omega
  have htp:qed (z * 7) pre=some pre:=by rw [← hpl];exact qdx pre
  unfold qc2
  simp [zap,hby,hzz,hzl,qcc,hb1,hr,qbi,readCells,Heap.get,getFs,getF,qeu,htk,hnl,hrow,Heap.new,pushF,hns,qck,hpl,h2,htp,Heap.drop,qea,killF]
theorem zef {g:List (Nat × Blk)} {fs:List (List (Nat × Blk))}:qc2 Tryz.prog ⟨7,((6,.cells [])::g)::fs⟩ 43 (.slc 6 0 0 (.ex 0)) (qb7 [])=some (.slc 6 0 0 (.ex 0),⟨7,((6,.cells [])::g)::fs⟩):=rfl
theorem app_atts {g:List (Nat × Blk)} {fs:List (List (Nat × Blk))} (A:List At1) (hA:A≠[]) (hl:A.length≤100000) :
  qc2 Tryz.prog ⟨7,((6,.cells [])::g)::fs⟩ 43 (.slc 6 0 0 (.ex 0)) (qb7 A) =
   some (.slc 7 0 A.length (.rest 2),⟨8,((7,.cells (qan (A.map qem)))::(6,.cells [])::g)::fs⟩):=by
 cases A with
 | nil=>exact absurd rfl hA
 | cons x r=>
  have hrow:∀ cs,qsb Tryz.prog 43 cs=.cells cs:=by intro cs;rfl
  obtain ⟨by_,hby⟩ : ∃ b,qce Tryz.prog 43=some b:=⟨_,byT43⟩
  have hbv:0 < by_∧by_≤1000:=by
   have:=hby.symm.trans byT43
   simp at this;omega
  obtain ⟨zz,hzz,hzl⟩ : ∃ b,qbt Tryz.prog 43=some b∧b.cells.length=2:=⟨_,zeT43,rfl⟩
  have hb1:Nat.blt 0 by_=true:=by simp;omega
  have hr:qct ((x::r).length) by_=true:=by
   unfold qct;rw [Nat.ble_eq]
   have:(x::r).length * by_≤100000 * 1000:=Nat.mul_le_mul hl hbv.2
   omega
  have hel:=(qrv (x::r)).len
  have hsg:=qnl (x::r)
  have htk:((x::r).map qem).take (x::r).length=(x::r).map qem:=by rw [List.take_of_length_le];simp
  have hln:((x::r).map qem).length=(x::r).length:=by simp
  rw [hln] at hel
  have h1:0 < (x::r).length:=by simp
  show qc2 _ _ _ _ (.fslc 2 ((x::r).map qem))=_
  generalize (x::r).map qem=M at *
  generalize hF:qan M=F at *
  unfold qc2
  simp only [szT43,hby,hzz,hzl,qcc,hb1,Option.bind_some,hln]
  generalize (x::r).length=k at *
  have h2:Nat.ble k 0=false:=by rw [← Bool.not_eq_true,Nat.ble_eq];omega
  simp [qbi,htk,hF,hr,hsg,h2,hel,readCells,Heap.get,getFs,getF,qeu,qed,hrow,Heap.new,pushF]
theorem put_in {C:Ctx} {f:FuncId} {t:Tr} {k up:Int} {N sz n q:Nat} {s s':List Bool} {cs P:List AV} {g:List (Nat × Blk)} (hN:5 < N) (hP:allSingle P=true) (hg:∀ e,e∈g→e.1 < N∧e.1≠5∧e.1≠1) (hnd:(g.map (·.1)).Nodup) (hcs:qac cs=true)
  (h:∀ pre,qac pre=true→allSingle pre=true→pre.length=P.length→CallAt C f [qam t,.int .i64 k,.int .i64 up,.agg [.slc 0 0 sz (.rest 7)],.slc 1 0 n (.ex n)] ⟨2,[[(1,.cells (bls s)),(0,.cells pre)]]⟩ (.agg [.slc 2 0 q (.rest 7)]) ⟨3,[[(2,.cells (pre++cs)),(1,.cells (bls s'))]]⟩) :
  CallAt C f [qam t,.int .i64 k,.int .i64 up,.agg [.slc 5 0 sz (.rest 7)],.slc 1 0 n (.ex n)] ⟨N,[(5,.cells P)::(1,.cells (bls s))::g]⟩ (.agg [.slc N 0 q (.rest 7)]) ⟨N+1,[(N,.cells (P++cs))::(1,.cells (bls s'))::g]⟩:=by
 refine CallAt.anyrow hP fun pre hp hs hl=>?_
 have hb:=qfa s
 have hb':=qfa s'
 have h5:∀ e,e∈g→Nat.beq 5 e.1=false∧Nat.beq 1 e.1=false:=fun e he=>⟨qbg fun x=>(hg e he).2.1 x.symm,qbg fun x=>(hg e he).2.2 x.symm⟩
 have hf:FitH 0 [(5,0),(1,1)] [] ⟨N,[(5,.cells pre)::(1,.cells (bls s))::g]⟩ ⟨2,[[(1,.cells (bls s)),(0,.cells pre)]]⟩:={
  nd1:=by simp
  nd2:=by simp
  nd3:=by simp [Heap.ents]
  lt:=by simp
  idn:=by simp
  num:=by simp
  src:=by
   intro e he
   simp [Heap.ents] at he
   rcases he with rfl | rfl
   ·exact ⟨1,.cells (bls s),by simp,by simp [Heap.get,getFs,getF],qak hb⟩
   ·exact ⟨5,.cells pre,by simp,by simp [Heap.get,getFs,getF],qak hp⟩
  frz:=fun x h=>by cases h }
 have:=(h pre hp hs hl).framed (H':=⟨N+1,[(N,.cells (pre++cs))::(1,.cells (bls s'))::g]⟩) (args:=[qam t,.int .i64 k,.int .i64 up,.agg [.slc 5 0 sz (.rest 7)],.slc 1 0 n (.ex n)]) hf ?_ ?_ (by simp)
 ·simpa [qk9,qhy,qfs,qdk] using this
 ·have ht:qay [(5,0),(1,1)] [] (qam t) (qam t):=qbb (by simp)
  simp [qb6,qay,qb2,ht,qaf]
 ·refine ⟨by simp,fun hn hlt=>?_,?_⟩
  ·simp only [Heap.ents,List.flatten_cons,List.flatten_nil,List.append_nil,List.map_cons,List.nodup_cons,List.mem_cons,List.mem_map,not_or]
   refine ⟨⟨by omega,?_⟩,?_,hnd⟩
   ·rintro ⟨e,he,hh⟩;have:=hg e he;omega
   ·rintro ⟨e,he,hh⟩;have:=hg e he;omega
  ·intro e he
   have hc:=qcr (qfs [(5,0),(1,1)] N 2) (l:=pre++cs) (by
    have:∀ {a b:List AV},qac a=true→qac b=true→qac (a++b)=true:=by
     intro a b h1 h2
     induction a with
     | nil=>exact h2
     | cons x r ih=>
      simp only [qac,Bool.and_eq_true,List.cons_append] at h1 ⊢
      exact ⟨h1.1,ih h1.2⟩
    exact this hp hcs)
   have hs':=qcr (qfs [(5,0),(1,1)] N 2) hb'
   simp only [Heap.ents,List.flatten_cons,List.flatten_nil,List.append_nil,List.mem_cons] at he
   rcases he with rfl | rfl | he
   ·exact .inl ⟨(2,.cells (pre++cs)),by simp [Heap.ents],by simp [qpw,hc];simp [qfs,qdk]⟩
   ·exact .inl ⟨(1,.cells (bls s')),by simp [Heap.ents],by simp [qpw,hs'];simp [qfs,qdk]⟩
   ·have:=hg e he
    refine .inr ⟨by simp [Heap.ents,he],?_⟩
    simp;omega
def hdP (up:Int) (n:Nd):List AV:=[qbw n.kind,qbw n.space,.str n.name,qb7 n.attrs,.str n.data,qbw up]
abbrev hPR (t:Tr) (sz:Nat) (row:List AV) (s:List Bool):List (Nat × Blk):=[(5,.cells row),(1,.cells (bls s)),(3,.cells [.slc 5 0 sz (.rest 7)]),(2,.cells [qa5 t]),(4,.cells [.nilS])]
theorem qkp {t:Tr} {sz:Nat} {s:List Bool} {L:List Int} {U W:List AV} {H:Heap} {a b:Nat} {v6:AV} (hv6:v6=lA b L∨(v6=.nilS∧L=[])) (hU:qac U=true) (hW:qac W=true) (h1:a≠b∧a ∉ [1,2,3,4]∧b ∉ [1,2,3,4]) (h5:H.get a=some (.cells (U++v6::W)))
  (g1:H.get 1=some (.cells (bls s))) (g2:H.get 2=some (.cells [qa5 t])) (g3:H.get 3=some (.cells [.slc a 0 sz (.rest 7)])) (g4:H.get 4=some (.cells [.nilS])) (g6:L≠[]→H.get b=some (.cells (qbu L))) :
  FitH 2 [(a,5),(b,6),(1,1),(2,2),(3,3),(4,4)] [] H ⟨7,[hPR t sz (U++lA 6 L::W) s,lF 6 L]⟩ where
 nd1:=by
  obtain ⟨h1,h2,h3⟩:=h1
  simp at h2 h3
  simp
  omega
 nd2:=by simp
 nd3:=by
  by_cases hL:L=[]
  ·subst hL;simp [Heap.ents,lF,qgh]
  ·rw [qie hL];simp [Heap.ents]
 lt:=by simp
 idn:=by simp
 num:=by simp
 src:=by
  intro e he
  have hN:=qd9 t
  simp only [Heap.ents,hPR,List.flatten_cons,List.flatten_nil,List.append_nil,List.mem_cons,List.mem_append,List.not_mem_nil,or_false] at he
  rcases he with (rfl | rfl | rfl | rfl | rfl) | he
  ·refine ⟨a,_,by simp,h5,?_⟩
   show qb6 _ _ _ _
   refine qn2 (qak hU) ⟨?_,qak hW⟩
   by_cases hL:L=[]
   ·subst hL
    rcases hv6 with rfl | ⟨rfl,_⟩ <;> simp [lA,qjv,qbu,qay]
   ·rcases hv6 with rfl | ⟨_,h⟩
    ·rw [qto hL,qto hL]
     have:¬ a=b:=h1.1
     simp [qay,qb2,this]
    ·exact absurd h hL
  ·exact ⟨1,_,by simp,g1,qak (qfa s)⟩
  ·exact ⟨3,_,by simp,g3,by simp [qi0,qb6,qay,qb2]⟩
  ·exact ⟨2,_,by simp,g2,qak (by simp [qac])⟩
  ·exact ⟨4,_,by simp,g4,by simp [qi0,qb6,qay]⟩
  ·by_cases hL:L=[]
   ·subst hL;cases he
   ·rw [qie hL] at he
    simp at he
    subst he
    exact ⟨b,_,by simp,g6 hL,qak (qbe L)⟩
 frz:=fun y hy=>by cases hy
theorem put_fitE {sz:Nat} {s:List Bool} {L:List Int} {pre:List AV} {x:Nd} {up:Int} {D:List Nd} {H:Heap} (hp:qac pre=true) (h5:H.get 5=some (.cells (pre++hdP up x++lA 6 L::qan (D.map qaj))))
  (g1:H.get 1=some (.cells (bls s))) (g6:L≠[]→H.get 6=some (.cells (qbu L))) :
  ∃ σ Φ,qay σ Φ (.agg [.slc 5 0 sz (.rest 7)]) (.agg [.slc 2 0 sz (.rest 7)])∧FitH 2 σ Φ H ⟨3,[[(2,.cells (pre++qan ((({ x with up:=up,kids:=L }:Nd)::D).map qaj))),(1,.cells (bls s))]]⟩:=by
 have key:∀ Φ,(Φ=[]∨(Φ=[(6,qbu L)]∧L≠[]))→qay [(5,2),(1,1)] Φ (lA 6 L) (qbs L)→FitH 2 [(5,2),(1,1)] Φ H ⟨3,[[(2,.cells (pre++qan ((({ x with up:=up,kids:=L }:Nd)::D).map qaj))),(1,.cells (bls s))]]⟩:=fun Φ hΦ hv=>{
  nd1:=by rcases hΦ with rfl | ⟨rfl,_⟩ <;> simp
  nd2:=by simp
  nd3:=by simp [Heap.ents]
  lt:=by simp
  idn:=by simp
  num:=by simp
  src:=by
   intro e he
   simp only [Heap.ents,List.flatten_cons,List.flatten_nil,List.append_nil,List.mem_cons,List.not_mem_nil,or_false] at he
   rcases he with rfl | rfl
   ·refine ⟨5,_,by simp,h5,?_⟩
    show qb6 _ _ _ (pre++(hdP up x++qbs L::qan (D.map qaj)))
    rw [List.append_assoc]
    refine qn2 (qak hp) (qn2 (qak (by simp [hdP,qac,qaf,qbw])) ⟨hv,qak (qec D).pure⟩)
   ·exact ⟨1,_,by simp,g1,qak (qfa s)⟩
  frz:=fun y hy=>by
   rcases hΦ with rfl | ⟨rfl,hL⟩
   ·cases hy
   ·simp at hy;subst hy
    exact ⟨qbu L,g6 hL,qak (qbe L),qbe L⟩ }
 by_cases hL:L=[]
 ·refine ⟨_,[],?_,key [] (.inl rfl) (by subst hL;simp [lA,qjv,qbu,qay])⟩
  simp [qay,qb6,qb2]
 ·refine ⟨_,[(6,qbu L)],?_,key _ (.inr ⟨rfl,hL⟩) ?_⟩
  ·simp [qay,qb6,qb2]
  ·rw [qto hL]
   simp only [qay,qc1,if_true]
   refine .inl ⟨_,rfl,?_,by simp,(qfk L).size⟩
   have hl:=(qfk L).len
   rw [qe4] at hl
   have h2:(qbu L).length=L.length:=by simp [qbu]
   show qeu 0 (L.length * 1) (qbu L)=some (qan (qbu L))
   rw [qe4,Nat.mul_one,← h2]
   unfold qeu
   rw [List.drop_zero,qdx]
theorem qr7:∀ {a b:List AV},qac a=true→qac b=true→qac (a++b)=true
 | [],b,_,h=>h
 | x::r,b,h1,h2=>by
  simp only [qac,Bool.and_eq_true,List.cons_append] at h1 ⊢
  exact ⟨h1.1,qr7 h1.2 h2⟩
theorem get_r0 {z:Nat} {pre:List AV} {o:Option Unit} {v0:AV} {r0:List (Nat × Blk)} (hpr:pR z pre o=(v0,r0)):r0=[]∨r0=[(0,.cells pre)]:=by
 cases o <;> (simp [pR] at hpr;obtain ⟨rfl,rfl⟩:=hpr;simp)
theorem qxa {z:Nat} {pre:List AV} {o:Option Unit} {v0:AV} {r0:List (Nat × Blk)} (hpr:pR z pre o=(v0,r0)) (hp:qac pre=true) {t:Tr} {s:List Bool} {x:Nd} {n:Nat} {va:AV} {Φ:List (Nat × List AV)} {f:List (Nat × Blk)}
  (hΦ:Φ=[]∨Φ=[(7,qan (x.attrs.map qem))]) (hva:∀ σ,qay σ Φ va (qb7 x.attrs)) (h7:∀ y,y∈Φ→getF y.1 f=some (.cells y.2))
  (h5:getF 5 f=some (.cells [qbw x.kind,qbw x.space,.str x.name,va,.str x.data,qbw x.up,qbs x.kids])) (h4:getF 4 f=some (.cells [.nilS])) (h3:getF 3 f=some (.cells [v0])) (h2:getF 2 f=some (.cells [qa5 t])) (h1:getF 1 f=none)
  (h0:getF 0 f=none):FitH 2 [(5,5),(4,4),(3,3),(2,2),(1,1),(0,0)] Φ ⟨n,[f,(1,.cells (bls s))::r0]⟩ ⟨6,[(5,.cells x.cs)::(4,.cells [.nilS])::(3,.cells [v0])::(2,.cells [qa5 t])::(1,.cells (bls s))::r0]⟩ where
 nd1:=by rcases hΦ with rfl | rfl <;> simp
 nd2:=by simp
 nd3:=by rcases get_r0 hpr with rfl | rfl <;> simp [Heap.ents]
 lt:=by simp
 idn:=by simp
 num:=by simp
 src:=by
  intro e he
  have hN:=qd9 t
  simp only [Heap.ents,List.flatten_cons,List.flatten_nil,List.append_nil,List.mem_cons] at he
  rcases he with rfl | rfl | rfl | rfl | rfl | he
  ·exact ⟨5,.cells [qbw x.kind,qbw x.space,.str x.name,va,.str x.data,qbw x.up,qbs x.kids],by simp,by simp [Heap.get,getFs,h5],by simp [qi0,Nd.cs,qb6,qay,qbw,qaf,hva]⟩
  ·exact ⟨4,.cells [.nilS],by simp,by simp [Heap.get,getFs,h4],by simp [qi0,qb6,qay]⟩
  ·refine ⟨3,.cells [v0],by simp,by simp [Heap.get,getFs,h3],?_⟩
   cases o <;> (simp [pR] at hpr;obtain ⟨rfl,rfl⟩:=hpr;simp [qi0,qb6,qay,qb2])
  ·exact ⟨2,.cells [qa5 t],by simp,by simp [Heap.get,getFs,h2],qak (by simp [qac])⟩
  ·exact ⟨1,.cells (bls s),by simp,by simp [Heap.get,getFs,h1,getF],qak (qfa s)⟩
  ·rcases get_r0 hpr with rfl | rfl
   ·cases he
   ·simp at he
    subst he
    exact ⟨0,.cells pre,by simp,by simp [Heap.get,getFs,h0,getF],qak hp⟩
 frz:=fun y hy=>by
  refine ⟨y.2,by simp [Heap.get,getFs,h7 y hy],?_,?_⟩ <;> (rcases hΦ with rfl | rfl <;> simp at hy <;> subst hy)
  ·exact qak (qrv _).pure
  ·exact (qrv _).pure
theorem put_at {T:List (Entry Tryz.prog)} (t:Tr) (ht:okT t):∀ (F:Nat) (i:Nat) (up:Int) (z:Nat) (seen:List Bool) (pre:List AV) (o:Option Unit) (ho:o=none→z=0∧pre=[]) 
  (hp:qac pre=true) (hs:allSingle pre=true) (hpl:pre.length=z * 7) (i1:i < t.length) (hsl:seen.length=t.length) (hsi:seen.getD i true=false) (hz:z+qld seen≤100000) (hF:qld seen≤F),
  CallAt (ctx T) 29 [qam t,.int .i64 (i:Int),.int .i64 up,.agg [(pR z pre o).1],.slc 1 0 t.length (.ex t.length)] ⟨2,[(1,.cells (bls seen))::(pR z pre o).2]⟩
   (.agg [.slc 2 0 (z+(qpy F t i up z seen).1.length) (.rest 7)]) ⟨3,[[(2,.cells (pre++qan ((qpy F t i up z seen).1.map qaj))),(1,.cells (bls (qpy F t i up z seen).2))]]⟩:=by
 intro F
 induction F with
 | zero=>
  intro i up z seen pre o ho hp hs hpl i1 hsl hsi hz hF
  have:=qke hsi
  omega
 | succ F' ih=>
 intro i up z seen pre o ho hp hs hpl i1 hsl hsi hz hF
 have hix:=atX (t:=t) (i:=(i:Int)) (by omega) (by omega)
 obtain ⟨v0,r0,hpr⟩ : ∃ v0 r0,pR z pre o=(v0,r0):=⟨_,_,rfl⟩
 have hv1:v0.single=true:=by cases o <;> (simp [pR] at hpr;obtain ⟨rfl,rfl⟩:=hpr;rfl)
 have hvc:v0.cells=[v0]:=by cases o <;> (simp [pR] at hpr;obtain ⟨rfl,rfl⟩:=hpr;rfl)
 have hvl:∀ H,qe3 Tryz.prog H 22 v0=some z:=fun H=>by
  cases o with
  | none=>simp [pR] at hpr;obtain ⟨rfl,rfl⟩:=hpr;simp [qe3,(ho rfl).1]
  | some _=>simp [pR] at hpr;obtain ⟨rfl,rfl⟩:=hpr;simp [qe3]
 rw [hpr]
 simp only
 obtain ⟨x,hxn⟩ : ∃ x,x=qa6 t i:=⟨_,rfl⟩
 have hal:=(ht.ok.2 _ (qcj (t:=t) (i:=(i:Int)) (by omega) (by omega))).2
 have hkl:=(ht.ok.2 _ (qcj (t:=t) (i:=(i:Int)) (by omega) (by omega))).1
 rw [← hxn] at hix hal hkl
 refine qa3 (fn:=Tryz.f29) (s0:=⟨[0,1,2,3,4,5,8,10,11,12,13,14],[qam t,.int .i64 i,.int .i64 up,.agg [v0],.slc 1 0 t.length (.ex t.length),.undef,.undef,.undef,.undef,.undef,.undef,.undef],[],99,⟨2,[]::[(1,.cells (bls seen))::r0]⟩⟩) Tryz.func29 rfl rfl rfl ?_
 repeat apply wq
 refine qa0 qa1 ?_
 simp [zS,hv1]
 repeat apply wq
 refine qa0 qa1 ?_
 simp [zS,hix,qao]
 have hat3:qcl x.cs 3=some (qb7 x.attrs):=rfl
 have hst3:∀ v,qj5 [v] 3 x.cs=some [qbw x.kind,qbw x.space,.str x.name,v,.str x.data,qbw x.up,qbs x.kids]:=fun v=>rfl
 refine qfc ((⟨[0,1,2,3,4,5,8,10,11,12,13,14],[qam t,.int .i64 i,.int .i64 up,.undef,.slc 1 0 t.length (.ex t.length),.ptr 2 0,.ptr 3 0,.ptr 4 0,.ptr 5 0,.undef,.undef,.undef],[],99,⟨6,[(5,.cells x.cs)::(4,.cells [.nilS])::(3,.cells [v0])::(2,.cells [qa5 t])::(1,.cells (bls seen))::r0]⟩⟩ : St)) ?_ fun hj=>?_
 rotate_left
 ·have hTr:∀ σ Φ,qay σ Φ (qam t) (qam t):=fun _ _=>qbb (by simp)
  by_cases hA:x.attrs=[]
  ·rw [hA] at hat3
   refine qa0 qa1 ?_
   simp [zS,zef,hat3,hst3,qfl]
   exact hj _ ⟨[(5,5),(4,4),(3,3),(2,2),(1,1),(0,0)],[],rfl,rfl,rfl,by simp [qb6,qay,qb2,qaf,qac,hTr],qxa hpr hp (.inl rfl) (fun σ=>by rw [hA];simp [qay,qb7]) (by simp) rfl rfl rfl rfl rfl rfl⟩
  ·have happ1:=app_atts (g:=[(5,.cells x.cs),(4,.cells [.nilS]),(3,.cells [v0]),(2,.cells [qa5 t])]) (fs:=[(1,.cells (bls seen))::r0]) x.attrs hA (by omega)
   refine qa0 qa1 ?_
   simp [zS,happ1,hat3,hst3,qfl]
   have hel:=qrv x.attrs
   exact hj _ ⟨[(5,5),(4,4),(3,3),(2,2),(1,1),(0,0)],[(7,qan (x.attrs.map qem))],rfl,rfl,rfl,by simp [qb6,qay,qb2,qaf,qac,hTr],qxa hpr hp (.inr rfl) (fun σ=>by
    simp only [qb7,qay,qc1,if_true]
    refine .inl ⟨_,rfl,?_,by simp,hel.size⟩
    have hl:=hel.len
    rw [List.length_map] at hl
    unfold qeu
    rw [List.drop_zero,← hl,qdx]) (by simp [getF]) rfl rfl rfl rfl rfl rfl⟩
 have hst5:qj5 [AV.int .i64 up] 5 x.cs=some [qbw x.kind,qbw x.space,.str x.name,qb7 x.attrs,.str x.data,.int .i64 up,qbs x.kids]:=rfl
 repeat apply wq
 refine qa0 qa1 ?_
 simp [zS,hst5]
 repeat apply wq
 refine qa0 qa1 ?_
 simp [zS,hvl]
 have happ:=app_put (nc:=[qbw x.kind,qbw x.space,.str x.name,qb7 x.attrs,.str x.data,.int .i64 up,.nilS]) (A:=.cells [.nilS]) (B:=.cells [v0]) (C:=.cells [qa5 t]) (S:=.cells (bls seen)) hpr ho hpl rfl rfl (by omega)
 have sga:∀ A,(qb7 A).single=true:=fun _=>rfl
 have sgi:∀ i,(qbw i).single=true:=fun _=>rfl
 repeat apply wq
 refine qa0 qa1 ?_
 simp [zS,happ,qfl,sga,sgi]
 have hly:qj5 [.bool true] i (bls seen)=some (bls (seen.set i true)):=layB (by omega)
 have hxi:qb1 Tryz.prog 51 (.slc 1 0 t.length (.ex t.length)) (.int .i64 (i:Int))=some (.ptr 1 i):=by simp [qb1,qc0 i1]
 repeat apply wq
 refine qa0 qa1 ?_
 simp [zS,hly,hxi]
 repeat apply wq
 refine qa0 qa1 ?_
 simp [zS]
 obtain ⟨U,hU⟩ : ∃ U,U=pre++hdP up x:=⟨_,rfl⟩
 have hUp:qac U=true:=by rw [hU];exact qr7 hp (by simp [hdP,qac,qaf,qbw])
 have hUl:U.length=z * 7+6:=by rw [hU];simp [hdP,hpl]
 have e0:pre++[qbw x.kind,qbw x.space,.str x.name,qb7 x.attrs,.str x.data,.int .i64 up,.nilS]=U++[.nilS]:=by rw [hU];simp [hdP,qbw]
 rw [e0]
 obtain ⟨K,hK⟩ : ∃ K,K=x.kids:=⟨_,rfl⟩
 have hUn:=qke hsi
 obtain ⟨rec,hrec⟩ : ∃ rec,rec=fun (k:Int) (z':Nat) (s':List Bool)=>qpy F' t k (z:Int) z' s':=⟨_,rfl⟩
 obtain ⟨R,hR⟩ : ∃ R,R=qmt rec t.length K (z+1) (seen.set i true):=⟨_,rfl⟩
 have hfin:qpy (F'+1) t i up z seen=({ x with up:=up,kids:=R.1 }::R.2.1,R.2.2):=by rw [hR,hrec,hK,hxn];rfl
 rw [hfin]
 clear hfin happ hly hxi hst5 e0
 have gk:qcl x.cs 6=some (qbs K):=by rw [hK];rfl
 refine qa9 (qax (fun y:Nat × List Int × List Nd × List Bool=>(⟨[0,1,2,3,4,5,8,10,11,12,13,14],[.undef,.int .i64 i,.undef,.undef,.slc 1 0 t.length (.ex t.length),.ptr 2 0,.ptr 3 0,.ptr 4 0,.undef,.int .i64 (z:Int),.int .i64 (y.1:Int),.undef],[],99,⟨7,[hPR t (z+1+y.2.2.1.length) (U++lA 6 y.2.1::qan (y.2.2.1.map qaj)) y.2.2.2,lF 6 y.2.1]⟩⟩ : St))
  (fun y=>y.1≤K.length∧y.2.1.length≤y.1∧y.2.2.2.length=t.length∧y.2.2.1.length+qld y.2.2.2 < qld seen∧R=(y.2.1++(qmt rec t.length (K.drop y.1) (z+1+y.2.2.1.length) y.2.2.2).1,y.2.2.1++(qmt rec t.length (K.drop y.1) (z+1+y.2.2.1.length) y.2.2.2).2.1,(qmt rec t.length (K.drop y.1) (z+1+y.2.2.1.length) y.2.2.2).2.2))
  (fun y=>K.length - y.1) [(7,5),(8,6),(1,1),(2,2),(3,3),(4,4)] [] (0,[],[],seen.set i true) ⟨Nat.zero_le _,Nat.le_refl _,by simpa using hsl,by simp;omega,by simpa using hR⟩
  ⟨rfl,rfl,rfl,by simp [qb6,qay,qb2,qaf,qac],qkp (L:=[]) (W:=[]) (.inr ⟨rfl,rfl⟩) hUp rfl (by simp) (by simp [Heap.get,getFs,getF,lA,qjv]) (by simp [Heap.get,getFs,getF,lA,qjv]) (by simp [Heap.get,getFs,getF,lA,qjv]) (by simp [Heap.get,getFs,getF,lA,qjv]) (by simp [Heap.get,getFs,getF,lA,qjv]) (by simp)⟩ ?_)
 rintro ⟨j,L,D,s⟩ ⟨hj,hLj,hsn,hDu,hx⟩ B hB
 simp only at hj hLj hsn hDu hx ⊢
 have hrecS:∀ k z' s',s'.length=t.length→s'.getD k.toNat true=false→(rec k z' s').2.length=t.length∧(rec k z' s').1.length+qld (rec k z' s').2≤qld s':=fun k z' s' h1 h2=>by rw [hrec];exact qt2 F' t k z z' s' h1 h2
 have hW:=(qec D).pure
 have hWl:=(qec D).len
 by_cases h:j < K.length
 ·have hc:(j:Int) < (K.length:Int):=by omega
  have hik:=atI h
  have hac:=qba (show j≤1000000000 by rw [← hK] at hkl;omega)
  rw [List.drop_eq_getElem_cons h] at hx
  simp only [qmt] at hx
  generalize K[j]=k at *
  repeat apply wq
  refine qa0 qa1 ?_
  simp [zS,hix,gk,qm9,hc]
  refine qai (by simp [qbq,St.get,h]) ?_
  refine qa7 ?_
  simp
  repeat apply wq
  refine qa9 ?_
  repeat apply wq
  refine qa0 qa1 ?_
  simp [zS,hix,gk,hik]
  by_cases hA:0≤k∧k < (t.length:Int)∧s.getD k.toNat true=false
  ·obtain ⟨k0,k1,k2⟩:=hA
   rw [if_pos ⟨k0,k1,k2⟩] at hx
   obtain ⟨kn,rfl⟩ : ∃ kn:Nat,k=(kn:Int):=⟨k.toNat,by omega⟩
   simp only [Int.toNat_natCast] at k2 hx
   have kl:kn < t.length:=by omega
   have hks:s.getD kn true=s[kn]'(by omega):=by simp [List.getD,show kn < s.length by omega]
   have hgb:=getB (s:=s) (i:=kn) (by omega)
   rw [← hks,k2] at hgb
   have hxk:qb1 Tryz.prog 51 (.slc 1 0 t.length (.ex t.length)) (.int .i64 (kn:Int))=some (.ptr 1 kn):=by simp [qb1,qc0 kl]
   have lenT:∀ H,qe3 Tryz.prog H 22 (qa5 t)=some t.length:=fun H=>by simp [qe3]
   repeat apply wq
   refine qa0 qa1 ?_
   simp [zS,k0,k1,lenT,hxk,hgb]
   refine qai rfl ?_
   obtain ⟨sz,hsz⟩ : ∃ sz,sz=z+1+D.length:=⟨_,rfl⟩
   rw [← hsz] at hx ⊢
   obtain ⟨W,hWe⟩ : ∃ W,W=qan (D.map qaj):=⟨_,rfl⟩
   rw [← hWe] at hW hWl ⊢
   have hxz:∀ n,n=5→qb1 Tryz.prog 22 (.slc n 0 sz (.rest 7)) (.int .i64 (z:Int))=some (.ptr n (z * 7)):=fun n _=>by simp [qb1,qc0 (show z < sz by omega)]
   have gz:qcl (U++lA 6 L::W) (z * 7+6)=some (lA 6 L):=by
    rw [← hUl,ql1 (by simp),List.getElem_append_right (by omega)];simp
   have hl5:∀ H,qe3 Tryz.prog H 22 (.slc 5 0 sz (.rest 7))=some sz:=fun H=>by simp [qe3]
   have happk:=app_l (m:=24) (t:=19) (b:=6) (L:=L) (v:=(sz:Int)) (g1:=hPR t sz (U++lA 6 L::W) s) (g:=[]) (by rw [← hK] at hkl;omega) (by simp) (by simp)
   rw [List.append_nil] at happk
   have hlk:qj5 [.slc 24 0 (L.length+1) (.rest 1)] (z * 7+6) (U++lA 6 L::W)=some (U++.slc 24 0 (L.length+1) (.rest 1)::W):=by
    have:=qmy (a:=U) (b:=[lA 6 L]) (b':=[.slc 24 0 (L.length+1) (.rest 1)]) (c:=W) rfl
    rw [hUl] at this
    simpa using this
   repeat apply wq
   refine qcm qci qa1 (by decide +kernel) fun B_ hB_=>?_
   have d_1_13:ahead B_ 1 13=false:=by rw [hB_];decide +kernel
   have d_1_16:ahead B_ 1 16=true:=by rw [hB_];decide +kernel
   have d_4_13:ahead B_ 4 13=true:=by rw [hB_];decide +kernel
   have d_4_16:ahead B_ 4 16=true:=by rw [hB_];decide +kernel
   have d_8_13:ahead B_ 8 13=true:=by rw [hB_];decide +kernel
   have d_8_16:ahead B_ 8 16=true:=by rw [hB_];decide +kernel
   have d_10_13:ahead B_ 10 13=true:=by rw [hB_];decide +kernel
   have d_10_16:ahead B_ 10 16=true:=by rw [hB_];decide +kernel
   have d_11_13:ahead B_ 11 13=true:=by rw [hB_];decide +kernel
   have d_11_16:ahead B_ 11 16=true:=by rw [hB_];decide +kernel
   have d_12_13:ahead B_ 12 13=true:=by rw [hB_];decide +kernel
   have d_12_16:ahead B_ 12 16=true:=by rw [hB_];decide +kernel
   have d_13_1:ahead B_ 13 1=false:=by rw [hB_];decide +kernel
   have d_13_4:ahead B_ 13 4=false:=by rw [hB_];decide +kernel
   have d_13_8:ahead B_ 13 8=false:=by rw [hB_];decide +kernel
   have d_13_10:ahead B_ 13 10=false:=by rw [hB_];decide +kernel
   have d_13_11:ahead B_ 13 11=false:=by rw [hB_];decide +kernel
   have d_16_1:ahead B_ 16 1=false:=by rw [hB_];decide +kernel
   have d_16_4:ahead B_ 16 4=false:=by rw [hB_];decide +kernel
   have d_16_8:ahead B_ 16 8=false:=by rw [hB_];decide +kernel
   have d_16_10:ahead B_ 16 10=false:=by rw [hB_];decide +kernel
   have d_16_11:ahead B_ 16 11=false:=by rw [hB_];decide +kernel
   apply qlt B_
   simp [zS,qdg,qbz,qby,qbr,qaw,qb4,qb3,Heap.lay,qdp,qlr,qlq,qh1,qh0,qgv,qgy,qhg,qh5,qf8,qf9,qhb,qha,qh8,qh9,qhe,qhf,qhd,qhc,d_1_13,d_1_16,d_4_13,d_4_16,d_8_13,d_8_16,d_10_13,d_10_16,d_11_13,d_11_16,d_12_13,d_12_16,d_13_1,d_13_4,d_13_8,d_13_10,d_13_11,d_16_1,d_16_4,d_16_8,d_16_10,d_16_11,hxz,gz,hl5,happk,hlk,qfl]
   exact rfl
   refine ⟨_,rfl,?_,?_⟩
   simp [zS,qbr,qaw,qch,qcp,qdz,d_1_13,d_1_16,d_4_13,d_4_16,d_8_13,d_8_16,d_10_13,d_10_16,d_11_13,d_11_16,d_12_13,d_12_16,d_13_1,d_13_4,d_13_8,d_13_10,d_13_11,d_16_1,d_16_4,d_16_8,d_16_10,d_16_11,hxz,gz,hl5,happk,hlk,qfl]
   simp [qcb,Heap.lay,qdp,qaa]
   have hsU:=hrecS kn sz s hsn (by simpa using k2)
   have hle:qld s≤F':=by omega
   obtain ⟨ra,hra⟩ : ∃ ra,ra=rec kn sz s:=⟨_,rfl⟩
   have hcall:=put_in (C:=ctx T) (f:=29) (N:=25) (t:=t) (k:=(kn:Int)) (up:=(z:Int)) (sz:=sz) (n:=t.length) (q:=sz+ra.1.length) (s:=s) (s':=ra.2) (cs:=qan (ra.1.map qaj)) (P:=U++.slc 24 0 (L.length+1) (.rest 1)::W)
    (g:=[(24,.cells (qbu (L++[(sz:Int)]))),(19,.cells [.int .i64 (sz:Int)]),(3,.cells [.slc 5 0 sz (.rest 7)]),(2,.cells [qa5 t]),(4,.cells [.nilS])]) (by omega) (by
     have hsU:allSingle (hdP up x)=true:=rfl
     have hsW:allSingle (.slc 24 0 (L.length+1) (.rest 1)::W)=true:=by rw [hWe];exact qm5 D
     rw [qdr,hU,qdr,hs,hsU,hsW];rfl) (by simp) (by simp) (qec _).pure
    (fun pre' hp' hs' hl'=>by
     have:=ih kn (z:Int) sz s pre' (some ()) (by simp) hp' hs' (by rw [hl',hsz];simp [hUl,hWl];omega) kl hsn (by simpa using k2) (by omega) hle
     rw [hra,hrec]
     simpa [pR] using this)
   have hcall:=hcall.perm (H2:=⟨25,[[(24,.cells (qbu (L++[(sz:Int)]))),(19,.cells [.int .i64 (sz:Int)]),(5,.cells (U++.slc 24 0 (L.length+1) (.rest 1)::W)),(1,.cells (bls s)),(3,.cells [.slc 5 0 sz (.rest 7)]),(2,.cells [qa5 t]),(4,.cells [.nilS])],[]]⟩)
    (H2':=⟨26,[[(25,.cells (U++.slc 24 0 (L.length+1) (.rest 1)::W++qan (ra.1.map qaj))),(1,.cells (bls ra.2)),(24,.cells (qbu (L++[(sz:Int)]))),(19,.cells [.int .i64 (sz:Int)]),(3,.cells [.slc 5 0 sz (.rest 7)]),(2,.cells [qa5 t]),(4,.cells [.nilS])],[]]⟩) rfl rfl
    (by
     simp only [Heap.ents,List.flatten_cons,List.flatten_nil,List.append_nil]
     exact (List.perm_append_comm (l₁:=[_,_]) (l₂:=[_,_])).append_right _) (by simp only [Heap.ents,List.flatten_cons,List.flatten_nil,List.append_nil];exact List.Perm.refl _)
   refine qa0 (qca [⟨29,_,_,_,_,hcall⟩]) ?_
   simp [zS,qdb,qam,qfl]
   refine qa0 qa1 ?_
   simp [zS,hac]
   rw [← hra] at hx hsU
   have eW:qan ((D++ra.1).map qaj)=W++qan (ra.1.map qaj):=by rw [List.map_append,qdl,hWe]
   have eS:z+1+(D++ra.1).length=sz+ra.1.length:=by rw [List.length_append];omega
   refine hB _ (j+1,L++[(sz:Int)],D++ra.1,ra.2) (by simp only;omega) ⟨by simp only;omega,by simp;omega,by simpa using hsU.1,by simp;omega,?_⟩ ⟨[(25,5),(24,6),(1,1),(2,2),(3,3),(4,4)],[],rfl,rfl,rfl,by simp [qb6,qay,qb2,qaf,qac],?_⟩
   ·simp only
    rw [eS,hx]
    simp
   ·simp only
    rw [eS,eW]
    refine qkp (.inl (qto (by simp)).symm) hUp (qr7 hW (qec _).pure) (by simp) ?_ ?_ ?_ ?_ ?_ ?_ <;> simp [Heap.get,getFs,getF]
  ·rw [if_neg hA] at hx
   have lenT:∀ H,qe3 Tryz.prog H 22 (qa5 t)=some t.length:=fun H=>by simp [qe3]
   by_cases q0:0≤k
   ·by_cases q1:k < (t.length:Int)
    ·obtain ⟨kn,rfl⟩ : ∃ kn:Nat,k=(kn:Int):=⟨k.toNat,by omega⟩
     simp only [Int.toNat_natCast] at hA
     have kl:kn < t.length:=by omega
     have hks:s.getD kn true=s[kn]'(by omega):=by simp [List.getD,show kn < s.length by omega]
     have hgb:=getB (s:=s) (i:=kn) (by omega)
     have k2:s.getD kn true=true:=by
      cases hq:s.getD kn true with
      | true=>rfl
      | false=>exact absurd ⟨q0,q1,hq⟩ hA
     rw [← hks,k2] at hgb
     have hxk:qb1 Tryz.prog 51 (.slc 1 0 t.length (.ex t.length)) (.int .i64 (kn:Int))=some (.ptr 1 kn):=by simp [qb1,qc0 kl]
     repeat apply wq
     refine qa0 qa1 ?_
     simp [zS,q0,q1,lenT,hxk,hgb]
     refine qal rfl ?_
     refine qa7 ?_
     simp
     refine qa0 qa1 ?_
     simp [zS,hac]
     refine hB _ (j+1,L,D,s) (by simp only;omega) ⟨by simp only;omega,by simp only;omega,hsn,hDu,hx⟩ ⟨[(5,5),(6,6),(1,1),(2,2),(3,3),(4,4)],[],rfl,rfl,rfl,by simp [qb6,qay,qb2,qaf,qac],?_⟩
     exact qkp (.inl rfl) hUp hW (by simp) (by simp [Heap.get,getFs,getF]) (by simp [Heap.get,getFs,getF]) (by simp [Heap.get,getFs,getF]) (by simp [Heap.get,getFs,getF]) (by simp [Heap.get,getFs,getF]) (fun hL=>by rw [qie hL];simp [Heap.get,getFs,getF])
    ·repeat apply wq
     refine qa0 qa1 ?_
     simp [zS,q0,q1,lenT]
     refine qal rfl ?_
     refine qa7 ?_
     simp
     refine qa0 qa1 ?_
     simp [zS,hac]
     refine hB _ (j+1,L,D,s) (by simp only;omega) ⟨by simp only;omega,by simp only;omega,hsn,hDu,hx⟩ ⟨[(5,5),(6,6),(1,1),(2,2),(3,3),(4,4)],[],rfl,rfl,rfl,by simp [qb6,qay,qb2,qaf,qac],?_⟩
     exact qkp (.inl rfl) hUp hW (by simp) (by simp [Heap.get,getFs,getF]) (by simp [Heap.get,getFs,getF]) (by simp [Heap.get,getFs,getF]) (by simp [Heap.get,getFs,getF]) (by simp [Heap.get,getFs,getF]) (fun hL=>by rw [qie hL];simp [Heap.get,getFs,getF])
   ·repeat apply wq
    refine qa0 qa1 ?_
    simp [zS,q0,lenT]
    refine qal rfl ?_
    refine qa7 ?_
    simp
    refine qa0 qa1 ?_
    simp [zS,hac]
    refine hB _ (j+1,L,D,s) (by simp only;omega) ⟨by simp only;omega,by simp only;omega,hsn,hDu,hx⟩ ⟨[(5,5),(6,6),(1,1),(2,2),(3,3),(4,4)],[],rfl,rfl,rfl,by simp [qb6,qay,qb2,qaf,qac],?_⟩
    exact qkp (.inl rfl) hUp hW (by simp) (by simp [Heap.get,getFs,getF]) (by simp [Heap.get,getFs,getF]) (by simp [Heap.get,getFs,getF]) (by simp [Heap.get,getFs,getF]) (by simp [Heap.get,getFs,getF]) (fun hL=>by rw [qie hL];simp [Heap.get,getFs,getF])
 ·have hc:¬ (j:Int) < (K.length:Int):=by omega
  rw [List.drop_eq_nil_of_le (by omega)] at hx
  simp only [qmt,List.append_nil] at hx
  repeat apply wq
  refine qa0 qa1 ?_
  simp [zS,hix,gk,qm9,hc]
  refine qal (by simp [qbq,St.get,h]) ?_
  refine qat ?_
  simp
  repeat apply wq
  refine qa0 qa1 ?_
  simp [zS,qfl]
  refine qa8 ?_
  simp [qab,Tryz.f29,oneOr,qaa,qa2]
  rw [hx]
  obtain ⟨H',hH'⟩ : ∃ H':Heap,H'=⟨7,[[(5,.cells (U++lA 6 L::qan (D.map qaj))),(1,.cells (bls s)),(3,.cells [.slc 5 0 (z+1+D.length) (.rest 7)]),(2,.cells [qa5 t]),(4,.cells [.slc 5 0 (z+1+D.length) (.rest 7)])],lF 6 L]⟩:=⟨_,rfl⟩
  have hend:=put_fitE (sz:=z+1+D.length) (s:=s) (L:=L) (x:=x) (up:=up) (D:=D) (H:=H') hp (by rw [hU] at hH';rw [hH'];simp [Heap.get,getFs,getF]) (by rw [hH'];simp [Heap.get,getFs,getF]) (fun hL=>by rw [hH',qie hL];simp [Heap.get,getFs,getF])
  have hrd:readCells H' 4 0 1=some [.slc 5 0 (z+1+D.length) (.rest 7)]:=by rw [hH'];simp [readCells,Heap.get,getFs,getF,qeu,qed]
  rw [← hH',hrd]
  simp
  have e1:z+(D.length+1)=z+1+D.length:=by omega
  rw [e1]
  simpa using hend
def qnd (t:Tr):Tr:=(qpy t.length t 0 (-1) 0 (List.replicate t.length false)).1
theorem qmr:∀ (n:Nat),qld (List.replicate n false)=n
 | 0=>rfl
 | n+1=>by
  have:=qmr n
  simp only [qld,List.replicate_succ,List.count_cons] at this ⊢
  simp
theorem tidy_at {T:List (Entry Tryz.prog)} (t:Tr) (ht:okT t) (hne:t≠[]) :
  CallAt (ctx T) 10 [qam t] ⟨0,[]⟩ (qam (qnd t)) ⟨0,[]⟩:=by
 have hpos:0 < t.length:=List.length_pos_iff.2 hne
 have htl:=ht.ok.1
 have hz:¬ (t.length:Int)=0:=by omega
 have lenT:∀ H,qe3 Tryz.prog H 22 (qa5 t)=some t.length:=fun H=>by simp [qe3]
 have hput:=put_at (T:=T) t ht t.length 0 (-1) 0 (List.replicate t.length false) [] none (fun _=>⟨rfl,rfl⟩) rfl rfl rfl hpos (by simp) (by simp [List.getD,hpos]) (by rw [qmr];omega) (by rw [qmr];omega)
 obtain ⟨a,ha⟩ : ∃ a,a=qpy t.length t 0 (-1) 0 (List.replicate t.length false):=⟨_,rfl⟩
 have hTt:qnd t=a.1:=by rw [ha];rfl
 have e0:((0:Nat):Int)=0:=rfl
 rw [e0,← ha] at hput
 have hb:=qfa (List.replicate t.length false)
 have hb':=qfa a.2
 have hf:FitH 0 [(7,1)] [] ⟨10,[[(7,.cells (bls (List.replicate t.length false))),(1,.cells [.nilS]),(0,.cells [qa5 t])]]⟩ ⟨2,[[(1,.cells (bls (List.replicate t.length false)))]]⟩:={
  nd1:=by simp
  nd2:=by simp
  nd3:=by simp [Heap.ents]
  lt:=by simp
  idn:=by simp
  num:=by simp
  src:=by
   intro e he
   simp [Heap.ents] at he
   subst he
   exact ⟨7,.cells (bls (List.replicate t.length false)),by simp,by simp [Heap.get,getFs,getF],qak hb⟩
  frz:=fun x h=>by cases h }
 have hcall:=CallAt.framed (H':=⟨11,[[(10,.cells (qan (a.1.map qaj))),(7,.cells (bls a.2)),(1,.cells [.nilS]),(0,.cells [qa5 t])]]⟩) (args:=[qam t,.int .i64 0,.int .i64 (-1),.agg [.nilS],.slc 7 0 t.length (.ex t.length)]) hput hf (by
  have ht:qay [(7,1)] [] (qam t) (qam t):=qbb (by simp)
  simp [pR,qb6,qay,qb2,ht,qaf]) (by
  refine ⟨by simp,fun _ _=>by simp [Heap.ents],?_⟩
  intro e he
  have hc:=qcr (qfs [(7,1)] 10 2) (qec a.1).pure
  have hs':=qcr (qfs [(7,1)] 10 2) hb'
  simp [Heap.ents] at he
  rcases he with rfl | rfl | rfl | rfl
  ·exact .inl ⟨(2,.cells (qan (a.1.map qaj))),by simp [Heap.ents],by simp [qpw,hc];simp [qfs,qdk]⟩
  ·exact .inl ⟨(1,.cells (bls a.2)),by simp [Heap.ents],by simp [qpw,hs'];simp [qfs,qdk]⟩
  ·exact .inr ⟨by simp [Heap.ents],by simp⟩
  ·exact .inr ⟨by simp [Heap.ents],by simp⟩) (by simp)
 simp only [qk9,qhy,qfs,qdk] at hcall
 clear hput hf
 refine qa3 (fn:=Tryz.f10) (s0:=⟨[0,1,2],[qam t,.undef,.undef],[],15,⟨0,[]::[]⟩⟩) Tryz.func10 rfl rfl rfl ?_
 repeat apply wq
 refine qa0 qa1 ?_
 simp [zS]
 repeat apply wq
 refine qa0 qa1 ?_
 simp [zS,lenT,hz]
 refine qal (by simp [qbq,St.get,hz,hne]) ?_
 refine qa7 ?_
 simp
 have hms:=msBool (n:=t.length) (by omega)
 have bld:qff Tryz.prog 24 []=some (.agg [.nilS]):=rfl
 repeat apply wq
 refine qcm qci (qca [⟨29,_,_,_,_,hcall⟩]) (by decide +kernel) fun B_ hB_=>?_
 have d_0_6:ahead B_ 0 6=true:=by rw [hB_];decide +kernel
 have d_0_7:ahead B_ 0 7=true:=by rw [hB_];decide +kernel
 have d_3_6:ahead B_ 3 6=true:=by rw [hB_];decide +kernel
 have d_3_7:ahead B_ 3 7=true:=by rw [hB_];decide +kernel
 have d_4_6:ahead B_ 4 6=true:=by rw [hB_];decide +kernel
 have d_4_7:ahead B_ 4 7=true:=by rw [hB_];decide +kernel
 have d_5_6:ahead B_ 5 6=true:=by rw [hB_];decide +kernel
 have d_5_7:ahead B_ 5 7=true:=by rw [hB_];decide +kernel
 have d_6_0:ahead B_ 6 0=false:=by rw [hB_];decide +kernel
 have d_6_3:ahead B_ 6 3=false:=by rw [hB_];decide +kernel
 have d_6_4:ahead B_ 6 4=false:=by rw [hB_];decide +kernel
 have d_7_0:ahead B_ 7 0=false:=by rw [hB_];decide +kernel
 have d_7_3:ahead B_ 7 3=false:=by rw [hB_];decide +kernel
 have d_7_4:ahead B_ 7 4=false:=by rw [hB_];decide +kernel
 apply qlt B_
 simp [zS,qdg,qbz,qby,qbr,qaw,qb4,qb3,Heap.lay,qdp,qlr,qlq,qh1,qh0,qgv,qgy,qhg,qh5,qf8,qf9,qhb,qha,qh8,qh9,qhe,qhf,qhd,qhc,d_0_6,d_0_7,d_3_6,d_3_7,d_4_6,d_4_7,d_5_6,d_5_7,d_6_0,d_6_3,d_6_4,d_7_0,d_7_3,d_7_4,qdb,lenT,hms,qfl,bld,qam]
 exact rfl
 refine ⟨_,rfl,?_,?_⟩
 simp [zS,qbr,qaw,qch,qcp,qdz,d_0_6,d_0_7,d_3_6,d_3_7,d_4_6,d_4_7,d_5_6,d_5_7,d_6_0,d_6_3,d_6_4,d_7_0,d_7_3,d_7_4,qdb,lenT,hms,qfl,bld,qam]
 simp [qcb,Heap.lay,qdp,qaa]
 refine qa8 ?_
 simp [qab,Tryz.f10,oneOr]
 have el:=qec a.1
 have hl:=el.len
 rw [List.length_map] at hl
 have hsub:qeu 0 (a.1.length * 7) (qan (a.1.map qaj))=some (qan (a.1.map qaj)):=by
  unfold qeu
  rw [List.drop_zero,← hl,qdx]
 have hpf:=el.pure
 have hsz:=el.size
 rw [hTt]
 show ∃ vs,_∧∃ σ Φ,qay σ Φ _ (.agg [.fslc 7 (a.1.map qaj)])∧_
 have hml:(a.1.map qaj).length=a.1.length:=by simp
 generalize hM:a.1.map qaj=M at *
 generalize hF:qan M=F at *
 simp [readCells,Heap.get,getFs,getF,qeu,qed]
 refine ⟨[],[(10,F)],?_,?_⟩
 ·simp only [qay,qb6,qc1,if_true]
  exact .inl ⟨.inl ⟨F,rfl,by rw [hsub,hF],hml,hsz⟩,trivial⟩
 ·exact {
   nd1:=by simp
   nd2:=by simp
   nd3:=by simp [Heap.ents]
   lt:=by simp
   idn:=by simp
   num:=by simp
   src:=by intro e he;simp [Heap.ents] at he
   frz:=fun y hy=>by
    simp at hy;subst hy
    exact ⟨F,by simp [Heap.get,getFs,getF],qak hpf,hpf⟩ }
theorem c10 {T:List (Entry Tryz.prog)} (t:Tr) (h:okT t) (hne:t≠[]):CallAt (ctx T) 10 [qam t] ⟨0,[]⟩ (qam (qnd t)) ⟨0,[]⟩:=by
 exact tidy_at t h hne
theorem inj_10 (x y:Tr) (h:(fun z:Tr=>([qam z]:List AV)) x=(fun z:Tr=>([qam z]:List AV)) y):x=y:=by
 simp only [List.cons.injEq,and_true] at h
 exact qde h
noncomputable def e10:Entry Tryz.prog:=mkE 10 [[7]] (fun z:Tr=>[qam z]) (fun z=>(okT z)∧(z≠[])) (fun z=>qam (qnd z)) fun z h=>c10 (T:=[])  z h.1 h.2
theorem k10 {T:List (Entry Tryz.prog)} (hT:qag 10 T=some e10.g) (t:Tr) (h:okT t) (hne:t≠[]) (H:Heap):qb9 (ctx T) (.fn 10) [qam t] H=some (qam (qnd t),H):=
 qdd hT inj_10 (t) ⟨h,hne⟩ (by simp [qac,qaf,qar]) (by simp [qar]) H
theorem qv7 {t:Tr} {rec:Int→Nat→List Bool→List Nd × List Bool} (hrec:∀ k z s,0≤k→k < (t.length:Int)→∀ n,n∈(rec k z s).1→∃ m,m∈t∧n.attrs=m.attrs):∀ (K:List Int) (z:Nat) (s:List Bool),∀ n,n∈(qmt rec t.length K z s).2.1→∃ m,m∈t∧n.attrs=m.attrs
 | [],z,s,n,h=>by simp [qmt] at h
 | k::r,z,s,n,h=>by
  unfold qmt at h
  split at h
  ·rename_i hc
   rcases List.mem_append.1 h with h | h
   ·exact hrec k z s hc.1 hc.2.1 n h
   ·exact qv7 hrec r _ _ n h
  ·exact qv7 hrec r z s n h
theorem zbe (t:Tr):∀ (f:Nat) (i up:Int) (z:Nat) (s:List Bool),0≤i→i < (t.length:Int)→∀ n,n∈(qpy f t i up z s).1→∃ m,m∈t∧n.attrs=m.attrs
 | 0,i,up,z,s,_,_,n,h=>by simp [qpy] at h
 | f+1,i,up,z,s,h0,h1,n,h=>by
  unfold qpy at h
  rcases List.mem_cons.1 h with rfl | h
  ·exact ⟨qa6 t i,qcj h0 h1,rfl⟩
  ·exact qv7 (fun k z' s' a b=>zbe t f k z z' s' a b) _ _ _ n h
theorem tidy_at_ {t:Tr} (h:t≠[]) (n:Nd) (hn:n∈qnd t):∃ m,m∈t∧n.attrs=m.attrs:=
 zbe t _ _ _ _ _ (by omega) (by have:=List.length_pos_iff.2 h;omega) n hn
theorem right_kd {t:Tr} (h:qbp t=true):∀ n,n∈t→∀ k,k∈n.kids→0≤k∧k < (t.length:Int):=by
 intro n hn k hk
 obtain ⟨i,hi,rfl⟩:=List.getElem_of_mem hn
 have hok:qi3 t i=true:=by
  cases hb:qi3 t i with
  | true=>rfl
  | false=>rw [qdo hi hb] at h;cases h
 have hnd:qa6 t (i:Int)=t[i]:=qc3 hi
 simp only [qi3,Bool.and_eq_true,Bool.not_eq_true'] at hok
 have:=hok.2.2
 rw [hnd] at this
 have h1:=List.any_eq_false.1 this k hk
 simp only [qsd,Bool.or_eq_true,decide_eq_true_eq,not_or] at h1
 omega
theorem qr0 {t:Tr} (h:qbp t=true):t≠[]:=by
 rintro rfl
 simp [qbp] at h
theorem qx3 {t:Tr} (h:qbp t=true) (ht:qmj t) (hn:∀ n,n∈t→okN n):okT t:=⟨ht,hn,right_kd h⟩
def rootB (n:Nd):Bool:=decide (n.name=[]) && (decide (n.attrs=[]) && (decide (n.data=[]) && decide (n.space=0)))
def qku (t:Tr) (i:Nat):Bool:=((List.range t.length).drop i).all (qva t)
theorem onesF_c {t:Tr} {i:Nat} (h:i < t.length):qku t i=(qva t i && qku t (i+1)):=by
 unfold qku
 rw [List.drop_eq_getElem_cons (by simpa using h)]
 simp
theorem onesF_n {t:Tr} {i:Nat} (h:¬ i < t.length):qku t i=true:=by
 unfold qku
 rw [List.drop_eq_nil_of_le (by simp;omega)];rfl
def qsg (t:Tr):Bool:=qbp t && (decide (t=qnd t) && (rootB (qa6 t 0) && qku t 1))
theorem qlp {t:Tr} {H:Heap} (h:H.get 0=some (.cells [qa5 t])):FitH 0 [(0,0)] [] H ⟨1,[[(0,.cells [qa5 t])]]⟩ where
 nd1:=by simp
 nd2:=by simp
 nd3:=by simp [Heap.ents]
 lt:=by simp
 idn:=by simp
 num:=by simp
 src:=by
  intro e he
  have hN:=qd9 t
  simp [Heap.ents] at he
  subst he
  exact ⟨0,.cells [qa5 t],by simp,h,qak (by simp [qac])⟩
 frz:=fun x h=>by cases h
theorem c8 {T:List (Entry Tryz.prog)} (hc0:qag 25 T=some e25.g) (hc1:qag 10 T=some e10.g) (hc2:qag 26 T=some e26.g) (hc3:qag 27 T=some e27.g) (t:Tr) (ht:qmj t) (hn:∀ n,n∈t→okN n):CallAt (ctx T) 8 [qam t] ⟨0,[]⟩ (.bool (qsg t)) ⟨0,[]⟩:=by
 have kc0:=@k25 T hc0
 have kc1:=@k10 T hc1
 have kc2:=@k26 T hc2
 have kc3:=@k27 T hc3
 have k0:=fun H=>kc0 ht H
 simp only [qam] at k0
 obtain ⟨R,hR⟩ : ∃ R,R=qsg t:=⟨_,rfl⟩
 rw [← hR]
 unfold qsg at hR
 cases hr:qbp t with
 | false=>
  rw [hr] at k0 hR
  simp only [Bool.false_and] at hR
  refine qa3 (fn:=Tryz.f8) (s0:=⟨[0,1,2,3,4],[qam t,.undef,.undef,.undef,.undef],[],49,⟨0,[[]]⟩⟩) Tryz.func8 rfl rfl rfl ?_
  (repeat' (first
   | with_reducible refine qah ?_
   | (with_reducible refine qa0 qa1 ?_;apply qbn;simp [zS, *,qam,qao];exact rfl)
   | (refine qbh qci qa1 (by decide +kernel) (by decide +kernel) ?_;apply qbn;simp [zS,qbx,qbd,qb8, *,qam,qao];exact rfl)
   | (with_reducible refine qas ?_;simp only [qaa,qa2])
   | (refine qai rfl ?_)
   | (with_reducible refine qa8 ?_;simp [qab,Tryz.f8,oneOr,qaa,qa2])))
  all_goals first | exact qa4 rfl (by rw [hR]) | (exfalso;omega)
 | true=>
  have hok:=qx3 hr ht hn
  have hne:=qr0 hr
  have hpos:0 < t.length:=List.length_pos_iff.2 hne
  rw [hr] at k0 hR
  have k1:=fun H=>kc1 t hok hne H
  have lenT:∀ H,qe3 Tryz.prog H 22 (qa5 t)=some t.length:=fun H=>by simp [qe3]
  have hix:=atX (t:=t) (i:=0) (by omega) (by omega)
  have k2:=fun H=>kc2 t (qnd t) (by have:=ht.1;omega) (fun n hn=>by have:=ht.2 n hn;omega) (fun n hn=>by
   obtain ⟨m,hm,e⟩:=tidy_at_ hne n hn
   have:=(ht.2 m hm).2
   rw [e];exact this) H
  simp only [qam] at k1 k2
  have hroot:rootB (qa6 t 0)=(decide ((qa6 t 0).name=[]) && (decide ((qa6 t 0).attrs=[]) && (decide ((qa6 t 0).data=[]) && decide ((qa6 t 0).space=0)))):=rfl
  have hal:((qa6 t 0).attrs.length:Int)=0↔(qa6 t 0).attrs=[]:=by rw [← List.length_eq_zero_iff];omega
  have la:∀ H,qe3 Tryz.prog H 28 (qb7 (qa6 t 0).attrs)=some (qa6 t 0).attrs.length:=fun H=>qfo
  obtain ⟨b1,hb1⟩ : ∃ b1,b1=decide (t=qnd t):=⟨_,rfl⟩
  rw [← hb1] at k2 hR
  rw [hroot] at hR
  obtain ⟨b2,hb2⟩ : ∃ b2,b2=qku t 1:=⟨_,rfl⟩
  rw [← hb2] at hR
  clear hroot hb1
  obtain ⟨x,hx⟩ : ∃ x,x=qa6 t 0:=⟨_,rfl⟩
  rw [← hx] at hR hix hal la
  clear kc0 kc1 kc2 hc0 hc1 hc2
  clear hx
  refine qa3 (fn:=Tryz.f8) (s0:=⟨[0,1,2,3,4],[qam t,.undef,.undef,.undef,.undef],[],49,⟨0,[[]]⟩⟩) Tryz.func8 rfl rfl rfl ?_
  have hb3:qwh (b2=qku t 1):=hb2
  clear hb2
  (repeat' (first
   | with_reducible refine qah ?_
   | with_reducible refine qa9 ?_
   | (with_reducible refine qa0 qa1 ?_;apply qbn;simp [zS, *,qam,qao];exact rfl)
   | (refine qbh qci qa1 (by decide +kernel) (by decide +kernel) ?_;apply qbn;simp [zS,qbx,qbd,qb8, *,qam,qao];exact rfl)
   | (with_reducible refine qas ?_;simp only [qaa,qa2])
   | (with_reducible refine qaz (fun hc=>?_) (fun hc=>?_) <;> ((have hd:=hc);(try simp at hd);(try subst hd);apply qbn;simp [zS, *,qam,qao];exact rfl))
   | (refine qai rfl ?_)
   | (refine qau rfl (fun hc=>?_) (fun hc=>?_) <;> ((have hd:=hc);(try simp at hd);(try subst hd)))
   | (with_reducible refine qa7 ?_;simp only [qaa,qa2])
   | (with_reducible refine qa8 ?_;simp [qab,Tryz.f8,oneOr,qaa,qa2])))
  all_goals first | exact qa4 rfl (by rw [hR];first | (simp [*];done) | (have hq:¬ x.attrs=[]:=List.length_pos_iff.1 (by assumption);simp [*];done) | (simp_all;done)) | (skip) | (exfalso;omega)
  have hRR:R=qku t 1:=by rw [hR];simp [*];exact hb3
  clear hR hal hix la k0 k1 k2
  refine qax (fun i:Nat=>(⟨[0,1,2,3,4],[.undef,.ptr 0 0,.bool false,.undef,.int .i64 (i:Int)],[],49,⟨1,[[(0,.cells [qa5 t])]]⟩⟩ : St))
   (fun i=>1≤i∧i≤t.length∧R=qku t i) (fun i=>t.length - i) [(0,0)] [] 1 ⟨Nat.le_refl _,by omega,hRR⟩
   ⟨rfl,rfl,rfl,by simp [qb6,qay,qb2,qaf,qac],qlp (t:=t) (by simp [Heap.get,getFs,getF])⟩ ?_
  rintro i ⟨i1,hi,hxr⟩ S hS
  by_cases h:i < t.length
  ·have hc:(i:Int) < (t.length:Int):=by omega
   have hak:=qba (show i≤1000000000 by have:=ht.1;omega)
   have k3:=fun H=>kc3 t i hok h H
   simp only [qam] at k3
   rw [onesF_c h] at hxr
   obtain ⟨b3,hb3⟩ : ∃ b3,b3=qku t (i+1):=⟨_,rfl⟩
   rw [← hb3] at hxr
   have hb4:qwh (b3=qku t (i+1)):=hb3
   clear hb3 kc3 hRR
   generalize qva t i=b1 at *
   (repeat' (first
    | with_reducible refine qah ?_
    | with_reducible refine qa9 ?_
    | (with_reducible refine qa0 qa1 ?_;apply qbn;simp [zS, *,qam];exact rfl)
    | (with_reducible refine qas ?_;simp only [qaa,qa2])
    | (refine qai rfl ?_)
    | (refine qau rfl (fun hc=>?_) (fun hc=>?_) <;> ((have hd:=hc);(try simp at hd);(try subst hd)))
    | (with_reducible refine qa7 ?_;simp only [qaa,qa2])
    | (with_reducible refine qa8 ?_;simp [qab,Tryz.f8,oneOr,qaa,qa2])))
   all_goals first | exact qa4 rfl (by rw [hxr];simp [*]) | (exact hS _ (i+1) (by omega) ⟨by omega,by omega,by rw [hxr];simp [*];exact hb4⟩ ⟨[(0,0)],[],rfl,rfl,rfl,by simp [qb6,qay,qb2,qaf,qac],qlp (t:=t) (by simp [Heap.get,getFs,getF])⟩) | (exfalso;omega)
  ·have hc:¬ (i:Int) < (t.length:Int):=by omega
   rw [onesF_n h] at hxr
   (repeat' (first
    | with_reducible refine qah ?_
    | (with_reducible refine qa0 qa1 ?_;apply qbn;simp [zS, *,qam];exact rfl)
    | (with_reducible refine qas ?_;simp only [qaa,qa2])
    | (refine qal rfl ?_)
    | (with_reducible refine qat ?_;simp [qaa,qa2])
    | (with_reducible refine qa8 ?_;simp [qab,Tryz.f8,oneOr,qaa,qa2])))
   all_goals first | exact qa4 rfl (by rw [hxr]) | (exfalso;omega)
theorem inj_8 (x y:Tr) (h:(fun z:Tr=>([qam z]:List AV)) x=(fun z:Tr=>([qam z]:List AV)) y):x=y:=by
 simp only [List.cons.injEq,and_true] at h
 exact qde h
noncomputable def e8:Entry Tryz.prog:=mkE 8 [[7]] (fun z:Tr=>[qam z]) (fun z=>(qmj z)∧(∀ n,n∈z→okN n)) (fun z=>.bool (qsg z)) fun z h=>c8 (T:=[e25,e10,e26,e27]) rfl rfl rfl rfl z h.1 h.2
theorem k8 {T:List (Entry Tryz.prog)} (hT:qag 8 T=some e8.g) (t:Tr) (ht:qmj t) (hn:∀ n,n∈t→okN n) (H:Heap):qb9 (ctx T) (.fn 8) [qam t] H=some (.bool (qsg t),H):=
 qae hT inj_8 (t) ⟨ht,hn⟩ rfl (by simp [qar])
def qif (rec:List Nd→Int→Bool) (t:Tr) (P:List Nd):List Int→Bool→Int→Bool
 | [],_,_=>true
 | k::r,fst,last=>
  if (qa6 t k).kind=1 then (decide ((qa6 t k).data=[]) && qti P (qa6 t k) && qfg (qa6 t k) && rec (P++[qa6 t k]) k) && qif rec t P r false 1
  else if (qa6 t k).kind=2 then (!decide (last=2) && qeh P (qa6 t k).data && qd1 (qa6 t k) && !(fst && lfB (qa6 t k).data && elB (qap P) [112,114,101,32,116,101,120,116,97,114,101,97])) && qif rec t P r false 2
  else false
def qig:Nat→Tr→List Nd→Int→Bool
 | 0,_,_,_=>false
 | f+1,t,P,i=>qif (qig f t) t P (qa6 t i).kids true (-1)
def fits:Nat→Tr→Int→Prop
 | 0,_,_=>False
 | f+1,t,i=>∀ k,k∈(qa6 t i).kids→(qa6 t k).kind=1→fits f t k
def kH (t:Tr):Option (List Nd)→Heap
 | none=>⟨3,[[]]⟩
 | some P=>⟨3,[kR t 2 (some P)]⟩
theorem qij {σ:List (Nat × Nat)} {Φ:List (Nat × List AV)} (P:List Nd):qb6 σ Φ (qan (P.map qaj)) (qan (P.map qaj)):=qak (qkr P)
theorem zdw {C:Ctx} {f:FuncId} {t:Tr} {Q:List Nd} {k:Int} {b:Bool} {x y:List AV} (h:CallAt C f [.ptr 0 0,.int .i64 k] ⟨2,[kR t 1 (some Q)]⟩ (.bool b) (kH t (some Q))) :
  CallAt C f [.ptr 0 0,.int .i64 k] ⟨33,[[(27,.cells x),(3,.cells y)],[(32,.cells (qan (Q.map qaj))),(0,.cells [qa5 t,.slc 32 0 Q.length (.rest 7)])]]⟩ (.bool b)
   ⟨34,[[(27,.cells x),(3,.cells y)],[(33,.cells (qan (Q.map qaj))),(0,.cells [qa5 t,.slc 33 0 Q.length (.rest 7)])]]⟩:=by
 have hf:FitH 0 [(0,0),(32,1)] [] ⟨33,[[(27,.cells x),(3,.cells y)],[(32,.cells (qan (Q.map qaj))),(0,.cells [qa5 t,.slc 32 0 Q.length (.rest 7)])]]⟩ ⟨2,[kR t 1 (some Q)]⟩:={
  nd1:=by simp
  nd2:=by simp
  nd3:=by simp [kR,Heap.ents]
  lt:=by simp
  idn:=by simp
  num:=by simp
  src:=by
   intro e he
   simp [kR,Heap.ents] at he
   rcases he with rfl | rfl
   ·exact ⟨32,.cells (qan (Q.map qaj)),by simp,by simp [Heap.get,getFs,getF],qij Q⟩
   ·exact ⟨0,.cells [qa5 t,.slc 32 0 Q.length (.rest 7)],by simp,by simp [Heap.get,getFs,getF],by simp [qi0,qb6,qay,qb2,qaf,qac]⟩
  frz:=fun x h=>by cases h }
 have:=h.framed (H':=⟨34,[[(27,.cells x),(3,.cells y)],[(33,.cells (qan (Q.map qaj))),(0,.cells [qa5 t,.slc 33 0 Q.length (.rest 7)])]]⟩) (args:=[.ptr 0 0,.int .i64 k]) hf (by simp [qb6,qay,qb2,qaf]) ?_ (by simp [kH])
 ·simpa [qk9] using this
 ·refine ⟨by simp [kH],by simp [Heap.ents],?_⟩
  intro e he
  have hN:=qgx (qfs [(0,0),(32,1)] 33 2) (qd9 t)
  have hQ:=qcr (qfs [(0,0),(32,1)] 33 2) (qkr Q)
  simp [Heap.ents] at he
  rcases he with rfl | rfl | rfl | rfl
  ·exact .inr ⟨by simp [Heap.ents],by simp⟩
  ·exact .inr ⟨by simp [Heap.ents],by simp⟩
  ·exact .inl ⟨(2,.cells (qan (Q.map qaj))),by simp [kH,kR,Heap.ents],by simp [qpw,hQ];simp [qfs,qdk]⟩
  ·exact .inl ⟨(0,.cells [qa5 t,.slc 2 0 Q.length (.rest 7)]),by simp [kH,kR,Heap.ents],by simp [qpw,qhy,hN,qk9];simp [qfs,qdk]⟩
section
variable {t:Tr} {n:Nat} {o:Option (List Nd)} {f:List (Nat × Blk)}
theorem rd_t (hf:getF 0 f=none):qb5 Tryz.prog ⟨n,[f,kR t 2 o]⟩ 22 (.ptr 0 0)=some (qa5 t):=by
 simp [kget0 (t:=t) (k:=2) (o:=o) (n:=n) (by omega) hf]
theorem rd_p (hf:getF 0 f=none):qb5 Tryz.prog ⟨n,[f,kR t 2 o]⟩ 22 (.ptr 0 1)=some (pV 2 o):=by
 simp [kget0 (t:=t) (k:=2) (o:=o) (n:=n) (by omega) hf]
def sgK:Option (List Nd)→List (Nat × Nat)
 | none=>[(0,0)]
 | some _=>[(1,2),(0,0)]
theorem sgK_0:qb2 0 (sgK o)=some 0:=by cases o <;> simp [sgK,qb2]
theorem fitK_in:FitH 2 (sgK o) [] ⟨2,[[],kR t 1 o]⟩ ⟨3,[[],kR t 2 o]⟩:=by
 cases o with
 | none=>exact {
   nd1:=by simp [sgK]
   nd2:=by simp [sgK]
   nd3:=by simp [kR,Heap.ents]
   lt:=by simp [sgK]
   idn:=by simp [sgK]
   num:=by simp
   src:=by
    intro e he
    simp [kR,Heap.ents] at he
    subst he
    exact ⟨0,.cells [qa5 t,.nilS],by simp [sgK],by simp [kR,Heap.get,getFs,getF],by simp [qi0,qb6,qay]⟩
   frz:=fun x h=>by cases h }
 | some P=>exact {
   nd1:=by simp [sgK]
   nd2:=by simp [sgK]
   nd3:=by simp [kR,Heap.ents]
   lt:=by simp [sgK]
   idn:=by simp [sgK]
   num:=by simp
   src:=by
    intro e he
    simp [kR,Heap.ents] at he
    rcases he with rfl | rfl
    ·exact ⟨1,.cells (qan (P.map qaj)),by simp [sgK],by simp [kR,Heap.get,getFs,getF],qij P⟩
    ·exact ⟨0,.cells [qa5 t,.slc 1 0 P.length (.rest 7)],by simp [sgK],by simp [kR,Heap.get,getFs,getF],by simp [qi0,qb6,qay,qb2,sgK]⟩
   frz:=fun x h=>by cases h }
theorem zd1 (hf:∀ i,i < 3→getF i f=none):FitH 2 [(2,2),(0,0)] [] ⟨n,[f,kR t 2 o]⟩ ⟨3,[[],kR t 2 o]⟩ where
 nd1:=by simp
 nd2:=by simp
 nd3:=by cases o <;> simp [kR,Heap.ents]
 lt:=by simp
 idn:=by simp
 num:=by simp
 src:=by
  intro e he
  have h0:=hf 0 (by omega)
  have h2:=hf 2 (by omega)
  cases o with
  | none=>
   simp [kR,Heap.ents] at he
   subst he
   exact ⟨0,.cells [qa5 t,.nilS],by simp,by simp [kR,Heap.get,getFs,getF,h0],by simp [qi0,qb6,qay]⟩
  | some P=>
   simp [kR,Heap.ents] at he
   rcases he with rfl | rfl
   ·exact ⟨2,.cells (qan (P.map qaj)),by simp,by simp [kR,Heap.get,getFs,getF,h2],qij P⟩
   ·exact ⟨0,.cells [qa5 t,.slc 2 0 P.length (.rest 7)],by simp,by simp [kR,Heap.get,getFs,getF,h0],by simp [qi0,qb6,qay,qb2]⟩
 frz:=fun x h=>by cases h
theorem zd5 {P:List Nd} {A B:Nat × Blk} {m':Nat} {g:List (List (Nat × Blk))} (hg:g.flatten=kR t 2 (some P)) (hm:3≤m') (hA:33≠A.1∧A.1≠0) (hB:33≠B.1∧B.1≠0):FitH 2 [(33,2),(0,0)] [] ⟨n,[[A,B],[(33,.cells (qan (P.map qaj))),(0,.cells [qa5 t,.slc 33 0 P.length (.rest 7)])]]⟩ ⟨m',g⟩ where
 nd1:=by simp
 nd2:=by simp
 nd3:=by simp only [Heap.ents,hg];simp [kR]
 lt:=by simp;omega
 idn:=by simp
 num:=by simp;omega
 src:=by
  intro e he
  have a1:Nat.beq A.1 0=false:=qbg hA.2
  have a2:Nat.beq A.1 33=false:=qbg (fun e=>hA.1 e.symm)
  have b1:Nat.beq B.1 0=false:=qbg hB.2
  have b2:Nat.beq B.1 33=false:=qbg (fun e=>hB.1 e.symm)
  simp only [Heap.ents,hg] at he
  simp [kR] at he
  rcases he with rfl | rfl
  ·exact ⟨33,.cells (qan (P.map qaj)),by simp,by simp [Heap.get,getFs,getF,a1,a2,b1,b2],qij P⟩
  ·exact ⟨0,.cells [qa5 t,.slc 33 0 P.length (.rest 7)],by simp,by simp [Heap.get,getFs,getF,a1,a2,b1,b2],by simp [qi0,qb6,qay,qb2]⟩
 frz:=fun x h=>by cases h
theorem ql4 (hf:∀ i,i < 3→getF i f=none) {o':Option (List Nd)} (ho:o'=o∨o=none):∃ σ,FitH 2 σ [] ⟨n,[f,kR t 2 o']⟩ (kH t o):=by
 cases o with
 | none=>exact ⟨[],{
   nd1:=by simp
   nd2:=by simp
   nd3:=by simp [kH,Heap.ents]
   lt:=by simp
   idn:=by simp
   num:=by simp [kH]
   src:=by intro e he;simp [kH,Heap.ents] at he
   frz:=fun x h=>by cases h }⟩
 | some P=>
  rcases ho with rfl | h
  ·exact ⟨_,(zd1 hf).fsV (by simp)⟩
  ·cases h
theorem fitK_cut {P:List Nd} {A B:Nat × Blk} (ho:some P=o∨o=none) (hA:33≠A.1∧A.1≠0) (hB:33≠B.1∧B.1≠0):∃ σ,FitH 2 σ [] ⟨n,[[A,B],[(33,.cells (qan (P.map qaj))),(0,.cells [qa5 t,.slc 33 0 P.length (.rest 7)])]]⟩ (kH t o):=by
 rcases ho with rfl | rfl
 ·exact ⟨_,zd5 (m':=3) (g:=[kR t 2 (some P)]) (by simp) (by omega) hA hB⟩
 ·exact ⟨[],{
   nd1:=by simp
   nd2:=by simp
   nd3:=by simp [kH,Heap.ents]
   lt:=by simp
   idn:=by simp
   num:=by simp [kH]
   src:=by intro e he;simp [kH,Heap.ents] at he
   frz:=fun x h=>by cases h }⟩
end
end Go.Proofs.YtgpjifeeneeiaaaGreatDoor