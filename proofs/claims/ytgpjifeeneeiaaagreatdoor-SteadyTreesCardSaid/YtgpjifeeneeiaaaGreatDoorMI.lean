/- Void elements; lists of words; what the library's NoEscape answers. No condition. -/
import Derived.Test.YtgpjifeeneeiaaaGreatDoorMH
import Derived.Test.YtgpjifeeneeiaaaGreatDoorMG
import Derived.Shelf.Strings.Search3
import Derived.Lib.IndexMore
import Derived.Test.YtgpjifeeneeiaaaGreatDoorProg
import Derived.Test.YtgpjifeeneeiaaaGreatDoorMF
import Derived.Lib.Builder
namespace Go.Proofs.YtgpjifeeneeiaaaGreatDoor
set_option linter.unusedSimpArgs false
set_option linter.unusedVariables false
open Go Go.RowKit
set_option maxRecDepth 100000
@[simp] theorem szT71:qc7 Tryz.prog 71=some 1:=rfl
@[simp] theorem agT71:qgs Tryz.prog 71=some false:=rfl
@[simp] theorem byT71:qce Tryz.prog 71=some 8:=rfl
@[simp] theorem alT71 (H:Heap):alV Tryz.prog H 71=some (.ptr H.n 0,H.new (.cells [.nilM])):=rfl
@[simp] theorem zeT71:qbt Tryz.prog 71=some (.nilM):=rfl
attribute [simp] Tryz.underlying71
@[simp 500] theorem rvF71 (H:Heap) (cs:List AV) (o:Nat):qb5 Tryz.prog H 71 (.fptr cs o)=qcl cs o:=rfl
@[simp 500] theorem rvP71 (H:Heap) (b o:Nat):qb5 Tryz.prog H 71 (.ptr b o)=(H.get b).bind fun k=>k.rd.bind fun cs=>qcl cs o:=rfl
def mapII:MapT Tryz.prog 71 qbw qbw where
 tk:=3
 te:=3
 kd:=_
 hu:=Tryz.underlying71
 hk:=Tryz.underlying3
 eq:=fun a b=>by
  show some (a == b)=_
  congr 1
 pure:=fun a v=>rfl
def addM (M:List (Int × Int)) (k:Int):List (Int × Int):=qsr k ((qj7 k M).getD 0+1) M
def qj9 (L:List Int):List (Int × Int):=L.foldl addM []
theorem qrx (k:Int):∀ (L:List Int),qj7 k (qj9 L)=if k∈L then some (qcn L k:Int) else none:=by
 intro L
 obtain ⟨n,hn⟩ : ∃ n,n=L.length:=⟨_,rfl⟩
 induction n generalizing L with
 | zero=>
  have:L=[]:=List.length_eq_zero_iff.1 hn.symm
  subst this;rfl
 | succ n ih=>
  obtain ⟨A,x,rfl⟩ : ∃ A x,L=A++[x]:=⟨L.dropLast,L.getLast (by intro e;rw [e] at hn;simp at hn),(List.dropLast_concat_getLast _).symm⟩
  have iA:=ih A (by simp at hn;omega)
  have e:qj9 (A++[x])=addM (qj9 A) x:=by simp [qj9]
  rw [e]
  unfold addM
  rw [qy2]
  have ht:qcn (A++[x]) k=qcn A k+(if x=k then 1 else 0):=by
   unfold qcn
   rw [List.countP_append]
   congr 1
   by_cases h:x=k <;> simp [h]
  rw [ht]
  by_cases hx:x=k
  ·subst hx
   simp only [if_true,List.mem_append,List.mem_singleton,or_true]
   rw [iA]
   by_cases hm:x∈A
   ·simp [hm]
   ·have:qcn A x=0:=by unfold qcn;rw [List.countP_eq_zero];intro y hy;simp;exact fun e=>hm (e ▸ hy)
    simp [hm,this]
  ·have hx':¬ k=x:=fun e=>hx e.symm
   simp only [hx,if_false,List.mem_append,List.mem_singleton,hx',or_false,Nat.add_zero]
   rw [iA]
theorem getM_mem {M:List (Int × Int)}:∀ {p:Int × Int},p∈M→(qj7 p.1 M).isSome=true:=by
 induction M with
 | nil=>intro p h;cases h
 | cons q r ih=>
  intro p h
  unfold qj7
  by_cases he:q.1=p.1
  ·simp [he]
  ·simp only [he,if_false]
   rcases List.mem_cons.1 h with rfl | h
   ·exact absurd rfl he
   ·exact ih h
theorem mem_getM {M:List (Int × Int)} {k:Int} (h:(qj7 k M).isSome=true):∃ v,(k,v)∈M:=by
 induction M with
 | nil=>simp [qj7] at h
 | cons q r ih=>
  unfold qj7 at h
  by_cases he:q.1=k
  ·exact ⟨q.2,by simp [← he]⟩
  ·simp only [he,if_false] at h
   obtain ⟨v,hv⟩:=ih h
   exact ⟨v,by simp [hv]⟩
theorem cnt_keys {L:List Int} {k:Int}:(∃ v,(k,v)∈qj9 L)↔k∈L:=by
 constructor
 ·rintro ⟨v,hv⟩
  have:=getM_mem hv
  rw [qrx] at this
  by_cases h:k∈L
  ·exact h
  ·simp [h] at this
 ·intro h
  apply mem_getM
  rw [qrx];simp [h]
theorem qvu {n:Nat} {M:List (Int × Int)}:FitH 0 [(0,0)] [] ⟨n,[[(0,.map (qbf qbw qbw M))]]⟩ ⟨1,[[(0,.map (qbf qbw qbw M))]]⟩ where
 nd1:=by simp
 nd2:=by simp
 nd3:=by simp [Heap.ents]
 lt:=by simp
 idn:=by simp
 num:=by simp
 src:=by
  intro e he
  simp [Heap.ents] at he
  subst he
  refine ⟨0,_,by simp,rfl,?_⟩
  have key:∀ (g:Int × Int→Int) (M:List (Int × Int)),qb6 [(0,0)] [] (M.map fun p=>qbw (g p)) (M.map fun p=>qbw (g p)):=fun g M=>qak (by
   induction M with
   | nil=>rfl
   | cons p r ih=>simp only [List.map_cons,qac,ih];rfl)
  exact ⟨by simpa [qbf,Function.comp_def] using key (·.1) M,by simpa [qbf,Function.comp_def] using key (·.2) M⟩
 frz:=fun x h=>by cases h
theorem c92 {T:List (Entry Tryz.prog)} (L:List Int) (hl:L.length≤1000000):CallAt (ctx T) 92 [qbs L] ⟨0,[]⟩ (.map 0) ⟨1,[[(0,.map (qbf qbw qbw (qj9 L)))]]⟩:=by
 refine qa3 (fn:=Tryz.f92) (s0:=⟨[0,2,3,5,7,8,9],[qbs L,.undef,.undef,.undef,.undef,.undef,.undef],[],19,⟨0,[[]]⟩⟩) Tryz.func92 rfl rfl rfl ?_
 repeat apply wq
 refine qa0 qa1 ?_
 simp [zS]
 repeat apply wq
 refine qa0 qa1 ?_
 simp [zS]
 repeat apply wq
 refine qa0 qa1 ?_
 simp [zS,qm9]
 refine qa9 (qax (fun j:Nat=>(⟨[0,2,3,5,7,8,9],[.undef,.nilM,.map 0,.undef,qbs L,.int .i64 (L.length:Nat),.int .i64 (j:Int)],[],19,⟨1,[[(0,.map (qbf qbw qbw (qj9 (L.take j))))]]⟩⟩ : St))
  (fun j=>j≤L.length) (fun j=>L.length - j) [(0,0)] [] 0 (Nat.zero_le _) ⟨rfl,rfl,rfl,by simp [qb6,qay,qb2,qaf],by
   have:=qvu (n:=1) (M:=[])
   simpa [qj9,qbf] using this⟩ ?_)
 rintro j hj B hB
 by_cases h:j < L.length
 ·have hc:(j:Int) < (L.length:Int):=by omega
  have hik:=atI h
  have hac:=qba (show j≤1000000000 by omega)
  have htk:L.take (j+1)=L.take j++[L[j]]:=by rw [List.take_add_one,List.getElem?_eq_getElem h];rfl
  have hcn:qj9 (L.take (j+1))=qsr L[j] ((qj7 L[j] (qj9 (L.take j))).getD 0+1) (qj9 (L.take j)):=by
   rw [htk]
   unfold qj9
   rw [List.foldl_append];rfl
  have hz:qbt Tryz.prog mapII.te=some (.int .i64 0):=zeT3
  have hlook:=fun n=>mapII.look (M:=qj9 (L.take j)) (b:=0) (H:=⟨n,[[(0,.map (qbf qbw qbw (qj9 (L.take j))))]]⟩) hz rfl L[j]
  have hup:=fun n v=>mapII.update (M:=qj9 (L.take j)) (b:=0) (H:=⟨n,[[(0,.map (qbf qbw qbw (qj9 (L.take j))))]]⟩) rfl L[j] v
  have hgv:((qj7 L[j] (qj9 (L.take j))).map qbw).getD (.int .i64 0)=.int .i64 ((qj7 L[j] (qj9 (L.take j))).getD 0):=by cases qj7 L[j] (qj9 (L.take j)) <;> rfl
  have hcb:wr .i64 ((qj7 L[j] (qj9 (L.take j))).getD 0+1)=some ((qj7 L[j] (qj9 (L.take j))).getD 0+1):=by
   have h1:0≤(qj7 L[j] (qj9 (L.take j))).getD 0∧(qj7 L[j] (qj9 (L.take j))).getD 0≤1000000:=by
    rw [qrx]
    have h2:qcn (L.take j) L[j]≤1000000:=by
     unfold qcn
     have:=List.countP_le_length (p:=fun x=>decide (x=L[j])) (l:=L.take j)
     simp at this
     omega
    split <;> simp <;> omega
   exact qc6 (by omega) (by omega)
  rw [hgv] at hlook
  simp only [qbw] at hlook hup
  generalize L[j]=k at *
  generalize qj9 (L.take j)=M at *
  generalize (qj7 k M).getD 0=c at *
  repeat apply wq
  refine qa0 qa1 ?_
  simp [zS,hc,h]
  repeat apply wq
  refine qai rfl ?_
  refine qa7 ?_
  simp
  repeat apply wq
  refine qa9 ?_
  repeat apply wq
  refine qa0 qa1 ?_
  simp [zS,hik]
  refine qa0 qa1 ?_
  simp [zS,hlook,hup,hcb]
  refine qa0 qa1 ?_
  simp [zS,hac]
  exact hB _ (j+1) (by omega) (by omega) ⟨[(0,0)],[],rfl,rfl,rfl,by simp [qb6,qay,qb2,qaf],by rw [hcn];exact qvu⟩
 ·have hc:¬ (j:Int) < (L.length:Int):=by omega
  repeat apply wq
  refine qa0 qa1 ?_
  simp [zS,hc,h]
  repeat apply wq
  refine qal rfl ?_
  refine qat ?_
  simp
  repeat apply wq
  refine qa0 qa1 ?_
  simp [zS]
  refine qa8 ?_
  simp [qab,Tryz.f92,oneOr]
  have e:j=L.length:=by omega
  rw [e,List.take_length]
  exact ⟨[(0,0)],[],by simp [qay,qb2],qvu⟩
def za8 (t:Tr) (i:Nat):Bool:=decide (0 < i) && (decide ((qa6 t i).kind < 1) || (decide (4 < (qa6 t i).kind) || (decide ((qa6 t i).up < -1) || decide ((t.length:Int)≤(qa6 t i).up))))
def badB (t:Tr) (i:Nat):Bool:=decide (0≤(qa6 t i).up) && (decide (1 < (qa6 t (qa6 t i).up).kind) || decide ((qcn (qa6 t (qa6 t i).up).kids i:Int)≠1))
def qsd (t:Tr) (i:Nat) (k:Int):Bool:=decide (k < 0) || (decide ((t.length:Int)≤k) || decide ((qa6 t k).up≠(i:Int)))
def qi3 (t:Tr) (i:Nat):Bool:=!za8 t i && (!badB t i && !(qa6 t i).kids.any (qsd t i))
def qbp (t:Tr):Bool:=decide (t≠[]) && (decide ((qa6 t 0).kind=0) && (decide ((qa6 t 0).up = -1) && ((List.range t.length).all (qi3 t) && (List.range t.length).all fun i=>qcs t (t.length+1) (i:Int))))
theorem qdo {t:Tr} {i:Nat} (h:i < t.length) (hb:qi3 t i=false):qbp t=false:=by
 have:(List.range t.length).all (qi3 t)=false:=List.all_eq_false.2 ⟨i,by simpa using h,by simp [hb]⟩
 simp [qbp,this]
theorem qpv {t:Tr} {i:Nat} (h:i < t.length) (hb:qcs t (t.length+1) (i:Int)=false):qbp t=false:=by
 have:((List.range t.length).all fun i=>qcs t (t.length+1) (i:Int))=false:=List.all_eq_false.2 ⟨i,by simpa using h,by simp [hb]⟩
 simp [qbp,this]
theorem qz5 {t:Tr} (h:t≠[]) (h0:(qa6 t 0).kind=0) (h1:(qa6 t 0).up = -1) (h2:∀ j,j < t.length→qi3 t j=true) (h3:∀ j,j < t.length→qcs t (t.length+1) (j:Int)=true):qbp t=true:=by
 have e1:(List.range t.length).all (qi3 t)=true:=List.all_eq_true.2 fun j hj=>h2 j (by simpa using hj)
 have e2:((List.range t.length).all fun i=>qcs t (t.length+1) (i:Int))=true:=List.all_eq_true.2 fun j hj=>h3 j (by simpa using hj)
 simp [qbp,h,h0,h1,e1,e2]
theorem ups_of {t:Tr} (h1:(qa6 t 0).up = -1) (h2:∀ j,j < t.length→qi3 t j=true):qna t:=by
 intro x hx
 obtain ⟨j,hj,rfl⟩:=List.getElem_of_mem hx
 have:=h2 j hj
 rw [← qc3 hj]
 by_cases hz:j=0
 ·subst hz
  exact .inl h1
 ·simp only [qi3,za8,Bool.and_eq_true,Bool.not_eq_true',Bool.and_eq_false_iff,Bool.or_eq_false_iff,decide_eq_false_iff_not] at this
  rcases this.1 with h | h
  ·omega
  ·omega
theorem c25 {T:List (Entry Tryz.prog)} (hT:qag 56 T=some e56.g) (hH:qag 57 T=some e57.g) (t:Tr) (ht:qmj t) :
  CallAt (ctx T) 25 [qam t] ⟨0,[]⟩ (.bool (qbp t)) ⟨0,[]⟩:=by
 have htl:=ht.1
 have g0:∀ (m:Nat),FitH 0 [(0,0)] [] ⟨m,[[(0,.cells [qa5 t])]]⟩ ⟨1,[[(0,.cells [qa5 t])]]⟩:=fun m=>.id1 (g:=[(0,.cells [qa5 t])]) (by simp) (by simp) (by simp [Heap.get,getFs,getF,qac])
 refine qa3 (fn:=Tryz.f25) (s0:=⟨[0,1,2,3,4,5,6],[qam t,.undef,.undef,.undef,.undef,.undef,.undef],[],138,⟨0,[[]]⟩⟩) Tryz.func25 rfl rfl rfl ?_
 repeat apply wq
 refine qa0 qa1 ?_
 simp [zS,qam]
 by_cases z0:t=[]
 ·repeat apply wq
  refine qa0 qa1 ?_
  simp [zS,qfu,z0]
  refine qai rfl ?_
  repeat apply wq
  refine qa0 qa1 ?_
  simp [zS]
  refine qa8 ?_
  simp [qab,Tryz.f25,oneOr,qaa,qa2]
  exact qa4 rfl (by simp [qbp,z0])
 have zl:0 < t.length:=List.length_pos_iff.2 z0
 have a0:=atX (t:=t) (i:=0) (by omega) (by omega)
 by_cases z1:(qa6 t 0).kind=0
 case neg=>
  repeat apply wq
  refine qa0 qa1 ?_
  simp [zS,qfu,z0,a0,z1]
  refine qai rfl ?_
  repeat apply wq
  refine qa0 qa1 ?_
  simp [zS]
  refine qa8 ?_
  simp [qab,Tryz.f25,oneOr,qaa,qa2]
  exact qa4 rfl (by simp [qbp,z1])
 by_cases z2:(qa6 t 0).up = -1
 case neg=>
  repeat apply wq
  refine qa0 qa1 ?_
  simp [zS,qfu,z0,a0,z1,z2]
  refine qai rfl ?_
  repeat apply wq
  refine qa0 qa1 ?_
  simp [zS]
  refine qa8 ?_
  simp [qab,Tryz.f25,oneOr,qaa,qa2]
  exact qa4 rfl (by simp [qbp,z2])
 repeat apply wq
 refine qa0 qa1 ?_
 simp [zS,qfu,z0,a0,z1,z2]
 refine qal rfl ?_
 refine qa7 ?_
 simp
 repeat apply wq
 refine qa0 qa1 ?_
 simp [zS]
 refine qa9 (qax (fun i:Nat=>(⟨[0,1,2,3,4,5,6],[.undef,.ptr 0 0,.undef,.int .i64 i,.undef,.undef,.undef],[],138,⟨1,[[(0,.cells [qa5 t])]]⟩⟩ : St))
  (fun i=>i≤t.length∧∀ j,j < i→qi3 t j=true) (fun i=>t.length - i) [(0,0)] [] 0 ⟨Nat.zero_le _,fun j hj=>absurd hj (Nat.not_lt_zero j)⟩ ⟨rfl,rfl,rfl,by simp [qb6,qay,qb2,qaf],g0 1⟩ ?_)
 rintro i ⟨hi,hall⟩ B hB
 repeat apply wq
 refine qa0 qa1 ?_
 simp [zS,qfu]
 refine qau rfl (fun h=>?_) fun h=>?_
 ·simp at h
  refine qa7 ?_
  simp
  repeat apply wq
  refine qa9 ?_
  refine qah ?_
  have hkd:=(ht.2 _ (qcj (t:=t) (i:=(i:Int)) (by omega) (by omega))).1
  obtain ⟨n,hn⟩ : ∃ n,n=qa6 t i:=⟨_,rfl⟩
  refine qa0 qa1 ?_
  simp [zN,atX (t:=t) (i:=(i:Int)) (by omega) (by omega)]
  rw [← hn] at hkd ⊢
  refine qwl (za8 t i=false) ((⟨[0,1,2,3,4,5,6],[.undef,.ptr 0 0,.undef,.int .i64 i,.ptr 1 0,.undef,.undef],[],138,⟨2,[[(1,.cells n.cs),(0,.cells [qa5 t])]]⟩⟩ : St)) (fun hbA=>?_) fun hj=>?_
  rotate_left
  ·by_cases c0:0 < i
   ·by_cases c1:n.kind < 1
    ·repeat apply wq
     refine qa0 qa1 ?_
     simp [zS,qfu,c0,c1]
     refine qai rfl ?_
     repeat apply wq
     refine qa0 qa1 ?_
     simp [zS]
     refine qa8 ?_
     simp [qab,Tryz.f25,oneOr,qaa,qa2]
     exact qa4 rfl (by rw [qdo h (by simp [qi3,za8,c0,← hn,c1])])
    ·by_cases c2:4 < n.kind
     ·repeat apply wq
      refine qa0 qa1 ?_
      simp [zS,qfu,c0,c1,c2]
      refine qai rfl ?_
      repeat apply wq
      refine qa0 qa1 ?_
      simp [zS]
      refine qa8 ?_
      simp [qab,Tryz.f25,oneOr,qaa,qa2]
      exact qa4 rfl (by rw [qdo h (by simp [qi3,za8,c0,← hn,c1,c2])])
     ·by_cases c3:n.up < -1
      ·repeat apply wq
       refine qa0 qa1 ?_
       simp [zS,qfu,c0,c1,c2,c3]
       refine qai rfl ?_
       repeat apply wq
       refine qa0 qa1 ?_
       simp [zS]
       refine qa8 ?_
       simp [qab,Tryz.f25,oneOr,qaa,qa2]
       exact qa4 rfl (by rw [qdo h (by simp [qi3,za8,c0,← hn,c1,c2,c3])])
      ·by_cases c4:(t.length:Int)≤n.up
       ·repeat apply wq
        refine qa0 qa1 ?_
        simp [zS,qfu,c0,c1,c2,c3,c4]
        refine qai rfl ?_
        repeat apply wq
        refine qa0 qa1 ?_
        simp [zS]
        refine qa8 ?_
        simp [qab,Tryz.f25,oneOr,qaa,qa2]
        exact qa4 rfl (by rw [qdo h (by simp [qi3,za8,c0,← hn,c1,c2,c3,c4])])
       ·repeat apply wq
        refine qa0 qa1 ?_
        simp [zS,qfu,c0,c1,c2,c3,c4]
        refine qal rfl ?_
        refine qa7 ?_
        simp
        exact hj _ (by simp [za8,← hn,c1,c2,c3,c4]) rfl
   ·repeat apply wq
    refine qa0 qa1 ?_
    simp [zS,qfu,c0]
    refine qal rfl ?_
    refine qa7 ?_
    simp
    exact hj _ (by simp [za8,c0]) rfl
  have hup:n.up < (t.length:Int):=by
   by_cases hz:i=0
   ·subst hz;rw [hn];simp only [Int.natCast_zero,z2];omega
   ·simp only [za8,← hn,Bool.and_eq_false_iff,Bool.or_eq_false_iff,decide_eq_false_iff_not] at hbA
    omega
  refine qwl (badB t i=false) ((⟨[0,1,2,3,4,5,6],[.undef,.ptr 0 0,.undef,.int .i64 i,.ptr 1 0,.undef,.undef],[],138,⟨2,[[(1,.cells n.cs),(0,.cells [qa5 t])]]⟩⟩ : St)) (fun hbB=>?_) fun hj=>?_
  rotate_left
  ·by_cases c5:0≤n.up
   ·have hkt:=k56 hT (L:=(qa6 t n.up).kids) (i:Int) (by have:=(ht.2 _ (qcj c5 hup)).1;omega)
    generalize hv:qcn (qa6 t n.up).kids (i:Int)=v at hkt
    by_cases c6:1 < (qa6 t n.up).kind
    ·repeat apply wq
     refine qa0 qa1 ?_
     simp [zS,c5,atX c5 hup,hkt,c6]
     refine qai rfl ?_
     repeat apply wq
     refine qa0 qa1 ?_
     simp [zS]
     refine qa8 ?_
     simp [qab,Tryz.f25,oneOr,qaa,qa2]
     exact qa4 rfl (by rw [qdo h (by simp [qi3,badB,← hn,hv,c5,c6];try (intro _ ;omega))])
    ·by_cases c7:¬ (v:Int)=1
     ·repeat apply wq
      refine qa0 qa1 ?_
      simp [zS,c5,atX c5 hup,hkt,c6,c7]
      refine qai rfl ?_
      repeat apply wq
      refine qa0 qa1 ?_
      simp [zS]
      refine qa8 ?_
      simp [qab,Tryz.f25,oneOr,qaa,qa2]
      exact qa4 rfl (by rw [qdo h (by simp [qi3,badB,← hn,hv,c5,c6,c7];try (intro _ ;omega))])
     ·have c7:=Decidable.not_not.1 c7
      repeat apply wq
      refine qa0 qa1 ?_
      simp [zS,c5,atX c5 hup,hkt,c6,c7]
      refine qal rfl ?_
      refine qa7 ?_
      simp
      exact hj _ (by simp [badB,← hn,hv,c6,c7];try omega) rfl
   ·repeat apply wq
    refine qa0 qa1 ?_
    simp [zS,c5]
    refine qal rfl ?_
    refine qa7 ?_
    simp
    exact hj _ (by simp [badB,← hn,c5]) rfl
  repeat apply wq
  refine qa0 qa1 ?_
  simp [zS]
  have g1:∀ (m:Nat),FitH 0 [(1,1),(0,0)] [] ⟨m,[[(1,.cells n.cs),(0,.cells [qa5 t])]]⟩ ⟨2,[[(1,.cells n.cs),(0,.cells [qa5 t])]]⟩:=fun m=>.id1 (g:=[(1,.cells n.cs),(0,.cells [qa5 t])]) (by simp) (by simp) (by simp [Heap.get,getFs,getF,qac])
  refine qa9 (qax (fun k:Nat=>(⟨[0,1,2,3,4,5,6],[.undef,.ptr 0 0,.undef,.int .i64 i,.ptr 1 0,.int .i64 k,.undef],[],138,⟨2,[[(1,.cells n.cs),(0,.cells [qa5 t])]]⟩⟩ : St))
   (fun k=>k≤n.kids.length∧n.kids.any (qsd t i)=(n.kids.drop k).any (qsd t i)) (fun k=>n.kids.length - k) [(1,1),(0,0)] [] 0 ⟨Nat.zero_le _,rfl⟩ ⟨rfl,rfl,rfl,by simp [qb6,qay,qb2,qaf],g1 2⟩ ?_)
  rintro k ⟨hk,hany⟩ B2 hB2
  repeat apply wq
  refine qa0 qa1 ?_
  simp [zS,qm9]
  refine qau rfl (fun h2=>?_) fun h2=>?_
  ·simp at h2
   rw [List.drop_eq_getElem_cons h2,List.any_cons] at hany
   refine qa7 ?_
   simp
   repeat apply wq
   refine qa9 ?_
   by_cases d1:n.kids[k] < 0
   ·repeat apply wq
    refine qbh qci qa1 (by decide +kernel) (by decide +kernel) ?_
    simp [zS,qbx,qbd,qb8,atI h2,d1]
    refine qai rfl ?_
    repeat apply wq
    refine qa0 qa1 ?_
    simp [zS]
    refine qa8 ?_
    simp [qab,Tryz.f25,oneOr,qaa,qa2]
    exact qa4 rfl (by rw [qdo h (by simp only [qi3,← hn,hany];simp [qsd,d1])])
   ·by_cases d2:(t.length:Int)≤n.kids[k]
    ·repeat apply wq
     refine qbh qci qa1 (by decide +kernel) (by decide +kernel) ?_
     simp [zS,qbx,qbd,qb8,atI h2,qfu,d1,d2]
     refine qai rfl ?_
     repeat apply wq
     refine qa0 qa1 ?_
     simp [zS]
     refine qa8 ?_
     simp [qab,Tryz.f25,oneOr,qaa,qa2]
     exact qa4 rfl (by rw [qdo h (by simp only [qi3,← hn,hany];simp [qsd,d1,d2])])
    ·have ak:=atX (t:=t) (i:=n.kids[k]) (by omega) (by omega)
     by_cases d3:(qa6 t n.kids[k]).up=(i:Int)
     ·repeat apply wq
      refine qbh qci qa1 (by decide +kernel) (by decide +kernel) ?_
      simp [zS,qbx,qbd,qb8,atI h2,qfu,ak,d1,d2,d3]
      refine qal rfl ?_
      refine qa7 ?_
      simp
      refine qa0 qa1 ?_
      simp [zS,qba (show k≤1000000000 by omega)]
      refine hB2 _ (k+1) (by omega) ⟨by omega,?_⟩ ⟨[(1,1),(0,0)],[],rfl,rfl,rfl,by simp [qb6,qay,qb2,qaf],g1 _⟩
      rw [hany]
      simp [qsd,d1,d2,d3]
     ·repeat apply wq
      refine qbh qci qa1 (by decide +kernel) (by decide +kernel) ?_
      simp [zS,qbx,qbd,qb8,atI h2,qfu,ak,d1,d2,d3]
      refine qai rfl ?_
      repeat apply wq
      refine qa0 qa1 ?_
      simp [zS]
      refine qa8 ?_
      simp [qab,Tryz.f25,oneOr,qaa,qa2]
      exact qa4 rfl (by rw [qdo h (by simp only [qi3,← hn,hany];simp [qsd,d1,d2,d3])])
  ·simp at h2
   rw [List.drop_eq_nil_of_le h2] at hany
   refine qat ?_
   simp
   refine qa0 qa1 ?_
   simp [zS,qba (show i≤1000000000 by omega)]
   refine hB _ (i+1) (by omega) ⟨by omega,fun j hj=>?_⟩ ⟨[(0,0)],[],rfl,rfl,rfl,by simp [qb6,qay,qb2,qaf],.id1 (g:=[(0,.cells [qa5 t])]) (by simp) (by simp) (by simp [Heap.get,getFs,getF,qac])⟩
   by_cases hji:j=i
   ·subst hji
    simp [qi3,hbA,hbB,← hn,hany]
   ·exact hall j (by omega)
 ·simp at h
  have hin:i=t.length:=by omega
  subst hin
  have hups:=ups_of z2 hall
  refine qat ?_
  simp
  repeat apply wq
  refine qa0 qa1 ?_
  simp [zS]
  refine qa9 (qax (fun i:Nat=>(⟨[0,1,2,3,4,5,6],[.undef,.ptr 0 0,.undef,.undef,.undef,.undef,.int .i64 i],[],138,⟨1,[[(0,.cells [qa5 t])]]⟩⟩ : St))
   (fun i=>i≤t.length∧∀ j,j < i→qcs t (t.length+1) (j:Int)=true) (fun i=>t.length - i) [(0,0)] [] 0 ⟨Nat.zero_le _,fun j hj=>absurd hj (Nat.not_lt_zero j)⟩ ⟨rfl,rfl,rfl,by simp [qb6,qay,qb2,qaf],g0 1⟩ ?_)
  rintro i ⟨hi,hh⟩ B hB
  repeat apply wq
  refine qa0 qa1 ?_
  simp [zS,qfu]
  refine qau rfl (fun h=>?_) fun h=>?_
  ·simp at h
   refine qa7 ?_
   simp
   repeat apply wq
   refine qa9 ?_
   have kh:=fun H=>k57 hH (t:=t) (by have:=ht.1;omega) hups (i:=(i:Int)) (by omega) (by omega) H
   simp only [qam] at kh
   cases hv:qcs t (t.length+1) (i:Int) with
   | false=>
    rw [hv] at kh
    repeat apply wq
    refine qa0 qa1 ?_
    simp [zS,kh]
    refine qai rfl ?_
    repeat apply wq
    refine qa0 qa1 ?_
    simp [zS]
    refine qa8 ?_
    simp [qab,Tryz.f25,oneOr,qaa,qa2]
    exact qa4 rfl (by rw [qpv h hv])
   | true=>
    rw [hv] at kh
    repeat apply wq
    refine qa0 qa1 ?_
    simp [zS,kh]
    refine qal rfl ?_
    refine qa7 ?_
    simp
    refine qa0 qa1 ?_
    simp [zS,qba (show i≤1000000000 by omega)]
    refine hB _ (i+1) (by omega) ⟨by omega,fun j hj=>?_⟩ ⟨[(0,0)],[],rfl,rfl,rfl,by simp [qb6,qay,qb2,qaf],g0 _⟩
    by_cases hji:j=i
    ·subst hji;exact hv
    ·exact hh j (by omega)
  ·simp at h
   have hin:i=t.length:=by omega
   subst hin
   refine qat ?_
   simp
   repeat apply wq
   refine qa0 qa1 ?_
   simp [zS]
   refine qa8 ?_
   simp [qab,Tryz.f25,oneOr,qaa,qa2]
   exact qa4 rfl (by rw [qz5 z0 z1 z2 hall hh])
noncomputable def e25:Entry Tryz.prog:=mkE 25 [[]] (fun t:Tr=>[qam t]) qmj (fun t=>.bool (qbp t)) fun t ht=>c25 (T:=[e56,e57]) rfl rfl t ht
theorem k25 {T:List (Entry Tryz.prog)} (hT:qag 25 T=some e25.g) {t:Tr} (ht:qmj t) (H:Heap):qb9 (ctx T) (.fn 25) [qam t] H=some (.bool (qbp t),H):=
 qae hT injT t ht rfl (by simp [qgd])
structure WordAt (s x:Str) (p:Nat):Prop where
 room:p+x.length≤s.length
 occ:(s.drop p).take x.length=x
 pre:∀ c,0 < p→s[p - 1]? = some c→sp c=true
 post:∀ c,s[p+x.length]? = some c→sp c=true
structure WInv (s:Str) (i:Nat) (st:List Str × Str):Prop where
 le:i≤s.length
 words:∀ w,w∈st.1→∃ p,WordAt s w p
 len:st.2.length≤i
 cur:(s.take i).drop (i - st.2.length)=st.2
 pre:∀ c,0 < i - st.2.length→s[i - st.2.length - 1]? = some c→sp c=true
theorem winv {s:Str}:∀ (i:Nat),i≤s.length→WInv s i (wst (s.take i))
 | 0,_=>by
  have e:wst (s.take 0)=([],[]):=by simp [wst]
  rw [e]
  exact ⟨Nat.zero_le _,fun w h=>(by cases h),Nat.le_refl _,rfl,fun c h=>absurd h (Nat.lt_irrefl 0)⟩
 | i+1,hi=>by
  have ih:=winv (s:=s) i (by omega)
  have hlt:i < s.length:=by omega
  rw [qjg hlt]
  generalize wst (s.take i)=st at ih
  obtain ⟨W,c⟩:=st
  have ihl:=ih.len
  have ihc:=ih.cur
  have ihp:=ih.pre
  simp only at ihl ihc ihp
  unfold qg7
  by_cases hs:sp s[i]=true
  ·rw [if_pos hs]
   refine ⟨hi,?_,Nat.zero_le _,?_,?_⟩
   ·intro w hw
    simp only at hw
    by_cases hc:c=[]
    ·rw [if_pos hc] at hw
     exact ih.words w hw
    ·rw [if_neg hc] at hw
     rcases List.mem_append.1 hw with hw | hw
     ·exact ih.words w hw
     ·rw [List.mem_singleton] at hw
      subst hw
      refine ⟨i - w.length,by omega,?_,fun d h1 h2=>ihp d h1 h2,fun d h=>?_⟩
      ·rw [List.drop_take,show i - (i - w.length)=w.length by omega] at ihc
       exact ihc
      ·rw [show i - w.length+w.length=i by omega,List.getElem?_eq_getElem hlt,sj] at h
       rw [← h];exact hs
   ·simp
   ·intro d _ h
    simp only [List.length_nil,Nat.sub_zero,Nat.add_sub_cancel] at h
    rw [List.getElem?_eq_getElem hlt,sj] at h
    rw [← h];exact hs
  ·rw [if_neg hs]
   refine ⟨hi,ih.words,by simp;omega,?_,?_⟩
   ·simp only [List.length_append,List.length_singleton]
    rw [show i+1 - (c.length+1)=i - c.length by omega,List.take_succ_eq_append_getElem hlt,List.drop_append_of_le_length (by simp;omega),ihc]
   ·simp only [List.length_append,List.length_singleton]
    rw [show i+1 - (c.length+1)=i - c.length by omega]
    exact ihp
theorem word_at {s x:Str} (h:x∈qbo s):∃ p,WordAt s x p:=by
 have inv:=winv (s:=s) s.length (Nat.le_refl _)
 rw [List.take_of_length_le (Nat.le_refl _)] at inv
 unfold qbo wfin at h
 generalize wst s=st at *
 obtain ⟨W,c⟩:=st
 have il:=inv.len
 have ic:=inv.cur
 have ip:=inv.pre
 simp only at il ic ip h
 by_cases hc:c=[]
 ·rw [if_pos hc] at h
  exact inv.words x h
 ·rw [if_neg hc] at h
  rcases List.mem_append.1 h with h | h
  ·exact inv.words x h
  ·rw [List.mem_singleton] at h
   subst h
   refine ⟨s.length - x.length,by omega,?_,ip,fun d h=>?_⟩
   ·rw [List.take_of_length_le (Nat.le_refl _)] at ic
    rw [ic,List.take_of_length_le (Nat.le_refl _)]
   ·rw [show s.length - x.length+x.length=s.length by omega,List.getElem?_eq_none (Nat.le_refl _)] at h
    cases h
theorem word_ne {s x:Str} (h:x∈qbo s):x≠[]:=by
 have key:∀ (l:Str) (st:List Str × Str),(∀ w,w∈st.1→w≠[])→∀ w,w∈(l.foldl qg7 st).1→w≠[]:=by
  intro l
  induction l with
  | nil=>intro st h;exact h
  | cons c r ih=>
   intro st h
   rw [List.foldl_cons]
   refine ih _ ?_
   intro w hw
   unfold qg7 at hw
   split at hw
   ·simp only at hw
    split at hw
    ·exact h w hw
    ·rename_i hn
     rcases List.mem_append.1 hw with hw | hw
     ·exact h w hw
     ·rw [List.mem_singleton] at hw;rw [hw];exact hn
   ·exact h w hw
 unfold qbo wfin at h
 split at h
 ·exact key s ([],[]) (fun w h=>by cases h) x h
 ·rename_i hn
  rcases List.mem_append.1 h with h | h
  ·exact key s ([],[]) (fun w h=>by cases h) x h
  ·rw [List.mem_singleton] at h;rw [h];exact hn
def qvg:Go.Shelf.Ren:=⟨fun | 143=>77 | 219=>115 | 217=>124 | 225=>143 | 224=>144 | 267=>145 | 266=>155 | 314=>163 | n=>n,fun | 9=>9 | 3=>3 | 4=>4 | 5=>5 | 46=>125 | 146=>145 | 51=>144 | n=>n,fun | 1=>0 | n=>n⟩
theorem lays143:Go.Proofs.Lays.n143 Tryz.prog qvg where
 mixed:=by kernel_rfl
 f143:=Tryz.func77.trans (congrArg some (by kernel_rfl))
 f217:=Tryz.func124.trans (congrArg some (by kernel_rfl))
 f219:=Tryz.func115.trans (congrArg some (by kernel_rfl))
 f224:=Tryz.func144.trans (congrArg some (by kernel_rfl))
 f225:=Tryz.func143.trans (congrArg some (by kernel_rfl))
 f266:=Tryz.func155.trans (congrArg some (by kernel_rfl))
 f267:=Tryz.func145.trans (congrArg some (by kernel_rfl))
 f314:=Tryz.func163.trans (congrArg some (by kernel_rfl))
 t3:=Tryz.underlying3
 a3:=Tryz.isAgg3
 z3:=Tryz.sizeOf3
 v3:=Tryz.zeroValue3
 t4:=Tryz.underlying4
 a4:=Tryz.isAgg4
 z4:=Tryz.sizeOf4
 v4:=Tryz.zeroValue4
 t5:=Tryz.underlying5
 a5:=Tryz.isAgg5
 z5:=Tryz.sizeOf5
 v5:=Tryz.zeroValue5
 t9:=Tryz.underlying9
 a9:=Tryz.isAgg9
 z9:=Tryz.sizeOf9
 v9:=Tryz.zeroValue9
 t46:=Tryz.underlying125
 a46:=Tryz.isAgg125
 z46:=Tryz.sizeOf125
 v46:=Tryz.zeroValue125
 t51:=Tryz.underlying144
 a51:=Tryz.isAgg144
 z51:=Tryz.sizeOf144
 v51:=Tryz.zeroValue144
 t146:=Tryz.underlying145
 a146:=Tryz.isAgg145
 z146:=Tryz.sizeOf145
 v146:=Tryz.zeroValue145
 g1:=by kernel_rfl
theorem index_at (s sub:ByteArray) (m:Int) (w:World) (hs:s.size < 4294967281) (hm:w.cell? ⟨0,0,none⟩=some (.int .i64 m)) :
  Calls Tryz.prog 77 #[.string s,.string sub] w fun e w'=>e=.returned (.int .i64 (Lib.index s.data.toList sub.data.toList))∧w'=w:=Any.strings_Index lays143 s sub m w hs hm
theorem c77 {T:List (Entry Tryz.prog)} (s t:Str) (hl:s.length≤1000000):CallAt (ctx T) 77 [.str s,.str t] ⟨0,[]⟩ (.int .i64 (Lib.index s t)) ⟨0,[]⟩:=by
 intro ρ w xs sm hx
 match xs,hx with
 | [x,y],hx=>
  have h0:=hx.2 0 (by simp) (by simp)
  have h1:=hx.2 1 (by simp) (by simp)
  simp only [List.getElem_cons_zero,List.getElem_cons_succ] at h0 h1
  cases h0;cases h1
  obtain ⟨hB,m,hm⟩:=ρ.gl 0 (by simp [globs])
  have hc:w.cell? ⟨0,0,none⟩=some (.int .i64 m):=by rw [World.cell?,sm.below 0 hB];exact hm
  have hrun:(callFunc 77 #[.string ⟨s.toArray⟩,.string ⟨t.toArray⟩]).run (ctx T).P w=.ok (.enter 77 #[.string ⟨s.toArray⟩,.string ⟨t.toArray⟩]) w:=by
   have hf:(ctx T).P.funcs[77]? = some Tryz.f77:=Tryz.func77
   have hn : ¬ Tryz.f77.name = "runtime.NumGoroutine" := by decide +kernel
   simp [callFunc,hf,hn,Tryz.f77]
  refine .inr ⟨77,_,hrun,callsIn_wide.2 ((index_at ⟨s.toArray⟩ ⟨t.toArray⟩ m w ?_ hc).mono ?_)⟩
  ·show s.toArray.size < _
   simp;omega
  ·rintro e w' ⟨rfl,rfl⟩
   exact ⟨_,ρ,rfl,.int _ _,sm,Step.refl _ _ _⟩
noncomputable def e77:Entry Tryz.prog:=mkE 77 [[],[]] (fun x:Str × Str=>[.str x.1,.str x.2]) (fun x=>x.1.length≤1000000) (fun x=>.int .i64 (Lib.index x.1 x.2)) fun x h=>c77 (T:=[]) x.1 x.2 h
theorem k77 {T:List (Entry Tryz.prog)} (hT:qag 77 T=some e77.g) {s t:Str} (h1:s.length≤1000000) (H:Heap):qb9 (ctx T) (.fn 77) [.str s,.str t] H=some (.int .i64 (Lib.index s t),H):=
 qae hT qrf (s,t) h1 rfl (by simp)
theorem c78 {T:List (Entry Tryz.prog)} (c:UInt8):CallAt (ctx T) 78 [.int .u8 c.toNat] ⟨0,[]⟩ (.bool (sp c)) ⟨0,[]⟩:=by
 refine qa3 (fn:=Tryz.f78) (s0:=⟨[0,2,3,4],[.int .u8 c.toNat,.undef,.undef,.undef],[],10,⟨0,[[]]⟩⟩) Tryz.func78 rfl rfl rfl ?_
 repeat apply wq
 refine qa0 qa1 ?_
 simp [zS]
 repeat apply wq
 refine qa0 qa1 ?_
 simp [zS]
 refine qa9 ?_
 by_cases h1:(c.toNat:Int)=9
 ·(repeat (first
   | (refine qah ?_)
   | (refine qa9 ?_)
   | (refine qcf ?_;simp only [qaa,qa2])
   | ((refine qa0 qa1 ?_);simp [zS,h1])
   | (refine qai rfl ?_)
   | (refine qal rfl ?_)
   | ((refine qa7 ?_);simp only [qaa,qa2])
   | ((refine qat ?_);simp [qaa,qa2])))
  refine qa8 ?_
  simp [qab,Tryz.f78,oneOr,qaa,qa2]
  exact qa4 rfl (by simp [sp,h1])
 by_cases h2:(c.toNat:Int)=10
 ·(repeat (first
   | (refine qah ?_)
   | (refine qa9 ?_)
   | (refine qcf ?_;simp only [qaa,qa2])
   | ((refine qa0 qa1 ?_);simp [zS,h1,h2])
   | (refine qai rfl ?_)
   | (refine qal rfl ?_)
   | ((refine qa7 ?_);simp only [qaa,qa2])
   | ((refine qat ?_);simp [qaa,qa2])))
  refine qa8 ?_
  simp [qab,Tryz.f78,oneOr,qaa,qa2]
  exact qa4 rfl (by simp [sp,h2])
 by_cases h3:(c.toNat:Int)=12
 ·(repeat (first
   | (refine qah ?_)
   | (refine qa9 ?_)
   | (refine qcf ?_;simp only [qaa,qa2])
   | ((refine qa0 qa1 ?_);simp [zS,h1,h2,h3])
   | (refine qai rfl ?_)
   | (refine qal rfl ?_)
   | ((refine qa7 ?_);simp only [qaa,qa2])
   | ((refine qat ?_);simp [qaa,qa2])))
  refine qa8 ?_
  simp [qab,Tryz.f78,oneOr,qaa,qa2]
  exact qa4 rfl (by simp [sp,h3])
 by_cases h4:(c.toNat:Int)=13
 ·(repeat (first
   | (refine qah ?_)
   | (refine qa9 ?_)
   | (refine qcf ?_;simp only [qaa,qa2])
   | ((refine qa0 qa1 ?_);simp [zS,h1,h2,h3,h4])
   | (refine qai rfl ?_)
   | (refine qal rfl ?_)
   | ((refine qa7 ?_);simp only [qaa,qa2])
   | ((refine qat ?_);simp [qaa,qa2])))
  refine qa8 ?_
  simp [qab,Tryz.f78,oneOr,qaa,qa2]
  exact qa4 rfl (by simp [sp,h4])
 by_cases h5:(c.toNat:Int)=32
 ·(repeat (first
   | (refine qah ?_)
   | (refine qa9 ?_)
   | (refine qcf ?_;simp only [qaa,qa2])
   | ((refine qa0 qa1 ?_);simp [zS,h1,h2,h3,h4,h5])
   | (refine qai rfl ?_)
   | (refine qal rfl ?_)
   | ((refine qa7 ?_);simp only [qaa,qa2])
   | ((refine qat ?_);simp [qaa,qa2])))
  refine qa8 ?_
  simp [qab,Tryz.f78,oneOr,qaa,qa2]
  exact qa4 rfl (by simp [sp,h5])
 ·(repeat (first
   | (refine qah ?_)
   | (refine qa9 ?_)
   | (refine qcf ?_;simp only [qaa,qa2])
   | ((refine qa0 qa1 ?_);simp [zS,h1,h2,h3,h4,h5])
   | (refine qai rfl ?_)
   | (refine qal rfl ?_)
   | ((refine qa7 ?_);simp only [qaa,qa2])
   | ((refine qat ?_);simp [qaa,qa2])))
  refine qa8 ?_
  simp [qab,Tryz.f78,oneOr,qaa,qa2]
  exact qa4 rfl (by simp [sp,h1,h2,h3,h4,h5])
noncomputable def e78:Entry Tryz.prog:=mkE 78 [[]] (fun x:UInt8=>[.int .u8 x.toNat]) (fun _=>True) (fun x=>.bool (sp x)) fun x _=>c78 (T:=[]) x
theorem k78 {T:List (Entry Tryz.prog)} (hT:qag 78 T=some e78.g) (c:UInt8) (H:Heap):qb9 (ctx T) (.fn 78) [.int .u8 c.toNat] H=some (.bool (sp c),H):=
 qae hT inj_u8 c trivial rfl (by simp)
def zas:List AV→List Str→Bool
 | [],l=>match l with
  | []=>true
  | _::_=>false
 | v::r,l=>match v,l with
  | .str s,t::q=>match eqB s t with
   | true=>zas r q
   | false=>false
  | _,_=>false
theorem qwr:∀ {cs:List AV} {L:List Str},zas cs L=true→cs=L.map AV.str
 | [],[],_=>rfl
 | [],_::_,h=>by simp [zas] at h
 | v::r,L,h=>by
  cases v <;> cases L <;> simp only [zas] at h <;> first | (cases h;done) | skip
  rename_i s t q
  split at h
  ·rename_i he
   rw [qin] at he
   simp only [decide_eq_true_eq] at he
   rw [he,qwr h];rfl
  ·cases h
def qnj (L:List Str):Option (AV × Heap)→Bool
 | some (.slc b 0 len _,H)=>match H.get b with
  | some (.cells cs)=>match zas cs L with
   | true=>Nat.beq len L.length
   | false=>false
  | _=>false
 | _=>false
theorem qw0 {T:List (Entry Tryz.prog)} {f:FuncId} {args:List AV} {L:List Str} (h:qnj L (qow (ctx T) 100000 (.fn f) args ⟨0,[]⟩)=true):CallAt (ctx T) f args ⟨0,[]⟩ (qc5 L) ⟨0,[]⟩:=by
 revert h
 cases hr:qow (ctx T) 100000 (.fn f) args ⟨0,[]⟩ with
 | none=>intro h;cases h
 | some r=>
  obtain ⟨v,H'⟩:=r
  intro h
  cases v <;> simp only [qnj] at h <;> first | (cases h;done) | skip
  rename_i b o len cap
  cases o with
  | succ o=>simp [qnj] at h
  | zero=>
   simp only [qnj] at h
   split at h
   ·rename_i cs hg
    split at h
    ·rename_i hs
     have hcs:=qwr hs
     have hlen:=Nat.eq_of_beq_eq_true h
     refine ((qw4 qci (qxn _ _ _) 100000).fn f args ⟨0,[]⟩ _ _ hr).freeze (Φ:=[(b,cs)]) ?_ (.froze (by simp) fun x hx=>?_)
     ·simp only [qc5,qay]
      refine .inl ⟨cs,by simp [qc1],?_,by simp [hlen],(ql7 L).size⟩
      have h1:=zar (ql7 L) (k:=L.length) (by simp)
      rw [List.take_of_length_le (by simp)] at h1
      have h2:qan (L.map AV.str)=cs:=by
       rw [hcs]
       clear h1 hcs hs h hlen
       induction L with
       | nil=>rfl
       | cons x r ih=>simp only [List.map_cons,qan,ih];rfl
      rw [h2] at h1 ⊢
      rw [hlen];exact h1
     ·simp only [List.mem_singleton] at hx
      subst hx
      have hp:qac cs=true:=by
       rw [hcs]
       clear hcs hs h hlen
       induction L with
       | nil=>rfl
       | cons x r ih=>simpa [qac,qaf] using ih
      exact ⟨cs,hg,qak hp,hp⟩
    ·cases h
   ·cases h
theorem occ_iff {s x:Str} {i:Nat}:Lib.occAt s x i=true↔(s.drop i).take x.length=x:=by
 unfold Lib.occAt
 rw [List.isPrefixOf_iff_prefix,List.prefix_iff_eq_take]
 exact eq_comm
theorem c44 {T:List (Entry Tryz.prog)} (hI:qag 77 T=some e77.g) (hS:qag 78 T=some e78.g) (W x:Str) (hl:W.length≤100000) (hx1:x.length≤1000000000)
  (hsp:CallAt (ctx T) 80 [.str W] ⟨0,[]⟩ (qc5 (qbo W)) ⟨0,[]⟩) (hco:CallAt (ctx T) 79 [qc5 (qbo W),.str x] ⟨0,[]⟩ (.bool (decide (x∈qbo W))) ⟨0,[]⟩) :
  CallAt (ctx T) 44 [.str W,.str x] ⟨0,[]⟩ (.bool (inW W x)) ⟨0,[]⟩:=by
 have h1:=hsp.lift (by simp [qac,qaf]) ⟨0,[[]]⟩
 have h2:=hco.lift (by simp [qc5,qac,qaf]) ⟨0,[[]]⟩
 refine qa3 (fn:=Tryz.f44) (s0:=⟨[0,1,4,5,6,7,8],[.str W,.str x,.undef,.undef,.undef,.undef,.undef],[],52,⟨0,[[]]⟩⟩) Tryz.func44 rfl rfl rfl ?_
 repeat apply wq
 refine qa0 qa1 ?_
 simp [zS]
 by_cases hx:x=[]
 ·repeat apply wq
  refine qa0 qa1 ?_
  simp [zS,hx]
  refine qai rfl ?_
  repeat apply wq
  refine qa0 qa1 ?_
  simp [zS]
  refine qa8 ?_
  simp [qab,Tryz.f44,oneOr,qaa,qa2]
  exact qa4 rfl (by simp only [inW];symm;simp;intro h;exact word_ne h rfl)
 repeat apply wq
 refine qa0 qa1 ?_
 simp [zS,hx]
 refine qal rfl ?_
 refine qa7 ?_
 simp
 have hx0:0 < x.length:=List.length_pos_iff.2 hx
 repeat apply wq
 refine qa0 qa1 ?_
 simp [zS]
 refine qa9 (qax (fun i:Nat=>(⟨[0,1,4,5,6,7,8],[.str W,.str x,.undef,.int .i64 i,.undef,.undef,.undef],[],52,⟨0,[[]]⟩⟩ : St))
  (fun i=>i≤W.length∧(x∈qbo W→∃ p,i≤p∧WordAt W x p)) (fun i=>W.length+1 - i) [] [] 0 ⟨Nat.zero_le _,fun h=>let ⟨p,hp⟩:=word_at h;⟨p,Nat.zero_le _,hp⟩⟩ ⟨rfl,rfl,rfl,by simp [qb6,qay,qaf,qac],FitH.nothing⟩ ?_)
 rintro i ⟨hi,hw⟩ B hB
 have hd:(W.drop i).length≤1000000:=by simp;omega
 refine qa9 ?_
 rcases Lib.index_spec (W.drop i) x with ⟨h0,hn⟩ | ⟨k,h0,hk,ho,hno⟩
 ·have hnot:¬ x∈qbo W:=fun h=>by
   obtain ⟨p,hp,hwa⟩:=hw h
   have hr:=hwa.room
   have:=hn (p - i) (by simp;omega)
   have h3:Lib.occAt (W.drop i) x (p - i)=true:=occ_iff.2 (by rw [List.drop_drop,show i+(p - i)=p by omega];exact hwa.occ)
   rw [h3] at this
   cases this
  repeat apply wq
  refine qa0 qa1 ?_
  simp [zS,slStr hi,k77 hI hd,h0]
  repeat apply wq
  refine qa0 qa1 ?_
  simp [zS]
  refine qai rfl ?_
  repeat apply wq
  refine qa0 qa1 ?_
  simp [zS]
  refine qa8 ?_
  simp [qab,Tryz.f44,oneOr,qaa,qa2]
  exact qa4 rfl (by simp [inW,hnot])
 ·have hk0:¬ (k:Int) < 0:=by omega
  obtain ⟨j,hj⟩ : ∃ j,j=i+k:=⟨_,rfl⟩
  have ho':=occ_iff.1 ho
  rw [List.drop_drop,← hj] at ho'
  have hroom:j+x.length≤W.length:=by
   have:=congrArg List.length ho'
   simp at this
   simp at hk
   omega
  have a1:wr .i64 ((i:Int)+(k:Int))=some (j:Int):=by rw [qc6 (by omega) (by omega),hj];simp
  obtain ⟨q,hq⟩ : ∃ q,q=j+x.length:=⟨_,rfl⟩
  have a2:wr .i64 ((j:Int)+(x.length:Int))=some (q:Int):=by rw [qc6 (by omega) (by omega),hq];simp
  have nxt:∀ s',¬ WordAt W x j→(∃ σ Φ,Fit 0 σ Φ s' (⟨[0,1,4,5,6,7,8],[.str W,.str x,.undef,.int .i64 ((j+1:Nat):Int),.undef,.undef,.undef],[],52,⟨0,[[]]⟩⟩ : St))→B s':=fun s' hno2 hf=>
   hB s' (j+1) (by omega) ⟨by omega,fun h=>by
    obtain ⟨p,hp,hwa⟩:=hw h
    refine ⟨p,?_,hwa⟩
    have hr:=hwa.room
    apply Decidable.byContradiction
    intro hlt
    rcases Nat.lt_or_ge p j with hpj | hpj
    ·have h3:=hno (p - i) (by omega)
     have h4:Lib.occAt (W.drop i) x (p - i)=true:=occ_iff.2 (by rw [List.drop_drop,show i+(p - i)=p by omega];exact hwa.occ)
     rw [h4] at h3
     cases h3
    ·have:p=j:=by omega
     subst this
     exact hno2 hwa⟩ hf
  repeat apply wq
  refine qa0 qa1 ?_
  simp [zS,slStr hi,k77 hI hd,h0]
  repeat apply wq
  refine qa0 qa1 ?_
  simp [zS,hk0]
  refine qal rfl ?_
  refine qa7 ?_
  simp
  repeat apply wq
  refine qa0 qa1 ?_
  simp [zS,a1]
  repeat apply wq
  refine qa0 qa1 ?_
  simp [zS,a2]
  have kS:=fun c H=>k78 hS c H
  by_cases c0:j=0
  ·have a4:wr .i64 1=some ((j+1:Nat):Int):=by rw [c0];rfl
   by_cases d0:q=W.length
   ·repeat apply wq
    refine qa0 qa1 ?_
    simp [zS,c0,d0]
    refine qai rfl ?_
    repeat apply wq
    refine qa0 (qca [⟨80,_,_,_,_,h1⟩,⟨79,_,_,_,_,h2⟩]) ?_
    simp [zS,qdb,qc5]
    refine qa8 ?_
    simp [qab,Tryz.f44,oneOr,qaa,qa2]
    exact qa4 rfl (by simp [inW])
   ·have hql:q < W.length:=by omega
    have d0i:¬ (q:Int)=(W.length:Int):=by omega
    rcases Bool.eq_false_or_eq_true (sp W[q]) with d1 | d1
    ·repeat apply wq
     refine qa0 qa1 ?_
     simp [zS,c0,d0i,qih hql,kS,d1]
     refine qai rfl ?_
     repeat apply wq
     refine qa0 (qca [⟨80,_,_,_,_,h1⟩,⟨79,_,_,_,_,h2⟩]) ?_
     simp [zS,qdb,qc5]
     refine qa8 ?_
     simp [qab,Tryz.f44,oneOr,qaa,qa2]
     exact qa4 rfl (by simp [inW])
    ·repeat apply wq
     refine qa0 qa1 ?_
     simp [zS,c0,d0i,qih hql,kS,d1]
     refine qal rfl ?_
     refine qa7 ?_
     simp
     refine qa0 qa1 ?_
     simp [zS,a4]
     exact nxt _ (fun hwa=>by have:=hwa.post _ (by rw [← hq];exact List.getElem?_eq_getElem hql);rw [d1] at this;cases this) ⟨[],[],⟨rfl,rfl,rfl,by simp [qb6,qay,qaf,qac],FitH.nothing⟩⟩
  ·obtain ⟨q1,hq1⟩ : ∃ q1,q1+1=j:=⟨j - 1,by omega⟩
   have hq1l:q1 < W.length:=by omega
   have a3:wr .i64 ((j:Int) - 1)=some (q1:Int):=by rw [qc6 (by omega) (by omega)];congr 1;omega
   rcases Bool.eq_false_or_eq_true (sp W[q1]) with c1 | c1
   ·skip
    by_cases d0:q=W.length
    ·repeat apply wq
     refine qa0 qa1 ?_
     simp [zS,c0,a3,qih hq1l,kS,c1,d0]
     refine qai rfl ?_
     repeat apply wq
     refine qa0 (qca [⟨80,_,_,_,_,h1⟩,⟨79,_,_,_,_,h2⟩]) ?_
     simp [zS,qdb,qc5]
     refine qa8 ?_
     simp [qab,Tryz.f44,oneOr,qaa,qa2]
     exact qa4 rfl (by simp [inW])
    ·have hql:q < W.length:=by omega
     have d0i:¬ (q:Int)=(W.length:Int):=by omega
     rcases Bool.eq_false_or_eq_true (sp W[q]) with d1 | d1
     ·repeat apply wq
      refine qa0 qa1 ?_
      simp [zS,c0,a3,qih hq1l,kS,c1,d0i,qih hql,kS,d1]
      refine qai rfl ?_
      repeat apply wq
      refine qa0 (qca [⟨80,_,_,_,_,h1⟩,⟨79,_,_,_,_,h2⟩]) ?_
      simp [zS,qdb,qc5]
      refine qa8 ?_
      simp [qab,Tryz.f44,oneOr,qaa,qa2]
      exact qa4 rfl (by simp [inW])
     ·repeat apply wq
      refine qa0 qa1 ?_
      simp [zS,c0,a3,qih hq1l,kS,c1,d0i,qih hql,kS,d1]
      refine qal rfl ?_
      refine qa7 ?_
      simp
      refine qa0 qa1 ?_
      simp [zS,qba (show j≤1000000000 by omega)]
      exact nxt _ (fun hwa=>by have:=hwa.post _ (by rw [← hq];exact List.getElem?_eq_getElem hql);rw [d1] at this;cases this) ⟨[],[],⟨rfl,rfl,rfl,by simp [qb6,qay,qaf,qac],FitH.nothing⟩⟩
   ·repeat apply wq
    refine qa0 qa1 ?_
    simp [zS,c0,a3,qih hq1l,kS,c1]
    refine qal rfl ?_
    refine qa7 ?_
    simp
    refine qa0 qa1 ?_
    simp [zS,qba (show j≤1000000000 by omega)]
    exact nxt _ (fun hwa=>by have:=hwa.pre _ (by omega) (by rw [← hq1,Nat.add_sub_cancel];exact List.getElem?_eq_getElem hq1l);rw [c1] at this;cases this) ⟨[],[],⟨rfl,rfl,rfl,by simp [qb6,qay,qaf,qac],FitH.nothing⟩⟩
end Go.Proofs.YtgpjifeeneeiaaaGreatDoor
namespace Go.Proofs.YtgpjifeeneeiaaaGreatDoor
set_option linter.unusedSimpArgs false
set_option linter.unusedVariables false
open Go Go.RowKit Go.ChangeShapes Go.WideShapes Go.ChangeAt
set_option maxRecDepth 100000
theorem qjq {α:Type} {n:Nat} {t e:TypeId} {enc:α→AV} {ag:Bool} (hu:Tryz.prog.underlying t=some (.slice e)) (hag:qgs Tryz.prog e=some ag) (h:∀ cs x,qcu Tryz.prog n e cs→qg8 ag cs=some x→∃ a,x=enc a) {qs:List AV} (hs:qcu Tryz.prog (n+1) t qs) :
  ∃ L:List α,qs=[.fslc (Tryz.prog.cellsOf e) (L.map enc)]:=by
 unfold qcu at hs
 simp only [hu] at hs
 obtain ⟨es,rfl,_,hes⟩:=hs
 have key:∀ l:List AV,(∀ x,x∈l→∃ ag cs,qgs Tryz.prog e=some ag∧qg8 ag cs=some x∧qcu Tryz.prog n e cs)→∃ L:List α,l=L.map enc:=by
  intro l
  induction l with
  | nil=>intro _;exact ⟨[],rfl⟩
  | cons x r ih=>
   intro hx
   obtain ⟨ag',cs,h1,h2,h3⟩:=hx x (by simp)
   rw [hag,sj] at h1
   subst h1
   obtain ⟨a,ha⟩:=h cs x h3 h2
   obtain ⟨L,hL⟩:=ih fun y hy=>hx y (by simp [hy])
   exact ⟨a::L,by rw [ha,hL];rfl⟩
 obtain ⟨L,rfl⟩:=key es hes
 exact ⟨L,rfl⟩
theorem qkl {n:Nat} {qs:List AV} (h:qcu Tryz.prog (n+1) 9 qs):∃ s:Str,qs=[.str s]:=by
 unfold qcu at h
 simp only [Tryz.underlying9] at h
 obtain ⟨s,rfl,_⟩:=h
 exact ⟨s,rfl⟩
theorem qkm {n:Nat} {qs:List AV} (h:qcu Tryz.prog (n+1) 3 qs):∃ i:Int,qs=[qbw i]:=by
 unfold qcu at h
 simp only [Tryz.underlying3] at h
 obtain ⟨s,rfl,_⟩:=h
 exact ⟨s,rfl⟩
theorem qw2:Tryz.prog.cellsOf 43=2:=by kernel_rfl
theorem qzy:Tryz.prog.cellsOf 3=1:=by kernel_rfl
theorem qw1:Tryz.prog.cellsOf 31=7:=by kernel_rfl
theorem qz3 {n:Nat} {qs:List AV} (h:qcu Tryz.prog (n+2) 43 qs):∃ a:At1,AV.agg qs=qem a:=by
 unfold qcu at h
 simp only [Tryz.underlying43] at h
 cases h with
 | cons f r x y h1 h2=>
  cases h2 with
  | cons f2 r2 x2 y2 h3 h4=>
   cases h4
   obtain ⟨s1,rfl⟩:=qkl h1
   obtain ⟨s2,rfl⟩:=qkl h3
   exact ⟨(s1,s2),rfl⟩
theorem qv0 {n:Nat} {qs:List AV} (h:qcu Tryz.prog (n+3) 28 qs):∃ L:List At1,qs=[qb7 L]:=by
 obtain ⟨L,rfl⟩:=qjq (enc:=qem) (ag:=true) Tryz.underlying28 agT43 (fun cs x h hw=>by
  simp only [qg8,sj] at hw
  obtain ⟨a,ha⟩:=qz3 h
  exact ⟨a,by rw [← hw,ha]⟩) h
 exact ⟨L,by rw [qw2];rfl⟩
theorem qz2 {n:Nat} {qs:List AV} (h:qcu Tryz.prog (n+2) 29 qs):∃ L:List Int,qs=[qbs L]:=by
 obtain ⟨L,rfl⟩:=qjq (enc:=qbw) (ag:=false) Tryz.underlying29 agT3 (fun cs x h hw=>by
  obtain ⟨a,rfl⟩:=qkm h
  simp only [qg8,qbw,AV.single,sj] at hw
  exact ⟨a,hw.symm⟩) h
 exact ⟨L,by rw [qzy]⟩
theorem qz1 {n:Nat} {qs:List AV} (h:qcu Tryz.prog (n+4) 31 qs):∃ a:Nd,AV.agg qs=qaj a:=by
 unfold qcu at h
 simp only [Tryz.underlying31] at h
 obtain _ | ⟨_,_,_,_,h1,h⟩:=h
 obtain _ | ⟨_,_,_,_,h2,h⟩:=h
 obtain _ | ⟨_,_,_,_,h3,h⟩:=h
 obtain _ | ⟨_,_,_,_,h4,h⟩:=h
 obtain _ | ⟨_,_,_,_,h5,h⟩:=h
 obtain _ | ⟨_,_,_,_,h6,h⟩:=h
 obtain _ | ⟨_,_,_,_,h7,h⟩:=h
 cases h
 obtain ⟨x1,rfl⟩:=qkm h1
 obtain ⟨x2,rfl⟩:=qkm h2
 obtain ⟨x3,rfl⟩:=qkl h3
 obtain ⟨x4,rfl⟩:=qv0 (n:=n) h4
 obtain ⟨x5,rfl⟩:=qkl h5
 obtain ⟨x6,rfl⟩:=qkm h6
 obtain ⟨x7,rfl⟩:=qz2 (n:=n+1) h7
 exact ⟨⟨x1,x2,x3,x4,x5,x6,x7⟩,rfl⟩
theorem qz0 {n:Nat} {qs:List AV} (h:qcu Tryz.prog (n+6) 24 qs):∃ t:Tr,AV.agg qs=qam t:=by
 unfold qcu at h
 simp only [Tryz.underlying24] at h
 obtain _ | ⟨_,_,_,_,h1,h⟩:=h
 cases h
 obtain ⟨L,rfl⟩:=qjq (n:=n+4) (enc:=qaj) (ag:=true) Tryz.underlying22 agT31 (fun cs x h hw=>by
  simp only [qg8,sj] at hw
  obtain ⟨a,ha⟩:=qz1 h
  exact ⟨a,by rw [← hw,ha]⟩) h1
 exact ⟨L,by rw [qw1];rfl⟩
theorem okTree:za5 Tryz.prog 6 24=true:=by kernel_rfl
section
variable {H:Type} {enc:TypeId × Value→H} {W:World} {hg:GlobsIn W}
theorem argTree {b0 base:Nat} {sp:Nat→Bool} {held:Bool} {v:Value} {d:DataW H} {ps:List MemPlace} (ht:DataW.Trod enc Tryz.prog W base sp held 24 v d ps) (hv:Value.okWide Tryz.prog W .any b0 24 v):∃ t,VR (start W hg) (qam t) v:=by
 obtain ⟨qs,a,h1,h2,h3⟩:=zed (hg:=hg) okTree (ag:=true) agT24 (fun h=>by cases h) ht hv
 obtain ⟨x,hx⟩:=qz0 (n:=0) h1
 have:a=qam x:=by
  simp only [qg8,sj] at h2
  rw [← h2,hx]
 exact ⟨x,this ▸ h3⟩
end
end Go.Proofs.YtgpjifeeneeiaaaGreatDoor
namespace Go.Proofs.YtgpjifeeneeiaaaGreatDoor
set_option linter.unusedSimpArgs false
set_option linter.unusedVariables false
open Go Go.RowKit
set_option maxRecDepth 100000
abbrev qp4:Str:=[97,114,101,97,32,98,97,115,101,32,98,97,115,101,102,111,110,116,32,98,103,115,111,117,110,100,32,98,114,32,99,111,108,32,101,109,98,101,100,32,102,114,97,109,101,32,104,114,32,105,109,103,32,105,110,112,117,116,32,107,101,121,103,101,110,32,108,105,110,107,32,109,101,116,97,32,112,97,114,97,109,32,115,111,117,114,99,101,32,116,114,97,99,107,32,119,98,114]
theorem qyw:qnj (qbo qp4) (qow (ctx []) 100000 (.fn 80) [.str qp4] ⟨0,[]⟩)=true:=by decide +kernel
theorem c80v {T:List (Entry Tryz.prog)}:CallAt (ctx T) 80 [.str qp4] ⟨0,[]⟩ (qc5 (qbo qp4)) ⟨0,[]⟩:=qw0 (T:=[]) qyw
theorem c116 {T:List (Entry Tryz.prog)} (L:List Str) (x:Str) (hl:L.length≤1000000):CallAt (ctx T) 116 [qc5 L,.str x] ⟨0,[]⟩ (.int .i64 (qbk (fun y=>decide (x=y)) L 0)) ⟨0,[]⟩:=by
 refine qa3 (fn:=Tryz.f116) (s0:=⟨[0,1,4,5,7,8],[qc5 L,.str x,.undef,.undef,.undef,.undef],[],19,⟨0,[[]]⟩⟩) Tryz.func116 rfl rfl rfl ?_
 repeat apply wq
 refine qa0 qa1 ?_
 simp [zS]
 repeat apply wq
 refine qa0 qa1 ?_
 simp [zS,lenS]
 refine qa9 (qax (fun i:Nat=>(⟨[0,1,4,5,7,8],[qc5 L,.str x,.undef,.undef,.int .i64 (L.length:Nat),.int .i64 i],[],19,⟨0,[[]]⟩⟩ : St))
  (fun i=>i≤L.length∧qbk (fun y=>decide (x=y)) L 0=qbk (fun y=>decide (x=y)) (L.drop i) i) (fun i=>L.length - i) [] [] 0 ⟨Nat.zero_le _,rfl⟩ ⟨rfl,rfl,rfl,by simp [qb6,qay,qaf,qac,qc5],FitH.nothing⟩ ?_)
 rintro i ⟨hi,hx⟩ B hB
 repeat apply wq
 refine qa0 qa1 ?_
 simp [zS]
 repeat apply wq
 refine qau rfl (fun h=>?_) fun h=>?_
 ·simp at h
  rw [qfw h] at hx
  refine qa7 ?_
  simp
  repeat apply wq
  refine qa9 ?_
  repeat apply wq
  refine qa0 qa1 ?_
  simp [zS]
  by_cases h2:L[i]=x
  ·repeat apply wq
   refine qa0 qa1 ?_
   simp [zS,atS h,h2]
   refine qai rfl ?_
   repeat apply wq
   refine qa0 qa1 ?_
   simp [zS]
   refine qa8 ?_
   simp [qab,Tryz.f116,oneOr,qaa,qa2]
   exact qa4 rfl (by rw [hx,if_pos (by simp [h2])])
  ·have h2':¬ x=L[i]:=fun e=>h2 e.symm
   repeat apply wq
   refine qa0 qa1 ?_
   simp [zS,atS h,h2']
   refine qal rfl ?_
   refine qa7 ?_
   simp
   refine qa0 qa1 ?_
   simp [zS,qba (show i≤1000000000 by omega)]
   exact hB _ (i+1) (by omega) ⟨by omega,by rw [hx,if_neg (by simp [h2'])]⟩ ⟨[],[],⟨rfl,rfl,rfl,by simp [qb6,qay,qaf,qac,qc5],FitH.nothing⟩⟩
 ·simp at h
  refine qat ?_
  simp
  repeat apply wq
  refine qa0 qa1 ?_
  simp [zS]
  refine qa8 ?_
  simp [qab,Tryz.f116,oneOr,qaa,qa2]
  exact qa4 rfl (by rw [hx,List.drop_eq_nil_of_le h];rfl)
noncomputable def e116:Entry Tryz.prog:=mkE 116 [[1],[]] (fun x:List Str × Str=>[qc5 x.1,.str x.2]) (fun x=>x.1.length≤1000000) (fun x=>.int .i64 (qbk (fun y=>decide (x.2=y)) x.1 0)) fun x hx=>c116 (T:=[]) x.1 x.2 hx
theorem injSS (x y:List Str × Str) (h:[qc5 x.1,.str x.2]=[qc5 y.1,.str y.2]):x=y:=by
 simp at h;exact Prod.ext (qxz (by simpa [qc5] using h.1)) h.2
theorem k116 {T:List (Entry Tryz.prog)} (hT:qag 116 T=some e116.g) {L:List Str} (x:Str) (hl:L.length≤1000000) (H:Heap):qb9 (ctx T) (.fn 116) [qc5 L,.str x] H=some (.int .i64 (qbk (fun y=>decide (x=y)) L 0),H):=
 qae hT injSS (L,x) hl rfl (by simp [qc5])
theorem zcl {x:Str}:∀ (L:List Str) (k:Nat),(0≤qbk (fun y=>decide (x=y)) L k)↔x∈L
 | [],k=>by simp [qbk]
 | y::r,k=>by
  unfold qbk
  by_cases h:x=y
  ·simp [h]
  ·simp only [h,decide_false,Bool.false_eq_true,if_false,List.mem_cons,false_or]
   exact zcl r (k+1)
theorem c79 {T:List (Entry Tryz.prog)} (hI:qag 116 T=some e116.g) (L:List Str) (x:Str) (hl:L.length≤1000000):CallAt (ctx T) 79 [qc5 L,.str x] ⟨0,[]⟩ (.bool (decide (x∈L))) ⟨0,[]⟩:=by
 have hk:=fun H=>k116 hI x hl H
 have hm:=zcl (x:=x) L 0
 generalize qbk (fun y=>decide (x=y)) L 0=v at *
 simp only [qc5] at hk
 refine qa3 (fn:=Tryz.f79) (s0:=⟨[0,1,4],[qc5 L,.str x,.undef],[],9,⟨0,[[]]⟩⟩) Tryz.func79 rfl rfl rfl ?_
 (repeat (first
  | (refine qah ?_)
  | (refine qa9 ?_)
  | (refine qcf ?_;simp only [qaa,qa2])
  | ((refine qa0 qa1 ?_);simp [zS,qc5,hk])
  | (refine qai rfl ?_)
  | (refine qal rfl ?_)
  | ((refine qa7 ?_);simp only [qaa,qa2])
  | ((refine qat ?_);simp [qaa,qa2])))
 refine qa8 ?_
 simp [qab,Tryz.f79,oneOr,qaa,qa2]
 exact qa4 rfl (by simp [hm])
theorem wl_void:(qbo qp4).length≤1000000:=by decide +kernel
def qi5 (space:Int) (name:Str):Bool:=decide (space=0) && inW qp4 name
theorem c44v {T:List (Entry Tryz.prog)} (x:Str) (hx:x.length≤1000000000):CallAt (ctx T) 44 [.str qp4,.str x] ⟨0,[]⟩ (.bool (inW qp4 x)) ⟨0,[]⟩:=
 c44 (T:=[e77,e78]) rfl rfl qp4 x (by decide) hx (c80v (T:=[])) (c79 (T:=[e116]) rfl _ x wl_void)
theorem c46 {T:List (Entry Tryz.prog)} (space:Int) (name:Str) (hx:name.length≤1000000000):CallAt (ctx T) 46 [.int .i64 space,.str name] ⟨0,[]⟩ (.bool (qi5 space name)) ⟨0,[]⟩:=by
 have h:=(c44v (T:=T) name hx).lift (by simp [qac,qaf]) ⟨0,[[]]⟩
 refine qa3 (fn:=Tryz.f46) (s0:=⟨[0,1,4],[.int .i64 space,.str name,.undef],[],11,⟨0,[[]]⟩⟩) Tryz.func46 rfl rfl rfl ?_
 by_cases hs:space=0
 ·repeat apply wq
  refine qa0 qa1 ?_
  simp [zS]
  repeat apply wq
  refine qa0 (qca [⟨44,_,_,_,_,h⟩]) ?_
  simp [zS,qdb,hs]
  refine qa8 ?_
  simp [qab,Tryz.f46,oneOr,qaa,qa2]
  exact qa4 rfl (by simp [qi5,hs])
 ·repeat apply wq
  refine qa0 qa1 ?_
  simp [zS]
  repeat apply wq
  refine qa0 qa1 ?_
  simp [zS,hs]
  refine qa8 ?_
  simp [qab,Tryz.f46,oneOr,qaa,qa2]
  exact qa4 rfl (by simp [qi5,hs])
theorem injIS (x y:Int × Str) (h:[AV.int .i64 x.1,AV.str x.2]=[AV.int .i64 y.1,AV.str y.2]):x=y:=by
 simp at h;exact Prod.ext h.1 h.2
noncomputable def e46:Entry Tryz.prog:=mkE 46 [[],[]] (fun x:Int × Str=>[.int .i64 x.1,.str x.2]) (fun x=>x.2.length≤1000000000) (fun x=>.bool (qi5 x.1 x.2)) fun x hx=>c46 (T:=[]) x.1 x.2 hx
theorem k46 {T:List (Entry Tryz.prog)} (hT:qag 46 T=some e46.g) (space:Int) {name:Str} (hx:name.length≤1000000000) (H:Heap):qb9 (ctx T) (.fn 46) [.int .i64 space,.str name] H=some (.bool (qi5 space name),H):=
 qae hT injIS (space,name) hx rfl (by simp)
theorem c136 {T:List (Entry Tryz.prog)} (hI:qag 105 T=some e105.g) (space:Int) (name W:Str) (hW:W.length≤900000):CallAt (ctx T) 136 [.int .i64 space,.str name,.str W] ⟨0,[]⟩ (.bool (decide (space=0) && inW W name)) ⟨0,[]⟩:=by
 have hk:=fun H=>k105 hI name hW H
 by_cases hs:space=0
 ·refine qa3 (fn:=Tryz.f136) (s0:=⟨[0,1,2,6],[.int .i64 space,.str name,.str W,.undef],[],14,⟨0,[[]]⟩⟩) Tryz.func136 rfl rfl rfl ?_
  (repeat (first
   | (refine qah ?_)
   | (refine qa9 ?_)
   | (refine qcf ?_;simp only [qaa,qa2])
   | ((refine qa0 qa1 ?_);simp [zS,hk,hs])
   | (refine qai rfl ?_)
   | (refine qal rfl ?_)
   | ((refine qa7 ?_);simp only [qaa,qa2])
   | ((refine qat ?_);simp [qaa,qa2])))
  refine qa8 ?_
  simp [qab,Tryz.f136,oneOr,qaa,qa2]
  exact qa4 rfl (by simp [hs])
 ·refine qa3 (fn:=Tryz.f136) (s0:=⟨[0,1,2,6],[.int .i64 space,.str name,.str W,.undef],[],14,⟨0,[[]]⟩⟩) Tryz.func136 rfl rfl rfl ?_
  (repeat (first
   | (refine qah ?_)
   | (refine qa9 ?_)
   | (refine qcf ?_;simp only [qaa,qa2])
   | ((refine qa0 qa1 ?_);simp [zS,hk,hs])
   | (refine qai rfl ?_)
   | (refine qal rfl ?_)
   | ((refine qa7 ?_);simp only [qaa,qa2])
   | ((refine qat ?_);simp [qaa,qa2])))
  refine qa8 ?_
  simp [qab,Tryz.f136,oneOr,qaa,qa2]
  exact qa4 rfl (by simp [hs])
theorem injISS (x y:Int × Str × Str) (h:[AV.int .i64 x.1,AV.str x.2.1,AV.str x.2.2]=[AV.int .i64 y.1,AV.str y.2.1,AV.str y.2.2]):x=y:=by
 simp at h;exact Prod.ext h.1 (Prod.ext h.2.1 h.2.2)
noncomputable def e136:Entry Tryz.prog:=mkE 136 [[],[],[]] (fun x:Int × Str × Str=>[.int .i64 x.1,.str x.2.1,.str x.2.2]) (fun x=>x.2.2.length≤900000) (fun x=>.bool (decide (x.1=0) && inW x.2.2 x.2.1)) fun x hx=>c136 (T:=[e105]) rfl x.1 x.2.1 x.2.2 hx
theorem k136 {T:List (Entry Tryz.prog)} (hT:qag 136 T=some e136.g) (space:Int) (name:Str) {W:Str} (hW:W.length≤900000) (H:Heap):qb9 (ctx T) (.fn 136) [.int .i64 space,.str name,.str W] H=some (.bool (decide (space=0) && inW W name),H):=
 qae hT injISS (space,name,W) hW rfl (by simp)
theorem c102 {T:List (Entry Tryz.prog)} (hH:qag 136 T=some e136.g) (space:Int) (name:Str):CallAt (ctx T) 102 [.int .i64 space,.str name] ⟨0,[]⟩ (.bool (qi5 space name)) ⟨0,[]⟩:=by
 have hk:=fun H=>k136 hH space name (W:=qp4) (by decide) H
 refine qa3 (fn:=Tryz.f102) (s0:=⟨[0,1,4],[.int .i64 space,.str name,.undef],[],8,⟨0,[[]]⟩⟩) Tryz.func102 rfl rfl rfl ?_
 (repeat (first
  | (refine qah ?_)
  | (refine qa9 ?_)
  | (refine qcf ?_;simp only [qaa,qa2])
  | ((refine qa0 qa1 ?_);simp [zS,hk])
  | (refine qai rfl ?_)
  | (refine qal rfl ?_)
  | ((refine qa7 ?_);simp only [qaa,qa2])
  | ((refine qat ?_);simp [qaa,qa2])))
 refine qa8 ?_
 simp [qab,Tryz.f102,oneOr,qaa,qa2]
 exact qa4 rfl (by simp [qi5])
noncomputable def e102:Entry Tryz.prog:=mkE 102 [[],[]] (fun x:Int × Str=>[.int .i64 x.1,.str x.2]) (fun _=>True) (fun x=>.bool (qi5 x.1 x.2)) fun x _=>c102 (T:=[e136]) rfl x.1 x.2
theorem k102 {T:List (Entry Tryz.prog)} (hT:qag 102 T=some e102.g) (space:Int) (name:Str) (H:Heap):qb9 (ctx T) (.fn 102) [.int .i64 space,.str name] H=some (.bool (qi5 space name),H):=
 qae hT injIS (space,name) trivial rfl (by simp)
end Go.Proofs.YtgpjifeeneeiaaaGreatDoor