/- ref28.Nodes: the elements above a node. No condition. -/
import Derived.Test.YtgpjifeeneeiaaaGreatDoorMQ
import Derived.Test.YtgpjifeeneeiaaaGreatDoorMG
import Derived.Test.YtgpjifeeneeiaaaGreatDoorMH
namespace Go.Proofs.YtgpjifeeneeiaaaGreatDoor
set_option linter.unusedSimpArgs false
set_option linter.unusedVariables false
open Go Go.RowKit
set_option maxRecDepth 100000
theorem eq_at (a b:At1):eqA Tryz.prog 43 (.agg [.str a.1,.str a.2]) (.agg [.str b.1,.str b.2])=some (decide (a=b)):=by
 have h1:Tryz.prog.stoodInHeld 43=false:=by decide +kernel
 have h2:Tryz.prog.eqGuardType Tryz.prog.depth 43=false:=by decide +kernel
 have h3:decide (a=b)=(eqB a.1 b.1 && eqB a.2 b.2):=by rw [qin,qin];simp [Prod.ext_iff]
 rw [h3]
 unfold eqA
 simp only [Tryz.underlying43,Option.bind_some,h1,h2]
 simp [eqFields,qhz,qcl,qim]
 cases eqB a.1 b.1 <;> simp
 cases eqB a.2 b.2 <;> simp
theorem ne_at (a b:At1):qd4 Tryz.prog .neq 43 (.agg [.str a.1,.str a.2]) (.agg [.str b.1,.str b.2])=some (.bool !decide (a=b)):=by
 have:qd4 Tryz.prog .neq 43 (.agg [.str a.1,.str a.2]) (.agg [.str b.1,.str b.2])=(eqA Tryz.prog 43 (.agg [.str a.1,.str a.2]) (.agg [.str b.1,.str b.2])).bind fun e=>some (.bool !e):=rfl
 rw [this,eq_at];rfl
theorem qic {α:Type} [DecidableEq α] {A B:List α} {i:Nat} (h:i < A.length) (h2:i < B.length):decide (A.drop i=B.drop i)=(decide (A[i]=B[i]) && decide (A.drop (i+1)=B.drop (i+1))):=by
 rw [List.drop_eq_getElem_cons h,List.drop_eq_getElem_cons h2]
 rw [Bool.eq_iff_iff];simp only [decide_eq_true_eq,Bool.and_eq_true,List.cons.injEq]
theorem c94 {T:List (Entry Tryz.prog)} (A:List At1) (B:List At1) (ha:A.length≤1000) (hb:B.length≤1000):CallAt (ctx T) 94 [qb7 A,qb7 B] ⟨0,[]⟩ (.bool (decide (A=B))) ⟨0,[]⟩:=by
 refine qa3 (fn:=Tryz.f94) (s0:=⟨[0,1,4,5],[qb7 A,qb7 B,.undef,.undef],[],26,⟨0,[[]]⟩⟩) Tryz.func94 rfl rfl rfl ?_
 repeat apply wq
 refine qa0 qa1 ?_
 simp [zS]
 by_cases hl:A.length=B.length
 ·have hli:(A.length:Int)=(B.length:Int):=by omega
  repeat apply wq
  refine qa0 qa1 ?_
  simp [zS,qfo,hl,hli]
  refine qal (by simp [qbq,St.get,hl]) ?_
  refine qa7 ?_
  simp
  repeat apply wq
  refine qa0 qa1 ?_
  simp [zS]
  refine qa9 (qax (fun i:Nat=>(⟨[0,1,4,5],[qb7 A,qb7 B,.bool false,.int .i64 (i:Int)],[],26,⟨0,[[]]⟩⟩ : St))
   (fun i=>i≤A.length∧decide (A=B)=decide (A.drop i=B.drop i)) (fun i=>A.length - i) [] [] 0 ⟨Nat.zero_le _,rfl⟩ ⟨rfl,rfl,rfl,by simp [qb6,qay,qaf,qac,qb7],FitH.nothing⟩ ?_)
  rintro i ⟨hi,hx⟩ S hS
  by_cases h:i < A.length
  ·have hc:(i:Int) < (A.length:Int):=by omega
   have h2:i < B.length:=by omega
   have hix:=atA h
   have hix2:=atA h2
   have hak:=qba (show i≤1000000000 by omega)
   rw [qic h h2] at hx
   have hne:=ne_at A[i] B[i]
   clear hl hli
   generalize A[i]=a at *
   generalize B[i]=b at *
   generalize decide (a=b)=e at *
   (repeat' (first
    | with_reducible refine qah ?_
    | with_reducible refine qa9 ?_
    | (with_reducible refine qa0 qa1 ?_;apply qbn;simp [zS, *,qfo];exact rfl)
    | (refine qbh qci qa1 (by decide +kernel) (by decide +kernel) ?_;apply qbn;simp [zS,qbx,qbd,qb8, *,qfo];exact rfl)
    | (with_reducible refine qas ?_;simp only [qaa,qa2])
    | (refine qai rfl ?_)
    | (refine qau rfl (fun hc=>?_) (fun hc=>?_) <;> ((have hd:=hc);(try simp at hd);(try subst hd)))
    | (with_reducible refine qa7 ?_;simp only [qaa,qa2])
    | (with_reducible refine qa8 ?_;simp [qab,Tryz.f94,oneOr,qaa,qa2])))
   all_goals first | exact qa4 rfl (by rw [hx];simp [*]) | (exact hS _ (i+1) (by omega) ⟨by omega,by rw [hx];simp [*]⟩ ⟨[],[],⟨rfl,rfl,rfl,by simp [qb6,qay,qaf,qac,qb7],FitH.nothing⟩⟩) | (exfalso;omega)
  ·have hc:¬ (i:Int) < (A.length:Int):=by omega
   rw [List.drop_eq_nil_of_le (by omega),List.drop_eq_nil_of_le (by omega)] at hx
   (repeat' (first
    | with_reducible refine qah ?_
    | with_reducible refine qa9 ?_
    | (with_reducible refine qa0 qa1 ?_;apply qbn;simp [zS, *,qfo];exact rfl)
    | (refine qbh qci qa1 (by decide +kernel) (by decide +kernel) ?_;apply qbn;simp [zS,qbx,qbd,qb8, *,qfo];exact rfl)
    | (with_reducible refine qas ?_;simp only [qaa,qa2])
    | (refine qau rfl (fun hc=>?_) (fun hc=>?_) <;> ((have hd:=hc);(try simp at hd);(try subst hd)))
    | (with_reducible refine qa7 ?_;simp only [qaa,qa2])
    | (with_reducible refine qat ?_;simp [qaa,qa2])
    | (with_reducible refine qa8 ?_;simp [qab,Tryz.f94,oneOr,qaa,qa2])))
   all_goals first | exact qa4 rfl (by rw [hx];rfl) | (exfalso;omega)
 ·have hli:¬ (A.length:Int)=(B.length:Int):=by omega
  have hne:¬ A=B:=fun e=>hl (congrArg List.length e)
  repeat apply wq
  refine qa0 qa1 ?_
  simp [zS,qfo,hl,hli]
  refine qai (by simp [qbq,St.get,hl]) ?_
  repeat apply wq
  refine qa0 qa1 ?_
  simp [zS]
  refine qa8 ?_
  simp [qab,Tryz.f94,oneOr,qaa,qa2]
  exact qa4 rfl (by simp [hne])
theorem inj_94 (x y:List At1 × List At1) (h:(fun z:List At1 × List At1=>([qb7 z.1,qb7 z.2]:List AV)) x=(fun z:List At1 × List At1=>([qb7 z.1,qb7 z.2]:List AV)) y):x=y:=by
 obtain ⟨x0,x1⟩:=x
 obtain ⟨y0,y1⟩:=y
 simp only [List.cons.injEq,and_true] at h
 obtain ⟨h0,h1⟩:=h
 have g0:x0=y0:=qfv h0
 have g1:x1=y1:=qfv h1
 subst g0 g1
 rfl
noncomputable def e94:Entry Tryz.prog:=mkE 94 [[2],[2]] (fun z:List At1 × List At1=>[qb7 z.1,qb7 z.2]) (fun z=>(z.1.length≤1000)∧(z.2.length≤1000)) (fun z=>.bool (decide (z.1=z.2))) fun z h=>c94 (T:=[])  z.1 z.2 h.1 h.2
theorem k94 {T:List (Entry Tryz.prog)} (hT:qag 94 T=some e94.g) (A:List At1) (B:List At1) (ha:A.length≤1000) (hb:B.length≤1000) (H:Heap):qb9 (ctx T) (.fn 94) [qb7 A,qb7 B] H=some (.bool (decide (A=B)),H):=
 qae hT inj_94 (A,B) ⟨ha,hb⟩ rfl (by simp [qar])
def oneB (a b:Nd):Bool:=decide (a.kind=b.kind) && decide (a.space=b.space) && decide (a.name=b.name) && decide (a.data=b.data) && decide (a.up=b.up) && decide (a.kids=b.kids) && decide (a.attrs=b.attrs)
theorem one_eq (a b:Nd):oneB a b=true↔a=b:=by
 obtain ⟨k1,s1,n1,a1,d1,u1,c1⟩:=a
 obtain ⟨k2,s2,n2,a2,d2,u2,c2⟩:=b
 simp [oneB]
 constructor
 ·rintro ⟨⟨⟨⟨⟨⟨h1,h2⟩,h3⟩,h4⟩,h5⟩,h6⟩,h7⟩;exact ⟨h1,h2,h3,h7,h4,h5,h6⟩
 ·rintro ⟨h1,h2,h3,h7,h4,h5,h6⟩;exact ⟨⟨⟨⟨⟨⟨h1,h2⟩,h3⟩,h4⟩,h5⟩,h6⟩,h7⟩
instance decNd:DecidableEq Nd:=fun a b=>decidable_of_iff (oneB a b=true) (one_eq a b)
set_option maxHeartbeats 1000000 in
theorem c58 {T:List (Entry Tryz.prog)} (hc0:qag 94 T=some e94.g) (a:Nd) (b:Nd) (ha:a.attrs.length≤1000) (hb:b.attrs.length≤1000) (hk:a.kids.length≤1000000):CallAt (ctx T) 58 [qaj a,qaj b] ⟨0,[]⟩ (.bool (oneB a b)) ⟨0,[]⟩:=by
 have kc0:=@k94 T hc0
 have k0:=fun H=>kc0 a.attrs b.attrs ha hb H
 clear kc0 hc0
 obtain ⟨R,hR⟩ : ∃ R,R=oneB a b:=⟨_,rfl⟩
 rw [← hR]
 unfold oneB at hR
 have hkd:¬ a.kids.length=b.kids.length→decide (a.kids=b.kids)=false:=fun h=>by simp;exact fun e=>h (congrArg List.length e)
 have hkd':¬ (a.kids.length:Int)=(b.kids.length:Int)→decide (a.kids=b.kids)=false:=fun h=>hkd (by omega)
 generalize decide (a.attrs=b.attrs)=ab at *
 obtain ⟨kb,hkb⟩ : ∃ kb,kb=decide (a.kids=b.kids):=⟨_,rfl⟩
 rw [← hkb] at hR hkd'
 clear hkd
 have hcl:qwh (kb=decide (a.kids=b.kids)):=hkb
 clear hkb
 refine qa3 (fn:=Tryz.f58) (s0:=⟨[0,1,2,3,4,5],[qaj a,qaj b,.undef,.undef,.undef,.undef],[],71,⟨0,[[]]⟩⟩) Tryz.func58 rfl rfl rfl ?_
 (repeat' (first
  | with_reducible refine qah ?_
  | with_reducible refine qa9 ?_
  | (with_reducible refine qa0 qa1 ?_;apply qbn;simp [zS, *,qao,qm9];exact rfl)
  | (with_reducible refine qas ?_;simp only [qaa,qa2])
  | (with_reducible refine qaz (fun hc=>?_) (fun hc=>?_) <;> ((have hd:=hc);(try simp at hd);(try subst hd);apply qbn;simp [zS, *,qao,qm9];exact rfl))
  | (refine qai rfl ?_)
  | (refine qau rfl (fun hc=>?_) (fun hc=>?_) <;> ((have hd:=hc);(try simp at hd);(try subst hd)))
  | (with_reducible refine qa7 ?_;simp only [qaa,qa2])
  | (with_reducible refine qa8 ?_;simp [qab,Tryz.f58,oneOr,qaa,qa2])))
 all_goals first | exact qa4 rfl (by rw [hR];first | (simp [*];done) | (simp_all;done)) | (skip) | (exfalso;omega)
 rename_i hlen
 have hR':R=(kb && ab):=by rw [hR];simp [*]
 rw [hR',show kb=decide (a.kids=b.kids) from hcl]
 have hll:a.kids.length=b.kids.length:=by omega
 clear hR' hR hcl hkd'
 refine (qax (fun i:Nat=>(⟨[0,1,2,3,4,5],[.undef,.undef,.fptr a.cs 0,.fptr b.cs 0,.bool false,.int .i64 (i:Int)],[],71,⟨0,[[]]⟩⟩ : St))
  (fun i=>i≤a.kids.length∧decide (a.kids=b.kids)=decide (a.kids.drop i=b.kids.drop i)) (fun i=>a.kids.length - i) [] [(1,b.cs),(0,a.cs)] 0 ⟨Nat.zero_le _,rfl⟩ ⟨rfl,rfl,rfl,?_,?_⟩ ?_)
 ·simp [qb6,qay,qc1,qaf,qac]
 ·refine FitH.fsV (.froze (by simp) fun x hx=>?_) rfl
  simp at hx
  rcases hx with rfl | rfl
  ·exact ⟨b.cs,by simp [Heap.get,getFs,getF],qak (qev b),qev b⟩
  ·exact ⟨a.cs,by simp [Heap.get,getFs,getF],qak (qev a),qev a⟩
 rintro i ⟨hi,hx⟩ S hS
 by_cases h:i < a.kids.length
 ·have hc:(i:Int) < (a.kids.length:Int):=by omega
  have h2:i < b.kids.length:=by omega
  have hix:=atI h
  have hix2:=atI h2
  have hak:=qba (show i≤1000000000 by omega)
  rw [qic h h2] at hx
  clear hll
  generalize a.kids[i]=x at *
  generalize b.kids[i]=y at *
  by_cases hxy:x=y
  ·subst hxy
   simp only [decide_true,Bool.true_and] at hx
   (repeat' (first
    | with_reducible refine qah ?_
    | with_reducible refine qa9 ?_
    | (with_reducible refine qa0 qa1 ?_;apply qbn;simp [zS, *,qao,qm9];exact rfl)
    | (refine qbh qci qa1 (by decide +kernel) (by decide +kernel) ?_;apply qbn;simp [zS,qbx,qbd,qb8, *,qao,qm9];exact rfl)
    | (with_reducible refine qas ?_;simp only [qaa,qa2])
    | (refine qai rfl ?_)
    | (refine qal rfl ?_)
    | (with_reducible refine qa7 ?_;simp only [qaa,qa2])))
   all_goals first | (exact hS _ (i+1) (by omega) ⟨by omega,hx⟩ ⟨[],[],⟨rfl,rfl,rfl,by simp [qb6,qay,qaf,qac],FitH.nothing⟩⟩) | (exfalso;omega)
  ·simp only [hxy,decide_false,Bool.false_and] at hx
   (repeat' (first
    | with_reducible refine qah ?_
    | with_reducible refine qa9 ?_
    | (with_reducible refine qa0 qa1 ?_;apply qbn;simp [zS, *,qao,qm9];exact rfl)
    | (refine qbh qci qa1 (by decide +kernel) (by decide +kernel) ?_;apply qbn;simp [zS,qbx,qbd,qb8, *,qao,qm9];exact rfl)
    | (with_reducible refine qas ?_;simp only [qaa,qa2])
    | (refine qai rfl ?_)
    | (with_reducible refine qa7 ?_;simp only [qaa,qa2])
    | (with_reducible refine qa8 ?_;simp [qab,Tryz.f58,oneOr,qaa,qa2])))
   all_goals first | exact qa4 rfl (by rw [hx];rfl) | (exfalso;omega)
 ·have hc:¬ (i:Int) < (a.kids.length:Int):=by omega
  rw [List.drop_eq_nil_of_le (by omega),List.drop_eq_nil_of_le (by omega)] at hx
  (repeat' (first
   | with_reducible refine qah ?_
   | with_reducible refine qa9 ?_
   | (with_reducible refine qa0 qa1 ?_;apply qbn;simp [zS, *,qao,qm9];exact rfl)
   | (refine qbh qci qa1 (by decide +kernel) (by decide +kernel) ?_;apply qbn;simp [zS,qbx,qbd,qb8, *,qao,qm9];exact rfl)
   | (with_reducible refine qas ?_;simp only [qaa,qa2])
   | (refine qau rfl (fun hc=>?_) (fun hc=>?_) <;> ((have hd:=hc);(try simp at hd);(try subst hd)))
   | (with_reducible refine qa7 ?_;simp only [qaa,qa2])
   | (with_reducible refine qat ?_;simp [qaa,qa2])
   | (with_reducible refine qa8 ?_;simp [qab,Tryz.f58,oneOr,qaa,qa2])))
  all_goals first | exact qa4 rfl (by rw [hx];simp) | (exfalso;omega)
theorem inj_58 (x y:Nd × Nd) (h:(fun z:Nd × Nd=>([qaj z.1,qaj z.2]:List AV)) x=(fun z:Nd × Nd=>([qaj z.1,qaj z.2]:List AV)) y):x=y:=by
 obtain ⟨x0,x1⟩:=x
 obtain ⟨y0,y1⟩:=y
 simp only [List.cons.injEq,and_true] at h
 obtain ⟨h0,h1⟩:=h
 have g0:x0=y0:=qcd h0
 have g1:x1=y1:=qcd h1
 subst g0 g1
 rfl
noncomputable def e58:Entry Tryz.prog:=mkE 58 [[0,0,0,2,0,0,1],[0,0,0,2,0,0,1]] (fun z:Nd × Nd=>[qaj z.1,qaj z.2]) (fun z=>(z.1.attrs.length≤1000)∧(z.2.attrs.length≤1000)∧(z.1.kids.length≤1000000)) (fun z=>.bool (oneB z.1 z.2)) fun z h=>c58 (T:=[e94]) rfl z.1 z.2 h.1 h.2.1 h.2.2
theorem k58 {T:List (Entry Tryz.prog)} (hT:qag 58 T=some e58.g) (a:Nd) (b:Nd) (ha:a.attrs.length≤1000) (hb:b.attrs.length≤1000) (hk:a.kids.length≤1000000) (H:Heap):qb9 (ctx T) (.fn 58) [qaj a,qaj b] H=some (.bool (oneB a b),H):=
 qae hT inj_58 (a,b) ⟨ha,hb,hk⟩ rfl (by simp [qar])
theorem c26 {T:List (Entry Tryz.prog)} (hc0:qag 58 T=some e58.g) (t:Tr) (u:Tr) (ht:t.length≤1000000) (h1:∀ n,n∈t→n.attrs.length≤1000∧n.kids.length≤1000000) (h2:∀ n,n∈u→n.attrs.length≤1000):CallAt (ctx T) 26 [qam t,qam u] ⟨0,[]⟩ (.bool (decide (t=u))) ⟨0,[]⟩:=by
 have kc0:=@k58 T hc0
 refine qa3 (fn:=Tryz.f26) (s0:=⟨[0,1,2,3,4,5],[qam t,qam u,.undef,.undef,.undef,.undef],[],32,⟨0,[[]]⟩⟩) Tryz.func26 rfl rfl rfl ?_
 repeat apply wq
 refine qa0 qa1 ?_
 simp [zS,qam]
 by_cases hl:t.length=u.length
 ·have hli:(t.length:Int)=(u.length:Int):=by omega
  repeat apply wq
  refine qa0 qa1 ?_
  simp [zS,qfu,hl,hli]
  refine qal (by simp [qbq,St.get,hl]) ?_
  refine qa7 ?_
  simp
  repeat apply wq
  refine qa0 qa1 ?_
  simp [zS]
  refine qa9 (qax (fun i:Nat=>(⟨[0,1,2,3,4,5],[.undef,.undef,.fptr [qa5 t] 0,.fptr [qa5 u] 0,.bool false,.int .i64 (i:Int)],[],32,⟨0,[[]]⟩⟩ : St))
   (fun i=>i≤t.length∧decide (t=u)=decide (t.drop i=u.drop i)) (fun i=>t.length - i) [] [(1,[qa5 u]),(0,[qa5 t])] 0 ⟨Nat.zero_le _,rfl⟩ ⟨rfl,rfl,rfl,?_,?_⟩ ?_)
  ·simp [qb6,qay,qc1,qaf,qac]
  ·refine FitH.fsV (.froze (by simp) fun x hx=>?_) rfl
   simp at hx
   rcases hx with rfl | rfl
   ·exact ⟨[qa5 u],by simp [Heap.get,getFs,getF],qak (by simp [qac]),by simp [qac]⟩
   ·exact ⟨[qa5 t],by simp [Heap.get,getFs,getF],qak (by simp [qac]),by simp [qac]⟩
  rintro i ⟨hi,hx⟩ S hS
  by_cases h:i < t.length
  ·have hc:(i:Int) < (t.length:Int):=by omega
   have g2:i < u.length:=by omega
   have hix:=atN h
   have hix2:=atN g2
   have hak:=qba (show i≤1000000000 by omega)
   have k0:=fun H=>kc0 t[i] u[i] (h1 _ (List.getElem_mem h)).1 (h2 _ (List.getElem_mem g2)) (h1 _ (List.getElem_mem h)).2 H
   rw [qic h g2] at hx
   have ho:=one_eq t[i] u[i]
   clear hl hli kc0 hc0 h1 h2
   generalize t[i]=a at *
   generalize u[i]=b at *
   by_cases hab:a=b
   ·have h3:=ho.2 hab
    simp only [hab,decide_true,Bool.true_and] at hx
    rw [h3] at k0
    clear ho hab h3
    (repeat' (first
     | with_reducible refine qah ?_
     | with_reducible refine qa9 ?_
     | (with_reducible refine qa0 qa1 ?_;apply qbn;simp [zS, *,qao,qfu];exact rfl)
     | (refine qbh qci qa1 (by decide +kernel) (by decide +kernel) ?_;apply qbn;simp [zS,qbx,qbd,qb8, *,qao,qfu];exact rfl)
     | (with_reducible refine qas ?_;simp only [qaa,qa2])
     | (refine qai rfl ?_)
     | (refine qal rfl ?_)
     | (with_reducible refine qa7 ?_;simp only [qaa,qa2])))
    all_goals first | (exact hS _ (i+1) (by omega) ⟨by omega,hx⟩ ⟨[],[],⟨rfl,rfl,rfl,by simp [qb6,qay,qaf,qac],FitH.nothing⟩⟩) | (exfalso;omega)
   ·have h3:oneB a b=false:=Bool.eq_false_iff.2 fun q=>hab (ho.1 q)
    simp only [hab,decide_false,Bool.false_and] at hx
    rw [h3] at k0
    clear ho h3
    (repeat' (first
     | with_reducible refine qah ?_
     | with_reducible refine qa9 ?_
     | (with_reducible refine qa0 qa1 ?_;apply qbn;simp [zS, *,qao,qfu];exact rfl)
     | (refine qbh qci qa1 (by decide +kernel) (by decide +kernel) ?_;apply qbn;simp [zS,qbx,qbd,qb8, *,qao,qfu];exact rfl)
     | (with_reducible refine qas ?_;simp only [qaa,qa2])
     | (refine qai rfl ?_)
     | (with_reducible refine qa7 ?_;simp only [qaa,qa2])
     | (with_reducible refine qa8 ?_;simp [qab,Tryz.f26,oneOr,qaa,qa2])))
    all_goals first | exact qa4 rfl (by rw [hx]) | (exfalso;omega)
  ·have hc:¬ (i:Int) < (t.length:Int):=by omega
   rw [List.drop_eq_nil_of_le (by omega),List.drop_eq_nil_of_le (by omega)] at hx
   (repeat' (first
    | with_reducible refine qah ?_
    | with_reducible refine qa9 ?_
    | (with_reducible refine qa0 qa1 ?_;apply qbn;simp [zS, *,qao,qfu];exact rfl)
    | (refine qbh qci qa1 (by decide +kernel) (by decide +kernel) ?_;apply qbn;simp [zS,qbx,qbd,qb8, *,qao,qfu];exact rfl)
    | (with_reducible refine qas ?_;simp only [qaa,qa2])
    | (refine qau rfl (fun hc=>?_) (fun hc=>?_) <;> ((have hd:=hc);(try simp at hd);(try subst hd)))
    | (with_reducible refine qa7 ?_;simp only [qaa,qa2])
    | (with_reducible refine qat ?_;simp [qaa,qa2])
    | (with_reducible refine qa8 ?_;simp [qab,Tryz.f26,oneOr,qaa,qa2])))
   all_goals first | exact qa4 rfl (by rw [hx];rfl) | (exfalso;omega)
 ·have hli:¬ (t.length:Int)=(u.length:Int):=by omega
  have hne:¬ t=u:=fun e=>hl (congrArg List.length e)
  repeat apply wq
  refine qa0 qa1 ?_
  simp [zS,qfu,hl,hli]
  refine qai (by simp [qbq,St.get,hl]) ?_
  repeat apply wq
  refine qa0 qa1 ?_
  simp [zS]
  refine qa8 ?_
  simp [qab,Tryz.f26,oneOr,qaa,qa2]
  exact qa4 rfl (by simp [hne])
theorem inj_26 (x y:Tr × Tr) (h:(fun z:Tr × Tr=>([qam z.1,qam z.2]:List AV)) x=(fun z:Tr × Tr=>([qam z.1,qam z.2]:List AV)) y):x=y:=by
 obtain ⟨x0,x1⟩:=x
 obtain ⟨y0,y1⟩:=y
 simp only [List.cons.injEq,and_true] at h
 obtain ⟨h0,h1⟩:=h
 have g0:x0=y0:=qde h0
 have g1:x1=y1:=qde h1
 subst g0 g1
 rfl
noncomputable def e26:Entry Tryz.prog:=mkE 26 [[7],[7]] (fun z:Tr × Tr=>[qam z.1,qam z.2]) (fun z=>(z.1.length≤1000000)∧(∀ n,n∈z.1→n.attrs.length≤1000∧n.kids.length≤1000000)∧(∀ n,n∈z.2→n.attrs.length≤1000)) (fun z=>.bool (decide (z.1=z.2))) fun z h=>c26 (T:=[e58]) rfl z.1 z.2 h.1 h.2.1 h.2.2
theorem k26 {T:List (Entry Tryz.prog)} (hT:qag 26 T=some e26.g) (t:Tr) (u:Tr) (ht:t.length≤1000000) (h1:∀ n,n∈t→n.attrs.length≤1000∧n.kids.length≤1000000) (h2:∀ n,n∈u→n.attrs.length≤1000) (H:Heap):qb9 (ctx T) (.fn 26) [qam t,qam u] H=some (.bool (decide (t=u)),H):=
 qae hT inj_26 (t,u) ⟨ht,h1,h2⟩ rfl (by simp [qar])
end Go.Proofs.YtgpjifeeneeiaaaGreatDoor
namespace Go.Proofs.YtgpjifeeneeiaaaGreatDoor
set_option linter.unusedSimpArgs false
set_option linter.unusedVariables false
abbrev qwi:=List (Nat × Nat) × Wk
def za3 (n:Nat) (ks:Nat→List Int):qwi→Option qwi
 | ([],_)=>none
 | ((i,j)::p,w)=>match (ks i)[j]? with
  | none=>some (p,outof i w)
  | some k=>if 0≤k∧k < (n:Int)∧w.inn.getD k.toNat 0 < 0 then some ((k.toNat,0)::(i,j+1)::p,into k.toNat w) else some ((i,j+1)::p,w)
inductive ReachW (n:Nat) (ks:Nat→List Int):qwi→qwi→Prop where
 | refl (c:qwi):ReachW n ks c c
 | step {c d e:qwi} (h:za3 n ks c=some d) (r:ReachW n ks d e):ReachW n ks c e
theorem ReachW.trans {n:Nat} {ks:Nat→List Int} {c d e:qwi} (h:ReachW n ks c d) (r:ReachW n ks d e):ReachW n ks c e:=by
 induction h with
 | refl=>exact r
 | step h _ ih=>exact .step h (ih r)
theorem ReachW.one {n:Nat} {ks:Nat→List Int} {c d e:qwi} (r:ReachW n ks c d) (h:za3 n ks d=some e):ReachW n ks c e:=r.trans (.step h (.refl _))
theorem ReachW.det {n:Nat} {ks:Nat→List Int} {c a b:qwi} (h:ReachW n ks c a) (r:ReachW n ks c b) (ha:za3 n ks a=none) (hb:za3 n ks b=none):a=b:=by
 induction h with
 | refl=>
  cases r with
  | refl=>rfl
  | step h2 r2=>rw [ha] at h2;cases h2
 | step h _ ih=>
  cases r with
  | refl=>rw [hb] at h;cases h
  | step h2 r2=>rw [h] at h2;cases h2;exact ih r2 ha
theorem qns {n K f i:Nat} {ks:Nat→List Int} {p:List (Nat × Nat)} (hg:∀ p i w,Low n K 0 w→i < n→w.inn.getD i 0 < 0→qgk w.inn≤f→ReachW n ks ((i,0)::p,into i w) (p,vis n ks f i w)) :
  ∀ (r:List Int) (j:Nat) (w:Wk),j≤(ks i).length→(ks i).drop j=r→Low n K 0 w→qgk w.inn≤f→ReachW n ks ((i,j)::p,w) ((i,(ks i).length)::p,kl n (vis n ks f) r w)
 | [],j,w,hj,hr,h,hf=>by
  have:j=(ks i).length:=by have:=congrArg List.length hr;simp at this;omega
  subst this
  exact .refl _
 | k::r,j,w,hj,hr,h,hf=>by
  have hlt:j < (ks i).length:=by have:=congrArg List.length hr;simp at this;omega
  have hk:(ks i)[j]? = some k:=by
   have:=List.drop_eq_getElem_cons hlt
   rw [this] at hr
   simp only [List.cons.injEq] at hr
   rw [List.getElem?_eq_getElem hlt,hr.1]
  have hr':(ks i).drop (j+1)=r:=by
   have:=List.drop_eq_getElem_cons hlt
   rw [this] at hr
   simp only [List.cons.injEq] at hr
   exact hr.2
  unfold kl
  split
  ·rename_i hc
   have hkn:k.toNat < n:=by omega
   obtain ⟨h1,h2⟩:=qpm (ks:=ks) f 0 k.toNat w (Int.le_refl 0) h hkn hc.2.2 hf
   have r1:=hg ((i,j+1)::p) k.toNat w h hkn hc.2.2 hf
   refine .step (d:=((k.toNat,0)::(i,j+1)::p,into k.toNat w)) ?_ (r1.trans (qns hg r (j+1) _ (by omega) hr' h1 (by omega)))
   simp only [za3,hk]
   rw [if_pos hc]
  ·rename_i hc
   refine .step (d:=((i,j+1)::p,w)) ?_ (qns hg r (j+1) w (by omega) hr' h hf)
   simp only [za3,hk]
   rw [if_neg hc]
theorem qlh {n K:Nat} {ks:Nat→List Int}:∀ (f:Nat) (p:List (Nat × Nat)) (i:Nat) (w:Wk),Low n K 0 w→i < n→w.inn.getD i 0 < 0→qgk w.inn≤f →
  ReachW n ks ((i,0)::p,into i w) (p,vis n ks f i w)
 | 0,p,i,w,h,hi,hn,hf=>by
  have e:=qfn (I:=w.inn) (by rw [h.1.li];exact hi) hn h.1.c0
  omega
 | f+1,p,i,w,h,hi,hn,hf=>by
  obtain ⟨h1,h2,h3⟩:=h.1.into hi hn
  have hl:Low n K 0 (into i w):=⟨h1,by have:=h.2;simp only [into] at h2 ⊢;omega⟩
  have r1:=qns (p:=p) (i:=i) (fun p i w a b c d=>qlh (K:=K) f p i w a b c d) (ks i) 0 (into i w) (Nat.zero_le _) rfl hl (by omega)
  refine r1.one ?_
  simp [za3,vis]
def qjc (n:Nat) (ks:Nat→List Int):Wk:=if n=0 then w0 0 else vis n ks n 0 (w0 n)
theorem zah {n:Nat} {ks:Nat→List Int}:(qjc n ks).l=qav n ks:=by
 unfold qjc qav
 split
 ·simp [w0]
 ·rfl
theorem qfp {l:List Int} {i j:Nat} {x:Int}:(l.set i x).getD j 0=if i=j∧i < l.length then x else l.getD j 0:=by
 simp only [List.getD_eq_getElem?_getD,List.getElem?_set]
 by_cases h:i=j
 ·subst h
  by_cases h2:i < l.length
  ·simp [h2]
  ·simp [h2]
 ·simp [h]
structure WokW (n:Nat) (P:Nat) (w:Wk):Prop where
 li:w.inn.length=n
 lo:w.out.length=n
 c1:1≤w.c
 cu:w.c+2 * (qgk w.inn:Int)+P≤2 * n
 no:∀ i,i < n→w.inn.getD i 0 < 0→w.out.getD i 0 = -1
theorem WokW.into {n P i:Nat} {w:Wk} (h:WokW n P w) (hi:i < n) (hn:w.inn.getD i 0 < 0):WokW n (P+1) (into i w)∧qgk (Go.Proofs.YtgpjifeeneeiaaaGreatDoor.into i w).inn+1=qgk w.inn:=by
 have e:=qfn (I:=w.inn) (c:=w.c) (by rw [h.li];exact hi) hn (by have:=h.c1;omega)
 have h1:=h.cu
 have h2:=h.c1
 refine ⟨⟨by simp [Go.Proofs.YtgpjifeeneeiaaaGreatDoor.into,h.li],h.lo,?_,?_,fun j hj hlt=>?_⟩,e⟩
 ·simp only [Go.Proofs.YtgpjifeeneeiaaaGreatDoor.into];omega
 ·simp only [Go.Proofs.YtgpjifeeneeiaaaGreatDoor.into];omega
 ·simp only [Go.Proofs.YtgpjifeeneeiaaaGreatDoor.into,qfp] at hlt
  split at hlt
  ·omega
  ·exact h.no j hj hlt
theorem WokW.outof {n P i:Nat} {w:Wk} (h:WokW n (P+1) w) (hi:0≤w.inn.getD i 0):WokW n P (outof i w):=by
 have h1:=h.cu
 have h2:=h.c1
 refine ⟨h.li,by simp [Go.Proofs.YtgpjifeeneeiaaaGreatDoor.outof,h.lo],by simp only [Go.Proofs.YtgpjifeeneeiaaaGreatDoor.outof];omega,by simp only [Go.Proofs.YtgpjifeeneeiaaaGreatDoor.outof];omega,fun j hj hlt=>?_⟩
 have hlt':w.inn.getD j 0 < 0:=hlt
 simp only [Go.Proofs.YtgpjifeeneeiaaaGreatDoor.outof,qfp]
 rw [if_neg]
 ·exact h.no j hj hlt'
 ·rintro ⟨rfl,_⟩
  omega
theorem wokW0 {n:Nat} (hn:0 < n):WokW n 1 (into 0 (w0 n)):=by
 have e:=qfn (I:=(w0 n).inn) (i:=0) (c:=(w0 n).c) (by simpa [w0] using hn) (by simp [w0,List.getD_eq_getElem?_getD,hn]) (by simp [w0])
 have e2:qgk (w0 n).inn=n:=qgj n
 refine ⟨by simp [into,w0],by simp [into,w0],by simp [into,w0],?_,fun j hj _=>?_⟩
 ·show (w0 n).c+1+2 * (qgk ((w0 n).inn.set 0 (w0 n).c):Int)+1≤2 * n
  have:(w0 n).c=0:=rfl
  omega
 ·simp [into,w0,List.getD_eq_getElem?_getD,hj]
end Go.Proofs.YtgpjifeeneeiaaaGreatDoor
namespace Go.Proofs.YtgpjifeeneeiaaaGreatDoor
set_option linter.unusedSimpArgs false
set_option linter.unusedVariables false
open Go Go.RowKit
set_option maxRecDepth 100000
theorem ReachW.inv {n:Nat} {ks:Nat→List Int} {J:qwi→Prop} (hs:∀ c d,za3 n ks c=some d→J c→J d) {c d:qwi} (h:ReachW n ks c d) (hc:J c):J d:=by
 induction h with
 | refl=>exact hc
 | step h _ ih=>exact ih (hs _ _ h hc)
structure JW (n:Nat) (c:qwi):Prop where
 k:WokW n c.1.length c.2
 p:∀ e,e∈c.1→e.1 < n
 q:∀ e,e∈c.1→0≤c.2.inn.getD e.1 0
 i:∀ j,-1≤c.2.inn.getD j 0∧c.2.inn.getD j 0≤2 * n
 o:∀ j,-1≤c.2.out.getD j 0∧c.2.out.getD j 0≤2 * n
theorem JW.step {n:Nat} {ks:Nat→List Int} {c d:qwi} (h:za3 n ks c=some d) (j:JW n c):JW n d:=by
 obtain ⟨p,w⟩:=c
 cases p with
 | nil=>cases h
 | cons e p=>
  obtain ⟨i,m⟩:=e
  have hc:=j.k.cu
  have hc1:=j.k.c1
  simp only [List.length_cons] at hc
  simp only at hc1
  simp only [za3] at h
  split at h
  ·simp only [sj] at h
   subst h
   refine ⟨j.k.outof (j.q (i,m) (by simp)),fun e he=>j.p e (by simp [he]),fun e he=>j.q e (by simp [he]),j.i,fun k=>?_⟩
   simp only [outof,qfp]
   split
   ·constructor <;> omega
   ·exact j.o k
  ·rename_i k hk
   split at h
   ·rename_i hx
    simp only [sj] at h
    subst h
    have hkn:k.toNat < n:=by omega
    refine ⟨by have:=(j.k.into hkn hx.2.2).1;simpa using this,fun e he=>?_,fun e he=>?_,fun l=>?_,j.o⟩
    ·simp only [List.mem_cons] at he
     rcases he with rfl | rfl | he
     ·exact hkn
     ·exact j.p (i,m) (by simp)
     ·exact j.p e (by simp [he])
    ·simp only [into,qfp]
     split
     ·omega
     ·rename_i hne
      simp only [List.mem_cons] at he
      rcases he with rfl | rfl | he
      ·exact absurd ⟨rfl,by rw [j.k.li];exact hkn⟩ hne
      ·exact j.q (i,m) (by simp)
      ·exact j.q e (by simp [he])
    ·simp only [into,qfp]
     split
     ·constructor <;> omega
     ·exact j.i l
   ·simp only [sj] at h
    subst h
    refine ⟨j.k,fun e he=>?_,fun e he=>?_,j.i,j.o⟩
    ·simp only [List.mem_cons] at he
     rcases he with rfl | he
     ·exact j.p (i,m) (by simp)
     ·exact j.p e (by simp [he])
    ·simp only [List.mem_cons] at he
     rcases he with rfl | he
     ·exact j.q (i,m) (by simp)
     ·exact j.q e (by simp [he])
theorem qy6 {n j:Nat}:(List.replicate n (-1:Int)).getD j 0 = -1∨(List.replicate n (-1:Int)).getD j 0=0:=by
 by_cases h:j < n
 ·left;simp [List.getD_eq_getElem?_getD,h]
 ·right;simp [List.getD_eq_getElem?_getD,h]
theorem qxx {n:Nat} (hn:0 < n):JW n ([(0,0)],into 0 (w0 n)):=by
 refine ⟨wokW0 hn,by simpa using hn,by simp [into,w0,List.getD_eq_getElem?_getD,hn],fun j=>?_,fun j=>?_⟩
 ·show -1≤((List.replicate n (-1:Int)).set 0 0).getD j 0∧((List.replicate n (-1:Int)).set 0 0).getD j 0≤2 * n
  rw [qfp]
  split
  ·omega
  ·rcases qy6 (n:=n) (j:=j) with h | h <;> rw [h] <;> omega
 ·show -1≤(List.replicate n (-1:Int)).getD j 0∧(List.replicate n (-1:Int)).getD j 0≤2 * n
  rcases qy6 (n:=n) (j:=j) with h | h <;> rw [h] <;> omega
theorem jw_end {n:Nat} {ks:Nat→List Int} (hn:0 < n):JW n ([],qjc n ks):=by
 have h:=qlh (K:=n) (ks:=ks) n [] 0 (w0 n) (qyn n) hn (by simp [w0,List.getD_eq_getElem?_getD,hn]) (by simp [w0,qgj])
 rw [qjc,if_neg (by omega)]
 exact h.inv (J:=JW n) (fun _ _ a b=>b.step a) (qxx hn)
def inA (w:Wk) (a:Int):Int:=w.inn.getD a.toNat 0
def qfi (w:Wk) (a:Int):Int:=w.out.getD a.toNat 0
structure J2 (n:Nat) (c:qwi):Prop where
 j:JW n c
 a0:∀ a,a∈c.2.l→0≤a∧a < (n:Int)∧0≤inA c.2 a∧inA c.2 a < c.2.c
 srt:c.2.l.Pairwise fun a b=>inA c.2 a < inA c.2 b
 all:∀ i:Nat,i < n→0≤c.2.inn.getD i 0→(i:Int)∈c.2.l
 pl:∀ e,e∈c.1→(e.1:Int)∈c.2.l
 ps:c.1.Pairwise fun x y=>c.2.inn.getD y.1 0 < c.2.inn.getD x.1 0
 cl:∀ a,a∈c.2.l→(∃ e,e∈c.1∧(e.1:Int)=a)∨(inA c.2 a < qfi c.2 a∧qfi c.2 a < c.2.c)
 lam:∀ a b,a∈c.2.l→b∈c.2.l→inA c.2 a < inA c.2 b→(∃ e,e∈c.1∧(e.1:Int)=a)∨qfi c.2 a < inA c.2 b∨((∀ e,e∈c.1→(e.1:Int)≠b)∧qfi c.2 b < qfi c.2 a)
theorem qmz {w:Wk} {i:Nat} {a:Int} (hi:i < w.inn.length) (ha:0≤a):inA (into i w) a=if (i:Int)=a then w.c else inA w a:=by
 simp only [inA,into,qfp]
 by_cases h:(i:Int)=a
 ·have:i=a.toNat:=by omega
  simp [h,← this,hi]
 ·have:¬ i=a.toNat:=by omega
  simp [h,this]
theorem zbq {w:Wk} {i:Nat} {a:Int}:qfi (into i w) a=qfi w a:=rfl
theorem zck {w:Wk} {i:Nat} {a:Int}:inA (outof i w) a=inA w a:=rfl
theorem qq0 {w:Wk} {i:Nat} {a:Int} (hi:i < w.out.length) (ha:0≤a):qfi (outof i w) a=if (i:Int)=a then w.c else qfi w a:=by
 simp only [qfi,outof,qfp]
 by_cases h:(i:Int)=a
 ·have:i=a.toNat:=by omega
  simp [h,← this,hi]
 ·have:¬ i=a.toNat:=by omega
  simp [h,this]
theorem J2.step {n:Nat} {ks:Nat→List Int} {c d:qwi} (h:za3 n ks c=some d) (j:J2 n c):J2 n d:=by
 have hj:=j.j.step h
 obtain ⟨p,w⟩:=c
 cases p with
 | nil=>cases h
 | cons e p=>
  obtain ⟨i,m⟩:=e
  have hli:=j.j.k.li
  have hlo:=j.j.k.lo
  have hc1:=j.j.k.c1
  have hin:i < n:=j.j.p (i,m) (by simp)
  simp only at hli hlo hc1
  have hps:=j.ps
  simp only [List.pairwise_cons] at hps
  simp only [za3] at h
  split at h
  ·simp only [sj] at h
   subst h
   have hil:=j.pl (i,m) (by simp)
   simp only at hil
   have e1:∀ a,inA (outof i w) a=inA w a:=fun a=>rfl
   have e2:∀ a,0≤a→qfi (outof i w) a=if (i:Int)=a then w.c else qfi w a:=fun a ha=>qq0 (by omega) ha
   have hci:=(j.a0 _ hil).2.2.2
   simp only at hci
   refine ⟨hj,fun a ha=>?_,j.srt,j.all,fun e he=>j.pl e (by simp [he]),hps.2,fun a ha=>?_,fun a b ha hb hab=>?_⟩
   ·have:=j.a0 a ha
    exact ⟨this.1,this.2.1,this.2.2.1,by show inA w a < w.c+1;have:=this.2.2.2;simp only at this;omega⟩
   ·have h0:=(j.a0 a ha).1
    by_cases hia:(i:Int)=a
    ·right
     show inA w a < qfi (outof i w) a∧qfi (outof i w) a < w.c+1
     rw [e2 a h0,if_pos hia,← hia]
     exact ⟨hci,by omega⟩
    ·rcases j.cl a ha with ⟨e,he,hea⟩ | hcl
     ·simp only [List.mem_cons] at he
      rcases he with rfl | he
      ·exact absurd hea hia
      ·exact .inl ⟨e,he,hea⟩
     ·right
      show inA w a < qfi (outof i w) a∧qfi (outof i w) a < w.c+1
      rw [e2 a h0,if_neg hia]
      have h3:inA w a < qfi w a∧qfi w a < w.c:=hcl
      omega
   ·have ha0:=(j.a0 a ha).1
    have hb0:=(j.a0 b hb).1
    show (∃ e,e∈p∧(e.1:Int)=a)∨qfi (outof i w) a < inA w b∨((∀ e,e∈p→(e.1:Int)≠b)∧qfi (outof i w) b < qfi (outof i w) a)
    rw [e2 a ha0,e2 b hb0]
    have hab':inA w a < inA w b:=hab
    by_cases hia:(i:Int)=a
    ·rw [if_pos hia]
     have hib:¬ (i:Int)=b:=fun e=>by rw [← hia,← e] at hab';omega
     rw [if_neg hib]
     right;right
     have hnb:∀ e,e∈p→(e.1:Int)≠b:=fun e he hb'=>by
      have h1:=hps.1 e he
      have:inA w b=w.inn.getD e.1 0:=by rw [← hb'];simp [inA]
      have h2:inA w a=w.inn.getD i 0:=by rw [← hia];simp [inA]
      omega
     refine ⟨hnb,?_⟩
     rcases j.cl b hb with ⟨e,he,heb⟩ | hcl
     ·simp only [List.mem_cons] at he
      rcases he with rfl | he
      ·exact absurd heb hib
      ·exact absurd heb (hnb e he)
     ·exact hcl.2
    ·rw [if_neg hia]
     rcases j.lam a b ha hb hab with ⟨e,he,hea⟩ | h1 | ⟨h1,h2⟩
     ·simp only [List.mem_cons] at he
      rcases he with rfl | he
      ·exact absurd hea hia
      ·exact .inl ⟨e,he,hea⟩
     ·exact .inr (.inl h1)
     ·have hib:¬ (i:Int)=b:=h1 (i,m) (by simp)
      rw [if_neg hib]
      exact .inr (.inr ⟨fun e he=>h1 e (by simp [he]),h2⟩)
  ·rename_i k hk
   split at h
   ·rename_i hx
    simp only [sj] at h
    subst h
    have hkn:k.toNat < n:=by omega
    have hkk:((k.toNat:Nat):Int)=k:=by omega
    have hkl:k ∉ w.l:=fun hm=>by
     have:=(j.a0 k hm).2.2.1
     simp only [inA] at this
     omega
    have e1:∀ a,0≤a→inA (into k.toNat w) a=if k=a then w.c else inA w a:=fun a ha=>by rw [qmz (by omega) ha,hkk]
    have e3:∀ a,a∈w.l→inA (into k.toNat w) a=inA w a:=fun a ha=>by
     rw [e1 a (j.a0 a ha).1,if_neg (fun (e:k=a)=>hkl (e ▸ ha))]
    have ek:inA (into k.toNat w) k=w.c:=by rw [e1 k hx.1,if_pos rfl]
    have hl:(into k.toNat w).l=w.l++[k]:=by simp [into,hkk]
    have e4:∀ e,e∈(i,m)::p→(into k.toNat w).inn.getD e.1 0=w.inn.getD e.1 0:=fun e he=>by
     have:=e3 _ (j.pl e he)
     simpa [inA] using this
    have hlt:∀ a,a∈w.l→inA w a < w.c:=fun a ha=>(j.a0 a ha).2.2.2
    refine ⟨hj,fun a ha=>?_,?_,fun x hx2 h0=>?_,fun e he=>?_,?_,fun a ha=>?_,fun a b ha hb hab=>?_⟩
    ·simp only [hl,List.mem_append,List.mem_singleton] at ha
     rcases ha with ha | rfl
     ·have:=j.a0 a ha
      refine ⟨this.1,this.2.1,by simp only;rw [e3 a ha];exact this.2.2.1,?_⟩
      simp only
      rw [e3 a ha]
      have:=hlt a ha
      simp only [into];omega
     ·refine ⟨hx.1,hx.2.1,by simp only;rw [ek];omega,?_⟩
      simp only
      rw [ek]
      simp only [into];omega
    ·simp only [hl]
     rw [List.pairwise_append]
     refine ⟨?_,by simp,fun a ha b hb=>?_⟩
     ·refine j.srt.imp_of_mem fun ha hb hab=>?_
      rw [e3 _ ha,e3 _ hb];exact hab
     ·simp only [List.mem_singleton] at hb
      subst hb
      rw [e3 a ha,ek]
      exact hlt a ha
    ·simp only [hl,List.mem_append,List.mem_singleton]
     by_cases hxk:x=k.toNat
     ·right;omega
     ·left
      refine j.all x hx2 ?_
      simp only [into,qfp] at h0
      rw [if_neg (by omega)] at h0
      exact h0
    ·simp only [hl,List.mem_append,List.mem_singleton]
     simp only [List.mem_cons] at he
     rcases he with rfl | rfl | he
     ·right;simp only;omega
     ·exact .inl (j.pl (i,m) (by simp))
     ·exact .inl (j.pl e (by simp [he]))
    ·simp only [List.pairwise_cons]
     have key:∀ e,e∈(i,m)::p→(into k.toNat w).inn.getD e.1 0 < (into k.toNat w).inn.getD k.toNat 0:=fun e he=>by
      rw [e4 e he]
      have h1:=hlt _ (j.pl e he)
      have h2:(into k.toNat w).inn.getD k.toNat 0=w.c:=ek
      rw [h2]
      simpa [inA] using h1
     refine ⟨fun e he=>?_,fun e he=>?_,?_⟩
     ·simp only [List.mem_cons] at he
      rcases he with rfl | he
      ·exact key (i,m) (by simp)
      ·exact key e (by simp [he])
     ·have h1:=hps.1 e he
      have h2:=e4 e (by simp [he])
      have h3:=e4 (i,m) (by simp)
      simp only at h1 h2 h3 ⊢
      rw [h2,h3];exact h1
     ·refine hps.2.imp_of_mem fun {x y} hx hy hxy=>?_
      rw [e4 x (by simp [hx]),e4 y (by simp [hy])];exact hxy
    ·simp only [hl,List.mem_append,List.mem_singleton] at ha
     rcases ha with ha | rfl
     ·rcases j.cl a ha with ⟨e,he,hea⟩ | hcl
      ·left
       simp only [List.mem_cons] at he
       rcases he with rfl | he
       ·exact ⟨(i,m+1),by simp,hea⟩
       ·exact ⟨e,by simp [he],hea⟩
      ·right
       simp only
       rw [e3 a ha,zbq]
       simp only at hcl
       simp only [into]
       omega
     ·exact .inl ⟨(a.toNat,0),by simp,hkk⟩
    ·simp only [hl,List.mem_append,List.mem_singleton] at ha hb
     rcases ha with ha | rfl
     ·rcases hb with hb | rfl
      ·simp only at hab ⊢
       rw [e3 a ha,e3 b hb] at hab
       rw [e3 b hb]
       rcases j.lam a b ha hb hab with ⟨e,he,hea⟩ | h1 | ⟨h1,h2⟩
       ·left
        simp only [List.mem_cons] at he
        rcases he with rfl | he
        ·exact ⟨(i,m+1),by simp,hea⟩
        ·exact ⟨e,by simp [he],hea⟩
       ·exact .inr (.inl h1)
       ·refine .inr (.inr ⟨fun e he=>?_,h2⟩)
        simp only [List.mem_cons] at he
        rcases he with rfl | rfl | he
        ·simp only;rw [hkk];exact fun e=>hkl (e ▸ hb)
        ·exact h1 (i,m) (by simp)
        ·exact h1 e (by simp [he])
      ·simp only
       rw [ek]
       rcases j.cl a ha with ⟨e,he,hea⟩ | hcl
       ·left
        simp only [List.mem_cons] at he
        rcases he with rfl | he
        ·exact ⟨(i,m+1),by simp,hea⟩
        ·exact ⟨e,by simp [he],hea⟩
       ·exact .inr (.inl hcl.2)
     ·rcases hb with hb | rfl
      ·simp only at hab
       rw [ek,e3 b hb] at hab
       have:=hlt b hb
       omega
      ·simp only at hab
       omega
   ·simp only [sj] at h
    subst h
    have ex:∀ a:Int,(∃ e,e∈(i,m)::p∧(e.1:Int)=a)→∃ e,e∈(i,m+1)::p∧(e.1:Int)=a:=by
     rintro a ⟨e,he,hea⟩
     simp only [List.mem_cons] at he
     rcases he with rfl | he
     ·exact ⟨(i,m+1),by simp,hea⟩
     ·exact ⟨e,by simp [he],hea⟩
    refine ⟨hj,j.a0,j.srt,j.all,fun e he=>?_,?_,fun a ha=>?_,fun a b ha hb hab=>?_⟩
    ·simp only [List.mem_cons] at he
     rcases he with rfl | he
     ·exact j.pl (i,m) (by simp)
     ·exact j.pl e (by simp [he])
    ·simp only [List.pairwise_cons]
     exact ⟨fun e he=>hps.1 e he,hps.2⟩
    ·rcases j.cl a ha with h1 | h1
     ·exact .inl (ex a h1)
     ·exact .inr h1
    ·rcases j.lam a b ha hb hab with h1 | h1 | ⟨h1,h2⟩
     ·exact .inl (ex a h1)
     ·exact .inr (.inl h1)
     ·refine .inr (.inr ⟨fun e he=>?_,h2⟩)
      simp only [List.mem_cons] at he
      rcases he with rfl | he
      ·exact h1 (i,m) (by simp)
      ·exact h1 e (by simp [he])
theorem j2_start {n:Nat} (hn:0 < n):J2 n ([(0,0)],into 0 (w0 n)):=by
 have hl:(into 0 (w0 n)).l=[0]:=by simp [into,w0]
 have hi0:inA (into 0 (w0 n)) 0=0:=by simp [inA,into,w0,List.getD_eq_getElem?_getD,hn]
 have hc:(into 0 (w0 n)).c=1:=by simp [into,w0]
 refine ⟨qxx hn,fun a ha=>?_,by simp only [hl];simp,fun i hi h0=>?_,fun e he=>?_,by simp,fun a ha=>?_,fun a b ha hb hab=>?_⟩
 ·simp only [hl,List.mem_singleton] at ha
  subst ha
  exact ⟨by omega,by omega,by simp only;omega,by simp only;omega⟩
 ·simp only [hl,List.mem_singleton]
  by_cases hz:i=0
  ·omega
  ·have:(into 0 (w0 n)).inn.getD i 0 = -1:=by
    have hz':¬ 0=i:=by omega
    simp [into,w0,List.getD_eq_getElem?_getD,List.getElem?_set,hz',hi]
   simp only at h0
   omega
 ·simp only [List.mem_singleton] at he
  subst he
  simp [hl]
 ·simp only [hl,List.mem_singleton] at ha
  subst ha
  exact .inl ⟨(0,0),by simp,rfl⟩
 ·simp only [hl,List.mem_singleton] at ha hb
  subst ha;subst hb
  simp only at hab
  omega
theorem j2_end {n:Nat} {ks:Nat→List Int} (hn:0 < n):J2 n ([],qjc n ks):=by
 have h:=qlh (K:=n) (ks:=ks) n [] 0 (w0 n) (qyn n) hn (by simp [w0,List.getD_eq_getElem?_getD,hn]) (by simp [w0,qgj])
 rw [qjc,if_neg (by omega)]
 exact h.inv (J:=J2 n) (fun _ _ a b=>b.step a) (j2_start hn)
structure Lam (n:Nat) (w:Wk) (L:List Int):Prop where
 a0:∀ a,a∈L→0≤a∧a < (n:Int)∧0≤inA w a
 srt:L.Pairwise fun a b=>inA w a < inA w b
 all:∀ i:Nat,i < n→0≤inA w i→(i:Int)∈L
 io:∀ a,a∈L→inA w a < qfi w a
 lam:∀ a b,a∈L→b∈L→inA w a < inA w b→qfi w a < inA w b∨qfi w b < qfi w a
theorem qrc {n:Nat} {ks:Nat→List Int} (hn:0 < n):Lam n (qjc n ks) (qav n ks):=by
 have j:=j2_end (ks:=ks) hn
 have hl:(qjc n ks).l=qav n ks:=zah
 have ne:∀ a:Int,¬ ∃ e,e∈([]:List (Nat × Nat))∧(e.1:Int)=a:=fun a ⟨e,he,_⟩=>by cases he
 rw [← hl]
 refine ⟨fun a ha=>?_,j.srt,fun i hi h0=>j.all i hi (by simpa [inA] using h0),fun a ha=>?_,fun a b ha hb hab=>?_⟩
 ·have:=j.a0 a ha
  exact ⟨this.1,this.2.1,this.2.2.1⟩
 ·exact ((j.cl a ha).resolve_left (ne a)).1
 ·rcases j.lam a b ha hb hab with h | h | h
  ·exact absurd h (ne a)
  ·exact .inl h
  ·exact .inr h.2
def qvl (w:Wk) (a b:Int):Bool:=decide (0≤inA w a∧0≤inA w b∧inA w b < inA w a∧qfi w a < qfi w b)
theorem qxy {w:Wk} {a b:Int}:qvl w a b=true↔0≤inA w a∧0≤inA w b∧inA w b < inA w a∧qfi w a < qfi w b:=by
 simp [qvl]
def qnw (t:Tr) (i:Nat):List Int:=(qav t.length (qaq t)).filter (qvl (qjc t.length (qaq t)) i)
theorem c95 {T:List (Entry Tryz.prog)} (hA:qag 125 T=some e125.g) (t:Tr) (ht:qmj t) (n:Nat) (hn:n < t.length) :
  CallAt (ctx T) 95 [qam t,.int .i64 n] ⟨0,[]⟩ (qjv 0 1 (qbu (qnw t n))) ⟨1,[qgh 0 (qbu (qnw t n))]⟩:=by
 have hka:=fun H=>k125 hA ht H
 have hw:finW t.length (qaq t)=qjc t.length (qaq t):=rfl
 rw [hw] at hka
 have hlam:=qrc (n:=t.length) (ks:=qaq t) (by omega)
 have hok:=jw_end (n:=t.length) (ks:=qaq t) (by omega)
 have hLn:=qo1 (n:=t.length) (ks:=qaq t)
 have hmem:=fun y (h:y∈qav t.length (qaq t))=>qib h
 have h1000:=ht.1
 have hli:(qjc t.length (qaq t)).inn.length=t.length:=hok.k.li
 have hlo:(qjc t.length (qaq t)).out.length=t.length:=hok.k.lo
 obtain ⟨I,hI⟩ : ∃ I,I=(qjc t.length (qaq t)).inn:=⟨_,rfl⟩
 obtain ⟨O,hO⟩ : ∃ O,O=(qjc t.length (qaq t)).out:=⟨_,rfl⟩
 rw [← hI] at hli
 rw [← hO] at hlo
 have hnI:n < I.length:=by omega
 have hnO:n < O.length:=by omega
 have hin:∀ m:Nat,(h:m < I.length)→inA (qjc t.length (qaq t)) (m:Int)=I[m]:=fun m h=>by simp [inA,← hI,List.getD_eq_getElem?_getD,h]
 have hout:∀ m:Nat,(h:m < O.length)→qfi (qjc t.length (qaq t)) (m:Int)=O[m]:=fun m h=>by simp [qfi,← hO,List.getD_eq_getElem?_getD,h]
 have hP:∀ a∈qav t.length (qaq t),∃ m:Nat,a=m∧m < t.length∧∀ (h1:m < I.length) (h2:m < O.length),qvl (qjc t.length (qaq t)) n a=(decide (0≤I[n]) && (decide (I[m] < I[n]) && decide (O[n] < O[m]))):=by
  intro a ha
  obtain ⟨y0,y1⟩:=hmem a ha
  obtain ⟨m,rfl⟩:=Int.eq_ofNat_of_zero_le y0
  refine ⟨m,rfl,by omega,fun h1 h2=>?_⟩
  have h0:=(hlam.a0 _ ha).2.2
  rw [Bool.eq_iff_iff,qxy]
  simp only [hin m h1,hin n hnI,hout m h2,hout n hnO,Bool.and_eq_true,decide_eq_true_eq] at h0 ⊢
  constructor
  ·rintro ⟨a,b,c,d⟩;exact ⟨a,c,d⟩
  ·rintro ⟨a,c,d⟩;exact ⟨a,h0,c,d⟩
 simp only [qnw]
 generalize qvl (qjc t.length (qaq t)) n=P at *
 simp only [← hI,← hO] at hka
 clear hI hO hin hout hok hlam hw
 generalize qav t.length (qaq t)=L at *
 simp only [qam] at hka
 refine qa3 (fn:=Tryz.f95) (s0:=⟨[0,1,2,4,5,6,7,8,9],[qam t,.int .i64 n,.undef,.undef,.undef,.undef,.undef,.undef,.undef],[],73,⟨0,[[]]⟩⟩) Tryz.func95 rfl rfl rfl ?_
 repeat apply wq
 refine qa0 qa1 ?_
 simp [zS,qam]
 repeat apply wq
 refine qa0 qa1 ?_
 simp [zS,hka]
 repeat apply wq
 refine qa0 qa1 ?_
 simp [zS]
 repeat apply wq
 refine qa0 qa1 ?_
 simp [zS]
 refine qa9 (qax (fun k:Nat=>(⟨[0,1,2,4,5,6,7,8,9],[.undef,.int .i64 n,.undef,.undef,qbs L,qbs I,qbs O,qjv 1 1 (qbu ((L.take k).filter P)),.int .i64 k],[],73,⟨2,[qgh 1 (qbu ((L.take k).filter P))++[(0,.cells [qa5 t])]]⟩⟩ : St))
  (fun k=>k≤L.length) (fun k=>L.length - k) [(1,1),(0,0)] [] 0 (Nat.zero_le _)
  ⟨rfl,rfl,rfl,by simp [qb6,qay,qb2,qaf,qjv,qbs],.own1 (qfk _) (by simp) (by simp) (by simp) (by simp) (by simp) (by simp [Heap.get,getFs,getF,qac])⟩ ?_)
 rintro k hk B hB
 have hlen:((L.take k).filter P).length≤k:=Nat.le_trans (List.length_filter_le _ _) (by simp;omega)
 by_cases h:k < L.length
 ·obtain ⟨m,hm,hmt,hPm⟩:=hP L[k] (List.getElem_mem _)
  have hPm:=hPm (by omega) (by omega)
  have hmI:m < I.length:=by omega
  have hmO:m < O.length:=by omega
  by_cases h0:0≤I[n]
  ·repeat apply wq
   refine qa0 qa1 ?_
   simp [zS,qm9,h,hli,hn,atI hnI,h0]
   refine qai rfl ?_
   refine qa7 ?_
   simp
   repeat apply wq
   refine qa9 ?_
   have hnx:(L.take (k+1)).filter P=(L.take k).filter P++(if P L[k] then [L[k]] else []):=by
    rw [List.take_succ_eq_append_getElem h,List.filter_append]
    congr 1
    by_cases hp:P L[k]=true
    ·simp [hp]
    ·simp [hp]
   cases hb:P L[k] with
   | false=>
    rw [hb] at hnx hPm
    have hnx:(L.take (k+1)).filter P=(L.take k).filter P:=by simpa using hnx
    have fin:∀ (s:St),True:=fun _=>trivial
    by_cases d1:I[m] < I[n]
    ·have d2:¬ O[n] < O[m]:=by simpa [h0,d1] using hPm
     repeat apply wq
     refine qbh qci qa1 (by decide +kernel) (by decide +kernel) ?_
     simp [zS,qbx,qbd,qb8,atI h,hm,atI hmI,atI hnI,atI hmO,atI hnO,d1,d2]
     refine qal rfl ?_
     refine qa7 ?_
     simp
     refine qa0 qa1 ?_
     simp [zS,qba (show k≤1000000000 by omega)]
     refine hB _ (k+1) (by omega) (by omega) ⟨[(1,1),(0,0)],[],rfl,rfl,rfl,by rw [hnx];simp [qb6,qay,qb2,qgp,qaf,qbs],by rw [hnx];exact .own1 (qfk _) (fun h=>by simp [Heap.get,getFs,qv8 h]) (by simp) (by simp) (by simp) (by simp) (by simp [Heap.get,getFs,getF,qxg,qac])⟩
    ·repeat apply wq
     refine qbh qci qa1 (by decide +kernel) (by decide +kernel) ?_
     simp [zS,qbx,qbd,qb8,atI h,hm,atI hmI,atI hnI,atI hmO,atI hnO,d1]
     refine qal rfl ?_
     refine qa7 ?_
     simp
     refine qa0 qa1 ?_
     simp [zS,qba (show k≤1000000000 by omega)]
     refine hB _ (k+1) (by omega) (by omega) ⟨[(1,1),(0,0)],[],rfl,rfl,rfl,by rw [hnx];simp [qb6,qay,qb2,qgp,qaf,qbs],by rw [hnx];exact .own1 (qfk _) (fun h=>by simp [Heap.get,getFs,qv8 h]) (by simp) (by simp) (by simp) (by simp) (by simp [Heap.get,getFs,getF,qxg,qac])⟩
   | true=>
    rw [hb] at hnx hPm
    have hnx:(L.take (k+1)).filter P=(L.take k).filter P++[L[k]]:=by simpa using hnx
    have d1:I[m] < I[n]:=by
     have:=hPm.symm;simp only [Bool.and_eq_true,decide_eq_true_eq] at this;exact this.2.1
    have d2:O[n] < O[m]:=by
     have:=hPm.symm;simp only [Bool.and_eq_true,decide_eq_true_eq] at this;exact this.2.2
    repeat apply wq
    refine qbh qci qa1 (by decide +kernel) (by decide +kernel) ?_
    simp [zS,qbx,qbd,qb8,atI h,hm,atI hmI,atI hnI,atI hmO,atI hnO,d1,d2]
    refine qai rfl ?_
    have happ:=qmv (P:=Tryz.prog) (elem:=3) (b:=1) (t:=28) (m:=29) (es:=qbu ((L.take k).filter P)) (cs:=[.int .i64 L[k]]) (g:=[(0,.cells [qa5 t])]) (fs:=[]) szT3 byT3 zeT3 rfl (by omega) (by omega) rfl rfl (qfk _) (by simp;omega) (by omega) (by simp) (by simp)
    refine qa0 qa1 ?_
    simp [zS,atI h,happ]
    refine qa0 qa1 ?_
    simp [zS,qba (show k≤1000000000 by omega)]
    have hnn:qbu ((L.take (k+1)).filter P)≠[]:=by rw [hnx];simp [qbu]
    refine hB _ (k+1) (by omega) (by omega) ⟨[(29,1),(0,0)],[],rfl,rfl,rfl,?_,.own1 (qfk _) (fun _=>?_) (by simp) (by simp) (by simp) (by simp) (by simp [Heap.get,getFs,getF,qac])⟩
    ·rw [qju hnn,hnx];simp [qb6,qay,qb2,qaf,qbs]
    ·rw [hnx,qe4,ints_app];simp [Heap.get,getFs,getF]
  ·have hall:L.filter P=[]:=by
    rw [List.filter_eq_nil_iff]
    intro a ha
    obtain ⟨m,_,hm2,hx⟩:=hP a ha
    rw [hx (by omega) (by omega)]
    simp [h0]
   have htk:(L.take k).filter P=[]:=by
    rw [List.filter_eq_nil_iff] at hall ⊢
    exact fun a ha=>hall a (List.mem_of_mem_take ha)
   repeat apply wq
   refine qa0 qa1 ?_
   simp [zS,qm9,h,hli,hn,atI hnI,h0]
   refine qal rfl ?_
   refine qat ?_
   simp
   repeat apply wq
   refine qa0 qa1 ?_
   simp [zS]
   refine qa8 ?_
   simp [qab,Tryz.f95,oneOr]
   rw [htk,hall]
   exact ⟨[(1,0)],[],qgp (by simp [qb2]),by have:=FitH.own1 (k:=0) (b:=1) (m':=1) (τ:=[]) (g:=[]) (H:=⟨2,[qgh 1 (qbu [])++[(0,.cells [qa5 t])]]⟩) (qfk []) (fun h=>absurd rfl h) (by simp) (by simp) (by simp) (by simp) (by simp);simpa using this⟩
 ·have hall:(L.take k).filter P=L.filter P:=by rw [List.take_of_length_le (by omega)]
  rw [hall]
  repeat apply wq
  refine qa0 qa1 ?_
  simp [zS,qm9,h]
  refine qal rfl ?_
  refine qat ?_
  simp
  repeat apply wq
  refine qa0 qa1 ?_
  simp [zS]
  refine qa8 ?_
  simp [qab,Tryz.f95,oneOr]
  exact ⟨[(1,0)],[],qgp (by simp [qb2]),by have:=FitH.own1 (k:=0) (b:=1) (m':=1) (τ:=[]) (g:=[]) (H:=⟨2,[qgh 1 (qbu (L.filter P))++[(0,.cells [qa5 t])]]⟩) (qfk (L.filter P)) (fun h=>by simp [Heap.get,getFs,getF,qv8 h]) (by simp) (by simp) (by simp) (by simp) (by simp);simpa using this⟩
noncomputable def e95:Entry Tryz.prog:=mkE 95 [[],[]] (fun x:Tr × Nat=>[qam x.1,.int .i64 x.2]) (fun x=>qmj x.1∧x.2 < x.1.length) (fun x=>qbs (qnw x.1 x.2)) fun x hx=>(c95 (T:=[e125]) rfl x.1 hx.1 x.2 hx.2).froze (qfk _)
theorem injTN (x y:Tr × Nat) (h:[qam x.1,.int .i64 x.2]=[qam y.1,.int .i64 y.2]):x=y:=by
 simp at h;exact Prod.ext (qde h.1) (by omega)
theorem k95 {T:List (Entry Tryz.prog)} (hT:qag 95 T=some e95.g) {t:Tr} (ht:qmj t) {n:Nat} (hn:n < t.length) (H:Heap):qb9 (ctx T) (.fn 95) [qam t,.int .i64 n] H=some (qbs (qnw t n),H):=
 qdd hT injTN (t,n) ⟨ht,hn⟩ (by simp [qac,qaf]) (by simp [qfx,qgd]) H
def qds (t:Tr) (i:Nat):List Nd:=((qnw t i).drop 1).map (qa6 t)
theorem qxf (t:Tr) (i:Nat):(qnw t i).length≤t.length:=Nat.le_trans (List.length_filter_le _ _) qo1
theorem qxe {t:Tr} {i:Nat} {x:Int} (h:x∈qnw t i):0≤x∧x < (t.length:Int):=qib (List.mem_filter.1 h).1
theorem own_stay (E:List Nd):FitH 0 [(0,0)] [] ⟨1,[qgh 0 (E.map qaj)]⟩ ⟨1,[qgh 0 (E.map qaj)]⟩:=by
 have:=FitH.own1 (k:=0) (b:=0) (m':=1) (τ:=[]) (g:=[]) (H:=⟨1,[qgh 0 (E.map qaj)]⟩) (qec E) (fun h=>by simp only [Heap.get,getFs];rw [qny h];simp [getF]) (by simp) (by simp) (by simp) (by simp) (by simp)
 simpa using this
theorem c59 {T:List (Entry Tryz.prog)} (hP:qag 95 T=some e95.g) (t:Tr) (ht:qmj t) (i:Nat) (hi:i < t.length) :
  CallAt (ctx T) 59 [qam t,.int .i64 i] ⟨0,[]⟩ (qjv 0 7 ((qds t i).map qaj)) ⟨1,[qgh 0 ((qds t i).map qaj)]⟩:=by
 have kp:=fun H=>k95 hP ht hi H
 have hpl:=qxf t i
 have hpm:=fun x (h:x∈qnw t i)=>qxe h
 have h1000:=ht.1
 unfold qds
 generalize qnw t i=L at *
 simp only [qam] at kp
 refine qa3 (fn:=Tryz.f59) (s0:=⟨[0,1,2,4,5,6,7],[qam t,.int .i64 i,.undef,.undef,.undef,.undef,.undef],[],29,⟨0,[[]]⟩⟩) Tryz.func59 rfl rfl rfl ?_
 repeat apply wq
 refine qa0 qa1 ?_
 simp [zS,qam]
 repeat apply wq
 refine qa0 qa1 ?_
 simp [zS,kp]
 repeat apply wq
 refine qa0 qa1 ?_
 simp [zS]
 repeat apply wq
 refine qa0 qa1 ?_
 simp [zS]
 refine qa9 (qax (fun k:Nat=>(⟨[0,1,2,4,5,6,7],[.undef,.int .i64 i,.fptr [qa5 t] 0,.nilS,qbs L,qjv 0 7 ((((L.take k).drop 1).map (qa6 t)).map qaj),.int .i64 k],[],29,⟨1,[qgh 0 ((((L.take k).drop 1).map (qa6 t)).map qaj)]⟩⟩ : St))
  (fun k=>1≤k∧(k≤L.length∨k=1)) (fun k=>L.length - k) [] [(0,[qa5 t])] 1 ⟨Nat.le_refl _,.inr rfl⟩
  ⟨rfl,rfl,rfl,?_,?_⟩ ?_)
 ·have e1:(L.take 1).drop 1=[]:=List.drop_eq_nil_of_le (by simp;omega)
  rw [e1]
  simp [qb6,qay,qc1,qaf,qac,qjv]
 ·have e1:(L.take 1).drop 1=[]:=List.drop_eq_nil_of_le (by simp;omega)
  rw [e1]
  exact {
   nd1:=by simp
   nd2:=by simp
   nd3:=by simp [Heap.ents,qgh]
   lt:=by simp
   idn:=by simp
   num:=by simp
   src:=fun e he=>by simp [Heap.ents,qgh] at he
   frz:=fun x hx=>by
    simp at hx
    subst hx
    exact ⟨[qa5 t],by simp [Heap.get,getFs,getF],qak (by simp [qac]),by simp [qac]⟩ }
 rintro k ⟨hk1,hk2⟩ B hB
 by_cases h:k < L.length
 ·have hc:(k:Int) < (L.length:Int):=by omega
  obtain ⟨y0,y1⟩:=hpm _ (List.getElem_mem h)
  have hix:=atI h
  have hix2:=atX y0 y1
  have hnx:((L.take (k+1)).drop 1).map (qa6 t)=((L.take k).drop 1).map (qa6 t)++[qa6 t L[k]]:=by
   rw [List.take_succ_eq_append_getElem h,List.drop_append_of_le_length (by simp;omega),List.map_append];rfl
  have hll:(((L.take k).drop 1).map (qa6 t)).length≤1000:=by simp;omega
  generalize ((L.take k).drop 1).map (qa6 t)=E at *
  generalize qa6 t L[k]=x at *
  have happ:=qmv (P:=Tryz.prog) (elem:=31) (b:=0) (t:=10) (m:=13) (es:=E.map qaj) (cs:=x.cs) (g:=[]) (fs:=[]) zap byT31 zeT31 rfl (by omega) (by omega) rfl rfl (qec _) (by simp;omega) (by omega) (by simp) (by simp)
  simp only [List.append_nil] at happ
  repeat apply wq
  refine qa0 qa1 ?_
  simp [zS,qm9,hc,h]
  refine qai rfl ?_
  refine qa7 ?_
  simp
  repeat apply wq
  refine qa9 ?_
  refine qcm qci qa1 (by decide +kernel) fun B_ hB_=>?_
  have d_2_10:ahead B_ 2 10=true:=by rw [hB_];decide +kernel
  have d_6_10:ahead B_ 6 10=true:=by rw [hB_];decide +kernel
  have d_8_10:ahead B_ 8 10=true:=by rw [hB_];decide +kernel
  have d_9_10:ahead B_ 9 10=true:=by rw [hB_];decide +kernel
  have d_10_2:ahead B_ 10 2=false:=by rw [hB_];decide +kernel
  have d_10_6:ahead B_ 10 6=false:=by rw [hB_];decide +kernel
  have d_10_8:ahead B_ 10 8=false:=by rw [hB_];decide +kernel
  apply qlt B_
  simp [zS,qdg,qbz,qby,qbr,qaw,qb4,qb3,Heap.lay,qdp,qlr,qlq,qh1,qh0,qgv,qgy,qhg,qh5,qf8,qf9,qhb,qha,qh8,qh9,qhe,qhf,qhd,qhc,d_2_10,d_6_10,d_8_10,d_9_10,d_10_2,d_10_6,d_10_8,hix,hix2,happ]
  exact rfl
  refine ⟨_,rfl,?_,?_⟩
  simp [zS,qbr,qaw,qch,qcp,qdz,d_2_10,d_6_10,d_8_10,d_9_10,d_10_2,d_10_6,d_10_8,hix,hix2,happ]
  simp [qcb,Heap.lay,qdp,qaa]
  refine qa0 qa1 ?_
  simp [zS,qba (show k≤1000000000 by omega)]
  refine hB _ (k+1) (by omega) ⟨by omega,by omega⟩ ?_
  simp only [hnx]
  have hne:(E++[x]).map qaj≠[]:=by simp
  refine ⟨[(13,0)],[],rfl,rfl,rfl,?_,?_⟩
  ·rw [qju hne];simp [qb6,qay,qb2,qaf,qac]
  ·have:=FitH.own1 (k:=0) (b:=13) (m':=1) (τ:=[]) (g:=[]) (H:=⟨14,[[(13,.cells (qan (E.map qaj)++x.cs)),(10,.cells x.cs)]]⟩) (qec (E++[x])) (fun _=>by simp [Heap.get,getFs,getF,qdl,qan]) (by simp) (by simp) (by simp) (by simp) (by simp)
   simpa using this
 ·have hc:¬ (k:Int) < (L.length:Int):=by omega
  have hall:L.take k=L:=List.take_of_length_le (by omega)
  rw [hall]
  repeat apply wq
  refine qa0 qa1 ?_
  simp [zS,qm9,hc,h]
  refine qal rfl ?_
  refine qat ?_
  simp
  repeat apply wq
  refine qa0 qa1 ?_
  simp [zS]
  refine qa8 ?_
  simp [qab,Tryz.f59,oneOr]
  have hs:=own_stay ((L.drop 1).map (qa6 t))
  exact ⟨[(0,0)],[],qgp (by simp [qb2]),by simpa using hs⟩
noncomputable def e59:Entry Tryz.prog:=mkE 59 [[],[]] (fun x:Tr × Nat=>[qam x.1,.int .i64 x.2]) (fun x=>qmj x.1∧x.2 < x.1.length) (fun x=>qa5 (qds x.1 x.2)) fun x hx=>(c59 (T:=[e95]) rfl x.1 hx.1 x.2 hx.2).froze (qec _)
theorem k59 {T:List (Entry Tryz.prog)} (hT:qag 59 T=some e59.g) {t:Tr} (ht:qmj t) {n:Nat} (hn:n < t.length) (H:Heap):qb9 (ctx T) (.fn 59) [qam t,.int .i64 n] H=some (qa5 (qds t n),H):=
 qdd hT injTN (t,n) ⟨ht,hn⟩ (by simp [qac,qaf]) (by simp [qfx,qgd]) H
end Go.Proofs.YtgpjifeeneeiaaaGreatDoor