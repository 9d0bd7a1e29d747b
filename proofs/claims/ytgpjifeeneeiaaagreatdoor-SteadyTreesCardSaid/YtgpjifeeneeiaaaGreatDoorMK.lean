/- A variable and its rows stay, all else is left. No condition. -/
import Derived.Test.YtgpjifeeneeiaaaGreatDoorMJ
import Derived.Test.YtgpjifeeneeiaaaGreatDoorMH
import Derived.Test.YtgpjifeeneeiaaaGreatDoorMI
namespace Go.Proofs.YtgpjifeeneeiaaaGreatDoor
set_option linter.unusedSimpArgs false
set_option linter.unusedVariables false
open Go Go.RowKit
set_option maxRecDepth 100000
mutual
theorem qsv:∀ (n:Nat) (v:AV),qaf v=true→refs n v=[]
 | 0,_,_=>rfl
 | n+1,v,h=>by
  cases v with
  | func fn a c=>
   simp only [qaf,Bool.and_eq_true] at h
   simp only [refs,qf4 n a h.1,qf4 n c h.2,List.append_nil]
  | iface t v=>
   simp only [qaf] at h
   simp only [refs,qsv n v h]
  | agg cs=>
   simp only [qaf] at h
   simp only [refs,qf4 n cs h]
  | tup cs=>
   simp only [qaf] at h
   simp only [refs,qf4 n cs h]
  | _=>first | rfl | (simp [qaf] at h)
theorem qf4:∀ (n:Nat) (l:List AV),qac l=true→l.flatMap (refs n)=[]
 | _,[],_=>rfl
 | n,v::r,h=>by
  simp only [qac,Bool.and_eq_true] at h
  rw [List.flatMap_cons,qsv n v h.1,qf4 n r h.2]
  rfl
end
structure Eok (m pb:Nat) (pre:List AV) (k sz:Nat) (es:List AV) (post:List AV) (g:List (Nat × Blk)):Prop where
 lp:pb < m
 lk:k < m∧k ∉ pb::g.map (·.1)
 lg:∀ e,e∈g→e.1 < m
 nd:(pb::g.map (·.1)).Nodup
 sg:∀ e,e∈g→SelfB m e.2
 sp:∀ σ,Idl m σ→qb6 σ [] pre pre
 sq:∀ σ,Idl m σ→qb6 σ [] post post
 el:Elems sz es
section
variable {m n pb k sz:Nat} {pre post es:List AV} {g f:List (Nat × Blk)}
theorem gF_of {l:List (Nat × Blk)} (nd:(l.map (·.1)).Nodup) {e:Nat × Blk} (he:e∈l):getF e.1 l=some e.2:=by
 have:=qq6 (fs:=[l]) (b:=e.1) (k:=e.2) (by simpa using nd) (by simpa using he)
 simp only [getFs] at this
 revert this
 cases getF e.1 l with
 | none=>intro h;cases h
 | some x=>intro h;exact h
theorem Eok.next (h:Eok m pb pre k sz es post g) {es':List AV} (he:Elems sz es'):Eok (m+1) pb pre m sz es' post g where
 lp:=by have:=h.lp;omega
 lk:=⟨Nat.lt_succ_self m,fun hx=>by
  rcases List.mem_cons.1 hx with hx | hx
  ·have:=h.lp;omega
  ·obtain ⟨e,he,hx⟩:=List.mem_map.1 hx
   have:=h.lg e he;omega⟩
 lg:=fun e he=>by have:=h.lg e he;omega
 nd:=h.nd
 sg:=fun e he=>(h.sg e he).mono (Nat.le_succ m)
 sp:=fun σ hσ=>h.sp σ fun i hi=>hσ i (by omega)
 sq:=fun σ hσ=>h.sq σ fun i hi=>hσ i (by omega)
 el:=he
theorem Eok.mono (h:Eok m pb pre k sz es post g) {m':Nat} (hm:m≤m') {es':List AV} (he:Elems sz es'):Eok m' pb pre k sz es' post g where
 lp:=Nat.lt_of_lt_of_le h.lp hm
 lk:=⟨Nat.lt_of_lt_of_le h.lk.1 hm,h.lk.2⟩
 lg:=fun e he=>Nat.lt_of_lt_of_le (h.lg e he) hm
 nd:=h.nd
 sg:=fun e he=>(h.sg e he).mono hm
 sp:=fun σ hσ=>h.sp σ fun i hi=>hσ i (by omega)
 sq:=fun σ hσ=>h.sq σ fun i hi=>hσ i (by omega)
 el:=he
end
section
variable {C:Ctx} {call:qbv} {ops:Array Oper} {s:St} {o:Oper} {l:List Oper} {P:St→Prop}
theorem qbn {E R:Option St} (h:E=R) (k:∃ s',R=some s'∧P s'):∃ s',E=some s'∧P s':=by subst h;exact k
theorem qas (h:P s):∃ s',some s=some s'∧P s':=⟨s,rfl,h⟩
theorem qaz {b:Bool} (h1:b=true→∃ s',qi7 C call ops (qpd C call s o (some true)) l=some s'∧P s') (h2:b=false→∃ s',qi7 C call ops (qpd C call s o (some false)) l=some s'∧P s') :
  ∃ s',qi7 C call ops (qpd C call s o (some b)) l=some s'∧P s':=by
 cases b with
 | true=>exact h1 rfl
 | false=>exact h2 rfl
theorem qj3 {H:Heap} {d:Option Tmp} {p q:Option AV} {b:Bool} (h1:b=true→∃ s',qi7 C call ops (putV s d (qzc H (some (.bool true)) p q)) l=some s'∧P s') (h2:b=false→∃ s',qi7 C call ops (putV s d (qzc H (some (.bool false)) p q)) l=some s'∧P s') :
  ∃ s',qi7 C call ops (putV s d (qzc H (some (.bool b)) p q)) l=some s'∧P s':=by
 cases b with
 | true=>exact h1 rfl
 | false=>exact h2 rfl
end
theorem qmp {W:Str} (h:W.all (fun c=>decide (c.toNat < 128))=true):qcz W:=by
 unfold qcz;simpa using h
theorem qc4 {a b:List Nd} (h:qa5 a=qa5 b):a=b:=qde (by simpa [qam] using h)
section
variable (n:Nd)
@[simp] theorem nd_cells:(qaj n).cells=n.cs:=rfl
@[simp] theorem nd_len:n.cs.length=7:=rfl
@[simp] theorem nd_single:allSingle n.cs=true:=rfl
@[simp] theorem nd_over {a b c d e f g:AV}:qi2 n.cs [a,b,c,d,e,f,g]=some n.cs:=rfl
@[simp] theorem nd_lay {a b c d e f g:AV}:qj5 n.cs 0 [a,b,c,d,e,f,g]=some n.cs:=rfl
@[simp] theorem nd_over' {m:Nd}:qi2 n.cs m.cs=some n.cs:=rfl
@[simp] theorem nd_lay' {m:Nd}:qj5 n.cs 0 m.cs=some n.cs:=rfl
@[simp] theorem nd_refs:n.cs.flatMap (refs 6)=[]:=qf4 6 _ (qev n)
@[simp] theorem nd_take:qed 7 n.cs=some n.cs:=rfl
@[simp] theorem nd_sub:qeu 0 7 n.cs=some n.cs:=rfl
theorem qao:AV.agg n.cs=qaj n:=rfl
@[simp] theorem nd_f0:qcy Tryz.prog 31 (qaj n) 0=some (.int .i64 n.kind):=rfl
@[simp] theorem nd_f1:qcy Tryz.prog 31 (qaj n) 1=some (.int .i64 n.space):=rfl
@[simp] theorem nd_f2:qcy Tryz.prog 31 (qaj n) 2=some (.str n.name):=rfl
@[simp] theorem nd_f3:qcy Tryz.prog 31 (qaj n) 3=some (qb7 n.attrs):=rfl
@[simp] theorem nd_f4:qcy Tryz.prog 31 (qaj n) 4=some (.str n.data):=rfl
@[simp] theorem nd_f5:qcy Tryz.prog 31 (qaj n) 5=some (.int .i64 n.up):=rfl
@[simp] theorem nd_f6:qcy Tryz.prog 31 (qaj n) 6=some (qbs n.kids):=rfl
end
def qml (t:Tr) (i:Nat):Bool:=(!(qa6 t i).kids.any (qsd t i)) && (if (qa6 t i).up < 0 then decide ((qa6 t i).up = -1) else decide ((qa6 t i).up < (t.length:Int)) && (decide ((qa6 t (qa6 t i).up).kind≤1) && decide (qcn (qa6 t (qa6 t i).up).kids i=1)))
theorem qy8 {d:Option Tmp} {l:Operand} {ty:TypeId} {pos:String} {af:Array Edge} {g:Option (Nat × Bool)} {s:St}:qbl s ⟨d,.entry l,ty,pos,af,g⟩=s:=rfl
theorem qrn (H:Heap):FitH 0 [] [] H ⟨0,[]⟩ where
 nd1:=by simp
 nd2:=by simp
 nd3:=by simp [Heap.ents]
 lt:=by simp
 idn:=by simp
 num:=by simp
 src:=by intro e he;simp [Heap.ents] at he
 frz:=fun x h=>by cases h
theorem qx5 {τ:Nat→Nat} (M:List (Int × Int)):qpw τ (.map (qbf qbw qbw M))=.map (qbf qbw qbw M):=by
 have:renM τ (qbf qbw qbw M)=qbf qbw qbw M:=by
  induction M with
  | nil=>rfl
  | cons p r ih=>simp only [qbf,List.map_cons,renM] at ih ⊢;rw [ih];rfl
 simp only [qpw,this]
theorem qur:∀ (M:List (Int × Int)),qs5 (qbf qbw qbw M)=true
 | []=>rfl
 | p::r=>by
  have:=qur r
  simp only [qbf] at this
  simp [qbf,qs5,qus,qbw]
  simpa [qbw] using this
theorem fit_ln {t:Tr} {x:Nd} {rem:List (Int × Int)} {cur:Option (AV × AV)} {c n:Nat} {f:List (Nat × Blk)} (h2:getF c f=some (.rng (qbf qbw qbw rem) cur)) (h1:getF 1 f=some (.cells x.cs)) (h0:getF 0 f=some (.cells [qa5 t])) (hc:c≠0∧c≠1:=by omega) :
  FitH 0 [(c,2),(1,1),(0,0)] [] ⟨n,[f]⟩ ⟨3,[[(2,.rng (qbf qbw qbw rem) cur),(1,.cells x.cs),(0,.cells [qa5 t])]]⟩ where
 nd1:=by simp;omega
 nd2:=by simp
 nd3:=by simp [Heap.ents]
 lt:=by simp
 idn:=by simp
 num:=by simp
 src:=by
  intro e he
  have hN:=qd9 t
  simp [Heap.ents] at he
  rcases he with rfl | rfl | rfl
  ·exact ⟨c,.rng (qbf qbw qbw rem) cur,by simp,by simp [Heap.get,getFs,h2],rfl,rfl⟩
  ·exact ⟨1,.cells x.cs,by simp,by simp [Heap.get,getFs,h1],qak (qev x)⟩
  ·exact ⟨0,.cells [qa5 t],by simp,by simp [Heap.get,getFs,h0],qak (by simp [qac])⟩
 frz:=fun x h=>by cases h
theorem qzt {M:List (Int × Int)} {l q:List (AV × AV)} {e:AV × AV} (h:qbf qbw qbw M=l++e::q):∃ A p C,M=A++p::C∧l=qbf qbw qbw A∧e=(qbw p.1,qbw p.2)∧q=qbf qbw qbw C:=by
 unfold qbf at h
 obtain ⟨A,B,h1,h2,h3⟩:=List.map_eq_append_iff.1 h
 obtain ⟨p,C,h4,h5,h6⟩:=List.map_eq_cons_iff.1 h3
 exact ⟨A,p,C,by rw [h1,h4],h2.symm,h5.symm,h6.symm⟩
theorem zc2 {T:List (Entry Tryz.prog)} (t:Tr) (ht:qmj t) (i:Nat) (hi:i < t.length):CallAt (ctx T) 53 [qam t,.int .i64 (i:Int),qaj (qa6 t i)] ⟨0,[]⟩ (.bool (qml t i)) ⟨0,[]⟩:=by
 have hcnt:=c92 (T:=T) (qa6 t i).kids (by have:=(ht.2 _ (qcj (t:=t) (i:=(i:Int)) (by omega) (by omega))).1;omega)
 obtain ⟨x,hx⟩ : ∃ x,x=qa6 t i:=⟨_,rfl⟩
 rw [← hx] at hcnt ⊢
 refine qa3 (fn:=Tryz.f53) (s0:=⟨[0,1,2,3,5,6,7,11],[qam t,.int .i64 (i:Int),qaj x,.undef,.undef,.undef,.undef,.undef],[],70,⟨0,[[]]⟩⟩) Tryz.func53 rfl rfl rfl ?_
 repeat apply wq
 refine qa0 qa1 ?_
 simp [zS,qam,qao]
 have hcall:=hcnt.framed (σ:=[]) (H:=⟨2,[[(1,.cells x.cs),(0,.cells [qa5 t])]]⟩) (H':=⟨3,[[(2,.map (qbf qbw qbw (qj9 x.kids))),(1,.cells x.cs),(0,.cells [qa5 t])]]⟩) (args:=[qbs x.kids]) (qrn _) (by simp [qb6,qay,qaf]) (by
  refine ⟨by simp,fun _ _=>by simp [Heap.ents],?_⟩
  intro e he
  simp [Heap.ents] at he
  rcases he with rfl | rfl | rfl
  ·exact .inl ⟨(0,.map (qbf qbw qbw (qj9 x.kids))),by simp [Heap.ents],by rw [qx5];simp [qfs,qdk]⟩
  ·exact .inr ⟨by simp [Heap.ents],by simp⟩
  ·exact .inr ⟨by simp [Heap.ents],by simp⟩) (by simp)
 simp only [qk9,qfs,qdk] at hcall
 have hbm:=qur (qj9 x.kids)
 repeat apply wq
 refine qa0 (qca [⟨92,_,_,_,_,hcall⟩]) ?_
 simp [zS,qdb,rgV,qsz,hbm,Heap.drop,qea,killF,Heap.new,pushF]
 refine qa9 (qax (fun y:List (Int × Int) × Option (Int × Int)=>(⟨[0,1,2,3,5,6,7,11],[.undef,.int .i64 (i:Int),.undef,.ptr 0 0,.ptr 1 0,.bool false,.undef,.ptr 2 0],[],70,⟨3,[[(2,.rng (qbf qbw qbw y.1) (y.2.map fun p=>(qbw p.1,qbw p.2))),(1,.cells x.cs),(0,.cells [qa5 t])]]⟩⟩ : St))
  (fun y=>(∀ p,p∈y.1→p.1∈x.kids)∧∀ k,k∈x.kids→qsd t i k=true→∃ v,(k,v)∈y.1) (fun y=>y.1.length) [(3,2),(1,1),(0,0)] [] (qj9 x.kids,none) ⟨fun p hp=>cnt_keys.1 ⟨p.2,hp⟩,fun k hk _=>cnt_keys.2 hk⟩
  ⟨rfl,rfl,rfl,by simp [qb6,qay,qb2,qaf,qac],fit_ln rfl rfl rfl⟩ ?_)
 rintro ⟨rem,cur⟩ ⟨hm1,hm2⟩ B hB
 simp only at hm1 hm2 ⊢
 refine qah ?_
 refine qwk qa1 rfl rfl rfl rfl rfl ?_ ?_
 ·intro h0
  refine ⟨_,rfl,?_⟩
  simp [zS]
  have hrem:rem=[]:=by cases rem with
   | nil=>rfl
   | cons p r=>simp [qbf] at h0
  subst hrem
  have hno:x.kids.any (qsd t i)=false:=by
   rw [List.any_eq_false]
   intro k hk hb
   obtain ⟨v,hv⟩:=hm2 k hk hb
   cases hv
  have hR:qml t i=(if x.up < 0 then decide (x.up = -1) else decide (x.up < (t.length:Int)) && (decide ((qa6 t x.up).kind≤1) && decide (qcn (qa6 t x.up).kids i=1))):=by
   unfold qml
   rw [← hx,hno];rfl
  rw [hR]
  clear hR hcall hcnt hbm hm1 hm2 hB h0
  repeat apply wq
  refine qal rfl ?_
  refine qat ?_
  simp
  have g5:qcl x.cs 5=some (.int .i64 x.up):=rfl
  by_cases hu:x.up < 0
  ·simp only [hu,if_true]
   repeat apply wq
   refine qa0 qa1 ?_
   simp [zS,g5,hu]
   refine qai (by simp [qbq,St.get,hu]) ?_
   repeat apply wq
   refine qa0 qa1 ?_
   simp [zS,g5]
   refine qa8 ?_
   simp [qab,Tryz.f53,oneOr]
   exact ⟨[],[],qbb rfl,qrn _⟩
  ·simp only [hu,if_false]
   repeat apply wq
   refine qa0 qa1 ?_
   simp [zS,g5,hu]
   refine qal (by simp [qbq,St.get,hu]) ?_
   refine qa7 ?_
   simp
   have lenT:∀ H,qe3 Tryz.prog H 22 (qa5 t)=some t.length:=fun H=>by simp [qe3]
   by_cases h1:x.up < (t.length:Int)
   ·have hixu:=atX (t:=t) (i:=x.up) (by omega) h1
    have g0:qcl (qa6 t x.up).cs 0=some (.int .i64 (qa6 t x.up).kind):=rfl
    have g6:qcl (qa6 t x.up).cs 6=some (qbs (qa6 t x.up).kids):=rfl
    by_cases h2:(qa6 t x.up).kind≤1
    ·have hcnt2:=c92 (T:=T) (qa6 t x.up).kids (by have:=(ht.2 _ (qcj (t:=t) (i:=x.up) (by omega) h1)).1;omega)
     obtain ⟨K,hK⟩ : ∃ K,K=(qa6 t x.up).kids:=⟨_,rfl⟩
     rw [← hK] at hcnt2 g6 ⊢
     obtain ⟨rg,hrg⟩ : ∃ rg,rg=Blk.rng (qbf qbw qbw []) (Option.map (fun p=>(qbw p.1,qbw p.2)) cur):=⟨_,rfl⟩
     rw [← hrg]
     have hcall2:=hcnt2.framed (σ:=[]) (H:=⟨3,[[(2,rg),(1,.cells x.cs),(0,.cells [qa5 t])]]⟩) (H':=⟨4,[[(3,.map (qbf qbw qbw (qj9 K))),(2,rg),(1,.cells x.cs),(0,.cells [qa5 t])]]⟩) (args:=[qbs K]) (qrn _) (by simp [qb6,qay,qaf]) (by
      refine ⟨by simp,fun _ _=>by simp [Heap.ents],?_⟩
      intro e he
      simp [Heap.ents] at he
      rcases he with rfl | rfl | rfl | rfl
      ·exact .inl ⟨(0,.map (qbf qbw qbw (qj9 K))),by simp [Heap.ents],by rw [qx5];simp [qfs,qdk]⟩
      ·exact .inr ⟨by simp [Heap.ents],by simp⟩
      ·exact .inr ⟨by simp [Heap.ents],by simp⟩
      ·exact .inr ⟨by simp [Heap.ents],by simp⟩) (by simp)
     simp only [qk9,qfs,qdk] at hcall2
     have hz:qbt Tryz.prog mapII.te=some (.int .i64 0):=zeT3
     have hlook:=mapII.look (M:=qj9 K) (b:=3) (H:=⟨4,[[(3,.map (qbf qbw qbw (qj9 K))),(2,rg),(1,.cells x.cs),(0,.cells [qa5 t])]]⟩) hz rfl (i:Int)
     have hgv:((qj7 (i:Int) (qj9 K)).map qbw).getD (.int .i64 0)=.int .i64 (qcn K i:Int):=by
      rw [qrx]
      by_cases hm:(i:Int)∈K
      ·simp [hm,qbw]
      ·have:qcn K i=0:=by unfold qcn;rw [List.countP_eq_zero];intro y hy;simp;exact fun e=>hm (e ▸ hy)
       simp [hm,this]
     rw [hgv] at hlook
     have hti:((qcn K i:Nat):Int)=1↔qcn K i=1:=by omega
     simp only [qbw] at hlook
     generalize qj9 K=M at *
     repeat apply wq
     refine qa0 (qca [⟨92,_,_,_,_,hcall2⟩]) ?_
     simp [zS,qdb,g5,lenT,h1,hixu,g0,h2,g6,hlook]
     refine qa8 ?_
     simp [qab,Tryz.f53,oneOr,h1,h2,hti]
     exact ⟨[],[],qbb rfl,qrn _⟩
    ·have h2':¬ (qa6 t x.up).kind≤1:=h2
     repeat apply wq
     refine qa0 qa1 ?_
     simp [zS,g5,lenT,h1,hixu,g0,h2]
     refine qa8 ?_
     simp [qab,Tryz.f53,oneOr,h1,h2]
     exact ⟨[],[],qbb rfl,qrn _⟩
   ·repeat apply wq
    refine qa0 qa1 ?_
    simp [zS,g5,lenT,h1]
    refine qa8 ?_
    simp [qab,Tryz.f53,oneOr,h1]
    exact ⟨[],[],qbb rfl,qrn _⟩
 ·intro l e q h
  obtain ⟨A,p,C,rfl,rfl,rfl,rfl⟩:=qzt h
  refine ⟨_,_,rfl,rfl,?_⟩
  simp [zS]
  clear hcall hcnt hbm
  repeat apply wq
  refine qai rfl ?_
  refine qa7 ?_
  simp
  refine qa9 ?_
  have lenT:∀ H,qe3 Tryz.prog H 22 (qa5 t)=some t.length:=fun H=>by simp [qe3]
  have hpm:=hm1 p (by simp)
  have hbad:qsd t i p.1=true→qml t i=false:=fun hb=>by
   unfold qml
   have:(qa6 t i).kids.any (qsd t i)=true:=List.any_eq_true.2 ⟨p.1,by rw [← hx];exact hpm,hb⟩
   rw [this];rfl
  repeat apply wq
  refine qa0 qa1 ?_
  simp [zS,qyd,qy8,enV,qqd,qbw]
  by_cases c1:p.1 < 0
  ·have hb:=hbad (by simp [qsd,c1])
   repeat apply wq
   refine qa0 qa1 ?_
   simp [zS,c1,lenT]
   refine qai rfl ?_
   repeat apply wq
   refine qa0 qa1 ?_
   simp [zS]
   refine qa8 ?_
   simp [qab,Tryz.f53,oneOr]
   exact ⟨[],[],by rw [hb];exact qbb rfl,qrn _⟩
  ·by_cases c2:(t.length:Int)≤p.1
   ·have hb:=hbad (by simp [qsd,c2])
    repeat apply wq
    refine qa0 qa1 ?_
    simp [zS,c1,c2,lenT]
    refine qai rfl ?_
    repeat apply wq
    refine qa0 qa1 ?_
    simp [zS]
    refine qa8 ?_
    simp [qab,Tryz.f53,oneOr]
    exact ⟨[],[],by rw [hb];exact qbb rfl,qrn _⟩
   ·have hixk:=atX (t:=t) (i:=p.1) (by omega) (by omega)
    have g5:qcl (qa6 t p.1).cs 5=some (.int .i64 (qa6 t p.1).up):=rfl
    by_cases c3:(qa6 t p.1).up=(i:Int)
    ·repeat apply wq
     refine qa0 qa1 ?_
     simp [zS,c1,c2,lenT,hixk,g5,c3]
     refine qal rfl ?_
     refine qa7 ?_
     simp
     refine hB _ (A++C,some p) (by simp) ⟨fun p' hp'=>hm1 p' (by rcases List.mem_append.1 hp' with h | h <;> simp [h]),fun k hk hb=>?_⟩ ⟨[(2,2),(1,1),(0,0)],[],rfl,rfl,rfl,by simp [qb6,qay,qb2,qaf,qac],?_⟩
     ·obtain ⟨v,hv⟩:=hm2 k hk hb
      refine ⟨v,?_⟩
      rcases List.mem_append.1 hv with hv | hv
      ·exact List.mem_append.2 (.inl hv)
      ·rcases List.mem_cons.1 hv with hv | hv
       ·exfalso
        have:k=p.1:=by rw [← hv]
        subst this
        simp [qsd,c1,c2,c3] at hb
       ·exact List.mem_append.2 (.inr hv)
     ·have e:qbf qbw qbw A++qbf qbw qbw C=qbf qbw qbw (A++C):=by simp [qbf]
      exact fit_ln (by simp [getF,← e,qbw]) rfl rfl
    ·have hb:=hbad (by simp [qsd,c3])
     repeat apply wq
     refine qa0 qa1 ?_
     simp [zS,c1,c2,lenT,hixk,g5,c3]
     refine qai rfl ?_
     repeat apply wq
     refine qa0 qa1 ?_
     simp [zS]
     refine qa8 ?_
     simp [qab,Tryz.f53,oneOr]
     exact ⟨[],[],by rw [hb];exact qbb rfl,qrn _⟩
end Go.Proofs.YtgpjifeeneeiaaaGreatDoor
namespace Go.Proofs.YtgpjifeeneeiaaaGreatDoor
noncomputable section
set_option linter.unusedSimpArgs false
set_option linter.unusedVariables false
open Go Go.RowKit
def AfterR (ρ:Place) (H:Heap) (w:World) (R:AV→Heap→Prop):Ending→World→Prop:=fun e w'=>∃ v H',R v H'∧quv ρ H w v H' e w'
def qs9 (C:Ctx) (f:FuncId) (args:List AV) (H:Heap) (R:AV→Heap→Prop):Prop:=
 ∀ ρ w xs,Sim ρ H w→VRs ρ args xs→∃ g ys,(callFunc f xs.toArray).run C.P w=.ok (.enter g ys) w∧CallsIn Fence.wide 0 C.P g ys w (AfterR ρ H w R)
theorem qul {C : Ctx} {f : FuncId} {fn : Func} {body : Code} {args : List AV} {H : Heap} {R : AV → Heap → Prop} {s0 : St} (hf : C.P.funcs[f]? = some fn) (hname : (fn.name == "runtime.NumGoroutine") = false)
  (hb:fn.body=some body) (he:zdi C f fn args H=some s0)
  (h:WpS C H.n body s0 fun x s=>(x=.normal∨x=.ret)∧∃ vs,qab C s fn.results.toList=some vs∧∃ v H' σ Φ,R v H'∧qay σ Φ (oneOr vs) v∧FitH H.n σ Φ s.H H'):qs9 C f args H R:=by
 intro ρ w xs sm hx
 refine ⟨f,xs.toArray,?_,?_⟩
 ·have hname' : ¬ fn.name = "runtime.NumGoroutine" := fun e => by rw [e] at hname; simp at hname
  simp [callFunc,hf,hname',hb]
 ·refine callsIn_of_wp_marks hf hb trivial ?_
  obtain ⟨o1,o2⟩:=sm.opened
  have hlen:xs.length=args.length:=hx.1
  have env0:EnvR ρ { ks:=C.keep f,vs:=qnc (C.keep f),ts:=[],sz:=args.length+(fn.ntmps - args.length),H:=⟨H.n,[]::H.fs⟩ }
    { tmps:=xs.toArray++Array.replicate (fn.ntmps - xs.toArray.size) undef,defers:=[] }:=by
   refine ⟨by simp [hlen],fun t u hu=>?_⟩
   simp only [St.get] at hu
   split at hu
   ·rename_i hl
    have:=qgm hl
    simp only [sj] at hu
    subst hu;subst this
    exact .undef _
   ·simp [qgl,qkz] at hu
  obtain ⟨e1,hH1⟩:=qhl (i:=0) he env0 hx fun j hj=>by
   simp only [Nat.zero_add,Array.getD_eq_getD_getElem?]
   rw [Array.getElem?_append_left (by simpa using hj)]
   simp [hj]
  have hH:s0.H=⟨H.n,[]::H.fs⟩:=hH1
  let b:Base:=⟨H.n,fun k=>∃ e,e∈H.ents∧∃ l,ρ e.1=some l∧l.cb=k,ρ,w,[]⟩
  have since0:Since b ρ s0.H w:=by
   rw [hH]
   exact ⟨fun k hk=>⟨hk,rfl⟩,rfl,rfl,rfl,Nat.le_refl _,fun _ _ _=>rfl,fun e he l hl=>.inl ⟨e,he,l,hl,rfl⟩,fun k hk=>.inl hk,fun _ _=>rfl,Nat.le_refl _⟩
  refine (h b _ w rfl ⟨ρ,since0,by rw [hH];exact o1,e1,.of_eq rfl⟩ _ fun x s a' w' hq ha'=>?_).wp
  obtain ⟨hx1,vs,hvs,v,H',σ,Φ,hR,hfv,hfh⟩:=hq
  obtain ⟨ρ1,k1,k2,k3,rs,hrs,hnd,hmk⟩:=ha'
  have fin:LeavesInM Fence.wide 0 C.P fn a'.tmps (AfterR ρ H w R) a'.defers .returning w':=by
   have hrs:a'.defers=rs.map mkD:=by rw [hrs];exact List.append_nil _
   rw [hrs]
   refine qid (b:=b) rs w' hnd hmk k2 k1 fun w' k2 k1=>?_
   obtain ⟨y,r1,r2⟩:=qjs k2 k3 hvs
   have run:=Fits.run (hfh.fits k2) k2 _ (Nat.le_refl _) r2 hfv
   have sim2:=hfh.sim k2 k1.num
   have sin2:=FitH.since (b:=b) hfh k2 k1
   refine ⟨y,r1,v,H',hR,y,_,rfl,run,sim2,?_⟩
   exact ⟨⟨qhq sm sin2.low,sin2.fz,sin2.os,sin2.tape,sin2.output⟩,sin2.size,fun k hk hn=>sin2.keeps k hk fun ⟨e,he,l,hl,hlk⟩=>hn e he l hl hlk,
    fun e he l hl=>sin2.rows e he l hl,sin2.num,sin2.low,sin2.cold⟩
  rcases hx1 with rfl | rfl
  ·exact fin
  ·exact fin
theorem zbt {C:Ctx} {call:qbv} (hC:CallOK C call) {ops:Array Oper} {r:Option Nat} {Q:Exit→Act→World→Prop} {rest:List Nat}:∀ {l:List Oper} {i:Nat} {s s':St} {a:Act} {ρ:Place} {w:World},
  (∀ j,j < l.length→l[j]? = ops[i+j]?)→qdm C call ops l s=some s'→Sim ρ s.H w→EnvR ρ s a →
  (∀ a' w' ρ',Sim ρ' s'.H w'→Step ρ s.H w ρ' s'.H w'→EnvR ρ' s' a'→a'.defers=a.defers→wpOpsIn (fen r) 0 C.P ops Q rest a' w')→wpOpsIn (fen r) 0 C.P ops Q (List.range' i l.length++rest) a w
 | [],i,s,s',a,ρ,w,_,h,sm,e,hk=>by
  simp only [qdm,sj] at h
  subst h
  simpa using hk a w ρ sm (.refl _ _ _) e rfl
 | o::l,i,s,s',a,ρ,w,hl,h,sm,e,hk=>by
  obtain ⟨s1,h1,h2⟩:=obs h
  obtain ⟨g1,g2,g3⟩:=qk1 sm e o
  rw [List.length_cons,List.range'_succ,List.cons_append,wpOpsIn_cons]
  refine op_wp hC (by simpa using (hl 0 (by simp)).symm) h1 g1 g3 fun a' w' ρ' k1 k2 k3 k4=>?_
  refine zbt hC (fun j hj=>by have:=hl (j+1) (by simpa using hj);simpa [Nat.add_assoc,Nat.add_comm 1 j] using this) h2 k1 k3 fun a2 w2 ρ2 m1 m2 m3 m4=>?_
  exact hk a2 w2 ρ2 m1 ((g2.trans k2).trans m2) m3 (m4.trans k4)
theorem zae {C:Ctx} {n:Nat} {r:Option Nat} {s s1:St} {Q:Out→St→Prop} {call:qbv} {id:Nat} {ops:Array Oper} {o:Oper} {pre:List Oper} {c:Call} {fo:Operand} {g:FuncId} {args:List AV} {R:AV→Heap→Prop}
  (hC:CallOK C call) (hops:ops.toList=pre++[o]) (ho:o.op=.call c) (hcl:c.callee=.value fo) (hev:qdm C call ops pre { s with ts:=[] }=some s1)
  (hg:qbz ops s1 o=some true) (ha:qel s1 c.args.toList=some args) (hfo:qbq s1 fo=some (.func (.func g) [] [])) (hcall:qs9 C g args s1.H R)
  (hQ:∀ v H',R v H'→∃ s',St.put { s1 with H:=H' } o.dst v=some s'∧Q .normal s'):WpSr C n r (.region id ops false) s Q:=by
 intro b' a w hbn hat K hK
 obtain ⟨ρ,g1,g2,g3,g4⟩:=hat
 refine wpIn_region ?_
 have hsz:ops.size=pre.length+1:=by rw [← Array.length_toList,hops];simp
 have hlast:ops[pre.length]? = some o:=by rw [← Array.getElem?_toList,hops];simp
 rw [List.range_eq_range',hsz,List.range'_concat]
 refine zbt hC (l:=pre) (i:=0) (s:={ s with ts:=[] }) (s':=s1) (fun j hj=>by
  rw [← Array.getElem?_toList,hops,List.getElem?_append_left (by omega)];simp) hev g2 g3.fresh fun a1 w1 ρ1 k1 k2 k3 k4=>?_
 have e1:[0+1 * pre.length]=pre.length::[]:=by simp
 rw [e1,wpOpsIn_cons]
 unfold wpOpIn
 simp only [hlast]
 rw [qh7 k3 hg]
 simp only [if_true]
 refine ⟨fun f _=>qq9 r f,?_⟩
 have hsem:o.semAt (fen r).round a1.eval=execOp a1.eval o:=by
  unfold Oper.semAt
  split
  ·rename_i hop;rw [ho] at hop;cases hop
  ·rfl
 rw [hsem]
 obtain ⟨first',cap',hfe,hfi,hca⟩:=(qbc k3 hfo).args
 have hf0:first'.toList=[]:=List.length_eq_zero_iff.1 hfi.1
 have hc0:cap'.toList=[]:=List.length_eq_zero_iff.1 hca.1
 have hrun:(execOp a1.eval o).run C.P w1=(callFunc g (c.args.map a1.eval).toList.toArray).run C.P w1:=by
  have e1:(c.args.map a1.eval).toList.toArray=first'++c.args.map a1.eval++cap':=by apply Array.ext';simp [hf0,hc0]
  rw [e1]
  simp [execOp,ho,hcl,resolve,Deferred.ofValue,hfe,invoke]
 rw [hrun]
 obtain ⟨g',ys,h1,h2⟩:=hcall ρ1 w1 _ k1 (qh3 k3 ha)
 rw [h1]
 refine ⟨fun hd=>(by rw [qor] at hd;cases hd),?_⟩
 refine CallsIn.mono (qu9 h2) ?_
 rintro e' w' ⟨v,H',hR,x,ρ',rfl,h3,h4,h5⟩
 obtain ⟨s',hput,hq⟩:=hQ v H' hR
 have hH:s'.H=H':=St.put_heap hput
 have henv:EnvR ρ' s' (a1.put o.dst x):=((k3.mono h5.le).heap H').put hput h3
 have defers:∀ (d:Option Tmp) (x:Value),(a1.put d x).defers=a1.defers:=fun d x=>by cases d <;> rfl
 have st:=k2.trans h5
 exact hK .normal s' _ w' hq ⟨ρ',hH ▸ g1.step st,hH ▸ h4,henv,by rw [defers,k4];exact hH ▸ g4.step st⟩
end
end Go.Proofs.YtgpjifeeneeiaaaGreatDoor
namespace Go.Proofs.YtgpjifeeneeiaaaGreatDoor
set_option linter.unusedSimpArgs false
set_option linter.unusedVariables false
open Go Go.RowKit
set_option maxRecDepth 100000
def qp2 (_:Unit):AV:=.int .i64 1
def mapI1:MapT Tryz.prog 71 qbw qp2 where
 tk:=3
 te:=3
 kd:=_
 hu:=Tryz.underlying71
 hk:=Tryz.underlying3
 eq:=fun a b=>by
  show some (a == b)=_
  congr 1
 pure:=fun a v=>rfl
def qsc (L:List Int):List (Int × Unit):=L.map fun k=>(k,())
theorem qrd {k:Int}:∀ (L:List Int),∃ L',qsr k () (qsc L)=qsc L'∧∀ x,x∈L'↔x∈L∨x=k
 | []=>⟨[k],rfl,fun x=>by simp⟩
 | y::r=>by
  by_cases h:y=k
  ·exact ⟨y::r,by simp [qsc,qsr,h],fun x=>by simp;intro he;exact .inl (he.trans h.symm)⟩
  ·obtain ⟨L',h1,h2⟩:=qrd (k:=k) r
   refine ⟨y::L',?_,fun x=>by simp [h2,or_assoc]⟩
   unfold qsc at h1 ⊢
   rw [List.map_cons,List.map_cons,qsr,if_neg h,h1]
theorem qxw {k:Int}:∀ (L:List Int),qj7 k (qsc L)=if k∈L then some () else none
 | []=>rfl
 | y::r=>by
  have ih:=qxw (k:=k) r
  unfold qsc at ih ⊢
  rw [List.map_cons,qj7]
  by_cases h:y=k
  ·subst h;simp
  ·have h':¬ k=y:=fun e=>h e.symm
   simp only [h,if_false,List.mem_cons,h',false_or]
   exact ih
abbrev mC (L:List Int):Blk:=.map (qbf qbw qp2 (qsc L))
theorem bareC:∀ (M:List (Int × Unit)),qs5 (qbf qbw qp2 M)=true
 | []=>rfl
 | p::r=>by
  have:=bareC r
  simp only [qbf] at this
  simp [qbf,qs5,qus,qbw,qp2]
  simpa [qbw,qp2] using this
theorem splitC {M:List (Int × Unit)} {l q:List (AV × AV)} {e:AV × AV} (h:qbf qbw qp2 M=l++e::q):∃ A p C,M=A++p::C∧l=qbf qbw qp2 A∧e=(qbw p.1,qp2 p.2)∧q=qbf qbw qp2 C:=by
 unfold qbf at h
 obtain ⟨A,B,h1,h2,h3⟩:=List.map_eq_append_iff.1 h
 obtain ⟨p,C,h4,h5,h6⟩:=List.map_eq_cons_iff.1 h3
 exact ⟨A,p,C,by rw [h1,h4],h2.symm,h5.symm,h6.symm⟩
theorem qu4 {σ:List (Nat × Nat)} {Φ:List (Nat × List AV)} (L:List Int):qi0 σ Φ (mC L) (mC L):=by
 have k1:∀ (M:List (Int × Unit)),qb6 σ Φ (M.map fun p=>qbw p.1) (M.map fun p=>qbw p.1):=fun M=>qak (by
  induction M with
  | nil=>rfl
  | cons p r ih=>simp only [List.map_cons,qac,ih];rfl)
 have k2:∀ (M:List (Int × Unit)),qb6 σ Φ (M.map fun p=>qp2 p.2) (M.map fun p=>qp2 p.2):=fun M=>qak (by
  induction M with
  | nil=>rfl
  | cons p r ih=>simp only [List.map_cons,qac,ih];rfl)
 exact ⟨by simpa [qbf,Function.comp_def] using k1 (qsc L),by simpa [qbf,Function.comp_def] using k2 (qsc L)⟩
theorem fit_cp {t:Tr} {k:Blk} {L:List Int} {H:Heap} (h3:H.get 3=some k) (hk:qi0 [(3,3),(1,1),(0,0)] [] k k) (h1:H.get 1=some (mC L)) (h0:H.get 0=some (.cells [qa5 t])) :
  FitH 3 [(3,3),(1,1),(0,0)] [] H ⟨4,[[(3,k),(1,mC L),(0,.cells [qa5 t])]]⟩ where
 nd1:=by simp
 nd2:=by simp
 nd3:=by simp [Heap.ents]
 lt:=by simp
 idn:=by simp
 num:=by simp
 src:=by
  intro e he
  have hN:=qd9 t
  simp [Heap.ents] at he
  rcases he with rfl | rfl | rfl
  ·exact ⟨3,k,by simp,h3,hk⟩
  ·exact ⟨1,mC L,by simp,h1,qu4 L⟩
  ·exact ⟨0,.cells [qa5 t],by simp,h0,qak (by simp [qac])⟩
 frz:=fun x h=>by cases h
theorem fit_ce {t:Tr} {L:List Int} {H:Heap} (h1:H.get 1=some (mC L)) (h0:H.get 0=some (.cells [qa5 t])) :
  FitH 3 [(1,1),(0,0)] [] H ⟨4,[[(1,mC L),(0,.cells [qa5 t])]]⟩ where
 nd1:=by simp
 nd2:=by simp
 nd3:=by simp [Heap.ents]
 lt:=by simp
 idn:=by simp
 num:=by simp
 src:=by
  intro e he
  have hN:=qd9 t
  simp [Heap.ents] at he
  rcases he with rfl | rfl
  ·exact ⟨1,mC L,by simp,h1,qu4 L⟩
  ·exact ⟨0,.cells [qa5 t],by simp,h0,qak (by simp [qac])⟩
 frz:=fun x h=>by cases h
theorem zdq {T:List (Entry Tryz.prog)} (t:Tr) (E S:List Int):qs9 (ctx T) 54 [.map 1,.map 2] ⟨3,[[(2,mC S),(1,mC E),(0,.cells [qa5 t])]]⟩
  (fun v H'=>v=.tup []∧∃ L,H'=⟨4,[[(1,mC L),(0,.cells [qa5 t])]]⟩∧∀ k,k∈L↔k∈E∨k∈S):=by
 refine qul (fn:=Tryz.f54) (s0:=⟨[0,1,4,5,7],[.map 1,.map 2,.undef,.undef,.undef],[],16,⟨3,[]::[[(2,mC S),(1,mC E),(0,.cells [qa5 t])]]⟩⟩) Tryz.func54 rfl rfl rfl ?_
 have hbm:=bareC (qsc S)
 repeat apply wq
 refine qa0 qa1 ?_
 simp [zS,rgV,qsz,hbm,Heap.drop,qea,killF,Heap.new,pushF]
 refine qa9 (qax (fun y:List (Int × Unit) × Option (Int × Unit) × List Int=>(⟨[0,1,4,5,7],[.map 1,.undef,.undef,.undef,.ptr 3 0],[],16,⟨4,[[(3,.rng (qbf qbw qp2 y.1) (y.2.1.map fun p=>(qbw p.1,qp2 p.2))),(1,mC y.2.2),(0,.cells [qa5 t])]]⟩⟩ : St))
  (fun y=>∀ k,(k∈y.2.2∨∃ u,(k,u)∈y.1)↔(k∈E∨k∈S)) (fun y=>y.1.length) [(3,3),(1,1),(0,0)] [] (qsc S,none,E) (fun k=>by simp [qsc])
  ⟨rfl,rfl,rfl,by simp [qb6,qay,qb2,qaf,qac],fit_cp rfl ⟨rfl,rfl⟩ rfl rfl⟩ ?_)
 rintro ⟨rem,cur,L⟩ hm B hB
 simp only at hm ⊢
 refine qah ?_
 refine qwk qa1 rfl rfl rfl rfl rfl ?_ ?_
 ·intro h0
  refine ⟨_,rfl,?_⟩
  simp [zS]
  have hrem:rem=[]:=by cases rem with
   | nil=>rfl
   | cons p r=>simp [qbf] at h0
  subst hrem
  repeat apply wq
  refine qal rfl ?_
  refine qat ?_
  simp
  refine ⟨[],rfl,.tup [],⟨4,[[(1,mC L),(0,.cells [qa5 t])]]⟩,?_⟩
  have hL:∀ k,k∈L↔k∈E∨k∈S:=fun k=>by
   have:=hm k
   simpa using this
  refine ⟨⟨rfl,L,rfl,hL⟩,[(1,1),(0,0)],[],?_,fit_ce rfl rfl⟩
  exact qbb rfl
 ·intro l e q h
  obtain ⟨A,p,C,rfl,rfl,rfl,rfl⟩:=splitC h
  refine ⟨_,_,rfl,rfl,?_⟩
  simp [zS]
  repeat apply wq
  refine qai rfl ?_
  refine qa7 ?_
  simp
  refine qa9 ?_
  obtain ⟨k,u⟩:=p
  obtain ⟨L',hL1,hL2⟩:=qrd (k:=k) L
  have hup:=mapI1.update (M:=qsc L) (b:=1) (H:=⟨4,[[(3,.rng (qbf qbw qp2 A++qbf qbw qp2 C) (some (qbw k,qp2 u))),(1,mC L),(0,.cells [qa5 t])]]⟩) rfl k u
  rw [show u=() from rfl,hL1] at hup
  repeat apply wq
  refine qa0 qa1 ?_
  simp [zS,qyd,qy8,enV,qqd]
  refine qa0 qa1 ?_
  simp [zS,hup]
  refine hB _ (A++C,some (k,u),L') (by simp) (fun x=>?_) ⟨[(3,3),(1,1),(0,0)],[],rfl,rfl,rfl,by simp [qb6,qay,qb2,qaf,qac],?_⟩
  ·rw [← hm x,hL2 x]
   simp only [List.mem_append,List.mem_cons,Prod.mk.injEq]
   constructor
   ·rintro ((h | rfl) | ⟨v,h | h⟩)
    ·exact .inl h
    ·exact .inr ⟨u,.inr (.inl ⟨rfl,trivial⟩)⟩
    ·exact .inr ⟨v,.inl h⟩
    ·exact .inr ⟨v,.inr (.inr h)⟩
   ·rintro (h | ⟨v,h | ⟨h,_⟩ | h⟩)
    ·exact .inl (.inl h)
    ·exact .inr ⟨v,.inl h⟩
    ·exact .inl (.inr h)
    ·exact .inr ⟨v,.inr h⟩
  ·have e:qbf qbw qp2 A++qbf qbw qp2 C=qbf qbw qp2 (A++C):=by simp [qbf]
   rw [← e]
   exact fit_cp rfl ⟨rfl,rfl⟩ rfl rfl
def isB (t:Tr) (i:Int):Bool:=decide (0≤i) && decide (i < (t.length:Int))
theorem th_tree (H:Heap) (t:Tr):qej H [7] (qam t)=some (qam t):=qar (by simp)
@[simp] theorem szT36:qc7 Tryz.prog 36=some 1:=rfl
@[simp] theorem agT36:qgs Tryz.prog 36=some false:=rfl
@[simp] theorem byT36:qce Tryz.prog 36=some 8:=rfl
@[simp] theorem alT36 (H:Heap):alV Tryz.prog H 36=some (.ptr H.n 0,H.new (.cells [.nilP])):=rfl
@[simp] theorem zeT36:qbt Tryz.prog 36=some (.nilP):=rfl
attribute [simp] Tryz.underlying36
@[simp 500] theorem rvF36 (H:Heap) (cs:List AV) (o:Nat):qb5 Tryz.prog H 36 (.fptr cs o)=qcl cs o:=rfl
@[simp 500] theorem rvP36 (H:Heap) (b o:Nat):qb5 Tryz.prog H 36 (.ptr b o)=(H.get b).bind fun k=>k.rd.bind fun cs=>qcl cs o:=rfl
@[simp] theorem szT55:qc7 Tryz.prog 55=some 1:=rfl
@[simp] theorem agT55:qgs Tryz.prog 55=some false:=rfl
@[simp] theorem byT55:qce Tryz.prog 55=some 8:=rfl
@[simp] theorem alT55 (H:Heap):alV Tryz.prog H 55=some (.ptr H.n 0,H.new (.cells [.nilP])):=rfl
@[simp] theorem zeT55:qbt Tryz.prog 55=some (.nilP):=rfl
attribute [simp] Tryz.underlying55
@[simp 500] theorem rvF55 (H:Heap) (cs:List AV) (o:Nat):qb5 Tryz.prog H 55 (.fptr cs o)=qcl cs o:=rfl
@[simp 500] theorem rvP55 (H:Heap) (b o:Nat):qb5 Tryz.prog H 55 (.ptr b o)=(H.get b).bind fun k=>k.rd.bind fun cs=>qcl cs o:=rfl
theorem qrv (L:List At1):Elems 2 (L.map qem):=.map (sz:=2) (f:=qem) (by decide) (fun x=>⟨rfl,by simp [qem,AV.cells,qac,qaf],fun h=>absurd h (by decide),fun _=>⟨_,rfl⟩⟩) L
theorem qec (L:List Nd):Elems 7 (L.map qaj):=.map (sz:=7) (f:=qaj) (by decide) (fun x=>⟨rfl,by simp [qaj,Nd.cs,AV.cells,qac,qaf,qbw,qb7],fun h=>absurd h (by decide),fun _=>⟨_,rfl⟩⟩) L
theorem qnl:∀ (L:List At1),allSingle (qan (L.map qem))=true
 | []=>rfl
 | a::r=>by simp only [List.map_cons,qan,qdr,qnl r];rfl
def fresh (nd:Nd):Nd:={ nd with up:=-1,kids:=[] }
theorem qnp {b:Nat} {k:Blk}:∀ {f:List (Nat × Blk)},getF b f=none→setF b k f=none
 | [],_=>rfl
 | x::r,h=>by
  unfold getF at h
  unfold setF
  cases hx:Nat.beq x.1 b with
  | true=>rw [hx] at h;cases h
  | false=>
   rw [hx] at h
   simp only at h ⊢
   rw [qnp h]
   rfl
mutual
theorem zd7 {σ:List (Nat × Nat)} {Φ:List (Nat × List AV)}:∀ (a b:AV),qay σ [] a b→qay σ Φ a b
 | .undef,b,h=>by cases b <;> simp_all [qay,qc1]
 | .bool _,b,h=>by cases b <;> simp_all [qay,qc1]
 | .int _ _,b,h=>by cases b <;> simp_all [qay,qc1]
 | .float _ _,b,h=>by cases b <;> simp_all [qay,qc1]
 | .cplx _ _ _,b,h=>by cases b <;> simp_all [qay,qc1]
 | .str _,b,h=>by cases b <;> simp_all [qay,qc1]
 | .nilP,b,h=>by cases b <;> simp_all [qay,qc1]
 | .ptr _ _,b,h=>by cases b <;> simp_all [qay,qc1]
 | .fptr _ _,b,h=>by cases b <;> simp_all [qay,qc1]
 | .nilS,b,h=>by cases b <;> simp_all [qay,qc1]
 | .eslc,b,h=>by cases b <;> simp_all [qay,qc1]
 | .zslc,b,h=>by cases b <;> simp_all [qay,qc1]
 | .slc _ _ _ _,b,h=>by cases b <;> simp_all [qay,qc1]
 | .fslc _ _,b,h=>by cases b <;> simp_all [qay,qc1]
 | .xslc _ _,b,h=>by cases b <;> simp_all [qay,qc1]
 | .nilM,b,h=>by cases b <;> simp_all [qay,qc1]
 | .map _,b,h=>by cases b <;> simp_all [qay,qc1]
 | .nilF,b,h=>by cases b <;> simp_all [qay,qc1]
 | .nilI,b,h=>by cases b <;> simp_all [qay,qc1]
 | .iface _ _,b,h=>by cases b <;> simp_all [qay,qc1]
 | .yld _,b,h=>by cases b <;> simp_all [qay,qc1]
 | .zptr _ _,b,h=>by cases b <;> simp_all [qay,qc1]
 | .val _,b,h=>by cases b <;> simp_all [qay,qc1]
 | .agg xs,b,h=>by
  cases b with
  | agg ys=>
   simp only [qay] at h ⊢
   exact h.imp (qik xs ys) id
  | undef=>simp [qay]
  | _=>simp [qay] at h
 | .tup xs,b,h=>by
  cases b with
  | tup ys=>
   simp only [qay] at h ⊢
   exact h.imp (qik xs ys) id
  | undef=>simp [qay]
  | _=>simp [qay] at h
 | .func f x y,b,h=>by
  cases b with
  | func f' x' y'=>
   simp only [qay] at h ⊢
   exact h.imp (fun ⟨h1,h2,h3⟩=>⟨h1,qik x x' h2,qik y y' h3⟩) id
  | undef=>simp [qay]
  | _=>simp [qay] at h
theorem qik {σ:List (Nat × Nat)} {Φ:List (Nat × List AV)}:∀ (a b:List AV),qb6 σ [] a b→qb6 σ Φ a b
 | [],b,h=>by simpa [qb6] using h
 | x::r,[],h=>by simp [qb6] at h
 | x::r,y::s,h=>by
  simp only [qb6] at h ⊢
  exact ⟨zd7 x y h.1,qik r s h.2⟩
end
section
variable {m n pb k sz:Nat} {pre post es:List AV} {g f:List (Nat × Blk)}
end
end Go.Proofs.YtgpjifeeneeiaaaGreatDoor