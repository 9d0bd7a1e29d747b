/- Attributes: the document's code. No condition. -/
import Derived.Test.YtgpjifeeneeiaaaGreatDoorMP
namespace Go.Proofs.YtgpjifeeneeiaaaGreatDoor
set_option linter.unusedSimpArgs false
set_option linter.unusedVariables false
open Go Go.RowKit
set_option maxRecDepth 100000
theorem FitH.fsV {n:Nat} {σ:List (Nat × Nat)} {Φ:List (Nat × List AV)} {H:Heap} {m:Nat} {f g:List (List (Nat × Blk))} (h:FitH n σ Φ H ⟨m,f⟩) (e:f.flatten=g.flatten):FitH n σ Φ H ⟨m,g⟩ where
 nd1:=h.nd1
 nd2:=h.nd2
 nd3:=by have:=h.nd3;simp only [Heap.ents] at this ⊢;rw [← e];exact this
 lt:=h.lt
 idn:=h.idn
 num:=h.num
 src:=by have:=h.src;simp only [Heap.ents] at this ⊢;rw [← e];exact this
 frz:=h.frz
def qlb (s:Str):AV:=.fslc 1 (qb0 s)
theorem qqk:∀ (s:Str),qdt 1 (qb0 s)=true
 | []=>rfl
 | c::r=>by simp [qb0,qdt,qqk r]
theorem qly:∀ (s:Str),qan (qb0 s)=qb0 s
 | []=>rfl
 | c::r=>by simp [qb0,qan,qly r]
theorem qzr {σ:List (Nat × Nat)} {Φ:List (Nat × List AV)} {b:Nat} {s:Str} {cap:Cap} (h:qc1 b Φ=some (qb0 s)):qay σ Φ (.slc b 0 s.length cap) (qlb s):=by
 simp only [qay,qlb]
 refine .inl ⟨qb0 s,h,?_,ql8 s,qqk s⟩
 have:=qdx (qb0 s)
 rw [ql8] at this
 simp only [qeu,List.drop_zero,Nat.mul_one,this,qly]
theorem qnu (s:Str):qaf (qlb s)=true:=by simp [qlb,qaf,qly,qfr]
theorem atBy {s:Str} {i:Nat} (h:i < s.length):qb1 Tryz.prog 100 (qlb s) (.int .i64 (i:Int))=some (.fptr [.int .u8 s[i].toNat] 0):=by
 have hb:i < (qb0 s).length:=by rw [ql8];exact h
 simp [qb1,qlb,qc0 hb,qd6 h,AV.cells]
def qf1 (sp:Int):List Str:=if sp=1 then [[118,105,101,119,66,111,120],lsB7,[103,114,97,100,105,101,110,116,85,110,105,116,115]] else if sp=2 then [[100,101,102,105,110,105,116,105,111,110,85,82,76]] else []
theorem spel_len (sp:Int):(qf1 sp).length≤3:=by
 unfold qf1
 split
 ·exact Nat.le_refl 3
 split
 ·exact (by decide:1≤3)
 ·exact Nat.zero_le _
theorem c87 {T:List (Entry Tryz.prog)} (sp:Int):CallAt (ctx T) 87 [.int .i64 sp] ⟨0,[]⟩ (qc5 (qf1 sp)) ⟨0,[]⟩:=by
 by_cases h1:sp=1
 ·refine qa3 (fn:=Tryz.f87) (s0:=⟨[0,2,3],[.int .i64 sp,.undef,.undef],[],10,⟨0,[[]]⟩⟩) Tryz.func87 rfl rfl rfl ?_
  (repeat' (first
   | with_reducible refine qah ?_
   | with_reducible refine qa9 ?_
   | (with_reducible refine qa0 qa1 ?_;apply qbn;simp [zS, *];exact rfl)
   | (with_reducible refine qas ?_;simp only [qaa,qa2])
   | (refine qai rfl ?_)
   | (with_reducible refine qa8 ?_;simp [qab,Tryz.f87,oneOr,qaa,qa2])))
  all_goals first | (skip) | (exfalso;omega)
  simp [qf1,h1]
  exact qqe rfl (by simp [qan]) (by simp [qac,qaf]) rfl (by simp [qdt]) rfl
 ·by_cases h2:sp=2
  ·refine qa3 (fn:=Tryz.f87) (s0:=⟨[0,2,3],[.int .i64 sp,.undef,.undef],[],10,⟨0,[[]]⟩⟩) Tryz.func87 rfl rfl rfl ?_
   (repeat' (first
    | with_reducible refine qah ?_
    | with_reducible refine qa9 ?_
    | (with_reducible refine qa0 qa1 ?_;apply qbn;simp [zS, *];exact rfl)
    | (with_reducible refine qas ?_;simp only [qaa,qa2])
    | (refine qai rfl ?_)
    | (refine qal rfl ?_)
    | (with_reducible refine qa8 ?_;simp [qab,Tryz.f87,oneOr,qaa,qa2])))
   all_goals first | (skip) | (exfalso;omega)
   simp [qf1,h2]
   exact qqe rfl (by simp [qan]) (by simp [qac,qaf]) rfl (by simp [qdt]) rfl
  ·refine qa3 (fn:=Tryz.f87) (s0:=⟨[0,2,3],[.int .i64 sp,.undef,.undef],[],10,⟨0,[[]]⟩⟩) Tryz.func87 rfl rfl rfl ?_
   (repeat' (first
    | with_reducible refine qah ?_
    | with_reducible refine qa9 ?_
    | (with_reducible refine qa0 qa1 ?_;apply qbn;simp [zS, *];exact rfl)
    | (with_reducible refine qas ?_;simp only [qaa,qa2])
    | (refine qal rfl ?_)
    | (with_reducible refine qa7 ?_;simp only [qaa,qa2])
    | (with_reducible refine qa8 ?_;simp [qab,Tryz.f87,oneOr,qaa,qa2])))
   all_goals first | (skip) | (exfalso;omega)
   simp [qf1,h1,h2]
   exact ends_nil
theorem inj_87 (x y:Int) (h:(fun z:Int=>([.int .i64 z]:List AV)) x=(fun z:Int=>([.int .i64 z]:List AV)) y):x=y:=by
 simp only [List.cons.injEq,and_true] at h
 exact AV.int.inj h |>.2
noncomputable def e87:Entry Tryz.prog:=mkE 87 [[]] (fun z:Int=>[.int .i64 z]) (fun z=>True) (fun z=>qc5 (qf1 z)) fun z h=>c87 (T:=[])  z 
theorem k87 {T:List (Entry Tryz.prog)} (hT:qag 87 T=some e87.g) (sp:Int) (H:Heap):qb9 (ctx T) (.fn 87) [.int .i64 sp] H=some (qc5 (qf1 sp),H):=
 qdd hT inj_87 (sp) trivial (by simp [qac,qaf,qar]) (by simp [qar]) H
theorem c89 {T:List (Entry Tryz.prog)} (hL:qag 90 T=some e90.g) (x s:Str) (hx:x.length≤1000000):CallAt (ctx T) 89 [.str x,.fptr [.str s] 0] ⟨0,[]⟩ (.bool (decide (qer x=s))) ⟨0,[]⟩:=by
 have kl:=fun H=>k90 hL hx H
 refine qa3 (fn:=Tryz.f89) (s0:=⟨[0,1,3],[.str x,.fptr [.str s] 0,.undef],[],8,⟨0,[[]]⟩⟩) Tryz.func89 rfl rfl rfl ?_
 repeat apply wq
 refine qa0 qa1 ?_
 simp [zS]
 repeat apply wq
 refine zad qci qa1 (by decide +kernel) rfl fun B_ hB_=>?_
 have hD_:ahead B_ 1 2=false∧ahead B_ 2 1=false:=by rw [hB_];decide +kernel
 simp [zS,qdg,qbz,qby,qb4,qb3,qcb,Heap.lay,qdp,zde,zdd,qkq,zal,actA_s,layA_s,zcr,zcs,clsA_l,clsA_a,clsA_p,clsA_r,offA_a,offA_l,offA_p,offA_r,hD_,kl]
 refine ⟨_,_,⟨rfl,rfl⟩,?_⟩
 simp [qcb,Heap.lay,qdp,qaa]
 refine qa8 ?_
 simp [qab,Tryz.f89,oneOr,qaa,qa2]
 exact qa4 rfl (by rfl)
abbrev qo9:Str:=[48,49,50,51,52,53,54,55,56,57,45,95,58]
def okCh (i:Nat) (c:UInt8):Bool:=(decide (97≤(c.toNat:Int)) && decide ((c.toNat:Int)≤122)) || (decide (0 < (i:Int)) && decide (0≤Lib.indexByte qo9 c))
def qir:Str→Nat→Bool
 | [],_=>true
 | c::r,i=>okCh i c && qir r (i+1)
def qvc (L:List Str) (s:Str):Bool:=L.any fun x=>decide (qer x=s)
def qmk (sp:Int) (s:Str):Bool:=decide (s∈qf1 sp) || (!(decide (s=[]) || qvc (qf1 sp) s) && qir s 0)
theorem c52 {T:List (Entry Tryz.prog)} (hc0:qag 87 T=some e87.g) (hc1:qag 116 T=some e116.g) (hc2:qag 90 T=some e90.g) (hc3:qag 91 T=some e91.g) (sp:Int) (s:Str) (hs:s.length≤1000000):CallAt (ctx T) 52 [.int .i64 sp,.str s] ⟨0,[]⟩ (.bool (qmk sp s)) ⟨0,[]⟩:=by
 have kc0:=@k87 T hc0
 have kc1:=@k116 T hc1
 have kc2:=@k90 T hc2
 have kc3:=@k91 T hc3
 have k0:=fun H=>kc0 sp H
 have k3:=fun c H=>kc3 qo9 c H
 have hsl:=spel_len sp
 have hml:∀ x,x∈qf1 sp→x.length≤1000000:=by
  unfold qf1
  intro x hx
  split at hx
  ·simp at hx;rcases hx with rfl | rfl | rfl <;> decide
  ·split at hx
   ·simp at hx;subst hx;decide
   ·cases hx
 have hC:=c79 hc1 (qf1 sp) s (by omega)
 have hF:=c88 (T:=T) (qf1 sp) (by omega) 89 [.fptr [.str s] 0] rfl (fun x=>decide (qer x=s)) (fun x hx=>c89 hc2 x s (hml x hx))
 have hF2:=CallAt.thaw hF rfl [[1],[]] (H:=⟨1,[[(0,.cells [.str s])]]⟩) (args:=[qc5 (qf1 sp),.func (.func 89) [] [.ptr 0 0]]) (by simp [qar,okV,qaf,qac,qne (H:=⟨1,[[(0,.cells [.str s])]]⟩) (b:=0) (cs:=[.str s]) rfl rfl])
 have el:(qf1 sp).any (fun x=>decide (qer x=s))=qvc (qf1 sp) s:=rfl
 rw [el] at hF2
 have hpu:qac [qc5 (qf1 sp),.str s]=true:=by simp [qac,qaf]
 unfold qmk
 clear hF el hml hsl kc0 kc1 kc2 kc3
 generalize qvc (qf1 sp) s=lb at *
 generalize decide (s∈qf1 sp)=db at *
 generalize qf1 sp=l at *
 have cb:qi4 Tryz.prog ⟨1,[[(0,.cells [.str s])]]⟩ 9 100 (.str s)=some (.slc 1 0 s.length (.rest 1),⟨2,[[(1,.cells (qb0 s)),(0,.cells [.str s])]]⟩):=by
  have hr:qct s.length 1=true:=by simp [qct];omega
  simp [qi4,hr,Heap.new,pushF]
 have ls:∀ H,qe3 Tryz.prog H 100 (.slc 1 0 s.length (.rest 1))=some s.length:=fun H=>rfl
 refine qa3 (fn:=Tryz.f52) (s0:=⟨[0,1,3,4,5,6,7,21,22,23],[.int .i64 sp,.str s,.undef,.undef,.undef,.undef,.undef,.undef,.undef,.undef],[],44,⟨0,[[]]⟩⟩) Tryz.func52 rfl rfl rfl ?_
 repeat apply wq
 refine qa0 qa1 ?_
 simp [zS]
 repeat apply wq
 refine qa0 qa1 ?_
 simp [zS,k0]
 repeat apply wq
 refine qa0 (qhs [⟨79,_,_,hpu,hC⟩]) ?_
 simp [zS,qmo]
 cases db with
 | true=>
  refine qai rfl ?_
  repeat apply wq
  refine qa0 qa1 ?_
  simp [zS]
  refine qa8 ?_
  simp [qab,Tryz.f52,oneOr,qaa,qa2]
  exact qa4 rfl (by rfl)
 | false=>
  refine qal rfl ?_
  refine qa7 ?_
  simp
  repeat apply wq
  refine qa0 (qca [⟨88,_,_,_,_,hF2⟩]) ?_
  by_cases he:s=[]
  ·simp [zS,qdb,he]
   refine qai rfl ?_
   repeat apply wq
   refine qa0 qa1 ?_
   simp [zS]
   refine qa8 ?_
   simp [qab,Tryz.f52,oneOr,qaa,qa2]
   exact qa4 rfl (by simp)
  ·cases lb with
   | true=>
    simp [zS,qdb,he]
    refine qai rfl ?_
    repeat apply wq
    refine qa0 qa1 ?_
    simp [zS]
    refine qa8 ?_
    simp [qab,Tryz.f52,oneOr,qaa,qa2]
    exact qa4 rfl (by simp)
   | false=>
    simp [zS,qdb,he]
    refine qal rfl ?_
    refine qa7 ?_
    simp
    repeat apply wq
    refine qa0 qa1 ?_
    simp [zS,cb,ls]
    refine qa9 (qax (fun i:Nat=>(⟨[0,1,3,4,5,6,7,21,22,23],[.int .i64 sp,.str s,.fptr [.str s] 0,.bool false,qc5 l,.undef,.undef,qlb s,.int .i64 (s.length:Nat),.int .i64 (i:Int)],[],44,⟨0,[[]]⟩⟩ : St))
     (fun i=>i≤s.length∧qir s 0=qir (s.drop i) i) (fun i=>s.length - i) [] [(1,qb0 s),(0,[.str s])] 0 ⟨Nat.zero_le _,rfl⟩ ⟨rfl,rfl,rfl,?_,?_⟩ ?_)
    ·simp [qb6,qzr,qc1,qaf,qac]
     simp [qay,qc1,qac,qaf]
    ·refine FitH.fsV (.froze (by simp) fun x hx=>?_) rfl
     simp at hx
     rcases hx with rfl | rfl
     ·exact ⟨qb0 s,by simp [Heap.get,getFs,getF],qak (qfr s),qfr s⟩
     ·exact ⟨[.str s],by simp [Heap.get,getFs,getF],qak rfl,rfl⟩
    rintro i ⟨hi,hx⟩ B hB
    clear hC hF2 cb ls k0
    repeat apply wq
    refine qa0 qa1 ?_
    simp [zS]
    repeat apply wq
    refine qau rfl (fun h=>?_) fun h=>?_
    ·simp at h
     have hix:=atBy h
     rw [List.drop_eq_getElem_cons h] at hx
     simp only [qir] at hx
     have ha:=qba (show i≤1000000000 by omega)
     have w1:wr .i64 1=some 1:=rfl
     have hfit:(∃ σ Φ,Fit 0 σ Φ (⟨[0,1,3,4,5,6,7,21,22,23],[.int .i64 sp,.str s,.fptr [.str s] 0,.bool false,qc5 l,.undef,.undef,qlb s,.int .i64 (s.length:Nat),.int .i64 ((i+1:Nat):Int)],[],44,⟨0,[[]]⟩⟩ : St) (⟨[0,1,3,4,5,6,7,21,22,23],[.int .i64 sp,.str s,.fptr [.str s] 0,.bool false,qc5 l,.undef,.undef,qlb s,.int .i64 (s.length:Nat),.int .i64 ((i+1:Nat):Int)],[],44,⟨0,[[]]⟩⟩ : St)):=⟨[],[],⟨rfl,rfl,rfl,by simp [qb6,qay,qaf,qac,qnu],FitH.nothing⟩⟩
     unfold okCh at hx
     generalize s[i]=c at *
     have k3c:=fun H=>k3 c H
     clear k3
     generalize Lib.indexByte qo9 c=ib at *
     refine qa7 ?_
     simp only [qaa,qa2]
     (repeat' (first
      | with_reducible refine qah ?_
      | with_reducible refine qa9 ?_
      | (with_reducible refine qa0 qa1 ?_;apply qbn;simp [zS, *];exact rfl)
      | (with_reducible refine qas ?_;simp only [qaa,qa2])
      | (with_reducible refine qaz (fun hc=>?_) (fun hc=>?_) <;> ((have hd:=hc);(try simp at hd);(try subst hd);apply qbn;simp [zS, *];exact rfl))
      | (with_reducible refine qj3 (fun hc=>?_) (fun hc=>?_) <;> ((have hd:=hc);(try simp at hd);(try subst hd);apply qbn;simp [zS, *];exact rfl))
      | (refine qai rfl ?_)
      | (refine qal rfl ?_)
      | (refine qau rfl (fun hc=>?_) (fun hc=>?_) <;> ((have hd:=hc);(try simp at hd);(try subst hd)))
      | (with_reducible refine qa7 ?_;simp only [qaa,qa2])
      | (with_reducible refine qat ?_;simp [qaa,qa2])
      | (with_reducible refine qa8 ?_;simp [qab,Tryz.f52,oneOr,qaa,qa2])))
     all_goals first | exact qa4 rfl (by rw [hx];simp [*]) | (exact hB _ (i+1) (by omega) ⟨by omega,by rw [hx];simp [*]⟩ ⟨[],[],⟨rfl,rfl,rfl,by simp [qb6,qay,qaf,qac,qnu],FitH.nothing⟩⟩) | (exfalso;omega)
    ·simp at h
     refine qat ?_
     simp
     repeat apply wq
     refine qa0 qa1 ?_
     simp [zS]
     refine qa8 ?_
     simp [qab,Tryz.f52,oneOr,qaa,qa2]
     exact qa4 rfl (by rw [hx,List.drop_eq_nil_of_le h];simp [qir,he])
theorem inj_52 (x y:Int × Str) (h:(fun z:Int × Str=>([.int .i64 z.1,.str z.2]:List AV)) x=(fun z:Int × Str=>([.int .i64 z.1,.str z.2]:List AV)) y):x=y:=by
 obtain ⟨x0,x1⟩:=x
 obtain ⟨y0,y1⟩:=y
 simp only [List.cons.injEq,and_true] at h
 obtain ⟨h0,h1⟩:=h
 have g0:x0=y0:=AV.int.inj h0 |>.2
 have g1:x1=y1:=AV.str.inj h1
 subst g0 g1
 rfl
noncomputable def e52:Entry Tryz.prog:=mkE 52 [[],[]] (fun z:Int × Str=>[.int .i64 z.1,.str z.2]) (fun z=>(z.2.length≤1000000)) (fun z=>.bool (qmk z.1 z.2)) fun z h=>c52 (T:=[e87,e116,e90,e91]) rfl rfl rfl rfl z.1 z.2 h
theorem k52 {T:List (Entry Tryz.prog)} (hT:qag 52 T=some e52.g) (sp:Int) (s:Str) (hs:s.length≤1000000) (H:Heap):qb9 (ctx T) (.fn 52) [.int .i64 sp,.str s] H=some (.bool (qmk sp s),H):=
 qae hT inj_52 (sp,s) hs rfl (by simp [qar])
@[simp] theorem szT69:qc7 Tryz.prog 69=some 1:=rfl
@[simp] theorem agT69:qgs Tryz.prog 69=some false:=rfl
@[simp] theorem byT69:qce Tryz.prog 69=some 8:=rfl
@[simp] theorem alT69 (H:Heap):alV Tryz.prog H 69=some (.ptr H.n 0,H.new (.cells [.nilM])):=rfl
@[simp] theorem zeT69:qbt Tryz.prog 69=some (.nilM):=rfl
attribute [simp] Tryz.underlying69
@[simp 500] theorem rvF69 (H:Heap) (cs:List AV) (o:Nat):qb5 Tryz.prog H 69 (.fptr cs o)=qcl cs o:=rfl
@[simp 500] theorem rvP69 (H:Heap) (b o:Nat):qb5 Tryz.prog H 69 (.ptr b o)=(H.get b).bind fun k=>k.rd.bind fun cs=>qcl cs o:=rfl
def qi1 (_:Unit):AV:=.int .i64 1
def mapSV:MapT Tryz.prog 69 AV.str qi1 where
 tk:=9
 te:=3
 kd:=_
 hu:=Tryz.underlying69
 hk:=Tryz.underlying9
 eq:=fun a b=>by
  show some (eqB a b)=_
  rw [qin]
 pure:=fun a v=>rfl
def qf7 (L:List Str):List (Str × Unit):=L.map fun s=>(s,())
theorem qol {x:Str}:∀ {L:List Str},qj7 x (qf7 L)=if x∈L then some () else none
 | []=>rfl
 | y::r=>by
  unfold qf7
  rw [List.map_cons]
  unfold qj7
  by_cases h:y=x
  ·simp [h]
  ·have h2:¬ x=y:=fun e=>h e.symm
   have:=qol (x:=x) (L:=r)
   unfold qf7 at this
   simp [h,h2,this]
theorem set_keys {x:Str} {L:List Str} (h:x ∉ L):qsr x () (qf7 L)=qf7 (L++[x]):=by
 have hi:qll x (qf7 L)=none:=by
  cases hq:qll x (qf7 L) with
  | none=>rfl
  | some i=>
   obtain ⟨h1,h2,h3⟩:=qn0 hq
   rw [qol,if_neg h] at h3
   cases h3
 rw [qqz hi]
 simp [qf7]
theorem zd8 (σ:List (Nat × Nat)) (Φ:List (Nat × List AV)) (S:List Str):qi0 σ Φ (.map (qbf AV.str qi1 (qf7 S))) (.map (qbf AV.str qi1 (qf7 S))):=by
 have e1:(qbf AV.str qi1 (qf7 S)).map (·.1)=S.map AV.str:=by simp [qbf,qf7,Function.comp_def]
 have e2:(qbf AV.str qi1 (qf7 S)).map (·.2)=S.map fun _=>AV.int .i64 1:=by simp [qbf,qf7,Function.comp_def,qi1]
 have p1:qac ((qbf AV.str qi1 (qf7 S)).map (·.1))=true:=by
  rw [e1]
  clear e1 e2
  induction S with
  | nil=>rfl
  | cons a r ih=>simp only [List.map_cons,qac,qaf,Bool.true_and];exact ih
 have p2:qac ((qbf AV.str qi1 (qf7 S)).map (·.2))=true:=by
  rw [e2]
  clear e1 e2 p1
  induction S with
  | nil=>rfl
  | cons a r ih=>simp only [List.map_cons,qac,qaf,Bool.true_and];exact ih
 exact ⟨qak p1,qak p2⟩
def attG (sp:Int):List Str→List At1→Bool
 | _,[]=>true
 | S,a::r=>!decide (a.1∈S) && qmk sp a.1 && qg4 a.2 && attG sp (S++[a.1]) r
def qfg (n:Nd):Bool:=attG n.space [] n.attrs
def qco (L:List At1):List Str:=L.map (·.1)
theorem c19 {T:List (Entry Tryz.prog)} (hc0:qag 52 T=some e52.g) (hc1:qag 45 T=some e45.g) (n:Nd) (h:okN n):CallAt (ctx T) 19 [qaj n] ⟨0,[]⟩ (.bool (qfg n)) ⟨0,[]⟩:=by
 have kc0:=@k52 T hc0
 have kc1:=@k45 T hc1
 have zi:qbt Tryz.prog (mapSV).te=some (.int .i64 0):=rfl
 obtain ⟨sp,hsp⟩ : ∃ sp,sp=n.space:=⟨_,rfl⟩
 refine qa3 (fn:=Tryz.f19) (s0:=⟨[0,1,2,3,5,8,9,10],[qaj n,.undef,.undef,.undef,.undef,.undef,.undef,.undef],[],37,⟨0,[[]]⟩⟩) Tryz.func19 rfl rfl rfl ?_
 repeat apply wq
 refine qa0 qa1 ?_
 simp [zS,qao]
 repeat apply wq
 refine qa0 qa1 ?_
 simp [zS]
 repeat apply wq
 refine qa0 qa1 ?_
 simp [zS,qfo]
 refine qa9 (qax (fun i:Nat=>(⟨[0,1,2,3,5,8,9,10],[qaj n,.fptr n.cs 0,.bool false,.map 0,.undef,qb7 n.attrs,.int .i64 (n.attrs.length:Nat),.int .i64 (i:Int)],[],37,⟨1,[[(0,.map (qbf AV.str qi1 (qf7 (qco (n.attrs.take i)))))]]⟩⟩ : St))
  (fun i=>i≤n.attrs.length∧qfg n=attG n.space (qco (n.attrs.take i)) (n.attrs.drop i)) (fun i=>n.attrs.length - i) [(1,0)] [(0,n.cs)] 0 ⟨Nat.zero_le _,by simp [qfg,qco]⟩ ⟨rfl,rfl,rfl,?_,?_⟩ ?_)
 ·simp [qb6,qay,qb2,qc1,qaf,qac]
 ·exact {
   nd1:=by simp
   nd2:=by simp
   nd3:=by simp [Heap.ents]
   lt:=by simp
   idn:=by simp
   num:=by simp
   src:=fun e he=>by
    simp [Heap.ents] at he
    subst he
    exact ⟨1,.map [],by simp,by simp [Heap.get,getFs,getF],by simp [qi0,qb6,qbf,qf7,qco]⟩
   frz:=fun x hx=>by
    simp at hx
    subst hx
    exact ⟨n.cs,by simp [Heap.get,getFs,getF],qak (qev n),qev n⟩ }
 rintro i ⟨hi,hx⟩ B hB
 repeat apply wq
 refine qa0 qa1 ?_
 simp [zS]
 repeat apply wq
 refine qau rfl (fun h2=>?_) fun h2=>?_
 ·simp at h2
  have hix:=atA h2
  rw [List.drop_eq_getElem_cons h2] at hx
  simp only [attG] at hx
  obtain ⟨l1,l2⟩:=h.2.2.2 _ (List.getElem_mem h2)
  have hT:qco (n.attrs.take (i+1))=qco (n.attrs.take i)++[n.attrs[i].1]:=by
   rw [List.take_succ_eq_append_getElem h2];unfold qco;rw [List.map_append];rfl
  have ha:=qba (show i≤1000000000 by have:=h.2.1;omega)
  have kn:=fun H=>kc0 n.space n.attrs[i].1 (by omega) H
  have kl:=fun H=>kc1 n.attrs[i].2 (by omega) H
  generalize n.attrs[i]=a at *
  obtain ⟨x,y⟩:=a
  simp only at hT l1 l2 kn kl hx hix
  have hlen:=h.2.1
  generalize hS:qco (n.attrs.take i)=S at *
  clear kc0 kc1 hc0 hc1 hS
  have lu:qhp Tryz.prog ⟨2,[[(1,.cells [.str x,.str y]),(0,.map (qbf AV.str qi1 (qf7 S)))]]⟩ 69 (.map 0) (.str x) false=some (.int .i64 (if x∈S then 1 else 0)):=by
   rw [mapSV.look (b:=0) (M:=qf7 S) zi (by simp [Heap.get,getFs,getF]) x,qol]
   by_cases hm:x∈S
   ·simp [hm,qi1]
   ·simp [hm]
  by_cases hm:x∈S
  ·simp only [hm,if_true,decide_true,Bool.not_true,Bool.false_and] at lu hx
   refine qa7 ?_
   simp only [qaa,qa2]
   (repeat' (first
    | with_reducible refine qah ?_
    | with_reducible refine qa9 ?_
    | (with_reducible refine qa0 qa1 ?_;apply qbn;simp [zS, *];exact rfl)
    | (with_reducible refine qas ?_;simp only [qaa,qa2])
    | (refine qai rfl ?_)
    | (with_reducible refine qa8 ?_;simp [qab,Tryz.f19,oneOr,qaa,qa2])))
   all_goals first | exact qa4 rfl (by rw [hx]) | (exfalso;omega)
  ·simp only [hm,if_false,decide_false,Bool.not_false,Bool.true_and] at lu hx
   have mu:qho Tryz.prog ⟨2,[[(1,.cells [.str x,.str y]),(0,.map (qbf AV.str qi1 (qf7 S)))]]⟩ 69 (.map 0) (.str x) (.int .i64 1)=some ⟨2,[[(1,.cells [.str x,.str y]),(0,.map (qbf AV.str qi1 (qf7 (S++[x]))))]]⟩:=by
    have:=mapSV.update (b:=0) (M:=qf7 S) (H:=⟨2,[[(1,.cells [.str x,.str y]),(0,.map (qbf AV.str qi1 (qf7 S)))]]⟩) (by simp [Heap.get,getFs,getF]) x ()
    rw [set_keys hm] at this
    rw [show AV.int .i64 1=qi1 () from rfl,this]
    simp [Heap.set,setFs,setF]
   have hfit:∀ (v:Int) (w:List (Nat × AV)),v=((i+1:Nat):Int)→Fit 0 [(0,0)] [] ⟨[0,1,2,3,5,8,9,10],[qaj n,.fptr n.cs 0,.bool false,.map 0,.ptr 1 0,qb7 n.attrs,.int .i64 (n.attrs.length:Nat),.int .i64 v],w,37,⟨2,[[(1,.cells [.str x,.str y]),(0,.map (qbf AV.str qi1 (qf7 (S++[x]))))]]⟩⟩
     (⟨[0,1,2,3,5,8,9,10],[qaj n,.fptr n.cs 0,.bool false,.map 0,.undef,qb7 n.attrs,.int .i64 (n.attrs.length:Nat),.int .i64 ((i+1:Nat):Int)],[],37,⟨1,[[(0,.map (qbf AV.str qi1 (qf7 (qco (n.attrs.take (i+1))))))]]⟩⟩ : St):=by
    rintro v w rfl
    rw [hT]
    refine ⟨rfl,rfl,rfl,by simp [qb6,qay,qb2,qc1,qaf,qac],?_⟩
    exact {
     nd1:=by simp
     nd2:=by simp
     nd3:=by simp [Heap.ents]
     lt:=by simp
     idn:=by simp
     num:=by simp
     src:=fun e he=>by
      simp [Heap.ents] at he
      subst he
      exact ⟨0,.map (qbf AV.str qi1 (qf7 (S++[x]))),by simp,by simp [Heap.get,getFs,getF],zd8 _ _ _⟩
     frz:=fun x hx=>by cases hx }
   have hnx:qmk n.space x=true→qg4 y=true→qfg n=attG n.space (qco (n.attrs.take (i+1))) (n.attrs.drop (i+1)):=fun q1 q2=>by rw [hx,hT,q1,q2];rfl
   generalize qmk n.space x=b1 at *
   generalize qg4 y=b2 at *
   refine qa7 ?_
   simp only [qaa,qa2]
   (repeat' (first
    | with_reducible refine qah ?_
    | with_reducible refine qa9 ?_
    | (with_reducible refine qa0 qa1 ?_;apply qbn;simp [zS, *];exact rfl)
    | (with_reducible refine qas ?_;simp only [qaa,qa2])
    | (with_reducible refine qaz (fun hc=>?_) (fun hc=>?_) <;> ((have hd:=hc);(try simp at hd);(try subst hd);apply qbn;simp [zS, *];exact rfl))
    | (refine qai rfl ?_)
    | (refine qau rfl (fun hc=>?_) (fun hc=>?_) <;> ((have hd:=hc);(try simp at hd);(try subst hd)))
    | (with_reducible refine qa7 ?_;simp only [qaa,qa2])
    | (with_reducible refine qa8 ?_;simp [qab,Tryz.f19,oneOr,qaa,qa2])))
   all_goals first | exact qa4 rfl (by rw [hx];simp [*]) | (exact hB _ (i+1) (by omega) ⟨by omega,hnx rfl rfl⟩ ⟨_,_,hfit _ _ (by simp)⟩) | (exfalso;omega)
 ·simp at h2
  refine qat ?_
  simp
  repeat apply wq
  refine qa0 qa1 ?_
  simp [zS]
  refine qa8 ?_
  simp [qab,Tryz.f19,oneOr,qaa,qa2]
  exact qa4 rfl (by rw [hx,List.drop_eq_nil_of_le h2];rfl)
theorem inj_19 (x y:Nd) (h:(fun z:Nd=>([qaj z]:List AV)) x=(fun z:Nd=>([qaj z]:List AV)) y):x=y:=by
 simp only [List.cons.injEq,and_true] at h
 exact qcd h
noncomputable def e19:Entry Tryz.prog:=mkE 19 [[0,0,0,2,0,0,1]] (fun z:Nd=>[qaj z]) (fun z=>(okN z)) (fun z=>.bool (qfg z)) fun z h=>c19 (T:=[e52,e45]) rfl rfl z h
theorem k19 {T:List (Entry Tryz.prog)} (hT:qag 19 T=some e19.g) (n:Nd) (h:okN n) (H:Heap):qb9 (ctx T) (.fn 19) [qaj n] H=some (.bool (qfg n),H):=
 qae hT inj_19 (n) h rfl (by simp [qar])
theorem c96 {T:List (Entry Tryz.prog)} (hc0:qag 105 T=some e105.g) (sp:Int) (x:Str):CallAt (ctx T) 96 [.int .i64 sp,.str x] ⟨0,[]⟩ (.bool (qjd sp x)) ⟨0,[]⟩:=by
 have kw0:=fun (x:Str) (H:Heap)=>k105 hc0 (w:= lsB16) x (by decide) H
 have kw1:=fun (x:Str) (H:Heap)=>k105 hc0 (w:= lsB17) x (by decide) H
 have kw2:=fun (x:Str) (H:Heap)=>k105 hc0 (w:= lsB13) x (by decide) H
 refine qa3 (fn:=Tryz.f96) (s0:=⟨[0,1,4],[.int .i64 sp,.str x,.undef],[],19,⟨0,[[]]⟩⟩) Tryz.func96 rfl rfl rfl ?_
 (repeat' (first
  | with_reducible refine qah ?_
  | (with_reducible refine qa0 qa1 ?_;apply qbn;simp [zS, *];exact rfl)
  | (with_reducible refine qas ?_;simp only [qaa,qa2])
  | (with_reducible refine qaz (fun hc=>?_) (fun hc=>?_) <;> ((have hd:=hc);(try simp at hd);(try subst hd);apply qbn;simp [zS, *];exact rfl))
  | (refine qau rfl (fun hc=>?_) (fun hc=>?_) <;> ((have hd:=hc);(try simp at hd);(try subst hd)))
  | (with_reducible refine qa7 ?_;simp only [qaa,qa2])
  | (with_reducible refine qa8 ?_;simp [qab,Tryz.f96,oneOr,qaa,qa2])))
 all_goals first | exact qa4 rfl (by first | (simp [qjd, *];done) | (simp_all [qjd];done)) | (exfalso;omega)
theorem inj_96 (x y:Int × Str) (h:(fun z:Int × Str=>([.int .i64 z.1,.str z.2]:List AV)) x=(fun z:Int × Str=>([.int .i64 z.1,.str z.2]:List AV)) y):x=y:=by
 obtain ⟨x0,x1⟩:=x
 obtain ⟨y0,y1⟩:=y
 simp only [List.cons.injEq,and_true] at h
 obtain ⟨h0,h1⟩:=h
 have g0:x0=y0:=AV.int.inj h0 |>.2
 have g1:x1=y1:=AV.str.inj h1
 subst g0 g1
 rfl
noncomputable def e96:Entry Tryz.prog:=mkE 96 [[],[]] (fun z:Int × Str=>[.int .i64 z.1,.str z.2]) (fun z=>True) (fun z=>.bool (qjd z.1 z.2)) fun z h=>c96 (T:=[e105]) rfl z.1 z.2 
theorem k96 {T:List (Entry Tryz.prog)} (hT:qag 96 T=some e96.g) (sp:Int) (x:Str) (H:Heap):qb9 (ctx T) (.fn 96) [.int .i64 sp,.str x] H=some (.bool (qjd sp x),H):=
 qae hT inj_96 (sp,x) trivial rfl (by simp [qar])
theorem c64 {T:List (Entry Tryz.prog)} (hc0:qag 105 T=some e105.g) (n:Nd) (W:Str) (hl:W.length≤900000):CallAt (ctx T) 64 [qaj n,.str W] ⟨0,[]⟩ (.bool (elB n W)) ⟨0,[]⟩:=by
 have kc0:=@k105 T hc0
 refine qa3 (fn:=Tryz.f64) (s0:=⟨[0,1,2,4],[qaj n,.str W,.undef,.undef],[],19,⟨0,[[]]⟩⟩) Tryz.func64 rfl rfl rfl ?_
 (repeat' (first
  | with_reducible refine qah ?_
  | (with_reducible refine qa0 qa1 ?_;apply qbn;simp [zS, *,qao];exact rfl)
  | (with_reducible refine qas ?_;simp only [qaa,qa2])
  | (with_reducible refine qaz (fun hc=>?_) (fun hc=>?_) <;> ((have hd:=hc);(try simp at hd);(try subst hd);apply qbn;simp [zS, *,qao];exact rfl))
  | (with_reducible refine qa8 ?_;simp [qab,Tryz.f64,oneOr,qaa,qa2])))
 all_goals first | exact qa4 rfl (by first | (simp [elB, *];done) | (simp_all [elB];done)) | (exfalso;omega)
theorem inj_64 (x y:Nd × Str) (h:(fun z:Nd × Str=>([qaj z.1,.str z.2]:List AV)) x=(fun z:Nd × Str=>([qaj z.1,.str z.2]:List AV)) y):x=y:=by
 obtain ⟨x0,x1⟩:=x
 obtain ⟨y0,y1⟩:=y
 simp only [List.cons.injEq,and_true] at h
 obtain ⟨h0,h1⟩:=h
 have g0:x0=y0:=qcd h0
 have g1:x1=y1:=AV.str.inj h1
 subst g0 g1
 rfl
noncomputable def e64:Entry Tryz.prog:=mkE 64 [[0,0,0,2,0,0,1],[]] (fun z:Nd × Str=>[qaj z.1,.str z.2]) (fun z=>(z.2.length≤900000)) (fun z=>.bool (elB z.1 z.2)) fun z h=>c64 (T:=[e105]) rfl z.1 z.2 h
theorem k64 {T:List (Entry Tryz.prog)} (hT:qag 64 T=some e64.g) (n:Nd) (W:Str) (hl:W.length≤900000) (H:Heap):qb9 (ctx T) (.fn 64) [qaj n,.str W] H=some (.bool (elB n W),H):=
 qae hT inj_64 (n,W) hl rfl (by simp [qar])
theorem c65 {T:List (Entry Tryz.prog)} (L:List Nd) (hl:L.length≤1000000):CallAt (ctx T) 65 [qa5 L] ⟨0,[]⟩ (qaj (qap L)) ⟨0,[]⟩:=by
 by_cases he:L=[]
 ·subst he
  have bld:qff Tryz.prog 31 [(0,.int .i64 1),(2,.str [100,105,118])]=some (.agg [.int .i64 1,.int .i64 0,.str [100,105,118],.nilS,.str [],.int .i64 0,.nilS]):=rfl
  have l0:∀ H,qe3 Tryz.prog H 22 (qa5 [])=some 0:=fun H=>rfl
  refine qa3 (fn:=Tryz.f65) (s0:=⟨[0,2],[qa5 [],.undef],[],13,⟨0,[[]]⟩⟩) Tryz.func65 rfl rfl rfl ?_
  repeat apply wq
  refine qa0 qa1 ?_
  simp [zS]
  repeat apply wq
  refine qa0 qa1 ?_
  simp [zS,l0]
  refine qai rfl ?_
  repeat apply wq
  refine qa0 qa1 ?_
  simp [zS,bld]
  refine qa8 ?_
  simp [qab,Tryz.f65,oneOr,readCells,Heap.get,getFs,getF,Blk.rd]
  refine ⟨[],[],?_,FitH.empty⟩
  simp [qap,qaj,Nd.cs,qbw,qbs,qb7,qay,qb6,qaf]
 ·have h:0 < L.length:=List.length_pos_iff.2 he
  have hi:¬ (L.length:Int)=0:=by omega
  have hj:¬ L.length=0:=by omega
  have hs:=qnf h (by omega)
  have ha:=atX (t:=L) (i:=((L.length - 1:Nat):Int)) (by omega) (by omega)
  have hp:qap L=qa6 L ((L.length - 1:Nat):Int):=by unfold qap;rw [if_neg he]
  rw [hp]
  refine qa3 (fn:=Tryz.f65) (s0:=⟨[0,2],[qa5 L,.undef],[],13,⟨0,[[]]⟩⟩) Tryz.func65 rfl rfl rfl ?_
  repeat apply wq
  refine qa0 qa1 ?_
  simp [zS]
  repeat apply wq
  refine qa0 qa1 ?_
  simp [zS,qfu,hi,hj,he]
  refine qal (by simp [qbq,St.get,hi,hj,he]) ?_
  refine qa7 ?_
  simp
  repeat apply wq
  refine qa0 qa1 ?_
  simp [zS,qfu,hs,ha,qao]
  refine qa8 ?_
  simp [qab,Tryz.f65,oneOr,readCells,Heap.get,getFs,getF,Blk.rd,qao]
  exact ⟨[],[],FitH.empty⟩
theorem inj_65 (x y:List Nd) (h:(fun z:List Nd=>([qa5 z]:List AV)) x=(fun z:List Nd=>([qa5 z]:List AV)) y):x=y:=by
 simp only [List.cons.injEq,and_true] at h
 exact qc4 h
noncomputable def e65:Entry Tryz.prog:=mkE 65 [[7]] (fun z:List Nd=>[qa5 z]) (fun z=>(z.length≤1000000)) (fun z=>qaj (qap z)) fun z h=>c65 (T:=[])  z h
theorem k65 {T:List (Entry Tryz.prog)} (hT:qag 65 T=some e65.g) (L:List Nd) (hl:L.length≤1000000) (H:Heap):qb9 (ctx T) (.fn 65) [qa5 L] H=some (qaj (qap L),H):=
 qdd hT inj_65 (L) hl (by simp [qac,qaf,qar]) (by simp [qar]) H
theorem qnz (p q:Nd→Bool) (L:List Nd) (j:Nat):(qsa (qok p q L) (j+1)).getD false=if p (qa6 L j)=true then true else if q (qa6 L j)=true then false else (qsa (qok p q L) j).getD false:=by
 simp only [qsa]
 unfold qok
 by_cases h1:p (qa6 L j)=true
 ·simp [h1]
 ·by_cases h2:q (qa6 L j)=true
  ·simp [h1,h2]
  ·simp [h1,h2]
theorem c128 {T:List (Entry Tryz.prog)} (hc0:qag 64 T=some e64.g) (hc1:qag 159 T=some e159.g) (L:List Nd) (W:Str) (sc:Int) (hl:L.length≤1000000) (hW:W.length≤900000):CallAt (ctx T) 128 [qa5 L,.str W,.int .i64 sc] ⟨0,[]⟩ (.bool (qdu L W sc)) ⟨0,[]⟩:=by
 have kc0:=@k64 T hc0
 have kc1:=@k159 T hc1
 obtain ⟨w,hw⟩ : ∃ w:Int,w=(L.length:Int) - 1:=⟨_,rfl⟩
 have hws:wr .i64 ((L.length:Int) - 1)=some w:=by rw [hw];exact qc6 (by omega) (by omega)
 refine qa3 (fn:=Tryz.f128) (s0:=⟨[0,1,2,6,7],[qa5 L,.str W,.int .i64 sc,.undef,.undef],[],33,⟨0,[[]]⟩⟩) Tryz.func128 rfl rfl rfl ?_
 repeat apply wq
 refine qa0 qa1 ?_
 simp [zS]
 repeat apply wq
 refine qa0 qa1 ?_
 simp [zS,qfu,hws]
 refine qa9 (qax (fun x:Nat × Int=>(⟨[0,1,2,6,7],[qa5 L,.str W,.int .i64 sc,.bool false,.int .i64 x.2],[],33,⟨0,[[]]⟩⟩ : St))
  (fun x=>x.1≤L.length∧x.2=(x.1:Int) - 1∧qdu L W sc=(qsa (qok (fun n=>elB n W) (fun n=>qge sc n.space n.name) L) x.1).getD false) (fun x=>x.1) [] [] (L.length,w) ⟨Nat.le_refl _,hw,rfl⟩ ⟨rfl,rfl,rfl,by simp [qb6,qay,qaf,qac],FitH.nothing⟩ ?_)
 rintro ⟨j,v⟩ ⟨hj,hv,hx⟩ B hB
 simp only at hj hv hx
 cases j with
 | zero=>
  have hn:¬ 0≤v:=by omega
  (repeat' (first
   | with_reducible refine qah ?_
   | (with_reducible refine qa0 qa1 ?_;apply qbn;simp [zS, *];exact rfl)
   | (with_reducible refine qas ?_;simp only [qaa,qa2])
   | (refine qal rfl ?_)
   | (with_reducible refine qat ?_;simp [qaa,qa2])
   | (with_reducible refine qa8 ?_;simp [qab,Tryz.f128,oneOr,qaa,qa2])))
  all_goals first | exact qa4 rfl (by rw [hx];rfl) | (exfalso;omega)
 | succ r=>
  have hvq:v=(r:Int):=by omega
  subst hvq
  clear hv
  have hn:(0:Int)≤(r:Int):=by omega
  have hix:=atX (t:=L) (i:=(r:Int)) (by omega) (by omega)
  have hs1:wr .i64 ((r:Int) - 1)=some ((r:Int) - 1):=qc6 (by omega) (by omega)
  rw [qnz] at hx
  have ki:=fun H=>kc0 (qa6 L (r:Int)) W hW H
  have ks:=fun H=>kc1 sc (qa6 L (r:Int)).space (qa6 L (r:Int)).name H
  clear kc0 kc1
  generalize qge sc (qa6 L (r:Int)).space (qa6 L (r:Int)).name=b2 at *
  generalize elB (qa6 L (r:Int)) W=b1 at *
  (repeat' (first
   | with_reducible refine qah ?_
   | with_reducible refine qa9 ?_
   | (with_reducible refine qa0 qa1 ?_;apply qbn;simp [zS, *,qao];exact rfl)
   | (refine qbh qci qa1 (by decide +kernel) (by decide +kernel) ?_;apply qbn;simp [zS,qbx,qbd,qb8, *,qao];exact rfl)
   | (with_reducible refine qas ?_;simp only [qaa,qa2])
   | (refine qai rfl ?_)
   | (refine qau rfl (fun hc=>?_) (fun hc=>?_) <;> ((have hd:=hc);(try simp at hd);(try subst hd)))
   | (with_reducible refine qa7 ?_;simp only [qaa,qa2])
   | (with_reducible refine qa8 ?_;simp [qab,Tryz.f128,oneOr,qaa,qa2])))
  all_goals first | exact qa4 rfl (by rw [hx];simp [*]) | (exact hB _ (r,(r:Int) - 1) (by simp) ⟨by simp only;omega,rfl,by rw [hx];simp [*]⟩ ⟨[],[],⟨rfl,rfl,rfl,by simp [qb6,qay,qaf,qac],FitH.nothing⟩⟩) | (exfalso;omega)
theorem inj_128 (x y:List Nd × Str × Int) (h:(fun z:List Nd × Str × Int=>([qa5 z.1,.str z.2.1,.int .i64 z.2.2]:List AV)) x=(fun z:List Nd × Str × Int=>([qa5 z.1,.str z.2.1,.int .i64 z.2.2]:List AV)) y):x=y:=by
 obtain ⟨x0,x1,x2⟩:=x
 obtain ⟨y0,y1,y2⟩:=y
 simp only [List.cons.injEq,and_true] at h
 obtain ⟨h0,h1,h2⟩:=h
 have g0:x0=y0:=qc4 h0
 have g1:x1=y1:=AV.str.inj h1
 have g2:x2=y2:=AV.int.inj h2 |>.2
 subst g0 g1 g2
 rfl
noncomputable def e128:Entry Tryz.prog:=mkE 128 [[7],[],[]] (fun z:List Nd × Str × Int=>[qa5 z.1,.str z.2.1,.int .i64 z.2.2]) (fun z=>(z.1.length≤1000000)∧(z.2.1.length≤900000)) (fun z=>.bool (qdu z.1 z.2.1 z.2.2)) fun z h=>c128 (T:=[e64,e159]) rfl rfl z.1 z.2.1 z.2.2 h.1 h.2
theorem k128 {T:List (Entry Tryz.prog)} (hT:qag 128 T=some e128.g) (L:List Nd) (W:Str) (sc:Int) (hl:L.length≤1000000) (hW:W.length≤900000) (H:Heap):qb9 (ctx T) (.fn 128) [qa5 L,.str W,.int .i64 sc] H=some (.bool (qdu L W sc),H):=
 qae hT inj_128 (L,W,sc) ⟨hl,hW⟩ rfl (by simp [qar])
theorem c133 {T:List (Entry Tryz.prog)} (hc0:qag 64 T=some e64.g) (hc1:qag 161 T=some e161.g) (L:List Nd) (W:Str) (hl:L.length≤1000000) (hW:W.length≤900000):CallAt (ctx T) 133 [qa5 L,.str W] ⟨0,[]⟩ (.bool (!qeb L W)) ⟨0,[]⟩:=by
 have kc0:=@k64 T hc0
 have kc1:=@k161 T hc1
 obtain ⟨w,hw⟩ : ∃ w:Int,w=(L.length:Int) - 1:=⟨_,rfl⟩
 have hws:wr .i64 ((L.length:Int) - 1)=some w:=by rw [hw];exact qc6 (by omega) (by omega)
 refine qa3 (fn:=Tryz.f133) (s0:=⟨[0,1,4,5],[qa5 L,.str W,.undef,.undef],[],38,⟨0,[[]]⟩⟩) Tryz.func133 rfl rfl rfl ?_
 repeat apply wq
 refine qa0 qa1 ?_
 simp [zS]
 repeat apply wq
 refine qa0 qa1 ?_
 simp [zS,qfu,hws]
 refine qa9 (qax (fun x:Nat × Int=>(⟨[0,1,4,5],[qa5 L,.str W,.bool false,.int .i64 x.2],[],38,⟨0,[[]]⟩⟩ : St))
  (fun x=>x.1≤L.length∧x.2=(x.1:Int) - 1∧qeb L W=(qsa (qok (fun n=>elB n W) (fun n=>qdc n.space n.name && !elB n lsAdp) L) x.1).getD false) (fun x=>x.1) [] [] (L.length,w) ⟨Nat.le_refl _,hw,rfl⟩ ⟨rfl,rfl,rfl,by simp [qb6,qay,qaf,qac],FitH.nothing⟩ ?_)
 rintro ⟨j,v⟩ ⟨hj,hv,hx⟩ B hB
 simp only at hj hv hx
 cases j with
 | zero=>
  have hn:¬ 0≤v:=by omega
  (repeat' (first
   | with_reducible refine qah ?_
   | (with_reducible refine qa0 qa1 ?_;apply qbn;simp [zS, *];exact rfl)
   | (with_reducible refine qas ?_;simp only [qaa,qa2])
   | (refine qal rfl ?_)
   | (with_reducible refine qat ?_;simp [qaa,qa2])
   | (with_reducible refine qa8 ?_;simp [qab,Tryz.f133,oneOr,qaa,qa2])))
  all_goals first | exact qa4 rfl (by rw [hx];rfl) | (exfalso;omega)
 | succ r=>
  have hvq:v=(r:Int):=by omega
  subst hvq
  clear hv
  have hn:(0:Int)≤(r:Int):=by omega
  have hix:=atX (t:=L) (i:=(r:Int)) (by omega) (by omega)
  have hs1:wr .i64 ((r:Int) - 1)=some ((r:Int) - 1):=qc6 (by omega) (by omega)
  rw [qnz] at hx
  have k1:=fun H=>kc0 (qa6 L (r:Int)) W hW H
  have k2:=fun H=>kc0 (qa6 L (r:Int)) lsAdp (by decide) H
  have k3:=fun H=>kc1 (qa6 L (r:Int)).space (qa6 L (r:Int)).name H
  clear kc0 kc1
  generalize elB (qa6 L (r:Int)) W=b1 at *
  generalize elB (qa6 L (r:Int)) lsAdp=b2 at *
  generalize qdc (qa6 L (r:Int)).space (qa6 L (r:Int)).name=b3 at *
  (repeat' (first
   | with_reducible refine qah ?_
   | with_reducible refine qa9 ?_
   | (with_reducible refine qa0 qa1 ?_;apply qbn;simp [zS, *,qao];exact rfl)
   | (refine qbh qci qa1 (by decide +kernel) (by decide +kernel) ?_;apply qbn;simp [zS,qbx,qbd,qb8, *,qao];exact rfl)
   | (with_reducible refine qas ?_;simp only [qaa,qa2])
   | (with_reducible refine qg3 (fun hc=>?_) (fun hc=>?_) <;> ((have hd:=hc);(try simp at hd);(try subst hd);apply qbn;simp [zS,qbx,qbd,qb8, *,qao];exact rfl))
   | (refine qai rfl ?_)
   | (refine qal rfl ?_)
   | (refine qau rfl (fun hc=>?_) (fun hc=>?_) <;> ((have hd:=hc);(try simp at hd);(try subst hd)))
   | (with_reducible refine qa7 ?_;simp only [qaa,qa2])
   | (with_reducible refine qa8 ?_;simp [qab,Tryz.f133,oneOr,qaa,qa2])))
  all_goals first | exact qa4 rfl (by rw [hx];simp [*]) | (exact hB _ (r,(r:Int) - 1) (by simp) ⟨by simp only;omega,rfl,by rw [hx];simp [*]⟩ ⟨[],[],⟨rfl,rfl,rfl,by simp [qb6,qay,qaf,qac],FitH.nothing⟩⟩) | (exfalso;omega)
theorem inj_133 (x y:List Nd × Str) (h:(fun z:List Nd × Str=>([qa5 z.1,.str z.2]:List AV)) x=(fun z:List Nd × Str=>([qa5 z.1,.str z.2]:List AV)) y):x=y:=by
 obtain ⟨x0,x1⟩:=x
 obtain ⟨y0,y1⟩:=y
 simp only [List.cons.injEq,and_true] at h
 obtain ⟨h0,h1⟩:=h
 have g0:x0=y0:=qc4 h0
 have g1:x1=y1:=AV.str.inj h1
 subst g0 g1
 rfl
noncomputable def e133:Entry Tryz.prog:=mkE 133 [[7],[]] (fun z:List Nd × Str=>[qa5 z.1,.str z.2]) (fun z=>(z.1.length≤1000000)∧(z.2.length≤900000)) (fun z=>.bool (!qeb z.1 z.2)) fun z h=>c133 (T:=[e64,e161]) rfl rfl z.1 z.2 h.1 h.2
theorem k133 {T:List (Entry Tryz.prog)} (hT:qag 133 T=some e133.g) (L:List Nd) (W:Str) (hl:L.length≤1000000) (hW:W.length≤900000) (H:Heap):qb9 (ctx T) (.fn 133) [qa5 L,.str W] H=some (.bool (!qeb L W),H):=
 qae hT inj_133 (L,W) ⟨hl,hW⟩ rfl (by simp [qar])
theorem c132 {T:List (Entry Tryz.prog)} (hc0:qag 64 T=some e64.g) (hc1:qag 160 T=some e160.g) (L:List Nd) (hl:L.length≤1000000):CallAt (ctx T) 132 [qa5 L] ⟨0,[]⟩ (.bool (!qfj L)) ⟨0,[]⟩:=by
 have kc0:=@k64 T hc0
 have kc1:=@k160 T hc1
 obtain ⟨w,hw⟩ : ∃ w:Int,w=(L.length:Int) - 1:=⟨_,rfl⟩
 have hws:wr .i64 ((L.length:Int) - 1)=some w:=by rw [hw];exact qc6 (by omega) (by omega)
 refine qa3 (fn:=Tryz.f132) (s0:=⟨[0,2,3],[qa5 L,.undef,.undef],[],27,⟨0,[[]]⟩⟩) Tryz.func132 rfl rfl rfl ?_
 repeat apply wq
 refine qa0 qa1 ?_
 simp [zS]
 repeat apply wq
 refine qa0 qa1 ?_
 simp [zS,qfu,hws]
 refine qa9 (qax (fun x:Nat × Int=>(⟨[0,2,3],[qa5 L,.bool false,.int .i64 x.2],[],27,⟨0,[[]]⟩⟩ : St))
  (fun x=>x.1≤L.length∧x.2=(x.1:Int) - 1∧qfj L=(qsa (qok (fun n=>elB n [97] && !qkx n) qkx L) x.1).getD false) (fun x=>x.1) [] [] (L.length,w) ⟨Nat.le_refl _,hw,rfl⟩ ⟨rfl,rfl,rfl,by simp [qb6,qay,qaf,qac],FitH.nothing⟩ ?_)
 rintro ⟨j,v⟩ ⟨hj,hv,hx⟩ B hB
 simp only at hj hv hx
 cases j with
 | zero=>
  have hn:¬ 0≤v:=by omega
  (repeat' (first
   | with_reducible refine qah ?_
   | (with_reducible refine qa0 qa1 ?_;apply qbn;simp [zS, *];exact rfl)
   | (with_reducible refine qas ?_;simp only [qaa,qa2])
   | (refine qal rfl ?_)
   | (with_reducible refine qat ?_;simp [qaa,qa2])
   | (with_reducible refine qa8 ?_;simp [qab,Tryz.f132,oneOr,qaa,qa2])))
  all_goals first | exact qa4 rfl (by rw [hx];rfl) | (exfalso;omega)
 | succ r=>
  have hvq:v=(r:Int):=by omega
  subst hvq
  clear hv
  have hn:(0:Int)≤(r:Int):=by omega
  have hix:=atX (t:=L) (i:=(r:Int)) (by omega) (by omega)
  have hs1:wr .i64 ((r:Int) - 1)=some ((r:Int) - 1):=qc6 (by omega) (by omega)
  rw [qnz] at hx
  have k1:=fun H=>kc0 (qa6 L (r:Int)) [97] (by decide) H
  have k3:=fun H=>kc1 (qa6 L (r:Int)).space (qa6 L (r:Int)).name H
  have em:(decide ((qa6 L (r:Int)).space=0) && inW qpa (qa6 L (r:Int)).name)=qkx (qa6 L (r:Int)):=rfl
  rw [em] at k3
  clear em
  clear kc0 kc1
  generalize elB (qa6 L (r:Int)) [97]=b1 at *
  generalize qkx (qa6 L (r:Int))=b3 at *
  (repeat' (first
   | with_reducible refine qah ?_
   | with_reducible refine qa9 ?_
   | (with_reducible refine qa0 qa1 ?_;apply qbn;simp [zS, *,qao];exact rfl)
   | (refine qbh qci qa1 (by decide +kernel) (by decide +kernel) ?_;apply qbn;simp [zS,qbx,qbd,qb8, *,qao];exact rfl)
   | (with_reducible refine qas ?_;simp only [qaa,qa2])
   | (refine qai rfl ?_)
   | (refine qau rfl (fun hc=>?_) (fun hc=>?_) <;> ((have hd:=hc);(try simp at hd);(try subst hd)))
   | (with_reducible refine qa7 ?_;simp only [qaa,qa2])
   | (with_reducible refine qa8 ?_;simp [qab,Tryz.f132,oneOr,qaa,qa2])))
  all_goals first | exact qa4 rfl (by rw [hx];simp [*]) | (exact hB _ (r,(r:Int) - 1) (by simp) ⟨by simp only;omega,rfl,by rw [hx];simp [*]⟩ ⟨[],[],⟨rfl,rfl,rfl,by simp [qb6,qay,qaf,qac],FitH.nothing⟩⟩) | (exfalso;omega)
theorem inj_132 (x y:List Nd) (h:(fun z:List Nd=>([qa5 z]:List AV)) x=(fun z:List Nd=>([qa5 z]:List AV)) y):x=y:=by
 simp only [List.cons.injEq,and_true] at h
 exact qc4 h
noncomputable def e132:Entry Tryz.prog:=mkE 132 [[7]] (fun z:List Nd=>[qa5 z]) (fun z=>(z.length≤1000000)) (fun z=>.bool (!qfj z)) fun z h=>c132 (T:=[e64,e160]) rfl rfl z h
theorem k132 {T:List (Entry Tryz.prog)} (hT:qag 132 T=some e132.g) (L:List Nd) (hl:L.length≤1000000) (H:Heap):qb9 (ctx T) (.fn 132) [qa5 L] H=some (.bool (!qfj L),H):=
 qae hT inj_132 (L) hl rfl (by simp [qar])
theorem c131 {T:List (Entry Tryz.prog)} (hc0:qag 64 T=some e64.g) (L:List Nd) (hl:L.length≤1000000):CallAt (ctx T) 131 [qa5 L] ⟨0,[]⟩ (.bool (!qln L)) ⟨0,[]⟩:=by
 have kc0:=@k64 T hc0
 refine qa3 (fn:=Tryz.f131) (s0:=⟨[0,2,3],[qa5 L,.undef,.undef],[],15,⟨0,[[]]⟩⟩) Tryz.func131 rfl rfl rfl ?_
 repeat apply wq
 refine qa0 qa1 ?_
 simp [zS]
 repeat apply wq
 refine qa0 qa1 ?_
 simp [zS]
 refine qa9 (qax (fun i:Nat=>(⟨[0,2,3],[qa5 L,.bool false,.int .i64 (i:Int)],[],15,⟨0,[[]]⟩⟩ : St))
  (fun i=>i≤L.length∧qln L=qln (L.drop i)) (fun i=>L.length - i) [] [] 0 ⟨Nat.zero_le _,rfl⟩ ⟨rfl,rfl,rfl,by simp [qb6,qay,qaf,qac],FitH.nothing⟩ ?_)
 rintro i ⟨hi,hx⟩ B hB
 by_cases h:i < L.length
 ·have hc:(i:Int) < (L.length:Int):=by omega
  have hix:=atX (t:=L) (i:=(i:Int)) (by omega) (by omega)
  rw [qc3 h] at hix
  have ha:=qba (show i≤1000000000 by omega)
  have hd:qln (L.drop i)=(elB L[i] [102,111,114,109] || qln (L.drop (i+1))):=by rw [List.drop_eq_getElem_cons h];rfl
  rw [hd] at hx
  have k1:=fun H=>kc0 L[i] [102,111,114,109] (by decide) H
  clear kc0 hd
  generalize L[i]=n at *
  generalize elB n [102,111,114,109]=b1 at *
  (repeat' (first
   | with_reducible refine qah ?_
   | with_reducible refine qa9 ?_
   | (with_reducible refine qa0 qa1 ?_;apply qbn;simp [zS, *,qao,qfu];exact rfl)
   | (with_reducible refine qas ?_;simp only [qaa,qa2])
   | (refine qai rfl ?_)
   | (refine qau rfl (fun hc=>?_) (fun hc=>?_) <;> ((have hd:=hc);(try simp at hd);(try subst hd)))
   | (with_reducible refine qa7 ?_;simp only [qaa,qa2])
   | (with_reducible refine qa8 ?_;simp [qab,Tryz.f131,oneOr,qaa,qa2])))
  all_goals first | exact qa4 rfl (by rw [hx];simp [*]) | (exact hB _ (i+1) (by omega) ⟨by omega,by rw [hx];simp [*]⟩ ⟨[],[],⟨rfl,rfl,rfl,by simp [qb6,qay,qaf,qac],FitH.nothing⟩⟩) | (exfalso;omega)
 ·have hc:¬ (i:Int) < (L.length:Int):=by omega
  (repeat' (first
   | with_reducible refine qah ?_
   | (with_reducible refine qa0 qa1 ?_;apply qbn;simp [zS, *,qao,qfu];exact rfl)
   | (with_reducible refine qas ?_;simp only [qaa,qa2])
   | (refine qal rfl ?_)
   | (with_reducible refine qat ?_;simp [qaa,qa2])
   | (with_reducible refine qa8 ?_;simp [qab,Tryz.f131,oneOr,qaa,qa2])))
  all_goals first | exact qa4 rfl (by rw [hx,List.drop_eq_nil_of_le (by omega)];rfl) | (exfalso;omega)
theorem inj_131 (x y:List Nd) (h:(fun z:List Nd=>([qa5 z]:List AV)) x=(fun z:List Nd=>([qa5 z]:List AV)) y):x=y:=by
 simp only [List.cons.injEq,and_true] at h
 exact qc4 h
noncomputable def e131:Entry Tryz.prog:=mkE 131 [[7]] (fun z:List Nd=>[qa5 z]) (fun z=>(z.length≤1000000)) (fun z=>.bool (!qln z)) fun z h=>c131 (T:=[e64]) rfl z h
theorem k131 {T:List (Entry Tryz.prog)} (hT:qag 131 T=some e131.g) (L:List Nd) (hl:L.length≤1000000) (H:Heap):qb9 (ctx T) (.fn 131) [qa5 L] H=some (.bool (!qln L),H):=
 qae hT inj_131 (L) hl rfl (by simp [qar])
theorem c126 {T:List (Entry Tryz.prog)} (hc0:qag 105 T=some e105.g) (n:Nd):CallAt (ctx T) 126 [qaj n] ⟨0,[]⟩ (.bool (qez n)) ⟨0,[]⟩:=by
 have kw0:=fun (x:Str) (H:Heap)=>k105 hc0 (w:= lsB4) x (by decide) H
 refine qa3 (fn:=Tryz.f126) (s0:=⟨[0,1,2],[qaj n,.undef,.undef],[],16,⟨0,[[]]⟩⟩) Tryz.func126 rfl rfl rfl ?_
 (repeat' (first
  | with_reducible refine qah ?_
  | (with_reducible refine qa0 qa1 ?_;apply qbn;simp [zS, *,qao];exact rfl)
  | (with_reducible refine qas ?_;simp only [qaa,qa2])
  | (with_reducible refine qaz (fun hc=>?_) (fun hc=>?_) <;> ((have hd:=hc);(try simp at hd);(try subst hd);apply qbn;simp [zS, *,qao];exact rfl))
  | (with_reducible refine qa8 ?_;simp [qab,Tryz.f126,oneOr,qaa,qa2])))
 all_goals first | exact qa4 rfl (by first | (simp [qez, *];done) | (simp_all [qez];done)) | (exfalso;omega)
theorem inj_126 (x y:Nd) (h:(fun z:Nd=>([qaj z]:List AV)) x=(fun z:Nd=>([qaj z]:List AV)) y):x=y:=by
 simp only [List.cons.injEq,and_true] at h
 exact qcd h
noncomputable def e126:Entry Tryz.prog:=mkE 126 [[0,0,0,2,0,0,1]] (fun z:Nd=>[qaj z]) (fun z=>True) (fun z=>.bool (qez z)) fun z h=>c126 (T:=[e105]) rfl z 
theorem k126 {T:List (Entry Tryz.prog)} (hT:qag 126 T=some e126.g) (n:Nd) (H:Heap):qb9 (ctx T) (.fn 126) [qaj n] H=some (.bool (qez n),H):=
 qae hT inj_126 (n) trivial rfl (by simp [qar])
theorem c134 {T:List (Entry Tryz.prog)} (s:Str) (hl:s.length≤1000000):CallAt (ctx T) 134 [.str s] ⟨0,[]⟩ (.str (qer s)) ⟨0,[]⟩:=by
 refine qa3 (fn:=Tryz.f134) (s0:=⟨[0,2,3,4],[.str s,.undef,.undef,.undef],[],33,⟨0,[[]]⟩⟩) Tryz.func134 rfl rfl rfl ?_
 repeat apply wq
 refine qa0 qa1 ?_
 simp [zS]
 repeat apply wq
 refine qa0 qa1 ?_
 simp [zS,conv1 hl]
 repeat apply wq
 refine qa0 qa1 ?_
 simp [zS]
 refine qa9 (qax (fun i:Nat=>(⟨[0,2,3,4],[.str s,.str [],.slc 0 0 s.length (.rest 1),.int .i64 i],[],33,qdw 1 (qth s i)⟩ : St))
  (fun i=>i≤s.length) (fun i=>s.length - i) [(0,0)] [] 0 (Nat.zero_le _) ⟨rfl,rfl,rfl,by simp [qb6,qay,qmd,qb2,qaf],by simpa [qth] using qgq (n:=1) (s:=s) rfl⟩ ?_)
 rintro i hi B hB
 by_cases h:i < s.length
 ·have hc:(i:Int) < (s.length:Int):=by omega
  have hm:i < (qth s i).length:=by rw [qkv];exact h
  repeat apply wq
  refine qa0 qa1 ?_
  simp [zS,len52,hc,h]
  refine qai rfl ?_
  refine qa7 ?_
  simp
  repeat apply wq
  refine qa9 ?_
  by_cases h1:65≤s[i].toNat∧s[i].toNat≤90
  ·have e1:(65:Int)≤s[i].toNat:=by omega
   have e2:(s[i].toNat:Int)≤90:=by omega
   repeat apply wq
   refine qa0 qa1 ?_
   simp [zS,qdw,ix52 h,qd6 hm,qfb h,e1,e2]
   refine qai rfl ?_
   refine qa0 qa1 ?_
   simp [zS,qdw,ix52 h,qd6 hm,qfb h,add8 h1.1 h1.2,qli hm]
   refine qa0 qa1 ?_
   simp [zS,qba (show i≤1000000000 by omega)]
   exact hB _ (i+1) (by omega) (by omega) ⟨[(0,0)],[],rfl,rfl,rfl,by simp [qb6,qay,qmd,qb2,qaf],qgq (qo7 h)⟩
  ·by_cases e1:(65:Int)≤s[i].toNat
   ·have e2:¬ (s[i].toNat:Int)≤90:=by omega
    repeat apply wq
    refine qa0 qa1 ?_
    simp [zS,qdw,ix52 h,qd6 hm,qfb h,e1,e2]
    refine qal rfl ?_
    refine qa7 ?_
    simp
    refine qa0 qa1 ?_
    simp [zS,qba (show i≤1000000000 by omega)]
    exact hB _ (i+1) (by omega) (by omega) ⟨[(0,0)],[],rfl,rfl,rfl,by simp [qb6,qay,qmd,qb2,qaf],qgq (qkw h (qra h1)).symm⟩
   ·repeat apply wq
    refine qa0 qa1 ?_
    simp [zS,qdw,ix52 h,qd6 hm,qfb h,e1]
    refine qal rfl ?_
    refine qa7 ?_
    simp
    refine qa0 qa1 ?_
    simp [zS,qba (show i≤1000000000 by omega)]
    exact hB _ (i+1) (by omega) (by omega) ⟨[(0,0)],[],rfl,rfl,rfl,by simp [qb6,qay,qmd,qb2,qaf],qgq (qkw h (qra h1)).symm⟩
 ·have hc:¬ (i:Int) < (s.length:Int):=by omega
  repeat apply wq
  refine qa0 qa1 ?_
  simp [zS,len52,hc,h]
  refine qal rfl ?_
  refine qat ?_
  simp
  repeat apply wq
  refine qa0 qa1 ?_
  simp [zS,conv2 (qkv s i)]
  refine qa8 ?_
  simp [qab,Tryz.f134,oneOr]
  exact qa4 rfl (by rw [show i=s.length by omega,qxo])
theorem inj_134 (x y:Str) (h:(fun z:Str=>([.str z]:List AV)) x=(fun z:Str=>([.str z]:List AV)) y):x=y:=by
 simp only [List.cons.injEq,and_true] at h
 exact AV.str.inj h
noncomputable def e134:Entry Tryz.prog:=mkE 134 [[]] (fun z:Str=>[.str z]) (fun z=>(z.length≤1000000)) (fun z=>.str (qer z)) fun z h=>c134 (T:=[])  z h
theorem k134 {T:List (Entry Tryz.prog)} (hT:qag 134 T=some e134.g) (s:Str) (hl:s.length≤1000000) (H:Heap):qb9 (ctx T) (.fn 134) [.str s] H=some (.str (qer s),H):=
 qae hT inj_134 (s) hl rfl (by simp [qar])
theorem zcx (a b:Str):qmn a b=decide (qer a=qer b):=by
 unfold qmn
 by_cases h:qer a=qer b
 ·have:=congrArg List.length h
  simp [qer] at this
  simp [h,this]
 ·simp [h]
theorem c158 {T:List (Entry Tryz.prog)} (hc0:qag 134 T=some e134.g) (a:Str) (b:Str) (ha:a.length≤1000000) (hb:b.length≤1000000):CallAt (ctx T) 158 [.str a,.str b] ⟨0,[]⟩ (.bool (qmn a b)) ⟨0,[]⟩:=by
 have kc0:=@k134 T hc0
 refine qa3 (fn:=Tryz.f158) (s0:=⟨[0,1,4],[.str a,.str b,.undef],[],10,⟨0,[[]]⟩⟩) Tryz.func158 rfl rfl rfl ?_
 (repeat' (first
  | with_reducible refine qah ?_
  | (with_reducible refine qa0 qa1 ?_;apply qbn;simp [zS, *];exact rfl)
  | (with_reducible refine qas ?_;simp only [qaa,qa2])
  | (with_reducible refine qa8 ?_;simp [qab,Tryz.f158,oneOr,qaa,qa2])))
 all_goals first | exact qa4 rfl (by first | (simp [zcx, *];done) | (simp_all [zcx];done)) | (exfalso;omega)
theorem inj_158 (x y:Str × Str) (h:(fun z:Str × Str=>([.str z.1,.str z.2]:List AV)) x=(fun z:Str × Str=>([.str z.1,.str z.2]:List AV)) y):x=y:=by
 obtain ⟨x0,x1⟩:=x
 obtain ⟨y0,y1⟩:=y
 simp only [List.cons.injEq,and_true] at h
 obtain ⟨h0,h1⟩:=h
 have g0:x0=y0:=AV.str.inj h0
 have g1:x1=y1:=AV.str.inj h1
 subst g0 g1
 rfl
noncomputable def e158:Entry Tryz.prog:=mkE 158 [[],[]] (fun z:Str × Str=>[.str z.1,.str z.2]) (fun z=>(z.1.length≤1000000)∧(z.2.length≤1000000)) (fun z=>.bool (qmn z.1 z.2)) fun z h=>c158 (T:=[e134]) rfl z.1 z.2 h.1 h.2
theorem k158 {T:List (Entry Tryz.prog)} (hT:qag 158 T=some e158.g) (a:Str) (b:Str) (ha:a.length≤1000000) (hb:b.length≤1000000) (H:Heap):qb9 (ctx T) (.fn 158) [.str a,.str b] H=some (.bool (qmn a b),H):=
 qae hT inj_158 (a,b) ⟨ha,hb⟩ rfl (by simp [qar])
theorem c127 {T:List (Entry Tryz.prog)} (hc0:qag 105 T=some e105.g) (hc1:qag 157 T=some e157.g) (hc2:qag 158 T=some e158.g) (n:Nd) (h:okN n):CallAt (ctx T) 127 [qaj n] ⟨0,[]⟩ (.bool (qe9 n)) ⟨0,[]⟩:=by
 have kw0:=fun (x:Str) (H:Heap)=>k105 hc0 (w:= lsB0) x (by decide) H
 have kc1:=@k157 T hc1
 have kc2:=@k158 T hc2
 have hg:=fun H=>k157 (nm:=[101,110,99,111,100,105,110,103]) hc1 h.2.1 (qki H n.attrs)
 have lu:lsSvg.length≤900000:=by decide
 cases hv:qg2 [101,110,99,111,100,105,110,103] n.attrs with
 | none=>
  rw [hv] at hg
  simp only [qy1] at hg
  refine qa3 (fn:=Tryz.f127) (s0:=⟨[0,1,2,3,4],[qaj n,.undef,.undef,.undef,.undef],[],48,⟨0,[[]]⟩⟩) Tryz.func127 rfl rfl rfl ?_
  (repeat' (first
   | with_reducible refine qah ?_
   | (with_reducible refine qa0 qa1 ?_;apply qbn;simp [zS, *,qao];exact rfl)
   | (with_reducible refine qas ?_;simp only [qaa,qa2])
   | (with_reducible refine qaz (fun hc=>?_) (fun hc=>?_) <;> ((have hd:=hc);(try simp at hd);(try subst hd);apply qbn;simp [zS, *,qao];exact rfl))
   | (refine qal rfl ?_)
   | (refine qau rfl (fun hc=>?_) (fun hc=>?_) <;> ((have hd:=hc);(try simp at hd);(try subst hd)))
   | (with_reducible refine qa7 ?_;simp only [qaa,qa2])
   | (with_reducible refine qa8 ?_;simp [qab,Tryz.f127,oneOr,qaa,qa2])))
  all_goals first | exact qa4 rfl (by first | (simp [qe9, *];done) | (simp_all [qe9];done)) | (exfalso;omega)
 | some v=>
  rw [hv] at hg
  have lv:v.length≤1000000:=by have:=qon h.2.2.2 hv;omega
  simp only [qy1] at hg
  refine qa3 (fn:=Tryz.f127) (s0:=⟨[0,1,2,3,4],[qaj n,.undef,.undef,.undef,.undef],[],48,⟨0,[[]]⟩⟩) Tryz.func127 rfl rfl rfl ?_
  (repeat' (first
   | with_reducible refine qah ?_
   | (with_reducible refine qa0 qa1 ?_;apply qbn;simp [zS, *,qao];exact rfl)
   | (with_reducible refine qas ?_;simp only [qaa,qa2])
   | (with_reducible refine qaz (fun hc=>?_) (fun hc=>?_) <;> ((have hd:=hc);(try simp at hd);(try subst hd);apply qbn;simp [zS, *,qao];exact rfl))
   | (refine qal rfl ?_)
   | (refine qau rfl (fun hc=>?_) (fun hc=>?_) <;> ((have hd:=hc);(try simp at hd);(try subst hd)))
   | (with_reducible refine qa7 ?_;simp only [qaa,qa2])
   | (with_reducible refine qa8 ?_;simp [qab,Tryz.f127,oneOr,qaa,qa2])))
  all_goals first | exact qa4 rfl (by first | (simp [qe9, *];done) | (simp_all [qe9];done)) | (exfalso;omega)
theorem inj_127 (x y:Nd) (h:(fun z:Nd=>([qaj z]:List AV)) x=(fun z:Nd=>([qaj z]:List AV)) y):x=y:=by
 simp only [List.cons.injEq,and_true] at h
 exact qcd h
noncomputable def e127:Entry Tryz.prog:=mkE 127 [[0,0,0,2,0,0,1]] (fun z:Nd=>[qaj z]) (fun z=>(okN z)) (fun z=>.bool (qe9 z)) fun z h=>c127 (T:=[e105,e157,e158]) rfl rfl rfl z h
theorem k127 {T:List (Entry Tryz.prog)} (hT:qag 127 T=some e127.g) (n:Nd) (h:okN n) (H:Heap):qb9 (ctx T) (.fn 127) [qaj n] H=some (.bool (qe9 n),H):=
 qae hT inj_127 (n) h rfl (by simp [qar])
theorem con13:∀ (s:Str),conB s [13]=s.any fun c=>decide (c=13)
 | []=>rfl
 | b::l=>by
  have ih:=con13 l
  have hg:=Lib.index_ge l [13]
  rw [List.any_cons,← ih]
  unfold conB
  conv=>lhs;unfold Lib.index
  by_cases h:b=13
  ·subst h;simp [List.isPrefixOf]
  ·have h':(13 == b)=false:=by simpa using fun e=>h e.symm
   simp only [List.isPrefixOf,h',Bool.false_and,Bool.false_eq_true,if_false,h,decide_false,Bool.false_or]
   by_cases hq:Lib.index l [13] = -1
   ·simp [hq]
   ·have:(Lib.index l [13] == -1)=false:=by simpa using hq
    simp only [this,Bool.false_eq_true,if_false]
    rw [Bool.eq_iff_iff];simp only [decide_eq_true_eq];omega
theorem u13 (c:UInt8):((c.toNat:Int)=13)↔c=13:=by
 constructor
 ·intro e
  have h:c.toNat=(13:UInt8).toNat:=by show c.toNat=13;omega
  exact UInt8.toNat_inj.1 h
 ·intro e;rw [e];rfl
theorem c101 {T:List (Entry Tryz.prog)} (hc0:qag 135 T=some e135.g) (s:Str) (hs:s.length≤1000000):CallAt (ctx T) 101 [.str s] ⟨0,[]⟩ (.bool (qg4 s)) ⟨0,[]⟩:=by
 have kc0:=@k135 T hc0
 have kv:=fun H=>k135 hc0 hs H
 refine qa3 (fn:=Tryz.f101) (s0:=⟨[0,2,3],[.str s,.undef,.undef],[],16,⟨0,[[]]⟩⟩) Tryz.func101 rfl rfl rfl ?_
 repeat apply wq
 refine qa0 qa1 ?_
 simp [zS]
 repeat apply wq
 refine qa0 qa1 ?_
 simp [zS]
 refine qa9 (qax (fun i:Nat=>(⟨[0,2,3],[.str s,.bool false,.int .i64 (i:Int)],[],16,⟨0,[[]]⟩⟩ : St))
  (fun i=>i≤s.length∧conB s [13]=(s.drop i).any fun c=>decide (c=13)) (fun i=>s.length - i) [] [] 0 ⟨Nat.zero_le _,con13 s⟩ ⟨rfl,rfl,rfl,by simp [qb6,qay,qaf,qac],FitH.nothing⟩ ?_)
 rintro i ⟨hi,hx⟩ B hB
 by_cases h:i < s.length
 ·have hc:(i:Int) < (s.length:Int):=by omega
  have hix:=qih h
  have ha:=qba (show i≤1000000000 by omega)
  rw [List.drop_eq_getElem_cons h,List.any_cons] at hx
  have h13:=u13 s[i]
  clear kc0
  generalize s[i]=c at *
  by_cases e:c=13
  ·have e1:(c.toNat:Int)=13:=h13.2 e
   simp only [e,decide_true,Bool.true_or] at hx
   clear h13
   (repeat' (first
    | with_reducible refine qah ?_
    | with_reducible refine qa9 ?_
    | (with_reducible refine qa0 qa1 ?_;apply qbn;simp [zS, *];exact rfl)
    | (with_reducible refine qas ?_;simp only [qaa,qa2])
    | (refine qai rfl ?_)
    | (with_reducible refine qa7 ?_;simp only [qaa,qa2])
    | (with_reducible refine qa8 ?_;simp [qab,Tryz.f101,oneOr,qaa,qa2])))
   all_goals first | exact qa4 rfl (by unfold qg4;rw [hx];simp) | (exfalso;omega)
  ·have e1:¬ (c.toNat:Int)=13:=fun q=>e (h13.1 q)
   simp only [e,decide_false,Bool.false_or] at hx
   clear h13
   (repeat' (first
    | with_reducible refine qah ?_
    | with_reducible refine qa9 ?_
    | (with_reducible refine qa0 qa1 ?_;apply qbn;simp [zS, *];exact rfl)
    | (with_reducible refine qas ?_;simp only [qaa,qa2])
    | (refine qai rfl ?_)
    | (refine qal rfl ?_)
    | (with_reducible refine qa7 ?_;simp only [qaa,qa2])))
   all_goals first | (exact hB _ (i+1) (by omega) ⟨by omega,hx⟩ ⟨[],[],⟨rfl,rfl,rfl,by simp [qb6,qay,qaf,qac],FitH.nothing⟩⟩) | (exfalso;omega)
 ·have hc:¬ (i:Int) < (s.length:Int):=by omega
  rw [List.drop_eq_nil_of_le (by omega)] at hx
  (repeat' (first
   | with_reducible refine qah ?_
   | (with_reducible refine qa0 qa1 ?_;apply qbn;simp [zS, *];exact rfl)
   | (with_reducible refine qas ?_;simp only [qaa,qa2])
   | (refine qal rfl ?_)
   | (with_reducible refine qat ?_;simp [qaa,qa2])
   | (with_reducible refine qa8 ?_;simp [qab,Tryz.f101,oneOr,qaa,qa2])))
  all_goals first | exact qa4 rfl (by unfold qg4;rw [hx];simp) | (exfalso;omega)
theorem inj_101 (x y:Str) (h:(fun z:Str=>([.str z]:List AV)) x=(fun z:Str=>([.str z]:List AV)) y):x=y:=by
 simp only [List.cons.injEq,and_true] at h
 exact AV.str.inj h
noncomputable def e101:Entry Tryz.prog:=mkE 101 [[]] (fun z:Str=>[.str z]) (fun z=>(z.length≤1000000)) (fun z=>.bool (qg4 z)) fun z h=>c101 (T:=[e135]) rfl z h
theorem k101 {T:List (Entry Tryz.prog)} (hT:qag 101 T=some e101.g) (s:Str) (hs:s.length≤1000000) (H:Heap):qb9 (ctx T) (.fn 101) [.str s] H=some (.bool (qg4 s),H):=
 qae hT inj_101 (s) hs rfl (by simp [qar])
theorem c103 {T:List (Entry Tryz.prog)} (hc0:qag 137 T=some e137.g) (s:Str) (hs:s.length≤1000000):CallAt (ctx T) 103 [.str s] ⟨0,[]⟩ (.bool (s.all sp)) ⟨0,[]⟩:=by
 have kc0:=@k137 T hc0
 refine qa3 (fn:=Tryz.f103) (s0:=⟨[0,2,3],[.str s,.undef,.undef],[],15,⟨0,[[]]⟩⟩) Tryz.func103 rfl rfl rfl ?_
 repeat apply wq
 refine qa0 qa1 ?_
 simp [zS]
 repeat apply wq
 refine qa0 qa1 ?_
 simp [zS]
 refine qa9 (qax (fun i:Nat=>(⟨[0,2,3],[.str s,.bool false,.int .i64 (i:Int)],[],15,⟨0,[[]]⟩⟩ : St))
  (fun i=>i≤s.length∧s.all sp=(s.drop i).all sp) (fun i=>s.length - i) [] [] 0 ⟨Nat.zero_le _,rfl⟩ ⟨rfl,rfl,rfl,by simp [qb6,qay,qaf,qac],FitH.nothing⟩ ?_)
 rintro i ⟨hi,hx⟩ B hB
 by_cases h:i < s.length
 ·have hc:(i:Int) < (s.length:Int):=by omega
  have hix:=qih h
  have ha:=qba (show i≤1000000000 by omega)
  rw [List.drop_eq_getElem_cons h,List.all_cons] at hx
  generalize s[i]=c at *
  have k1:=fun H=>kc0 c H
  clear kc0
  generalize sp c=b1 at *
  (repeat' (first
   | with_reducible refine qah ?_
   | with_reducible refine qa9 ?_
   | (with_reducible refine qa0 qa1 ?_;apply qbn;simp [zS, *];exact rfl)
   | (with_reducible refine qas ?_;simp only [qaa,qa2])
   | (refine qai rfl ?_)
   | (refine qau rfl (fun hc=>?_) (fun hc=>?_) <;> ((have hd:=hc);(try simp at hd);(try subst hd)))
   | (with_reducible refine qa7 ?_;simp only [qaa,qa2])
   | (with_reducible refine qa8 ?_;simp [qab,Tryz.f103,oneOr,qaa,qa2])))
  all_goals first | exact qa4 rfl (by rw [hx];simp [*]) | (exact hB _ (i+1) (by omega) ⟨by omega,by rw [hx];simp [*]⟩ ⟨[],[],⟨rfl,rfl,rfl,by simp [qb6,qay,qaf,qac],FitH.nothing⟩⟩) | (exfalso;omega)
 ·have hc:¬ (i:Int) < (s.length:Int):=by omega
  rw [List.drop_eq_nil_of_le (by omega)] at hx
  (repeat' (first
   | with_reducible refine qah ?_
   | (with_reducible refine qa0 qa1 ?_;apply qbn;simp [zS, *];exact rfl)
   | (with_reducible refine qas ?_;simp only [qaa,qa2])
   | (refine qal rfl ?_)
   | (with_reducible refine qat ?_;simp [qaa,qa2])
   | (with_reducible refine qa8 ?_;simp [qab,Tryz.f103,oneOr,qaa,qa2])))
  all_goals first | exact qa4 rfl (by rw [hx];rfl) | (exfalso;omega)
theorem inj_103 (x y:Str) (h:(fun z:Str=>([.str z]:List AV)) x=(fun z:Str=>([.str z]:List AV)) y):x=y:=by
 simp only [List.cons.injEq,and_true] at h
 exact AV.str.inj h
noncomputable def e103:Entry Tryz.prog:=mkE 103 [[]] (fun z:Str=>[.str z]) (fun z=>(z.length≤1000000)) (fun z=>.bool (z.all sp)) fun z h=>c103 (T:=[e137]) rfl z h
theorem k103 {T:List (Entry Tryz.prog)} (hT:qag 103 T=some e103.g) (s:Str) (hs:s.length≤1000000) (H:Heap):qb9 (ctx T) (.fn 103) [.str s] H=some (.bool (s.all sp),H):=
 qae hT inj_103 (s) hs rfl (by simp [qar])
theorem c62 {T:List (Entry Tryz.prog)} (hc0:qag 65 T=some e65.g) (hc1:qag 101 T=some e101.g) (hc2:qag 102 T=some e102.g) (hc3:qag 64 T=some e64.g) (hc4:qag 103 T=some e103.g) (L:List Nd) (s:Str) (hp:okP L) (hs:s.length≤900000):CallAt (ctx T) 62 [qa5 L,.str s] ⟨0,[]⟩ (.bool (qeh L s)) ⟨0,[]⟩:=by
 have kc0:=@k65 T hc0
 have kc1:=@k101 T hc1
 have kc2:=@k102 T hc2
 have kc3:=@k64 T hc3
 have kc4:=@k103 T hc4
 have hl:L.length≤1000000:=by have:=hp.1;omega
 have hs2:s.length≤1000000:=by omega
 refine qa3 (fn:=Tryz.f62) (s0:=⟨[0,1,4,5],[qa5 L,.str s,.undef,.undef],[],34,⟨0,[[]]⟩⟩) Tryz.func62 rfl rfl rfl ?_
 (repeat' (first
  | with_reducible refine qah ?_
  | (with_reducible refine qa0 qa1 ?_;apply qbn;simp [zS, *,qao];exact rfl)
  | (with_reducible refine qas ?_;simp only [qaa,qa2])
  | (with_reducible refine qaz (fun hc=>?_) (fun hc=>?_) <;> ((have hd:=hc);(try simp at hd);(try subst hd);apply qbn;simp [zS, *,qao];exact rfl))
  | (refine qai rfl ?_)
  | (refine qal rfl ?_)
  | (refine qau rfl (fun hc=>?_) (fun hc=>?_) <;> ((have hd:=hc);(try simp at hd);(try subst hd)))
  | (with_reducible refine qa7 ?_;simp only [qaa,qa2])
  | (with_reducible refine qa8 ?_;simp [qab,Tryz.f62,oneOr,qaa,qa2])))
 all_goals first | exact qa4 rfl (by first | (simp [qeh, *];done) | (simp_all [qeh];done)) | (exfalso;omega)
theorem inj_62 (x y:List Nd × Str) (h:(fun z:List Nd × Str=>([qa5 z.1,.str z.2]:List AV)) x=(fun z:List Nd × Str=>([qa5 z.1,.str z.2]:List AV)) y):x=y:=by
 obtain ⟨x0,x1⟩:=x
 obtain ⟨y0,y1⟩:=y
 simp only [List.cons.injEq,and_true] at h
 obtain ⟨h0,h1⟩:=h
 have g0:x0=y0:=qc4 h0
 have g1:x1=y1:=AV.str.inj h1
 subst g0 g1
 rfl
noncomputable def e62:Entry Tryz.prog:=mkE 62 [[7],[]] (fun z:List Nd × Str=>[qa5 z.1,.str z.2]) (fun z=>(okP z.1)∧(z.2.length≤900000)) (fun z=>.bool (qeh z.1 z.2)) fun z h=>c62 (T:=[e65,e101,e102,e64,e103]) rfl rfl rfl rfl rfl z.1 z.2 h.1 h.2
theorem k62 {T:List (Entry Tryz.prog)} (hT:qag 62 T=some e62.g) (L:List Nd) (s:Str) (hp:okP L) (hs:s.length≤900000) (H:Heap):qb9 (ctx T) (.fn 62) [qa5 L,.str s] H=some (.bool (qeh L s),H):=
 qae hT inj_62 (L,s) ⟨hp,hs⟩ rfl (by simp [qar])
theorem c97 {T:List (Entry Tryz.prog)} (hc0:qag 126 T=some e126.g) (hc1:qag 127 T=some e127.g) (n:Nd) (h:okN n):CallAt (ctx T) 97 [qaj n] ⟨0,[]⟩ (.bool (decide (n.kind=1) && decide (n.space=0) || qez n || qe9 n)) ⟨0,[]⟩:=by
 have kc0:=@k126 T hc0
 have kc1:=@k127 T hc1
 refine qa3 (fn:=Tryz.f97) (s0:=⟨[0,1,2],[qaj n,.undef,.undef],[],19,⟨0,[[]]⟩⟩) Tryz.func97 rfl rfl rfl ?_
 (repeat' (first
  | with_reducible refine qah ?_
  | (with_reducible refine qa0 qa1 ?_;apply qbn;simp [zS, *,qao];exact rfl)
  | (with_reducible refine qas ?_;simp only [qaa,qa2])
  | (with_reducible refine qaz (fun hc=>?_) (fun hc=>?_) <;> ((have hd:=hc);(try simp at hd);(try subst hd);apply qbn;simp [zS, *,qao];exact rfl))
  | (with_reducible refine qa8 ?_;simp [qab,Tryz.f97,oneOr,qaa,qa2])))
 all_goals first | exact qa4 rfl (by first | (simp [*];done) | (simp_all;done)) | (exfalso;omega)
theorem inj_97 (x y:Nd) (h:(fun z:Nd=>([qaj z]:List AV)) x=(fun z:Nd=>([qaj z]:List AV)) y):x=y:=by
 simp only [List.cons.injEq,and_true] at h
 exact qcd h
noncomputable def e97:Entry Tryz.prog:=mkE 97 [[0,0,0,2,0,0,1]] (fun z:Nd=>[qaj z]) (fun z=>(okN z)) (fun z=>.bool (decide (z.kind=1) && decide (z.space=0) || qez z || qe9 z)) fun z h=>c97 (T:=[e126,e127]) rfl rfl z h
theorem k97 {T:List (Entry Tryz.prog)} (hT:qag 97 T=some e97.g) (n:Nd) (h:okN n) (H:Heap):qb9 (ctx T) (.fn 97) [qaj n] H=some (.bool (decide (n.kind=1) && decide (n.space=0) || qez n || qe9 n),H):=
 qae hT inj_97 (n) h rfl (by simp [qar])
theorem sp_caps:qbo zc1=[[99,97,112,116,105,111,110],[99,111,108],[99,111,108,103,114,111,117,112],[116,98,111,100,121],[116,100],[116,102,111,111,116],[116,104],[116,104,101,97,100],[116,114]]:=by decide +kernel
theorem in_caps (x:Str):inW zc1 x=decide (x=[99,97,112,116,105,111,110]∨x=[99,111,108]∨x=[99,111,108,103,114,111,117,112]∨x=[116,98,111,100,121]∨x=[116,100]∨x=[116,102,111,111,116]∨x=[116,104]∨x=[116,104,101,97,100]∨x=[116,114]):=by unfold inW;rw [sp_caps];simp
theorem sp_e6:qbo lsB1=[[104,114],[116,97,98,108,101],[102,111,114,109],[108,105],[100,100],[100,116]]:=by decide +kernel
theorem in_e6 (x:Str):inW lsB1 x=decide (x=[104,114]∨x=[116,97,98,108,101]∨x=[102,111,114,109]∨x=[108,105]∨x=[100,100]∨x=[100,116]):=by unfold inW;rw [sp_e6];simp
theorem sp_ddt:qbo [100,100,32,100,116]=[[100,100],[100,116]]:=by decide +kernel
theorem in_ddt (x:Str):inW [100,100,32,100,116] x=decide (x=[100,100]∨x=[100,116]):=by unfold inW;rw [sp_ddt];simp
theorem sp_opg:qbo lsB6=[[111,112,116,105,111,110],[111,112,116,103,114,111,117,112]]:=by decide +kernel
theorem in_opg (x:Str):inW lsB6 x=decide (x=[111,112,116,105,111,110]∨x=[111,112,116,103,114,111,117,112]):=by unfold inW;rw [sp_opg];simp
theorem qyy:qbo [111,112,116,105,111,110]=[[111,112,116,105,111,110]]:=by decide +kernel
theorem qzn (x:Str):inW [111,112,116,105,111,110] x=decide (x=[111,112,116,105,111,110]):=by unfold inW;rw [qyy];simp
theorem qsn:qbo [111,112,116,103,114,111,117,112]=[[111,112,116,103,114,111,117,112]]:=by decide +kernel
theorem qtu (x:Str):inW [111,112,116,103,114,111,117,112] x=decide (x=[111,112,116,103,114,111,117,112]):=by unfold inW;rw [qsn];simp
theorem qsm:qbo [116,101,120,116,97,114,101,97]=[[116,101,120,116,97,114,101,97]]:=by decide +kernel
theorem qtt (x:Str):inW [116,101,120,116,97,114,101,97] x=decide (x=[116,101,120,116,97,114,101,97]):=by unfold inW;rw [qsm];simp
theorem qyx:qbo [115,101,108,101,99,116]=[[115,101,108,101,99,116]]:=by decide +kernel
theorem qzm (x:Str):inW [115,101,108,101,99,116] x=decide (x=[115,101,108,101,99,116]):=by unfold inW;rw [qyx];simp
theorem zb0:qbo [116,97,98,108,101]=[[116,97,98,108,101]]:=by decide +kernel
theorem zci (x:Str):inW [116,97,98,108,101] x=decide (x=[116,97,98,108,101]):=by unfold inW;rw [zb0];simp
theorem qso:qbo [99,111,108,103,114,111,117,112]=[[99,111,108,103,114,111,117,112]]:=by decide +kernel
theorem qtv (x:Str):inW [99,111,108,103,114,111,117,112] x=decide (x=[99,111,108,103,114,111,117,112]):=by unfold inW;rw [qso];simp
theorem zaz:qbo [116,98,111,100,121]=[[116,98,111,100,121]]:=by decide +kernel
theorem zch (x:Str):inW [116,98,111,100,121] x=decide (x=[116,98,111,100,121]):=by unfold inW;rw [zaz];simp
theorem zay:qbo [116,102,111,111,116]=[[116,102,111,111,116]]:=by decide +kernel
theorem zcg (x:Str):inW [116,102,111,111,116] x=decide (x=[116,102,111,111,116]):=by unfold inW;rw [zay];simp
theorem zax:qbo [116,104,101,97,100]=[[116,104,101,97,100]]:=by decide +kernel
theorem zcf (x:Str):inW [116,104,101,97,100] x=decide (x=[116,104,101,97,100]):=by unfold inW;rw [zax];simp
theorem sp_wtr:qbo [116,114]=[[116,114]]:=by decide +kernel
theorem in_wtr (x:Str):inW [116,114] x=decide (x=[116,114]):=by unfold inW;rw [sp_wtr];simp
theorem el_html {n:Nd} (hk:n.kind=1) (hs:n.space=0) (W:Str):elB n W=inW W n.name:=by simp [elB,hk,hs]
def freeR (L:List Nd) (x:Str):Bool:=
 if inW zc1 x=true then false
 else if ((qd3 0 x || inW qvb x || inW lsB1 x) && qdu L [112] 2)=true then false
 else if (qd3 0 x && elB (qap L) lsB3)=true then false
 else if (decide (x=[102,111,114,109]) && qln L || decide (x=[97]) && qfj L)=true then false
 else if (decide (x=[98,117,116,116,111,110]∨x=[110,111,98,114]) && qdu L x 0)=true then false
 else if (decide (x=[108,105]) && qeb L [108,105] || inW [100,100,32,100,116] x && qeb L [100,100,32,100,116])=true then false
 else !inW lsB6 x || !elB (qap L) [111,112,116,105,111,110]
theorem free_eq (L:List Nd) (x:Str):freeR L x=qlm L x:=by
 have eu:elB (qap L) lsB3=(decide ((qap L).kind=1) && qd3 (qap L).space (qap L).name):=by simp [elB,qd3,Bool.and_assoc]
 unfold freeR qlm quc
 rw [eu]
 generalize (decide ((qap L).kind=1) && qd3 (qap L).space (qap L).name)=b0
 generalize elB (qap L) [111,112,116,105,111,110]=b1
 generalize qfj L=b2
 generalize qln L=b3
 generalize qdu L [112] 2=b4
 generalize qeb L [100,100,32,100,116]=b5
 generalize hb6:inW qvb x=b6
 unfold qd3
 rw [in_caps,in_e6,in_ddt,in_opg,qvn]
 by_cases h_caption:x=[99,97,112,116,105,111,110]
 ·subst h_caption;clear hb6;simp
 by_cases h_col:x=[99,111,108]
 ·subst h_col;clear hb6;simp
 by_cases h_colgroup:x=[99,111,108,103,114,111,117,112]
 ·subst h_colgroup;clear hb6;simp
 by_cases h_tbody:x=[116,98,111,100,121]
 ·subst h_tbody;clear hb6;simp
 by_cases h_td:x=[116,100]
 ·subst h_td;clear hb6;simp
 by_cases h_tfoot:x=[116,102,111,111,116]
 ·subst h_tfoot;clear hb6;simp
 by_cases h_th:x=[116,104]
 ·subst h_th;clear hb6;simp
 by_cases h_thead:x=[116,104,101,97,100]
 ·subst h_thead;clear hb6;simp
 by_cases h_tr:x=[116,114]
 ·subst h_tr;clear hb6;simp
 by_cases h_h1:x=[104,49]
 ·subst h_h1;clear hb6;simp
 by_cases h_h2:x=[104,50]
 ·subst h_h2;clear hb6;simp
 by_cases h_h3:x=[104,51]
 ·subst h_h3;clear hb6;simp
 by_cases h_h4:x=[104,52]
 ·subst h_h4;clear hb6;simp
 by_cases h_h5:x=[104,53]
 ·subst h_h5;clear hb6;simp
 by_cases h_h6:x=[104,54]
 ·subst h_h6;clear hb6;simp
 by_cases h_hr:x=[104,114]
 ·subst h_hr;clear hb6;simp
 by_cases h_table:x=[116,97,98,108,101]
 ·subst h_table;clear hb6;simp
 by_cases h_form:x=[102,111,114,109]
 ·subst h_form;clear hb6;simp
 by_cases h_li:x=[108,105]
 ·subst h_li;clear hb6;simp
 by_cases h_dd:x=[100,100]
 ·subst h_dd;clear hb6;simp
 by_cases h_dt:x=[100,116]
 ·subst h_dt;clear hb6;simp
 by_cases h_button:x=[98,117,116,116,111,110]
 ·subst h_button;clear hb6;simp
 by_cases h_nobr:x=[110,111,98,114]
 ·subst h_nobr;clear hb6;simp
 by_cases h_a:x=[97]
 ·subst h_a;clear hb6;simp
 by_cases h_option:x=[111,112,116,105,111,110]
 ·subst h_option;clear hb6;simp
 by_cases h_optgroup:x=[111,112,116,103,114,111,117,112]
 ·subst h_optgroup;clear hb6;simp
 simp [*]
set_option maxHeartbeats 8000000 in
theorem c99 {T:List (Entry Tryz.prog)} (hc0:qag 65 T=some e65.g) (hc1:qag 129 T=some e129.g) (hc2:qag 130 T=some e130.g) (hc3:qag 64 T=some e64.g) (hc4:qag 128 T=some e128.g) (hc5:qag 131 T=some e131.g) (hc6:qag 132 T=some e132.g) (hc7:qag 133 T=some e133.g) (L:List Nd) (n:Nd) (hp:okP L) (hk:n.kind=1) (hs:n.space=0):CallAt (ctx T) 99 [qa5 L,qaj n] ⟨0,[]⟩ (.bool (qlm L n.name)) ⟨0,[]⟩:=by
 have kc0:=@k65 T hc0
 have kc1:=@k129 T hc1
 have kc2:=@k130 T hc2
 have kc3:=@k64 T hc3
 have kc4:=@k128 T hc4
 have kc5:=@k131 T hc5
 have kc6:=@k132 T hc6
 have kc7:=@k133 T hc7
 have hl:L.length≤1000000:=by have:=hp.1;omega
 rw [← free_eq]
 obtain ⟨x,hx⟩ : ∃ x,n.name=x:=⟨_,rfl⟩
 have k0:=fun H=>kc0 L hl H
 have k1:=fun H=>kc1 0 x H
 have k2:=fun H=>kc2 x H
 have k3a:=fun H=>kc3 n zc1 (by decide) H
 have k3b:=fun H=>kc3 n lsB1 (by decide) H
 have k3c:=fun H=>kc3 n [100,100,32,100,116] (by decide) H
 have k3d:=fun H=>kc3 n lsB6 (by decide) H
 have k3e:=fun H=>kc3 (qap L) lsB3 (by decide) H
 have k3f:=fun H=>kc3 (qap L) [111,112,116,105,111,110] (by decide) H
 have k4:=fun H=>kc4 L [112] 2 hl (by decide) H
 have k4x:=fun (hq:x.length≤900000) H=>kc4 L x 0 hl hq H
 have k5:=fun H=>kc5 L hl H
 have k6:=fun H=>kc6 L hl H
 have k7:=fun H=>kc7 L [108,105] hl (by decide) H
 have k7b:=fun H=>kc7 L [100,100,32,100,116] hl (by decide) H
 simp only [el_html hk hs,hx] at k3a k3b k3c k3d
 clear kc0 kc1 kc2 kc3 kc4 kc5 kc6 kc7 hc0 hc1 hc2 hc3 hc4 hc5 hc6 hc7
 rw [hx]
 unfold freeR
 generalize inW zc1 x=c1 at *
 generalize inW lsB1 x=c2 at *
 generalize inW [100,100,32,100,116] x=c3 at *
 generalize inW lsB6 x=c4 at *
 generalize inW qvb x=c5 at *
 generalize qd3 0 x=c6 at *
 generalize elB (qap L) lsB3=d1 at *
 generalize elB (qap L) [111,112,116,105,111,110]=d2 at *
 generalize qfj L=b2 at *
 generalize qln L=b3 at *
 generalize qdu L [112] 2=b4 at *
 generalize qeb L [100,100,32,100,116]=b5 at *
 generalize qeb L [108,105]=b6 at *
 generalize qdu L x 0=b7 at *
 generalize qap L=up at *
 refine qa3 (fn:=Tryz.f99) (s0:=⟨[0,1,3,4,5],[qa5 L,qaj n,.undef,.undef,.undef],[],89,⟨0,[[]]⟩⟩) Tryz.func99 rfl rfl rfl ?_
 (repeat' (first
  | with_reducible refine qah ?_
  | (with_reducible refine qa0 qa1 ?_;apply qbn;simp [zS, *,qao];exact rfl)
  | (with_reducible refine qas ?_;simp only [qaa,qa2])
  | (with_reducible refine qaz (fun hc=>?_) (fun hc=>?_) <;> ((have hd:=hc);(try simp at hd);(try subst hd);apply qbn;simp [zS, *,qao];exact rfl))
  | (refine qai rfl ?_)
  | (refine qal rfl ?_)
  | (refine qau rfl (fun hc=>?_) (fun hc=>?_) <;> ((have hd:=hc);(try simp at hd);(try subst hd)))
  | (with_reducible refine qa7 ?_;simp only [qaa,qa2])
  | (with_reducible refine qa8 ?_;simp [qab,Tryz.f99,oneOr,qaa,qa2])))
 all_goals first | exact qa4 rfl (by first | (simp [*];done) | (simp_all;done)) | (exfalso;omega)
theorem inj_99 (x y:List Nd × Nd) (h:(fun z:List Nd × Nd=>([qa5 z.1,qaj z.2]:List AV)) x=(fun z:List Nd × Nd=>([qa5 z.1,qaj z.2]:List AV)) y):x=y:=by
 obtain ⟨x0,x1⟩:=x
 obtain ⟨y0,y1⟩:=y
 simp only [List.cons.injEq,and_true] at h
 obtain ⟨h0,h1⟩:=h
 have g0:x0=y0:=qc4 h0
 have g1:x1=y1:=qcd h1
 subst g0 g1
 rfl
noncomputable def e99:Entry Tryz.prog:=mkE 99 [[7],[0,0,0,2,0,0,1]] (fun z:List Nd × Nd=>[qa5 z.1,qaj z.2]) (fun z=>(okP z.1)∧(z.2.kind=1)∧(z.2.space=0)) (fun z=>.bool (qlm z.1 z.2.name)) fun z h=>c99 (T:=[e65,e129,e130,e64,e128,e131,e132,e133]) rfl rfl rfl rfl rfl rfl rfl rfl z.1 z.2 h.1 h.2.1 h.2.2
theorem k99 {T:List (Entry Tryz.prog)} (hT:qag 99 T=some e99.g) (L:List Nd) (n:Nd) (hp:okP L) (hk:n.kind=1) (hs:n.space=0) (H:Heap):qb9 (ctx T) (.fn 99) [qa5 L,qaj n] H=some (.bool (qlm L n.name),H):=
 qae hT inj_99 (L,n) ⟨hp,hk,hs⟩ rfl (by simp [qar])
def parsS:List Str:=[[115,101,108,101,99,116],[116,97,98,108,101],[99,111,108,103,114,111,117,112],[116,98,111,100,121],[116,102,111,111,116],[116,104,101,97,100],[116,114]]
def kidsS:List Str:=[lsB6,lsB18,[99,111,108],[116,114],[116,114],[116,114],[116,100,32,116,104]]
def ql5 (u:Nd):List Str→List Str→Str × Bool
 | p::ps,k::ks=>if elB u p=true then (k,true) else ql5 u ps ks
 | _,_=>([],false)
def qfz (L:List Nd):Str × Bool:=
 if (qi5 (qap L).space (qap L).name && decide ((qap L).kind=1) || elB (qap L) [116,101,120,116,97,114,101,97])=true then ([],true)
 else if (elB (qap L) [111,112,116,105,111,110] && qdu L [115,101,108,101,99,116] 4)=true then ([],true)
 else if (elB (qap L) [111,112,116,103,114,111,117,112] && qdu L [115,101,108,101,99,116] 4)=true then ([111,112,116,105,111,110],true)
 else ql5 (qap L) parsS kidsS
theorem zai {sp:Int} {x:Str} (h:¬ sp=0):qi5 sp x=false:=by simp [qi5,h]
theorem qsj (L:List Nd):qfz L=if (qd5 L).2=true then qd5 L else ([],false):=by
 unfold qfz
 unfold qd5
 generalize qdu L [115,101,108,101,99,116] 4=b2
 generalize qap L=u
 obtain ⟨kind,space,name,attrs,data,up,kids⟩:=u
 simp only [elB,parsS,kidsS,ql5]
 by_cases h1:kind=1
 ·subst h1
  by_cases h2:space=0
  ·subst h2
   simp only [qzn,qtu,qtt,qzm,zci,qtv,zch,zcg,zcf,in_wtr]
   generalize qi5 0 name=v
   cases v with
   | true=>simp
   | false=>
    by_cases a0:name=[116,101,120,116,97,114,101,97]
    ·subst a0;simp
    by_cases a1:name=[111,112,116,105,111,110]
    ·subst a1;cases b2 <;> simp
    by_cases a2:name=[111,112,116,103,114,111,117,112]
    ·subst a2;cases b2 <;> simp
    by_cases a3:name=[115,101,108,101,99,116]
    ·subst a3;simp
    by_cases a4:name=[116,97,98,108,101]
    ·subst a4;simp
    by_cases a5:name=[99,111,108,103,114,111,117,112]
    ·subst a5;simp
    by_cases a6:name=[116,98,111,100,121]
    ·subst a6;simp
    by_cases a7:name=[116,102,111,111,116]
    ·subst a7;simp
    by_cases a8:name=[116,104,101,97,100]
    ·subst a8;simp
    by_cases a9:name=[116,114]
    ·subst a9;simp
    simp [*]
  ·simp [h2,zai h2]
 ·simp [h1]
def qwh (p:Prop):Prop:=p
theorem qvv (u:Nd):∀ (ps ks:List Str) (i:Nat) (h:i < ps.length) (h2:i < ks.length),ql5 u (ps.drop i) (ks.drop i)=if elB u ps[i]=true then (ks[i],true) else ql5 u (ps.drop (i+1)) (ks.drop (i+1)):=fun ps ks i h h2=>by
 rw [List.drop_eq_getElem_cons h,List.drop_eq_getElem_cons h2];rfl
set_option maxHeartbeats 2000000 in
theorem c98 {T:List (Entry Tryz.prog)} (hc0:qag 65 T=some e65.g) (hc1:qag 102 T=some e102.g) (hc2:qag 64 T=some e64.g) (hc3:qag 128 T=some e128.g) (L:List Nd) (hp:okP L):CallAt (ctx T) 98 [qa5 L] ⟨0,[]⟩ (.tup [.str (qfz L).1,.bool (qfz L).2]) ⟨0,[]⟩:=by
 have kc0:=@k65 T hc0
 have kc1:=@k102 T hc1
 have kc2:=@k64 T hc2
 have kc3:=@k128 T hc3
 have hl:L.length≤1000000:=by have:=hp.1;omega
 have k0:=fun H=>kc0 L hl H
 have k1:=fun H=>kc1 (qap L).space (qap L).name H
 have k2a:=fun H=>kc2 (qap L) [116,101,120,116,97,114,101,97] (by decide) H
 have k2b:=fun H=>kc2 (qap L) [111,112,116,105,111,110] (by decide) H
 have k2c:=fun H=>kc2 (qap L) [111,112,116,103,114,111,117,112] (by decide) H
 have k2h:qwh (∀ x (hx:x.length≤900000) H,qb9 (ctx T) (.fn 64) [qaj (qap L),.str x] H=some (.bool (elB (qap L) x),H)):=fun x hx H=>kc2 (qap L) x hx H
 have k3:=fun H=>kc3 L [115,101,108,101,99,116] 4 hl (by decide) H
 clear kc0 kc1 kc2 kc3 hc0 hc1 hc2 hc3
 simp only [qfz]
 generalize qdu L [115,101,108,101,99,116] 4=b2 at *
 generalize qap L=u at *
 generalize ht1:elB u [116,101,120,116,97,114,101,97]=t1 at *
 generalize ht2:elB u [111,112,116,105,111,110]=t2 at *
 generalize ht3:elB u [111,112,116,103,114,111,117,112]=t3 at *
 generalize qi5 u.space u.name=b1 at *
 clear ht1 ht2 ht3
 obtain ⟨R,hR⟩ : ∃ R,R=(if (b1 && decide (u.kind=1) || t1)=true then ([],true) else if (t2 && b2)=true then ([],true) else if (t3 && b2)=true then ([111,112,116,105,111,110],true) else ql5 u parsS kidsS):=⟨_,rfl⟩
 rw [← hR]
 refine qa3 (fn:=Tryz.f98) (s0:=⟨[0,2,3,4,5,6,7,8],[qa5 L,.undef,.undef,.undef,.undef,.undef,.undef,.undef],[],55,⟨0,[[]]⟩⟩) Tryz.func98 rfl rfl rfl ?_
 (repeat' (first
  | with_reducible refine qah ?_
  | (with_reducible refine qa0 qa1 ?_;apply qbn;simp [zS,qao, *];exact rfl)
  | (with_reducible refine qas ?_;simp only [qaa,qa2])
  | (with_reducible refine qaz (fun hc=>?_) (fun hc=>?_) <;> ((have hd:=hc);(try simp at hd);(try subst hd);apply qbn;simp [zS,qao, *];exact rfl))
  | (refine qai rfl ?_)
  | (refine qal rfl ?_)
  | (refine qau rfl (fun hc=>?_) (fun hc=>?_) <;> ((have hd:=hc);(try simp at hd);(try subst hd)))
  | (with_reducible refine qa7 ?_;simp only [qaa,qa2])
  | (with_reducible refine qa8 ?_;simp [qab,Tryz.f98,oneOr,qaa,qa2])))
 all_goals first | exact qa4 rfl (by rw [hR];simp [*]) | skip
 all_goals
  have hR':R=ql5 u parsS kidsS:=by rw [hR];simp [*]
  rw [hR']
  clear hR' hR k2a k2b k2c
  have hP:∀ p,p∈parsS→p.length≤900000:=by decide
  refine qa9 (qax (fun i:Nat=>(⟨[0,2,3,4,5,6,7,8],[qa5 L,.str [],.bool false,.fptr u.cs 0,.undef,qc5 parsS,qc5 kidsS,.int .i64 (i:Int)],[],55,⟨0,[[]]⟩⟩ : St))
   (fun i=>i≤7∧ql5 u parsS kidsS=ql5 u (parsS.drop i) (kidsS.drop i)) (fun i=>7 - i) [] [(2,kidsS.map .str),(1,parsS.map .str),(0,u.cs)] 0 ⟨by decide,rfl⟩ ⟨rfl,rfl,rfl,?_,?_⟩ ?_)
  ·simp [qb6,qay,qc1,qaf,qac,qeu,qed,parsS,kidsS,qc5,qan,qdt]
  ·refine FitH.fsV (.froze (by simp) fun x hx=>?_) rfl
   simp at hx
   rcases hx with rfl | rfl | rfl
   ·exact ⟨kidsS.map .str,by simp [Heap.get,getFs,getF,kidsS],qak (by simp [kidsS,qac,qaf]),by simp [kidsS,qac,qaf]⟩
   ·exact ⟨parsS.map .str,by simp [Heap.get,getFs,getF,parsS],qak (by simp [parsS,qac,qaf]),by simp [parsS,qac,qaf]⟩
   ·exact ⟨u.cs,by simp [Heap.get,getFs,getF],qak (qev u),qev u⟩
  rintro i ⟨hi,hx⟩ B hB
  by_cases h:i < 7
  ·have hc:(i:Int) < 7:=by omega
   have h1:i < parsS.length:=h
   have h2:i < kidsS.length:=h
   have hls:∀ H,qe3 Tryz.prog H 92 (qc5 parsS)=some 7:=fun H=>rfl
   have hix:=atS h1
   have hix2:=atS h2
   have ha:=qba (show i≤1000000000 by omega)
   rw [qvv u parsS kidsS i h1 h2] at hx
   have ki:=fun H=>k2h parsS[i] (hP _ (List.getElem_mem h1)) H
   clear k2h hP
   generalize kidsS[i]=kk at *
   generalize parsS[i]=pp at *
   generalize elB u pp=b at *
   generalize parsS=PS at *
   generalize kidsS=KS at *
   (repeat' (first
    | with_reducible refine qah ?_
    | with_reducible refine qa9 ?_
    | (with_reducible refine qa0 qa1 ?_;apply qbn;simp [zS, *,qao];exact rfl)
    | (refine qbh qci qa1 (by decide +kernel) (by decide +kernel) ?_;apply qbn;simp [zS,qbx,qbd,qb8, *,qao];exact rfl)
    | (with_reducible refine qas ?_;simp only [qaa,qa2])
    | (refine qai rfl ?_)
    | (refine qau rfl (fun hc=>?_) (fun hc=>?_) <;> ((have hd:=hc);(try simp at hd);(try subst hd)))
    | (with_reducible refine qa7 ?_;simp only [qaa,qa2])
    | (with_reducible refine qa8 ?_;simp [qab,Tryz.f98,oneOr,qaa,qa2])))
   all_goals first | exact qa4 rfl (by rw [hx];simp [*]) | (exact hB _ (i+1) (by omega) ⟨by omega,by rw [hx];simp [*]⟩ ⟨[],[],⟨rfl,rfl,rfl,by simp [qb6,qay,qaf,qac],FitH.nothing⟩⟩) | (exfalso;omega)
  ·have hc:¬ (i:Int) < 7:=by omega
   have hls:∀ H,qe3 Tryz.prog H 92 (qc5 parsS)=some 7:=fun H=>rfl
   obtain rfl:i=7:=by omega
   (repeat' (first
    | with_reducible refine qah ?_
    | (with_reducible refine qa0 qa1 ?_;apply qbn;simp [zS, *];exact rfl)
    | (with_reducible refine qas ?_;simp only [qaa,qa2])
    | (refine qal rfl ?_)
    | (with_reducible refine qat ?_;simp [qaa,qa2])
    | (with_reducible refine qa8 ?_;simp [qab,Tryz.f98,oneOr,qaa,qa2])))
   all_goals first | exact qa4 rfl (by rw [hx];rfl) | (exfalso;omega)
theorem inj_98 (x y:List Nd) (h:(fun z:List Nd=>([qa5 z]:List AV)) x=(fun z:List Nd=>([qa5 z]:List AV)) y):x=y:=by
 simp only [List.cons.injEq,and_true] at h
 exact qc4 h
noncomputable def e98:Entry Tryz.prog:=mkE 98 [[7]] (fun z:List Nd=>[qa5 z]) (fun z=>(okP z)) (fun z=>.tup [.str (qfz z).1,.bool (qfz z).2]) fun z h=>c98 (T:=[e65,e102,e64,e128]) rfl rfl rfl rfl z h
theorem k98 {T:List (Entry Tryz.prog)} (hT:qag 98 T=some e98.g) (L:List Nd) (hp:okP L) (H:Heap):qb9 (ctx T) (.fn 98) [qa5 L] H=some (.tup [.str (qfz L).1,.bool (qfz L).2],H):=
 qdd hT inj_98 (L) hp (by simp [qac,qaf,qar]) (by simp [qar]) H
set_option maxHeartbeats 2000000 in
theorem c60 {T:List (Entry Tryz.prog)} (hc0:qag 65 T=some e65.g) (hc1:qag 96 T=some e96.g) (hc2:qag 97 T=some e97.g) (hc3:qag 98 T=some e98.g) (hc4:qag 64 T=some e64.g) (hc5:qag 99 T=some e99.g) (L:List Nd) (n:Nd) (hp:okP L) (hn:okN n):CallAt (ctx T) 60 [qa5 L,qaj n] ⟨0,[]⟩ (.bool (qti L n)) ⟨0,[]⟩:=by
 have kc0:=@k65 T hc0
 have kc1:=@k96 T hc1
 have kc2:=@k97 T hc2
 have kc3:=@k98 T hc3
 have kc4:=@k64 T hc4
 have kc5:=@k99 T hc5
 have hl:L.length≤1000000:=by have:=hp.1;omega
 have hpo:=qh2 hp
 have a2:(qfz L).1.length≤900000:=by
  rw [qsj]
  split
  ·exact Nat.le_trans (qm3 L).2 (by decide)
  ·simp
 have k0:=fun H=>kc0 L hl H
 have k1:=fun H=>kc1 n.space n.name H
 have k2:=fun H=>kc2 (qap L) hpo H
 have k3:=fun H=>kc3 L hp H
 have k4:=fun H=>kc4 n (qfz L).1 a2 H
 have k5:=fun (hk:n.kind=1) (hs:n.space=0) H=>kc5 L n hp hk hs H
 have es:=qsj L
 clear kc0 kc1 kc2 kc3 kc4 kc5 hc0 hc1 hc2 hc3 hc4 hc5 hpo a2
 obtain ⟨R,hR⟩ : ∃ R,R=qti L n:=⟨_,rfl⟩
 rw [← hR]
 simp only [qti,qyk] at hR
 obtain ⟨tk,htk⟩ : ∃ tk,tk=(decide ((qap L).kind=1) && decide ((qap L).space=0) || qez (qap L) || qe9 (qap L)):=⟨_,rfl⟩
 have hcond:(((qap L).kind≠1∨(qap L).space≠0)∧qez (qap L)=false∧qe9 (qap L)=false)=(tk=false):=by
  rw [htk]
  cases qez (qap L) <;> cases qe9 (qap L) <;> by_cases q1:(qap L).kind=1 <;> by_cases q2:(qap L).space=0 <;> simp [q1,q2]
 simp only [hcond] at hR
 rw [← htk] at k2
 clear htk hcond
 have hsp:n.space=0∨n.space=1∨n.space=2∨(¬ n.space=0∧¬ n.space=1∧¬ n.space=2∧qjd n.space n.name=false):=by
  by_cases s0:n.space=0
  ·exact .inl s0
  by_cases s1:n.space=1
  ·exact .inr (.inl s1)
  by_cases s2:n.space=2
  ·exact .inr (.inr (.inl s2))
  exact .inr (.inr (.inr ⟨s0,s1,s2,by simp [qjd,s0,s1,s2]⟩))
 rcases Bool.eq_false_or_eq_true (qd5 L).2 with hb | hb
 ·rw [if_pos hb] at es
  rw [es] at k3 k4
  generalize elB n (qd5 L).1=b6 at *
  generalize qd5 L=st at *
  obtain ⟨s1,s2⟩:=st
  simp only at hb
  subst hb
  generalize qlm L n.name=b7 at *
  generalize qjd n.space n.name=b1 at *
  clear es k5
  generalize qap L=up at *
  simp only at k3 k4 hR
  rcases hsp with hq | hq | hq | ⟨hq,hq2,hq3,rfl⟩
  all_goals
   try rw [hq] at k1
   refine qa3 (fn:=Tryz.f60) (s0:=⟨[0,1,3,4,5,6,7],[qa5 L,qaj n,.undef,.undef,.undef,.undef,.undef],[],82,⟨0,[[]]⟩⟩) Tryz.func60 rfl rfl rfl ?_
   (repeat' (first
    | with_reducible refine qah ?_
    | (with_reducible refine qa0 qa1 ?_;apply qbn;simp [zS, *,qao];exact rfl)
    | (with_reducible refine qas ?_;simp only [qaa,qa2])
    | (with_reducible refine qaz (fun hc=>?_) (fun hc=>?_) <;> ((have hd:=hc);(try simp at hd);(try subst hd);apply qbn;simp [zS, *,qao];exact rfl))
    | (refine qai rfl ?_)
    | (refine qau rfl (fun hc=>?_) (fun hc=>?_) <;> ((have hd:=hc);(try simp at hd);(try subst hd)))
    | (with_reducible refine qa7 ?_;simp only [qaa,qa2])
    | (with_reducible refine qa8 ?_;simp [qab,Tryz.f60,oneOr,qaa,qa2])))
   all_goals first | exact qa4 rfl (by rw [hR];first | (simp [*];done) | (simp_all;done)) | (exfalso;omega)
 ·rw [if_neg (by simp [hb])] at es
  rw [es] at k3 k4
  rw [hb] at hR
  generalize qlm L n.name=b7 at *
  generalize qjd n.space n.name=b1 at *
  clear es k4 hb
  generalize qap L=up at *
  simp only at k3 hR
  rcases hsp with hq | hq | hq | ⟨hq,hq2,hq3,rfl⟩
  all_goals
   try rw [hq] at k1
   refine qa3 (fn:=Tryz.f60) (s0:=⟨[0,1,3,4,5,6,7],[qa5 L,qaj n,.undef,.undef,.undef,.undef,.undef],[],82,⟨0,[[]]⟩⟩) Tryz.func60 rfl rfl rfl ?_
   (repeat' (first
    | with_reducible refine qah ?_
    | (with_reducible refine qa0 qa1 ?_;apply qbn;simp [zS, *,qao];exact rfl)
    | (with_reducible refine qas ?_;simp only [qaa,qa2])
    | (with_reducible refine qaz (fun hc=>?_) (fun hc=>?_) <;> ((have hd:=hc);(try simp at hd);(try subst hd);apply qbn;simp [zS, *,qao];exact rfl))
    | (refine qai rfl ?_)
    | (refine qal rfl ?_)
    | (refine qau rfl (fun hc=>?_) (fun hc=>?_) <;> ((have hd:=hc);(try simp at hd);(try subst hd)))
    | (with_reducible refine qa7 ?_;simp only [qaa,qa2])
    | (with_reducible refine qa8 ?_;simp [qab,Tryz.f60,oneOr,qaa,qa2])))
   all_goals first | exact qa4 rfl (by rw [hR];first | (simp [*];done) | (simp_all;done)) | (exfalso;omega)
theorem inj_60 (x y:List Nd × Nd) (h:(fun z:List Nd × Nd=>([qa5 z.1,qaj z.2]:List AV)) x=(fun z:List Nd × Nd=>([qa5 z.1,qaj z.2]:List AV)) y):x=y:=by
 obtain ⟨x0,x1⟩:=x
 obtain ⟨y0,y1⟩:=y
 simp only [List.cons.injEq,and_true] at h
 obtain ⟨h0,h1⟩:=h
 have g0:x0=y0:=qc4 h0
 have g1:x1=y1:=qcd h1
 subst g0 g1
 rfl
noncomputable def e60:Entry Tryz.prog:=mkE 60 [[7],[0,0,0,2,0,0,1]] (fun z:List Nd × Nd=>[qa5 z.1,qaj z.2]) (fun z=>(okP z.1)∧(okN z.2)) (fun z=>.bool (qti z.1 z.2)) fun z h=>c60 (T:=[e65,e96,e97,e98,e64,e99]) rfl rfl rfl rfl rfl rfl z.1 z.2 h.1 h.2
theorem k60 {T:List (Entry Tryz.prog)} (hT:qag 60 T=some e60.g) (L:List Nd) (n:Nd) (hp:okP L) (hn:okN n) (H:Heap):qb9 (ctx T) (.fn 60) [qa5 L,qaj n] H=some (.bool (qti L n),H):=
 qae hT inj_60 (L,n) ⟨hp,hn⟩ rfl (by simp [qar])
def za6 (sp:Int):Str:=if sp=2 then [100,101,102,105,110,105,116,105,111,110,85,82,76] else if sp=1 then lsB9 else []
theorem odd_in (sp:Int) (s:Str):inW (za6 sp) s=decide (s∈qf1 sp):=by
 have e1:qbo lsB9=[[118,105,101,119,66,111,120],lsB7,[103,114,97,100,105,101,110,116,85,110,105,116,115]]:=by decide +kernel
 have e2:qbo [100,101,102,105,110,105,116,105,111,110,85,82,76]=[[100,101,102,105,110,105,116,105,111,110,85,82,76]]:=by decide +kernel
 have e3:qbo []=[]:=by decide +kernel
 unfold inW za6 qf1
 by_cases h1:sp=1
 ·subst h1;simp only [show ¬ (1:Int)=2 by decide,if_false,if_true,e1]
 ·by_cases h2:sp=2
  ·subst h2;simp only [show ¬ (2:Int)=1 by decide,if_false,if_true,e2]
  ·simp only [h1,h2,if_false,e3]
theorem odd_low (sp:Int) (s:Str):inW (qer (za6 sp)) s=qvc (qf1 sp) s:=by
 have e1:qbo (qer lsB9)=[[118,105,101,119,66,111,120],lsB7,[103,114,97,100,105,101,110,116,85,110,105,116,115]].map qer:=by decide +kernel
 have e2:qbo (qer [100,101,102,105,110,105,116,105,111,110,85,82,76])=[[100,101,102,105,110,105,116,105,111,110,85,82,76]].map qer:=by decide +kernel
 have e3:qbo (qer [])=[]:=by decide +kernel
 have key:∀ L:List Str,decide (s∈L.map qer)=qvc L s:=fun L=>by
  unfold qvc
  rw [Bool.eq_iff_iff]
  simp [List.mem_map,List.any_eq_true]
 unfold inW za6 qf1
 by_cases h1:sp=1
 ·subst h1;simp only [show ¬ (1:Int)=2 by decide,if_false,if_true,e1];exact key _
 ·by_cases h2:sp=2
  ·subst h2;simp only [show ¬ (2:Int)=1 by decide,if_false,if_true,e2];exact key _
  ·simp only [h1,h2,if_false,e3];rfl
theorem odd_len (sp:Int):(za6 sp).length≤1000:=by
 unfold za6
 split
 ·decide
 split
 ·decide
 ·decide
def sgB (c:UInt8):Bool:=decide (c.toNat=45) || decide (c.toNat=95) || decide (c.toNat=58) || (decide (48≤c.toNat) && decide (c.toNat≤57))
theorem sg_all:∀ n:Fin 256,decide (0≤Lib.indexByte qo9 (UInt8.ofNat n.val))=sgB (UInt8.ofNat n.val):=by decide +kernel
theorem sg_eq (c:UInt8):decide (0≤Lib.indexByte qo9 c)=sgB c:=by
 have:=sg_all ⟨c.toNat,c.toNat_lt⟩
 simpa using this
theorem okCh_eq (i:Nat) (c:UInt8):okCh i c=((decide (97≤(c.toNat:Int)) && decide ((c.toNat:Int)≤122)) || (decide (0 < (i:Int)) && (decide ((c.toNat:Int)=45) || decide ((c.toNat:Int)=95) || decide ((c.toNat:Int)=58) || (decide (48≤(c.toNat:Int)) && decide ((c.toNat:Int)≤57))))):=by
 unfold okCh
 rw [sg_eq]
 unfold sgB
 have h1:∀ n:Nat,decide (c.toNat=n)=decide ((c.toNat:Int)=(n:Int)):=fun n=>by rw [Bool.eq_iff_iff];simp only [decide_eq_true_eq];omega
 have h2:∀ n:Nat,decide (c.toNat≤n)=decide ((c.toNat:Int)≤(n:Int)):=fun n=>by rw [Bool.eq_iff_iff];simp only [decide_eq_true_eq];omega
 have h3:decide (48≤c.toNat)=decide (48≤(c.toNat:Int)):=by rw [Bool.eq_iff_iff];simp only [decide_eq_true_eq];omega
 rw [h1 45,h1 95,h1 58,h2 57,h3]
 rfl
set_option maxHeartbeats 2000000 in
theorem c100 {T:List (Entry Tryz.prog)} (hc0:qag 105 T=some e105.g) (hc1:qag 134 T=some e134.g) (sp:Int) (s:Str) (hs:s.length≤1000000):CallAt (ctx T) 100 [.int .i64 sp,.str s] ⟨0,[]⟩ (.bool (qmk sp s)) ⟨0,[]⟩:=by
 have kc0:=@k105 T hc0
 have kc1:=@k134 T hc1
 have lo:=odd_len sp
 have ll:(qer (za6 sp)).length≤900000:=by simp [qer];omega
 have k0:=fun H=>k105 hc0 (w:=za6 sp) s (by omega) H
 have k0b:=fun H=>k105 hc0 (w:=qer (za6 sp)) s ll H
 have k1:=fun H=>k134 hc1 (za6 sp) (by omega) H
 rw [odd_in] at k0
 rw [odd_low] at k0b
 unfold qmk
 generalize qvc (qf1 sp) s=lb at *
 generalize decide (s∈qf1 sp)=db at *
 obtain ⟨O,hO⟩ : ∃ O,O=za6 sp:=⟨_,rfl⟩
 rw [← hO] at k0 k0b k1
 obtain ⟨LO,hLO⟩ : ∃ LO,LO=qer O:=⟨_,rfl⟩
 rw [← hLO] at k0b k1
 clear kc0 kc1 hc0 hc1 ll lo hLO
 obtain ⟨R,hR⟩ : ∃ R,R=(db || (!(decide (s=[]) || lb) && qir s 0)):=⟨_,rfl⟩
 rw [← hR]
 have hcase:(sp=1∧O= lsB9)∨(sp=2∧O=[100,101,102,105,110,105,116,105,111,110,85,82,76])∨(¬ sp=1∧¬ sp=2∧O=[]):=by
  by_cases h1:sp=1
  ·exact .inl ⟨h1,by rw [hO,h1];rfl⟩
  by_cases h2:sp=2
  ·exact .inr (.inl ⟨h2,by rw [hO,h2];rfl⟩)
  exact .inr (.inr ⟨h1,h2,by rw [hO];unfold za6;rw [if_neg h2,if_neg h1]⟩)
 clear hO
 rcases hcase with ⟨rfl,rfl⟩ | ⟨rfl,rfl⟩ | ⟨h1,h2,rfl⟩
 all_goals
  have hs0:=hs
  refine qa3 (fn:=Tryz.f100) (s0:=⟨[0,1,4,5,6,7],[.int .i64 _,.str s,.undef,.undef,.undef,.undef],[],62,⟨0,[[]]⟩⟩) Tryz.func100 rfl rfl rfl ?_
  (repeat' (first
   | with_reducible refine qah ?_
   | with_reducible refine qa9 ?_
   | (with_reducible refine qa0 qa1 ?_;apply qbn;simp [zS, *];exact rfl)
   | (with_reducible refine qas ?_;simp only [qaa,qa2])
   | (with_reducible refine qaz (fun hc=>?_) (fun hc=>?_) <;> ((have hd:=hc);(try simp at hd);(try subst hd);apply qbn;simp [zS, *];exact rfl))
   | (refine qai rfl ?_)
   | (refine qal rfl ?_)
   | (refine qau rfl (fun hc=>?_) (fun hc=>?_) <;> ((have hd:=hc);(try simp at hd);(try subst hd)))
   | (with_reducible refine qa7 ?_;simp only [qaa,qa2])
   | (with_reducible refine qa8 ?_;simp [qab,Tryz.f100,oneOr,qaa,qa2])))
  all_goals first | exact qa4 rfl (by rw [hR];first | (simp [*];done) | (simp_all;done)) | (skip) | (exfalso;omega)
  have hR':R=qir s 0:=by rw [hR];simp [*]
  rw [hR']
  clear hR' hR k0 k0b k1
  refine (qax (fun i:Nat=>(⟨[0,1,4,5,6,7],[.undef,.str s,.bool false,.undef,.int .i64 (i:Int),.undef],[],62,⟨0,[[]]⟩⟩ : St))
   (fun i=>i≤s.length∧qir s 0=qir (s.drop i) i) (fun i=>s.length - i) [] [] 0 ⟨Nat.zero_le _,rfl⟩ ⟨rfl,rfl,rfl,by simp [qb6,qay,qaf,qac],FitH.nothing⟩ ?_)
  rintro i ⟨hi,hx⟩ B hB
  by_cases h:i < s.length
  ·have hc:(i:Int) < (s.length:Int):=by omega
   have hix:=qih h
   have ha:=qba (show i≤1000000000 by omega)
   have w1:wr .i64 1=some 1:=rfl
   rw [List.drop_eq_getElem_cons h] at hx
   simp only [qir] at hx
   have hok:qwh (okCh i s[i]=true↔((97≤(s[i].toNat:Int)∧(s[i].toNat:Int)≤122)∨(0 < (i:Int)∧((s[i].toNat:Int)=45∨(s[i].toNat:Int)=95∨(s[i].toNat:Int)=58∨(48≤(s[i].toNat:Int)∧(s[i].toNat:Int)≤57))))):=by
    unfold qwh
    rw [okCh_eq]
    simp [or_assoc]
   generalize s[i]=c at *
   generalize okCh i c=ok at *
   (repeat' (first
    | with_reducible refine qah ?_
    | with_reducible refine qa9 ?_
    | (with_reducible refine qa0 qa1 ?_;apply qbn;simp [zS, *];exact rfl)
    | (with_reducible refine qas ?_;simp only [qaa,qa2])
    | (with_reducible refine qaz (fun hc=>?_) (fun hc=>?_) <;> ((have hd:=hc);(try simp at hd);(try subst hd);apply qbn;simp [zS, *];exact rfl))
    | (with_reducible refine qj3 (fun hc=>?_) (fun hc=>?_) <;> ((have hd:=hc);(try simp at hd);(try subst hd);apply qbn;simp [zS, *];exact rfl))
    | (refine qai rfl ?_)
    | (refine qal rfl ?_)
    | (refine qau rfl (fun hc=>?_) (fun hc=>?_) <;> ((have hd:=hc);(try simp at hd);(try subst hd)))
    | (with_reducible refine qa7 ?_;simp only [qaa,qa2])
    | (with_reducible refine qa8 ?_;simp [qab,Tryz.f100,oneOr,qaa,qa2])))
   all_goals first | exact qa4 rfl (by rw [hx,show ok=false from Bool.eq_false_iff.2 (fun q=>by have:=hok.1 q;omega)];rfl) | (exact hB _ (i+1) (by omega) ⟨by omega,by rw [hx,hok.2 (by omega)];rfl⟩ ⟨[],[],⟨rfl,rfl,rfl,by simp [qb6,qay,qaf,qac],FitH.nothing⟩⟩) | (exfalso;omega)
  ·have hc:¬ (i:Int) < (s.length:Int):=by omega
   rw [List.drop_eq_nil_of_le (by omega)] at hx
   (repeat' (first
    | with_reducible refine qah ?_
    | (with_reducible refine qa0 qa1 ?_;apply qbn;simp [zS, *];exact rfl)
    | (with_reducible refine qas ?_;simp only [qaa,qa2])
    | (refine qal rfl ?_)
    | (with_reducible refine qat ?_;simp [qaa,qa2])
    | (with_reducible refine qa8 ?_;simp [qab,Tryz.f100,oneOr,qaa,qa2])))
   all_goals first | exact qa4 rfl (by rw [hx];rfl) | (exfalso;omega)
theorem inj_100 (x y:Int × Str) (h:(fun z:Int × Str=>([.int .i64 z.1,.str z.2]:List AV)) x=(fun z:Int × Str=>([.int .i64 z.1,.str z.2]:List AV)) y):x=y:=by
 obtain ⟨x0,x1⟩:=x
 obtain ⟨y0,y1⟩:=y
 simp only [List.cons.injEq,and_true] at h
 obtain ⟨h0,h1⟩:=h
 have g0:x0=y0:=AV.int.inj h0 |>.2
 have g1:x1=y1:=AV.str.inj h1
 subst g0 g1
 rfl
noncomputable def e100:Entry Tryz.prog:=mkE 100 [[],[]] (fun z:Int × Str=>[.int .i64 z.1,.str z.2]) (fun z=>(z.2.length≤1000000)) (fun z=>.bool (qmk z.1 z.2)) fun z h=>c100 (T:=[e105,e134]) rfl rfl z.1 z.2 h
theorem k100 {T:List (Entry Tryz.prog)} (hT:qag 100 T=some e100.g) (sp:Int) (s:Str) (hs:s.length≤1000000) (H:Heap):qb9 (ctx T) (.fn 100) [.int .i64 sp,.str s] H=some (.bool (qmk sp s),H):=
 qae hT inj_100 (sp,s) hs rfl (by simp [qar])
theorem zbz {L:List At1} {k i:Nat} (hk:k < i) (hi:i≤L.length):(qco (L.take i)).drop k=(L[k]'(by omega)).1::(qco (L.take i)).drop (k+1):=by
 have hl:(qco (L.take i)).length=i:=by simp [qco];omega
 rw [List.drop_eq_getElem_cons (by omega)]
 simp [qco]
theorem c61 {T:List (Entry Tryz.prog)} (hc0:qag 100 T=some e100.g) (hc1:qag 101 T=some e101.g) (n:Nd) (h:okN n):CallAt (ctx T) 61 [qaj n] ⟨0,[]⟩ (.bool (qfg n)) ⟨0,[]⟩:=by
 have kc0:=@k100 T hc0
 have kc1:=@k101 T hc1
 have hlen:=h.2.1
 refine qa3 (fn:=Tryz.f61) (s0:=⟨[0,1,2,3,4],[qaj n,.undef,.undef,.undef,.undef],[],50,⟨0,[[]]⟩⟩) Tryz.func61 rfl rfl rfl ?_
 repeat apply wq
 refine qa0 qa1 ?_
 simp [zS,qao]
 repeat apply wq
 refine qa0 qa1 ?_
 simp [zS]
 refine qa9 (qax (fun i:Nat=>(⟨[0,1,2,3,4],[.undef,.fptr n.cs 0,.bool false,.int .i64 (i:Int),.undef],[],50,⟨0,[[]]⟩⟩ : St))
  (fun i=>i≤n.attrs.length∧qfg n=attG n.space (qco (n.attrs.take i)) (n.attrs.drop i)) (fun i=>n.attrs.length - i) [] [(0,n.cs)] 0 ⟨Nat.zero_le _,by simp [qfg,qco]⟩ ⟨rfl,rfl,rfl,?_,?_⟩ ?_)
 ·simp [qb6,qay,qc1,qaf,qac]
 ·refine FitH.fsV (.froze (by simp) fun x hx=>?_) rfl
  simp at hx
  subst hx
  exact ⟨n.cs,by simp [Heap.get,getFs,getF],qak (qev n),qev n⟩
 rintro i ⟨hi,hx⟩ B hB
 have ha:=qba (show i≤1000000000 by omega)
 by_cases h2:i < n.attrs.length
 ·have hc:(i:Int) < (n.attrs.length:Int):=by omega
  have hix:=atA h2
  rw [List.drop_eq_getElem_cons h2] at hx
  simp only [attG] at hx
  obtain ⟨l1,l2⟩:=h.2.2.2 _ (List.getElem_mem h2)
  have hT:qco (n.attrs.take (i+1))=qco (n.attrs.take i)++[n.attrs[i].1]:=by
   rw [List.take_succ_eq_append_getElem h2];unfold qco;rw [List.map_append];rfl
  rw [← hT] at hx
  have kn:=fun H=>kc0 n.space n.attrs[i].1 (by omega) H
  have kl:=fun H=>kc1 n.attrs[i].2 (by omega) H
  have hstep:qwh (∀ k,k < i→qb1 Tryz.prog 28 (qb7 n.attrs) (.int .i64 (k:Int))=some (.fptr [.str (n.attrs.getD k ([],[])).1,.str (n.attrs.getD k ([],[])).2] 0)):=fun k hk=>by
   have hkl:k < n.attrs.length:=by omega
   rw [atA hkl]
   simp [hkl]
  have hmem:qwh (∀ k,k < i→(qco (n.attrs.take i)).drop k=(n.attrs.getD k ([],[])).1::(qco (n.attrs.take i)).drop (k+1)):=fun k hk=>by
   rw [zbz hk hi]
   simp [show k < n.attrs.length by omega]
  have hend:qwh ((qco (n.attrs.take i)).drop i=[]):=List.drop_eq_nil_of_le (by simp [qco];omega)
  generalize n.attrs[i]=a at *
  obtain ⟨x,y⟩:=a
  simp only at hT l1 l2 kn kl hx hix
  generalize qco (n.attrs.take i)=S at *
  clear kc0 kc1 hc0 hc1 hT
  obtain ⟨rest,hrest⟩ : ∃ rest,rest=attG n.space (qco (n.attrs.take (i+1))) (n.attrs.drop (i+1)):=⟨_,rfl⟩
  rw [← hrest] at hx
  have hnx:qwh (rest=attG n.space (qco (n.attrs.take (i+1))) (n.attrs.drop (i+1))):=hrest
  clear hrest
  generalize qmk n.space x=b1 at *
  generalize qg4 y=b2 at *
  (repeat' (first
   | with_reducible refine qah ?_
   | with_reducible refine qa9 ?_
   | (with_reducible refine qa0 qa1 ?_;apply qbn;simp [zS, *,qfo];exact rfl)
   | (refine qbh qci qa1 (by decide +kernel) (by decide +kernel) ?_;apply qbn;simp [zS,qbx,qbd,qb8, *,qfo];exact rfl)
   | (with_reducible refine qas ?_;simp only [qaa,qa2])
   | (with_reducible refine qg3 (fun hc=>?_) (fun hc=>?_) <;> ((have hd:=hc);(try simp at hd);(try subst hd);apply qbn;simp [zS,qbx,qbd,qb8, *,qfo];exact rfl))
   | (refine qai rfl ?_)
   | (refine qau rfl (fun hc=>?_) (fun hc=>?_) <;> ((have hd:=hc);(try simp at hd);(try subst hd)))
   | (with_reducible refine qa7 ?_;simp only [qaa,qa2])
   | (with_reducible refine qa8 ?_;simp [qab,Tryz.f61,oneOr,qaa,qa2])))
  all_goals first | exact qa4 rfl (by rw [hx];simp [*]) | (skip) | (exfalso;omega)
  simp only [*,Bool.and_true,Bool.true_and] at hx
  clear kn kl
  refine (qax (fun k:Nat=>(⟨[0,1,2,3,4],[.undef,.fptr n.cs 0,.bool false,.int .i64 (i:Int),.int .i64 (k:Int)],[],50,⟨0,[[]]⟩⟩ : St))
   (fun k=>k≤i∧decide (x∈S)=decide (x∈S.drop k)) (fun k=>i - k) [] [] 0 ⟨Nat.zero_le _,rfl⟩ ⟨rfl,rfl,rfl,by simp [qb6,qay,qaf,qac],FitH.nothing⟩ ?_)
  rintro k ⟨hk,hy⟩ B2 hB2
  by_cases h3:k < i
  ·have hc3:(k:Int) < (i:Int):=by omega
   have hix3:=hstep k h3
   rw [hmem k h3] at hy
   have hak:=qba (show k≤1000000000 by omega)
   clear hstep hmem hend
   generalize n.attrs.getD k ([],[])=a2 at *
   obtain ⟨x2,y2⟩:=a2
   simp only at hix3 hy
   by_cases he:x2=x
   ·subst he
    simp only [List.mem_cons,true_or,decide_true] at hy
    (repeat' (first
     | with_reducible refine qah ?_
     | with_reducible refine qa9 ?_
     | (with_reducible refine qa0 qa1 ?_;apply qbn;simp [zS, *,qfo];exact rfl)
     | (refine qbh qci qa1 (by decide +kernel) (by decide +kernel) ?_;apply qbn;simp [zS,qbx,qbd,qb8, *,qfo];exact rfl)
     | (with_reducible refine qas ?_;simp only [qaa,qa2])
     | (refine qai rfl ?_)
     | (with_reducible refine qa7 ?_;simp only [qaa,qa2])
     | (with_reducible refine qa8 ?_;simp [qab,Tryz.f61,oneOr,qaa,qa2])))
    all_goals first | exact qa4 rfl (by rw [hx,hy];rfl) | (exfalso;omega)
   ·have he2:¬ x=x2:=fun q=>he q.symm
    simp only [List.mem_cons,he2,false_or] at hy
    (repeat' (first
     | with_reducible refine qah ?_
     | with_reducible refine qa9 ?_
     | (with_reducible refine qa0 qa1 ?_;apply qbn;simp [zS, *,qfo];exact rfl)
     | (refine qbh qci qa1 (by decide +kernel) (by decide +kernel) ?_;apply qbn;simp [zS,qbx,qbd,qb8, *,qfo];exact rfl)
     | (with_reducible refine qas ?_;simp only [qaa,qa2])
     | (refine qai rfl ?_)
     | (refine qal rfl ?_)
     | (with_reducible refine qa7 ?_;simp only [qaa,qa2])))
    all_goals first | (exact hB2 _ (k+1) (by omega) ⟨by omega,hy⟩ ⟨[],[],⟨rfl,rfl,rfl,by simp [qb6,qay,qaf,qac],FitH.nothing⟩⟩) | (exfalso;omega)
  ·have hc3:¬ (k:Int) < (i:Int):=by omega
   obtain rfl:k=i:=by omega
   have hend':S.drop k=[]:=hend
   rw [hend'] at hy
   simp only [List.not_mem_nil,decide_false] at hy
   clear hend hend' hstep hmem
   (repeat' (first
    | with_reducible refine qah ?_
    | (with_reducible refine qa0 qa1 ?_;apply qbn;simp [zS, *,qfo];exact rfl)
    | (with_reducible refine qas ?_;simp only [qaa,qa2])
    | (refine qal rfl ?_)
    | (with_reducible refine qat ?_;simp [qaa,qa2])))
   all_goals first | (exact hB _ (k+1) (by omega) ⟨by omega,by rw [hx,hy];exact hnx⟩ ⟨[],[],⟨rfl,rfl,rfl,by simp [qb6,qay,qaf,qac],FitH.nothing⟩⟩) | (exfalso;omega)
 ·have hc:¬ (i:Int) < (n.attrs.length:Int):=by omega
  rw [List.drop_eq_nil_of_le (by omega)] at hx
  (repeat' (first
   | with_reducible refine qah ?_
   | (with_reducible refine qa0 qa1 ?_;apply qbn;simp [zS, *,qfo];exact rfl)
   | (with_reducible refine qas ?_;simp only [qaa,qa2])
   | (refine qal rfl ?_)
   | (with_reducible refine qat ?_;simp [qaa,qa2])
   | (with_reducible refine qa8 ?_;simp [qab,Tryz.f61,oneOr,qaa,qa2])))
  all_goals first | exact qa4 rfl (by rw [hx];rfl) | (exfalso;omega)
theorem inj_61 (x y:Nd) (h:(fun z:Nd=>([qaj z]:List AV)) x=(fun z:Nd=>([qaj z]:List AV)) y):x=y:=by
 simp only [List.cons.injEq,and_true] at h
 exact qcd h
noncomputable def e61:Entry Tryz.prog:=mkE 61 [[0,0,0,2,0,0,1]] (fun z:Nd=>[qaj z]) (fun z=>(okN z)) (fun z=>.bool (qfg z)) fun z h=>c61 (T:=[e100,e101]) rfl rfl z h
theorem k61 {T:List (Entry Tryz.prog)} (hT:qag 61 T=some e61.g) (n:Nd) (h:okN n) (H:Heap):qb9 (ctx T) (.fn 61) [qaj n] H=some (.bool (qfg n),H):=
 qae hT inj_61 (n) h rfl (by simp [qar])
end Go.Proofs.YtgpjifeeneeiaaaGreatDoor