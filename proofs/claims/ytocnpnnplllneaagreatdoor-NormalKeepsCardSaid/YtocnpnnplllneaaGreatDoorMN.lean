/- What may come where, the document's code: it is the program's (searches along a path). No condition. -/
import Derived.Test.YtocnpnnplllneaaGreatDoorMM
import Derived.Test.YtocnpnnplllneaaGreatDoorMI
import Derived.Test.YtocnpnnplllneaaGreatDoorMK
import Derived.Test.YtocnpnnplllneaaGreatDoorML
import Derived.Shelf.Strings.SlTrimAscii
namespace Go.Proofs.YtocnpnnplllneaaGreatDoor
set_option linter.unusedSimpArgs false
set_option linter.unusedVariables false
open Go Go.RowKit
set_option maxRecDepth 100000
def conB (s t:Str):Bool:=decide (0≤Lib.index s t)
theorem c121 {T:List (Entry Tryz.prog)} (hI:qai 149 T=some e149.g) (s t:Str) (hl:s.length≤1000000):CallAt (ctx T) 121 [.str s,.str t] ⟨0,[]⟩ (.bool (conB s t)) ⟨0,[]⟩:=by
 have hk:=fun H=>k149 hI (t:=t) hl H
 refine qa2 (fn:=Tryz.f121) (s0:=⟨[0,1,4],[.str s,.str t,.undef],[],9,⟨0,[[]]⟩⟩) Tryz.func121 rfl rfl rfl ?_
 (repeat (first
  | (refine qb0 ?_)
  | (refine qab ?_)
  | (refine qc8 ?_;simp only [qaf,qa6])
  | ((refine qa0 qa1 ?_);simp [zS,hk])
  | (refine qan rfl ?_)
  | (refine qam rfl ?_)
  | ((refine qa9 ?_);simp only [qaf,qa6])
  | ((refine qaw ?_);simp [qaf,qa6])))
 repeat apply wq
 refine qa8 ?_
 simp [qad,Tryz.f121,oneOr,qaf,qa6]
 exact qa5 rfl (by simp [conB])
noncomputable def e121:Entry Tryz.prog:=mkE 121 [[],[]] (fun x:Str × Str=>[.str x.1,.str x.2]) (fun x=>x.1.length≤1000000) (fun x=>.bool (conB x.1 x.2)) fun x h=>c121 (T:=[e149]) rfl x.1 x.2 h
theorem k121 {T:List (Entry Tryz.prog)} (hT:qai 121 T=some e121.g) {s:Str} (t:Str) (hl:s.length≤1000000) (H:Heap):qbb (ctx T) (.fn 121) [.str s,.str t] H=some (.bool (conB s t),H):=
 qal hT qx1 (s,t) hl rfl (by simp)
@[simp] theorem szT84:qbw Tryz.prog 84=some 1:=rfl
@[simp] theorem agT84:qgd Tryz.prog 84=some false:=rfl
@[simp] theorem byT84:qc6 Tryz.prog 84=some 8:=rfl
@[simp] theorem alT84 (H:Heap):alV Tryz.prog H 84=some (.ptr H.n 0,H.new (.cells [.nilF])):=rfl
@[simp] theorem zeT84:qbn Tryz.prog 84=some (.nilF):=rfl
attribute [simp] Tryz.underlying84
@[simp 500] theorem rvF84 (H:Heap) (cs:List AV) (o:Nat):qaq Tryz.prog H 84 (.fptr cs o)=qc7 cs o:=rfl
@[simp 500] theorem rvP84 (H:Heap) (b o:Nat):qaq Tryz.prog H 84 (.ptr b o)=(H.get b).bind fun k=>k.rd.bind fun cs=>qc7 cs o:=rfl
theorem qux {α:Type} {p:α→Bool}:∀ (L:List α) (k:Nat),(0≤qbg p L k)↔L.any p=true
 | [],k=>by simp [qbg]
 | y::r,k=>by
  unfold qbg
  by_cases h:p y=true
  ·simp [h]
  ·rw [if_neg h,qux r (k+1)]
   simp [h]
theorem c191 {T:List (Entry Tryz.prog)} (L:List Str) (hl:L.length≤1000000) (f:FuncId) (cap:List AV) (hc:qac cap=true) (p:Str→Bool) (hp:∀ s,s∈L→CallAt (ctx T) f (.str s::cap) ⟨0,[]⟩ (.bool (p s)) ⟨0,[]⟩) :
  CallAt (ctx T) 191 [qcr L,.func (.func f) [] cap] ⟨0,[]⟩ (.int .i64 (qbg p L 0)) ⟨0,[]⟩:=by
 refine qa2 (fn:=Tryz.f191) (s0:=⟨[0,1,4,5,7,8],[qcr L,.func (.func f) [] cap,.undef,.undef,.undef,.undef],[],19,⟨0,[[]]⟩⟩) Tryz.func191 rfl rfl rfl ?_
 repeat apply wq
 refine qa0 qa1 ?_
 simp [zS]
 repeat apply wq
 refine qa0 qa1 ?_
 simp [zS,lenS]
 refine qab (qb7 (fun i:Nat=>(⟨[0,1,4,5,7,8],[qcr L,.func (.func f) [] cap,.int .i64 0,.undef,.int .i64 (L.length:Nat),.int .i64 i],[],19,⟨0,[[]]⟩⟩ : St))
  (fun i=>i≤L.length∧qbg p L 0=qbg p (L.drop i) i) (fun i=>L.length - i) [] [] 0 ⟨Nat.zero_le _,rfl⟩ ⟨rfl,rfl,rfl,by simp [qb1,qar,qah,qac,qcr,hc],FitH.nothing⟩ ?_)
 rintro i ⟨hi,hx⟩ B hB
 repeat apply wq
 refine qa0 qa1 ?_
 simp [zS]
 repeat apply wq
 refine qb9 rfl (fun h=>?_) fun h=>?_
 ·simp at h
  rw [qgr h] at hx
  refine qa9 ?_
  simp
  repeat apply wq
  refine qab ?_
  repeat apply wq
  refine qa0 qa1 ?_
  simp [zS]
  have hcall:=(hp L[i] (List.getElem_mem h)).lift (by simp [qac,qah,hc]) ⟨0,[[]]⟩
  skip
  rcases Bool.eq_false_or_eq_true (p L[i]) with hb | hb
  ·rw [hb] at hcall hx
   repeat apply wq
   refine qa0 (qbc [⟨f,_,_,_,_,hcall⟩]) ?_
   simp [zS,atS h, qce]
   refine qan rfl ?_
   repeat apply wq
   refine qa0 qa1 ?_
   simp [zS]
   refine qa8 ?_
   simp [qad,Tryz.f191,oneOr,qaf,qa6]
   exact qa5 rfl (by rw [hx,if_pos rfl])
  ·rw [hb] at hcall hx
   repeat apply wq
   refine qa0 (qbc [⟨f,_,_,_,_,hcall⟩]) ?_
   simp [zS,atS h, qce]
   refine qam rfl ?_
   refine qa9 ?_
   simp
   refine qa0 qa1 ?_
   simp [zS,qbu (show i≤1000000000 by omega)]
   exact hB _ (i+1) (by omega) ⟨by omega,by rw [hx,if_neg (by decide)]⟩ ⟨[],[],⟨rfl,rfl,rfl,by simp [qb1,qar,qah,qac,qcr,hc],FitH.nothing⟩⟩
 ·simp at h
  refine qaw ?_
  simp
  repeat apply wq
  refine qa0 qa1 ?_
  simp [zS]
  refine qa8 ?_
  simp [qad,Tryz.f191,oneOr,qaf,qa6]
  exact qa5 rfl (by rw [hx,List.drop_eq_nil_of_le h];rfl)
theorem c159 {T:List (Entry Tryz.prog)} (L:List Str) (hl:L.length≤1000000) (f:FuncId) (cap:List AV) (hc:qac cap=true) (p:Str→Bool) (hp:∀ s,s∈L→CallAt (ctx T) f (.str s::cap) ⟨0,[]⟩ (.bool (p s)) ⟨0,[]⟩) :
  CallAt (ctx T) 159 [qcr L,.func (.func f) [] cap] ⟨0,[]⟩ (.bool (L.any p)) ⟨0,[]⟩:=by
 have hk:=(c191 (T:=T) L hl f cap hc p hp).lift (by simp [qac,qah,hc]) ⟨0,[[]]⟩
 have hd:decide (0≤qbg p L 0)=L.any p:=by rw [Bool.eq_iff_iff,decide_eq_true_iff];exact qux L 0
 generalize qbg p L 0=v at *
 refine qa2 (fn:=Tryz.f159) (s0:=⟨[0,1,4],[qcr L,.func (.func f) [] cap,.undef],[],9,⟨0,[[]]⟩⟩) Tryz.func159 rfl rfl rfl ?_
 repeat apply wq
 refine qa0 qa1 ?_
 simp [zS]
 repeat apply wq
 refine qa0 (qbc [⟨191,_,_,_,_,hk⟩]) ?_
 simp [zS,qce]
 refine qa8 ?_
 simp [qad,Tryz.f159,oneOr,qaf,qa6]
 exact qa5 rfl (by rw [hd])
theorem c169 {T:List (Entry Tryz.prog)} (L:List Nd) (hl:L.length≤1000000) (f:FuncId) (cap:List AV) (hc:qac cap=true) (p:Nd→Bool) (hp:∀ s,s∈L→CallAt (ctx T) f (qa7 s::cap) ⟨0,[]⟩ (.bool (p s)) ⟨0,[]⟩) :
  CallAt (ctx T) 169 [qae L,.func (.func f) [] cap] ⟨0,[]⟩ (.int .i64 (qbg p L 0)) ⟨0,[]⟩:=by
 refine qa2 (fn:=Tryz.f169) (s0:=⟨[0,1,4,5,7,8],[qae L,.func (.func f) [] cap,.undef,.undef,.undef,.undef],[],19,⟨0,[[]]⟩⟩) Tryz.func169 rfl rfl rfl ?_
 repeat apply wq
 refine qa0 qa1 ?_
 simp [zS]
 repeat apply wq
 refine qa0 qa1 ?_
 simp [zS,qkl]
 refine qab (qb7 (fun i:Nat=>(⟨[0,1,4,5,7,8],[qae L,.func (.func f) [] cap,.int .i64 0,.undef,.int .i64 (L.length:Nat),.int .i64 i],[],19,⟨0,[[]]⟩⟩ : St))
  (fun i=>i≤L.length∧qbg p L 0=qbg p (L.drop i) i) (fun i=>L.length - i) [] [] 0 ⟨Nat.zero_le _,rfl⟩ ⟨rfl,rfl,rfl,by simp [qb1,qar,qah,qac,hc],FitH.nothing⟩ ?_)
 rintro i ⟨hi,hx⟩ B hB
 repeat apply wq
 refine qa0 qa1 ?_
 simp [zS]
 repeat apply wq
 refine qb9 rfl (fun h=>?_) fun h=>?_
 ·simp at h
  rw [qgr h] at hx
  refine qa9 ?_
  simp
  repeat apply wq
  refine qab ?_
  repeat apply wq
  refine qa0 qa1 ?_
  simp [zS]
  have hcall:=hp L[i] (List.getElem_mem h)
  have hix:=atX (t:=L) (i:=(i:Int)) (by omega) (by omega)
  rw [qbi h] at hix
  have hpu:qac (qa7 L[i]::cap)=true:=by simp [qac,hc]
  rcases Bool.eq_false_or_eq_true (p L[i]) with hb | hb
  ·rw [hb] at hcall hx
   repeat apply wq
   refine qa0 (qh8 [⟨f,_,_,hpu,hcall⟩]) ?_
   simp [zS,hix,qb5,qfp]
   refine qan rfl ?_
   repeat apply wq
   refine qa0 qa1 ?_
   simp [zS]
   refine qa8 ?_
   simp [qad,Tryz.f169,oneOr,qaf,qa6]
   exact qa5 rfl (by rw [hx,if_pos rfl])
  ·rw [hb] at hcall hx
   repeat apply wq
   refine qa0 (qh8 [⟨f,_,_,hpu,hcall⟩]) ?_
   simp [zS,hix,qb5,qfp]
   refine qam rfl ?_
   refine qa9 ?_
   simp
   refine qa0 qa1 ?_
   simp [zS,qbu (show i≤1000000000 by omega)]
   exact hB _ (i+1) (by omega) ⟨by omega,by rw [hx,if_neg (by decide)]⟩ ⟨[],[],⟨rfl,rfl,rfl,by simp [qb1,qar,qah,qac,hc],FitH.nothing⟩⟩
 ·simp at h
  refine qaw ?_
  simp
  repeat apply wq
  refine qa0 qa1 ?_
  simp [zS]
  refine qa8 ?_
  simp [qad,Tryz.f169,oneOr,qaf,qa6]
  exact qa5 rfl (by rw [hx,List.drop_eq_nil_of_le h];rfl)
theorem c136 {T:List (Entry Tryz.prog)} (L:List Nd) (hl:L.length≤1000000) (f:FuncId) (cap:List AV) (hc:qac cap=true) (p:Nd→Bool) (hp:∀ s,s∈L→CallAt (ctx T) f (qa7 s::cap) ⟨0,[]⟩ (.bool (p s)) ⟨0,[]⟩) :
  CallAt (ctx T) 136 [qae L,.func (.func f) [] cap] ⟨0,[]⟩ (.bool (L.any p)) ⟨0,[]⟩:=by
 have hk:=c169 (T:=T) L hl f cap hc p hp
 have hd:decide (0≤qbg p L 0)=L.any p:=by rw [Bool.eq_iff_iff,decide_eq_true_iff];exact qux L 0
 generalize qbg p L 0=v at *
 refine qa2 (fn:=Tryz.f136) (s0:=⟨[0,1,4],[qae L,.func (.func f) [] cap,.undef],[],9,⟨0,[[]]⟩⟩) Tryz.func136 rfl rfl rfl ?_
 repeat apply wq
 refine qa0 qa1 ?_
 simp [zS]
 repeat apply wq
 refine qa0 (qh8 [⟨169,_,_,by simp [qac,qah,hc],hk⟩]) ?_
 simp [zS,qfp]
 refine qa8 ?_
 simp [qad,Tryz.f136,oneOr,qaf,qa6]
 exact qa5 rfl (by rw [hd])
theorem c170 {T:List (Entry Tryz.prog)} (hc0:qai 85 T=some e85.g) (n:Nd) (W:Str) (hW:qcw W) (hl:W.length≤100000) (hx:n.name.length≤1000000000):CallAt (ctx T) 170 [qa7 n,.fptr [.str W] 0] ⟨0,[]⟩ (.bool (elB n W)) ⟨0,[]⟩:=by
 have kc0:=@k85 T hc0
 refine qa2 (fn:=Tryz.f170) (s0:=⟨[0,1,2,3],[qa7 n,.fptr [.str W] 0,.undef,.undef],[],7,⟨0,[[]]⟩⟩) Tryz.func170 rfl rfl rfl ?_
 (repeat' (first
  | with_reducible refine qb0 ?_
  | (with_reducible refine qa0 qa1 ?_;apply qf4;simp [zS, *,qb5];exact rfl)
  | (with_reducible refine qbx ?_;simp only [qaf,qa6])
  | (with_reducible refine qa8 ?_;simp [qad,Tryz.f170,oneOr,qaf,qa6])))
 all_goals first | exact qa5 rfl (by first | (simp [*];done) | (simp_all;done)) | (exfalso;omega)
theorem c166 {T:List (Entry Tryz.prog)} (hc0:qai 167 T=some e167.g) (n:Nd) (sc:Int) (hx:n.name.length≤1000000000):CallAt (ctx T) 166 [qa7 n,.fptr [.int .i64 sc] 0] ⟨0,[]⟩ (.bool (qna sc n.space n.name)) ⟨0,[]⟩:=by
 have kc0:=@k167 T hc0
 refine qa2 (fn:=Tryz.f166) (s0:=⟨[0,1,2,3],[qa7 n,.fptr [.int .i64 sc] 0,.undef,.undef],[],10,⟨0,[[]]⟩⟩) Tryz.func166 rfl rfl rfl ?_
 (repeat' (first
  | with_reducible refine qb0 ?_
  | (with_reducible refine qa0 qa1 ?_;apply qf4;simp [zS, *,qb5];exact rfl)
  | (with_reducible refine qbx ?_;simp only [qaf,qa6])
  | (with_reducible refine qa8 ?_;simp [qad,Tryz.f166,oneOr,qaf,qa6])))
 all_goals first | exact qa5 rfl (by first | (simp [*];done) | (simp_all;done)) | (exfalso;omega)
abbrev lsAdp:Str:=[97,100,100,114,101,115,115,32,100,105,118,32,112]
theorem c171 {T:List (Entry Tryz.prog)} (hc0:qai 172 T=some e172.g) (hc1:qai 85 T=some e85.g) (n:Nd) (hx:n.name.length≤1000000000):CallAt (ctx T) 171 [qa7 n] ⟨0,[]⟩ (.bool (qfx n.space n.name && !elB n lsAdp)) ⟨0,[]⟩:=by
 have kc0:=@k172 T hc0
 have kc1:=@k85 T hc1
 have hp:qcw lsAdp:=qox (by decide)
 have hq:lsAdp.length≤100000:=by decide
 refine qa2 (fn:=Tryz.f171) (s0:=⟨[0,1,2],[qa7 n,.undef,.undef],[],13,⟨0,[[]]⟩⟩) Tryz.func171 rfl rfl rfl ?_
 (repeat' (first
  | with_reducible refine qb0 ?_
  | (with_reducible refine qa0 qa1 ?_;apply qf4;simp [zS, *,qb5];exact rfl)
  | (with_reducible refine qbx ?_;simp only [qaf,qa6])
  | (with_reducible refine qbt (fun hc=>?_) (fun hc=>?_) <;> ((have hd:=hc);(try simp at hd);(try subst hd);apply qf4;simp [zS, *,qb5];exact rfl))
  | (with_reducible refine qa8 ?_;simp [qad,Tryz.f171,oneOr,qaf,qa6])))
 all_goals first | exact qa5 rfl (by first | (simp [*];done) | (simp_all;done)) | (exfalso;omega)
def qp8 (n:Nd):Bool:=decide (n.space=0) && inW lsB9 n.name
theorem c173 {T:List (Entry Tryz.prog)} (hc0:qai 174 T=some e174.g) (hc1:qai 85 T=some e85.g) (n:Nd) (hx:n.name.length≤1000000000):CallAt (ctx T) 173 [qa7 n] ⟨0,[]⟩ (.bool (elB n [97] && !qp8 n)) ⟨0,[]⟩:=by
 have kc0:=@k174 T hc0
 have kc1:=@k85 T hc1
 have hp:qcw [97]:=qox (by decide)
 refine qa2 (fn:=Tryz.f173) (s0:=⟨[0,1,2],[qa7 n,.undef,.undef],[],13,⟨0,[[]]⟩⟩) Tryz.func173 rfl rfl rfl ?_
 (repeat' (first
  | with_reducible refine qb0 ?_
  | (with_reducible refine qa0 qa1 ?_;apply qf4;simp [zS, *,qb5];exact rfl)
  | (with_reducible refine qbx ?_;simp only [qaf,qa6])
  | (with_reducible refine qbt (fun hc=>?_) (fun hc=>?_) <;> ((have hd:=hc);(try simp at hd);(try subst hd);apply qf4;simp [zS, *,qb5];exact rfl))
  | (with_reducible refine qa8 ?_;simp [qad,Tryz.f173,oneOr,qaf,qa6])))
 all_goals first | exact qa5 rfl (by first | (simp [qp8, *];done) | (simp_all [qp8];done)) | (exfalso;omega)
theorem c175 {T:List (Entry Tryz.prog)} (hc0:qai 174 T=some e174.g) (n:Nd) (hx:n.name.length≤1000000000):CallAt (ctx T) 175 [qa7 n] ⟨0,[]⟩ (.bool (qp8 n)) ⟨0,[]⟩:=by
 have kc0:=@k174 T hc0
 refine qa2 (fn:=Tryz.f175) (s0:=⟨[0,1,2],[qa7 n,.undef,.undef],[],8,⟨0,[[]]⟩⟩) Tryz.func175 rfl rfl rfl ?_
 (repeat' (first
  | with_reducible refine qb0 ?_
  | (with_reducible refine qa0 qa1 ?_;apply qf4;simp [zS, *,qb5];exact rfl)
  | (with_reducible refine qbx ?_;simp only [qaf,qa6])
  | (with_reducible refine qa8 ?_;simp [qad,Tryz.f175,oneOr,qaf,qa6])))
 all_goals first | exact qa5 rfl (by first | (simp [qp8, *];done) | (simp_all [qp8];done)) | (exfalso;omega)
theorem c137 {T:List (Entry Tryz.prog)} (W:Str):CallAt (ctx T) 137 [.str W] ⟨0,[]⟩ (qfa 170 [.fptr [.str W] 0]) ⟨0,[]⟩:=by
 refine qa2 (fn:=Tryz.f137) (s0:=⟨[0,1,2],[.str W,.undef,.undef],[],4,⟨0,[[]]⟩⟩) Tryz.func137 rfl rfl rfl ?_
 repeat apply wq
 refine qa0 qa1 ?_
 simp [zS]
 repeat apply wq
 refine qa0 qa1 ?_
 simp [zS]
 refine qa8 ?_
 simp [qad,Tryz.f137,oneOr]
 refine ⟨[],[(0,[.str W])],by simp [qfa,qar,qb1,qc5],.froze (by simp) fun x hx=>?_⟩
 rw [List.mem_singleton] at hx
 subst hx
 exact ⟨[.str W],by simp [Heap.get,getFs,getF],qaj (by simp [qac,qah]),by simp [qac,qah]⟩
theorem inj_137 (x y:Str) (h:(fun z:Str=>([.str z]:List AV)) x=(fun z:Str=>([.str z]:List AV)) y):x=y:=by
 simp only [List.cons.injEq,and_true] at h
 exact AV.str.inj h
noncomputable def e137:Entry Tryz.prog:=mkE 137 [[]] (fun z:Str=>[.str z]) (fun z=>True) (fun z=>qfa 170 [.fptr [.str z] 0]) fun z h=>c137 (T:=[])  z 
theorem k137 {T:List (Entry Tryz.prog)} (hT:qai 137 T=some e137.g) (W:Str) (H:Heap):qbb (ctx T) (.fn 137) [.str W] H=some (qfa 170 [.fptr [.str W] 0],H):=
 qdc hT inj_137 (W) trivial (by simp [qac,qah,qau]) (by simp [qau]) H
def qj8 (L:List Nd) (W:Str) (sc:Int):Bool:=zap (fun n=>elB n W) (fun n=>qna sc n.space n.name) L
theorem c133 {T:List (Entry Tryz.prog)} (hc0:qai 137 T=some e137.g) (hc1:qai 85 T=some e85.g) (hc2:qai 167 T=some e167.g) (hc3:qai 193 T=some e193.g) (L:List Nd) (W:Str) (sc:Int) (hp:okP L) (hW:qcw W) (hl:W.length≤100000):CallAt (ctx T) 133 [qae L,.str W,.int .i64 sc] ⟨0,[]⟩ (.bool (qj8 L W sc)) ⟨0,[]⟩:=by
 have kc0:=@k137 T hc0
 have kc1:=@k85 T hc1
 have kc2:=@k167 T hc2
 have kc3:=@k193 T hc3
 have hc:=c165 hc3 L (by have:=hp.1;omega) (f1:=170) (c1:=[.fptr [.str W] 0]) (f2:=166) (c2:=[.fptr [.int .i64 sc] 0]) rfl rfl (p:=fun n=>elB n W) (q:=fun n=>qna sc n.space n.name) (fun n hn=>c170 hc1 n W hW hl (hp.2 n hn).nm) (fun n hn=>c166 hc2 n sc (hp.2 n hn).nm)
 have hcall:=CallAt.thaw hc rfl [[7],[],[]] (H:=⟨1,[[(0,.cells [.int .i64 sc])]]⟩) (args:=[qae L,qfa 170 [.fptr [.str W] 0],.func (.func 166) [] [.ptr 0 0]]) (by simp [qfa,qau,okV,qah,qac,qn7 (H:=⟨1,[[(0,.cells [.int .i64 sc])]]⟩) (b:=0) (cs:=[.int .i64 sc]) rfl rfl])
 refine qa2 (fn:=Tryz.f133) (s0:=⟨[0,1,2,5,6],[qae L,.str W,.int .i64 sc,.undef,.undef],[],12,⟨0,[[]]⟩⟩) Tryz.func133 rfl rfl rfl ?_
 repeat apply wq
 refine qa0 qa1 ?_
 simp [zS]
 repeat apply wq
 refine qa0 (qbc [⟨165,_,_,_,_,hcall⟩]) ?_
 simp [zS,qce,kc0]
 refine qa8 ?_
 simp [qad,Tryz.f133,oneOr,qaf,qa6]
 exact qa5 rfl (by rfl)
theorem inj_133 (x y:List Nd × Str × Int) (h:(fun z:List Nd × Str × Int=>([qae z.1,.str z.2.1,.int .i64 z.2.2]:List AV)) x=(fun z:List Nd × Str × Int=>([qae z.1,.str z.2.1,.int .i64 z.2.2]:List AV)) y):x=y:=by
 obtain ⟨x0,x1,x2⟩:=x
 obtain ⟨y0,y1,y2⟩:=y
 simp only [List.cons.injEq,and_true] at h
 obtain ⟨h0,h1,h2⟩:=h
 have g0:x0=y0:=qe6 h0
 have g1:x1=y1:=AV.str.inj h1
 have g2:x2=y2:=AV.int.inj h2 |>.2
 subst g0 g1 g2
 rfl
noncomputable def e133:Entry Tryz.prog:=mkE 133 [[7],[],[]] (fun z:List Nd × Str × Int=>[qae z.1,.str z.2.1,.int .i64 z.2.2]) (fun z=>(okP z.1)∧(qcw z.2.1)∧(z.2.1.length≤100000)) (fun z=>.bool (qj8 z.1 z.2.1 z.2.2)) fun z h=>c133 (T:=[e137,e85,e167,e193]) rfl rfl rfl rfl z.1 z.2.1 z.2.2 h.1 h.2.1 h.2.2
theorem k133 {T:List (Entry Tryz.prog)} (hT:qai 133 T=some e133.g) (L:List Nd) (W:Str) (sc:Int) (hp:okP L) (hW:qcw W) (hl:W.length≤100000) (H:Heap):qbb (ctx T) (.fn 133) [qae L,.str W,.int .i64 sc] H=some (.bool (qj8 L W sc),H):=
 qal hT inj_133 (L,W,sc) ⟨hp,hW,hl⟩ rfl (by simp [qau])
def qjp (L:List Nd) (W:Str):Bool:=zap (fun n=>elB n W) (fun n=>qfx n.space n.name && !elB n lsAdp) L
theorem c138 {T:List (Entry Tryz.prog)} (hc0:qai 137 T=some e137.g) (hc1:qai 85 T=some e85.g) (hc2:qai 172 T=some e172.g) (hc3:qai 193 T=some e193.g) (L:List Nd) (W:Str) (hp:okP L) (hW:qcw W) (hl:W.length≤100000):CallAt (ctx T) 138 [qae L,.str W] ⟨0,[]⟩ (.bool (qjp L W)) ⟨0,[]⟩:=by
 have kc0:=@k137 T hc0
 have kc1:=@k85 T hc1
 have kc2:=@k172 T hc2
 have kc3:=@k193 T hc3
 have hc:=c165 hc3 L (by have:=hp.1;omega) (f1:=170) (c1:=[.fptr [.str W] 0]) (f2:=171) (c2:=[]) rfl rfl (p:=fun n=>elB n W) (q:=fun n=>qfx n.space n.name && !elB n lsAdp) (fun n hn=>c170 hc1 n W hW hl (hp.2 n hn).nm) (fun n hn=>c171 hc2 hc1 n (hp.2 n hn).nm)
 refine qa2 (fn:=Tryz.f138) (s0:=⟨[0,1,4],[qae L,.str W,.undef],[],9,⟨0,[[]]⟩⟩) Tryz.func138 rfl rfl rfl ?_
 repeat apply wq
 refine qa0 qa1 ?_
 simp [zS]
 repeat apply wq
 refine qa0 (qh8 [⟨165,_,_,by simp [qac,qfa,qah],hc⟩]) ?_
 simp [zS,qme,kc0,qfa]
 refine qa8 ?_
 simp [qad,Tryz.f138,oneOr,qaf,qa6]
 exact qa5 rfl (by rfl)
theorem inj_138 (x y:List Nd × Str) (h:(fun z:List Nd × Str=>([qae z.1,.str z.2]:List AV)) x=(fun z:List Nd × Str=>([qae z.1,.str z.2]:List AV)) y):x=y:=by
 obtain ⟨x0,x1⟩:=x
 obtain ⟨y0,y1⟩:=y
 simp only [List.cons.injEq,and_true] at h
 obtain ⟨h0,h1⟩:=h
 have g0:x0=y0:=qe6 h0
 have g1:x1=y1:=AV.str.inj h1
 subst g0 g1
 rfl
noncomputable def e138:Entry Tryz.prog:=mkE 138 [[7],[]] (fun z:List Nd × Str=>[qae z.1,.str z.2]) (fun z=>(okP z.1)∧(qcw z.2)∧(z.2.length≤100000)) (fun z=>.bool (qjp z.1 z.2)) fun z h=>c138 (T:=[e137,e85,e172,e193]) rfl rfl rfl rfl z.1 z.2 h.1 h.2.1 h.2.2
theorem k138 {T:List (Entry Tryz.prog)} (hT:qai 138 T=some e138.g) (L:List Nd) (W:Str) (hp:okP L) (hW:qcw W) (hl:W.length≤100000) (H:Heap):qbb (ctx T) (.fn 138) [qae L,.str W] H=some (.bool (qjp L W),H):=
 qal hT inj_138 (L,W) ⟨hp,hW,hl⟩ rfl (by simp [qau])
def qo7 (L:List Nd):Bool:=zap (fun n=>elB n [97] && !qp8 n) qp8 L
theorem c139 {T:List (Entry Tryz.prog)} (hc0:qai 174 T=some e174.g) (hc1:qai 85 T=some e85.g) (hc2:qai 193 T=some e193.g) (L:List Nd) (hp:okP L):CallAt (ctx T) 139 [qae L] ⟨0,[]⟩ (.bool (qo7 L)) ⟨0,[]⟩:=by
 have kc0:=@k174 T hc0
 have kc1:=@k85 T hc1
 have kc2:=@k193 T hc2
 have hc:=c165 hc2 L (by have:=hp.1;omega) (f1:=173) (c1:=[]) (f2:=175) (c2:=[]) rfl rfl (p:=fun n=>elB n [97] && !qp8 n) (q:=qp8) (fun n hn=>c173 hc0 hc1 n (hp.2 n hn).nm) (fun n hn=>c175 hc0 n (hp.2 n hn).nm)
 refine qa2 (fn:=Tryz.f139) (s0:=⟨[0,2],[qae L,.undef],[],5,⟨0,[[]]⟩⟩) Tryz.func139 rfl rfl rfl ?_
 repeat apply wq
 refine qa0 qa1 ?_
 simp [zS]
 repeat apply wq
 refine qa0 (qh8 [⟨165,_,_,by simp [qac,qfa,qah],hc⟩]) ?_
 simp [zS,qme,qfa]
 refine qa8 ?_
 simp [qad,Tryz.f139,oneOr,qaf,qa6]
 exact qa5 rfl (by rfl)
theorem inj_139 (x y:List Nd) (h:(fun z:List Nd=>([qae z]:List AV)) x=(fun z:List Nd=>([qae z]:List AV)) y):x=y:=by
 simp only [List.cons.injEq,and_true] at h
 exact qe6 h
noncomputable def e139:Entry Tryz.prog:=mkE 139 [[7]] (fun z:List Nd=>[qae z]) (fun z=>(okP z)) (fun z=>.bool (qo7 z)) fun z h=>c139 (T:=[e174,e85,e193]) rfl rfl rfl z h
theorem k139 {T:List (Entry Tryz.prog)} (hT:qai 139 T=some e139.g) (L:List Nd) (hp:okP L) (H:Heap):qbb (ctx T) (.fn 139) [qae L] H=some (.bool (qo7 L),H):=
 qal hT inj_139 (L) hp rfl (by simp [qau])
def qup:Go.Shelf.Ren:=⟨fun | 119=>177 | 120=>201 | 137=>162 | 151=>119 | 152=>146 | 160=>153 | 197=>118 | 217=>192 | 224=>178 | 225=>179 | 227=>79 | 228=>117 | 231=>78 | 232=>186 | 233=>80 | 234=>187 | 235=>81 | 236=>188 | 260=>145 | 266=>198 | 271=>196 | n=>n,fun | 0=>0 | 3=>3 | 4=>4 | 5=>5 | 9=>9 | 21=>21 | 46=>130 | 105=>89 | 116=>101 | 117=>102 | 119=>129 | 124=>105 | 138=>132 | 139=>133 | n=>n,fun | 3=>0 | 4=>1 | n=>n⟩
theorem lays160:Go.Proofs.Lays.n160 Tryz.prog qup where
 mixed:=by kernel_rfl
 f119:=Tryz.func177.trans (congrArg some (by kernel_rfl))
 f120:=Tryz.func201.trans (congrArg some (by kernel_rfl))
 f137:=Tryz.func162.trans (congrArg some (by kernel_rfl))
 f151:=Tryz.func119.trans (congrArg some (by kernel_rfl))
 f152:=Tryz.func146.trans (congrArg some (by kernel_rfl))
 f160:=Tryz.func153.trans (congrArg some (by kernel_rfl))
 f197:=Tryz.func118.trans (congrArg some (by kernel_rfl))
 f217:=Tryz.func192.trans (congrArg some (by kernel_rfl))
 f224:=Tryz.func178.trans (congrArg some (by kernel_rfl))
 f225:=Tryz.func179.trans (congrArg some (by kernel_rfl))
 f227:=Tryz.func79.trans (congrArg some (by kernel_rfl))
 f228:=Tryz.func117.trans (congrArg some (by kernel_rfl))
 f231:=Tryz.func78.trans (congrArg some (by kernel_rfl))
 f232:=Tryz.func186.trans (congrArg some (by kernel_rfl))
 f233:=Tryz.func80.trans (congrArg some (by kernel_rfl))
 f234:=Tryz.func187.trans (congrArg some (by kernel_rfl))
 f235:=Tryz.func81.trans (congrArg some (by kernel_rfl))
 f236:=Tryz.func188.trans (congrArg some (by kernel_rfl))
 f260:=Tryz.func145.trans (congrArg some (by kernel_rfl))
 f266:=Tryz.func198.trans (congrArg some (by kernel_rfl))
 f271:=Tryz.func196.trans (congrArg some (by kernel_rfl))
 t0:=Tryz.underlying0
 a0:=Tryz.isAgg0
 z0:=Tryz.sizeOf0
 v0:=Tryz.zeroValue0
 t3:=Tryz.underlying3
 a3:=Tryz.isAgg3
 z3:=Tryz.sizeOf3
 v3:=Tryz.zeroValue3
 t4:=Tryz.underlying4
 a4:=Tryz.isAgg4
 z4:=Tryz.sizeOf4
 v4:=Tryz.zeroValue4
 t5:=Tryz.underlying5
 a5:=Tryz.isAgg5
 z5:=Tryz.sizeOf5
 v5:=Tryz.zeroValue5
 t9:=Tryz.underlying9
 a9:=Tryz.isAgg9
 z9:=Tryz.sizeOf9
 v9:=Tryz.zeroValue9
 t21:=Tryz.underlying21
 a21:=Tryz.isAgg21
 z21:=Tryz.sizeOf21
 v21:=Tryz.zeroValue21
 t46:=Tryz.underlying130
 a46:=Tryz.isAgg130
 z46:=Tryz.sizeOf130
 v46:=Tryz.zeroValue130
 t105:=Tryz.underlying89
 a105:=Tryz.isAgg89
 z105:=Tryz.sizeOf89
 v105:=Tryz.zeroValue89
 t116:=Tryz.underlying101
 a116:=Tryz.isAgg101
 z116:=Tryz.sizeOf101
 t117:=Tryz.underlying102
 a117:=Tryz.isAgg102
 z117:=Tryz.sizeOf102
 v117:=Tryz.zeroValue102
 t119:=Tryz.underlying129
 a119:=Tryz.isAgg129
 z119:=Tryz.sizeOf129
 t124:=Tryz.underlying105
 a124:=Tryz.isAgg105
 z124:=Tryz.sizeOf105
 v124:=Tryz.zeroValue105
 t138:=Tryz.underlying132
 a138:=Tryz.isAgg132
 z138:=Tryz.sizeOf132
 v138:=Tryz.zeroValue132
 t139:=Tryz.underlying133
 a139:=Tryz.isAgg133
 z139:=Tryz.sizeOf133
 v139:=Tryz.zeroValue133
 g3:=by kernel_rfl
 g4:=by kernel_rfl
abbrev blV:Str:=[9,10,12,13,32]
theorem qsh:(Tryz.prog.info? 101).map (fun i=>(i.zero,i.size))=some (some (.agg (Array.replicate 256 (.bool false))),256):=by kernel_rfl
theorem bl_spV (c:UInt8):blV.contains c=sp c:=by
 have key:∀ n:Fin 256,blV.contains (UInt8.ofNat n.val)=sp (UInt8.ofNat n.val):=by decide +kernel
 have:=key ⟨c.toNat,c.toNat_lt⟩
 simpa using this
theorem qxw {ρ:Place} {w w':World} (sm:Sim ρ ⟨0,[]⟩ w) (h:Below w.heap.size w w'):Sim ρ ⟨0,[]⟩ w' where
 base:=fun k hk=>Nat.lt_of_lt_of_le (sm.base k hk) h.size
 below:=fun k hk=>(h.block k (sm.base k hk)).trans (sm.below k hk)
 os:=h.os.trans sm.os
 tape:=h.tape.trans sm.tape
 output:=h.output.trans sm.output
 dom:=sm.dom
 nodup:=sm.nodup
 live:=fun e he=>by simp [Heap.ents] at he
 inj:=fun e e' he=>by simp [Heap.ents] at he
theorem qub {ρ:Place} {w w':World} (h:Below w.heap.size w w'):Step ρ ⟨0,[]⟩ w ρ ⟨0,[]⟩ w' where
 le:=Place.le_refl ρ
 size:=h.size
 keeps:=fun k hk _=>h.block k hk
 rows:=fun e' he'=>by simp [Heap.ents] at he'
 num:=Nat.le_refl _
 low:=fun _ _=>rfl
 cold:=fun k hk=>.inl hk
def qqt (s:Str):Str:=((s.reverse.dropWhile sp).reverse).dropWhile sp
theorem c153 {T:List (Entry Tryz.prog)} (s:Str) (hs:s.length≤1000000000):CallAt (ctx T) 153 [.str s,.str blV] ⟨0,[]⟩ (.str (qqt s)) ⟨0,[]⟩:=by
 intro ρ w xs sm hx
 match xs,hx with
 | [x,y],hx=>
  have h0:=hx.2 0 (by simp) (by simp)
  have h1:=hx.2 1 (by simp) (by simp)
  simp only [List.getElem_cons_zero,List.getElem_cons_succ] at h0 h1
  cases h0;cases h1
  have hrun:(callFunc 153 #[.string ⟨s.toArray⟩,.string ⟨blV.toArray⟩]).run (ctx T).P w=.ok (.enter 153 #[.string ⟨s.toArray⟩,.string ⟨blV.toArray⟩]) w:=by
   have hf:(ctx T).P.funcs[153]? = some Tryz.f153:=Tryz.func153
   have hn : ¬ Tryz.f153.name = "runtime.NumGoroutine" := by decide +kernel
   simp [callFunc,hf,hn,Tryz.f153]
  refine .inr ⟨153,_,hrun,callsIn_wide.2 ?_⟩
  refine (Go.Proofs.Any.strings_Trim_ascii lays160 (zero_of_info qsh).1 (zero_of_info qsh).2 ⟨s.toArray⟩ ⟨blV.toArray⟩ w (by show s.length≤_;omega) (by decide) (fun j b hj=>?_)).mono ?_
  ·have hm:b∈blV:=List.mem_of_getElem? hj
   simp at hm
   rcases hm with rfl | rfl | rfl | rfl | rfl <;> decide
  ·rintro e w' ⟨rfl,hb⟩
   have hv:Lib.trimS (⟨s.toArray⟩ : ByteArray).data.toList (⟨blV.toArray⟩ : ByteArray).data.toList=qqt s:=by
    have e1:(fun c=>blV.contains c)=sp:=funext bl_spV
    show ((s.toArray.toList.reverse.dropWhile (fun c=>blV.contains c)).reverse).dropWhile (fun c=>blV.contains c)=_
    rw [e1];rfl
   rw [hv]
   exact ⟨_,ρ,rfl,.str _,qxw sm hb,qub hb⟩
noncomputable def e153:Entry Tryz.prog:=mkE 153 [[],[]] (fun x:Str=>[.str x,.str blV]) (fun x=>x.length≤1000000000) (fun x=>.str (qqt x)) fun x h=>c153 (T:=[]) x h
theorem k153 {T:List (Entry Tryz.prog)} (hT:qai 153 T=some e153.g) (s:Str) (hs:s.length≤1000000000) (H:Heap):qbb (ctx T) (.fn 153) [.str s,.str blV] H=some (.str (qqt s),H):=
 qdc hT (fun x y h=>by simpa using h) s hs (by simp [qac,qah]) (by simp) H
theorem zcu {p:UInt8→Bool}:∀ (s:Str),s.dropWhile p=[]↔s.all p=true
 | []=>by simp
 | c::r=>by
  rw [List.dropWhile_cons]
  by_cases h:p c=true
  ·simp [h,zcu r]
  ·simp [h]
theorem qvt (s:Str):decide (qqt s=[])=s.all sp:=by
 rw [Bool.eq_iff_iff,decide_eq_true_iff]
 unfold qqt
 rw [zcu,List.all_reverse]
 constructor
 ·intro h
  have e:=List.takeWhile_append_dropWhile (p:=sp) (l:=s.reverse)
  have:s.reverse.all sp=true:=by
   rw [← e,List.all_append,Bool.and_eq_true]
   exact ⟨List.all_takeWhile,h⟩
  simpa using this
 ·intro h
  have:s.reverse.dropWhile sp=[]:=(zcu _).2 (by simpa using h)
  rw [this];rfl
theorem c123 {T:List (Entry Tryz.prog)} (hc0:qai 153 T=some e153.g) (s:Str) (hs:s.length≤1000000000):CallAt (ctx T) 123 [.str s] ⟨0,[]⟩ (.str (qqt s)) ⟨0,[]⟩:=by
 have kc0:=@k153 T hc0
 refine qa2 (fn:=Tryz.f123) (s0:=⟨[0,2],[.str s,.undef],[],5,⟨0,[[]]⟩⟩) Tryz.func123 rfl rfl rfl ?_
 (repeat' (first
  | with_reducible refine qb0 ?_
  | (with_reducible refine qa0 qa1 ?_;apply qf4;simp [zS, *];exact rfl)
  | (with_reducible refine qbx ?_;simp only [qaf,qa6])
  | (with_reducible refine qa8 ?_;simp [qad,Tryz.f123,oneOr,qaf,qa6])))
 all_goals first | exact qa5 rfl (by first | (simp [*];done) | (simp_all;done)) | (exfalso;omega)
theorem inj_123 (x y:Str) (h:(fun z:Str=>([.str z]:List AV)) x=(fun z:Str=>([.str z]:List AV)) y):x=y:=by
 simp only [List.cons.injEq,and_true] at h
 exact AV.str.inj h
noncomputable def e123:Entry Tryz.prog:=mkE 123 [[]] (fun z:Str=>[.str z]) (fun z=>(z.length≤1000000000)) (fun z=>.str (qqt z)) fun z h=>c123 (T:=[e153]) rfl z h
theorem k123 {T:List (Entry Tryz.prog)} (hT:qai 123 T=some e123.g) (s:Str) (hs:s.length≤1000000000) (H:Heap):qbb (ctx T) (.fn 123) [.str s] H=some (.str (qqt s),H):=
 qal hT inj_123 (s) hs rfl (by simp [qau])
theorem c86 {T:List (Entry Tryz.prog)} (hc0:qai 123 T=some e123.g) (s:Str) (hs:s.length≤1000000000):CallAt (ctx T) 86 [.str s] ⟨0,[]⟩ (.bool (s.all sp)) ⟨0,[]⟩:=by
 have kc0:=@k123 T hc0
 refine qa2 (fn:=Tryz.f86) (s0:=⟨[0,2],[.str s,.undef],[],6,⟨0,[[]]⟩⟩) Tryz.func86 rfl rfl rfl ?_
 (repeat' (first
  | with_reducible refine qb0 ?_
  | (with_reducible refine qa0 qa1 ?_;apply qf4;simp [zS, *];exact rfl)
  | (with_reducible refine qbx ?_;simp only [qaf,qa6])
  | (with_reducible refine qa8 ?_;simp [qad,Tryz.f86,oneOr,qaf,qa6])))
 all_goals first | exact qa5 rfl (by first | (simp [← qvt, *];done) | (simp_all [← qvt];done)) | (exfalso;omega)
theorem inj_86 (x y:Str) (h:(fun z:Str=>([.str z]:List AV)) x=(fun z:Str=>([.str z]:List AV)) y):x=y:=by
 simp only [List.cons.injEq,and_true] at h
 exact AV.str.inj h
noncomputable def e86:Entry Tryz.prog:=mkE 86 [[]] (fun z:Str=>[.str z]) (fun z=>(z.length≤1000000000)) (fun z=>.bool (z.all sp)) fun z h=>c86 (T:=[e123]) rfl z h
theorem k86 {T:List (Entry Tryz.prog)} (hT:qai 86 T=some e86.g) (s:Str) (hs:s.length≤1000000000) (H:Heap):qbb (ctx T) (.fn 86) [.str s] H=some (.bool (s.all sp),H):=
 qal hT inj_86 (s) hs rfl (by simp [qau])
def qkw (s:Str):Bool:=qn3 s && !conB s [13]
theorem c83 {T:List (Entry Tryz.prog)} (hc0:qai 120 T=some e120.g) (hc1:qai 121 T=some e121.g) (s:Str) (hs:s.length≤900000):CallAt (ctx T) 83 [.str s] ⟨0,[]⟩ (.bool (qkw s)) ⟨0,[]⟩:=by
 have kc0:=@k120 T hc0
 have kc1:=@k121 T hc1
 have hs2:s.length≤1000000:=by omega
 refine qa2 (fn:=Tryz.f83) (s0:=⟨[0,2],[.str s,.undef],[],10,⟨0,[[]]⟩⟩) Tryz.func83 rfl rfl rfl ?_
 (repeat' (first
  | with_reducible refine qb0 ?_
  | (with_reducible refine qa0 qa1 ?_;apply qf4;simp [zS, *];exact rfl)
  | (with_reducible refine qbx ?_;simp only [qaf,qa6])
  | (with_reducible refine qbt (fun hc=>?_) (fun hc=>?_) <;> ((have hd:=hc);(try simp at hd);(try subst hd);apply qf4;simp [zS, *];exact rfl))
  | (with_reducible refine qa8 ?_;simp [qad,Tryz.f83,oneOr,qaf,qa6])))
 all_goals first | exact qa5 rfl (by first | (simp [qkw, *];done) | (simp_all [qkw];done)) | (exfalso;omega)
theorem inj_83 (x y:Str) (h:(fun z:Str=>([.str z]:List AV)) x=(fun z:Str=>([.str z]:List AV)) y):x=y:=by
 simp only [List.cons.injEq,and_true] at h
 exact AV.str.inj h
noncomputable def e83:Entry Tryz.prog:=mkE 83 [[]] (fun z:Str=>[.str z]) (fun z=>(z.length≤900000)) (fun z=>.bool (qkw z)) fun z h=>c83 (T:=[e120,e121]) rfl rfl z h
theorem k83 {T:List (Entry Tryz.prog)} (hT:qai 83 T=some e83.g) (s:Str) (hs:s.length≤900000) (H:Heap):qbb (ctx T) (.fn 83) [.str s] H=some (.bool (qkw s),H):=
 qal hT inj_83 (s) hs rfl (by simp [qau])
def qkx (L:List Nd) (s:Str):Bool:=!decide (s=[]) && qkw s && !(decide ((qbj L).kind=1) && qs8 (qbj L).space (qbj L).name) && (!elB (qbj L) lsB4 || s.all sp)
theorem qkj {L:List Nd} (h:okP L):okN (qbj L):=by
 unfold qbj
 split
 ·exact ⟨by decide,by decide,by decide,fun a ha=>by cases ha⟩
 ·rename_i hne
  have:0 < L.length:=List.length_pos_iff.2 hne
  exact h.2 _ (qb3 (by omega) (by omega))
theorem c55 {T:List (Entry Tryz.prog)} (hc0:qai 82 T=some e82.g) (hc1:qai 83 T=some e83.g) (hc2:qai 84 T=some e84.g) (hc3:qai 85 T=some e85.g) (hc4:qai 86 T=some e86.g) (L:List Nd) (s:Str) (hp:okP L) (hs:s.length≤900000):CallAt (ctx T) 55 [qae L,.str s] ⟨0,[]⟩ (.bool (qkx L s)) ⟨0,[]⟩:=by
 have kc0:=@k82 T hc0
 have kc1:=@k83 T hc1
 have kc2:=@k84 T hc2
 have kc3:=@k85 T hc3
 have kc4:=@k86 T hc4
 have hl:L.length≤1000000:=by have:=hp.1;omega
 have hx:=(qkj hp).nm
 have hs2:s.length≤1000000000:=by omega
 have h1:qcw lsB4:=qox (by decide)
 refine qa2 (fn:=Tryz.f55) (s0:=⟨[0,1,4,5],[qae L,.str s,.undef,.undef],[],32,⟨0,[[]]⟩⟩) Tryz.func55 rfl rfl rfl ?_
 (repeat' (first
  | with_reducible refine qb0 ?_
  | with_reducible refine qab ?_
  | (with_reducible refine qa0 qa1 ?_;apply qf4;simp [zS, *,qb5];exact rfl)
  | (with_reducible refine qbx ?_;simp only [qaf,qa6])
  | (with_reducible refine qbt (fun hc=>?_) (fun hc=>?_) <;> ((have hd:=hc);(try simp at hd);(try subst hd);apply qf4;simp [zS, *,qb5];exact rfl))
  | (refine qan rfl ?_)
  | (refine qam rfl ?_)
  | (refine qb9 rfl (fun hc=>?_) (fun hc=>?_) <;> ((have hd:=hc);(try simp at hd);(try subst hd)))
  | (with_reducible refine qa9 ?_;simp only [qaf,qa6])
  | (with_reducible refine qa8 ?_;simp [qad,Tryz.f55,oneOr,qaf,qa6])))
 all_goals first | exact qa5 rfl (by first | (simp [qkx, *];done) | (simp_all [qkx];done)) | (exfalso;omega)
theorem inj_55 (x y:List Nd × Str) (h:(fun z:List Nd × Str=>([qae z.1,.str z.2]:List AV)) x=(fun z:List Nd × Str=>([qae z.1,.str z.2]:List AV)) y):x=y:=by
 obtain ⟨x0,x1⟩:=x
 obtain ⟨y0,y1⟩:=y
 simp only [List.cons.injEq,and_true] at h
 obtain ⟨h0,h1⟩:=h
 have g0:x0=y0:=qe6 h0
 have g1:x1=y1:=AV.str.inj h1
 subst g0 g1
 rfl
noncomputable def e55:Entry Tryz.prog:=mkE 55 [[7],[]] (fun z:List Nd × Str=>[qae z.1,.str z.2]) (fun z=>(okP z.1)∧(z.2.length≤900000)) (fun z=>.bool (qkx z.1 z.2)) fun z h=>c55 (T:=[e82,e83,e84,e85,e86]) rfl rfl rfl rfl rfl z.1 z.2 h.1 h.2
theorem k55 {T:List (Entry Tryz.prog)} (hT:qai 55 T=some e55.g) (L:List Nd) (s:Str) (hp:okP L) (hs:s.length≤900000) (H:Heap):qbb (ctx T) (.fn 55) [qae L,.str s] H=some (.bool (qkx L s),H):=
 qal hT inj_55 (L,s) ⟨hp,hs⟩ rfl (by simp [qau])
theorem q55 {T:List (Entry Tryz.prog)} (hT:qai 55 T=some e55.g) {H:Heap} {a0:AV} {L:List Nd} (b0:qe4 H [7] a0=some (qae L)) (s:Str) (hp:okP L) (hs:s.length≤900000):qbb (ctx T) (.fn 55) [a0,.str s] H=some (.bool (qkx L s),H):=
 qal hT inj_55 (L,s) ⟨hp,hs⟩ rfl (by simp [b0])
def qv5 (x:Str):Bool:=decide (x=[104,114]∨x=[116,97,98,108,101]∨x=[102,111,114,109]∨x=[108,105]∨x=[100,100]∨x=[100,116]) || inW lsB6 x || qg2 0 x
theorem c134 {T:List (Entry Tryz.prog)} (hc0:qai 168 T=some e168.g) (hc1:qai 135 T=some e135.g) (x:Str) (hx:x.length≤1000000000):CallAt (ctx T) 134 [.str x] ⟨0,[]⟩ (.bool (qv5 x)) ⟨0,[]⟩:=by
 have kc0:=@k168 T hc0
 have kc1:=@k135 T hc1
 refine qa2 (fn:=Tryz.f134) (s0:=⟨[0,2,3,4],[.str x,.undef,.undef,.undef],[],17,⟨0,[[]]⟩⟩) Tryz.func134 rfl rfl rfl ?_
 (repeat' (first
  | with_reducible refine qb0 ?_
  | with_reducible refine qab ?_
  | (with_reducible refine qa0 qa1 ?_;apply qf4;simp [zS, *];exact rfl)
  | (with_reducible refine qbx ?_;simp only [qaf,qa6])
  | (with_reducible refine qbt (fun hc=>?_) (fun hc=>?_) <;> ((have hd:=hc);(try simp at hd);(try subst hd);apply qf4;simp [zS, *];exact rfl))
  | (refine qan rfl ?_)
  | (refine qb9 rfl (fun hc=>?_) (fun hc=>?_) <;> ((have hd:=hc);(try simp at hd);(try subst hd)))
  | (with_reducible refine qa9 ?_;simp only [qaf,qa6])
  | (with_reducible refine qa8 ?_;simp [qad,Tryz.f134,oneOr,qaf,qa6])))
 all_goals first | exact qa5 rfl (by first | (simp [qv5, *];done) | (simp_all [qv5];done)) | (exfalso;omega)
theorem inj_134 (x y:Str) (h:(fun z:Str=>([.str z]:List AV)) x=(fun z:Str=>([.str z]:List AV)) y):x=y:=by
 simp only [List.cons.injEq,and_true] at h
 exact AV.str.inj h
noncomputable def e134:Entry Tryz.prog:=mkE 134 [[]] (fun z:Str=>[.str z]) (fun z=>(z.length≤1000000000)) (fun z=>.bool (qv5 z)) fun z h=>c134 (T:=[e168,e135]) rfl rfl z h
theorem k134 {T:List (Entry Tryz.prog)} (hT:qai 134 T=some e134.g) (x:Str) (hx:x.length≤1000000000) (H:Heap):qbb (ctx T) (.fn 134) [.str x] H=some (.bool (qv5 x),H):=
 qal hT inj_134 (x) hx rfl (by simp [qau])
def formB (L:List Nd):Bool:=L.any fun n=>elB n [102,111,114,109]
def qym (L:List Nd) (x:Str):Bool:=
 if (qv5 x && qj8 L [112] 2)=true then false
 else if x=[99,97,112,116,105,111,110]∨x=[99,111,108]∨x=[99,111,108,103,114,111,117,112]∨x=[116,98,111,100,121]∨x=[116,100]∨x=[116,102,111,111,116]∨x=[116,104]∨x=[116,104,101,97,100]∨x=[116,114] then false
 else if x=[104,49]∨x=[104,50]∨x=[104,51]∨x=[104,52]∨x=[104,53]∨x=[104,54] then !(decide ((qbj L).kind=1) && qg2 (qbj L).space (qbj L).name)
 else if x=[102,111,114,109] then !formB L
 else if x=[98,117,116,116,111,110]∨x=[110,111,98,114] then !qj8 L x 0
 else if x=[108,105] then !qjp L x
 else if x=[100,100]∨x=[100,116] then !qjp L [100,100,32,100,116]
 else if x=[97] then !qo7 L
 else if x=[111,112,116,105,111,110]∨x=[111,112,116,103,114,111,117,112] then !elB (qbj L) [111,112,116,105,111,110] else true
set_option maxHeartbeats 4000000 in
theorem c96 {T:List (Entry Tryz.prog)} (hc0:qai 82 T=some e82.g) (hc1:qai 134 T=some e134.g) (hc2:qai 133 T=some e133.g) (hc3:qai 85 T=some e85.g) (hc4:qai 138 T=some e138.g) (hc5:qai 139 T=some e139.g) (hc6:qai 135 T=some e135.g) (hc7:qai 137 T=some e137.g) (L:List Nd) (x:Str) (hp:okP L) (hx:x.length≤1000000000):CallAt (ctx T) 96 [qae L,.str x] ⟨0,[]⟩ (.bool (qym L x)) ⟨0,[]⟩:=by
 have kc0:=@k82 T hc0
 have kc1:=@k134 T hc1
 have kc2:=@k133 T hc2
 have kc3:=@k85 T hc3
 have kc4:=@k138 T hc4
 have kc5:=@k139 T hc5
 have kc6:=@k135 T hc6
 have kc7:=@k137 T hc7
 have hl:L.length≤1000000:=by have:=hp.1;omega
 have hpx:=(qkj hp).nm
 have a1:qcw [112]:=qox (by decide)
 have a2:qcw [98,117,116,116,111,110]:=qox (by decide)
 have a3:qcw [110,111,98,114]:=qox (by decide)
 have a4:qcw [108,105]:=qox (by decide)
 have a5:qcw [100,100,32,100,116]:=qox (by decide)
 have a6:qcw [111,112,116,105,111,110]:=qox (by decide)
 have hf:=c136 (T:=T) L hl 170 [.fptr [.str [102,111,114,109]] 0] rfl (fun n=>elB n [102,111,114,109]) (fun n hn=>c170 hc3 n [102,111,114,109] (qox (by decide)) (by decide) (hp.2 n hn).nm)
 have hpu:qac [qae L,.func (.func 170) [] [.fptr [.str [102,111,114,109]] 0]]=true:=by simp [qac,qah]
 have ef:formB L=L.any fun n=>elB n [102,111,114,109]:=rfl
 rw [← ef] at hf
 have cv:qfa 170 [.fptr [.str [102,111,114,109]] 0]=.func (.func 170) [] [.fptr [.str [102,111,114,109]] 0]:=rfl
 have k0:=fun H=>kc0 L hl H
 have k1:=fun H=>kc1 x hx H
 have k2:=fun H=>kc2 L [112] 2 hp a1 (by decide) H
 have k2x:=fun (hW:qcw x) (hq:x.length≤100000) H=>kc2 L x 0 hp hW hq H
 have k3:=fun H=>kc3 (qbj L) [111,112,116,105,111,110] a6 (by decide) hpx H
 have k4:=fun H=>kc4 L [100,100,32,100,116] hp a5 (by decide) H
 have k4x:=fun (hW:qcw x) (hq:x.length≤100000) H=>kc4 L x hp hW hq H
 have k5:=fun H=>kc5 L hp H
 have k6:=fun H=>kc6 (qbj L).space (qbj L).name H
 have k7:=fun H=>kc7 [102,111,114,109] H
 clear kc0 kc1 kc2 kc3 kc4 kc5 kc6 kc7 hc0 hc1 hc2 hc3 hc4 hc5 hc6 hc7 ef
 unfold qym
 generalize qg2 (qbj L).space (qbj L).name=b6 at *
 generalize elB (qbj L) [111,112,116,105,111,110]=b3 at *
 generalize qbj L=up at *
 generalize qo7 L=b5 at *
 generalize qjp L [100,100,32,100,116]=b4 at *
 generalize qjp L x=b4x at *
 generalize qj8 L [112] 2=b2 at *
 generalize qj8 L x 0=b2x at *
 generalize formB L=bf at *
 generalize qv5 x=b1 at *
 refine qa2 (fn:=Tryz.f96) (s0:=⟨[0,1,4,5,14,15,25,49,62,73],[qae L,.str x,.undef,.undef,.undef,.undef,.undef,.undef,.undef,.undef],[],79,⟨0,[[]]⟩⟩) Tryz.func96 rfl rfl rfl ?_
 (repeat' (first
  | with_reducible refine qb0 ?_
  | with_reducible refine qab ?_
  | (with_reducible refine qa0 (qh8 [⟨136,_,_,hpu,hf⟩]) ?_;apply qf4;simp [zS, *,qb5,qme];exact rfl)
  | (with_reducible refine qbx ?_;simp only [qaf,qa6])
  | (with_reducible refine qbt (fun hc=>?_) (fun hc=>?_) <;> ((have hd:=hc);(try simp at hd);(try subst hd);apply qf4;simp [zS, *,qb5,qme];exact rfl))
  | (refine qan rfl ?_)
  | (refine qam rfl ?_)
  | (refine qb9 rfl (fun hc=>?_) (fun hc=>?_) <;> ((have hd:=hc);(try simp at hd);(try subst hd)))
  | (with_reducible refine qa9 ?_;simp only [qaf,qa6])
  | (with_reducible refine qa8 ?_;simp [qad,Tryz.f96,oneOr,qaf,qa6])))
 all_goals first | exact qa5 rfl (by first | (simp [*];done) | (simp_all;done)) | (exfalso;omega)
theorem inj_96 (x y:List Nd × Str) (h:(fun z:List Nd × Str=>([qae z.1,.str z.2]:List AV)) x=(fun z:List Nd × Str=>([qae z.1,.str z.2]:List AV)) y):x=y:=by
 obtain ⟨x0,x1⟩:=x
 obtain ⟨y0,y1⟩:=y
 simp only [List.cons.injEq,and_true] at h
 obtain ⟨h0,h1⟩:=h
 have g0:x0=y0:=qe6 h0
 have g1:x1=y1:=AV.str.inj h1
 subst g0 g1
 rfl
noncomputable def e96:Entry Tryz.prog:=mkE 96 [[7],[]] (fun z:List Nd × Str=>[qae z.1,.str z.2]) (fun z=>(okP z.1)∧(z.2.length≤1000000000)) (fun z=>.bool (qym z.1 z.2)) fun z h=>c96 (T:=[e82,e134,e133,e85,e138,e139,e135,e137]) rfl rfl rfl rfl rfl rfl rfl rfl z.1 z.2 h.1 h.2
theorem k96 {T:List (Entry Tryz.prog)} (hT:qai 96 T=some e96.g) (L:List Nd) (x:Str) (hp:okP L) (hx:x.length≤1000000000) (H:Heap):qbb (ctx T) (.fn 96) [qae L,.str x] H=some (.bool (qym L x),H):=
 qal hT inj_96 (L,x) ⟨hp,hx⟩ rfl (by simp [qau])
def qe9 (L:List Nd):Str × Bool:=
 let up:=qbj L
 if up.kind≠1 then ([],false)
 else if qs8 up.space up.name=true then ([],true)
 else if up.space≠0 then ([],false)
 else if up.name=[116,101,120,116,97,114,101,97] then ([],true)
 else if up.name=[111,112,116,105,111,110] then ([],qj8 L [115,101,108,101,99,116] 4)
 else if up.name=[111,112,116,103,114,111,117,112] then ([111,112,116,105,111,110],qj8 L [115,101,108,101,99,116] 4)
 else if up.name=[115,101,108,101,99,116] then ([111,112,116,105,111,110,32,111,112,116,103,114,111,117,112],true)
 else if up.name=[116,97,98,108,101] then ([99,97,112,116,105,111,110,32,99,111,108,103,114,111,117,112,32,116,98,111,100,121,32,116,102,111,111,116,32,116,104,101,97,100],true)
 else if up.name=[99,111,108,103,114,111,117,112] then ([99,111,108],true)
 else if up.name=[116,98,111,100,121]∨up.name=[116,102,111,111,116]∨up.name=[116,104,101,97,100] then ([116,114],true)
 else if up.name=[116,114] then ([116,100,32,116,104],true) else ([],false)
theorem c95 {T:List (Entry Tryz.prog)} (hc0:qai 82 T=some e82.g) (hc1:qai 84 T=some e84.g) (hc2:qai 133 T=some e133.g) (L:List Nd) (hp:okP L):CallAt (ctx T) 95 [qae L] ⟨0,[]⟩ (.tup [.str (qe9 L).1,.bool (qe9 L).2]) ⟨0,[]⟩:=by
 have kc0:=@k82 T hc0
 have kc1:=@k84 T hc1
 have kc2:=@k133 T hc2
 have hl:L.length≤1000000:=by have:=hp.1;omega
 have hpx:=(qkj hp).nm
 have k0:=fun H=>kc0 L hl H
 have k1:=fun H=>kc1 (qbj L).space hpx H
 have k2:=fun H=>kc2 L [115,101,108,101,99,116] 4 hp (qox (by decide)) (by decide) H
 clear kc0 kc1 kc2 hc0 hc1 hc2
 simp only [qe9]
 generalize qj8 L [115,101,108,101,99,116] 4=b2 at *
 generalize qs8 (qbj L).space (qbj L).name=b1 at *
 generalize qbj L=up at *
 refine qa2 (fn:=Tryz.f95) (s0:=⟨[0,2,3,4,19,36],[qae L,.undef,.undef,.undef,.undef,.undef],[],42,⟨0,[[]]⟩⟩) Tryz.func95 rfl rfl rfl ?_
 (repeat' (first
  | with_reducible refine qb0 ?_
  | with_reducible refine qab ?_
  | (with_reducible refine qa0 qa1 ?_;apply qf4;simp [zS, *,qb5];exact rfl)
  | (with_reducible refine qbx ?_;simp only [qaf,qa6])
  | (refine qam rfl ?_)
  | (refine qb9 rfl (fun hc=>?_) (fun hc=>?_) <;> ((have hd:=hc);(try simp at hd);(try subst hd)))
  | (with_reducible refine qa9 ?_;simp only [qaf,qa6])
  | (with_reducible refine qa8 ?_;simp [qad,Tryz.f95,oneOr,qaf,qa6])))
 all_goals first | exact qa5 rfl (by first | (simp [*];done) | (simp_all;done)) | (exfalso;omega)
theorem inj_95 (x y:List Nd) (h:(fun z:List Nd=>([qae z]:List AV)) x=(fun z:List Nd=>([qae z]:List AV)) y):x=y:=by
 simp only [List.cons.injEq,and_true] at h
 exact qe6 h
noncomputable def e95:Entry Tryz.prog:=mkE 95 [[7]] (fun z:List Nd=>[qae z]) (fun z=>(okP z)) (fun z=>.tup [.str (qe9 z).1,.bool (qe9 z).2]) fun z h=>c95 (T:=[e82,e84,e133]) rfl rfl rfl z h
theorem k95 {T:List (Entry Tryz.prog)} (hT:qai 95 T=some e95.g) (L:List Nd) (hp:okP L) (H:Heap):qbb (ctx T) (.fn 95) [qae L] H=some (.tup [.str (qe9 L).1,.bool (qe9 L).2],H):=
 qdc hT inj_95 (L) hp (by simp [qac,qah,qau]) (by simp [qau]) H
theorem ite_P {α:Type} {P:α→Prop} {c:Prop} [Decidable c] {a b:α} (ha:P a) (hb:P b):P (if c then a else b):=by
 split
 ·exact ha
 ·exact hb
theorem qsd (L:List Nd):qcw (qe9 L).1∧(qe9 L).1.length≤100000:=by
 have key:∀ W:Str,∀ b:Bool,W.all (fun c=>decide (c.toNat < 128))=true→W.length≤100000→(fun z:Str × Bool=>qcw z.1∧z.1.length≤100000) (W,b):=fun W b h1 h2=>⟨qox h1,h2⟩
 show (fun z:Str × Bool=>qcw z.1∧z.1.length≤100000) (qe9 L)
 simp only [qe9]
 repeat' (first | exact key _ _ (by decide) (by decide) | apply ite_P (P:=fun z:Str × Bool=>qcw z.1∧z.1.length≤100000))
def zdt (u n:Nd):Bool:=decide (n.space=u.space) || (decide (u.space=2) && decide (u.name=[97,110,110,111,116,97,116,105,111,110,45,120,109,108]) && decide (n.space=1) && decide (n.name=[115,118,103]))
def qwt (L:List Nd) (n:Nd):Bool:=
 let up:=qbj L
 if n.kind≠1∨qyi n.space n.name=false then false
 else if (up.kind≠1∨up.space≠0)∧qn8 up=false∧qkg up=false then zdt up n
 else if (qe9 L).2=true then elB n (qe9 L).1
 else if n.space=1 then decide (n.name=[115,118,103]) else if n.space=2 then decide (n.name=[109,97,116,104]) else qym L n.name
set_option maxHeartbeats 2000000 in
theorem c58 {T:List (Entry Tryz.prog)} (hc0:qai 82 T=some e82.g) (hc1:qai 91 T=some e91.g) (hc2:qai 92 T=some e92.g) (hc3:qai 93 T=some e93.g) (hc4:qai 94 T=some e94.g) (hc5:qai 95 T=some e95.g) (hc6:qai 85 T=some e85.g) (hc7:qai 96 T=some e96.g) (L:List Nd) (n:Nd) (hp:okP L) (hn:okN n):CallAt (ctx T) 58 [qae L,qa7 n] ⟨0,[]⟩ (.bool (qwt L n)) ⟨0,[]⟩:=by
 have kc0:=@k82 T hc0
 have kc1:=@k91 T hc1
 have kc2:=@k92 T hc2
 have kc3:=@k93 T hc3
 have kc4:=@k94 T hc4
 have kc5:=@k95 T hc5
 have kc6:=@k85 T hc6
 have kc7:=@k96 T hc7
 have hl:L.length≤1000000:=by have:=hp.1;omega
 have hpo:=qkj hp
 have hnx:=hn.nm
 obtain ⟨a1,a2⟩:=qsd L
 have k0:=fun H=>kc0 L hl H
 have k1:=fun H=>kc1 n.space n.name hnx H
 have k2:=fun H=>kc2 (qbj L) H
 have k3:=fun H=>kc3 (qbj L) hpo H
 have k4:=fun H=>kc4 (qbj L) n H
 have k5:=fun H=>kc5 L hp H
 have k6:=fun H=>kc6 n (qe9 L).1 a1 a2 hnx H
 have k7:=fun H=>kc7 L n.name hp hnx H
 have ea:(decide (n.space=(qbj L).space) || (decide ((qbj L).space=2) && decide ((qbj L).name=[97,110,110,111,116,97,116,105,111,110,45,120,109,108]) && decide (n.space=1) && decide (n.name=[115,118,103])))=zdt (qbj L) n:=rfl
 simp only [ea] at k4
 clear kc0 kc1 kc2 kc3 kc4 kc5 kc6 kc7 hc0 hc1 hc2 hc3 hc4 hc5 hc6 hc7 a1 a2 ea hpo
 simp only [qwt]
 generalize elB n (qe9 L).1=b6 at *
 generalize qe9 L=st at *
 obtain ⟨s1,s2⟩:=st
 generalize qym L n.name=b7 at *
 generalize qkg (qbj L)=b3 at *
 generalize qn8 (qbj L)=b2 at *
 generalize zdt (qbj L) n=b4 at *
 generalize qyi n.space n.name=b1 at *
 generalize qbj L=up at *
 simp only at *
 refine qa2 (fn:=Tryz.f58) (s0:=⟨[0,1,3,4,5,6,7,52],[qae L,qa7 n,.undef,.undef,.undef,.undef,.undef,.undef],[],67,⟨0,[[]]⟩⟩) Tryz.func58 rfl rfl rfl ?_
 (repeat' (first
  | with_reducible refine qb0 ?_
  | with_reducible refine qab ?_
  | (with_reducible refine qa0 qa1 ?_;apply qf4;simp [zS, *,qb5];exact rfl)
  | (with_reducible refine qbx ?_;simp only [qaf,qa6])
  | (with_reducible refine qbt (fun hc=>?_) (fun hc=>?_) <;> ((have hd:=hc);(try simp at hd);(try subst hd);apply qf4;simp [zS, *,qb5];exact rfl))
  | (refine qan rfl ?_)
  | (refine qam rfl ?_)
  | (refine qb9 rfl (fun hc=>?_) (fun hc=>?_) <;> ((have hd:=hc);(try simp at hd);(try subst hd)))
  | (with_reducible refine qa9 ?_;simp only [qaf,qa6])
  | (with_reducible refine qa8 ?_;simp [qad,Tryz.f58,oneOr,qaf,qa6])))
 all_goals first | exact qa5 rfl (by first | (simp [*];done) | (simp_all;done)) | (exfalso;omega)
theorem inj_58 (x y:List Nd × Nd) (h:(fun z:List Nd × Nd=>([qae z.1,qa7 z.2]:List AV)) x=(fun z:List Nd × Nd=>([qae z.1,qa7 z.2]:List AV)) y):x=y:=by
 obtain ⟨x0,x1⟩:=x
 obtain ⟨y0,y1⟩:=y
 simp only [List.cons.injEq,and_true] at h
 obtain ⟨h0,h1⟩:=h
 have g0:x0=y0:=qe6 h0
 have g1:x1=y1:=qe0 h1
 subst g0 g1
 rfl
noncomputable def e58:Entry Tryz.prog:=mkE 58 [[7],[0,0,0,2,0,0,1]] (fun z:List Nd × Nd=>[qae z.1,qa7 z.2]) (fun z=>(okP z.1)∧(okN z.2)) (fun z=>.bool (qwt z.1 z.2)) fun z h=>c58 (T:=[e82,e91,e92,e93,e94,e95,e85,e96]) rfl rfl rfl rfl rfl rfl rfl rfl z.1 z.2 h.1 h.2
theorem k58 {T:List (Entry Tryz.prog)} (hT:qai 58 T=some e58.g) (L:List Nd) (n:Nd) (hp:okP L) (hn:okN n) (H:Heap):qbb (ctx T) (.fn 58) [qae L,qa7 n] H=some (.bool (qwt L n),H):=
 qal hT inj_58 (L,n) ⟨hp,hn⟩ rfl (by simp [qau])
theorem q58 {T:List (Entry Tryz.prog)} (hT:qai 58 T=some e58.g) {H:Heap} {a0:AV} {L:List Nd} (b0:qe4 H [7] a0=some (qae L)) {a1:AV} {n:Nd} (b1:qe4 H [0,0,0,2,0,0,1] a1=some (qa7 n))  (hp:okP L) (hn:okN n):qbb (ctx T) (.fn 58) [a0,a1] H=some (.bool (qwt L n),H):=
 qal hT inj_58 (L,n) ⟨hp,hn⟩ rfl (by simp [b0,b1])
theorem FitH.fsV {n:Nat} {σ:List (Nat × Nat)} {Φ:List (Nat × List AV)} {H:Heap} {m:Nat} {f g:List (List (Nat × Blk))} (h:FitH n σ Φ H ⟨m,f⟩) (e:f.flatten=g.flatten):FitH n σ Φ H ⟨m,g⟩ where
 nd1:=h.nd1
 nd2:=h.nd2
 nd3:=by have:=h.nd3;simp only [Heap.ents] at this ⊢;rw [← e];exact this
 lt:=h.lt
 idn:=h.idn
 num:=h.num
 src:=by have:=h.src;simp only [Heap.ents] at this ⊢;rw [← e];exact this
 frz:=h.frz
def ql1 (s:Str):AV:=.fslc 1 (qag s)
theorem qqi:∀ (s:Str),qe2 1 (qag s)=true
 | []=>rfl
 | c::r=>by simp [qag,qe2,qqi r]
theorem qlq:∀ (s:Str),qa4 (qag s)=qag s
 | []=>rfl
 | c::r=>by simp [qag,qa4,qlq r]
theorem qyq {σ:List (Nat × Nat)} {Φ:List (Nat × List AV)} {b:Nat} {s:Str} {cap:Cap} (h:qc5 b Φ=some (qag s)):qar σ Φ (.slc b 0 s.length cap) (ql1 s):=by
 simp only [qar,ql1]
 refine .inl ⟨qag s,h,?_,qcl s,qqi s⟩
 have:=qcz (qag s)
 rw [qcl] at this
 simp only [qek,List.drop_zero,Nat.mul_one,this,qlq]
theorem qnn (s:Str):qah (ql1 s)=true:=by simp [ql1,qah,qlq,qgj]
theorem atBy {s:Str} {i:Nat} (h:i < s.length):qat Tryz.prog 74 (ql1 s) (.int .i64 (i:Int))=some (.fptr [.int .u8 s[i].toNat] 0):=by
 have hb:i < (qag s).length:=by rw [qcl];exact h
 simp [qat,ql1,qbs hb,qem h,AV.cells]
def qg6 (sp:Int):List Str:=if sp=1 then [[118,105,101,119,66,111,120],[112,114,101,115,101,114,118,101,65,115,112,101,99,116,82,97,116,105,111],[103,114,97,100,105,101,110,116,85,110,105,116,115]] else if sp=2 then [[100,101,102,105,110,105,116,105,111,110,85,82,76]] else []
theorem spel_len (sp:Int):(qg6 sp).length≤3:=by
 unfold qg6
 split
 ·exact Nat.le_refl 3
 split
 ·exact (by decide:1≤3)
 ·exact Nat.zero_le _
theorem c158 {T:List (Entry Tryz.prog)} (sp:Int):CallAt (ctx T) 158 [.int .i64 sp] ⟨0,[]⟩ (qcr (qg6 sp)) ⟨0,[]⟩:=by
 by_cases h1:sp=1
 ·refine qa2 (fn:=Tryz.f158) (s0:=⟨[0,2,3],[.int .i64 sp,.undef,.undef],[],10,⟨0,[[]]⟩⟩) Tryz.func158 rfl rfl rfl ?_
  (repeat' (first
   | with_reducible refine qb0 ?_
   | with_reducible refine qab ?_
   | (with_reducible refine qa0 qa1 ?_;apply qf4;simp [zS, *];exact rfl)
   | (with_reducible refine qbx ?_;simp only [qaf,qa6])
   | (refine qan rfl ?_)
   | (with_reducible refine qa8 ?_;simp [qad,Tryz.f158,oneOr,qaf,qa6])))
  all_goals first | (skip) | (exfalso;omega)
  simp [qg6,h1]
  exact qq8 rfl (by simp [qa4]) (by simp [qac,qah]) rfl (by simp [qe2]) rfl
 ·by_cases h2:sp=2
  ·refine qa2 (fn:=Tryz.f158) (s0:=⟨[0,2,3],[.int .i64 sp,.undef,.undef],[],10,⟨0,[[]]⟩⟩) Tryz.func158 rfl rfl rfl ?_
   (repeat' (first
    | with_reducible refine qb0 ?_
    | with_reducible refine qab ?_
    | (with_reducible refine qa0 qa1 ?_;apply qf4;simp [zS, *];exact rfl)
    | (with_reducible refine qbx ?_;simp only [qaf,qa6])
    | (refine qan rfl ?_)
    | (refine qam rfl ?_)
    | (with_reducible refine qa8 ?_;simp [qad,Tryz.f158,oneOr,qaf,qa6])))
   all_goals first | (skip) | (exfalso;omega)
   simp [qg6,h2]
   exact qq8 rfl (by simp [qa4]) (by simp [qac,qah]) rfl (by simp [qe2]) rfl
  ·refine qa2 (fn:=Tryz.f158) (s0:=⟨[0,2,3],[.int .i64 sp,.undef,.undef],[],10,⟨0,[[]]⟩⟩) Tryz.func158 rfl rfl rfl ?_
   (repeat' (first
    | with_reducible refine qb0 ?_
    | with_reducible refine qab ?_
    | (with_reducible refine qa0 qa1 ?_;apply qf4;simp [zS, *];exact rfl)
    | (with_reducible refine qbx ?_;simp only [qaf,qa6])
    | (refine qam rfl ?_)
    | (with_reducible refine qa9 ?_;simp only [qaf,qa6])
    | (with_reducible refine qa8 ?_;simp [qad,Tryz.f158,oneOr,qaf,qa6])))
   all_goals first | (skip) | (exfalso;omega)
   simp [qg6,h1,h2]
   exact ends_nil
theorem inj_158 (x y:Int) (h:(fun z:Int=>([.int .i64 z]:List AV)) x=(fun z:Int=>([.int .i64 z]:List AV)) y):x=y:=by
 simp only [List.cons.injEq,and_true] at h
 exact AV.int.inj h |>.2
noncomputable def e158:Entry Tryz.prog:=mkE 158 [[]] (fun z:Int=>[.int .i64 z]) (fun z=>True) (fun z=>qcr (qg6 z)) fun z h=>c158 (T:=[])  z 
theorem k158 {T:List (Entry Tryz.prog)} (hT:qai 158 T=some e158.g) (sp:Int) (H:Heap):qbb (ctx T) (.fn 158) [.int .i64 sp] H=some (qcr (qg6 sp),H):=
 qdc hT inj_158 (sp) trivial (by simp [qac,qah,qau]) (by simp [qau]) H
theorem c160 {T:List (Entry Tryz.prog)} (hL:qai 161 T=some e161.g) (x s:Str) (hx:x.length≤1000000):CallAt (ctx T) 160 [.str x,.fptr [.str s] 0] ⟨0,[]⟩ (.bool (decide (qo2 x=s))) ⟨0,[]⟩:=by
 have kl:=fun H=>k161 hL hx H
 refine qa2 (fn:=Tryz.f160) (s0:=⟨[0,1,3],[.str x,.fptr [.str s] 0,.undef],[],8,⟨0,[[]]⟩⟩) Tryz.func160 rfl rfl rfl ?_
 repeat apply wq
 refine qa0 qa1 ?_
 simp [zS]
 repeat apply wq
 refine qzh mixed qa1 (by decide +kernel) rfl fun B_ hB_=>?_
 have hD_:ahead B_ 1 2=false∧ahead B_ 2 1=false:=by rw [hB_];decide +kernel
 simp [zS,qds,qcc,qbv,qaz,qax,qcj,Heap.lay,qeh,zco,zcn,qkf,qzm,actA_s,layA_s,zc0,zc1,clsA_l,clsA_a,clsA_p,clsA_r,offA_a,offA_l,offA_p,offA_r,hD_,kl]
 refine ⟨_,_,⟨rfl,rfl⟩,?_⟩
 simp [qcj,Heap.lay,qeh,qaf]
 refine qa8 ?_
 simp [qad,Tryz.f160,oneOr,qaf,qa6]
 exact qa5 rfl (by rfl)
abbrev qum:Str:=[48,49,50,51,52,53,54,55,56,57,45,95,58]
def okCh (i:Nat) (c:UInt8):Bool:=(decide (97≤(c.toNat:Int)) && decide ((c.toNat:Int)≤122)) || (decide (0 < (i:Int)) && decide (0≤Lib.indexByte qum c))
def qqf:Str→Nat→Bool
 | [],_=>true
 | c::r,i=>okCh i c && qqf r (i+1)
def lowIn (L:List Str) (s:Str):Bool:=L.any fun x=>decide (qo2 x=s)
def qul (sp:Int) (s:Str):Bool:=decide (s∈qg6 sp) || (!(decide (s=[]) || lowIn (qg6 sp) s) && qqf s 0)
theorem c129 {T:List (Entry Tryz.prog)} (hc0:qai 158 T=some e158.g) (hc1:qai 183 T=some e183.g) (hc2:qai 161 T=some e161.g) (hc3:qai 162 T=some e162.g) (sp:Int) (s:Str) (hs:s.length≤1000000):CallAt (ctx T) 129 [.int .i64 sp,.str s] ⟨0,[]⟩ (.bool (qul sp s)) ⟨0,[]⟩:=by
 have kc0:=@k158 T hc0
 have kc1:=@k183 T hc1
 have kc2:=@k161 T hc2
 have kc3:=@k162 T hc3
 have k0:=fun H=>kc0 sp H
 have k3:=fun c H=>kc3 qum c H
 have hsl:=spel_len sp
 have hml:∀ x,x∈qg6 sp→x.length≤1000000:=by
  unfold qg6
  intro x hx
  split at hx
  ·simp at hx;rcases hx with rfl | rfl | rfl <;> decide
  ·split at hx
   ·simp at hx;subst hx;decide
   ·cases hx
 have hC:=c151 hc1 (qg6 sp) s (by omega)
 have hF:=c159 (T:=T) (qg6 sp) (by omega) 160 [.fptr [.str s] 0] rfl (fun x=>decide (qo2 x=s)) (fun x hx=>c160 hc2 x s (hml x hx))
 have hF2:=CallAt.thaw hF rfl [[1],[]] (H:=⟨1,[[(0,.cells [.str s])]]⟩) (args:=[qcr (qg6 sp),.func (.func 160) [] [.ptr 0 0]]) (by simp [qau,okV,qah,qac,qn7 (H:=⟨1,[[(0,.cells [.str s])]]⟩) (b:=0) (cs:=[.str s]) rfl rfl])
 have el:(qg6 sp).any (fun x=>decide (qo2 x=s))=lowIn (qg6 sp) s:=rfl
 rw [el] at hF2
 have hpu:qac [qcr (qg6 sp),.str s]=true:=by simp [qac,qah]
 unfold qul
 clear hF el hml hsl kc0 kc1 kc2 kc3
 generalize lowIn (qg6 sp) s=lb at *
 generalize decide (s∈qg6 sp)=db at *
 generalize qg6 sp=l at *
 have cb:qgb Tryz.prog ⟨1,[[(0,.cells [.str s])]]⟩ 9 74 (.str s)=some (.slc 1 0 s.length (.rest 1),⟨2,[[(1,.cells (qag s)),(0,.cells [.str s])]]⟩):=by
  have hr:qck s.length 1=true:=by simp [qck];omega
  simp [qgb,hr,Heap.new,pushF]
 have ls:∀ H,qeu Tryz.prog H 74 (.slc 1 0 s.length (.rest 1))=some s.length:=fun H=>rfl
 refine qa2 (fn:=Tryz.f129) (s0:=⟨[0,1,3,4,5,6,7,21,22,23],[.int .i64 sp,.str s,.undef,.undef,.undef,.undef,.undef,.undef,.undef,.undef],[],44,⟨0,[[]]⟩⟩) Tryz.func129 rfl rfl rfl ?_
 repeat apply wq
 refine qa0 qa1 ?_
 simp [zS]
 repeat apply wq
 refine qa0 qa1 ?_
 simp [zS,k0]
 repeat apply wq
 refine qa0 (qh8 [⟨151,_,_,hpu,hC⟩]) ?_
 simp [zS,qme]
 cases db with
 | true=>
  refine qan rfl ?_
  repeat apply wq
  refine qa0 qa1 ?_
  simp [zS]
  refine qa8 ?_
  simp [qad,Tryz.f129,oneOr,qaf,qa6]
  exact qa5 rfl (by rfl)
 | false=>
  refine qam rfl ?_
  refine qa9 ?_
  simp
  repeat apply wq
  refine qa0 (qbc [⟨159,_,_,_,_,hF2⟩]) ?_
  by_cases he:s=[]
  ·simp [zS,qce,he]
   refine qan rfl ?_
   repeat apply wq
   refine qa0 qa1 ?_
   simp [zS]
   refine qa8 ?_
   simp [qad,Tryz.f129,oneOr,qaf,qa6]
   exact qa5 rfl (by simp)
  ·cases lb with
   | true=>
    simp [zS,qce,he]
    refine qan rfl ?_
    repeat apply wq
    refine qa0 qa1 ?_
    simp [zS]
    refine qa8 ?_
    simp [qad,Tryz.f129,oneOr,qaf,qa6]
    exact qa5 rfl (by simp)
   | false=>
    simp [zS,qce,he]
    refine qam rfl ?_
    refine qa9 ?_
    simp
    repeat apply wq
    refine qa0 qa1 ?_
    simp [zS,cb,ls]
    refine qab (qb7 (fun i:Nat=>(⟨[0,1,3,4,5,6,7,21,22,23],[.int .i64 sp,.str s,.fptr [.str s] 0,.bool false,qcr l,.undef,.undef,ql1 s,.int .i64 (s.length:Nat),.int .i64 (i:Int)],[],44,⟨0,[[]]⟩⟩ : St))
     (fun i=>i≤s.length∧qqf s 0=qqf (s.drop i) i) (fun i=>s.length - i) [] [(1,qag s),(0,[.str s])] 0 ⟨Nat.zero_le _,rfl⟩ ⟨rfl,rfl,rfl,?_,?_⟩ ?_)
    ·simp [qb1,qyq,qc5,qah,qac]
     simp [qar,qc5,qac,qah]
    ·refine FitH.fsV (.froze (by simp) fun x hx=>?_) rfl
     simp at hx
     rcases hx with rfl | rfl
     ·exact ⟨qag s,by simp [Heap.get,getFs,getF],qaj (qgj s),qgj s⟩
     ·exact ⟨[.str s],by simp [Heap.get,getFs,getF],qaj rfl,rfl⟩
    rintro i ⟨hi,hx⟩ B hB
    clear hC hF2 cb ls k0
    repeat apply wq
    refine qa0 qa1 ?_
    simp [zS]
    repeat apply wq
    refine qb9 rfl (fun h=>?_) fun h=>?_
    ·simp at h
     have hix:=atBy h
     rw [List.drop_eq_getElem_cons h] at hx
     simp only [qqf] at hx
     have ha:=qbu (show i≤1000000000 by omega)
     have w1:wr .i64 1=some 1:=rfl
     have hfit:(∃ σ Φ,Fit 0 σ Φ (⟨[0,1,3,4,5,6,7,21,22,23],[.int .i64 sp,.str s,.fptr [.str s] 0,.bool false,qcr l,.undef,.undef,ql1 s,.int .i64 (s.length:Nat),.int .i64 ((i+1:Nat):Int)],[],44,⟨0,[[]]⟩⟩ : St) (⟨[0,1,3,4,5,6,7,21,22,23],[.int .i64 sp,.str s,.fptr [.str s] 0,.bool false,qcr l,.undef,.undef,ql1 s,.int .i64 (s.length:Nat),.int .i64 ((i+1:Nat):Int)],[],44,⟨0,[[]]⟩⟩ : St)):=⟨[],[],⟨rfl,rfl,rfl,by simp [qb1,qar,qah,qac,qnn],FitH.nothing⟩⟩
     unfold okCh at hx
     generalize s[i]=c at *
     have k3c:=fun H=>k3 c H
     clear k3
     generalize Lib.indexByte qum c=ib at *
     refine qa9 ?_
     simp only [qaf,qa6]
     (repeat' (first
      | with_reducible refine qb0 ?_
      | with_reducible refine qab ?_
      | (with_reducible refine qa0 qa1 ?_;apply qf4;simp [zS, *];exact rfl)
      | (with_reducible refine qbx ?_;simp only [qaf,qa6])
      | (with_reducible refine qbt (fun hc=>?_) (fun hc=>?_) <;> ((have hd:=hc);(try simp at hd);(try subst hd);apply qf4;simp [zS, *];exact rfl))
      | (with_reducible refine qps (fun hc=>?_) (fun hc=>?_) <;> ((have hd:=hc);(try simp at hd);(try subst hd);apply qf4;simp [zS, *];exact rfl))
      | (refine qan rfl ?_)
      | (refine qam rfl ?_)
      | (refine qb9 rfl (fun hc=>?_) (fun hc=>?_) <;> ((have hd:=hc);(try simp at hd);(try subst hd)))
      | (with_reducible refine qa9 ?_;simp only [qaf,qa6])
      | (with_reducible refine qaw ?_;simp [qaf,qa6])
      | (with_reducible refine qa8 ?_;simp [qad,Tryz.f129,oneOr,qaf,qa6])))
     all_goals first | exact qa5 rfl (by rw [hx];simp [*]) | (exact hB _ (i+1) (by omega) ⟨by omega,by rw [hx];simp [*]⟩ ⟨[],[],⟨rfl,rfl,rfl,by simp [qb1,qar,qah,qac,qnn],FitH.nothing⟩⟩) | (exfalso;omega)
    ·simp at h
     refine qaw ?_
     simp
     repeat apply wq
     refine qa0 qa1 ?_
     simp [zS]
     refine qa8 ?_
     simp [qad,Tryz.f129,oneOr,qaf,qa6]
     exact qa5 rfl (by rw [hx,List.drop_eq_nil_of_le h];simp [qqf,he])
theorem inj_129 (x y:Int × Str) (h:(fun z:Int × Str=>([.int .i64 z.1,.str z.2]:List AV)) x=(fun z:Int × Str=>([.int .i64 z.1,.str z.2]:List AV)) y):x=y:=by
 obtain ⟨x0,x1⟩:=x
 obtain ⟨y0,y1⟩:=y
 simp only [List.cons.injEq,and_true] at h
 obtain ⟨h0,h1⟩:=h
 have g0:x0=y0:=AV.int.inj h0 |>.2
 have g1:x1=y1:=AV.str.inj h1
 subst g0 g1
 rfl
noncomputable def e129:Entry Tryz.prog:=mkE 129 [[],[]] (fun z:Int × Str=>[.int .i64 z.1,.str z.2]) (fun z=>(z.2.length≤1000000)) (fun z=>.bool (qul z.1 z.2)) fun z h=>c129 (T:=[e158,e183,e161,e162]) rfl rfl rfl rfl z.1 z.2 h
theorem k129 {T:List (Entry Tryz.prog)} (hT:qai 129 T=some e129.g) (sp:Int) (s:Str) (hs:s.length≤1000000) (H:Heap):qbb (ctx T) (.fn 129) [.int .i64 sp,.str s] H=some (.bool (qul sp s),H):=
 qal hT inj_129 (sp,s) hs rfl (by simp [qau])
@[simp] theorem szT124:qbw Tryz.prog 124=some 1:=rfl
@[simp] theorem agT124:qgd Tryz.prog 124=some false:=rfl
@[simp] theorem byT124:qc6 Tryz.prog 124=some 8:=rfl
@[simp] theorem alT124 (H:Heap):alV Tryz.prog H 124=some (.ptr H.n 0,H.new (.cells [.nilM])):=rfl
@[simp] theorem zeT124:qbn Tryz.prog 124=some (.nilM):=rfl
attribute [simp] Tryz.underlying124
@[simp 500] theorem rvF124 (H:Heap) (cs:List AV) (o:Nat):qaq Tryz.prog H 124 (.fptr cs o)=qc7 cs o:=rfl
@[simp 500] theorem rvP124 (H:Heap) (b o:Nat):qaq Tryz.prog H 124 (.ptr b o)=(H.get b).bind fun k=>k.rd.bind fun cs=>qc7 cs o:=rfl
def qhj (_:Unit):AV:=.int .i64 1
def mapSV:MapT Tryz.prog 124 AV.str qhj where
 tk:=9
 te:=3
 kd:=_
 hu:=Tryz.underlying124
 hk:=Tryz.underlying9
 eq:=fun a b=>by
  show some (eqB a b)=_
  rw [qku]
 pure:=fun a v=>rfl
def qf0 (L:List Str):List (Str × Unit):=L.map fun s=>(s,())
theorem qof {x:Str}:∀ {L:List Str},getM x (qf0 L)=if x∈L then some () else none
 | []=>rfl
 | y::r=>by
  unfold qf0
  rw [List.map_cons]
  unfold getM
  by_cases h:y=x
  ·simp [h]
  ·have h2:¬ x=y:=fun e=>h e.symm
   have:=qof (x:=x) (L:=r)
   unfold qf0 at this
   simp [h,h2,this]
theorem set_keys {x:Str} {L:List Str} (h:x ∉ L):setM x () (qf0 L)=qf0 (L++[x]):=by
 have hi:qlf x (qf0 L)=none:=by
  cases hq:qlf x (qf0 L) with
  | none=>rfl
  | some i=>
   obtain ⟨h1,h2,h3⟩:=qmr hq
   rw [qof,if_neg h] at h3
   cases h3
 rw [qqz hi]
 simp [qf0]
theorem zci (σ:List (Nat × Nat)) (Φ:List (Nat × List AV)) (S:List Str):qh6 σ Φ (.map (qcp AV.str qhj (qf0 S))) (.map (qcp AV.str qhj (qf0 S))):=by
 have e1:(qcp AV.str qhj (qf0 S)).map (·.1)=S.map AV.str:=by simp [qcp,qf0,Function.comp_def]
 have e2:(qcp AV.str qhj (qf0 S)).map (·.2)=S.map fun _=>AV.int .i64 1:=by simp [qcp,qf0,Function.comp_def,qhj]
 have p1:qac ((qcp AV.str qhj (qf0 S)).map (·.1))=true:=by
  rw [e1]
  clear e1 e2
  induction S with
  | nil=>rfl
  | cons a r ih=>simp only [List.map_cons,qac,qah,Bool.true_and];exact ih
 have p2:qac ((qcp AV.str qhj (qf0 S)).map (·.2))=true:=by
  rw [e2]
  clear e1 e2 p1
  induction S with
  | nil=>rfl
  | cons a r ih=>simp only [List.map_cons,qac,qah,Bool.true_and];exact ih
 exact ⟨qaj p1,qaj p2⟩
def attG (sp:Int):List Str→List At1→Bool
 | _,[]=>true
 | S,a::r=>!decide (a.1∈S) && qul sp a.1 && qkw a.2 && attG sp (S++[a.1]) r
def qkz (n:Nd):Bool:=attG n.space [] n.attrs
def qgc (L:List At1):List Str:=L.map (·.1)
theorem c89 {T:List (Entry Tryz.prog)} (hc0:qai 129 T=some e129.g) (hc1:qai 83 T=some e83.g) (n:Nd) (h:okN n):CallAt (ctx T) 89 [qa7 n] ⟨0,[]⟩ (.bool (qkz n)) ⟨0,[]⟩:=by
 have kc0:=@k129 T hc0
 have kc1:=@k83 T hc1
 have zi:qbn Tryz.prog (mapSV).te=some (.int .i64 0):=rfl
 obtain ⟨sp,hsp⟩ : ∃ sp,sp=n.space:=⟨_,rfl⟩
 refine qa2 (fn:=Tryz.f89) (s0:=⟨[0,1,2,3,5,8,9,10],[qa7 n,.undef,.undef,.undef,.undef,.undef,.undef,.undef],[],37,⟨0,[[]]⟩⟩) Tryz.func89 rfl rfl rfl ?_
 repeat apply wq
 refine qa0 qa1 ?_
 simp [zS,qb5]
 repeat apply wq
 refine qa0 qa1 ?_
 simp [zS]
 repeat apply wq
 refine qa0 qa1 ?_
 simp [zS,qyh]
 refine qab (qb7 (fun i:Nat=>(⟨[0,1,2,3,5,8,9,10],[qa7 n,.fptr n.cs 0,.bool false,.map 0,.undef,qak n.attrs,.int .i64 (n.attrs.length:Nat),.int .i64 (i:Int)],[],37,⟨1,[[(0,.map (qcp AV.str qhj (qf0 (qgc (n.attrs.take i)))))]]⟩⟩ : St))
  (fun i=>i≤n.attrs.length∧qkz n=attG n.space (qgc (n.attrs.take i)) (n.attrs.drop i)) (fun i=>n.attrs.length - i) [(1,0)] [(0,n.cs)] 0 ⟨Nat.zero_le _,by simp [qkz,qgc]⟩ ⟨rfl,rfl,rfl,?_,?_⟩ ?_)
 ·simp [qb1,qar,qay,qc5,qah,qac]
 ·exact {
   nd1:=by simp
   nd2:=by simp
   nd3:=by simp [Heap.ents]
   lt:=by simp
   idn:=by simp
   num:=by simp
   src:=fun e he=>by
    simp [Heap.ents] at he
    subst he
    exact ⟨1,.map [],by simp,by simp [Heap.get,getFs,getF],by simp [qh6,qb1,qcp,qf0,qgc]⟩
   frz:=fun x hx=>by
    simp at hx
    subst hx
    exact ⟨n.cs,by simp [Heap.get,getFs,getF],qaj (qh2 n),qh2 n⟩ }
 rintro i ⟨hi,hx⟩ B hB
 repeat apply wq
 refine qa0 qa1 ?_
 simp [zS]
 repeat apply wq
 refine qb9 rfl (fun h2=>?_) fun h2=>?_
 ·simp at h2
  have hix:=atA h2
  rw [List.drop_eq_getElem_cons h2] at hx
  simp only [attG] at hx
  obtain ⟨l1,l2⟩:=h.2.2.2 _ (List.getElem_mem h2)
  have hT:qgc (n.attrs.take (i+1))=qgc (n.attrs.take i)++[n.attrs[i].1]:=by
   rw [List.take_succ_eq_append_getElem h2];unfold qgc;rw [List.map_append];rfl
  have ha:=qbu (show i≤1000000000 by have:=h.2.1;omega)
  have kn:=fun H=>kc0 n.space n.attrs[i].1 (by omega) H
  have kl:=fun H=>kc1 n.attrs[i].2 (by omega) H
  generalize n.attrs[i]=a at *
  obtain ⟨x,y⟩:=a
  simp only at hT l1 l2 kn kl hx hix
  have hlen:=h.2.1
  generalize hS:qgc (n.attrs.take i)=S at *
  clear kc0 kc1 hc0 hc1 hS
  have lu:qi3 Tryz.prog ⟨2,[[(1,.cells [.str x,.str y]),(0,.map (qcp AV.str qhj (qf0 S)))]]⟩ 124 (.map 0) (.str x) false=some (.int .i64 (if x∈S then 1 else 0)):=by
   rw [mapSV.look (b:=0) (M:=qf0 S) zi (by simp [Heap.get,getFs,getF]) x,qof]
   by_cases hm:x∈S
   ·simp [hm,qhj]
   ·simp [hm]
  by_cases hm:x∈S
  ·simp only [hm,if_true,decide_true,Bool.not_true,Bool.false_and] at lu hx
   refine qa9 ?_
   simp only [qaf,qa6]
   (repeat' (first
    | with_reducible refine qb0 ?_
    | with_reducible refine qab ?_
    | (with_reducible refine qa0 qa1 ?_;apply qf4;simp [zS, *];exact rfl)
    | (with_reducible refine qbx ?_;simp only [qaf,qa6])
    | (refine qan rfl ?_)
    | (with_reducible refine qa8 ?_;simp [qad,Tryz.f89,oneOr,qaf,qa6])))
   all_goals first | exact qa5 rfl (by rw [hx]) | (exfalso;omega)
  ·simp only [hm,if_false,decide_false,Bool.not_false,Bool.true_and] at lu hx
   have mu:qh5 Tryz.prog ⟨2,[[(1,.cells [.str x,.str y]),(0,.map (qcp AV.str qhj (qf0 S)))]]⟩ 124 (.map 0) (.str x) (.int .i64 1)=some ⟨2,[[(1,.cells [.str x,.str y]),(0,.map (qcp AV.str qhj (qf0 (S++[x]))))]]⟩:=by
    have:=mapSV.update (b:=0) (M:=qf0 S) (H:=⟨2,[[(1,.cells [.str x,.str y]),(0,.map (qcp AV.str qhj (qf0 S)))]]⟩) (by simp [Heap.get,getFs,getF]) x ()
    rw [set_keys hm] at this
    rw [show AV.int .i64 1=qhj () from rfl,this]
    simp [Heap.set,setFs,setF]
   have hfit:∀ (v:Int) (w:List (Nat × AV)),v=((i+1:Nat):Int)→Fit 0 [(0,0)] [] ⟨[0,1,2,3,5,8,9,10],[qa7 n,.fptr n.cs 0,.bool false,.map 0,.ptr 1 0,qak n.attrs,.int .i64 (n.attrs.length:Nat),.int .i64 v],w,37,⟨2,[[(1,.cells [.str x,.str y]),(0,.map (qcp AV.str qhj (qf0 (S++[x]))))]]⟩⟩
     (⟨[0,1,2,3,5,8,9,10],[qa7 n,.fptr n.cs 0,.bool false,.map 0,.undef,qak n.attrs,.int .i64 (n.attrs.length:Nat),.int .i64 ((i+1:Nat):Int)],[],37,⟨1,[[(0,.map (qcp AV.str qhj (qf0 (qgc (n.attrs.take (i+1))))))]]⟩⟩ : St):=by
    rintro v w rfl
    rw [hT]
    refine ⟨rfl,rfl,rfl,by simp [qb1,qar,qay,qc5,qah,qac],?_⟩
    exact {
     nd1:=by simp
     nd2:=by simp
     nd3:=by simp [Heap.ents]
     lt:=by simp
     idn:=by simp
     num:=by simp
     src:=fun e he=>by
      simp [Heap.ents] at he
      subst he
      exact ⟨0,.map (qcp AV.str qhj (qf0 (S++[x]))),by simp,by simp [Heap.get,getFs,getF],zci _ _ _⟩
     frz:=fun x hx=>by cases hx }
   have hnx:qul n.space x=true→qkw y=true→qkz n=attG n.space (qgc (n.attrs.take (i+1))) (n.attrs.drop (i+1)):=fun q1 q2=>by rw [hx,hT,q1,q2];rfl
   generalize qul n.space x=b1 at *
   generalize qkw y=b2 at *
   refine qa9 ?_
   simp only [qaf,qa6]
   (repeat' (first
    | with_reducible refine qb0 ?_
    | with_reducible refine qab ?_
    | (with_reducible refine qa0 qa1 ?_;apply qf4;simp [zS, *];exact rfl)
    | (with_reducible refine qbx ?_;simp only [qaf,qa6])
    | (with_reducible refine qbt (fun hc=>?_) (fun hc=>?_) <;> ((have hd:=hc);(try simp at hd);(try subst hd);apply qf4;simp [zS, *];exact rfl))
    | (refine qan rfl ?_)
    | (refine qb9 rfl (fun hc=>?_) (fun hc=>?_) <;> ((have hd:=hc);(try simp at hd);(try subst hd)))
    | (with_reducible refine qa9 ?_;simp only [qaf,qa6])
    | (with_reducible refine qa8 ?_;simp [qad,Tryz.f89,oneOr,qaf,qa6])))
   all_goals first | exact qa5 rfl (by rw [hx];simp [*]) | (exact hB _ (i+1) (by omega) ⟨by omega,hnx rfl rfl⟩ ⟨_,_,hfit _ _ (by simp)⟩) | (exfalso;omega)
 ·simp at h2
  refine qaw ?_
  simp
  repeat apply wq
  refine qa0 qa1 ?_
  simp [zS]
  refine qa8 ?_
  simp [qad,Tryz.f89,oneOr,qaf,qa6]
  exact qa5 rfl (by rw [hx,List.drop_eq_nil_of_le h2];rfl)
theorem inj_89 (x y:Nd) (h:(fun z:Nd=>([qa7 z]:List AV)) x=(fun z:Nd=>([qa7 z]:List AV)) y):x=y:=by
 simp only [List.cons.injEq,and_true] at h
 exact qe0 h
noncomputable def e89:Entry Tryz.prog:=mkE 89 [[0,0,0,2,0,0,1]] (fun z:Nd=>[qa7 z]) (fun z=>(okN z)) (fun z=>.bool (qkz z)) fun z h=>c89 (T:=[e129,e83]) rfl rfl z h
theorem k89 {T:List (Entry Tryz.prog)} (hT:qai 89 T=some e89.g) (n:Nd) (h:okN n) (H:Heap):qbb (ctx T) (.fn 89) [qa7 n] H=some (.bool (qkz n),H):=
 qal hT inj_89 (n) h rfl (by simp [qau])
end Go.Proofs.YtocnpnnplllneaaGreatDoor