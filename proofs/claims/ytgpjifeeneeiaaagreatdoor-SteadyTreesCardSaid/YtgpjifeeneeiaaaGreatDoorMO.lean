/- steady: text; free, strict, May, Chars, the program's code. No condition. -/
import Derived.Test.YtgpjifeeneeiaaaGreatDoorMN
import Derived.Test.YtgpjifeeneeiaaaGreatDoorMJ
import Derived.Test.YtgpjifeeneeiaaaGreatDoorMI
import Derived.Test.YtgpjifeeneeiaaaGreatDoorMK
import Derived.Test.YtgpjifeeneeiaaaGreatDoorMM
import Derived.Shelf.Strings.SlTrimAscii
namespace Go.Proofs.YtgpjifeeneeiaaaGreatDoor
set_option linter.unusedSimpArgs false
set_option linter.unusedVariables false
open Go Go.RowKit
set_option maxRecDepth 100000
def conB (s t:Str):Bool:=decide (0≤Lib.index s t)
theorem c82 {T:List (Entry Tryz.prog)} (hI:qag 77 T=some e77.g) (s t:Str) (hl:s.length≤1000000):CallAt (ctx T) 82 [.str s,.str t] ⟨0,[]⟩ (.bool (conB s t)) ⟨0,[]⟩:=by
 have hk:=fun H=>k77 hI (t:=t) hl H
 refine qa3 (fn:=Tryz.f82) (s0:=⟨[0,1,4],[.str s,.str t,.undef],[],9,⟨0,[[]]⟩⟩) Tryz.func82 rfl rfl rfl ?_
 (repeat (first
  | (refine qah ?_)
  | (refine qa9 ?_)
  | (refine qcf ?_;simp only [qaa,qa2])
  | ((refine qa0 qa1 ?_);simp [zS,hk])
  | (refine qai rfl ?_)
  | (refine qal rfl ?_)
  | ((refine qa7 ?_);simp only [qaa,qa2])
  | ((refine qat ?_);simp [qaa,qa2])))
 repeat apply wq
 refine qa8 ?_
 simp [qab,Tryz.f82,oneOr,qaa,qa2]
 exact qa4 rfl (by simp [conB])
noncomputable def e82:Entry Tryz.prog:=mkE 82 [[],[]] (fun x:Str × Str=>[.str x.1,.str x.2]) (fun x=>x.1.length≤1000000) (fun x=>.bool (conB x.1 x.2)) fun x h=>c82 (T:=[e77]) rfl x.1 x.2 h
theorem k82 {T:List (Entry Tryz.prog)} (hT:qag 82 T=some e82.g) {s:Str} (t:Str) (hl:s.length≤1000000) (H:Heap):qb9 (ctx T) (.fn 82) [.str s,.str t] H=some (.bool (conB s t),H):=
 qae hT qrf (s,t) hl rfl (by simp)
@[simp] theorem szT65:qc7 Tryz.prog 65=some 1:=rfl
@[simp] theorem agT65:qgs Tryz.prog 65=some false:=rfl
@[simp] theorem byT65:qce Tryz.prog 65=some 8:=rfl
@[simp] theorem alT65 (H:Heap):alV Tryz.prog H 65=some (.ptr H.n 0,H.new (.cells [.nilF])):=rfl
@[simp] theorem zeT65:qbt Tryz.prog 65=some (.nilF):=rfl
attribute [simp] Tryz.underlying65
@[simp 500] theorem rvF65 (H:Heap) (cs:List AV) (o:Nat):qb5 Tryz.prog H 65 (.fptr cs o)=qcl cs o:=rfl
@[simp 500] theorem rvP65 (H:Heap) (b o:Nat):qb5 Tryz.prog H 65 (.ptr b o)=(H.get b).bind fun k=>k.rd.bind fun cs=>qcl cs o:=rfl
theorem qvp {α:Type} {p:α→Bool}:∀ (L:List α) (k:Nat),(0≤qbk p L k)↔L.any p=true
 | [],k=>by simp [qbk]
 | y::r,k=>by
  unfold qbk
  by_cases h:p y=true
  ·simp [h]
  ·rw [if_neg h,qvp r (k+1)]
   simp [h]
theorem c123 {T:List (Entry Tryz.prog)} (L:List Str) (hl:L.length≤1000000) (f:FuncId) (cap:List AV) (hc:qac cap=true) (p:Str→Bool) (hp:∀ s,s∈L→CallAt (ctx T) f (.str s::cap) ⟨0,[]⟩ (.bool (p s)) ⟨0,[]⟩) :
  CallAt (ctx T) 123 [qc5 L,.func (.func f) [] cap] ⟨0,[]⟩ (.int .i64 (qbk p L 0)) ⟨0,[]⟩:=by
 refine qa3 (fn:=Tryz.f123) (s0:=⟨[0,1,4,5,7,8],[qc5 L,.func (.func f) [] cap,.undef,.undef,.undef,.undef],[],19,⟨0,[[]]⟩⟩) Tryz.func123 rfl rfl rfl ?_
 repeat apply wq
 refine qa0 qa1 ?_
 simp [zS]
 repeat apply wq
 refine qa0 qa1 ?_
 simp [zS,lenS]
 refine qa9 (qax (fun i:Nat=>(⟨[0,1,4,5,7,8],[qc5 L,.func (.func f) [] cap,.int .i64 0,.undef,.int .i64 (L.length:Nat),.int .i64 i],[],19,⟨0,[[]]⟩⟩ : St))
  (fun i=>i≤L.length∧qbk p L 0=qbk p (L.drop i) i) (fun i=>L.length - i) [] [] 0 ⟨Nat.zero_le _,rfl⟩ ⟨rfl,rfl,rfl,by simp [qb6,qay,qaf,qac,qc5,hc],FitH.nothing⟩ ?_)
 rintro i ⟨hi,hx⟩ B hB
 repeat apply wq
 refine qa0 qa1 ?_
 simp [zS]
 repeat apply wq
 refine qau rfl (fun h=>?_) fun h=>?_
 ·simp at h
  rw [qfw h] at hx
  refine qa7 ?_
  simp
  repeat apply wq
  refine qa9 ?_
  repeat apply wq
  refine qa0 qa1 ?_
  simp [zS]
  have hcall:=(hp L[i] (List.getElem_mem h)).lift (by simp [qac,qaf,hc]) ⟨0,[[]]⟩
  skip
  rcases Bool.eq_false_or_eq_true (p L[i]) with hb | hb
  ·rw [hb] at hcall hx
   repeat apply wq
   refine qa0 (qca [⟨f,_,_,_,_,hcall⟩]) ?_
   simp [zS,atS h, qdb]
   refine qai rfl ?_
   repeat apply wq
   refine qa0 qa1 ?_
   simp [zS]
   refine qa8 ?_
   simp [qab,Tryz.f123,oneOr,qaa,qa2]
   exact qa4 rfl (by rw [hx,if_pos rfl])
  ·rw [hb] at hcall hx
   repeat apply wq
   refine qa0 (qca [⟨f,_,_,_,_,hcall⟩]) ?_
   simp [zS,atS h, qdb]
   refine qal rfl ?_
   refine qa7 ?_
   simp
   refine qa0 qa1 ?_
   simp [zS,qba (show i≤1000000000 by omega)]
   exact hB _ (i+1) (by omega) ⟨by omega,by rw [hx,if_neg (by decide)]⟩ ⟨[],[],⟨rfl,rfl,rfl,by simp [qb6,qay,qaf,qac,qc5,hc],FitH.nothing⟩⟩
 ·simp at h
  refine qat ?_
  simp
  repeat apply wq
  refine qa0 qa1 ?_
  simp [zS]
  refine qa8 ?_
  simp [qab,Tryz.f123,oneOr,qaa,qa2]
  exact qa4 rfl (by rw [hx,List.drop_eq_nil_of_le h];rfl)
theorem c88 {T:List (Entry Tryz.prog)} (L:List Str) (hl:L.length≤1000000) (f:FuncId) (cap:List AV) (hc:qac cap=true) (p:Str→Bool) (hp:∀ s,s∈L→CallAt (ctx T) f (.str s::cap) ⟨0,[]⟩ (.bool (p s)) ⟨0,[]⟩) :
  CallAt (ctx T) 88 [qc5 L,.func (.func f) [] cap] ⟨0,[]⟩ (.bool (L.any p)) ⟨0,[]⟩:=by
 have hk:=(c123 (T:=T) L hl f cap hc p hp).lift (by simp [qac,qaf,hc]) ⟨0,[[]]⟩
 have hd:decide (0≤qbk p L 0)=L.any p:=by rw [Bool.eq_iff_iff,decide_eq_true_iff];exact qvp L 0
 generalize qbk p L 0=v at *
 refine qa3 (fn:=Tryz.f88) (s0:=⟨[0,1,4],[qc5 L,.func (.func f) [] cap,.undef],[],9,⟨0,[[]]⟩⟩) Tryz.func88 rfl rfl rfl ?_
 repeat apply wq
 refine qa0 qa1 ?_
 simp [zS]
 repeat apply wq
 refine qa0 (qca [⟨123,_,_,_,_,hk⟩]) ?_
 simp [zS,qdb]
 refine qa8 ?_
 simp [qab,Tryz.f88,oneOr,qaa,qa2]
 exact qa4 rfl (by rw [hd])
theorem c110 {T:List (Entry Tryz.prog)} (L:List Nd) (hl:L.length≤1000000) (f:FuncId) (cap:List AV) (hc:qac cap=true) (p:Nd→Bool) (hp:∀ s,s∈L→CallAt (ctx T) f (qaj s::cap) ⟨0,[]⟩ (.bool (p s)) ⟨0,[]⟩) :
  CallAt (ctx T) 110 [qa5 L,.func (.func f) [] cap] ⟨0,[]⟩ (.int .i64 (qbk p L 0)) ⟨0,[]⟩:=by
 refine qa3 (fn:=Tryz.f110) (s0:=⟨[0,1,4,5,7,8],[qa5 L,.func (.func f) [] cap,.undef,.undef,.undef,.undef],[],19,⟨0,[[]]⟩⟩) Tryz.func110 rfl rfl rfl ?_
 repeat apply wq
 refine qa0 qa1 ?_
 simp [zS]
 repeat apply wq
 refine qa0 qa1 ?_
 simp [zS,qfu]
 refine qa9 (qax (fun i:Nat=>(⟨[0,1,4,5,7,8],[qa5 L,.func (.func f) [] cap,.int .i64 0,.undef,.int .i64 (L.length:Nat),.int .i64 i],[],19,⟨0,[[]]⟩⟩ : St))
  (fun i=>i≤L.length∧qbk p L 0=qbk p (L.drop i) i) (fun i=>L.length - i) [] [] 0 ⟨Nat.zero_le _,rfl⟩ ⟨rfl,rfl,rfl,by simp [qb6,qay,qaf,qac,hc],FitH.nothing⟩ ?_)
 rintro i ⟨hi,hx⟩ B hB
 repeat apply wq
 refine qa0 qa1 ?_
 simp [zS]
 repeat apply wq
 refine qau rfl (fun h=>?_) fun h=>?_
 ·simp at h
  rw [qfw h] at hx
  refine qa7 ?_
  simp
  repeat apply wq
  refine qa9 ?_
  repeat apply wq
  refine qa0 qa1 ?_
  simp [zS]
  have hcall:=hp L[i] (List.getElem_mem h)
  have hix:=atX (t:=L) (i:=(i:Int)) (by omega) (by omega)
  rw [qc3 h] at hix
  have hpu:qac (qaj L[i]::cap)=true:=by simp [qac,hc]
  rcases Bool.eq_false_or_eq_true (p L[i]) with hb | hb
  ·rw [hb] at hcall hx
   repeat apply wq
   refine qa0 (qhs [⟨f,_,_,hpu,hcall⟩]) ?_
   simp [zS,hix,qao,qg5]
   refine qai rfl ?_
   repeat apply wq
   refine qa0 qa1 ?_
   simp [zS]
   refine qa8 ?_
   simp [qab,Tryz.f110,oneOr,qaa,qa2]
   exact qa4 rfl (by rw [hx,if_pos rfl])
  ·rw [hb] at hcall hx
   repeat apply wq
   refine qa0 (qhs [⟨f,_,_,hpu,hcall⟩]) ?_
   simp [zS,hix,qao,qg5]
   refine qal rfl ?_
   refine qa7 ?_
   simp
   refine qa0 qa1 ?_
   simp [zS,qba (show i≤1000000000 by omega)]
   exact hB _ (i+1) (by omega) ⟨by omega,by rw [hx,if_neg (by decide)]⟩ ⟨[],[],⟨rfl,rfl,rfl,by simp [qb6,qay,qaf,qac,hc],FitH.nothing⟩⟩
 ·simp at h
  refine qat ?_
  simp
  repeat apply wq
  refine qa0 qa1 ?_
  simp [zS]
  refine qa8 ?_
  simp [qab,Tryz.f110,oneOr,qaa,qa2]
  exact qa4 rfl (by rw [hx,List.drop_eq_nil_of_le h];rfl)
theorem c74 {T:List (Entry Tryz.prog)} (L:List Nd) (hl:L.length≤1000000) (f:FuncId) (cap:List AV) (hc:qac cap=true) (p:Nd→Bool) (hp:∀ s,s∈L→CallAt (ctx T) f (qaj s::cap) ⟨0,[]⟩ (.bool (p s)) ⟨0,[]⟩) :
  CallAt (ctx T) 74 [qa5 L,.func (.func f) [] cap] ⟨0,[]⟩ (.bool (L.any p)) ⟨0,[]⟩:=by
 have hk:=c110 (T:=T) L hl f cap hc p hp
 have hd:decide (0≤qbk p L 0)=L.any p:=by rw [Bool.eq_iff_iff,decide_eq_true_iff];exact qvp L 0
 generalize qbk p L 0=v at *
 refine qa3 (fn:=Tryz.f74) (s0:=⟨[0,1,4],[qa5 L,.func (.func f) [] cap,.undef],[],9,⟨0,[[]]⟩⟩) Tryz.func74 rfl rfl rfl ?_
 repeat apply wq
 refine qa0 qa1 ?_
 simp [zS]
 repeat apply wq
 refine qa0 (qhs [⟨110,_,_,by simp [qac,qaf,hc],hk⟩]) ?_
 simp [zS,qg5]
 refine qa8 ?_
 simp [qab,Tryz.f74,oneOr,qaa,qa2]
 exact qa4 rfl (by rw [hd])
theorem c85 {T:List (Entry Tryz.prog)} (hc0:qag 42 T=some e42.g) (n:Nd) (W:Str) (hW:qcz W) (hl:W.length≤100000) (hx:n.name.length≤1000000000):CallAt (ctx T) 85 [qaj n,.fptr [.str W] 0] ⟨0,[]⟩ (.bool (elB n W)) ⟨0,[]⟩:=by
 have kc0:=@k42 T hc0
 refine qa3 (fn:=Tryz.f85) (s0:=⟨[0,1,2,3],[qaj n,.fptr [.str W] 0,.undef,.undef],[],7,⟨0,[[]]⟩⟩) Tryz.func85 rfl rfl rfl ?_
 (repeat' (first
  | with_reducible refine qah ?_
  | (with_reducible refine qa0 qa1 ?_;apply qbn;simp [zS, *,qao];exact rfl)
  | (with_reducible refine qas ?_;simp only [qaa,qa2])
  | (with_reducible refine qa8 ?_;simp [qab,Tryz.f85,oneOr,qaa,qa2])))
 all_goals first | exact qa4 rfl (by first | (simp [*];done) | (simp_all;done)) | (exfalso;omega)
theorem c50 {T:List (Entry Tryz.prog)} (hc0:qag 51 T=some e51.g) (n:Nd) (sc:Int) (hx:n.name.length≤1000000000):CallAt (ctx T) 50 [qaj n,.fptr [.int .i64 sc] 0] ⟨0,[]⟩ (.bool (qge sc n.space n.name)) ⟨0,[]⟩:=by
 have kc0:=@k51 T hc0
 refine qa3 (fn:=Tryz.f50) (s0:=⟨[0,1,2,3],[qaj n,.fptr [.int .i64 sc] 0,.undef,.undef],[],10,⟨0,[[]]⟩⟩) Tryz.func50 rfl rfl rfl ?_
 (repeat' (first
  | with_reducible refine qah ?_
  | (with_reducible refine qa0 qa1 ?_;apply qbn;simp [zS, *,qao];exact rfl)
  | (with_reducible refine qas ?_;simp only [qaa,qa2])
  | (with_reducible refine qa8 ?_;simp [qab,Tryz.f50,oneOr,qaa,qa2])))
 all_goals first | exact qa4 rfl (by first | (simp [*];done) | (simp_all;done)) | (exfalso;omega)
abbrev lsAdp:Str:=[97,100,100,114,101,115,115,32,100,105,118,32,112]
theorem c111 {T:List (Entry Tryz.prog)} (hc0:qag 86 T=some e86.g) (hc1:qag 42 T=some e42.g) (n:Nd) (hx:n.name.length≤1000000000):CallAt (ctx T) 111 [qaj n] ⟨0,[]⟩ (.bool (qdc n.space n.name && !elB n lsAdp)) ⟨0,[]⟩:=by
 have kc0:=@k86 T hc0
 have kc1:=@k42 T hc1
 have hp:qcz lsAdp:=qmp (by decide)
 have hq:lsAdp.length≤100000:=by decide
 refine qa3 (fn:=Tryz.f111) (s0:=⟨[0,1,2],[qaj n,.undef,.undef],[],13,⟨0,[[]]⟩⟩) Tryz.func111 rfl rfl rfl ?_
 (repeat' (first
  | with_reducible refine qah ?_
  | (with_reducible refine qa0 qa1 ?_;apply qbn;simp [zS, *,qao];exact rfl)
  | (with_reducible refine qas ?_;simp only [qaa,qa2])
  | (with_reducible refine qaz (fun hc=>?_) (fun hc=>?_) <;> ((have hd:=hc);(try simp at hd);(try subst hd);apply qbn;simp [zS, *,qao];exact rfl))
  | (with_reducible refine qa8 ?_;simp [qab,Tryz.f111,oneOr,qaa,qa2])))
 all_goals first | exact qa4 rfl (by first | (simp [*];done) | (simp_all;done)) | (exfalso;omega)
def qkx (n:Nd):Bool:=decide (n.space=0) && inW qpa n.name
theorem c112 {T:List (Entry Tryz.prog)} (hc0:qag 113 T=some e113.g) (hc1:qag 42 T=some e42.g) (n:Nd) (hx:n.name.length≤1000000000):CallAt (ctx T) 112 [qaj n] ⟨0,[]⟩ (.bool (elB n [97] && !qkx n)) ⟨0,[]⟩:=by
 have kc0:=@k113 T hc0
 have kc1:=@k42 T hc1
 have hp:qcz [97]:=qmp (by decide)
 refine qa3 (fn:=Tryz.f112) (s0:=⟨[0,1,2],[qaj n,.undef,.undef],[],13,⟨0,[[]]⟩⟩) Tryz.func112 rfl rfl rfl ?_
 (repeat' (first
  | with_reducible refine qah ?_
  | (with_reducible refine qa0 qa1 ?_;apply qbn;simp [zS, *,qao];exact rfl)
  | (with_reducible refine qas ?_;simp only [qaa,qa2])
  | (with_reducible refine qaz (fun hc=>?_) (fun hc=>?_) <;> ((have hd:=hc);(try simp at hd);(try subst hd);apply qbn;simp [zS, *,qao];exact rfl))
  | (with_reducible refine qa8 ?_;simp [qab,Tryz.f112,oneOr,qaa,qa2])))
 all_goals first | exact qa4 rfl (by first | (simp [qkx, *];done) | (simp_all [qkx];done)) | (exfalso;omega)
theorem c114 {T:List (Entry Tryz.prog)} (hc0:qag 113 T=some e113.g) (n:Nd) (hx:n.name.length≤1000000000):CallAt (ctx T) 114 [qaj n] ⟨0,[]⟩ (.bool (qkx n)) ⟨0,[]⟩:=by
 have kc0:=@k113 T hc0
 refine qa3 (fn:=Tryz.f114) (s0:=⟨[0,1,2],[qaj n,.undef,.undef],[],8,⟨0,[[]]⟩⟩) Tryz.func114 rfl rfl rfl ?_
 (repeat' (first
  | with_reducible refine qah ?_
  | (with_reducible refine qa0 qa1 ?_;apply qbn;simp [zS, *,qao];exact rfl)
  | (with_reducible refine qas ?_;simp only [qaa,qa2])
  | (with_reducible refine qa8 ?_;simp [qab,Tryz.f114,oneOr,qaa,qa2])))
 all_goals first | exact qa4 rfl (by first | (simp [qkx, *];done) | (simp_all [qkx];done)) | (exfalso;omega)
theorem c49 {T:List (Entry Tryz.prog)} (W:Str):CallAt (ctx T) 49 [.str W] ⟨0,[]⟩ (qfh 85 [.fptr [.str W] 0]) ⟨0,[]⟩:=by
 refine qa3 (fn:=Tryz.f49) (s0:=⟨[0,1,2],[.str W,.undef,.undef],[],4,⟨0,[[]]⟩⟩) Tryz.func49 rfl rfl rfl ?_
 repeat apply wq
 refine qa0 qa1 ?_
 simp [zS]
 repeat apply wq
 refine qa0 qa1 ?_
 simp [zS]
 refine qa8 ?_
 simp [qab,Tryz.f49,oneOr]
 refine ⟨[],[(0,[.str W])],by simp [qfh,qay,qb6,qc1],.froze (by simp) fun x hx=>?_⟩
 rw [List.mem_singleton] at hx
 subst hx
 exact ⟨[.str W],by simp [Heap.get,getFs,getF],qak (by simp [qac,qaf]),by simp [qac,qaf]⟩
theorem inj_49 (x y:Str) (h:(fun z:Str=>([.str z]:List AV)) x=(fun z:Str=>([.str z]:List AV)) y):x=y:=by
 simp only [List.cons.injEq,and_true] at h
 exact AV.str.inj h
noncomputable def e49:Entry Tryz.prog:=mkE 49 [[]] (fun z:Str=>[.str z]) (fun z=>True) (fun z=>qfh 85 [.fptr [.str z] 0]) fun z h=>c49 (T:=[])  z 
theorem k49 {T:List (Entry Tryz.prog)} (hT:qag 49 T=some e49.g) (W:Str) (H:Heap):qb9 (ctx T) (.fn 49) [.str W] H=some (qfh 85 [.fptr [.str W] 0],H):=
 qdd hT inj_49 (W) trivial (by simp [qac,qaf,qar]) (by simp [qar]) H
def qdu (L:List Nd) (W:Str) (sc:Int):Bool:=zbp (fun n=>elB n W) (fun n=>qge sc n.space n.name) L
theorem c18 {T:List (Entry Tryz.prog)} (hc0:qag 49 T=some e49.g) (hc1:qag 42 T=some e42.g) (hc2:qag 51 T=some e51.g) (hc3:qag 84 T=some e84.g) (L:List Nd) (W:Str) (sc:Int) (hp:okP L) (hW:qcz W) (hl:W.length≤100000):CallAt (ctx T) 18 [qa5 L,.str W,.int .i64 sc] ⟨0,[]⟩ (.bool (qdu L W sc)) ⟨0,[]⟩:=by
 have kc0:=@k49 T hc0
 have kc1:=@k42 T hc1
 have kc2:=@k51 T hc2
 have kc3:=@k84 T hc3
 have hc:=c48 hc3 L (by have:=hp.1;omega) (f1:=85) (c1:=[.fptr [.str W] 0]) (f2:=50) (c2:=[.fptr [.int .i64 sc] 0]) rfl rfl (p:=fun n=>elB n W) (q:=fun n=>qge sc n.space n.name) (fun n hn=>c85 hc1 n W hW hl (hp.2 n hn).nm) (fun n hn=>c50 hc2 n sc (hp.2 n hn).nm)
 have hcall:=CallAt.thaw hc rfl [[7],[],[]] (H:=⟨1,[[(0,.cells [.int .i64 sc])]]⟩) (args:=[qa5 L,qfh 85 [.fptr [.str W] 0],.func (.func 50) [] [.ptr 0 0]]) (by simp [qfh,qar,okV,qaf,qac,qne (H:=⟨1,[[(0,.cells [.int .i64 sc])]]⟩) (b:=0) (cs:=[.int .i64 sc]) rfl rfl])
 refine qa3 (fn:=Tryz.f18) (s0:=⟨[0,1,2,5,6],[qa5 L,.str W,.int .i64 sc,.undef,.undef],[],12,⟨0,[[]]⟩⟩) Tryz.func18 rfl rfl rfl ?_
 repeat apply wq
 refine qa0 qa1 ?_
 simp [zS]
 repeat apply wq
 refine qa0 (qca [⟨48,_,_,_,_,hcall⟩]) ?_
 simp [zS,qdb,kc0]
 refine qa8 ?_
 simp [qab,Tryz.f18,oneOr,qaa,qa2]
 exact qa4 rfl (by rfl)
theorem inj_18 (x y:List Nd × Str × Int) (h:(fun z:List Nd × Str × Int=>([qa5 z.1,.str z.2.1,.int .i64 z.2.2]:List AV)) x=(fun z:List Nd × Str × Int=>([qa5 z.1,.str z.2.1,.int .i64 z.2.2]:List AV)) y):x=y:=by
 obtain ⟨x0,x1,x2⟩:=x
 obtain ⟨y0,y1,y2⟩:=y
 simp only [List.cons.injEq,and_true] at h
 obtain ⟨h0,h1,h2⟩:=h
 have g0:x0=y0:=qc4 h0
 have g1:x1=y1:=AV.str.inj h1
 have g2:x2=y2:=AV.int.inj h2 |>.2
 subst g0 g1 g2
 rfl
noncomputable def e18:Entry Tryz.prog:=mkE 18 [[7],[],[]] (fun z:List Nd × Str × Int=>[qa5 z.1,.str z.2.1,.int .i64 z.2.2]) (fun z=>(okP z.1)∧(qcz z.2.1)∧(z.2.1.length≤100000)) (fun z=>.bool (qdu z.1 z.2.1 z.2.2)) fun z h=>c18 (T:=[e49,e42,e51,e84]) rfl rfl rfl rfl z.1 z.2.1 z.2.2 h.1 h.2.1 h.2.2
theorem k18 {T:List (Entry Tryz.prog)} (hT:qag 18 T=some e18.g) (L:List Nd) (W:Str) (sc:Int) (hp:okP L) (hW:qcz W) (hl:W.length≤100000) (H:Heap):qb9 (ctx T) (.fn 18) [qa5 L,.str W,.int .i64 sc] H=some (.bool (qdu L W sc),H):=
 qae hT inj_18 (L,W,sc) ⟨hp,hW,hl⟩ rfl (by simp [qar])
def qeb (L:List Nd) (W:Str):Bool:=zbp (fun n=>elB n W) (fun n=>qdc n.space n.name && !elB n lsAdp) L
theorem c75 {T:List (Entry Tryz.prog)} (hc0:qag 49 T=some e49.g) (hc1:qag 42 T=some e42.g) (hc2:qag 86 T=some e86.g) (hc3:qag 84 T=some e84.g) (L:List Nd) (W:Str) (hp:okP L) (hW:qcz W) (hl:W.length≤100000):CallAt (ctx T) 75 [qa5 L,.str W] ⟨0,[]⟩ (.bool (qeb L W)) ⟨0,[]⟩:=by
 have kc0:=@k49 T hc0
 have kc1:=@k42 T hc1
 have kc2:=@k86 T hc2
 have kc3:=@k84 T hc3
 have hc:=c48 hc3 L (by have:=hp.1;omega) (f1:=85) (c1:=[.fptr [.str W] 0]) (f2:=111) (c2:=[]) rfl rfl (p:=fun n=>elB n W) (q:=fun n=>qdc n.space n.name && !elB n lsAdp) (fun n hn=>c85 hc1 n W hW hl (hp.2 n hn).nm) (fun n hn=>c111 hc2 hc1 n (hp.2 n hn).nm)
 refine qa3 (fn:=Tryz.f75) (s0:=⟨[0,1,4],[qa5 L,.str W,.undef],[],9,⟨0,[[]]⟩⟩) Tryz.func75 rfl rfl rfl ?_
 repeat apply wq
 refine qa0 qa1 ?_
 simp [zS]
 repeat apply wq
 refine qa0 (qhs [⟨48,_,_,by simp [qac,qfh,qaf],hc⟩]) ?_
 simp [zS,qmo,kc0,qfh]
 refine qa8 ?_
 simp [qab,Tryz.f75,oneOr,qaa,qa2]
 exact qa4 rfl (by rfl)
theorem inj_75 (x y:List Nd × Str) (h:(fun z:List Nd × Str=>([qa5 z.1,.str z.2]:List AV)) x=(fun z:List Nd × Str=>([qa5 z.1,.str z.2]:List AV)) y):x=y:=by
 obtain ⟨x0,x1⟩:=x
 obtain ⟨y0,y1⟩:=y
 simp only [List.cons.injEq,and_true] at h
 obtain ⟨h0,h1⟩:=h
 have g0:x0=y0:=qc4 h0
 have g1:x1=y1:=AV.str.inj h1
 subst g0 g1
 rfl
noncomputable def e75:Entry Tryz.prog:=mkE 75 [[7],[]] (fun z:List Nd × Str=>[qa5 z.1,.str z.2]) (fun z=>(okP z.1)∧(qcz z.2)∧(z.2.length≤100000)) (fun z=>.bool (qeb z.1 z.2)) fun z h=>c75 (T:=[e49,e42,e86,e84]) rfl rfl rfl rfl z.1 z.2 h.1 h.2.1 h.2.2
theorem k75 {T:List (Entry Tryz.prog)} (hT:qag 75 T=some e75.g) (L:List Nd) (W:Str) (hp:okP L) (hW:qcz W) (hl:W.length≤100000) (H:Heap):qb9 (ctx T) (.fn 75) [qa5 L,.str W] H=some (.bool (qeb L W),H):=
 qae hT inj_75 (L,W) ⟨hp,hW,hl⟩ rfl (by simp [qar])
def qfj (L:List Nd):Bool:=zbp (fun n=>elB n [97] && !qkx n) qkx L
theorem c76 {T:List (Entry Tryz.prog)} (hc0:qag 113 T=some e113.g) (hc1:qag 42 T=some e42.g) (hc2:qag 84 T=some e84.g) (L:List Nd) (hp:okP L):CallAt (ctx T) 76 [qa5 L] ⟨0,[]⟩ (.bool (qfj L)) ⟨0,[]⟩:=by
 have kc0:=@k113 T hc0
 have kc1:=@k42 T hc1
 have kc2:=@k84 T hc2
 have hc:=c48 hc2 L (by have:=hp.1;omega) (f1:=112) (c1:=[]) (f2:=114) (c2:=[]) rfl rfl (p:=fun n=>elB n [97] && !qkx n) (q:=qkx) (fun n hn=>c112 hc0 hc1 n (hp.2 n hn).nm) (fun n hn=>c114 hc0 n (hp.2 n hn).nm)
 refine qa3 (fn:=Tryz.f76) (s0:=⟨[0,2],[qa5 L,.undef],[],5,⟨0,[[]]⟩⟩) Tryz.func76 rfl rfl rfl ?_
 repeat apply wq
 refine qa0 qa1 ?_
 simp [zS]
 repeat apply wq
 refine qa0 (qhs [⟨48,_,_,by simp [qac,qfh,qaf],hc⟩]) ?_
 simp [zS,qmo,qfh]
 refine qa8 ?_
 simp [qab,Tryz.f76,oneOr,qaa,qa2]
 exact qa4 rfl (by rfl)
theorem inj_76 (x y:List Nd) (h:(fun z:List Nd=>([qa5 z]:List AV)) x=(fun z:List Nd=>([qa5 z]:List AV)) y):x=y:=by
 simp only [List.cons.injEq,and_true] at h
 exact qc4 h
noncomputable def e76:Entry Tryz.prog:=mkE 76 [[7]] (fun z:List Nd=>[qa5 z]) (fun z=>(okP z)) (fun z=>.bool (qfj z)) fun z h=>c76 (T:=[e113,e42,e84]) rfl rfl rfl z h
theorem k76 {T:List (Entry Tryz.prog)} (hT:qag 76 T=some e76.g) (L:List Nd) (hp:okP L) (H:Heap):qb9 (ctx T) (.fn 76) [qa5 L] H=some (.bool (qfj L),H):=
 qae hT inj_76 (L) hp rfl (by simp [qar])
def qve:Go.Shelf.Ren:=⟨fun | 119=>173 | 120=>175 | 137=>91 | 151=>168 | 152=>164 | 160=>121 | 197=>167 | 217=>124 | 224=>144 | 225=>143 | 227=>150 | 228=>166 | 231=>148 | 232=>149 | 233=>151 | 234=>152 | 235=>153 | 236=>154 | 260=>174 | 266=>155 | 271=>169 | n=>n,fun | 0=>0 | 3=>3 | 4=>4 | 5=>5 | 9=>9 | 21=>21 | 46=>125 | 105=>149 | 116=>136 | 117=>137 | 119=>130 | 124=>140 | 138=>132 | 139=>133 | n=>n,fun | 3=>1 | 4=>2 | n=>n⟩
theorem lays160:Go.Proofs.Lays.n160 Tryz.prog qve where
 mixed:=by kernel_rfl
 f119:=Tryz.func173.trans (congrArg some (by kernel_rfl))
 f120:=Tryz.func175.trans (congrArg some (by kernel_rfl))
 f137:=Tryz.func91.trans (congrArg some (by kernel_rfl))
 f151:=Tryz.func168.trans (congrArg some (by kernel_rfl))
 f152:=Tryz.func164.trans (congrArg some (by kernel_rfl))
 f160:=Tryz.func121.trans (congrArg some (by kernel_rfl))
 f197:=Tryz.func167.trans (congrArg some (by kernel_rfl))
 f217:=Tryz.func124.trans (congrArg some (by kernel_rfl))
 f224:=Tryz.func144.trans (congrArg some (by kernel_rfl))
 f225:=Tryz.func143.trans (congrArg some (by kernel_rfl))
 f227:=Tryz.func150.trans (congrArg some (by kernel_rfl))
 f228:=Tryz.func166.trans (congrArg some (by kernel_rfl))
 f231:=Tryz.func148.trans (congrArg some (by kernel_rfl))
 f232:=Tryz.func149.trans (congrArg some (by kernel_rfl))
 f233:=Tryz.func151.trans (congrArg some (by kernel_rfl))
 f234:=Tryz.func152.trans (congrArg some (by kernel_rfl))
 f235:=Tryz.func153.trans (congrArg some (by kernel_rfl))
 f236:=Tryz.func154.trans (congrArg some (by kernel_rfl))
 f260:=Tryz.func174.trans (congrArg some (by kernel_rfl))
 f266:=Tryz.func155.trans (congrArg some (by kernel_rfl))
 f271:=Tryz.func169.trans (congrArg some (by kernel_rfl))
 t0:=Tryz.underlying0
 a0:=Tryz.isAgg0
 z0:=Tryz.sizeOf0
 v0:=Tryz.zeroValue0
 t3:=Tryz.underlying3
 a3:=Tryz.isAgg3
 z3:=Tryz.sizeOf3
 v3:=Tryz.zeroValue3
 t4:=Tryz.underlying4
 a4:=Tryz.isAgg4
 z4:=Tryz.sizeOf4
 v4:=Tryz.zeroValue4
 t5:=Tryz.underlying5
 a5:=Tryz.isAgg5
 z5:=Tryz.sizeOf5
 v5:=Tryz.zeroValue5
 t9:=Tryz.underlying9
 a9:=Tryz.isAgg9
 z9:=Tryz.sizeOf9
 v9:=Tryz.zeroValue9
 t21:=Tryz.underlying21
 a21:=Tryz.isAgg21
 z21:=Tryz.sizeOf21
 v21:=Tryz.zeroValue21
 t46:=Tryz.underlying125
 a46:=Tryz.isAgg125
 z46:=Tryz.sizeOf125
 v46:=Tryz.zeroValue125
 t105:=Tryz.underlying149
 a105:=Tryz.isAgg149
 z105:=Tryz.sizeOf149
 v105:=Tryz.zeroValue149
 t116:=Tryz.underlying136
 a116:=Tryz.isAgg136
 z116:=Tryz.sizeOf136
 t117:=Tryz.underlying137
 a117:=Tryz.isAgg137
 z117:=Tryz.sizeOf137
 v117:=Tryz.zeroValue137
 t119:=Tryz.underlying130
 a119:=Tryz.isAgg130
 z119:=Tryz.sizeOf130
 t124:=Tryz.underlying140
 a124:=Tryz.isAgg140
 z124:=Tryz.sizeOf140
 v124:=Tryz.zeroValue140
 t138:=Tryz.underlying132
 a138:=Tryz.isAgg132
 z138:=Tryz.sizeOf132
 v138:=Tryz.zeroValue132
 t139:=Tryz.underlying133
 a139:=Tryz.isAgg133
 z139:=Tryz.sizeOf133
 v139:=Tryz.zeroValue133
 g3:=by kernel_rfl
 g4:=by kernel_rfl
abbrev blV:Str:=[9,10,12,13,32]
theorem qsq:(Tryz.prog.info? 136).map (fun i=>(i.zero,i.size))=some (some (.agg (Array.replicate 256 (.bool false))),256):=by kernel_rfl
theorem bl_spV (c:UInt8):blV.contains c=sp c:=by
 have key:∀ n:Fin 256,blV.contains (UInt8.ofNat n.val)=sp (UInt8.ofNat n.val):=by decide +kernel
 have:=key ⟨c.toNat,c.toNat_lt⟩
 simpa using this
theorem qyz {ρ:Place} {w w':World} (sm:Sim ρ ⟨0,[]⟩ w) (h:Below w.heap.size w w'):Sim ρ ⟨0,[]⟩ w' where
 base:=fun k hk=>Nat.lt_of_lt_of_le (sm.base k hk) h.size
 below:=fun k hk=>(h.block k (sm.base k hk)).trans (sm.below k hk)
 os:=h.os.trans sm.os
 tape:=h.tape.trans sm.tape
 output:=h.output.trans sm.output
 dom:=sm.dom
 nodup:=sm.nodup
 live:=fun e he=>by simp [Heap.ents] at he
 inj:=fun e e' he=>by simp [Heap.ents] at he
theorem quy {ρ:Place} {w w':World} (h:Below w.heap.size w w'):Step ρ ⟨0,[]⟩ w ρ ⟨0,[]⟩ w' where
 le:=Place.le_refl ρ
 size:=h.size
 keeps:=fun k hk _=>h.block k hk
 rows:=fun e' he'=>by simp [Heap.ents] at he'
 num:=Nat.le_refl _
 low:=fun _ _=>rfl
 cold:=fun k hk=>.inl hk
def qqs (s:Str):Str:=((s.reverse.dropWhile sp).reverse).dropWhile sp
theorem c121 {T:List (Entry Tryz.prog)} (s:Str) (hs:s.length≤1000000000):CallAt (ctx T) 121 [.str s,.str blV] ⟨0,[]⟩ (.str (qqs s)) ⟨0,[]⟩:=by
 intro ρ w xs sm hx
 match xs,hx with
 | [x,y],hx=>
  have h0:=hx.2 0 (by simp) (by simp)
  have h1:=hx.2 1 (by simp) (by simp)
  simp only [List.getElem_cons_zero,List.getElem_cons_succ] at h0 h1
  cases h0;cases h1
  have hrun:(callFunc 121 #[.string ⟨s.toArray⟩,.string ⟨blV.toArray⟩]).run (ctx T).P w=.ok (.enter 121 #[.string ⟨s.toArray⟩,.string ⟨blV.toArray⟩]) w:=by
   have hf:(ctx T).P.funcs[121]? = some Tryz.f121:=Tryz.func121
   have hn : ¬ Tryz.f121.name = "runtime.NumGoroutine" := by decide +kernel
   simp [callFunc,hf,hn,Tryz.f121]
  refine .inr ⟨121,_,hrun,callsIn_wide.2 ?_⟩
  refine (Go.Proofs.Any.strings_Trim_ascii lays160 (zero_of_info qsq).1 (zero_of_info qsq).2 ⟨s.toArray⟩ ⟨blV.toArray⟩ w (by show s.length≤_;omega) (by decide) (fun j b hj=>?_)).mono ?_
  ·have hm:b∈blV:=List.mem_of_getElem? hj
   simp at hm
   rcases hm with rfl | rfl | rfl | rfl | rfl <;> decide
  ·rintro e w' ⟨rfl,hb⟩
   have hv:Lib.trimS (⟨s.toArray⟩ : ByteArray).data.toList (⟨blV.toArray⟩ : ByteArray).data.toList=qqs s:=by
    have e1:(fun c=>blV.contains c)=sp:=funext bl_spV
    show ((s.toArray.toList.reverse.dropWhile (fun c=>blV.contains c)).reverse).dropWhile (fun c=>blV.contains c)=_
    rw [e1];rfl
   rw [hv]
   exact ⟨_,ρ,rfl,.str _,qyz sm hb,quy hb⟩
noncomputable def e121:Entry Tryz.prog:=mkE 121 [[],[]] (fun x:Str=>[.str x,.str blV]) (fun x=>x.length≤1000000000) (fun x=>.str (qqs x)) fun x h=>c121 (T:=[]) x h
theorem k121 {T:List (Entry Tryz.prog)} (hT:qag 121 T=some e121.g) (s:Str) (hs:s.length≤1000000000) (H:Heap):qb9 (ctx T) (.fn 121) [.str s,.str blV] H=some (.str (qqs s),H):=
 qdd hT (fun x y h=>by simpa using h) s hs (by simp [qac,qaf]) (by simp) H
theorem zdk {p:UInt8→Bool}:∀ (s:Str),s.dropWhile p=[]↔s.all p=true
 | []=>by simp
 | c::r=>by
  rw [List.dropWhile_cons]
  by_cases h:p c=true
  ·simp [h,zdk r]
  ·simp [h]
theorem qwn (s:Str):decide (qqs s=[])=s.all sp:=by
 rw [Bool.eq_iff_iff,decide_eq_true_iff]
 unfold qqs
 rw [zdk,List.all_reverse]
 constructor
 ·intro h
  have e:=List.takeWhile_append_dropWhile (p:=sp) (l:=s.reverse)
  have:s.reverse.all sp=true:=by
   rw [← e,List.all_append,Bool.and_eq_true]
   exact ⟨List.all_takeWhile,h⟩
  simpa using this
 ·intro h
  have:s.reverse.dropWhile sp=[]:=(zdk _).2 (by simpa using h)
  rw [this];rfl
theorem c83 {T:List (Entry Tryz.prog)} (hc0:qag 121 T=some e121.g) (s:Str) (hs:s.length≤1000000000):CallAt (ctx T) 83 [.str s] ⟨0,[]⟩ (.str (qqs s)) ⟨0,[]⟩:=by
 have kc0:=@k121 T hc0
 refine qa3 (fn:=Tryz.f83) (s0:=⟨[0,2],[.str s,.undef],[],5,⟨0,[[]]⟩⟩) Tryz.func83 rfl rfl rfl ?_
 (repeat' (first
  | with_reducible refine qah ?_
  | (with_reducible refine qa0 qa1 ?_;apply qbn;simp [zS, *];exact rfl)
  | (with_reducible refine qas ?_;simp only [qaa,qa2])
  | (with_reducible refine qa8 ?_;simp [qab,Tryz.f83,oneOr,qaa,qa2])))
 all_goals first | exact qa4 rfl (by first | (simp [*];done) | (simp_all;done)) | (exfalso;omega)
theorem inj_83 (x y:Str) (h:(fun z:Str=>([.str z]:List AV)) x=(fun z:Str=>([.str z]:List AV)) y):x=y:=by
 simp only [List.cons.injEq,and_true] at h
 exact AV.str.inj h
noncomputable def e83:Entry Tryz.prog:=mkE 83 [[]] (fun z:Str=>[.str z]) (fun z=>(z.length≤1000000000)) (fun z=>.str (qqs z)) fun z h=>c83 (T:=[e121]) rfl z h
theorem k83 {T:List (Entry Tryz.prog)} (hT:qag 83 T=some e83.g) (s:Str) (hs:s.length≤1000000000) (H:Heap):qb9 (ctx T) (.fn 83) [.str s] H=some (.str (qqs s),H):=
 qae hT inj_83 (s) hs rfl (by simp [qar])
theorem c47 {T:List (Entry Tryz.prog)} (hc0:qag 83 T=some e83.g) (s:Str) (hs:s.length≤1000000000):CallAt (ctx T) 47 [.str s] ⟨0,[]⟩ (.bool (s.all sp)) ⟨0,[]⟩:=by
 have kc0:=@k83 T hc0
 refine qa3 (fn:=Tryz.f47) (s0:=⟨[0,2],[.str s,.undef],[],6,⟨0,[[]]⟩⟩) Tryz.func47 rfl rfl rfl ?_
 (repeat' (first
  | with_reducible refine qah ?_
  | (with_reducible refine qa0 qa1 ?_;apply qbn;simp [zS, *];exact rfl)
  | (with_reducible refine qas ?_;simp only [qaa,qa2])
  | (with_reducible refine qa8 ?_;simp [qab,Tryz.f47,oneOr,qaa,qa2])))
 all_goals first | exact qa4 rfl (by first | (simp [← qwn, *];done) | (simp_all [← qwn];done)) | (exfalso;omega)
theorem inj_47 (x y:Str) (h:(fun z:Str=>([.str z]:List AV)) x=(fun z:Str=>([.str z]:List AV)) y):x=y:=by
 simp only [List.cons.injEq,and_true] at h
 exact AV.str.inj h
noncomputable def e47:Entry Tryz.prog:=mkE 47 [[]] (fun z:Str=>[.str z]) (fun z=>(z.length≤1000000000)) (fun z=>.bool (z.all sp)) fun z h=>c47 (T:=[e83]) rfl z h
theorem k47 {T:List (Entry Tryz.prog)} (hT:qag 47 T=some e47.g) (s:Str) (hs:s.length≤1000000000) (H:Heap):qb9 (ctx T) (.fn 47) [.str s] H=some (.bool (s.all sp),H):=
 qae hT inj_47 (s) hs rfl (by simp [qar])
def qg4 (s:Str):Bool:=qji s && !conB s [13]
theorem c45 {T:List (Entry Tryz.prog)} (hc0:qag 81 T=some e81.g) (hc1:qag 82 T=some e82.g) (s:Str) (hs:s.length≤900000):CallAt (ctx T) 45 [.str s] ⟨0,[]⟩ (.bool (qg4 s)) ⟨0,[]⟩:=by
 have kc0:=@k81 T hc0
 have kc1:=@k82 T hc1
 have hs2:s.length≤1000000:=by omega
 refine qa3 (fn:=Tryz.f45) (s0:=⟨[0,2],[.str s,.undef],[],10,⟨0,[[]]⟩⟩) Tryz.func45 rfl rfl rfl ?_
 (repeat' (first
  | with_reducible refine qah ?_
  | (with_reducible refine qa0 qa1 ?_;apply qbn;simp [zS, *];exact rfl)
  | (with_reducible refine qas ?_;simp only [qaa,qa2])
  | (with_reducible refine qaz (fun hc=>?_) (fun hc=>?_) <;> ((have hd:=hc);(try simp at hd);(try subst hd);apply qbn;simp [zS, *];exact rfl))
  | (with_reducible refine qa8 ?_;simp [qab,Tryz.f45,oneOr,qaa,qa2])))
 all_goals first | exact qa4 rfl (by first | (simp [qg4, *];done) | (simp_all [qg4];done)) | (exfalso;omega)
theorem inj_45 (x y:Str) (h:(fun z:Str=>([.str z]:List AV)) x=(fun z:Str=>([.str z]:List AV)) y):x=y:=by
 simp only [List.cons.injEq,and_true] at h
 exact AV.str.inj h
noncomputable def e45:Entry Tryz.prog:=mkE 45 [[]] (fun z:Str=>[.str z]) (fun z=>(z.length≤900000)) (fun z=>.bool (qg4 z)) fun z h=>c45 (T:=[e81,e82]) rfl rfl z h
theorem k45 {T:List (Entry Tryz.prog)} (hT:qag 45 T=some e45.g) (s:Str) (hs:s.length≤900000) (H:Heap):qb9 (ctx T) (.fn 45) [.str s] H=some (.bool (qg4 s),H):=
 qae hT inj_45 (s) hs rfl (by simp [qar])
def qd1 (n:Nd):Bool:=decide (n.name=[]) && decide (n.attrs=[]) && decide (n.space=0)
theorem c21 {T:List (Entry Tryz.prog)} (n:Nd):CallAt (ctx T) 21 [qaj n] ⟨0,[]⟩ (.bool (qd1 n)) ⟨0,[]⟩:=by
 have la:∀ H,qe3 Tryz.prog H 28 (qb7 n.attrs)=some n.attrs.length:=fun H=>qfo
 refine qa3 (fn:=Tryz.f21) (s0:=⟨[0,1,2],[qaj n,.undef,.undef],[],17,⟨0,[[]]⟩⟩) Tryz.func21 rfl rfl rfl ?_
 (repeat' (first
  | with_reducible refine qah ?_
  | (with_reducible refine qa0 qa1 ?_;apply qbn;simp [zS, *,qao];exact rfl)
  | (with_reducible refine qas ?_;simp only [qaa,qa2])
  | (with_reducible refine qaz (fun hc=>?_) (fun hc=>?_) <;> ((have hd:=hc);(try simp at hd);(try subst hd);apply qbn;simp [zS, *,qao];exact rfl))
  | (with_reducible refine qa8 ?_;simp [qab,Tryz.f21,oneOr,qaa,qa2])))
 all_goals first | exact qa4 rfl (by first | (simp [qd1, *];done) | (simp_all [qd1];done)) | (exfalso;omega)
theorem inj_21 (x y:Nd) (h:(fun z:Nd=>([qaj z]:List AV)) x=(fun z:Nd=>([qaj z]:List AV)) y):x=y:=by
 simp only [List.cons.injEq,and_true] at h
 exact qcd h
noncomputable def e21:Entry Tryz.prog:=mkE 21 [[0,0,0,2,0,0,1]] (fun z:Nd=>[qaj z]) (fun z=>True) (fun z=>.bool (qd1 z)) fun z h=>c21 (T:=[])  z 
theorem k21 {T:List (Entry Tryz.prog)} (hT:qag 21 T=some e21.g) (n:Nd) (H:Heap):qb9 (ctx T) (.fn 21) [qaj n] H=some (.bool (qd1 n),H):=
 qae hT inj_21 (n) trivial rfl (by simp [qar])
def qeh (L:List Nd) (s:Str):Bool:=!decide (s=[]) && qg4 s && !(decide ((qap L).kind=1) && qi5 (qap L).space (qap L).name) && (!elB (qap L) lsB8 || s.all sp)
theorem qh2 {L:List Nd} (h:okP L):okN (qap L):=by
 unfold qap
 split
 ·exact ⟨by decide,by decide,by decide,fun a ha=>by cases ha⟩
 ·rename_i hne
  have:0 < L.length:=List.length_pos_iff.2 hne
  exact h.2 _ (qcj (by omega) (by omega))
theorem c17 {T:List (Entry Tryz.prog)} (hc0:qag 37 T=some e37.g) (hc1:qag 45 T=some e45.g) (hc2:qag 46 T=some e46.g) (hc3:qag 42 T=some e42.g) (hc4:qag 47 T=some e47.g) (L:List Nd) (s:Str) (hp:okP L) (hs:s.length≤900000):CallAt (ctx T) 17 [qa5 L,.str s] ⟨0,[]⟩ (.bool (qeh L s)) ⟨0,[]⟩:=by
 have kc0:=@k37 T hc0
 have kc1:=@k45 T hc1
 have kc2:=@k46 T hc2
 have kc3:=@k42 T hc3
 have kc4:=@k47 T hc4
 have hl:L.length≤1000000:=by have:=hp.1;omega
 have hx:=(qh2 hp).nm
 have hs2:s.length≤1000000000:=by omega
 have h1:qcz lsB8:=qmp (by decide)
 refine qa3 (fn:=Tryz.f17) (s0:=⟨[0,1,4,5],[qa5 L,.str s,.undef,.undef],[],32,⟨0,[[]]⟩⟩) Tryz.func17 rfl rfl rfl ?_
 (repeat' (first
  | with_reducible refine qah ?_
  | with_reducible refine qa9 ?_
  | (with_reducible refine qa0 qa1 ?_;apply qbn;simp [zS, *,qao];exact rfl)
  | (with_reducible refine qas ?_;simp only [qaa,qa2])
  | (with_reducible refine qaz (fun hc=>?_) (fun hc=>?_) <;> ((have hd:=hc);(try simp at hd);(try subst hd);apply qbn;simp [zS, *,qao];exact rfl))
  | (refine qai rfl ?_)
  | (refine qal rfl ?_)
  | (refine qau rfl (fun hc=>?_) (fun hc=>?_) <;> ((have hd:=hc);(try simp at hd);(try subst hd)))
  | (with_reducible refine qa7 ?_;simp only [qaa,qa2])
  | (with_reducible refine qa8 ?_;simp [qab,Tryz.f17,oneOr,qaa,qa2])))
 all_goals first | exact qa4 rfl (by first | (simp [qeh, *];done) | (simp_all [qeh];done)) | (exfalso;omega)
theorem inj_17 (x y:List Nd × Str) (h:(fun z:List Nd × Str=>([qa5 z.1,.str z.2]:List AV)) x=(fun z:List Nd × Str=>([qa5 z.1,.str z.2]:List AV)) y):x=y:=by
 obtain ⟨x0,x1⟩:=x
 obtain ⟨y0,y1⟩:=y
 simp only [List.cons.injEq,and_true] at h
 obtain ⟨h0,h1⟩:=h
 have g0:x0=y0:=qc4 h0
 have g1:x1=y1:=AV.str.inj h1
 subst g0 g1
 rfl
noncomputable def e17:Entry Tryz.prog:=mkE 17 [[7],[]] (fun z:List Nd × Str=>[qa5 z.1,.str z.2]) (fun z=>(okP z.1)∧(z.2.length≤900000)) (fun z=>.bool (qeh z.1 z.2)) fun z h=>c17 (T:=[e37,e45,e46,e42,e47]) rfl rfl rfl rfl rfl z.1 z.2 h.1 h.2
theorem k17 {T:List (Entry Tryz.prog)} (hT:qag 17 T=some e17.g) (L:List Nd) (s:Str) (hp:okP L) (hs:s.length≤900000) (H:Heap):qb9 (ctx T) (.fn 17) [qa5 L,.str s] H=some (.bool (qeh L s),H):=
 qae hT inj_17 (L,s) ⟨hp,hs⟩ rfl (by simp [qar])
theorem q17 {T:List (Entry Tryz.prog)} (hT:qag 17 T=some e17.g) {H:Heap} {a0:AV} {L:List Nd} (b0:qej H [7] a0=some (qa5 L)) (s:Str) (hp:okP L) (hs:s.length≤900000):qb9 (ctx T) (.fn 17) [a0,.str s] H=some (.bool (qeh L s),H):=
 qae hT inj_17 (L,s) ⟨hp,hs⟩ rfl (by simp [b0])
end Go.Proofs.YtgpjifeeneeiaaaGreatDoor