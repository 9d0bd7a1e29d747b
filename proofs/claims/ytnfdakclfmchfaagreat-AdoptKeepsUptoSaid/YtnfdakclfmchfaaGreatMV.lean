/- Law 19's closed test; what may be done. No condition. -/
import Derived.Test.YtnfdakclfmchfaaGreatMU
namespace Go.Proofs.YtnfdakclfmchfaaGreat
noncomputable section
set_option linter.unusedSimpArgs false
set_option linter.unusedVariables false
open Go Go.RowKit
set_option maxRecDepth 100000
set_option maxHeartbeats 2000000
variable {T:List (Entry Tryz.prog)}
theorem awake19:qva (qvq (ctx TW) 100000 (.fn 14) [] zH)=true:=by decide +kernel
def e14:Entry PG:=mkE 14 [] (fun _:Unit=>[]) (fun _=>True) (fun _=>.bool true) fun _ _=>qyt awake19
theorem k14(hT:qIn 14 T e14) (H:Heap):qb5 (ctx T) (.fn 14) [] H=some (.bool true,H):=
 qb9 hT (fun _ _ _=>rfl) () trivial rfl rfl
def qms(o:Opn):Bool:=decide (o.name.length<=60) && qjc o.attrs
theorem small_ok{o:Opn} (h:qms o=true):OpOk o:=by simp only[qms,qjc,jf,yk]at h;exact⟨h.1,h.2.1⟩
theorem c9(hP:qIn 34 T e34) (o:Opn):CA T 9 [qz3 o] zH (.bool (qms o)) zH:=by
 obtain⟨dd,sp,nm,L⟩:=o;have kP:=fun H=>k34 hP L H;have e:qms ⟨dd,sp,nm,L⟩=(decide (nm.length<=60) && qjc L):=rfl;rw[e];generalize qjc L=b at *;unfold qz3 Opn.cs;refine qa1 (s0:=⟨[0,1,2],[.agg [.int .i64 dd,.int .i64 sp,.str nm,qae L],uD,uD],[],12,⟨0,[[]]⟩⟩) Tryz.func9 rfl rfl rfl ?_;by_cases h:nm.length<=60
 ·have h':(nm.length:Int)<=60:=by omega
  rw[decide_eq_true h]
  exact zL0
 ·have h':¬ (nm.length:Int)<=60:=by omega
  rw[decide_eq_false h]
  exact zL0
def e9:Entry PG:=mkE 9 [[]] (fun o:Opn=>[qz3 o]) (fun _=>True) (fun o=>.bool (qms o)) fun o _=>c9 (T:=[e34]) rfl o
theorem k9(hT:qIn 9 T e9) (o:Opn) (H:Heap):qb5 (ctx T) (.fn 9) [qz3 o] H=some (.bool (qms o),H):=
 qb9 hT (fun x y h=>zbc (by simpa using h)) o trivial rfl (by simp[qbl,qam,qz3,Opn.cs,okV,qa2,qa6,qae])
