/- steady.Tree; the closed test of law 28. No condition. -/
import Derived.Test.YtgpjifeeneeiaaaGreatDoorMT
import Derived.Test.YtgpjifeeneeiaaaGreatDoorMK
namespace Go.Proofs.YtgpjifeeneeiaaaGreatDoor
set_option linter.unusedSimpArgs false
set_option linter.unusedVariables false
open Go Go.RowKit
set_option maxRecDepth 100000
theorem c20 {T:List (Entry Tryz.prog)} (hc0:qag 53 T=some e53.g) (t:Tr) (ht:qmj t):CallAt (ctx T) 20 [qam t] ⟨0,[]⟩ (.bool (qbp t)) ⟨0,[]⟩:=by
 have kc0:=@k53 T hc0
 exact right_at hc0 t ht
theorem inj_20 (x y:Tr) (h:(fun z:Tr=>([qam z]:List AV)) x=(fun z:Tr=>([qam z]:List AV)) y):x=y:=by
 simp only [List.cons.injEq,and_true] at h
 exact qde h
noncomputable def e20:Entry Tryz.prog:=mkE 20 [[7]] (fun z:Tr=>[qam z]) (fun z=>(qmj z)) (fun z=>.bool (qbp z)) fun z h=>c20 (T:=[e53]) rfl z h
theorem k20 {T:List (Entry Tryz.prog)} (hT:qag 20 T=some e20.g) (t:Tr) (ht:qmj t) (H:Heap):qb9 (ctx T) (.fn 20) [qam t] H=some (.bool (qbp t),H):=
 qae hT inj_20 (t) ht rfl (by simp [qar])
theorem c7 {T:List (Entry Tryz.prog)} (hc0:qag 15 T=some e15.g) (hc1:qag 19 T=some e19.g) (hc2:qag 17 T=some e17.g) (hc3:qag 21 T=some e21.g) (hc4:qag 42 T=some e42.g) (hc5:qag 22 T=some e22.g) (hc6:qag 23 T=some e23.g) (hc7:qag 20 T=some e20.g) (t:Tr) (ht:qf2 t) (hn:∀ n,n∈t→okN n):CallAt (ctx T) 7 [qam t] ⟨0,[]⟩ (.bool (qp5 t)) ⟨0,[]⟩:=by
 have kc0:=@k15 T hc0
 have kc1:=@k19 T hc1
 have kc2:=@k17 T hc2
 have kc3:=@k21 T hc3
 have kc4:=@k42 T hc4
 have kc5:=@k22 T hc5
 have kc6:=@k23 T hc6
 have kc7:=@k20 T hc7
 exact zaw hc0 hc1 hc2 hc3 hc4 hc5 hc6 t (fun H=>kc7 t ht.2 H) ht hn fun h=>by
  have:=qvt h (t.length+2) 0 (qg1 h) (by omega)
  exact this
theorem inj_7 (x y:Tr) (h:(fun z:Tr=>([qam z]:List AV)) x=(fun z:Tr=>([qam z]:List AV)) y):x=y:=by
 simp only [List.cons.injEq,and_true] at h
 exact qde h
noncomputable def e7:Entry Tryz.prog:=mkE 7 [[7]] (fun z:Tr=>[qam z]) (fun z=>(qf2 z)∧(∀ n,n∈z→okN n)) (fun z=>.bool (qp5 z)) fun z h=>c7 (T:=[e15,e19,e17,e21,e42,e22,e23,e20]) rfl rfl rfl rfl rfl rfl rfl rfl z h.1 h.2
theorem k7 {T:List (Entry Tryz.prog)} (hT:qag 7 T=some e7.g) (t:Tr) (ht:qf2 t) (hn:∀ n,n∈t→okN n) (H:Heap):qb9 (ctx T) (.fn 7) [qam t] H=some (.bool (qp5 t),H):=
 qae hT inj_7 (t) ⟨ht,hn⟩ rfl (by simp [qar])
theorem qis {T:List (Entry Tryz.prog)} {f:FuncId} {g:List AV→Heap→Option (AV × Heap)} {args:List AV} {v:AV} (hT:qag f T=some g) (h:qb9 (ctx T) (.fn f) args ⟨0,[]⟩=some (v,⟨0,[]⟩)):CallAt ⟨Tryz.prog,fun _=>[],fun _=>none⟩ f args ⟨0,[]⟩ v ⟨0,[]⟩:=by
 rw [qlx (C:=ctx T) (g:=g) hT] at h
 exact qrp hT args _ _ _ h
def nP:Nd:=⟨1,0,[112],[],[],0,[]⟩
def nB:Nd:=⟨1,0,[98,117,116,116,111,110],[],[],0,[]⟩
def nT:Nd:=⟨1,0,[116,114],[],[],0,[]⟩
def nA:Nd:=⟨0,0,[],[([65],[])],[],0,[]⟩
def tP:Tr:=[⟨0,0,[],[],[],-1,[1]⟩,⟨1,0,[112],[],[],0,[]⟩]
def tQ:Tr:=[⟨0,0,[],[],[],-1,[1]⟩,⟨1,0,[112],[],[],0,[2]⟩,⟨1,0,[112],[],[],1,[]⟩]
theorem okN_P:okN nP:=⟨by decide,by decide,by decide,fun a ha=>by cases ha⟩
theorem okN_B:okN nB:=⟨by decide,by decide,by decide,fun a ha=>by cases ha⟩
theorem okN_T:okN nT:=⟨by decide,by decide,by decide,fun a ha=>by cases ha⟩
theorem okN_A:okN nA:=⟨by decide,by decide,by decide,fun a ha=>by simp [nA] at ha;subst ha;exact ⟨by decide,by decide⟩⟩
theorem okP_P:okP [nP]:=⟨by decide,fun n hn=>by simp at hn;subst hn;exact okN_P⟩
theorem okP_PB:okP [nP,nB]:=⟨by decide,fun n hn=>by simp at hn;rcases hn with rfl | rfl;exact okN_P;exact okN_B⟩
theorem okP_T:okP [nT]:=⟨by decide,fun n hn=>by simp at hn;subst hn;exact okN_T⟩
theorem small_P:qf2 tP:=⟨by decide,by decide,fun n hn=>by simp [tP] at hn;rcases hn with rfl | rfl <;> exact ⟨by decide,by decide⟩⟩
theorem small_Q:qf2 tQ:=⟨by decide,by decide,fun n hn=>by simp [tQ] at hn;rcases hn with rfl | rfl | rfl <;> exact ⟨by decide,by decide⟩⟩
theorem okn_P:∀ n,n∈tP→okN n:=fun n hn=>by simp [tP] at hn;rcases hn with rfl | rfl <;> exact ⟨by decide,by decide,by decide,fun a ha=>by cases ha⟩
theorem okn_Q:∀ n,n∈tQ→okN n:=fun n hn=>by simp [tQ] at hn;rcases hn with rfl | rfl | rfl <;> exact ⟨by decide,by decide,by decide,fun a ha=>by cases ha⟩
theorem steady_P:qp5 tP=true:=by decide +kernel
theorem steady_Q:qp5 tQ=false:=by decide +kernel
theorem may_P:qti [nP] nP=false:=by decide +kernel
theorem may_PB:qti [nP,nB] nP=true:=by decide +kernel
theorem know_g:qjd 1 [103]=true:=by decide +kernel
theorem chars_T:qeh [nT] [97]=false:=by decide +kernel
theorem scope_P:qdu [nP] [112] 2=true:=by decide +kernel
theorem attrs_A:qfg nA=false:=by decide +kernel
noncomputable def T28:List (Entry Tryz.prog):=[
 qzl 7 [([qam tP],.bool true),([qam tQ],.bool false)] (fun x hx=>by
  simp only [List.mem_cons,List.not_mem_nil,or_false] at hx
  rcases hx with rfl | rfl
  ·exact ⟨rfl,by rw [← steady_P];exact qis (T:=[e7]) rfl (k7 (T:=[e7]) rfl tP small_P okn_P _)⟩
  ·exact ⟨rfl,by rw [← steady_Q];exact qis (T:=[e7]) rfl (k7 (T:=[e7]) rfl tQ small_Q okn_Q _)⟩),
 qzl 15 [([qa5 [nP],qaj nP],.bool false),([qa5 [nP,nB],qaj nP],.bool true)] (fun x hx=>by
  simp only [List.mem_cons,List.not_mem_nil,or_false] at hx
  rcases hx with rfl | rfl
  ·exact ⟨rfl,by rw [← may_P];exact qis (T:=[e15]) rfl (k15 (T:=[e15]) rfl _ _ okP_P okN_P _)⟩
  ·exact ⟨rfl,by rw [← may_PB];exact qis (T:=[e15]) rfl (k15 (T:=[e15]) rfl _ _ okP_PB okN_P _)⟩),
 qzl 16 [([.int .i64 1,.str [103]],.bool true)] (fun x hx=>by
  simp only [List.mem_cons,List.not_mem_nil,or_false] at hx
  subst hx
  exact ⟨rfl,by rw [← know_g];exact qis (T:=[e16]) rfl (k16 (T:=[e16]) rfl 1 (x:=[103]) (by decide) _)⟩),
 qzl 17 [([qa5 [nT],.str [97]],.bool false)] (fun x hx=>by
  simp only [List.mem_cons,List.not_mem_nil,or_false] at hx
  subst hx
  exact ⟨rfl,by rw [← chars_T];exact qis (T:=[e17]) rfl (k17 (T:=[e17]) rfl _ _ okP_T (by decide) _)⟩),
 qzl 18 [([qa5 [nP],.str [112],.int .i64 2],.bool true)] (fun x hx=>by
  simp only [List.mem_cons,List.not_mem_nil,or_false] at hx
  subst hx
  exact ⟨rfl,by rw [← scope_P];exact qis (T:=[e18]) rfl (k18 (T:=[e18]) rfl _ _ 2 okP_P (qmp (by decide)) (by decide) _)⟩),
 qzl 19 [([qaj nA],.bool false)] (fun x hx=>by
  simp only [List.mem_cons,List.not_mem_nil,or_false] at hx
  subst hx
  exact ⟨rfl,by rw [← attrs_A];exact qis (T:=[e19]) rfl (k19 (T:=[e19]) rfl nA okN_A _)⟩)]
theorem awake28:qvk (qow (ctx T28) 100000 (.fn 6) [] ⟨0,[]⟩)=true:=by decide +kernel
noncomputable def e6:Entry Tryz.prog:=mkE 6 [] (fun _:Unit=>[]) (fun _=>True) (fun _=>.bool true) fun _ _=>qzx awake28
theorem k6 {T:List (Entry Tryz.prog)} (hT:qag 6 T=some e6.g) (H:Heap):qb9 (ctx T) (.fn 6) [] H=some (.bool true,H):=
 qae hT (fun _ _ _=>rfl) () trivial rfl rfl
end Go.Proofs.YtgpjifeeneeiaaaGreatDoor