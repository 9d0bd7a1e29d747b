/- steady: ends, free, strict, May, the program's code. No condition. -/
import Derived.Test.YtgpjifeeneeiaaaGreatDoorMO
namespace Go.Proofs.YtgpjifeeneeiaaaGreatDoor
set_option linter.unusedSimpArgs false
set_option linter.unusedVariables false
open Go Go.RowKit
set_option maxRecDepth 100000
abbrev qvb:Str:= qpb
def quc (x:Str):Bool:=decide (x=[104,114]∨x=[116,97,98,108,101]∨x=[102,111,114,109]∨x=[108,105]∨x=[100,100]∨x=[100,116]) || inW qpb x || qd3 0 x
theorem c72 {T:List (Entry Tryz.prog)} (hc0:qag 109 T=some e109.g) (hc1:qag 73 T=some e73.g) (x:Str) (hx:x.length≤1000000000):CallAt (ctx T) 72 [.str x] ⟨0,[]⟩ (.bool (quc x)) ⟨0,[]⟩:=by
 have kc0:=@k109 T hc0
 have kc1:=@k73 T hc1
 refine qa3 (fn:=Tryz.f72) (s0:=⟨[0,2,3,4],[.str x,.undef,.undef,.undef],[],17,⟨0,[[]]⟩⟩) Tryz.func72 rfl rfl rfl ?_
 (repeat' (first
  | with_reducible refine qah ?_
  | with_reducible refine qa9 ?_
  | (with_reducible refine qa0 qa1 ?_;apply qbn;simp [zS, *];exact rfl)
  | (with_reducible refine qas ?_;simp only [qaa,qa2])
  | (with_reducible refine qaz (fun hc=>?_) (fun hc=>?_) <;> ((have hd:=hc);(try simp at hd);(try subst hd);apply qbn;simp [zS, *];exact rfl))
  | (refine qai rfl ?_)
  | (refine qau rfl (fun hc=>?_) (fun hc=>?_) <;> ((have hd:=hc);(try simp at hd);(try subst hd)))
  | (with_reducible refine qa7 ?_;simp only [qaa,qa2])
  | (with_reducible refine qa8 ?_;simp [qab,Tryz.f72,oneOr,qaa,qa2])))
 all_goals first | exact qa4 rfl (by first | (simp [quc, *];done) | (simp_all [quc];done)) | (exfalso;omega)
theorem inj_72 (x y:Str) (h:(fun z:Str=>([.str z]:List AV)) x=(fun z:Str=>([.str z]:List AV)) y):x=y:=by
 simp only [List.cons.injEq,and_true] at h
 exact AV.str.inj h
noncomputable def e72:Entry Tryz.prog:=mkE 72 [[]] (fun z:Str=>[.str z]) (fun z=>(z.length≤1000000000)) (fun z=>.bool (quc z)) fun z h=>c72 (T:=[e109,e73]) rfl rfl z h
theorem k72 {T:List (Entry Tryz.prog)} (hT:qag 72 T=some e72.g) (x:Str) (hx:x.length≤1000000000) (H:Heap):qb9 (ctx T) (.fn 72) [.str x] H=some (.bool (quc x),H):=
 qae hT inj_72 (x) hx rfl (by simp [qar])
def qln (L:List Nd):Bool:=L.any fun n=>elB n [102,111,114,109]
def qlm (L:List Nd) (x:Str):Bool:=
 if (quc x && qdu L [112] 2)=true then false
 else if x=[99,97,112,116,105,111,110]∨x=[99,111,108]∨x=[99,111,108,103,114,111,117,112]∨x=[116,98,111,100,121]∨x=[116,100]∨x=[116,102,111,111,116]∨x=[116,104]∨x=[116,104,101,97,100]∨x=[116,114] then false
 else if x=[104,49]∨x=[104,50]∨x=[104,51]∨x=[104,52]∨x=[104,53]∨x=[104,54] then !(decide ((qap L).kind=1) && qd3 (qap L).space (qap L).name)
 else if x=[102,111,114,109] then !qln L
 else if x=[98,117,116,116,111,110]∨x=[110,111,98,114] then !qdu L x 0
 else if x=[108,105] then !qeb L x
 else if x=[100,100]∨x=[100,116] then !qeb L [100,100,32,100,116]
 else if x=[97] then !qfj L
 else if x=[111,112,116,105,111,110]∨x=[111,112,116,103,114,111,117,112] then !elB (qap L) [111,112,116,105,111,110] else true
set_option maxHeartbeats 4000000 in
theorem c43 {T:List (Entry Tryz.prog)} (hc0:qag 37 T=some e37.g) (hc1:qag 72 T=some e72.g) (hc2:qag 18 T=some e18.g) (hc3:qag 42 T=some e42.g) (hc4:qag 75 T=some e75.g) (hc5:qag 76 T=some e76.g) (hc6:qag 73 T=some e73.g) (hc7:qag 49 T=some e49.g) (L:List Nd) (x:Str) (hp:okP L) (hx:x.length≤1000000000):CallAt (ctx T) 43 [qa5 L,.str x] ⟨0,[]⟩ (.bool (qlm L x)) ⟨0,[]⟩:=by
 have kc0:=@k37 T hc0
 have kc1:=@k72 T hc1
 have kc2:=@k18 T hc2
 have kc3:=@k42 T hc3
 have kc4:=@k75 T hc4
 have kc5:=@k76 T hc5
 have kc6:=@k73 T hc6
 have kc7:=@k49 T hc7
 have hl:L.length≤1000000:=by have:=hp.1;omega
 have hpx:=(qh2 hp).nm
 have a1:qcz [112]:=qmp (by decide)
 have a2:qcz [98,117,116,116,111,110]:=qmp (by decide)
 have a3:qcz [110,111,98,114]:=qmp (by decide)
 have a4:qcz [108,105]:=qmp (by decide)
 have a5:qcz [100,100,32,100,116]:=qmp (by decide)
 have a6:qcz [111,112,116,105,111,110]:=qmp (by decide)
 have hf:=c74 (T:=T) L hl 85 [.fptr [.str [102,111,114,109]] 0] rfl (fun n=>elB n [102,111,114,109]) (fun n hn=>c85 hc3 n [102,111,114,109] (qmp (by decide)) (by decide) (hp.2 n hn).nm)
 have hpu:qac [qa5 L,.func (.func 85) [] [.fptr [.str [102,111,114,109]] 0]]=true:=by simp [qac,qaf]
 have ef:qln L=L.any fun n=>elB n [102,111,114,109]:=rfl
 rw [← ef] at hf
 have cv:qfh 85 [.fptr [.str [102,111,114,109]] 0]=.func (.func 85) [] [.fptr [.str [102,111,114,109]] 0]:=rfl
 have k0:=fun H=>kc0 L hl H
 have k1:=fun H=>kc1 x hx H
 have k2:=fun H=>kc2 L [112] 2 hp a1 (by decide) H
 have k2x:=fun (hW:qcz x) (hq:x.length≤100000) H=>kc2 L x 0 hp hW hq H
 have k3:=fun H=>kc3 (qap L) [111,112,116,105,111,110] a6 (by decide) hpx H
 have k4:=fun H=>kc4 L [100,100,32,100,116] hp a5 (by decide) H
 have k4x:=fun (hW:qcz x) (hq:x.length≤100000) H=>kc4 L x hp hW hq H
 have k5:=fun H=>kc5 L hp H
 have k6:=fun H=>kc6 (qap L).space (qap L).name H
 have k7:=fun H=>kc7 [102,111,114,109] H
 clear kc0 kc1 kc2 kc3 kc4 kc5 kc6 kc7 hc0 hc1 hc2 hc3 hc4 hc5 hc6 hc7 ef
 unfold qlm
 generalize qd3 (qap L).space (qap L).name=b6 at *
 generalize elB (qap L) [111,112,116,105,111,110]=b3 at *
 generalize qap L=up at *
 generalize qfj L=b5 at *
 generalize qeb L [100,100,32,100,116]=b4 at *
 generalize qeb L x=b4x at *
 generalize qdu L [112] 2=b2 at *
 generalize qdu L x 0=b2x at *
 generalize qln L=bf at *
 generalize quc x=b1 at *
 refine qa3 (fn:=Tryz.f43) (s0:=⟨[0,1,4,5,14,15,25,49,62,73],[qa5 L,.str x,.undef,.undef,.undef,.undef,.undef,.undef,.undef,.undef],[],79,⟨0,[[]]⟩⟩) Tryz.func43 rfl rfl rfl ?_
 (repeat' (first
  | with_reducible refine qah ?_
  | with_reducible refine qa9 ?_
  | (with_reducible refine qa0 (qhs [⟨74,_,_,hpu,hf⟩]) ?_;apply qbn;simp [zS, *,qao,qmo];exact rfl)
  | (with_reducible refine qas ?_;simp only [qaa,qa2])
  | (with_reducible refine qaz (fun hc=>?_) (fun hc=>?_) <;> ((have hd:=hc);(try simp at hd);(try subst hd);apply qbn;simp [zS, *,qao,qmo];exact rfl))
  | (refine qai rfl ?_)
  | (refine qal rfl ?_)
  | (refine qau rfl (fun hc=>?_) (fun hc=>?_) <;> ((have hd:=hc);(try simp at hd);(try subst hd)))
  | (with_reducible refine qa7 ?_;simp only [qaa,qa2])
  | (with_reducible refine qa8 ?_;simp [qab,Tryz.f43,oneOr,qaa,qa2])))
 all_goals first | exact qa4 rfl (by first | (simp [*];done) | (simp_all;done)) | (exfalso;omega)
theorem inj_43 (x y:List Nd × Str) (h:(fun z:List Nd × Str=>([qa5 z.1,.str z.2]:List AV)) x=(fun z:List Nd × Str=>([qa5 z.1,.str z.2]:List AV)) y):x=y:=by
 obtain ⟨x0,x1⟩:=x
 obtain ⟨y0,y1⟩:=y
 simp only [List.cons.injEq,and_true] at h
 obtain ⟨h0,h1⟩:=h
 have g0:x0=y0:=qc4 h0
 have g1:x1=y1:=AV.str.inj h1
 subst g0 g1
 rfl
noncomputable def e43:Entry Tryz.prog:=mkE 43 [[7],[]] (fun z:List Nd × Str=>[qa5 z.1,.str z.2]) (fun z=>(okP z.1)∧(z.2.length≤1000000000)) (fun z=>.bool (qlm z.1 z.2)) fun z h=>c43 (T:=[e37,e72,e18,e42,e75,e76,e73,e49]) rfl rfl rfl rfl rfl rfl rfl rfl z.1 z.2 h.1 h.2
theorem k43 {T:List (Entry Tryz.prog)} (hT:qag 43 T=some e43.g) (L:List Nd) (x:Str) (hp:okP L) (hx:x.length≤1000000000) (H:Heap):qb9 (ctx T) (.fn 43) [qa5 L,.str x] H=some (.bool (qlm L x),H):=
 qae hT inj_43 (L,x) ⟨hp,hx⟩ rfl (by simp [qar])
def qd5 (L:List Nd):Str × Bool:=
 let up:=qap L
 if up.kind≠1 then ([],false)
 else if qi5 up.space up.name=true then ([],true)
 else if up.space≠0 then ([],false)
 else if up.name=[116,101,120,116,97,114,101,97] then ([],true)
 else if up.name=[111,112,116,105,111,110] then ([],qdu L [115,101,108,101,99,116] 4)
 else if up.name=[111,112,116,103,114,111,117,112] then ([111,112,116,105,111,110],qdu L [115,101,108,101,99,116] 4)
 else if up.name=[115,101,108,101,99,116] then (lsB6,true)
 else if up.name=[116,97,98,108,101] then (lsB18,true)
 else if up.name=[99,111,108,103,114,111,117,112] then ([99,111,108],true)
 else if up.name=[116,98,111,100,121]∨up.name=[116,102,111,111,116]∨up.name=[116,104,101,97,100] then ([116,114],true)
 else if up.name=[116,114] then ([116,100,32,116,104],true) else ([],false)
theorem c41 {T:List (Entry Tryz.prog)} (hc0:qag 37 T=some e37.g) (hc1:qag 46 T=some e46.g) (hc2:qag 18 T=some e18.g) (L:List Nd) (hp:okP L):CallAt (ctx T) 41 [qa5 L] ⟨0,[]⟩ (.tup [.str (qd5 L).1,.bool (qd5 L).2]) ⟨0,[]⟩:=by
 have kc0:=@k37 T hc0
 have kc1:=@k46 T hc1
 have kc2:=@k18 T hc2
 have hl:L.length≤1000000:=by have:=hp.1;omega
 have hpx:=(qh2 hp).nm
 have k0:=fun H=>kc0 L hl H
 have k1:=fun H=>kc1 (qap L).space hpx H
 have k2:=fun H=>kc2 L [115,101,108,101,99,116] 4 hp (qmp (by decide)) (by decide) H
 clear kc0 kc1 kc2 hc0 hc1 hc2
 simp only [qd5]
 generalize qdu L [115,101,108,101,99,116] 4=b2 at *
 generalize qi5 (qap L).space (qap L).name=b1 at *
 generalize qap L=up at *
 refine qa3 (fn:=Tryz.f41) (s0:=⟨[0,2,3,4,19,36],[qa5 L,.undef,.undef,.undef,.undef,.undef],[],42,⟨0,[[]]⟩⟩) Tryz.func41 rfl rfl rfl ?_
 (repeat' (first
  | with_reducible refine qah ?_
  | with_reducible refine qa9 ?_
  | (with_reducible refine qa0 qa1 ?_;apply qbn;simp [zS, *,qao];exact rfl)
  | (with_reducible refine qas ?_;simp only [qaa,qa2])
  | (refine qal rfl ?_)
  | (refine qau rfl (fun hc=>?_) (fun hc=>?_) <;> ((have hd:=hc);(try simp at hd);(try subst hd)))
  | (with_reducible refine qa7 ?_;simp only [qaa,qa2])
  | (with_reducible refine qa8 ?_;simp [qab,Tryz.f41,oneOr,qaa,qa2])))
 all_goals first | exact qa4 rfl (by first | (simp [*];done) | (simp_all;done)) | (exfalso;omega)
theorem inj_41 (x y:List Nd) (h:(fun z:List Nd=>([qa5 z]:List AV)) x=(fun z:List Nd=>([qa5 z]:List AV)) y):x=y:=by
 simp only [List.cons.injEq,and_true] at h
 exact qc4 h
noncomputable def e41:Entry Tryz.prog:=mkE 41 [[7]] (fun z:List Nd=>[qa5 z]) (fun z=>(okP z)) (fun z=>.tup [.str (qd5 z).1,.bool (qd5 z).2]) fun z h=>c41 (T:=[e37,e46,e18]) rfl rfl rfl z h
theorem k41 {T:List (Entry Tryz.prog)} (hT:qag 41 T=some e41.g) (L:List Nd) (hp:okP L) (H:Heap):qb9 (ctx T) (.fn 41) [qa5 L] H=some (.tup [.str (qd5 L).1,.bool (qd5 L).2],H):=
 qdd hT inj_41 (L) hp (by simp [qac,qaf,qar]) (by simp [qar]) H
theorem ite_P {α:Type} {P:α→Prop} {c:Prop} [Decidable c] {a b:α} (ha:P a) (hb:P b):P (if c then a else b):=by
 split
 ·exact ha
 ·exact hb
theorem qm3 (L:List Nd):qcz (qd5 L).1∧(qd5 L).1.length≤100000:=by
 have key:∀ W:Str,∀ b:Bool,W.all (fun c=>decide (c.toNat < 128))=true→W.length≤100000→(fun z:Str × Bool=>qcz z.1∧z.1.length≤100000) (W,b):=fun W b h1 h2=>⟨qmp h1,h2⟩
 show (fun z:Str × Bool=>qcz z.1∧z.1.length≤100000) (qd5 L)
 simp only [qd5]
 repeat' (first | exact key _ _ (by decide) (by decide) | apply ite_P (P:=fun z:Str × Bool=>qcz z.1∧z.1.length≤100000))
def qyk (u n:Nd):Bool:=decide (n.space=u.space) || (decide (u.space=2) && decide (u.name=[97,110,110,111,116,97,116,105,111,110,45,120,109,108]) && decide (n.space=1) && decide (n.name=[115,118,103]))
def qti (L:List Nd) (n:Nd):Bool:=
 let up:=qap L
 if n.kind≠1∨qjd n.space n.name=false then false
 else if (up.kind≠1∨up.space≠0)∧qez up=false∧qe9 up=false then qyk up n
 else if (qd5 L).2=true then elB n (qd5 L).1
 else if n.space=1 then decide (n.name=[115,118,103]) else if n.space=2 then decide (n.name=[109,97,116,104]) else qlm L n.name
set_option maxHeartbeats 2000000 in
theorem c15 {T:List (Entry Tryz.prog)} (hc0:qag 37 T=some e37.g) (hc1:qag 16 T=some e16.g) (hc2:qag 38 T=some e38.g) (hc3:qag 39 T=some e39.g) (hc4:qag 40 T=some e40.g) (hc5:qag 41 T=some e41.g) (hc6:qag 42 T=some e42.g) (hc7:qag 43 T=some e43.g) (L:List Nd) (n:Nd) (hp:okP L) (hn:okN n):CallAt (ctx T) 15 [qa5 L,qaj n] ⟨0,[]⟩ (.bool (qti L n)) ⟨0,[]⟩:=by
 have kc0:=@k37 T hc0
 have kc1:=@k16 T hc1
 have kc2:=@k38 T hc2
 have kc3:=@k39 T hc3
 have kc4:=@k40 T hc4
 have kc5:=@k41 T hc5
 have kc6:=@k42 T hc6
 have kc7:=@k43 T hc7
 have hl:L.length≤1000000:=by have:=hp.1;omega
 have hpo:=qh2 hp
 have hnx:=hn.nm
 obtain ⟨a1,a2⟩:=qm3 L
 have k0:=fun H=>kc0 L hl H
 have k1:=fun H=>kc1 n.space n.name hnx H
 have k2:=fun H=>kc2 (qap L) H
 have k3:=fun H=>kc3 (qap L) hpo H
 have k4:=fun H=>kc4 (qap L) n H
 have k5:=fun H=>kc5 L hp H
 have k6:=fun H=>kc6 n (qd5 L).1 a1 a2 hnx H
 have k7:=fun H=>kc7 L n.name hp hnx H
 have ea:(decide (n.space=(qap L).space) || (decide ((qap L).space=2) && decide ((qap L).name=[97,110,110,111,116,97,116,105,111,110,45,120,109,108]) && decide (n.space=1) && decide (n.name=[115,118,103])))=qyk (qap L) n:=rfl
 simp only [ea] at k4
 clear kc0 kc1 kc2 kc3 kc4 kc5 kc6 kc7 hc0 hc1 hc2 hc3 hc4 hc5 hc6 hc7 a1 a2 ea hpo
 simp only [qti]
 generalize elB n (qd5 L).1=b6 at *
 generalize qd5 L=st at *
 obtain ⟨s1,s2⟩:=st
 generalize qlm L n.name=b7 at *
 generalize qe9 (qap L)=b3 at *
 generalize qez (qap L)=b2 at *
 generalize qyk (qap L) n=b4 at *
 generalize qjd n.space n.name=b1 at *
 generalize qap L=up at *
 simp only at *
 refine qa3 (fn:=Tryz.f15) (s0:=⟨[0,1,3,4,5,6,7,52],[qa5 L,qaj n,.undef,.undef,.undef,.undef,.undef,.undef],[],67,⟨0,[[]]⟩⟩) Tryz.func15 rfl rfl rfl ?_
 (repeat' (first
  | with_reducible refine qah ?_
  | with_reducible refine qa9 ?_
  | (with_reducible refine qa0 qa1 ?_;apply qbn;simp [zS, *,qao];exact rfl)
  | (with_reducible refine qas ?_;simp only [qaa,qa2])
  | (with_reducible refine qaz (fun hc=>?_) (fun hc=>?_) <;> ((have hd:=hc);(try simp at hd);(try subst hd);apply qbn;simp [zS, *,qao];exact rfl))
  | (refine qai rfl ?_)
  | (refine qal rfl ?_)
  | (refine qau rfl (fun hc=>?_) (fun hc=>?_) <;> ((have hd:=hc);(try simp at hd);(try subst hd)))
  | (with_reducible refine qa7 ?_;simp only [qaa,qa2])
  | (with_reducible refine qa8 ?_;simp [qab,Tryz.f15,oneOr,qaa,qa2])))
 all_goals first | exact qa4 rfl (by first | (simp [*];done) | (simp_all;done)) | (exfalso;omega)
theorem inj_15 (x y:List Nd × Nd) (h:(fun z:List Nd × Nd=>([qa5 z.1,qaj z.2]:List AV)) x=(fun z:List Nd × Nd=>([qa5 z.1,qaj z.2]:List AV)) y):x=y:=by
 obtain ⟨x0,x1⟩:=x
 obtain ⟨y0,y1⟩:=y
 simp only [List.cons.injEq,and_true] at h
 obtain ⟨h0,h1⟩:=h
 have g0:x0=y0:=qc4 h0
 have g1:x1=y1:=qcd h1
 subst g0 g1
 rfl
noncomputable def e15:Entry Tryz.prog:=mkE 15 [[7],[0,0,0,2,0,0,1]] (fun z:List Nd × Nd=>[qa5 z.1,qaj z.2]) (fun z=>(okP z.1)∧(okN z.2)) (fun z=>.bool (qti z.1 z.2)) fun z h=>c15 (T:=[e37,e16,e38,e39,e40,e41,e42,e43]) rfl rfl rfl rfl rfl rfl rfl rfl z.1 z.2 h.1 h.2
theorem k15 {T:List (Entry Tryz.prog)} (hT:qag 15 T=some e15.g) (L:List Nd) (n:Nd) (hp:okP L) (hn:okN n) (H:Heap):qb9 (ctx T) (.fn 15) [qa5 L,qaj n] H=some (.bool (qti L n),H):=
 qae hT inj_15 (L,n) ⟨hp,hn⟩ rfl (by simp [qar])
theorem q15 {T:List (Entry Tryz.prog)} (hT:qag 15 T=some e15.g) {H:Heap} {a0:AV} {L:List Nd} (b0:qej H [7] a0=some (qa5 L)) {a1:AV} {n:Nd} (b1:qej H [0,0,0,2,0,0,1] a1=some (qaj n))  (hp:okP L) (hn:okN n):qb9 (ctx T) (.fn 15) [a0,a1] H=some (.bool (qti L n),H):=
 qae hT inj_15 (L,n) ⟨hp,hn⟩ rfl (by simp [b0,b1])
end Go.Proofs.YtgpjifeeneeiaaaGreatDoor