/- words.Split of any text of single bytes. No condition. -/
import Derived.Test.YtocnpnnplllneaaGreatDoorMG
import Derived.Test.YtocnpnnplllneaaGreatDoorMH
import Derived.Lib.Builder
import Derived.Test.YtocnpnnplllneaaGreatDoorMF
namespace Go.Proofs.YtocnpnnplllneaaGreatDoor
set_option linter.unusedSimpArgs false
set_option linter.unusedVariables false
open Go Go.RowKit
set_option maxRecDepth 100000
theorem qy2 {C:Ctx} (hP:C.P=Tryz.prog) (x:Value) (w:World):(callFunc 144 #[x]).run C.P w=.ok (.value x) w:=by
 have hf:C.P.funcs[144]? = some Tryz.f144:=by rw [hP];exact Tryz.func144
 have hn : ¬ Tryz.f144.name = "runtime.NumGoroutine" := by decide +kernel
 have h1:Extern.findNext Tryz.f144=none:=by kernel_rfl
 have h2:Extern.find Tryz.f144=some Extern.AbiNoEscape.same:=by kernel_rfl
 have h3:Tryz.f144.body=none:=by kernel_rfl
 simp [callFunc,hf,hn,h1,h2,h3,Lib.run_noEscape]
noncomputable def e144:Entry Tryz.prog:=⟨144,fun args H=>match args with
 | [.ptr b o]=>some (.ptr b o,H)
 | _=>none,fun args H v H' hv=>by
  split at hv
  ·simp only [sj,Prod.mk.injEq] at hv
   obtain ⟨rfl,rfl⟩:=hv
   intro ρ w xs sm hx
   match xs,hx with
   | [x],hx=>
    have h0:=hx.2 0 (by simp) (by simp)
    simp only [List.getElem_cons_zero] at h0
    exact .inl ⟨x,ρ,w,qy2 rfl x w,h0,sm,Step.refl _ _ _⟩
  ·cases hv⟩
theorem k144 {T:List (Entry Tryz.prog)} (hT:qai 144 T=some e144.g) (b o:Nat) (H:Heap):qbb (ctx T) (.fn 144) [.ptr b o] H=some (.ptr b o,H):=by
 rw [qgu (g:=e144.g) hT];rfl
abbrev qqp:Str:=[97,114,101,97,32,98,97,115,101,32,98,97,115,101,102,111,110,116,32,98,103,115,111,117,110,100,32,98,114,32,99,111,108,32,101,109,98,101,100,32,102,114,97,109,101,32,104,114,32,105,109,103,32,105,110,112,117,116,32,107,101,121,103,101,110,32,108,105,110,107,32,109,101,116,97,32,112,97,114,97,109,32,115,111,117,114,99,101,32,116,114,97,99,107,32,119,98,114]
theorem qxv:qnb (qdq qqp) (qpe (ctx []) 100000 (.fn 152) [.str qqp] ⟨0,[]⟩)=true:=by decide +kernel
theorem c152v {T:List (Entry Tryz.prog)}:CallAt (ctx T) 152 [.str qqp] ⟨0,[]⟩ (qcr (qdq qqp)) ⟨0,[]⟩:=qv8 (T:=[]) qxv
theorem c183 {T:List (Entry Tryz.prog)} (L:List Str) (x:Str) (hl:L.length≤1000000):CallAt (ctx T) 183 [qcr L,.str x] ⟨0,[]⟩ (.int .i64 (qbg (fun y=>decide (x=y)) L 0)) ⟨0,[]⟩:=by
 refine qa2 (fn:=Tryz.f183) (s0:=⟨[0,1,4,5,7,8],[qcr L,.str x,.undef,.undef,.undef,.undef],[],19,⟨0,[[]]⟩⟩) Tryz.func183 rfl rfl rfl ?_
 repeat apply wq
 refine qa0 qa1 ?_
 simp [zS]
 repeat apply wq
 refine qa0 qa1 ?_
 simp [zS,lenS]
 refine qab (qb7 (fun i:Nat=>(⟨[0,1,4,5,7,8],[qcr L,.str x,.undef,.undef,.int .i64 (L.length:Nat),.int .i64 i],[],19,⟨0,[[]]⟩⟩ : St))
  (fun i=>i≤L.length∧qbg (fun y=>decide (x=y)) L 0=qbg (fun y=>decide (x=y)) (L.drop i) i) (fun i=>L.length - i) [] [] 0 ⟨Nat.zero_le _,rfl⟩ ⟨rfl,rfl,rfl,by simp [qb1,qar,qah,qac,qcr],FitH.nothing⟩ ?_)
 rintro i ⟨hi,hx⟩ B hB
 repeat apply wq
 refine qa0 qa1 ?_
 simp [zS]
 repeat apply wq
 refine qb9 rfl (fun h=>?_) fun h=>?_
 ·simp at h
  rw [qgr h] at hx
  refine qa9 ?_
  simp
  repeat apply wq
  refine qab ?_
  repeat apply wq
  refine qa0 qa1 ?_
  simp [zS]
  by_cases h2:L[i]=x
  ·repeat apply wq
   refine qa0 qa1 ?_
   simp [zS,atS h,h2]
   refine qan rfl ?_
   repeat apply wq
   refine qa0 qa1 ?_
   simp [zS]
   refine qa8 ?_
   simp [qad,Tryz.f183,oneOr,qaf,qa6]
   exact qa5 rfl (by rw [hx,if_pos (by simp [h2])])
  ·have h2':¬ x=L[i]:=fun e=>h2 e.symm
   repeat apply wq
   refine qa0 qa1 ?_
   simp [zS,atS h,h2']
   refine qam rfl ?_
   refine qa9 ?_
   simp
   refine qa0 qa1 ?_
   simp [zS,qbu (show i≤1000000000 by omega)]
   exact hB _ (i+1) (by omega) ⟨by omega,by rw [hx,if_neg (by simp [h2'])]⟩ ⟨[],[],⟨rfl,rfl,rfl,by simp [qb1,qar,qah,qac,qcr],FitH.nothing⟩⟩
 ·simp at h
  refine qaw ?_
  simp
  repeat apply wq
  refine qa0 qa1 ?_
  simp [zS]
  refine qa8 ?_
  simp [qad,Tryz.f183,oneOr,qaf,qa6]
  exact qa5 rfl (by rw [hx,List.drop_eq_nil_of_le h];rfl)
noncomputable def e183:Entry Tryz.prog:=mkE 183 [[1],[]] (fun x:List Str × Str=>[qcr x.1,.str x.2]) (fun x=>x.1.length≤1000000) (fun x=>.int .i64 (qbg (fun y=>decide (x.2=y)) x.1 0)) fun x hx=>c183 (T:=[]) x.1 x.2 hx
theorem injSS (x y:List Str × Str) (h:[qcr x.1,.str x.2]=[qcr y.1,.str y.2]):x=y:=by
 simp at h;exact Prod.ext (inj_strs (by simpa [qcr] using h.1)) h.2
theorem k183 {T:List (Entry Tryz.prog)} (hT:qai 183 T=some e183.g) {L:List Str} (x:Str) (hl:L.length≤1000000) (H:Heap):qbb (ctx T) (.fn 183) [qcr L,.str x] H=some (.int .i64 (qbg (fun y=>decide (x=y)) L 0),H):=
 qal hT injSS (L,x) hl rfl (by simp [qcr])
theorem zbs {x:Str}:∀ (L:List Str) (k:Nat),(0≤qbg (fun y=>decide (x=y)) L k)↔x∈L
 | [],k=>by simp [qbg]
 | y::r,k=>by
  unfold qbg
  by_cases h:x=y
  ·simp [h]
  ·simp only [h,decide_false,Bool.false_eq_true,if_false,List.mem_cons,false_or]
   exact zbs r (k+1)
theorem c151 {T:List (Entry Tryz.prog)} (hI:qai 183 T=some e183.g) (L:List Str) (x:Str) (hl:L.length≤1000000):CallAt (ctx T) 151 [qcr L,.str x] ⟨0,[]⟩ (.bool (decide (x∈L))) ⟨0,[]⟩:=by
 have hk:=fun H=>k183 hI x hl H
 have hm:=zbs (x:=x) L 0
 generalize qbg (fun y=>decide (x=y)) L 0=v at *
 simp only [qcr] at hk
 refine qa2 (fn:=Tryz.f151) (s0:=⟨[0,1,4],[qcr L,.str x,.undef],[],9,⟨0,[[]]⟩⟩) Tryz.func151 rfl rfl rfl ?_
 (repeat (first
  | (refine qb0 ?_)
  | (refine qab ?_)
  | (refine qc8 ?_;simp only [qaf,qa6])
  | ((refine qa0 qa1 ?_);simp [zS,qcr,hk])
  | (refine qan rfl ?_)
  | (refine qam rfl ?_)
  | ((refine qa9 ?_);simp only [qaf,qa6])
  | ((refine qaw ?_);simp [qaf,qa6])))
 refine qa8 ?_
 simp [qad,Tryz.f151,oneOr,qaf,qa6]
 exact qa5 rfl (by simp [hm])
theorem wl_void:(qdq qqp).length≤1000000:=by decide +kernel
def qs8 (space:Int) (name:Str):Bool:=decide (space=0) && inW qqp name
theorem c122v {T:List (Entry Tryz.prog)} (x:Str) (hx:x.length≤1000000000):CallAt (ctx T) 122 [.str qqp,.str x] ⟨0,[]⟩ (.bool (inW qqp x)) ⟨0,[]⟩:=
 c122 (T:=[e149,e150]) rfl rfl qqp x (by decide) hx (c152v (T:=[])) (c151 (T:=[e183]) rfl _ x wl_void)
theorem c84 {T:List (Entry Tryz.prog)} (space:Int) (name:Str) (hx:name.length≤1000000000):CallAt (ctx T) 84 [.int .i64 space,.str name] ⟨0,[]⟩ (.bool (qs8 space name)) ⟨0,[]⟩:=by
 have h:=(c122v (T:=T) name hx).lift (by simp [qac,qah]) ⟨0,[[]]⟩
 refine qa2 (fn:=Tryz.f84) (s0:=⟨[0,1,4],[.int .i64 space,.str name,.undef],[],11,⟨0,[[]]⟩⟩) Tryz.func84 rfl rfl rfl ?_
 by_cases hs:space=0
 ·repeat apply wq
  refine qa0 qa1 ?_
  simp [zS]
  repeat apply wq
  refine qa0 (qbc [⟨122,_,_,_,_,h⟩]) ?_
  simp [zS,qce,hs]
  refine qa8 ?_
  simp [qad,Tryz.f84,oneOr,qaf,qa6]
  exact qa5 rfl (by simp [qs8,hs])
 ·repeat apply wq
  refine qa0 qa1 ?_
  simp [zS]
  repeat apply wq
  refine qa0 qa1 ?_
  simp [zS,hs]
  refine qa8 ?_
  simp [qad,Tryz.f84,oneOr,qaf,qa6]
  exact qa5 rfl (by simp [qs8,hs])
theorem injIS (x y:Int × Str) (h:[AV.int .i64 x.1,AV.str x.2]=[AV.int .i64 y.1,AV.str y.2]):x=y:=by
 simp at h;exact Prod.ext h.1 h.2
noncomputable def e84:Entry Tryz.prog:=mkE 84 [[],[]] (fun x:Int × Str=>[.int .i64 x.1,.str x.2]) (fun x=>x.2.length≤1000000000) (fun x=>.bool (qs8 x.1 x.2)) fun x hx=>c84 (T:=[]) x.1 x.2 hx
theorem k84 {T:List (Entry Tryz.prog)} (hT:qai 84 T=some e84.g) (space:Int) {name:Str} (hx:name.length≤1000000000) (H:Heap):qbb (ctx T) (.fn 84) [.int .i64 space,.str name] H=some (.bool (qs8 space name),H):=
 qal hT injIS (space,name) hx rfl (by simp)
@[simp] theorem szT21:qbw Tryz.prog 21=some 1:=rfl
@[simp] theorem agT21:qgd Tryz.prog 21=some false:=rfl
@[simp] theorem byT21:qc6 Tryz.prog 21=some 4:=rfl
@[simp] theorem alT21 (H:Heap):alV Tryz.prog H 21=some (.ptr H.n 0,H.new (.cells [.int .i32 0])):=rfl
@[simp] theorem zeT21:qbn Tryz.prog 21=some (.int .i32 0):=rfl
attribute [simp] Tryz.underlying21
@[simp 500] theorem rvF21 (H:Heap) (cs:List AV) (o:Nat):qaq Tryz.prog H 21 (.fptr cs o)=qc7 cs o:=rfl
@[simp 500] theorem rvP21 (H:Heap) (b o:Nat):qaq Tryz.prog H 21 (.ptr b o)=(H.get b).bind fun k=>k.rd.bind fun cs=>qc7 cs o:=rfl
@[simp] theorem szT158:qbw Tryz.prog 158=some 1:=rfl
@[simp] theorem agT158:qgd Tryz.prog 158=some false:=rfl
@[simp] theorem byT158:qc6 Tryz.prog 158=some 24:=rfl
@[simp] theorem alT158 (H:Heap):alV Tryz.prog H 158=some (.ptr H.n 0,H.new (.cells [.nilS])):=rfl
@[simp] theorem zeT158:qbn Tryz.prog 158=some (.nilS):=rfl
attribute [simp] Tryz.underlying158
@[simp 500] theorem rvF158 (H:Heap) (cs:List AV) (o:Nat):qaq Tryz.prog H 158 (.fptr cs o)=qc7 cs o:=rfl
@[simp 500] theorem rvP158 (H:Heap) (b o:Nat):qaq Tryz.prog H 158 (.ptr b o)=(H.get b).bind fun k=>k.rd.bind fun cs=>qc7 cs o:=rfl
@[simp] theorem slz158 (sz:Nat) (e:AV) (r:List AV):qd9 Tryz.prog .eql 158 (.fslc sz (e::r)) .nilS=some (.bool false):=rfl
@[simp] theorem sln158 (sz:Nat) (e:AV) (r:List AV):qd9 Tryz.prog .neq 158 (.fslc sz (e::r)) .nilS=some (.bool true):=rfl
@[simp] theorem slze158:qd9 Tryz.prog .eql 158 .eslc .nilS=some (.bool false):=rfl
@[simp] theorem slzz158:qd9 Tryz.prog .eql 158 .nilS .nilS=some (.bool true):=rfl
@[simp] theorem qzv:qbw Tryz.prog 160=some 2:=rfl
@[simp] theorem agT160:qgd Tryz.prog 160=some true:=rfl
@[simp] theorem zdc:qc6 Tryz.prog 160=some 16:=rfl
@[simp] theorem alT160 (H:Heap):alV Tryz.prog H 160=some (.ptr H.n 0,H.new (.cells [.int .i64 0,.int .i64 0])):=rfl
@[simp] theorem qzd:qbn Tryz.prog 160=some (.agg [.int .i64 0,.int .i64 0]):=rfl
attribute [simp] Tryz.underlying160
@[simp 500] theorem rvF160 (H:Heap) (cs:List AV) (o:Nat):qaq Tryz.prog H 160 (.fptr cs o)=(qek o 2 cs).bind fun cs=>some (.agg cs):=rfl
@[simp 500] theorem rvP160 (H:Heap) (b o:Nat):qaq Tryz.prog H 160 (.ptr b o)=(readCells H b o 2).bind fun cs=>some (.agg cs):=rfl
@[simp] theorem fa160_0 (x:AV):qbl Tryz.prog 160 x 0=(match x with | .ptr b o=>some (.ptr b (o+0)) | .fptr cs o=>some (.fptr cs (o+0)) | _=>none):=rfl
@[simp] theorem fd160_0 (cs:List AV):qd7 Tryz.prog 160 (.agg cs) 0=qc7 cs 0:=rfl
@[simp] theorem fa160_1 (x:AV):qbl Tryz.prog 160 x 1=(match x with | .ptr b o=>some (.ptr b (o+1)) | .fptr cs o=>some (.fptr cs (o+1)) | _=>none):=rfl
@[simp] theorem fd160_1 (cs:List AV):qd7 Tryz.prog 160 (.agg cs) 1=qc7 cs 1:=rfl
theorem c185 {T:List (Entry Tryz.prog)} (hS:qai 150 T=some e150.g) (c:UInt8) (hc:c.toNat < 128):CallAt (ctx T) 185 [.int .i32 (c.toNat:Int)] ⟨0,[]⟩ (.bool (sp c)) ⟨0,[]⟩:=by
 have ks:=fun H=>k150 hS c H
 have h1:(c.toNat:Int) < 128:=by omega
 have hw:IntKind.u8.wrap (c.toNat:Int)=(c.toNat:Int):=by
  simp [IntKind.wrap,IntKind.signed,IntKind.bits]
  omega
 have hcv:∀ H,qgb Tryz.prog H 21 5 (.int .i32 (c.toNat:Int))=some (.int .u8 (c.toNat:Int),H):=fun H=>by simp [qgb,hw]
 refine qa2 (fn:=Tryz.f185) (s0:=⟨[0,2],[.int .i32 (c.toNat:Int),.undef],[],10,⟨0,[[]]⟩⟩) Tryz.func185 rfl rfl rfl ?_
 repeat apply wq
 refine qa0 qa1 ?_
 simp [zS]
 repeat apply wq
 refine qa0 qa1 ?_
 simp [zS,h1,hcv,ks]
 refine qa8 ?_
 simp [qad,Tryz.f185,oneOr,qaf,qa6]
 exact qa5 rfl (by rfl)
end Go.Proofs.YtocnpnnplllneaaGreatDoor
namespace Go.Proofs.YtocnpnnplllneaaGreatDoor
noncomputable section
set_option linter.unusedSimpArgs false
set_option linter.unusedVariables false
open Go Go.RowKit
def shrB (k k':Blk):Prop:=k=k'∨∃ cs G,k=.cells (cs++G)∧k'=.cells cs
def shrL:List (Nat × Blk)→List (Nat × Blk)→Prop
 | [],[]=>True
 | e::r,e'::r'=>e.1=e'.1∧shrB e.2 e'.2∧shrL r r'
 | _,_=>False
theorem qw1:∀ {l l':List (Nat × Blk)},shrL l l'→l'.map (·.1)=l.map (·.1)
 | [],[],_=>rfl
 | e::r,e'::r',h=>by simp [h.1,qw1 h.2.2]
 | [],_::_,h=>h.elim
 | _::_,[],h=>h.elim
theorem qk7:∀ {l l':List (Nat × Blk)} {e':Nat × Blk},shrL l l'→e'∈l'→∃ e,e∈l∧e.1=e'.1∧shrB e.2 e'.2
 | e::r,e1::r',e',h,he=>by
  rcases List.mem_cons.1 he with rfl | he
  ·exact ⟨e,by simp,h.1,h.2.1⟩
  ·obtain ⟨x,h1,h2⟩:=qk7 h.2.2 he
   exact ⟨x,by simp [h1],h2⟩
 | [],[],_,_,he=>by cases he
 | [],_::_,_,h,_=>h.elim
 | _::_,[],_,h,_=>h.elim
structure Shr (H H':Heap):Prop where
 n:H'.n=H.n
 l:shrL H.ents H'.ents
theorem BlkR.shr {ρ:Place} {w:World} {l:Loc} {k k':Blk} (r:BlkR ρ w l k) (h:shrB k k'):BlkR ρ w l k':=by
 rcases h with rfl | ⟨cs,G,rfl,rfl⟩
 ·exact r
 ·refine ⟨by have:=r.1;simp at this;omega,r.2.1,fun i hi=>?_⟩
  have h2:=r.2.2 i (by simp;omega)
  rwa [List.getElem_append_left hi] at h2
theorem Sim.shr {ρ:Place} {H H':Heap} {w:World} (s:Sim ρ H w) (h:Shr H H'):Sim ρ H' w where
 base:=s.base
 below:=s.below
 os:=s.os
 tape:=s.tape
 output:=s.output
 dom:=fun b hb=>s.dom b (by rw [← h.n];exact hb)
 nodup:=by rw [qw1 h.l];exact s.nodup
 live:=fun e' he'=>by
  obtain ⟨e,he,h1,h2⟩:=qk7 h.l he'
  obtain ⟨l,hl,hb,hlt,hr⟩:=s.live e he
  exact ⟨l,by rw [← h1];exact hl,hb,hlt,hr.shr h2⟩
 inj:=fun e1 e2 h1 h2 l1 l2 k1 k2 hcb=>by
  obtain ⟨a1,ha1,b1,_⟩:=qk7 h.l h1
  obtain ⟨a2,ha2,b2,_⟩:=qk7 h.l h2
  rw [← b1,← b2]
  exact s.inj a1 a2 ha1 ha2 l1 l2 (by rw [b1];exact k1) (by rw [b2];exact k2) hcb
theorem Step.shr {ρ:Place} {H H':Heap} {w:World} (s:Sim ρ H w) (h:Shr H H'):Step ρ H w ρ H' w where
 le:=Place.le_refl ρ
 size:=Nat.le_refl _
 keeps:=fun _ _ _=>rfl
 rows:=fun e' he' l' hl'=>by
  obtain ⟨e,he,h1,_⟩:=qk7 h.l he'
  exact .inl ⟨e,he,l',by rw [h1];exact hl',rfl⟩
 num:=Nat.le_of_eq h.n.symm
 low:=fun _ _=>rfl
 cold:=fun _ h=>.inl h
theorem At.shr {b:Base} {s:St} {a:Act} {w:World} {H':Heap} (h:At b s a w) (k:Shr s.H H'):At b (s.wH H') a w:=by
 obtain ⟨ρ,h1,h2,h3,h4⟩:=h
 obtain ⟨ks,vs,ts,sz,H⟩:=s
 exact ⟨ρ,h1.step (Step.shr h2 k),h2.shr k,⟨h3.1,h3.2⟩,h4.step (Step.shr h2 k)⟩
theorem WpSr.shr {C:Ctx} {n:Nat} {r:Option Nat} {c:Code} {s:St} {Q:Out→St→Prop} {H':Heap} (k:Shr s.H H') (h:WpSr C n r c (s.wH H') Q):WpSr C n r c s Q:=
 fun b a w hb ha K hK=>h b a w hb (ha.shr k) K hK
section
variable {σ:List (Nat × Nat)} {Φ:List (Nat × List AV)} {ρ:Place} {H H1:Heap} {w:World}
theorem FitH.step (f:FitH H.n σ Φ H H1) (sm:Sim ρ H w):Step ρ H w (qdn H.n σ Φ ρ w sm.below) H1 w where
 le:=⟨fun b l hb=>by
  have hlt:b < H.n:=by
   rcases Nat.lt_or_ge b H.n with h | h
   ·exact h
   ·rw [sm.dom b h] at hb;cases hb
  show (if b < H.n then ρ b else _)=_
  rw [if_pos hlt];exact hb,fun k hk=>⟨.inl hk,sm.below k hk⟩,sm.os,sm.tape,sm.output⟩
 size:=Nat.le_refl _
 keeps:=fun _ _ _=>rfl
 rows:=fun e he l hl=>by
  obtain ⟨c,k,h1,h2,_⟩:=f.src e he
  rw [qdy f h1] at hl
  exact .inl ⟨_,Heap.get_mem h2,l,hl,rfl⟩
 num:=f.num
 low:=fun b hb=>by
  show (if b < H.n then ρ b else _)=_
  rw [if_pos hb]
 cold:=fun k hk=>by
  rcases hk with hk | ⟨c,cs,l,h1,h2,rfl⟩
  ·exact .inl hk
  ·obtain ⟨cs0,g1,_⟩:=f.frz _ h1
   exact .inr (.inl ⟨_,Heap.get_mem g1,l,h2,rfl⟩)
theorem CallAt.drop {C:Ctx} {f:FuncId} {args args':List AV} {v:AV} {H':Heap} (h:CallAt C f args' H1 v H') (fh:(H.ents.map (·.1)).Nodup→FitH H.n σ Φ H H1) (hf:qb1 σ Φ args args'):CallAt C f args H v H':=by
 intro ρ w xs sm hx
 have f:=fh sm.nodup
 have hx':VRs (qdn H.n σ Φ ρ w sm.below) args' xs:=by
  obtain ⟨k1,k2⟩:=qd6 hf
  refine ⟨by rw [hx.1,k1],fun i h1 h2=>?_⟩
  exact Fits.run (f.fits sm) sm _ (Nat.le_refl _) (hx.2 i (by omega) h2) (k2 i (by omega) h1)
 have st:=f.step sm
 rcases h _ w xs (f.sim sm (Nat.le_refl _)) hx' with ⟨x,ρ',w',h0,h1,h2,h3⟩ | ⟨g,ys,h0,h1⟩
 ·exact .inl ⟨x,ρ',w',h0,h1,h2,st.trans h3⟩
 ·refine .inr ⟨g,ys,h0,h1.mono ?_⟩
  rintro e w' ⟨x,ρ',rfl,m1,m2,m3⟩
  exact ⟨x,ρ',rfl,m1,m2,st.trans m3⟩
end
structure RgA where
 C:Ctx
 call:qc0
 ops:Array Oper
 bef:Array Nat
 base:Nat
 H0:Heap
open Classical in
def evalA (A:RgA):Nat→List Oper→St→List Pend→Option (St × List Pend)
 | _,[],s,ps=>some (s,ps)
 | i,o::r,s,ps=>match qcc A.ops s o with
  | none=>none
  | some false=>(match qbv o.op,qaz A.bef i ps with
    | .acts,_::_=>none
    | _,_=>match s.put o.dst (.tup []) with
     | none=>none
     | some s'=>evalA A (i+1) r s' ps)
  | some true=>match qbv o.op with
   | .allocs=>(match qds A.C o s with
    | none=>none
    | some k=>match s.put o.dst (k.1 (A.base+i)) with
     | none=>none
     | some s'=>evalA A (i+1) r s' (⟨i,A.base+i,k.2⟩::ps))
   | .acts=>(match qaa A.C A.call o (s.wH (s.H.lay (qaz A.bef i ps))) with
    | none=>none
    | some v=>if v.2=A.H0 then (match s.put o.dst v.1 with
     | none=>none
     | some s'=>evalA A (i+1) r s' (qax A.bef i ps)) else none)
   | _=>(match qaa A.C A.call o s with
    | none=>none
    | some v=>match s.put o.dst v.1 with
     | none=>none
     | some s'=>evalA A (i+1) r s' ps)
section
variable {A:RgA} {i:Nat} {o:Oper} {r:List Oper} {s s':St} {ps:List Pend} {v:AV} {H:Heap}
def qz7 (A:RgA) (i:Nat) (r:List Oper) (ps:List Pend):Option St→Option (St × List Pend)
 | none=>none
 | some s'=>evalA A (i+1) r s' ps
def valA (A:RgA) (i:Nat) (o:Oper) (r:List Oper) (s:St) (ps:List Pend):Option (AV × Heap)→Option (St × List Pend)
 | none=>none
 | some v=>qz7 A i r ps (s.put o.dst v.1)
open Classical in
def actA (A:RgA) (i:Nat) (o:Oper) (r:List Oper) (s:St) (ps:List Pend):Option (AV × Heap)→Option (St × List Pend)
 | none=>none
 | some v=>if v.2=A.H0 then qz7 A i r (qax A.bef i ps) (s.put o.dst v.1) else none
def layA (A:RgA) (i:Nat) (o:Oper) (r:List Oper) (s:St) (ps:List Pend):Option ((Nat→AV) × Blk)→Option (St × List Pend)
 | none=>none
 | some k=>qz7 A i r (⟨i,A.base+i,k.2⟩::ps) (s.put o.dst (k.1 (A.base+i)))
def clsA (A:RgA) (i:Nat) (o:Oper) (r:List Oper) (s:St) (ps:List Pend):Cls→Option (St × List Pend)
 | .allocs=>layA A i o r s ps (qds A.C o s)
 | .acts=>actA A i o r s ps (qaa A.C A.call o (s.wH (s.H.lay (qaz A.bef i ps))))
 | _=>valA A i o r s ps (qaa A.C A.call o s)
def offA (A:RgA) (i:Nat) (o:Oper) (r:List Oper) (s:St) (ps:List Pend):Cls→List (Nat × Blk)→Option (St × List Pend)
 | .acts,_::_=>none
 | _,_=>qz7 A i r ps (s.put o.dst (.tup []))
def zc2 (A:RgA) (i:Nat) (o:Oper) (r:List Oper) (s:St) (ps:List Pend):Option Bool→Option (St × List Pend)
 | none=>none
 | some false=>offA A i o r s ps (qbv o.op) (qaz A.bef i ps)
 | some true=>clsA A i o r s ps (qbv o.op)
theorem zcn:evalA A i [] s ps=some (s,ps):=rfl
theorem zco:evalA A i (o::r) s ps=zc2 A i o r s ps (qcc A.ops s o):=by
 rw [evalA.eq_def]
 simp only
 cases qcc A.ops s o with
 | none=>rfl
 | some g=>
  cases g with
  | false=>
   simp only [zc2,offA]
   cases qbv o.op <;> cases qaz A.bef i ps <;> rfl
  | true=>
   simp only [zc2,clsA]
   cases qbv o.op with
   | allocs=>simp only [layA];cases qds A.C o s <;> rfl
   | acts=>simp only [actA];cases qaa A.C A.call o (s.wH (s.H.lay (qaz A.bef i ps))) <;> rfl
   | pure=>simp only [valA];cases qaa A.C A.call o s <;> rfl
   | reads=>simp only [valA];cases qaa A.C A.call o s <;> rfl
theorem qkf:qz7 A i r ps (some s')=evalA A (i+1) r s' ps:=rfl
theorem qzm:valA A i o r s ps (some (v,H))=qz7 A i r ps (s.put o.dst v):=rfl
theorem actA_s (h:H=A.H0):actA A i o r s ps (some (v,H))=qz7 A i r (qax A.bef i ps) (s.put o.dst v):=by
 simp only [actA,h,if_true]
theorem layA_s {k:(Nat→AV) × Blk}:layA A i o r s ps (some k)=qz7 A i r (⟨i,A.base+i,k.2⟩::ps) (s.put o.dst (k.1 (A.base+i))):=rfl
theorem zc0:zc2 A i o r s ps (some true)=clsA A i o r s ps (qbv o.op):=rfl
theorem zc1:zc2 A i o r s ps (some false)=offA A i o r s ps (qbv o.op) (qaz A.bef i ps):=rfl
theorem clsA_l:clsA A i o r s ps .allocs=layA A i o r s ps (qds A.C o s):=rfl
theorem clsA_a:clsA A i o r s ps .acts=actA A i o r s ps (qaa A.C A.call o (s.wH (s.H.lay (qaz A.bef i ps)))):=rfl
theorem clsA_p:clsA A i o r s ps .pure=valA A i o r s ps (qaa A.C A.call o s):=rfl
theorem clsA_r:clsA A i o r s ps .reads=valA A i o r s ps (qaa A.C A.call o s):=rfl
theorem offA_a:offA A i o r s ps .acts []=qz7 A i r ps (s.put o.dst (.tup [])):=rfl
theorem offA_l {w:List (Nat × Blk)}:offA A i o r s ps .allocs w=qz7 A i r ps (s.put o.dst (.tup [])):=rfl
theorem offA_p {w:List (Nat × Blk)}:offA A i o r s ps .pure w=qz7 A i r ps (s.put o.dst (.tup [])):=rfl
theorem offA_r {w:List (Nat × Blk)}:offA A i o r s ps .reads w=qz7 A i r ps (s.put o.dst (.tup [])):=rfl
end
structure InvA (A:RgA) (d:DrawSt) (s:St) (ps:List Pend):Prop where
 s_:d.s=s
 H_:s.H=A.H0
 ps:d.ps=ps
 hs:∀ h,h∈d.hs→h.2=A.H0
 rs:∀ x,x∈d.rs→∃ y,qaa A.C A.call x.o { x.s with H:=A.H0 }=some y∧y.1=x.v
theorem qlv {bef:Array Nat} {i:Nat}:∀ {ps:List Pend},qaz bef i ps=[]→qax bef i ps=ps
 | [],_=>rfl
 | p::r,h=>by
  unfold qaz at h
  unfold qax
  cases ha:ahead bef p.i i with
  | true=>rw [ha] at h;cases h
  | false=>rw [ha] at h;simp only at h ⊢;rw [qlv h]
theorem zcp {A:RgA}:∀ {l:List Oper} {i:Nat} {s s':St} {ps ps':List Pend} {d:DrawSt},evalA A i l s ps=some (s',ps')→InvA A d s ps→∃ d',qkt A.C A.call A.ops A.bef A.base i l d=some d'∧InvA A d' s' ps'
 | [],i,s,s',ps,ps',d,h,k=>by
  rw [zcn,sj,Prod.mk.injEq] at h
  obtain ⟨rfl,rfl⟩:=h
  exact ⟨d,rfl,k⟩
 | o::r,i,s,s',ps,ps',d,h,k=>by
  have next:∀ {s1:St} {ps1:List Pend} {d1:DrawSt},qgf A.C A.call A.ops A.bef A.base i o d=some d1→InvA A d1 s1 ps1→evalA A (i+1) r s1 ps1=some (s',ps')→∃ d',qkt A.C A.call A.ops A.bef A.base i (o::r) d=some d'∧InvA A d' s' ps':=fun h1 h2 h3=>by
   obtain ⟨d2,r1,r2⟩:=zcp h3 h2
   exact ⟨d2,by simp only [qkt,h1,Option.bind_some];exact r1,r2⟩
  obtain ⟨ds,dps,hs,rs⟩:=d
  obtain ⟨rfl,k2,rfl,k4,k5⟩:=k
  simp only at k2 k4 k5 next
  rw [zco] at h
  have putH:∀ {dst:Option Tmp} {v:AV} {s1:St},ds.put dst v=some s1→s1.H=A.H0:=fun {dst v s1} hp=>by rw [← k2];exact St.put_heap hp
  cases hg:qcc A.ops ds o with
  | none=>rw [hg] at h;cases h
  | some g=>
  rw [hg] at h
  cases g with
  | false=>
   rw [zc1] at h
   cases hc:qbv o.op with
   | acts=>
    rw [hc] at h
    cases hw:qaz A.bef i dps with
    | cons a b=>rw [hw] at h;cases h
    | nil=>
     rw [hw,offA_a] at h
     cases hp:ds.put o.dst (.tup []) with
     | none=>rw [hp] at h;cases h
     | some s1=>
      rw [hp,qkf] at h
      refine next (s1:=s1) (ps1:=dps) (d1:=⟨s1.wH s1.H,dps,(i,s1.H)::hs,rs⟩) ?_ ⟨rfl,putH hp,rfl,fun x hx=>?_,k5⟩ h
      ·unfold qgf
       simp only [hg,Option.bind_some,hp,hc,hw,qlv hw,Heap.lay]
      ·rcases List.mem_cons.1 hx with rfl | hx
       ·exact putH hp
       ·exact k4 x hx
   | allocs=>
    rw [hc,offA_l] at h
    cases hp:ds.put o.dst (.tup []) with
    | none=>rw [hp] at h;cases h
    | some s1=>
     rw [hp,qkf] at h
     refine next (s1:=s1) (ps1:=dps) (d1:=⟨s1,dps,hs,rs⟩) ?_ ⟨rfl,putH hp,rfl,k4,k5⟩ h
     unfold qgf
     simp only [hg,Option.bind_some,hp,hc]
   | pure=>
    rw [hc,offA_p] at h
    cases hp:ds.put o.dst (.tup []) with
    | none=>rw [hp] at h;cases h
    | some s1=>
     rw [hp,qkf] at h
     refine next (s1:=s1) (ps1:=dps) (d1:=⟨s1,dps,hs,rs⟩) ?_ ⟨rfl,putH hp,rfl,k4,k5⟩ h
     unfold qgf
     simp only [hg,Option.bind_some,hp,hc]
   | reads=>
    rw [hc,offA_r] at h
    cases hp:ds.put o.dst (.tup []) with
    | none=>rw [hp] at h;cases h
    | some s1=>
     rw [hp,qkf] at h
     refine next (s1:=s1) (ps1:=dps) (d1:=⟨s1,dps,hs,rs⟩) ?_ ⟨rfl,putH hp,rfl,k4,k5⟩ h
     unfold qgf
     simp only [hg,Option.bind_some,hp,hc]
  | true=>
   rw [zc0] at h
   cases hc:qbv o.op with
   | acts=>
    rw [hc,clsA_a] at h
    cases hv:qaa A.C A.call o (ds.wH (ds.H.lay (qaz A.bef i dps))) with
    | none=>rw [hv] at h;cases h
    | some v=>
     rw [hv] at h
     simp only [actA] at h
     split at h
     ·rename_i hH
      cases hp:ds.put o.dst v.1 with
      | none=>rw [hp] at h;cases h
      | some s1=>
       rw [hp,qkf] at h
       have hd:ds.wH v.2=ds:=by rw [hH,← k2];rfl
       refine next (s1:=s1) (ps1:=qax A.bef i dps) (d1:=⟨s1,qax A.bef i dps,(i,s1.H)::hs,rs⟩) ?_ ⟨rfl,putH hp,rfl,fun x hx=>?_,k5⟩ h
       ·unfold qgf
        simp only [hg,Option.bind_some,hc,hv,hd,hp]
       ·rcases List.mem_cons.1 hx with rfl | hx
        ·exact putH hp
        ·exact k4 x hx
     ·cases h
   | allocs=>
    rw [hc,clsA_l] at h
    cases hv:qds A.C o ds with
    | none=>rw [hv] at h;cases h
    | some k=>
     rw [hv,layA_s] at h
     cases hp:ds.put o.dst (k.1 (A.base+i)) with
     | none=>rw [hp] at h;cases h
     | some s1=>
      rw [hp,qkf] at h
      refine next (s1:=s1) (d1:=⟨s1,⟨i,A.base+i,k.2⟩::dps,hs,rs⟩) ?_ ⟨rfl,putH hp,rfl,k4,k5⟩ h
      unfold qgf
      simp only [hg,Option.bind_some,hc,hv,hp]
   | pure=>
    rw [hc,clsA_p] at h
    cases hv:qaa A.C A.call o ds with
    | none=>rw [hv] at h;cases h
    | some v=>
     obtain ⟨v,Hv⟩:=v
     rw [hv,qzm] at h
     cases hp:ds.put o.dst v with
     | none=>rw [hp] at h;cases h
     | some s1=>
      rw [hp,qkf] at h
      refine next (s1:=s1) (ps1:=dps) (d1:=⟨s1,dps,hs,rs⟩) ?_ ⟨rfl,putH hp,rfl,k4,k5⟩ h
      unfold qgf
      simp only [hg,Option.bind_some,hc,hv,hp]
   | reads=>
    rw [hc,clsA_r] at h
    cases hv:qaa A.C A.call o ds with
    | none=>rw [hv] at h;cases h
    | some v=>
     obtain ⟨v,Hv⟩:=v
     rw [hv,qzm] at h
     cases hp:ds.put o.dst v with
     | none=>rw [hp] at h;cases h
     | some s1=>
      rw [hp,qkf] at h
      refine next (s1:=s1) (ps1:=dps) (d1:=⟨s1,dps,hs,⟨i,o,ds,v⟩::rs⟩) ?_ ⟨rfl,putH hp,rfl,k4,fun x hx=>?_⟩ h
      ·unfold qgf
       simp only [hg,Option.bind_some,hc,hv,hp]
      ·rcases List.mem_cons.1 hx with rfl | hx
       ·simp only
        rw [← k2]
        exact ⟨_,hv,rfl⟩
       ·exact k5 x hx
theorem qzh {C:Ctx} {call:qc0} {ops:Array Oper} {n:Nat} {s:St} {Q:Out→St→Prop} {id:Nat} (hm:C.P.follows .mixedOrders=true) (hC:CallOK C call) (hd:qqd ops=true)
  (hf:qas ops.toList { s with ts:=[] }={ s with ts:=[] })
  (h:∀ B:Array Nat,B=Region.before ops→∃ s' ps,evalA ⟨C,call,ops,B,s.H.n,⟨s.H.n+ops.size,s.H.fs⟩⟩ 0 ops.toList { s with ts:=[],H:=⟨s.H.n+ops.size,s.H.fs⟩ } []=some (s',ps)∧Q .normal { s' with H:=s'.H.lay (qcj ps) }):WpS C n (.region id ops true) s Q:=by
 refine qd3 hm hC hd fun B hB=>?_
 obtain ⟨s',ps,h1,h2⟩:=h B hB
 have hr:qby (qas ops.toList { s with ts:=[] }) ops.size={ s with ts:=[],H:=⟨s.H.n+ops.size,s.H.fs⟩ }:=by rw [hf];rfl
 rw [hr]
 obtain ⟨d,q1,q2⟩:=zcp (d:=⟨{ s with ts:=[],H:=⟨s.H.n+ops.size,s.H.fs⟩ },[],[],[]⟩) h1 ⟨rfl,rfl,rfl,fun h hh=>(by cases hh),fun x hx=>(by cases hx)⟩
 refine ⟨d,q1,quf q2.hs q2.rs,?_⟩
 rw [q2.ps,q2.s_]
 exact h2
end
end Go.Proofs.YtocnpnnplllneaaGreatDoor
namespace Go.Proofs.YtocnpnnplllneaaGreatDoor
set_option linter.unusedSimpArgs false
set_option linter.unusedVariables false
open Go Go.RowKit
set_option maxRecDepth 100000
def qcw (s:Str):Prop:=∀ c,c∈s→c.toNat < 128
theorem zcx {s:Str} {i:Nat} (h:i < s.length) (hc:s[i].toNat < 128):Utf8.decode ⟨s.toArray⟩ i=(s[i].toNat,1):=by
 have h0:(ByteArray.get! ⟨s.toArray⟩ (i+0)).toNat=s[i].toNat:=by
  show (s.toArray[i+0]!).toNat=_
  simp [h]
 unfold Utf8.decode
 simp only [h0,hc,if_true]
def qp2 (L:List (Nat × Nat)):List AV:=L.flatMap fun p=>[.int .i64 (p.1:Int),.int .i64 (p.2:Int)]
def spn (p:Nat × Nat):AV:=.agg [.int .i64 (p.1:Int),.int .i64 (p.2:Int)]
def qp1 (n:Nat):List AV:=List.replicate n (.int .i64 0)
def spV (n:Nat):AV:=if n≤32 then .slc 0 0 n (.ex 32) else .slc 0 0 n (.rest 2)
def spB (L:List (Nat × Nat)):List AV:=if L.length≤32 then qp2 L++qp1 (64 - 2 * L.length) else qp2 L
theorem qvz (L:List (Nat × Nat)):(qp2 L).length=2 * L.length:=by
 induction L with
 | nil=>rfl
 | cons a r ih=>simp only [qp2,List.flatMap_cons,List.length_append,List.length_cons,List.length_nil] at ih ⊢;omega
theorem qw0 (L:List (Nat × Nat)) (p:Nat × Nat):qp2 (L++[p])=qp2 L++[.int .i64 (p.1:Int),.int .i64 (p.2:Int)]:=by simp [qp2]
theorem qsf (L:List (Nat × Nat)):qac (qp2 L)=true:=by
 induction L with
 | nil=>rfl
 | cons a r ih=>
  have:qp2 (a::r)=[.int .i64 (a.1:Int),.int .i64 (a.2:Int)]++qp2 r:=rfl
  rw [this,qf7,ih];rfl
theorem qxm (n:Nat):qac (qp1 n)=true:=by
 induction n with
 | zero=>rfl
 | succ n ih=>simp only [qp1,List.replicate_succ] at ih ⊢;simp [qac,qah,ih]
theorem qgy (L:List (Nat × Nat)):qac (spB L)=true:=by
 unfold spB
 split
 ·rw [qf7,qsf,qxm];rfl
 ·exact qsf L
theorem qx6 (L:List (Nat × Nat)):qa4 (L.map spn)=qp2 L:=by
 induction L with
 | nil=>rfl
 | cons a r ih=>simp only [List.map_cons,qa4,ih];rfl
theorem el_spn (L:List (Nat × Nat)):Elems 2 (L.map spn):=.map (sz:=2) (f:=spn) (by decide) (fun x=>⟨rfl,rfl,fun h=>absurd h (by decide),fun _=>⟨_,rfl⟩⟩) L
theorem qua (L:List (Nat × Nat)):qek 0 (L.length * 2) (spB L)=some (qp2 L):=by
 have h:(qp2 L).length=L.length * 2:=by rw [qvz];omega
 unfold spB
 split
 ·rw [qiw (by simp;omega),List.drop_zero,List.take_append_of_le_length (by omega),List.take_of_length_le (by omega)]
 ·rw [qiw (by omega),List.drop_zero,List.take_of_length_le (by omega)]
theorem app_sp {L:List (Nat × Nat)} {p:Nat × Nat} {I:Blk} (hl:L.length≤1000000) :
  ∃ b m f,b≠1∧qbz Tryz.prog ⟨3,[[(2,.cells [.int .i64 (p.1:Int),.int .i64 (p.2:Int)]),(1,I),(0,.cells (spB L))]]⟩ 160 (spV L.length) (.slc 2 0 1 (.ex 1)) =
   some ((if L.length+1≤32 then .slc b 0 (L.length+1) (.ex 32) else .slc b 0 (L.length+1) (.rest 2)),⟨m,f⟩)∧Heap.get ⟨m,f⟩ 1=some I∧Heap.get ⟨m,f⟩ b=some (.cells (spB (L++[p]))):=by
 have hcs:∀ H:Heap,Heap.get H 2=some (.cells [.int .i64 (p.1:Int),.int .i64 (p.2:Int)])→qb4 H 2 1 (.slc 2 0 1 (.ex 1))=some [.int .i64 (p.1:Int),.int .i64 (p.2:Int)]:=fun H h=>by
  simp [qb4,readCells,h]
 have g0:Heap.get ⟨3,[[(2,.cells [.int .i64 (p.1:Int),.int .i64 (p.2:Int)]),(1,I),(0,.cells (spB L))]]⟩ 0=some (.cells (spB L)):=by simp [Heap.get,getFs,getF]
 have hsrc:=hcs ⟨3,[[(2,.cells [.int .i64 (p.1:Int),.int .i64 (p.2:Int)]),(1,I),(0,.cells (spB L))]]⟩ (by simp [Heap.get,getFs,getF])
 have hroom:qck (L.length+1) 16=true:=by unfold qck;rw [Nat.ble_eq];omega
 have hrow:∀ cs,qp3 Tryz.prog 160 cs=.cells cs:=fun cs=>rfl
 have h64:(qp2 L).length=2 * L.length:=qvz L
 have hlen1:(L++[p]).length=L.length+1:=by simp
 by_cases h1:L.length+1≤32
 ·have hv:spV L.length=.slc 0 0 L.length (.ex 32):=by unfold spV;rw [if_pos (by omega)]
  have hb:Nat.ble (L.length+1) 32=true:=by rw [Nat.ble_eq];exact h1
  have hB:spB L=qp2 L++qp1 2++qp1 (62 - 2 * L.length):=by
   unfold spB
   rw [if_pos (by omega),List.append_assoc]
   congr 1
   simp only [qp1];rw [List.replicate_append_replicate];congr 1;omega
  have hB2:spB (L++[p])=qp2 L++[.int .i64 (p.1:Int),.int .i64 (p.2:Int)]++qp1 (62 - 2 * L.length):=by
   unfold spB
   rw [hlen1,if_pos h1,qw0]
   congr 2
   omega
  have hlay:qge [.int .i64 (p.1:Int),.int .i64 (p.2:Int)] (0+L.length * 2) (spB L)=some (spB (L++[p])):=by
   have:=qg1 (a:=qp2 L) (b:=qp1 2) (b':=[.int .i64 (p.1:Int),.int .i64 (p.2:Int)]) (c:=qp1 (62 - 2 * L.length)) rfl
   rw [h64] at this
   rw [hB,hB2,show 0+L.length * 2=2 * L.length by omega,this]
  refine ⟨0,3,[[(2,.cells [.int .i64 (p.1:Int),.int .i64 (p.2:Int)]),(1,I),(0,.cells (spB (L++[p])))]],by omega,?_,by simp [Heap.get,getFs,getF],by simp [Heap.get,getFs,getF]⟩
  rw [if_pos h1,hv]
  unfold qbz
  simp only [qzv,zdc,qzd,Option.bind_some,qc2,hsrc,hroom,hb]
  simp only [writeCells,g0,Option.bind_some,Blk.wt,hlay,Blk.re]
  simp [Heap.ready,refs,Heap.set,setFs,setF,allSingle,AV.single]
  rfl
 ·have hB2:spB (L++[p])=qp2 L++[.int .i64 (p.1:Int),.int .i64 (p.2:Int)]:=by
   unfold spB
   rw [hlen1,if_neg h1,qw0]
  have hread:readCells ⟨3,[[(2,.cells [.int .i64 (p.1:Int),.int .i64 (p.2:Int)]),(1,I),(0,.cells (spB L))]]⟩ 0 0 (L.length * 2)=some (qp2 L):=by
   unfold readCells
   simp only [g0,Option.bind_some,qr0]
   exact qua L
  by_cases h2:L.length=32
  ·have hv:spV L.length=.slc 0 0 L.length (.ex 32):=by unfold spV;rw [if_pos (by omega)]
   have hb:Nat.ble (L.length+1) 32=false:=by rw [← Bool.not_eq_true,Nat.ble_eq];exact h1
   refine ⟨3,4,[[(3,.cells (spB (L++[p]))),(2,.cells [.int .i64 (p.1:Int),.int .i64 (p.2:Int)]),(1,I),(0,.cells (spB L))]],by omega,?_,by simp [Heap.get,getFs,getF],by simp [Heap.get,getFs,getF]⟩
   rw [if_neg h1,hv,hB2]
   unfold qbz
   simp only [qzv,zdc,qzd,Option.bind_some,qc2,hsrc,hroom,hb,hread,hrow]
   simp [Heap.new,pushF,allSingle,AV.single]
   rfl
  ·have hv:spV L.length=.slc 0 0 L.length (.rest 2):=by unfold spV;rw [if_neg (by omega)]
   have hB:spB L=qp2 L:=by unfold spB;rw [if_neg (by omega)]
   have hk:qci ⟨3,[[(2,.cells [.int .i64 (p.1:Int),.int .i64 (p.2:Int)]),(1,I),(0,.cells (spB L))]]⟩ 0=some (2 * L.length):=by
    rw [qci,g0,hB];simp [h64]
   have hb1:Nat.ble (0+(L.length+1) * 2) (2 * L.length)=false:=by rw [← Bool.not_eq_true,Nat.ble_eq];omega
   have hb2:Nat.beq (0+L.length * 2) (2 * L.length)=true:=by rw [show 0+L.length * 2=2 * L.length by omega];exact Nat.beq_refl _
   refine ⟨3,4,[[(3,.cells (spB (L++[p]))),(2,.cells [.int .i64 (p.1:Int),.int .i64 (p.2:Int)]),(1,I)]],by omega,?_,by simp [Heap.get,getFs,getF],by simp [Heap.get,getFs,getF]⟩
   rw [if_neg h1,hv,hB2]
   unfold qbz
   simp only [qzv,zdc,qzd,Option.bind_some,qc2,hsrc,hroom,hk,hb1,hb2,hread,g0,qq2]
   simp [Heap.new,pushF,allSingle,AV.single,Heap.drop,qdz,getF,killF]
   rfl
def qdp (s:Str) (p:Nat × Nat):Str:=(s.drop p.1).take (p.2 - p.1)
structure SpOk (s:Str) (i:Nat) (L:List (Nat × Nat)) (st:Int):Prop where
 le:i≤s.length
 few:L.length≤i
 done:L.map (qdp s)=(wst (s.take i)).1
 rng:∀ p,p∈L→p.1≤p.2∧p.2≤s.length
 lo : -1000001≤st
 cur:(st < 0∧(wst (s.take i)).2=[])∨∃ a:Nat,st=a∧a < i∧(wst (s.take i)).2=qdp s (a,i)
theorem qtm {H:Heap} {b j:Nat} {s:Str} {cs:List AV} (hb:b≠1) (h1:H.get 1=some (.iter s j)) (h2:H.get b=some (.cells cs)) (hp:qac cs=true):FitH 0 [(1,1),(b,0)] [] H ⟨2,[[(1,.iter s j),(0,.cells cs)]]⟩ where
 nd1:=by simp;omega
 nd2:=by simp
 nd3:=by simp [Heap.ents]
 lt:=fun x hx=>by simp at hx;rcases hx with rfl | rfl <;> simp
 idn:=fun x hx h=>by rcases h with h | h <;> exact absurd h (Nat.not_lt_zero _)
 num:=Nat.zero_le _
 src:=fun e he=>by
  simp [Heap.ents] at he
  rcases he with rfl | rfl
  ·exact ⟨1,_,by simp,h1,by simp [qh6]⟩
  ·exact ⟨b,_,by simp,h2,qaj hp⟩
 frz:=fun x hx=>by cases hx
theorem word_one {s:Str} {i:Nat} (h:i < s.length):qdp s (i,i+1)=[s[i]]:=by
 unfold qdp
 simp only
 rw [List.drop_eq_getElem_cons h,show i+1 - i=1 by omega]
 rfl
theorem qzj {s:Str} {a i:Nat} (h:i < s.length) (ha:a≤i):qdp s (a,i+1)=qdp s (a,i)++[s[i]]:=by
 unfold qdp
 simp only
 rw [show i+1 - a=(i - a)+1 by omega,List.take_succ_eq_append_getElem (by simp;omega)]
 congr 2
 rw [List.getElem_drop]
 congr 1
 omega
theorem za3 {s:Str} {i:Nat} {L:List (Nat × Nat)} {st:Int} (h:i < s.length) (k:SpOk s i L st) (hs:sp s[i]=true) (h0:st < 0):SpOk s (i+1) L st:=by
 have he:(wst (s.take i)).2=[]:=by
  rcases k.cur with ⟨_,h⟩ | ⟨a,ha,_⟩
  ·exact h
  ·omega
 refine ⟨by omega,by have:=k.few;omega,?_,k.rng,k.lo,.inl ⟨h0,?_⟩⟩
 ·rw [qk1 h];simp only [qgw,hs,if_true,he,k.done]
 ·rw [qk1 h];simp only [qgw,hs,if_true]
theorem za2 {s:Str} {i a:Nat} {L:List (Nat × Nat)} (h:i < s.length) (k:SpOk s i L (a:Int)) (hs:sp s[i]=true) (hl:s.length≤1000000):SpOk s (i+1) (L++[(a,i)]) (-(a:Int) - 1):=by
 obtain ⟨hai,hc⟩ : a < i∧(wst (s.take i)).2=qdp s (a,i):=by
  rcases k.cur with ⟨h,_⟩ | ⟨b,hb,h1,h2⟩
  ·omega
  ·have:a=b:=by omega
   subst this;exact ⟨h1,h2⟩
 have hne:¬ qdp s (a,i)=[]:=by
  intro e
  have:=congrArg List.length e
  simp [qdp] at this
  omega
 refine ⟨by omega,by have:=k.few;simp;omega,?_,fun p hp=>?_,by omega,.inl ⟨by omega,?_⟩⟩
 ·rw [qk1 h];simp only [qgw,hs,if_true,hc,hne,if_false,List.map_append,k.done];rfl
 ·rcases List.mem_append.1 hp with hp | hp
  ·exact k.rng p hp
  ·simp at hp;subst hp;exact ⟨by simp only;omega,by simp only;omega⟩
 ·rw [qk1 h];simp only [qgw,hs,if_true]
theorem sp_char0 {s:Str} {i:Nat} {L:List (Nat × Nat)} {st:Int} (h:i < s.length) (k:SpOk s i L st) (hs:sp s[i]=false) (h0:st < 0):SpOk s (i+1) L (i:Int):=by
 have he:(wst (s.take i)).2=[]:=by
  rcases k.cur with ⟨_,h⟩ | ⟨a,ha,_⟩
  ·exact h
  ·omega
 refine ⟨by omega,by have:=k.few;omega,?_,k.rng,by omega,.inr ⟨i,rfl,by omega,?_⟩⟩
 ·rw [qk1 h];simp [qgw,hs,k.done]
 ·rw [qk1 h,word_one h];simp [qgw,hs,he]
theorem sp_char1 {s:Str} {i a:Nat} {L:List (Nat × Nat)} (h:i < s.length) (k:SpOk s i L (a:Int)) (hs:sp s[i]=false):SpOk s (i+1) L (a:Int):=by
 obtain ⟨hai,hc⟩ : a < i∧(wst (s.take i)).2=qdp s (a,i):=by
  rcases k.cur with ⟨h,_⟩ | ⟨b,hb,h1,h2⟩
  ·omega
  ·have:a=b:=by omega
   subst this;exact ⟨h1,h2⟩
 refine ⟨by omega,by have:=k.few;omega,?_,k.rng,by omega,.inr ⟨a,rfl,by omega,?_⟩⟩
 ·rw [qk1 h];simp [qgw,hs,k.done]
 ·rw [qk1 h,qzj h (by omega)];simp [qgw,hs,hc]
theorem sp_begin (s:Str):SpOk s 0 [] (-1):=⟨Nat.zero_le _,by simp,by simp [wst],by simp,by omega,.inl ⟨by omega,by simp [wst]⟩⟩
theorem sp_end0 {s:Str} {L:List (Nat × Nat)} {st:Int} (k:SpOk s s.length L st) (h0:st < 0):L.map (qdp s)=qdq s:=by
 have he:(wst (s.take s.length)).2=[]:=by
  rcases k.cur with ⟨_,h⟩ | ⟨a,ha,_⟩
  ·exact h
  ·omega
 have hd:=k.done
 rw [List.take_of_length_le (Nat.le_refl _)] at hd he
 rw [hd,qdq,wfin,if_pos he]
theorem sp_end1 {s:Str} {a:Nat} {L:List (Nat × Nat)} (k:SpOk s s.length L (a:Int)):(L++[(a,s.length)]).map (qdp s)=qdq s∧a < s.length:=by
 obtain ⟨hai,hc⟩ : a < s.length∧(wst (s.take s.length)).2=qdp s (a,s.length):=by
  rcases k.cur with ⟨h,_⟩ | ⟨b,hb,h1,h2⟩
  ·omega
  ·have:a=b:=by omega
   subst this;exact ⟨h1,h2⟩
 have hne:¬ qdp s (a,s.length)=[]:=by
  intro e
  have:=congrArg List.length e
  simp [qdp] at this
  omega
 have hd:=k.done
 rw [List.take_of_length_le (Nat.le_refl _)] at hd hc
 refine ⟨?_,hai⟩
 rw [List.map_append,hd,qdq,wfin,hc,if_neg hne]
 rfl
theorem xor_not {a:Nat} (h:a≤1000000):unA .xor (.int .i64 (a:Int))=some (.int .i64 (-(a:Int) - 1)):=by
 have h1:(BitVec.ofInt 64 (-1) ^^^ BitVec.ofInt 64 (a:Int)).toNat=18446744073709551615 - a:=by
  have e1:BitVec.ofInt 64 (-1)=BitVec.allOnes 64:=by decide
  have e2:BitVec.ofInt 64 (a:Int)=BitVec.ofNat 64 a:=by simp
  rw [e1,e2,BitVec.allOnes_xor,BitVec.toNat_not,BitVec.toNat_ofNat]
  omega
 show some (AV.int .i64 (IntKind.i64.wrap ((BitVec.ofInt 64 (-1) ^^^ BitVec.ofInt 64 (a:Int)).toNat:Int)))=_
 rw [h1]
 have h2:IntKind.i64.wrap ((18446744073709551615 - a:Nat):Int) = -(a:Int) - 1:=by
  have h3:((18446744073709551615 - a:Nat):Int)=18446744073709551615 - (a:Int):=by omega
  rw [h3]
  simp [IntKind.wrap,IntKind.signed,IntKind.bits]
  omega
 rw [h2]
@[simp] theorem fr_range {d:Option Tmp} {t:TypeId} {l:Operand} {ty:TypeId} {pos:String} {af:Array Edge} {g:Option (Nat × Bool)} {s:St}:qbe s ⟨d,.range t l,ty,pos,af,g⟩=s:=rfl
@[simp] theorem fr_next {d:Option Tmp} {b:Bool} {l:Operand} {ty:TypeId} {pos:String} {af:Array Edge} {g:Option (Nat × Bool)} {s:St}:qbe s ⟨d,.next l b,ty,pos,af,g⟩=s:=rfl
def bl5 (n:Nat):List AV:=List.replicate n (.str [])
def sts (L:List Str):List AV:=L.map .str
theorem qxj (n:Nat):qac (bl5 n)=true:=by
 induction n with
 | zero=>rfl
 | succ n ih=>simp only [bl5,List.replicate_succ] at ih ⊢;simp [qac,qah,ih]
theorem qmj (L:List Str):qac (sts L)=true:=by
 induction L with
 | nil=>rfl
 | cons a r ih=>simp only [sts,List.map_cons] at ih ⊢;simp [qac,qah,ih]
theorem sts_set {X:List Str} {k:Nat} {w:Str}:(sts X++bl5 (k+1)).set X.length (.str w)=sts (X++[w])++bl5 k:=by
 rw [List.set_append_right _ _ (by simp [sts])]
 simp [sts,bl5,List.replicate_succ]
theorem mkStrs {H:Heap} {n:Nat} (h:n≤1000000):qez Tryz.prog H 36 (.int .i64 (n:Int)) (.int .i64 (n:Int))=some (.slc H.n 0 n (.ex n),H.new (.cells (bl5 n))):=by
 have hr:∀ n,replL [AV.str []] n=bl5 n:=fun n=>by
  induction n with
  | zero=>rfl
  | succ n ih=>simp [replL,ih,bl5,List.replicate_succ]
 have h1:idx (n:Int) 17592186044416=some n:=qbs (by omega)
 have h2:idx (n:Int) (Nat.succ n)=some n:=qbs (by omega)
 have h3:qck n 16=true:=by unfold qck;rw [Nat.ble_eq];omega
 unfold qez msB
 simp [h1,h2,h3,hr]
theorem mkSp {H:Heap}:qez Tryz.prog H 158 (.int .i64 0) (.int .i64 32)=some (.slc H.n 0 0 (.ex 32),H.new (.cells (qp1 64))):=rfl
theorem ixS {b n i:Nat} {c:Cap} (h:i < n):qat Tryz.prog 36 (.slc b 0 n c) (.int .i64 (i:Int))=some (.ptr b i):=by
 simp [qat,qbs h]
theorem layS {v:AV}:∀ {cs:List AV} {i:Nat},i < cs.length→qge [v] i cs=some (cs.set i v)
 | [],_,h=>absurd h (Nat.not_lt_zero _)
 | x::r,0,_=>by simp [qge,qgl]
 | x::r,i+1,h=>by
  simp only [qge,layS (cs:=r) (i:=i) (by simpa using h)]
  rfl
def aSp (L:List (Nat × Nat)):AV:=.fslc 2 (L.map spn)
theorem atSp {L:List (Nat × Nat)} {i:Nat} (h:i < L.length):qat Tryz.prog 158 (aSp L) (.int .i64 (i:Int))=some (.fptr [.int .i64 ((L[i]).1:Int),.int .i64 ((L[i]).2:Int)] 0):=by
 simp [qat,aSp,qbs h,qg3 h]
 simp [spn]
theorem lenSp {H:Heap} {L:List (Nat × Nat)}:qeu Tryz.prog H 158 (aSp L)=some L.length:=by simp [qeu,aSp]
theorem slW {H:Heap} {s:Str} {a b:Nat} (h1:a≤b) (h2:b≤s.length):qdu Tryz.prog H 9 (.str s) (some (.int .i64 (a:Int))) (some (.int .i64 (b:Int))) none=some (.str (qdp s (a,b))):=by
 have i1:idx (b:Int) (Nat.succ s.length)=some b:=qbs (by omega)
 have i2:idx (a:Int) (Nat.succ b)=some a:=qbs (by omega)
 simp [qdu,qza,qcq,i1,i2,qdp,List.drop_take]
theorem nx_yes {m i:Nat} {s:Str} {B:Blk} (h:i < s.length) (hc:s[i].toNat < 128):qp7 ⟨m,[[(1,.iter s i),(0,B)]]⟩ 1=some (.tup [.bool true,.int .i64 i,.int .i32 (s[i].toNat:Int)],⟨m,[[(1,.iter s (i+1)),(0,B)]]⟩):=by
 have hb:Nat.blt i s.length=true:=by simpa using h
 simp [qp7,Heap.get,getFs,getF,hb,zcx h hc,Heap.set,setFs,setF]
theorem nx_no {m i:Nat} {s:Str} {B:Blk} (h:¬ i < s.length):qp7 ⟨m,[[(1,.iter s i),(0,B)]]⟩ 1=some (.tup [.bool false],⟨m,[[(1,.iter s i),(0,B)]]⟩):=by
 have hb:Nat.blt i s.length=false:=by
  cases hq:Nat.blt i s.length with
  | false=>rfl
  | true=>exact absurd (by simpa using hq) h
 simp [qp7,Heap.get,getFs,getF,hb]
theorem qqx (n:Nat) (b:Nat):∃ c,(if n≤32 then AV.slc b 0 n (.ex 32) else AV.slc b 0 n (.rest 2))=.slc b 0 n c∧spV n=.slc 0 0 n c:=by
 unfold spV
 split
 ·exact ⟨_,rfl,rfl⟩
 ·exact ⟨_,rfl,rfl⟩
theorem fit_spV {L:List (Nat × Nat)} {σ:List (Nat × Nat)} {Φ:List (Nat × List AV)} (h:qc5 0 Φ=some (spB L)):qar σ Φ (spV L.length) (aSp L):=by
 obtain ⟨c,_,hc⟩:=qqx L.length 0
 rw [hc]
 simp only [aSp,qar]
 refine .inl ⟨_,h,?_,by simp,(el_spn L).size⟩
 rw [qx6,qua]
theorem zcd {H:Heap} {b:Nat} {cs:List AV} (h:H.get b=some (.cells cs)) (hp:qac cs=true):FitH 0 [] [(b,cs)] H ⟨0,[[]]⟩:=by
 refine ⟨by simp,by simp,by simp [Heap.ents],fun x h=>(by cases h),fun x h=>(by cases h),Nat.le_refl _,fun e h=>(by simp [Heap.ents] at h),fun x hx=>?_⟩
 rw [List.mem_singleton] at hx
 subst hx
 exact ⟨_,h,qaj hp,hp⟩
theorem qri {n:Nat}:qar [(1,1),(0,0)] [] (spV n) (spV n):=by
 obtain ⟨c,_,hc⟩:=qqx n 0
 rw [hc]
 simp [qar,qay]
def sbC:List Nat→Code→Code
 | [],c=>c
 | d::r,c=>match c with
  | .seq a b=>match d with
   | 0=>sbC r a
   | _=>sbC r b
  | c=>c
def bdO (f:Func):Code:=match f.body with
 | some c=>c
 | none=>.skip
theorem qx5:∀ (L:List Str),qa4 (L.map AV.str)=sts L
 | []=>rfl
 | a::r=>by simp only [List.map_cons,qa4,qx5 r];rfl
noncomputable def cdFF:Code:=sbC [1,1,1,1,1] (bdO Tryz.f184)
theorem zck {T:List (Entry Tryz.prog)} (s:Str) (L:List (Nat × Nat)) (hL:L.length≤1000000) (hr:∀ p,p∈L→p.1≤p.2∧p.2≤s.length) (W:List Str) (hW:L.map (qdp s)=W) :
  WpSr (ctx T) 0 none cdFF ((⟨[0,1,4,5,6,7,8,9,10,11,14,15,47,48,49],[.str s,.undef,.nilS,aSp L,.undef,.undef,.undef,.undef,.undef,.undef,.undef,.undef,.undef,.undef,.undef],[],65,⟨0,[[]]⟩⟩ : St)) (fun x s=>(x=.normal∨x=.ret)∧∃ vs,qad (ctx T) s [.tmp 4]=some vs∧∃ σ Φ,qar σ Φ (oneOr vs) (qcr W)∧FitH 0 σ Φ s.H ⟨0,[]⟩):=by
 simp only [cdFF,sbC,bdO,Tryz.f184]
 have hm:=fun H=>mkStrs (H:=H) (n:=L.length) hL
 repeat apply wq
 refine qa0 qa1 ?_
 simp [zS,lenSp,hm]
 repeat apply wq
 refine qa0 qa1 ?_
 simp [zS,lenSp]
 obtain ⟨F,hF⟩ : ∃ F:Nat→List Str,F=fun i=>(L.take i).map (qdp s):=⟨_,rfl⟩
 have hF0:F 0=[]:=by rw [hF];simp
 have hFl:∀ i,i≤L.length→(F i).length=i:=fun i hi=>by rw [hF];simp;omega
 have hFs:∀ (i:Nat) (h:i < L.length),F (i+1)=F i++[qdp s L[i]]:=fun i h=>by
  rw [hF]
  show (L.take (i+1)).map (qdp s)=_
  rw [List.take_succ_eq_append_getElem h,List.map_append];rfl
 have hFn:F L.length=W:=by rw [hF,← hW];simp
 refine qab (qb7 (fun i:Nat=>(⟨[0,1,4,5,6,7,8,9,10,11,14,15,47,48,49],[.str s,.undef,.nilS,.undef,.undef,.undef,.undef,.slc 0 0 L.length (.ex L.length),.undef,.undef,.undef,.undef,aSp L,.int .i64 (L.length:Nat),.int .i64 i],[],65,⟨1,[[(0,.cells (sts (F i)++bl5 (L.length - i)))]]⟩⟩ : St))
  (fun i=>i≤L.length) (fun i=>L.length - i) [(0,0)] [] 0 (Nat.zero_le _)
  ⟨rfl,rfl,rfl,by simp [qb1,qar,qay,qah,aSp],.keep1 (b:=0) (by rw [hF0];simp [Heap.get,getFs,getF,sts]) (by rw [qf7,qmj,qxj];rfl) rfl⟩ ?_)
 rintro i hi B hB
 repeat apply wq
 refine qa0 qa1 ?_
 simp [zS]
 repeat apply wq
 refine qb9 rfl (fun h=>?_) fun h=>?_
 ·simp at h
  refine qa9 ?_
  simp
  repeat apply wq
  refine qab ?_
  obtain ⟨r1,r2⟩:=hr L[i] (List.getElem_mem _)
  have hw:=fun H=>slW (H:=H) r1 r2
  have hlen:i < (sts (F i)++bl5 (L.length - i)).length:=by simp [sts,bl5,hFl i hi];omega
  have hset:(sts (F i)++bl5 (L.length - i)).set i (.str (qdp s ((L[i]).1,(L[i]).2)))=sts (F (i+1))++bl5 (L.length - (i+1)):=by
   have:=sts_set (X:=F i) (k:=L.length - (i+1)) (w:=qdp s L[i])
   rw [hFl i hi,← hFs i h] at this
   rw [show L.length - i=L.length - (i+1)+1 by omega]
   exact this
  have hla:=layS (v:=.str (qdp s ((L[i]).1,(L[i]).2))) hlen
  rw [hset] at hla
  generalize sts (F i)++bl5 (L.length - i)=C0 at *
  generalize hC1:sts (F (i+1))++bl5 (L.length - (i+1))=C1 at *
  repeat apply wq
  refine qa0 qa1 ?_
  simp [zS,atSp h]
  refine qa0 qa1 ?_
  simp [zS,hw,ixS h,hla]
  refine qa0 qa1 ?_
  simp [zS,qbu (show i≤1000000000 by omega)]
  refine hB _ (i+1) (by omega) (by omega) ⟨[(0,0)],[],rfl,rfl,rfl,by simp [qb1,qar,qay,qah,aSp],?_⟩
  rw [hC1]
  exact .keep1 (b:=0) (by simp [Heap.get,getFs,getF]) (by rw [← hC1,qf7,qmj,qxj];rfl) rfl
 ·simp at h
  have hie:i=L.length:=by omega
  subst hie
  have hz:sts (F L.length)++bl5 (L.length - L.length)=sts W:=by rw [Nat.sub_self,hFn];simp [bl5]
  have hlW:W.length=L.length:=by rw [← hW];simp
  rw [hz,← hlW]
  refine qaw ?_
  simp
  repeat apply wq
  refine qa0 qa1 ?_
  simp [zS]
  refine qa8 ?_
  simp [qad,oneOr]
  refine ⟨[],[(0,sts W)],?_,.froze (by simp) fun y hy=>?_⟩
  ·have hf:=qx5 W
   simp only [qar]
   refine .inl ⟨sts W,by simp [qc5],?_,by simp,(zct W).size⟩
   rw [hf,qiw (by simp [sts]),List.drop_zero,List.take_of_length_le (by simp [sts])]
  ·rw [List.mem_singleton] at hy
   subst hy
   exact ⟨_,by simp [Heap.get,getFs,getF],qaj (qmj W),qmj W⟩
theorem c184 {T:List (Entry Tryz.prog)} (s:Str) (hs:qcw s) (hl:s.length≤900000) (clo:FuncId) (hp:∀ c:UInt8,c.toNat < 128→CallAt (ctx T) clo [.int .i32 (c.toNat:Int)] ⟨0,[]⟩ (.bool (sp c)) ⟨0,[]⟩) :
  CallAt (ctx T) 184 [.str s,.func (.func clo) [] []] ⟨0,[]⟩ (qcr (qdq s)) ⟨0,[]⟩:=by
 have hm1:wr .i64 (0 - 1)=some (-1):=rfl
 refine qa2 (fn:=Tryz.f184) (s0:=⟨[0,1,4,5,6,7,8,9,10,11,14,15,47,48,49],[.str s,.func (.func clo) [] [],.undef,.undef,.undef,.undef,.undef,.undef,.undef,.undef,.undef,.undef,.undef,.undef,.undef],[],65,⟨0,[[]]⟩⟩) Tryz.func184 rfl rfl rfl ?_
 repeat apply wq
 refine qa0 qa1 ?_
 simp [zS]
 repeat apply wq
 refine qa0 qa1 ?_
 simp [zS,mkSp]
 repeat apply wq
 refine qa0 qa1 ?_
 simp [zS]
 repeat apply wq
 refine qa0 qa1 ?_
 simp [zS,rgV]
 refine qab (qb7 (fun x:Nat × List (Nat × Nat) × Int=>(⟨[0,1,4,5,6,7,8,9,10,11,14,15,47,48,49],[.str s,.func (.func clo) [] [],.nilS,spV x.2.1.length,.int .i64 x.2.2,.undef,.undef,.undef,.undef,.undef,.ptr 1 0,.undef,.undef,.undef,.undef],[],65,⟨2,[[(1,.iter s x.1),(0,.cells (spB x.2.1))]]⟩⟩ : St))
  (fun x=>SpOk s x.1 x.2.1 x.2.2) (fun x=>s.length - x.1) [(1,1),(0,0)] [] (0,[],-1) (sp_begin s)
  ⟨rfl,rfl,rfl,by simp [qb1,qar,qay,qah,qac,spV],qtm (by omega) (by simp [Heap.get,getFs,getF]) (by simp [Heap.get,getFs,getF,spB,qp2]) (qgy _)⟩ ?_)
 rintro ⟨i,L,st⟩ hk B hB
 have hi:=hk.le
 have hfew:=hk.few
 have hlo:=hk.lo
 simp only at hi hfew hlo hk
 by_cases h:i < s.length
 ·have hc:s[i].toNat < 128:=hs _ (List.getElem_mem _)
  have hbu:∀ a:Nat,qgv Tryz.prog 160 [(0,.int .i64 (a:Int)),(1,.int .i64 (i:Int))]=some (.agg [.int .i64 (a:Int),.int .i64 (i:Int)]):=fun a=>rfl
  have hcall:=(hp s[i] hc).lift (by simp [qac,qah]) ⟨2,[[(1,.iter s (i+1)),(0,.cells (spB L))]]⟩
  have stay:∀ (st':Int) (σ0:Unit),SpOk s (i+1) L st'→∀ s':St,Fit 0 [(1,1),(0,0)] [] s' ((⟨[0,1,4,5,6,7,8,9,10,11,14,15,47,48,49],[.str s,.func (.func clo) [] [],.nilS,spV L.length,.int .i64 st',.undef,.undef,.undef,.undef,.undef,.ptr 1 0,.undef,.undef,.undef,.undef],[],65,⟨2,[[(1,.iter s (i+1)),(0,.cells (spB L))]]⟩⟩ : St))→B s':=fun st' _ hok s' hf=>hB s' (i+1,L,st') (by simp only;omega) hok ⟨_,_,hf⟩
  repeat apply wq
  refine qa0 qa1 ?_
  simp [zS,nxV,nx_yes h hc]
  repeat apply wq
  refine qan rfl ?_
  refine qa9 ?_
  simp
  refine qab ?_
  rcases Bool.eq_false_or_eq_true (sp s[i]) with hsp | hsp
  ·rw [hsp] at hcall
   repeat apply wq
   refine qa0 qa1 ?_
   simp [zS]
   repeat apply wq
   refine qa0 (qbc [⟨clo,_,_,_,_,hcall⟩]) ?_
   simp [zS,qce]
   refine qan rfl ?_
   rcases hk.cur with ⟨h0,_⟩ | ⟨a,ha,hai,_⟩
   ·have hge:¬ (0:Int)≤st:=by omega
    repeat apply wq
    refine qa0 qa1 ?_
    simp [zS,hge]
    refine qam rfl ?_
    refine qa9 ?_
    simp
    exact stay st () (za3 h hk hsp h0) _ ⟨rfl,rfl,rfl,by simp [qb1,qar,qay,qah,qac,qri],qtm (by omega) (by simp [Heap.get,getFs,getF]) (by simp [Heap.get,getFs,getF]) (qgy _)⟩
   ·subst ha
    have hge:(0:Int)≤(a:Int):=by omega
    obtain ⟨b,m,f,hb1,happ,hg1,hg2⟩:=app_sp (L:=L) (p:=(a,i)) (I:=.iter s (i+1)) (by omega)
    have hxo:=xor_not (a:=a) (by omega)
    obtain ⟨c,e1,e2⟩:=qqx (L.length+1) b
    simp only [e1] at happ
    repeat apply wq
    refine qa0 qa1 ?_
    simp [zS,hge]
    refine qan (by simp [qbk,St.get]) ?_
    repeat apply wq
    refine qa0 qa1 ?_
    simp [zS,hbu,happ]
    refine qa0 qa1 ?_
    simp [zS,hxo]
    refine hB _ (i+1,L++[(a,i)],-(a:Int) - 1) (by simp only;omega) (za2 h hk hsp (by omega)) ⟨[(1,1),(b,0)],[],rfl,rfl,rfl,?_,qtm hb1 hg1 hg2 (qgy _)⟩
    simp only [List.length_append,List.length_cons,List.length_nil,Nat.zero_add,e2]
    simp [qb1,qar,qay,qah,qac]
    omega
  ·rw [hsp] at hcall
   repeat apply wq
   refine qa0 qa1 ?_
   simp [zS]
   repeat apply wq
   refine qa0 (qbc [⟨clo,_,_,_,_,hcall⟩]) ?_
   simp [zS,qce]
   refine qam rfl ?_
   rcases hk.cur with ⟨h0,_⟩ | ⟨a,ha,hai,_⟩
   ·repeat apply wq
    refine qa0 qa1 ?_
    simp [zS,h0]
    refine qan rfl ?_
    refine qa0 qa1 ?_
    simp [zS]
    exact stay i () (sp_char0 h hk hsp h0) _ ⟨rfl,rfl,rfl,by simp [qb1,qar,qay,qah,qac,qri],qtm (by omega) (by simp [Heap.get,getFs,getF]) (by simp [Heap.get,getFs,getF]) (qgy _)⟩
   ·subst ha
    have hge:¬ (a:Int) < 0:=by omega
    repeat apply wq
    refine qa0 qa1 ?_
    simp [zS,hge]
    refine qam (by simp [qbk,St.get,hge]) ?_
    refine qa9 ?_
    simp
    exact stay a () (sp_char1 h hk hsp) _ ⟨rfl,rfl,rfl,by simp [qb1,qar,qay,qah,qac,qri],qtm (by omega) (by simp [Heap.get,getFs,getF]) (by simp [Heap.get,getFs,getF]) (qgy _)⟩
 ·have hie:i=s.length:=by omega
  subst hie
  have hbu:∀ a:Nat,qgv Tryz.prog 160 [(0,.int .i64 (a:Int)),(1,.int .i64 (s.length:Int))]=some (.agg [.int .i64 (a:Int),.int .i64 (s.length:Int)]):=fun a=>rfl
  repeat apply wq
  refine qa0 qa1 ?_
  simp [zS,nxV,nx_no h]
  repeat apply wq
  refine qam rfl ?_
  refine qaw ?_
  simp
  rcases hk.cur with ⟨h0,_⟩ | ⟨a,ha,hai,_⟩
  ·have hge:¬ (0:Int)≤st:=by omega
   repeat apply wq
   refine qa0 qa1 ?_
   simp [zS,hge]
   refine qam (by simp [qbk,St.get,hge]) ?_
   refine qa9 ?_
   simp only [qaf]
   refine WpSr.fit [] [(0,spB L)] (s':=(⟨[0,1,4,5,6,7,8,9,10,11,14,15,47,48,49],[.str s,.undef,.nilS,aSp L,.undef,.undef,.undef,.undef,.undef,.undef,.undef,.undef,.undef,.undef,.undef],[],65,⟨0,[[]]⟩⟩ : St)) ⟨rfl,rfl,rfl,by simp [qb1,qar,qah];exact fit_spV (by simp [qc5]),?_⟩ (zck s L (by omega) hk.rng _ (sp_end0 hk h0))
   exact zcd (by simp [Heap.get,getFs,getF]) (qgy _)
  ·subst ha
   obtain ⟨hw,hal⟩:=sp_end1 hk
   have hge:(0:Int)≤(a:Int):=by omega
   obtain ⟨b,m,f,hb1,happ,hg1,hg2⟩:=app_sp (L:=L) (p:=(a,s.length)) (I:=.iter s s.length) (by omega)
   obtain ⟨c,e1,e2⟩:=qqx (L.length+1) b
   simp only [e1] at happ
   repeat apply wq
   refine qa0 qa1 ?_
   simp [zS,hge]
   refine qan (by simp [qbk,St.get]) ?_
   refine qa0 qa1 ?_
   simp [zS,hbu,happ]
   have hfv:qar [] [(b,spB (L++[(a,s.length)]))] (.slc b 0 (L.length+1) c) (aSp (L++[(a,s.length)])):=by
    simp only [aSp,qar]
    refine .inl ⟨_,by simp [qc5];rfl,?_,by simp,(el_spn _).size⟩
    have:=qua (L++[(a,s.length)])
    rw [qx6]
    simpa using this
   refine WpSr.fit [] [(b,spB (L++[(a,s.length)]))] (s':=(⟨[0,1,4,5,6,7,8,9,10,11,14,15,47,48,49],[.str s,.undef,.nilS,aSp (L++[(a,s.length)]),.undef,.undef,.undef,.undef,.undef,.undef,.undef,.undef,.undef,.undef,.undef],[],65,⟨0,[[]]⟩⟩ : St)) ⟨rfl,rfl,rfl,by simp [qb1,qar,qah] at hfv ⊢;exact hfv,?_⟩ (zck s (L++[(a,s.length)]) (by simp;omega) (fun p hp=>?_) _ hw)
   ·exact zcd hg2 (qgy _)
   ·rcases List.mem_append.1 hp with hp | hp
    ·exact hk.rng p hp
    ·simp at hp;subst hp;exact ⟨by simp only;omega,by simp only;omega⟩
theorem c152 {T:List (Entry Tryz.prog)} (s:Str) (hs:qcw s) (hl:s.length≤900000):CallAt (ctx T) 152 [.str s] ⟨0,[]⟩ (qcr (qdq s)) ⟨0,[]⟩:=by
 have hc:=(c184 (T:=T) s hs hl 185 fun c h=>c185 (T:=[e150]) rfl c h).lift (by simp [qac,qah]) ⟨0,[[]]⟩
 generalize qdq s=W at *
 refine qa2 (fn:=Tryz.f152) (s0:=⟨[0,2],[.str s,.undef],[],5,⟨0,[[]]⟩⟩) Tryz.func152 rfl rfl rfl ?_
 repeat apply wq
 refine qa0 qa1 ?_
 simp [zS]
 repeat apply wq
 refine qa0 (qbc [⟨184,_,_,_,_,hc⟩]) ?_
 simp [zS,qce]
 refine qa8 ?_
 simp [qad,Tryz.f152,oneOr,qaf,qa6]
 first | exact ⟨[],[],FitH.empty⟩ | exact qa5 rfl (by rfl)
end Go.Proofs.YtocnpnnplllneaaGreatDoor