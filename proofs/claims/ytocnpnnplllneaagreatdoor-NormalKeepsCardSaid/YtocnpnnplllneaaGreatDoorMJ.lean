/- A region that draws its order, evaluated without binders: the walk's proofs stay small. No condition. -/
import Derived.Test.YtocnpnnplllneaaGreatDoorMI
import Derived.Test.YtocnpnnplllneaaGreatDoorMH
namespace Go.Proofs.YtocnpnnplllneaaGreatDoor
set_option linter.unusedSimpArgs false
set_option linter.unusedVariables false
open Go Go.RowKit
set_option maxRecDepth 100000
theorem c122a {T:List (Entry Tryz.prog)} (W x:Str) (hW:qcw W) (hl:W.length≤100000) (hx:x.length≤1000000000):CallAt (ctx T) 122 [.str W,.str x] ⟨0,[]⟩ (.bool (inW W x)) ⟨0,[]⟩:=
 c122 (T:=[e149,e150]) rfl rfl W x hl hx (c152 (T:=[]) W hW (by omega)) (c151 (T:=[e183]) rfl _ x (by have:=qxn W;omega))
theorem inj_wInA (x y:Str × Str) (h:[AV.str x.1,AV.str x.2]=[AV.str y.1,AV.str y.2]):x=y:=by
 simp at h;exact Prod.ext h.1 h.2
noncomputable def e122a:Entry Tryz.prog:=mkE 122 [[],[]] (fun x:Str × Str=>[.str x.1,.str x.2]) (fun x=>qcw x.1∧x.1.length≤100000∧x.2.length≤1000000000) (fun x=>.bool (inW x.1 x.2)) fun x hx=>c122a (T:=[]) x.1 x.2 hx.1 hx.2.1 hx.2.2
theorem k122a {T:List (Entry Tryz.prog)} (hT:qai 122 T=some e122a.g) {W x:Str} (hW:qcw W) (hl:W.length≤100000) (hx:x.length≤1000000000) (H:Heap):qbb (ctx T) (.fn 122) [.str W,.str x] H=some (.bool (inW W x),H):=
 qal hT inj_wInA (W,x) ⟨hW,hl,hx⟩ rfl (by simp)
section
variable {ρ ρ':Place} {H H':Heap} {w w':World} {b:Nat} {k k':Blk}
end
theorem qdo {σ:List (Nat × Nat)} {Φ:List (Nat × List AV)}:∀ {a a' b b':List AV},qb1 σ Φ a a'→qb1 σ Φ b b'→qb1 σ Φ (a++b) (a'++b')
 | [],[],_,_,_,h=>h
 | x::a,y::a',b,b',h,k=>by
  simp only [List.cons_append,qb1] at h ⊢
  exact ⟨h.1,qdo h.2 k⟩
 | [],_::_,_,_,h,_=>by simp [qb1] at h
 | _::_,[],_,_,h,_=>by simp [qb1] at h
theorem qwb (τ:Nat→Nat):∀ (a b:List AV),qfh τ (a++b)=qfh τ a++qfh τ b
 | [],b=>rfl
 | x::a,b=>by simp [qfh,qwb τ a b]
section
variable {C:Ctx} {f:FuncId} {args:List AV} {v:AV} {H:Heap} {bt nb n n':Nat} {cap cap':Cap} {pre post cs cs':List AV}
end
@[simp] theorem szT74:qbw Tryz.prog 74=some 1:=rfl
@[simp] theorem agT74:qgd Tryz.prog 74=some false:=rfl
@[simp] theorem byT74:qc6 Tryz.prog 74=some 24:=rfl
@[simp] theorem alT74 (H:Heap):alV Tryz.prog H 74=some (.ptr H.n 0,H.new (.cells [.nilS])):=rfl
@[simp] theorem zeT74:qbn Tryz.prog 74=some (.nilS):=rfl
attribute [simp] Tryz.underlying74
@[simp 500] theorem rvF74 (H:Heap) (cs:List AV) (o:Nat):qaq Tryz.prog H 74 (.fptr cs o)=qc7 cs o:=rfl
@[simp 500] theorem rvP74 (H:Heap) (b o:Nat):qaq Tryz.prog H 74 (.ptr b o)=(H.get b).bind fun k=>k.rd.bind fun cs=>qc7 cs o:=rfl
@[simp] theorem slz74 (sz:Nat) (e:AV) (r:List AV):qd9 Tryz.prog .eql 74 (.fslc sz (e::r)) .nilS=some (.bool false):=rfl
@[simp] theorem sln74 (sz:Nat) (e:AV) (r:List AV):qd9 Tryz.prog .neq 74 (.fslc sz (e::r)) .nilS=some (.bool true):=rfl
@[simp] theorem slze74:qd9 Tryz.prog .eql 74 .eslc .nilS=some (.bool false):=rfl
@[simp] theorem slzz74:qd9 Tryz.prog .eql 74 .nilS .nilS=some (.bool true):=rfl
@[simp] theorem szT86:qbw Tryz.prog 86=some 1:=rfl
@[simp] theorem agT86:qgd Tryz.prog 86=some false:=rfl
@[simp] theorem byT86:qc6 Tryz.prog 86=some 8:=rfl
@[simp] theorem alT86 (H:Heap):alV Tryz.prog H 86=some (.ptr H.n 0,H.new (.cells [.nilP])):=rfl
@[simp] theorem zeT86:qbn Tryz.prog 86=some (.nilP):=rfl
attribute [simp] Tryz.underlying86
@[simp 500] theorem rvF86 (H:Heap) (cs:List AV) (o:Nat):qaq Tryz.prog H 86 (.fptr cs o)=qc7 cs o:=rfl
@[simp 500] theorem rvP86 (H:Heap) (b o:Nat):qaq Tryz.prog H 86 (.ptr b o)=(H.get b).bind fun k=>k.rd.bind fun cs=>qc7 cs o:=rfl
@[simp] theorem szT88:qbw Tryz.prog 88=some 2:=rfl
@[simp] theorem agT88:qgd Tryz.prog 88=some true:=rfl
@[simp] theorem byT88:qc6 Tryz.prog 88=some 32:=rfl
@[simp] theorem alT88 (H:Heap):alV Tryz.prog H 88=some (.ptr H.n 0,H.new (.obj 88 [.nilP,.nilS])):=rfl
@[simp] theorem zeT88:qbn Tryz.prog 88=some (.agg [.nilP,.nilS]):=rfl
attribute [simp] Tryz.underlying88
@[simp 500] theorem rvF88 (H:Heap) (cs:List AV) (o:Nat):qaq Tryz.prog H 88 (.fptr cs o)=(qek o 2 cs).bind fun cs=>some (.agg cs):=rfl
@[simp 500] theorem rvP88 (H:Heap) (b o:Nat):qaq Tryz.prog H 88 (.ptr b o)=(readCells H b o 2).bind fun cs=>some (.agg cs):=rfl
@[simp] theorem fa88_0 (x:AV):qbl Tryz.prog 88 x 0=(match x with | .ptr b o=>some (.ptr b (o+0)) | .fptr cs o=>some (.fptr cs (o+0)) | _=>none):=rfl
@[simp] theorem fd88_0 (cs:List AV):qd7 Tryz.prog 88 (.agg cs) 0=qc7 cs 0:=rfl
@[simp] theorem fa88_1 (x:AV):qbl Tryz.prog 88 x 1=(match x with | .ptr b o=>some (.ptr b (o+1)) | .fptr cs o=>some (.fptr cs (o+1)) | _=>none):=rfl
@[simp] theorem fd88_1 (cs:List AV):qd7 Tryz.prog 88 (.agg cs) 1=qc7 cs 1:=rfl
theorem Sim.perm {ρ:Place} {H H2:Heap} {w:World} (h:Sim ρ H w) (n:H2.n=H.n) (p:H2.ents.Perm H.ents):Sim ρ H2 w where
 base:=h.base
 below:=h.below
 os:=h.os
 tape:=h.tape
 output:=h.output
 dom:=fun b hb=>h.dom b (n ▸ hb)
 nodup:=(p.map _).nodup_iff.2 h.nodup
 live:=fun e he=>h.live e (p.mem_iff.1 he)
 inj:=fun e e' he he'=>h.inj e e' (p.mem_iff.1 he) (p.mem_iff.1 he')
theorem Step.perm {ρ ρ':Place} {H H2 H' H2':Heap} {w w':World} (h:Step ρ H w ρ' H' w') (n:H2.n=H.n) (n':H2'.n=H'.n) (p:H2.ents.Perm H.ents) (p':H2'.ents.Perm H'.ents):Step ρ H2 w ρ' H2' w' where
 le:=h.le
 size:=h.size
 keeps:=fun k hk hn=>h.keeps k hk fun e he=>hn e (p.mem_iff.2 he)
 rows:=fun e' he' l' hl'=>by
  rcases h.rows e' (p'.mem_iff.1 he') l' hl' with ⟨e,he,x⟩ | x
  ·exact .inl ⟨e,p.mem_iff.2 he,x⟩
  ·exact .inr x
 num:=by rw [n,n'];exact h.num
 low:=fun b hb=>h.low b (n ▸ hb)
 cold:=fun k hk=>by
  rcases h.cold k hk with x | ⟨e,he,x⟩ | x
  ·exact .inl x
  ·exact .inr (.inl ⟨e,p.mem_iff.2 he,x⟩)
  ·exact .inr (.inr x)
theorem CallAt.perm {C:Ctx} {f:FuncId} {args:List AV} {H H2 H' H2':Heap} {v:AV} (h:CallAt C f args H v H') (n:H2.n=H.n) (n':H2'.n=H'.n) (p:H2.ents.Perm H.ents) (p':H2'.ents.Perm H'.ents):CallAt C f args H2 v H2':=by
 intro ρ w xs sm hx
 have sm':=sm.perm n.symm p.symm
 rcases h ρ w xs sm' hx with ⟨x,ρ',w',h0,h1,h2,h3⟩ | ⟨g,ys,h0,h1⟩
 ·exact .inl ⟨x,ρ',w',h0,h1,h2.perm n' p',h3.perm n n' p p'⟩
 ·refine .inr ⟨g,ys,h0,h1.mono ?_⟩
  rintro e w' ⟨x,ρ',rfl,m1,m2,m3⟩
  exact ⟨x,ρ',rfl,m1,m2.perm n' p',m3.perm n n' p p'⟩
theorem qwh {x:Nat × Blk} {f B g:List (Nat × Blk)}:(f++(x::(B++g))).Perm (x::(B++(f++g))):=by
 refine (List.perm_append_comm (l₁:=f) (l₂:=x::(B++g))).trans ?_
 show (x::((B++g)++f)).Perm _
 refine List.Perm.cons _ ?_
 rw [List.append_assoc]
 exact List.Perm.append_left _ List.perm_append_comm
theorem CallAt.top {C:Ctx} {f:FuncId} {args:List AV} {v:AV} {m m':Nat} {x x':Nat × Blk} {fr B B' g g':List (Nat × Blk)} (h:CallAt C f args ⟨m,[x::(B++(fr++g))]⟩ v ⟨m',[x'::(B'++(fr++g'))]⟩):CallAt C f args ⟨m,[fr,x::(B++g)]⟩ v ⟨m',[fr,x'::(B'++g')]⟩:=
 h.perm rfl rfl (by simpa [Heap.ents] using qwh) (by simpa [Heap.ents] using qwh)
def idn (m:Nat):List (Nat × Nat):=(List.range m).map fun i=>(i,i)
theorem qe1 {m i:Nat} (h:i < m):(i,i)∈idn m:=List.mem_map.2 ⟨i,by simpa using h,rfl⟩
theorem qwx:∀ {σ:List (Nat × Nat)} {i j:Nat},(σ.map (·.1)).Nodup→(i,j)∈σ→qay i σ=some j
 | [],_,_,_,h=>by cases h
 | x::r,i,j,nd,h=>by
  rw [List.map_cons,List.nodup_cons] at nd
  unfold qay
  rcases List.mem_cons.1 h with rfl | h
  ·simp
  ·have hne:¬ x.1=i:=fun e=>nd.1 (List.mem_map.2 ⟨_,h,e.symm⟩)
   rw [if_neg hne]
   exact qwx nd.2 h
theorem qm4 (m:Nat):((idn m).map (·.1)).Nodup:=by
 have:(idn m).map (·.1)=List.range m:=by simp [idn,Function.comp_def]
 rw [this];exact List.nodup_range
theorem qi8 (m:Nat):((idn m).map (·.2)).Nodup:=by
 have:(idn m).map (·.2)=List.range m:=by simp [idn,Function.comp_def]
 rw [this];exact List.nodup_range
theorem qcf {m i:Nat} (h:i < m):qay i (idn m)=some i:=qwx (qm4 m) (qe1 h)
def Idl (m:Nat) (σ:List (Nat × Nat)):Prop:=∀ i,i < m→qay i σ=some i
theorem qjs (m:Nat):Idl m (idn m):=fun i h=>qcf h
theorem qms {m k k':Nat} (h:m≤k):Idl m ((k,k')::idn m):=fun i hi=>by
 have:¬ k=i:=by omega
 simp [qay,this,qcf hi]
def SelfB (m:Nat) (k:Blk):Prop:=∀ σ,Idl m σ→qh6 σ [] k k
theorem SelfB.mono {m m':Nat} {k:Blk} (h:SelfB m k) (hm:m≤m'):SelfB m' k:=fun σ hσ=>h σ fun i hi=>hσ i (by omega)
theorem qkb {m:Nat} {cs:List AV} (h:qac cs=true):SelfB m (.cells cs):=fun σ _=>qaj h
structure Bs where
 k:Nat
 out:Str
def bV (b:Bs):AV:=match b.out with
 | []=>.nilS
 | _::_=>.slc b.k 0 b.out.length (.rest 1)
def bF (b:Bs):List (Nat × Blk):=match b.out with
 | []=>[]
 | _::_=>[(b.k,.buf 5 b.out.length (qag b.out))]
def upd (m:Nat) (b:Bs) (s:Str):Bs:=match s with
 | []=>b
 | _::_=>⟨m,b.out++s⟩
theorem qcl:∀ (s:Str),(qag s).length=s.length
 | []=>rfl
 | c::r=>by simp [qag,qcl r]
theorem qov:∀ (s t:Str),qag (s++t)=qag s++qag t
 | [],t=>rfl
 | c::r,t=>by simp [qag,qov r t]
theorem qlp:∀ (s:Str),qac (qag s)=true
 | []=>rfl
 | c::r=>by simp [qag,qac,qah,qlp r]
theorem qip:∀ (s:Str),allSingle (qag s)=true
 | []=>rfl
 | c::r=>by simp [qag,allSingle,AV.single,qip r]
theorem bF_mem {b:Bs} {e:Nat × Blk} (h:e∈bF b):e=(b.k,.buf 5 b.out.length (qag b.out))∧b.out≠[]:=by
 obtain ⟨k,out⟩:=b
 cases out with
 | nil=>cases h
 | cons c r=>exact ⟨by simpa [bF] using h,by simp⟩
theorem zdl {b:Bs} (h:b.out≠[]):bF b=[(b.k,.buf 5 b.out.length (qag b.out))]:=by
 obtain ⟨k,out⟩:=b
 cases out with
 | nil=>exact absurd rfl h
 | cons c r=>rfl
theorem bV_ne {b:Bs} (h:b.out≠[]):bV b=.slc b.k 0 b.out.length (.rest 1):=by
 obtain ⟨k,out⟩:=b
 cases out with
 | nil=>exact absurd rfl h
 | cons c r=>rfl
theorem fitWr {m m':Nat} {H:Heap} {σ:List (Nat × Nat)} {wb kc k' fz:Nat} {O O':Blk} {out:Str} {g:List (Nat × Blk)} (hσ:(σ=idn m∧kc=k'∧(out≠[]→kc < m))∨(σ=(kc,m)::idn m∧k'=m∧m≤kc)) (hm:m < m')
  (lw:wb < m) (lg:∀ e,e∈g→e.1 < m) (nd:(wb::g.map (·.1)).Nodup) (hk:out≠[]→k' ∉ wb::g.map (·.1)) (hO:H.get wb=some O) (fO:qh6 σ [] O O') (hb:out≠[]→H.get kc=some (.buf 5 fz (qag out))) (hfz:fz≤out.length)
  (hg:∀ e,e∈g→H.get e.1=some e.2∧SelfB m e.2):FitH m σ [] H ⟨m',[(wb,O')::(bF ⟨k',out⟩++g)]⟩:=by
 have idl:Idl m σ:=by
  rcases hσ with ⟨rfl,_⟩ | ⟨rfl,_,h⟩
  ·exact qjs m
  ·exact qms h
 have mem:∀ i,i < m→(i,i)∈σ:=fun i hi=>by
  rcases hσ with ⟨rfl,_⟩ | ⟨rfl,_,h⟩
  ·exact qe1 hi
  ·exact List.mem_cons_of_mem _ (qe1 hi)
 have memk:out≠[]→(kc,k')∈σ:=fun hne=>by
  rcases hσ with ⟨rfl,rfl,h⟩ | ⟨rfl,rfl,h⟩
  ·exact qe1 (h hne)
  ·exact List.mem_cons_self
 have sub:∀ x,x∈σ→x.2 < m+1∧(x.1 < m∨x.2 < m→x.1=x.2):=fun x hx=>by
  have key:x∈idn m→x.2 < m+1∧(x.1 < m∨x.2 < m→x.1=x.2):=fun h=>by
   obtain ⟨i,hi,rfl⟩:=List.mem_map.1 h
   have:i < m:=by simpa using hi
   exact ⟨by show i < m+1;omega,fun _=>rfl⟩
  rcases hσ with ⟨rfl,_⟩ | ⟨rfl,rfl,h⟩
  ·exact key hx
  ·rcases List.mem_cons.1 hx with rfl | hx
   ·exact ⟨by simp,fun h=>by simp at h;omega⟩
   ·exact key hx
 refine ⟨?_,?_,?_,fun x hx=>by have:=(sub x hx).1;show x.2 < m';omega,fun x hx h=>(sub x hx).2 (.inr h),by show m≤m';omega,?_,fun x h=>by cases h⟩
 ·rcases hσ with ⟨rfl,_⟩ | ⟨rfl,_,h⟩
  ·simpa using qm4 m
  ·simp only [List.map_nil,List.append_nil,List.map_cons,List.nodup_cons]
   refine ⟨?_,qm4 m⟩
   simp [idn];omega
 ·rcases hσ with ⟨rfl,_⟩ | ⟨rfl,_,h⟩
  ·exact qi8 m
  ·simp only [List.map_cons,List.nodup_cons]
   refine ⟨?_,qi8 m⟩
   simp [idn]
 ·simp only [Heap.ents,List.flatten_cons,List.flatten_nil,List.append_nil,List.map_cons,List.map_append]
  rw [List.nodup_cons] at nd ⊢
  by_cases hne:out=[]
  ·subst hne
   simpa [bF] using nd
  ·have h1:=hk hne
   rw [zdl (b:=⟨k',out⟩) hne]
   simp only [List.mem_cons,not_or] at h1
   refine ⟨?_,?_⟩
   ·simp only [List.map_cons,List.map_nil,List.cons_append,List.nil_append,List.mem_cons,not_or]
    exact ⟨fun e=>h1.1 e.symm,nd.1⟩
   ·simp only [List.map_cons,List.map_nil,List.cons_append,List.nil_append,List.nodup_cons]
    exact ⟨h1.2,nd.2⟩
 ·intro e he
  simp only [Heap.ents,List.flatten_cons,List.flatten_nil,List.append_nil,List.mem_cons,List.mem_append] at he
  rcases he with rfl | he | he
  ·exact ⟨wb,O,mem wb lw,hO,fO⟩
  ·obtain ⟨rfl,hne⟩:=bF_mem he
   exact ⟨kc,_,memk hne,hb hne,rfl,hfz,by show out.length≤(qag out).length;rw [qcl];exact Nat.le_refl _,qaj (qlp _)⟩
  ·obtain ⟨h1,h2⟩:=hg e he
   exact ⟨e.1,e.2,mem _ (lg e he),h1,h2 σ idl⟩
mutual
theorem qke:∀ (n:Nat) (v:AV),qah v=true→refs n v=[]
 | 0,_,_=>rfl
 | n+1,v,h=>by
  cases v with
  | func fn a c=>
   simp only [qah,Bool.and_eq_true] at h
   simp only [refs,qdf n a h.1,qdf n c h.2,List.append_nil]
  | iface t v=>
   simp only [qah] at h
   simp only [refs,qke n v h]
  | agg cs=>
   simp only [qah] at h
   simp only [refs,qdf n cs h]
  | tup cs=>
   simp only [qah] at h
   simp only [refs,qdf n cs h]
  | _=>first | rfl | (simp [qah] at h)
theorem qdf:∀ (n:Nat) (l:List AV),qac l=true→l.flatMap (refs n)=[]
 | _,[],_=>rfl
 | n,v::r,h=>by
  simp only [qac,Bool.and_eq_true] at h
  rw [List.flatMap_cons,qke n v h.1,qdf n r h.2]
  rfl
end
def VE (pb:Nat) (pre:List AV) (k sz:Nat) (es:List AV) (post:List AV) (g:List (Nat × Blk)):List (Nat × Blk):=(pb,.cells (pre++qdk k sz es::post))::(qes k es++g)
structure Eok (m pb:Nat) (pre:List AV) (k sz:Nat) (es:List AV) (post:List AV) (g:List (Nat × Blk)):Prop where
 lp:pb < m
 lk:k < m∧k ∉ pb::g.map (·.1)
 lg:∀ e,e∈g→e.1 < m
 nd:(pb::g.map (·.1)).Nodup
 sg:∀ e,e∈g→SelfB m e.2
 sp:∀ σ,Idl m σ→qb1 σ [] pre pre
 sq:∀ σ,Idl m σ→qb1 σ [] post post
 el:Elems sz es
section
variable {m n pb k sz:Nat} {pre post es:List AV} {g f:List (Nat × Blk)}
theorem VE_p:getF pb (VE pb pre k sz es post g)=some (.cells (pre++qdk k sz es::post)):=by simp [VE,getF]
theorem zc3 {b:Nat}:∀ {l:List (Nat × Blk)},b ∉ l.map (·.1)→getF b l=none
 | [],_=>rfl
 | e::r,h=>by
  simp only [List.map_cons,List.mem_cons,not_or] at h
  unfold getF
  rw [qao fun x=>h.1 x.symm]
  exact zc3 h.2
theorem Eok.k_p (h:Eok m pb pre k sz es post g):Nat.beq pb k=false:=qao fun e=>h.lk.2 (by simp [e])
theorem VE_k (h:Eok m pb pre k sz es post g) (hne:es≠[]):getF k (VE pb pre k sz es post g)=some (.cells (qa4 es)):=by
 unfold VE getF
 rw [h.k_p,qc4 hne]
 simp [getF]
theorem qpb {l:List (Nat × Blk)} (nd:(l.map (·.1)).Nodup) {e:Nat × Blk} (he:e∈l):getF e.1 l=some e.2:=by
 have:=qf2 (fs:=[l]) (b:=e.1) (k:=e.2) (by simpa using nd) (by simpa using he)
 simp only [getFs] at this
 revert this
 cases getF e.1 l with
 | none=>intro h;cases h
 | some x=>intro h;exact h
theorem drop_E (h:Eok m pb pre k sz es post g) (hf:∀ i,i < m→getF i f=none):Heap.drop ⟨n,[f,VE pb pre k sz es post g]⟩ k=⟨n,[f,(pb,.cells (pre++qdk k sz es::post))::g]⟩:=by
 have h1:getF k f=none:=hf k h.lk.1
 have h2:=h.lk.2
 simp only [List.mem_cons,not_or] at h2
 unfold Heap.drop
 simp only
 unfold qdz
 rw [h1]
 simp only
 unfold qdz
 unfold VE getF
 rw [h.k_p]
 cases es with
 | nil=>
  simp only [qes,List.nil_append]
  rw [zc3 h2.2]
  simp [qdz]
 | cons y r=>
  rw [qc4 (by simp)]
  simp [getF,killF,h.k_p]
theorem app_E {P:Program} {elem:TypeId} {by_:Nat} {z:AV} (hsz:qbw P elem=some sz) (hby:qc6 P elem=some by_) (hz:qbn P elem=some z) (hzl:z.cells.length=sz) (hb0:by_≠0) (h:Eok m pb pre k sz es post g) {t:Nat} {e:AV} (hel:e.cells.length=sz) (hsg:allSingle e.cells=true)
  (hf:∀ i,i < m→getF i f=none) (ht:getF t f=some (.cells e.cells)) (hl:(es.length+1) * by_≤17592186044416) (hrow:∀ cs,qp3 P elem cs=.cells cs) :
  qbz P ⟨n,[f,VE pb pre k sz es post g]⟩ elem (qdk k sz es) (.slc t 0 1 (.ex 1)) =
   some (.slc n 0 (es.length+1) (.rest sz),⟨n+1,[(n,.cells (qa4 (es++[e])))::f,(pb,.cells (pre++qdk k sz es::post))::g]⟩):=by
 have hd:=drop_E (n:=n) h hf
 have hsub:qek 0 (1 * sz) e.cells=some e.cells:=by
  have:=qcz e.cells
  rw [hel] at this
  rw [Nat.one_mul]
  unfold qek;rw [List.drop_zero];exact this
 have:=qgk (P:=P) (H:=⟨n,[f,VE pb pre k sz es post g]⟩) (elem:=elem) (b:=k) (n:=0) (es:=es) (x:=.slc t 0 1 (.ex 1)) (cs:=e.cells) hsz hby hz hzl h.el.sz0 hb0 rfl
  (by simp [qb4,readCells,Heap.get,getFs,ht,hsub];simpa using hsub) (by simpa using hel) hsg h.el (by simpa using hl)
  (fun hne=>by
   simp only [Heap.get,getFs]
   rw [hf k h.lk.1,VE_k h hne])
  (fun he=>by
   subst he
   rw [hd]
   rfl) hrow
 rw [hd] at this
 have e1:qa4 (es++[e])=qa4 es++e.cells:=by rw [qbm];simp [qa4]
 rw [e1]
 simpa [Heap.new,pushF] using this
theorem prom_E (hp:pb < m) {c:Nat} {row vrow:List AV} (hc:m≤c) (hf:∀ i,i < m→getF i f=none) (hr:qac row=true) :
  qct pb [c] [] [(c,.cells row)::f,(pb,.cells vrow)::g]=[f,(c,.cells row)::(pb,.cells vrow)::g]:=by
 have hcp:Nat.beq c pb=false:=qao (by omega)
 have g1:getF pb f=none:=hf pb hp
 have r1:qfc 100000 [c] ((c,.cells row)::f) []=([(c,.cells row)],f):=by
  have hk:qp4 (.cells row)=[]:=qdf 4 _ hr
  show qfc (Nat.succ (Nat.succ 99998)) [c] ((c,.cells row)::f) []=_
  unfold qfc
  simp only [getF,Nat.beq_refl,hk,List.nil_append,killF]
  unfold qfc
  rfl
 have e1:qnh [((c,.cells row):Nat × Blk)]++[c]=[c]:=by
  have hk:qp4 (.cells row)=[]:=qdf 4 _ hr
  simp [qnh,hk]
 have n1:getF pb ((c,Blk.cells row)::f)=none:=by simp [getF,hcp,g1]
 unfold qct
 rw [n1]
 simp only [r1,e1]
 unfold qct
 simp [getF]
theorem fit_E {c:Nat} {H:Heap} {es' cs0:List AV} (h:Eok m pb pre k sz es post g) (hc:m≤c) (hne:es'≠[]) (hcs:∀ σ,qb1 σ [] cs0 (qa4 es')) (hp:H.get pb=some (.cells (pre++.slc c 0 es'.length (.rest sz)::post))) (hk:H.get c=some (.cells cs0))
  (hg:∀ e,e∈g→H.get e.1=some e.2):FitH m ((c,m)::idn m) [] H ⟨m+1,[VE pb pre m sz es' post g]⟩:=by
 have idl:=qms (m:=m) (k:=c) (k':=m) hc
 have nd:=h.nd
 rw [List.nodup_cons] at nd
 refine ⟨?_,?_,?_,?_,?_,by show m≤m+1;omega,?_,fun x h=>by cases h⟩
 ·simp only [List.map_nil,List.append_nil,List.map_cons,List.nodup_cons]
  refine ⟨?_,qm4 m⟩
  simp [idn];omega
 ·simp only [List.map_cons,List.nodup_cons]
  refine ⟨?_,qi8 m⟩
  simp [idn]
 ·simp only [Heap.ents,List.flatten_cons,List.flatten_nil,List.append_nil,VE,qc4 hne,List.map_cons,List.map_append,List.map_nil,List.cons_append,List.nil_append,List.nodup_cons,List.mem_cons,not_or]
  refine ⟨⟨by have:=h.lp;omega,nd.1⟩,?_,nd.2⟩
  intro hx
  obtain ⟨e,he,hx⟩:=List.mem_map.1 hx
  have:=h.lg e he;omega
 ·intro x hx
  rcases List.mem_cons.1 hx with rfl | hx
  ·exact Nat.lt_succ_self m
  ·obtain ⟨i,hi,rfl⟩:=List.mem_map.1 hx
   have:i < m:=by simpa using hi
   show i < m+1;omega
 ·intro x hx hlt
  rcases List.mem_cons.1 hx with rfl | hx
  ·simp at hlt
  ·obtain ⟨i,hi,rfl⟩:=List.mem_map.1 hx
   rfl
 ·intro e he
  simp only [Heap.ents,List.flatten_cons,List.flatten_nil,List.append_nil,VE,qc4 hne,List.cons_append,List.nil_append,List.mem_cons] at he
  rcases he with rfl | rfl | he
  ·refine ⟨pb,_,List.mem_cons_of_mem _ (qe1 h.lp),hp,?_⟩
   show qb1 _ _ _ _
   rw [qcb hne]
   refine qdo (h.sp _ idl) ?_
   simp only [qb1]
   exact ⟨by simp [qar,qay],h.sq _ idl⟩
  ·exact ⟨c,_,List.mem_cons_self,hk,hcs _⟩
  ·exact ⟨e.1,e.2,List.mem_cons_of_mem _ (qe1 (h.lg e he)),hg e he,h.sg e he _ idl⟩
theorem Eok.next (h:Eok m pb pre k sz es post g) {es':List AV} (he:Elems sz es'):Eok (m+1) pb pre m sz es' post g where
 lp:=by have:=h.lp;omega
 lk:=⟨Nat.lt_succ_self m,fun hx=>by
  rcases List.mem_cons.1 hx with hx | hx
  ·have:=h.lp;omega
  ·obtain ⟨e,he,hx⟩:=List.mem_map.1 hx
   have:=h.lg e he;omega⟩
 lg:=fun e he=>by have:=h.lg e he;omega
 nd:=h.nd
 sg:=fun e he=>(h.sg e he).mono (Nat.le_succ m)
 sp:=fun σ hσ=>h.sp σ fun i hi=>hσ i (by omega)
 sq:=fun σ hσ=>h.sq σ fun i hi=>hσ i (by omega)
 el:=he
theorem Eok.mono (h:Eok m pb pre k sz es post g) {m':Nat} (hm:m≤m') {es':List AV} (he:Elems sz es'):Eok m' pb pre k sz es' post g where
 lp:=Nat.lt_of_lt_of_le h.lp hm
 lk:=⟨Nat.lt_of_lt_of_le h.lk.1 hm,h.lk.2⟩
 lg:=fun e he=>Nat.lt_of_lt_of_le (h.lg e he) hm
 nd:=h.nd
 sg:=fun e he=>(h.sg e he).mono hm
 sp:=fun σ hσ=>h.sp σ fun i hi=>hσ i (by omega)
 sq:=fun σ hσ=>h.sq σ fun i hi=>hσ i (by omega)
 el:=he
theorem fit_W {m':Nat} {H:Heap} {es':List AV} (h:Eok m pb pre k sz es post g) (hm:m≤m') (hne:es'≠[]) (he':Elems sz es') (hp:H.get pb=some (.cells (pre++qdk k sz es'::post))) (hk:H.get k=some (.cells (qa4 es')))
  (hg:∀ e,e∈g→H.get e.1=some e.2):FitH m (idn m) [] H ⟨m',[VE pb pre k sz es' post g]⟩:=by
 have idl:=qjs m
 have nd:=h.nd
 have hkk:=h.lk.2
 simp only [List.mem_cons,not_or] at hkk
 rw [List.nodup_cons] at nd
 refine ⟨by simpa using qm4 m,qi8 m,?_,?_,?_,hm,?_,fun x h=>by cases h⟩
 ·simp only [Heap.ents,List.flatten_cons,List.flatten_nil,List.append_nil,VE,qc4 hne,List.map_cons,List.map_append,List.map_nil,List.cons_append,List.nil_append,List.nodup_cons,List.mem_cons,not_or]
  exact ⟨⟨fun e=>hkk.1 e.symm,nd.1⟩,hkk.2,nd.2⟩
 ·intro x hx
  obtain ⟨i,hi,rfl⟩:=List.mem_map.1 hx
  have:i < m:=by simpa using hi
  show i < m';omega
 ·intro x hx hlt
  obtain ⟨i,hi,rfl⟩:=List.mem_map.1 hx
  rfl
 ·intro e he
  simp only [Heap.ents,List.flatten_cons,List.flatten_nil,List.append_nil,VE,qc4 hne,List.cons_append,List.nil_append,List.mem_cons] at he
  rcases he with rfl | rfl | he
  ·refine ⟨pb,_,qe1 h.lp,hp,?_⟩
   show qb1 _ _ _ _
   rw [qcb hne]
   refine qdo (h.sp _ idl) ?_
   simp only [qb1]
   exact ⟨by simp [qar,qcf h.lk.1],h.sq _ idl⟩
  ·exact ⟨k,_,qe1 h.lk.1,hk,qaj he'.pure⟩
  ·exact ⟨e.1,e.2,qe1 (h.lg e he),hg e he,h.sg e he _ idl⟩
end
section
variable {C:Ctx} {call:qc0} {ops:Array Oper} {s:St} {o:Oper} {l:List Oper} {P:St→Prop}
theorem qf4 {E R:Option St} (h:E=R) (k:∃ s',R=some s'∧P s'):∃ s',E=some s'∧P s':=by subst h;exact k
theorem qbx (h:P s):∃ s',some s=some s'∧P s':=⟨s,rfl,h⟩
theorem qbt {b:Bool} (h1:b=true→∃ s',qho C call ops (qv0 C call s o (some true)) l=some s'∧P s') (h2:b=false→∃ s',qho C call ops (qv0 C call s o (some false)) l=some s'∧P s') :
  ∃ s',qho C call ops (qv0 C call s o (some b)) l=some s'∧P s':=by
 cases b with
 | true=>exact h1 rfl
 | false=>exact h2 rfl
theorem qps {H:Heap} {d:Option Tmp} {p q:Option AV} {b:Bool} (h1:b=true→∃ s',qho C call ops (putV s d (qy8 H (some (.bool true)) p q)) l=some s'∧P s') (h2:b=false→∃ s',qho C call ops (putV s d (qy8 H (some (.bool false)) p q)) l=some s'∧P s') :
  ∃ s',qho C call ops (putV s d (qy8 H (some (.bool b)) p q)) l=some s'∧P s':=by
 cases b with
 | true=>exact h1 rfl
 | false=>exact h2 rfl
end
theorem qox {W:Str} (h:W.all (fun c=>decide (c.toNat < 128))=true):qcw W:=by
 unfold qcw;simpa using h
theorem qe6 {a b:List Nd} (h:qae a=qae b):a=b:=qgp (by simpa [qav] using h)
section
variable (n:Nd)
@[simp] theorem nd_cells:(qa7 n).cells=n.cs:=rfl
@[simp] theorem nd_len:n.cs.length=7:=rfl
@[simp] theorem nd_single:allSingle n.cs=true:=rfl
@[simp] theorem nd_over {a b c d e f g:AV}:qgl n.cs [a,b,c,d,e,f,g]=some n.cs:=rfl
@[simp] theorem nd_lay {a b c d e f g:AV}:qge n.cs 0 [a,b,c,d,e,f,g]=some n.cs:=rfl
@[simp] theorem nd_over' {m:Nd}:qgl n.cs m.cs=some n.cs:=rfl
@[simp] theorem nd_lay' {m:Nd}:qge n.cs 0 m.cs=some n.cs:=rfl
@[simp] theorem nd_refs:n.cs.flatMap (refs 6)=[]:=qdf 6 _ (qh2 n)
@[simp] theorem nd_take:qef 7 n.cs=some n.cs:=rfl
@[simp] theorem nd_sub:qek 0 7 n.cs=some n.cs:=rfl
theorem qb5:AV.agg n.cs=qa7 n:=rfl
@[simp] theorem nd_f0:qd7 Tryz.prog 34 (qa7 n) 0=some (.int .i64 n.kind):=rfl
@[simp] theorem nd_f1:qd7 Tryz.prog 34 (qa7 n) 1=some (.int .i64 n.space):=rfl
@[simp] theorem nd_f2:qd7 Tryz.prog 34 (qa7 n) 2=some (.str n.name):=rfl
@[simp] theorem nd_f3:qd7 Tryz.prog 34 (qa7 n) 3=some (qak n.attrs):=rfl
@[simp] theorem nd_f4:qd7 Tryz.prog 34 (qa7 n) 4=some (.str n.data):=rfl
@[simp] theorem nd_f5:qd7 Tryz.prog 34 (qa7 n) 5=some (.int .i64 n.up):=rfl
@[simp] theorem nd_f6:qd7 Tryz.prog 34 (qa7 n) 6=some (qbh n.kids):=rfl
end
def isB (t:Tr) (i:Int):Bool:=decide (0≤i) && decide (i < (t.length:Int))
theorem c124 {T:List (Entry Tryz.prog)} (t:Tr) (i:Int):CallAt (ctx T) 124 [qav t,.int .i64 i] ⟨0,[]⟩ (.bool (isB t i)) ⟨0,[]⟩:=by
 refine qa2 (fn:=Tryz.f124) (s0:=⟨[0,1,2,4],[qav t,.int .i64 i,.undef,.undef],[],14,⟨0,[[]]⟩⟩) Tryz.func124 rfl rfl rfl ?_
 repeat apply wq
 refine qa0 qa1 ?_
 simp [zS,qav]
 by_cases h:0≤i
 ·repeat apply wq
  refine qa0 qa1 ?_
  simp [zS,qkl,h]
  refine qa8 ?_
  simp [qad,Tryz.f124,oneOr,qaf,qa6]
  exact qa5 rfl (by simp [isB,h])
 ·repeat apply wq
  refine qa0 qa1 ?_
  simp [zS,qkl,h]
  refine qa8 ?_
  simp [qad,Tryz.f124,oneOr,qaf,qa6]
  exact qa5 rfl (by simp [isB,h])
def qjb (t:Tr) (up:Int):Nat→Int→Bool
 | 0,_=>false
 | n+1,kid=>if isB t kid=true then (if kid=up then true else qjb t up n (qa3 t kid).up) else false
def qi9 (t:Tr) (up kid:Int):Bool:=isB t up && qjb t up (t.length+1) kid
theorem th_tree (H:Heap) (t:Tr):qe4 H [7] (qav t)=some (qav t):=qau (by simp)
noncomputable def e124:Entry Tryz.prog:=mkE 124 [[7],[]] (fun x:Tr × Int=>[qav x.1,.int .i64 x.2]) (fun _=>True) (fun x=>.bool (isB x.1 x.2)) fun x _=>c124 (T:=[]) x.1 x.2
theorem k124 {T:List (Entry Tryz.prog)} (hT:qai 124 T=some e124.g) (t:Tr) (i:Int) (H:Heap):qbb (ctx T) (.fn 124) [qav t,.int .i64 i] H=some (.bool (isB t i),H):=
 qal hT qyj (t,i) trivial rfl (by simp [th_tree])
theorem c125 {T:List (Entry Tryz.prog)} (hS:qai 124 T=some e124.g) (t:Tr) (ht:t.length≤1000000) (up kid:Int):CallAt (ctx T) 125 [qav t,.int .i64 up,.int .i64 kid] ⟨0,[]⟩ (.bool (qi9 t up kid)) ⟨0,[]⟩:=by
 have ks:=fun i H=>k124 hS t i H
 simp only [qav] at ks
 refine qa2 (fn:=Tryz.f125) (s0:=⟨[0,1,2,3,6,14,15],[qav t,.int .i64 up,.int .i64 kid,.undef,.undef,.undef,.undef],[],31,⟨0,[[]]⟩⟩) Tryz.func125 rfl rfl rfl ?_
 repeat apply wq
 refine qa0 qa1 ?_
 simp [zS,qav]
 repeat apply wq
 refine qa0 qa1 ?_
 simp [zS,qav,ks]
 cases h0:isB t up with
 | false=>
  refine qan rfl ?_
  repeat apply wq
  refine qa0 qa1 ?_
  simp [zS]
  refine qa8 ?_
  simp [qad,Tryz.f125,oneOr,qaf,qa6]
  exact qa5 rfl (by simp [qi9,h0])
 | true=>
  refine qam rfl ?_
  refine qa9 ?_
  simp
  repeat apply wq
  refine qa0 qa1 ?_
  simp [zS,qkl,qav,qbu (show t.length≤1000000000 by omega)]
  refine qab (qb7 (fun x:Nat × Int=>(⟨[0,1,2,3,6,14,15],[.undef,.int .i64 up,.int .i64 x.2,.ptr 0 0,.undef,.int .i64 ((t.length:Int)+1),.int .i64 (x.1:Int)],[],31,⟨1,[[(0,.cells [qae t])]]⟩⟩ : St))
   (fun x=>x.1≤t.length+1∧qjb t up (t.length+1) kid=qjb t up (t.length+1 - x.1) x.2) (fun x=>t.length+1 - x.1) [(0,0)] [] (0,kid) ⟨by omega,rfl⟩ ⟨rfl,rfl,rfl,by simp [qb1,qar,qay,qah],.id1 (g:=[(0,.cells [qae t])]) (by simp) (by simp) (by simp [Heap.get,getFs,getF,qac])⟩ ?_)
  rintro ⟨i,k⟩ ⟨hi,hx⟩ B hB
  simp only at hi hx
  by_cases h:i < t.length+1
  ·have hc:(i:Int) < (t.length:Int)+1:=by omega
   have hs:t.length+1 - i=(t.length - i)+1:=by omega
   rw [hs] at hx
   repeat apply wq
   refine qa0 qa1 ?_
   simp [zS,hc]
   repeat apply wq
   refine qan rfl ?_
   refine qa9 ?_
   simp
   repeat apply wq
   refine qab ?_
   repeat apply wq
   refine qa0 qa1 ?_
   simp [zS,ks]
   cases h1:isB t k with
   | false=>
    refine qan rfl ?_
    repeat apply wq
    refine qa0 qa1 ?_
    simp [zS]
    refine qa8 ?_
    simp [qad,Tryz.f125,oneOr,qaf,qa6]
    exact qa5 rfl (by unfold qi9;rw [h0,hx];simp [h0,qjb,h1])
   | true=>
    refine qam rfl ?_
    refine qa9 ?_
    simp
    by_cases h2:k=up
    ·repeat apply wq
     refine qa0 qa1 ?_
     simp [zS,h2]
     refine qan rfl ?_
     repeat apply wq
     refine qa0 qa1 ?_
     simp [zS]
     refine qa8 ?_
     simp [qad,Tryz.f125,oneOr,qaf,qa6]
     exact qa5 rfl (by unfold qi9;rw [h0,hx];simp [h0,qjb,h1,h2])
    ·have hk:0≤k∧k < (t.length:Int):=by simpa [isB] using h1
     repeat apply wq
     refine qa0 qa1 ?_
     simp [zS,h2]
     refine qam rfl ?_
     refine qa9 ?_
     simp
     refine qa0 qa1 ?_
     simp [zS,atX hk.1 hk.2,Nd.cs,qb6]
     refine qa0 qa1 ?_
     simp [zS,qbu (show i≤1000000000 by omega)]
     refine hB _ (i+1,(qa3 t k).up) (by simp only;omega) ⟨by simp only;omega,?_⟩ ⟨[(0,0)],[],rfl,rfl,rfl,by simp [qb1,qar,qay,qah],.id1 (g:=[(0,.cells [qae t])]) (by simp) (by simp) (by simp [Heap.get,getFs,getF,qac])⟩
     simp only
     rw [show t.length+1 - (i+1)=t.length - i by omega,hx]
     simp [h0,qjb,h1,h2]
  ·have hc:¬ (i:Int) < (t.length:Int)+1:=by omega
   rw [show t.length+1 - i=0 by omega] at hx
   repeat apply wq
   refine qa0 qa1 ?_
   simp [zS,hc]
   repeat apply wq
   refine qam rfl ?_
   refine qaw ?_
   simp
   repeat apply wq
   refine qa0 qa1 ?_
   simp [zS]
   refine qa8 ?_
   simp [qad,Tryz.f125,oneOr,qaf,qa6]
   exact qa5 rfl (by unfold qi9;rw [h0,hx];simp [h0,qjb])
theorem injTII (x y:Tr × Int × Int) (h:[qav x.1,.int .i64 x.2.1,.int .i64 x.2.2]=[qav y.1,.int .i64 y.2.1,.int .i64 y.2.2]):x=y:=by
 simp at h;exact Prod.ext (qgp h.1) (Prod.ext h.2.1 h.2.2)
theorem q124 {T:List (Entry Tryz.prog)} (hT:qai 124 T=some e124.g) {a:AV} {H:Heap} {t:Tr} (ha:qe4 H [7] a=some (qav t)) (i:Int):qbb (ctx T) (.fn 124) [a,.int .i64 i] H=some (.bool (isB t i),H):=
 qal hT qyj (t,i) trivial rfl (by simp [ha])
end Go.Proofs.YtocnpnnplllneaaGreatDoor
namespace Go.Proofs.YtocnpnnplllneaaGreatDoor
noncomputable section
set_option linter.unusedSimpArgs false
set_option linter.unusedVariables false
open Go Go.RowKit
structure RgE where
 C:Ctx
 call:qc0
 ops:Array Oper
 bef:Array Nat
 base:Nat
def evE (A:RgE) (i:Nat) (l:List Oper) (s:St) (ps:List Pend) (hs:List (Nat × Heap)) (rs:List Rec):Option DrawSt:=qkt A.C A.call A.ops A.bef A.base i l ⟨s,ps,hs,rs⟩
section
variable {A:RgE} {i:Nat} {o:Oper} {r:List Oper} {s s':St} {ps:List Pend} {hs:List (Nat × Heap)} {rs:List Rec} {v:AV} {H:Heap}
def putE (A:RgE) (i:Nat) (r:List Oper) (ps:List Pend) (hs:List (Nat × Heap)) (rs:List Rec):Option St→Option DrawSt
 | none=>none
 | some s'=>evE A (i+1) r s' ps hs rs
def putX (A:RgE) (i:Nat) (r:List Oper) (ps:List Pend) (hs:List (Nat × Heap)) (rs:List Rec):Option St→Option DrawSt
 | none=>none
 | some s'=>evE A (i+1) r s' ps ((i,s'.H)::hs) rs
def valE (A:RgE) (i:Nat) (o:Oper) (r:List Oper) (s:St) (ps:List Pend) (hs:List (Nat × Heap)) (rs:List Rec):Option (AV × Heap)→Option DrawSt
 | none=>none
 | some v=>putE A i r ps hs rs (s.put o.dst v.1)
def redE (A:RgE) (i:Nat) (o:Oper) (r:List Oper) (s:St) (ps:List Pend) (hs:List (Nat × Heap)) (rs:List Rec):Option (AV × Heap)→Option DrawSt
 | none=>none
 | some v=>putE A i r ps hs (⟨i,o,s,v.1⟩::rs) (s.put o.dst v.1)
def actE (A:RgE) (i:Nat) (o:Oper) (r:List Oper) (s:St) (ps:List Pend) (hs:List (Nat × Heap)) (rs:List Rec):Option (AV × Heap)→Option DrawSt
 | none=>none
 | some v=>putX A i r (qax A.bef i ps) hs rs (St.put (s.wH v.2) o.dst v.1)
def layE (A:RgE) (i:Nat) (o:Oper) (r:List Oper) (s:St) (ps:List Pend) (hs:List (Nat × Heap)) (rs:List Rec):Option ((Nat→AV) × Blk)→Option DrawSt
 | none=>none
 | some k=>putE A i r (⟨i,A.base+i,k.2⟩::ps) hs rs (s.put o.dst (k.1 (A.base+i)))
def clsE (A:RgE) (i:Nat) (o:Oper) (r:List Oper) (s:St) (ps:List Pend) (hs:List (Nat × Heap)) (rs:List Rec):Cls→Option DrawSt
 | .allocs=>layE A i o r s ps hs rs (qds A.C o s)
 | .acts=>actE A i o r s ps hs rs (qaa A.C A.call o (s.wH (s.H.lay (qaz A.bef i ps))))
 | .reads=>redE A i o r s ps hs rs (qaa A.C A.call o s)
 | .pure=>valE A i o r s ps hs rs (qaa A.C A.call o s)
def clsF (A:RgE) (i:Nat) (o:Oper) (r:List Oper) (ps:List Pend) (hs:List (Nat × Heap)) (rs:List Rec):Cls→Option St→Option DrawSt
 | _,none=>none
 | .acts,some s'=>evE A (i+1) r (s'.wH (s'.H.lay (qaz A.bef i ps))) (qax A.bef i ps) ((i,s'.H.lay (qaz A.bef i ps))::hs) rs
 | .allocs,some s'=>evE A (i+1) r s' ps hs rs
 | .reads,some s'=>evE A (i+1) r s' ps hs rs
 | .pure,some s'=>evE A (i+1) r s' ps hs rs
def qyl (A:RgE) (i:Nat) (o:Oper) (r:List Oper) (s:St) (ps:List Pend) (hs:List (Nat × Heap)) (rs:List Rec):Option Bool→Option DrawSt
 | none=>none
 | some false=>clsF A i o r ps hs rs (qbv o.op) (s.put o.dst (.tup []))
 | some true=>clsE A i o r s ps hs rs (qbv o.op)
theorem qon:evE A i [] s ps hs rs=some ⟨s,ps,hs,rs⟩:=rfl
theorem qoo:evE A i (o::r) s ps hs rs=qyl A i o r s ps hs rs (qcc A.ops s o):=by
 show (qgf A.C A.call A.ops A.bef A.base i o ⟨s,ps,hs,rs⟩).bind (fun d=>qkt A.C A.call A.ops A.bef A.base (Nat.succ i) r d)=_
 cases hg:qcc A.ops s o with
 | none=>unfold qgf;simp only [hg,qyl];rfl
 | some g=>
  cases g with
  | false=>
   simp only [qyl]
   unfold qgf
   simp only [hg,Option.bind_some]
   cases s.put o.dst (.tup []) with
   | none=>cases qbv o.op <;> rfl
   | some s'=>cases qbv o.op <;> rfl
  | true=>
   simp only [qyl]
   unfold qgf
   simp only [hg,Option.bind_some]
   cases hc:qbv o.op with
   | allocs=>
    simp only [clsE]
    cases qds A.C o s with
    | none=>rfl
    | some k=>
     simp only [Option.bind_some,layE]
     cases s.put o.dst (k.1 (A.base+i)) <;> rfl
   | acts=>
    simp only [clsE]
    cases qaa A.C A.call o (s.wH (s.H.lay (qaz A.bef i ps))) with
    | none=>rfl
    | some v=>
     simp only [Option.bind_some,actE]
     cases St.put (s.wH v.2) o.dst v.1 <;> rfl
   | reads=>
    simp only [clsE]
    cases qaa A.C A.call o s with
    | none=>rfl
    | some v=>
     simp only [Option.bind_some,redE]
     cases s.put o.dst v.1 <;> rfl
   | pure=>
    simp only [clsE]
    cases qaa A.C A.call o s with
    | none=>rfl
    | some v=>
     simp only [Option.bind_some,valE]
     cases s.put o.dst v.1 <;> rfl
theorem qi0:putE A i r ps hs rs (some s')=evE A (i+1) r s' ps hs rs:=rfl
theorem qhz:putX A i r ps hs rs (some s')=evE A (i+1) r s' ps ((i,s'.H)::hs) rs:=rfl
theorem qhm:valE A i o r s ps hs rs (some (v,H))=putE A i r ps hs rs (s.put o.dst v):=rfl
theorem qhy:redE A i o r s ps hs rs (some (v,H))=putE A i r ps hs (⟨i,o,s,v⟩::rs) (s.put o.dst v):=rfl
theorem qis:actE A i o r s ps hs rs (some (v,H))=putX A i r (qax A.bef i ps) hs rs (St.put (s.wH H) o.dst v):=rfl
theorem qi6 {k:(Nat→AV) × Blk}:layE A i o r s ps hs rs (some k)=putE A i r (⟨i,A.base+i,k.2⟩::ps) hs rs (s.put o.dst (k.1 (A.base+i))):=rfl
theorem qfm:qyl A i o r s ps hs rs (some true)=clsE A i o r s ps hs rs (qbv o.op):=rfl
theorem qih:clsF A i o r ps hs rs .acts (some s')=evE A (i+1) r (s'.wH (s'.H.lay (qaz A.bef i ps))) (qax A.bef i ps) ((i,s'.H.lay (qaz A.bef i ps))::hs) rs:=rfl
theorem qig:clsF A i o r ps hs rs .allocs (some s')=evE A (i+1) r s' ps hs rs:=rfl
theorem qie:clsF A i o r ps hs rs .reads (some s')=evE A (i+1) r s' ps hs rs:=rfl
theorem qif:clsF A i o r ps hs rs .pure (some s')=evE A (i+1) r s' ps hs rs:=rfl
theorem qfn:qyl A i o r s ps hs rs (some false)=clsF A i o r ps hs rs (qbv o.op) (s.put o.dst (.tup [])):=rfl
theorem qik:clsE A i o r s ps hs rs .allocs=layE A i o r s ps hs rs (qds A.C o s):=rfl
theorem qil:clsE A i o r s ps hs rs .acts=actE A i o r s ps hs rs (qaa A.C A.call o (s.wH (s.H.lay (qaz A.bef i ps)))):=rfl
theorem qij:clsE A i o r s ps hs rs .pure=valE A i o r s ps hs rs (qaa A.C A.call o s):=rfl
theorem qii:clsE A i o r s ps hs rs .reads=redE A i o r s ps hs rs (qaa A.C A.call o s):=rfl
end
theorem qop {C:Ctx} {call:qc0} {ops:Array Oper} {s:St} {E:Option DrawSt} {P:DrawSt→Prop} (B:Array Nat)
  (h:evE ⟨C,call,ops,B,s.H.n⟩ 0 ops.toList (qby (qas ops.toList { s with ts:=[] }) ops.size) [] [] []=E) (k:∃ d,E=some d∧P d) :
  ∃ d,qkt C call ops B s.H.n 0 ops.toList ⟨qby (qas ops.toList { s with ts:=[] }) ops.size,[],[],[]⟩=some d∧P d:=by
 subst h
 exact k
end
end Go.Proofs.YtocnpnnplllneaaGreatDoor