/- The reference's Value; DocsHave's walk. No condition. -/
import Derived.Test.YtocnpnnplllneaaGreatDoorMG
import Derived.Test.YtocnpnnplllneaaGreatDoorMF
namespace Go.Proofs.YtocnpnnplllneaaGreatDoor
set_option linter.unusedSimpArgs false
set_option linter.unusedVariables false
open Go Go.RowKit
set_option maxRecDepth 100000
def quv:Option (AV × Heap)→Bool
 | some (.bool b,_)=>b
 | _=>false
def eqN:Str→Str→Bool
 | [],l=>match l with | []=>true | _::_=>false
 | a::x,l=>match l with
  | []=>false
  | b::y=>match Nat.beq a.toNat b.toNat with
   | true=>eqN x y
   | false=>false
theorem eqN_eq:∀ (x y:Str),eqN x y=decide (x=y)
 | [],[]=>rfl
 | [],_::_=>by simp [eqN]
 | _::_,[]=>by simp [eqN]
 | a::x,b::y=>by
  unfold eqN
  simp only
  split
  ·rename_i h
   have:=UInt8.toNat_inj.1 (Nat.eq_of_beq_eq_true h)
   subst this
   rw [eqN_eq];simp
  ·rename_i h
   have:¬ a=b:=fun e=>by subst e;rw [Nat.beq_refl] at h;cases h
   simp [this]
def leftOf:Str→Str→Option Str
 | [],x=>some x
 | a::c,x=>match x with
  | []=>none
  | b::x=>if b=a then leftOf c x else none
abbrev At1:=Str × Str
def qcg (a:At1):AV:=.agg [.str a.1,.str a.2]
def qak (L:List At1):AV:=.fslc 2 (L.map qcg)
@[simp] theorem cells_aAttr (a:At1):(qcg a).cells=[.str a.1,.str a.2]:=rfl
@[simp] theorem pure_aAttr (a:At1):qah (qcg a)=true:=by simp [qcg,qah,qac]
@[simp] theorem pure_aAttrs (L:List At1):qah (qak L)=true:=by simp [qak,qah]
@[simp] theorem ok_aAttr (a:At1):okV (qcg a)=true:=by simp [qcg,okV,qah,qac]
@[simp] theorem ok_aAttrs (L:List At1):okV (qak L)=true:=by simp [qak,okV,qah]
theorem qk5 (H:Heap) (L:List At1):qe4 H [2] (qak L)=some (qak L):=qau (by simp)
theorem qte {a b:At1} (h:qcg a=qcg b):a=b:=by
 simp [qcg] at h;exact Prod.ext h.1 h.2
theorem qf1 {L M:List At1} (h:qak L=qak M):L=M:=by
 simp only [qak,AV.fslc.injEq,true_and] at h
 exact List.map_inj_right (fun _ _=>qte) |>.1 h
theorem c164 {T:List (Entry Tryz.prog)} (a:At1) (nm:Str):CallAt (ctx T) 164 [qcg a,.fptr [.str nm] 0] ⟨0,[]⟩ (.bool (decide (a.1=nm))) ⟨0,[]⟩:=by
 refine qa2 (fn:=Tryz.f164) (s0:=⟨[0,1,2,3],[qcg a,.fptr [.str nm] 0,.undef,.undef],[],8,⟨0,[[]]⟩⟩) Tryz.func164 rfl rfl rfl ?_
 repeat apply wq
 refine qa0 qa1 ?_
 simp [zS,qcg]
 repeat apply wq
 refine qa0 qa1 ?_
 simp [zS]
 refine qa8 ?_
 simp [qad,Tryz.f164,oneOr]
 exact ⟨[],[],qba rfl,FitH.empty⟩
def qbg {α:Type} (p:α→Bool):List α→Nat→Int
 | [],_=>-1
 | a::r,k=>if p a=true then k else qbg p r (k+1)
theorem qgr {α:Type} {p:α→Bool} {L:List α} {i:Nat} (h:i < L.length):qbg p (L.drop i) i=if p L[i]=true then (i:Int) else qbg p (L.drop (i+1)) (i+1):=by
 rw [List.drop_eq_getElem_cons h];rfl
theorem atA {L:List At1} {i:Nat} (h:i < L.length):qat Tryz.prog 32 (qak L) (.int .i64 (i:Int))=some (.fptr [.str L[i].1,.str L[i].2] 0):=by
 simp [qat,qak,qbs h,qg3 h,qcg,AV.cells]
theorem qyh {H:Heap} {L:List At1}:qeu Tryz.prog H 32 (qak L)=some L.length:=by simp [qeu,qak]
theorem rdA1 {H:Heap} (a:At1):qaq Tryz.prog H 71 (.fptr [.str a.1,.str a.2] 0)=some (qcg a):=by simp [qaq,qek,qef,qcg]
theorem c163 {T:List (Entry Tryz.prog)} (L:List At1) (hl:L.length≤1000) (clo:FuncId) (cap:List AV) (hc:qac cap=true) (p:At1→Bool) (hp:∀ a,CallAt (ctx T) clo (qcg a::cap) ⟨0,[]⟩ (.bool (p a)) ⟨0,[]⟩) :
  CallAt (ctx T) 163 [qak L,.func (.func clo) [] cap] ⟨0,[]⟩ (.int .i64 (qbg p L 0)) ⟨0,[]⟩:=by
 refine qa2 (fn:=Tryz.f163) (s0:=⟨[0,1,4,5,7,8],[qak L,.func (.func clo) [] cap,.undef,.undef,.undef,.undef],[],19,⟨0,[[]]⟩⟩) Tryz.func163 rfl rfl rfl ?_
 repeat apply wq
 refine qa0 qa1 ?_
 simp [zS]
 repeat apply wq
 refine qa0 qa1 ?_
 simp [zS,qyh]
 refine qab (qb7 (fun i:Nat=>(⟨[0,1,4,5,7,8],[qak L,.func (.func clo) [] cap,.undef,.undef,.int .i64 L.length,.int .i64 i],[],19,⟨0,[[]]⟩⟩ : St))
  (fun i=>i≤L.length∧qbg p L 0=qbg p (L.drop i) i) (fun i=>L.length - i) [] [] 0 ⟨Nat.zero_le _,rfl⟩ ⟨rfl,rfl,rfl,by simp [qb1,qar,qah,qac,hc],FitH.nothing⟩ ?_)
 rintro i ⟨hi,hx⟩ B hB
 repeat apply wq
 refine qa0 qa1 ?_
 simp [zS]
 repeat apply wq
 refine qb9 rfl (fun h=>?_) fun h=>?_
 ·simp at h
  refine qa9 ?_
  simp
  repeat apply wq
  refine qab ?_
  repeat apply wq
  refine qa0 qa1 ?_
  simp [zS]
  repeat apply wq
  refine qa0 (qmy qa1 [⟨clo,[qcg L[i]]++cap,⟨0,[[]]⟩,.bool (p L[i]),⟨0,[[]]⟩,(hp L[i]).lift (by simp [qac,hc]) _⟩]) ?_
  simp [zS,atA h,qce,rdA1]
  refine qb9 rfl (fun h2=>?_) fun h2=>?_
  ·repeat apply wq
   refine qa0 qa1 ?_
   simp [zS]
   refine qa8 ?_
   simp [qad,Tryz.f163,oneOr]
   refine ⟨[],[],?_,FitH.empty⟩
   rw [hx,qgr h,if_pos h2]
   exact qba rfl
  ·repeat apply wq
   refine qa9 ?_
   simp
   refine qa0 qa1 ?_
   simp [zS,qbu (show i≤1000000000 by omega)]
   refine hB _ (i+1) (by omega) ⟨by omega,?_⟩ ⟨[],[],⟨rfl,rfl,rfl,by simp [qb1,qar,qah,qac,hc],FitH.nothing⟩⟩
   rw [hx,qgr h,h2]
   simp
 ·simp at h
  refine qaw ?_
  simp
  repeat apply wq
  refine qa0 qa1 ?_
  simp [zS]
  refine qa8 ?_
  simp [qad,Tryz.f163,oneOr]
  refine ⟨[],[],?_,FitH.empty⟩
  rw [hx,List.drop_eq_nil_of_le (by omega)]
  exact qba rfl
def qkh (L:List At1) (nm:Str):Int:=qbg (fun a=>decide (a.1=nm)) L 0
theorem c130 {T:List (Entry Tryz.prog)} (L:List At1) (nm:Str) (hl:L.length≤1000):CallAt (ctx T) 130 [qak L,.str nm] ⟨0,[]⟩ (.int .i64 (qkh L nm)) ⟨0,[]⟩:=by
 refine qa2 (fn:=Tryz.f130) (s0:=⟨[0,1,3,4],[qak L,.str nm,.undef,.undef],[],8,⟨0,[[]]⟩⟩) Tryz.func130 rfl rfl rfl ?_
 repeat apply wq
 refine qa0 qa1 ?_
 simp [zS]
 repeat apply wq
 refine qa0 (qbc [⟨163,[qak L,.func (.func 164) [] [.ptr 0 0]],⟨1,[[(0,.cells [.str nm])]]⟩,.int .i64 (qkh L nm),_,
  CallAt.thaw (c163 L hl 164 [.fptr [.str nm] 0] rfl (fun a=>decide (a.1=nm)) fun a=>c164 a nm) rfl [] (by simp [qau,qn7 (H:=⟨1,[[(0,.cells [.str nm])]]⟩) (b:=0) (cs:=[.str nm]) rfl rfl])⟩]) ?_
 simp [zS,qce]
 refine qa8 ?_
 simp [qad,Tryz.f130,oneOr]
 exact qa5 rfl rfl
noncomputable def e130:Entry Tryz.prog:=mkE 130 [[2],[]] (fun x:List At1 × Str=>[qak x.1,.str x.2]) (fun x=>x.1.length≤1000) (fun x=>.int .i64 (qkh x.1 x.2)) fun x hx=>c130 (T:=[]) x.1 x.2 hx
theorem k130 {T:List (Entry Tryz.prog)} (hT:qai 130 T=some e130.g) {L:List At1} (nm:Str) (hl:L.length≤1000) {H:Heap} {l:AV} (h:qe4 H [2] l=some (qak L)):qbb (ctx T) (.fn 130) [l,.str nm] H=some (.int .i64 (qkh L nm),H):=
 qal hT (fun x y h=>by simp at h;exact Prod.ext (qf1 h.1) h.2) (L,nm) hl rfl (by simp [h])
def qkp (nm:Str):List At1→Option Str
 | []=>none
 | a::r=>if a.1=nm then some a.2 else qkp nm r
def gotA (x:Option Str):AV:=.tup [.str (x.getD []),.bool x.isSome]
theorem qjr {nm:Str}:∀ (L:List At1) (k:Nat),(qbg (fun a=>decide (a.1=nm)) L k = -1∧qkp nm L=none)∨∃ i,∃ h:i < L.length,qbg (fun a=>decide (a.1=nm)) L k=(k+i:Nat)∧qkp nm L=some L[i].2∧L[i].1=nm
 | [],k=>.inl ⟨rfl,rfl⟩
 | a::r,k=>by
  by_cases hq:a.1=nm
  ·exact .inr ⟨0,by simp,by simp [qbg,hq],by simp [qkp,hq],hq⟩
  ·rcases qjr (nm:=nm) r (k+1) with ⟨h1,h2⟩ | ⟨i,h,h1,h2,h3⟩
   ·exact .inl ⟨by simp [qbg,hq,h1],by simp [qkp,hq,h2]⟩
   ·exact .inr ⟨i+1,by simpa using h,by simp [qbg,hq,h1];omega,by simp [qkp,hq,h2],h3⟩
theorem c131 {T:List (Entry Tryz.prog)} (hT:qai 130 T=some e130.g) (L:List At1) (nm:Str) (hl:L.length≤1000):CallAt (ctx T) 131 [qak L,.str nm] ⟨0,[]⟩ (gotA (qkp nm L)) ⟨0,[]⟩:=by
 refine qa2 (fn:=Tryz.f131) (s0:=⟨[0,1,4,5,6],[qak L,.str nm,.undef,.undef,.undef],[],17,⟨0,[[]]⟩⟩) Tryz.func131 rfl rfl rfl ?_
 repeat apply wq
 refine qa0 qa1 ?_
 simp [zS]
 repeat apply wq
 refine qa0 qa1 ?_
 simp [zS,k130 hT nm hl (qk5 _ L)]
 repeat apply wq
 refine qa0 qa1 ?_
 simp [zS]
 refine qb9 rfl (fun h=>?_) fun h=>?_
 ·rcases qjr (nm:=nm) L 0 with ⟨h1,h2⟩ | ⟨i,hi,h1,h2,h3⟩
  ·simp [qkh,h1] at h
  ·have hp:qkh L nm=(i:Int):=by simp [qkh,h1]
   simp only [hp]
   repeat apply wq
   refine qa0 qa1 ?_
   simp [zS,atA hi]
   refine qa8 ?_
   simp [qad,Tryz.f131,oneOr]
   exact qa5 rfl (by simp [gotA,h2])
 ·rcases qjr (nm:=nm) L 0 with ⟨h1,h2⟩ | ⟨i,hi,h1,h2,h3⟩
  ·repeat apply wq
   refine qa9 ?_
   simp
   repeat apply wq
   refine qa0 qa1 ?_
   simp [zS]
   refine qa8 ?_
   simp [qad,Tryz.f131,oneOr]
   exact qa5 rfl (by simp [gotA,h2])
  ·simp [qkh,h1] at h
noncomputable def e131:Entry Tryz.prog:=mkE 131 [[2],[]] (fun x:List At1 × Str=>[qak x.1,.str x.2]) (fun x=>x.1.length≤1000) (fun x=>gotA (qkp x.2 x.1)) fun x hx=>c131 (T:=[e130]) rfl x.1 x.2 hx
theorem injS (x y:List At1 × Str) (h:[qak x.1,.str x.2]=[qak y.1,.str y.2]):x=y:=by
 simp at h;exact Prod.ext (qf1 h.1) h.2
theorem k131 {T:List (Entry Tryz.prog)} (hT:qai 131 T=some e131.g) {L:List At1} (nm:Str) (hl:L.length≤1000) {H:Heap} {l:AV} (h:qe4 H [2] l=some (qak L)):qbb (ctx T) (.fn 131) [l,.str nm] H=some (gotA (qkp nm L),H):=
 qal hT injS (L,nm) hl rfl (by simp [h])
structure Nd where
 kind:Int
 space:Int
 name:Str
 attrs:List At1
 data:Str
 up:Int
 kids:List Int
def qb6 (i:Int):AV:=.int .i64 i
abbrev qbh (L:List Int):AV:=.fslc 1 (L.map qb6)
def Nd.cs (n:Nd):List AV:=[qb6 n.kind,qb6 n.space,.str n.name,qak n.attrs,.str n.data,qb6 n.up,qbh n.kids]
def qa7 (n:Nd):AV:=.agg n.cs
abbrev Tr:=List Nd
abbrev qae (t:Tr):AV:=.fslc 7 (t.map qa7)
def qav (t:Tr):AV:=.agg [qae t]
@[simp] theorem pure_aInts (L:List Int):qah (qbh L)=true:=by simp [qbh,qah]
@[simp] theorem qy7 (n:Nd):qah (qa7 n)=true:=by simp [qa7,Nd.cs,qb6,qah,qac]
@[simp] theorem qch (t:Tr):qah (qae t)=true:=by simp [qae,qah]
@[simp] theorem pure_aTree (t:Tr):qah (qav t)=true:=by simp [qav,qah,qac]
@[simp] theorem cells_aNode (n:Nd):(qa7 n).cells=n.cs:=rfl
@[simp] theorem cells_aTree (t:Tr):(qav t).cells=[qae t]:=rfl
@[simp] theorem qyy (i:Int):(qb6 i).cells=[qb6 i]:=rfl
@[simp] theorem ok_aNode (n:Nd):okV (qa7 n)=true:=by simp [qa7,Nd.cs,qb6,qak,qbh,okV,qah,qac]
theorem th_aNode (H:Heap) (n:Nd):qe4 H [] (qa7 n)=some (qa7 n):=qau (by simp)
theorem qob {L M:List Int} (h:qbh L=qbh M):L=M:=by
 simp only [qbh,AV.fslc.injEq,true_and] at h
 exact List.map_inj_right (fun x y e=>by simp [qb6] at e;exact e) |>.1 h
theorem qe0 {a b:Nd} (h:qa7 a=qa7 b):a=b:=by
 obtain ⟨k,s,n,at_,d,u,ks⟩:=a
 obtain ⟨k',s',n',at',d',u',ks'⟩:=b
 simp [qa7,Nd.cs,qb6] at h
 obtain ⟨h1,h2,h3,h4,h5,h6,h7⟩:=h
 have h7':qbh ks=qbh ks':=by show AV.fslc 1 _=AV.fslc 1 _;rw [h7]
 simp [h1,h2,h3,qf1 h4,h5,h6,qob h7']
theorem qgp {a b:Tr} (h:qav a=qav b):a=b:=by
 simp [qav,qae] at h
 exact List.map_inj_right (fun x y e=>qe0 e) |>.1 h
end Go.Proofs.YtocnpnnplllneaaGreatDoor
namespace Go.Proofs.YtocnpnnplllneaaGreatDoor
set_option linter.unusedSimpArgs false
set_option linter.unusedVariables false
structure Wk where
 l:List Int
 inn:List Int
 out:List Int
 c:Int
def qhl (I:List Int):Nat:=I.countP fun x=>decide (x < 0)
def kl (n:Nat) (g:Nat→Wk→Wk):List Int→Wk→Wk
 | [],w=>w
 | k::r,w=>if 0≤k∧k < (n:Int)∧w.inn.getD k.toNat 0 < 0 then kl n g r (g k.toNat w) else kl n g r w
def into (i:Nat) (w:Wk):Wk:=⟨w.l++[(i:Int)],w.inn.set i w.c,w.out,w.c+1⟩
def outof (i:Nat) (w:Wk):Wk:=⟨w.l,w.inn,w.out.set i w.c,w.c+1⟩
def vis (n:Nat) (ks:Nat→List Int):Nat→Nat→Wk→Wk
 | 0,_,w=>w
 | f+1,i,w=>outof i (kl n (vis n ks f) (ks i) (into i w))
structure WOK (n K:Nat) (w:Wk):Prop where
 li:w.inn.length=n
 lo:w.out.length=n
 c0:0≤w.c
 cb:w.c+2 * (qhl w.inn:Int)≤2 * K
 lb:w.l.length+qhl w.inn≤K
theorem qj2 {I:List Int} {i:Nat} {c:Int} (h:i < I.length) (hi:I.getD i 0 < 0) (hc:0≤c):qhl (I.set i c)+1=qhl I:=by
 induction I generalizing i with
 | nil=>simp at h
 | cons x r ih=>
  cases i with
  | zero=>
   have hx:x < 0:=by simpa using hi
   have hc':¬ c < 0:=by omega
   simp [qhl,List.countP_cons,hx,hc']
  | succ j=>
   have:=ih (i:=j) (by simpa using h) (by simpa using hi)
   simp only [qhl,List.set_cons_succ,List.countP_cons] at this ⊢
   omega
theorem WOK.into {n K i:Nat} {w:Wk} (h:WOK n K w) (hi:i < n) (hn:w.inn.getD i 0 < 0):WOK n K (into i w)∧qhl (into i w).inn+1=qhl w.inn∧(into i w).c+2 * (qhl (into i w).inn:Int)+1≤2 * K:=by
 have e:=qj2 (I:=w.inn) (by rw [h.li];exact hi) hn h.c0
 have h1:=h.cb
 have h2:=h.lb
 have h3:=h.c0
 refine ⟨⟨by simp [Go.Proofs.YtocnpnnplllneaaGreatDoor.into,h.li],h.lo,?_,?_,?_⟩,e,?_⟩ <;> simp only [Go.Proofs.YtocnpnnplllneaaGreatDoor.into,List.length_append,List.length_singleton] <;> omega
def Low (n K:Nat) (b:Int) (w:Wk):Prop:=WOK n K w∧w.c+2 * (qhl w.inn:Int)+b≤2 * K
theorem kl_ok {n K f:Nat} {g:Nat→Wk→Wk} (hg:∀ b i w,0≤b→Low n K b w→i < n→w.inn.getD i 0 < 0→qhl w.inn≤f→Low n K b (g i w)∧qhl (g i w).inn≤qhl w.inn) (b:Int) (hb:0≤b) :
  ∀ (ks:List Int) (w:Wk),Low n K b w→qhl w.inn≤f→Low n K b (kl n g ks w)∧qhl (kl n g ks w).inn≤qhl w.inn
 | [],w,h,_=>⟨h,Nat.le_refl _⟩
 | k::r,w,h,hf=>by
  unfold kl
  split
  ·rename_i hk
   obtain ⟨h1,h2⟩:=hg b k.toNat w hb h (by omega) hk.2.2 hf
   obtain ⟨h3,h4⟩:=kl_ok hg b hb r _ h1 (by omega)
   exact ⟨h3,by omega⟩
  ·exact kl_ok hg b hb r w h hf
theorem qvs {n K:Nat} {ks:Nat→List Int}:∀ (f:Nat) (b:Int) (i:Nat) (w:Wk),0≤b→Low n K b w→i < n→w.inn.getD i 0 < 0→qhl w.inn≤f→Low n K b (vis n ks f i w)∧qhl (vis n ks f i w).inn < qhl w.inn
 | 0,b,i,w,hb,h,hi,hn,hf=>by
  have e:=qj2 (I:=w.inn) (by rw [h.1.li];exact hi) hn h.1.c0
  omega
 | f+1,b,i,w,hb,h,hi,hn,hf=>by
  obtain ⟨h1,h2,h3⟩:=h.1.into hi hn
  have hl:Low n K (b+1) (into i w):=⟨h1,by have:=h.2;simp only [into] at h2 ⊢;omega⟩
  obtain ⟨h4,h5⟩:=kl_ok (n:=n) (K:=K) (f:=f) (g:=vis n ks f) (fun b' i' w' hb' h' hi' hn' hf'=>let ⟨x,y⟩:=qvs f b' i' w' hb' h' hi' hn' hf';⟨x,Nat.le_of_lt y⟩) (b+1) (by omega) (ks i) (into i w) hl (by omega)
  unfold vis
  refine ⟨⟨⟨h4.1.li,by simp [outof,h4.1.lo],?_,?_,?_⟩,?_⟩,?_⟩
  ·have:=h4.1.c0;simp only [outof];omega
  ·have:=h4.2;simp only [outof];omega
  ·exact h4.1.lb
  ·have:=h4.2;simp only [outof];omega
  ·simp only [outof];omega
abbrev Cfg:=List (Nat × Nat) × List Bool × List Int
def stp (n:Nat) (ks:Nat→List Int):Cfg→Option Cfg
 | ([],_,_)=>none
 | ((i,j)::p,s,a)=>match (ks i)[j]? with
  | none=>some (p,s,a)
  | some k=>if 0≤k∧k < (n:Int)∧s.getD k.toNat true=false then some ((k.toNat,0)::(i,j+1)::p,s.set k.toNat true,a++[k]) else some ((i,j+1)::p,s,a)
inductive Reach (n:Nat) (ks:Nat→List Int):Cfg→Cfg→Prop where
 | refl (c:Cfg):Reach n ks c c
 | step {c d e:Cfg} (h:stp n ks c=some d) (r:Reach n ks d e):Reach n ks c e
theorem Reach.trans {n:Nat} {ks:Nat→List Int} {c d e:Cfg} (h:Reach n ks c d) (r:Reach n ks d e):Reach n ks c e:=by
 induction h with
 | refl=>exact r
 | step h _ ih=>exact .step h (ih r)
theorem Reach.one {n:Nat} {ks:Nat→List Int} {c d e:Cfg} (r:Reach n ks c d) (h:stp n ks d=some e):Reach n ks c e:=r.trans (.step h (.refl _))
def w0 (n:Nat):Wk:=⟨[],List.replicate n (-1),List.replicate n (-1),0⟩
def qbf (n:Nat) (ks:Nat→List Int):List Int:=if n=0 then [] else (vis n ks n 0 (w0 n)).l
theorem qmo (n:Nat):qhl (List.replicate n (-1))=n:=by simp [qhl,List.countP_replicate]
theorem w0_ok (n:Nat):Low n n 0 (w0 n):=by
 refine ⟨⟨by simp [w0],by simp [w0],by simp [w0],?_,?_⟩,?_⟩ <;> simp [w0,qmo]
end Go.Proofs.YtocnpnnplllneaaGreatDoor
namespace Go.Proofs.YtocnpnnplllneaaGreatDoor
set_option linter.unusedSimpArgs false
set_option linter.unusedVariables false
open Go Go.RowKit
set_option maxRecDepth 100000
def qcd (L:List Int):List AV:=L.map qb6
@[simp] theorem ints_nil:qcd []=[]:=rfl
theorem zbl {L:List Int} (h:L≠[]):qcd L≠[]:=by simpa [qcd] using h
theorem ne_ints {L:List Int} (h:qcd L≠[]):L≠[]:=by simpa [qcd] using h
@[simp] theorem len_ints (L:List Int):(qcd L).length=L.length:=by simp [qcd]
theorem qqb (L:List Int):Elems 1 (qcd L):=.map (sz:=1) (f:=qb6) (by decide) (fun x=>⟨rfl,rfl,fun _=>rfl,fun h=>absurd rfl h⟩) L
@[simp] theorem qf8 (L:List Int):qa4 (qcd L)=qcd L:=by
 unfold qcd
 induction L with
 | nil=>rfl
 | cons x r ih=>simp only [List.map_cons,qa4,ih];rfl
@[simp] theorem qb8 (L:List Int):qac (qcd L)=true:=by have:=(qqb L).pure;rwa [qf8] at this
theorem lay1 {L:List Int} {i:Nat} {v:Int} (h:i < L.length):qge [.int .i64 v] i (qcd L)=some (qcd (L.set i v)):=by
 have:=lay_at (qqb L) (i:=i) (by simpa using h) (e:=qb6 v) rfl
 have e:(qcd L).set i (qb6 v)=qcd (L.set i v):=by simp [qcd,List.map_set]
 rw [qf8,e,qf8] at this
 simpa [qb6,AV.cells] using this
theorem atI {L:List Int} {i:Nat} (h:i < L.length):qat Tryz.prog 30 (qbh L) (.int .i64 (i:Int))=some (.fptr [.int .i64 L[i]] 0):=by
 simp [qat,qbh,qbs h,qg3 h,qb6,AV.cells]
theorem atN {t:Tr} {i:Nat} (h:i < t.length):qat Tryz.prog 22 (qae t) (.int .i64 (i:Int))=some (.fptr (t[i]).cs 0):=by
 simp [qat,qae,qbs h,qg3 h]
theorem lenI {H:Heap} {L:List Int}:qeu Tryz.prog H 30 (qbh L)=some L.length:=by simp [qeu,qbh]
theorem qkl {H:Heap} {t:Tr}:qeu Tryz.prog H 22 (qae t)=some t.length:=by simp [qeu,qae]
def qap (t:Tr) (i:Nat):List Int:=(t[i]?.map Nd.kids).getD []
theorem qd5 {t:Tr} {i:Nat} (h:i < t.length):t[i].kids=qap t i:=by simp [qap,h]
def lA (b:Nat) (L:List Int):AV:=qdk b 1 (qcd L)
def lF (b:Nat) (L:List Int):List (Nat × Blk):=qes b (qcd L)
theorem qp9 {b:Nat} {L:List Int} (h:L≠[]):lA b L=.slc b 0 L.length (.rest 1):=by rw [lA,qcb (zbl h)];simp
theorem qi7 {b:Nat} {L:List Int} (h:L≠[]):lF b L=[(b,.cells (qcd L))]:=by rw [lF,qc4 (zbl h),qf8]
theorem app_l {m t b:Nat} {L:List Int} {v:Int} {g1 g:List (Nat × Blk)} (hr:L.length≤1000000000) (h1:∀ e,e∈(t,Blk.cells [AV.int .i64 v])::g1→e.1≠b) (h2:∀ e,e∈g→e.1≠b) :
  qbz Tryz.prog ⟨m,[(t,.cells [.int .i64 v])::g1,lF b L++g]⟩ 3 (lA b L) (.slc t 0 1 (.ex 1))=some (.slc m 0 (L.length+1) (.rest 1),⟨m+1,[(m,.cells (qcd (L++[v])))::(t,.cells [.int .i64 v])::g1,g]⟩):=by
 have miss:∀ (l:List (Nat × Blk)),(∀ e,e∈l→e.1≠b)→getF b l=none:=by
  intro l
  induction l with
  | nil=>intro _;rfl
  | cons x r ih=>
   intro h
   unfold getF
   rw [qao (h x (by simp))]
   exact ih fun e he=>h e (by simp [he])
 have hm1:=miss _ h1
 have hg:=miss _ h2
 have hdrop:Heap.drop ⟨m,[(t,.cells [.int .i64 v])::g1,lF b L++g]⟩ b=⟨m,[(t,.cells [.int .i64 v])::g1,g]⟩:=by
  simp only [Heap.drop,qdz,hm1]
  cases L with
  | nil=>simp [lF,qes,hg]
  | cons x r=>simp [lF,qes,qcd,getF,killF]
 have h:=qgk (P:=Tryz.prog) (H:=⟨m,[(t,.cells [.int .i64 v])::g1,lF b L++g]⟩) (elem:=3) (b:=b) (n:=0) (es:=qcd L) (cs:=[.int .i64 v]) (x:=.slc t 0 1 (.ex 1)) szT3 byT3 zeT3 rfl (by omega) (by omega) rfl
  (by simp [qb4,readCells,Heap.get,getFs,getF,Blk.rd,qek,qef]) rfl rfl (qqb L) (by simp;omega) (fun hne=>by
   have hL:L≠[]:=ne_ints hne
   simp only [Heap.get,getFs,hm1,qi7 hL,qf8]
   simp [getF]) (fun he=>by
   have hL:L=[]:=by simpa [qcd] using he
   subst hL
   rw [hdrop];rfl) (by intro cs;rfl)
 have e:qcd L++[.int .i64 v]=qcd (L++[v]):=by simp [qcd,qb6]
 rw [hdrop,qf8,e] at h
 simpa [lA,Heap.new,pushF] using h
theorem FitH.rows {n:Nat} {σ:List (Nat × Nat)} {H H':Heap} (nd1:(σ.map (·.1)).Nodup) (nd2:(σ.map (·.2)).Nodup) (nd3:(H'.ents.map (·.1)).Nodup) (lt:∀ x,x∈σ→x.2 < H'.n) (idn:∀ x,x∈σ→x.1 < n∨x.2 < n→x.1=x.2) (num:n≤H'.n)
  (src:∀ e,e∈H'.ents→∃ b cs,(b,e.1)∈σ∧H.get b=some (.cells cs)∧e.2=.cells cs∧qac cs=true):FitH n σ [] H H' where
 nd1:=by simpa using nd1
 nd2:=nd2
 nd3:=nd3
 lt:=lt
 idn:=fun x hx h=>idn x hx (.inr h)
 num:=num
 src:=fun e he=>by
  obtain ⟨b,cs,h1,h2,h3,h4⟩:=src e he
  exact ⟨b,_,h1,h2,by rw [h3];exact qaj h4⟩
 frz:=fun x h=>by cases h
def hW (L I O:List Int):Heap:=⟨3,[lF 2 L++[(0,.cells (qcd I)),(1,.cells (qcd O))]]⟩
def hW' (L I O:List Int):Heap:=⟨4,[lF 3 L++[(0,.cells (qcd I)),(1,.cells (qcd O))]]⟩
def hL (t:Tr) (L I O:List Int):Heap:=⟨5,[[(4,.cells (qcd L)),(3,.cells [qae t])],[(0,.cells (qcd I)),(1,.cells (qcd O))]]⟩
theorem qtn {t:Tr} {L I O:List Int} {m a:Nat} {f:List (Nat × Blk)} (ha:getF a f=some (.cells (qcd L))) (h3:getF 3 f=some (.cells [qae t])) (h0:getF 0 f=none) (h1:getF 1 f=none) (ha4:3 < a) :
  FitH 3 [(a,4),(3,3),(0,0),(1,1)] [] ⟨m,[f,[(0,.cells (qcd I)),(1,.cells (qcd O))]]⟩ (hL t L I O):=by
 refine .rows (by simp;omega) (by simp) (by simp [hL,Heap.ents]) (by simp [hL]) (by simp;omega) (by simp [hL]) ?_
 intro e he
 simp [hL,Heap.ents] at he
 rcases he with rfl | rfl | rfl | rfl
 ·exact ⟨a,_,by simp,by simp [Heap.get,getFs,ha],rfl,qb8 _⟩
 ·exact ⟨3,_,by simp,by simp [Heap.get,getFs,h3],rfl,by simp [qac]⟩
 ·exact ⟨0,_,by simp,by simp [Heap.get,getFs,h0,getF],rfl,qb8 _⟩
 ·exact ⟨1,_,by simp,by simp [Heap.get,getFs,h1,getF],rfl,qb8 _⟩
theorem fit_out {t:Tr} {L I O:List Int} (hne:L≠[]):FitH 3 [(4,3),(0,0),(1,1)] [] (hL t L I O) (hW' L I O):=by
 refine .rows (by simp) (by simp) (by simp [hW',qi7 hne,Heap.ents]) (by simp [hW']) (by simp) (by simp [hW']) ?_
 intro e he
 simp [hW',qi7 hne,Heap.ents] at he
 rcases he with rfl | rfl | rfl
 ·exact ⟨4,_,by simp,by simp [hL,Heap.get,getFs,getF],rfl,qb8 _⟩
 ·exact ⟨0,_,by simp,by simp [hL,Heap.get,getFs,getF],rfl,qb8 _⟩
 ·exact ⟨1,_,by simp,by simp [hL,Heap.get,getFs,getF],rfl,qb8 _⟩
theorem call_in {t:Tr} {f:FuncId} {C:Ctx} {n i:Nat} {L I O L' I' O':List Int} {c c':Int} (hne:L≠[]) (hne':L'≠[])
  (h:CallAt C f [qav t,.int .i64 i,lA 2 L,.slc 0 0 n (.ex n),.slc 1 0 n (.ex n),.int .i64 c] (hW L I O) (.tup [lA 3 L',.int .i64 c']) (hW' L' I' O')) :
  CallAt C f [qav t,.int .i64 i,.slc 4 0 L.length (.rest 1),.slc 0 0 n (.ex n),.slc 1 0 n (.ex n),.int .i64 c] (hL t L I O) (.tup [.slc 5 0 L'.length (.rest 1),.int .i64 c'])
   ⟨6,[[(5,.cells (qcd L')),(3,.cells [qae t])],[(0,.cells (qcd I')),(1,.cells (qcd O'))]]⟩:=by
 have hf:FitH 0 [(4,2),(0,0),(1,1)] [] (hL t L I O) (hW L I O):=by
  refine .rows (by simp) (by simp) (by simp [hW,qi7 hne,Heap.ents]) (by simp [hW]) (by simp) (by simp [hW]) ?_
  intro e he
  simp [hW,qi7 hne,Heap.ents] at he
  rcases he with rfl | rfl | rfl
  ·exact ⟨4,_,by simp,by simp [hL,Heap.get,getFs,getF],rfl,qb8 _⟩
  ·exact ⟨0,_,by simp,by simp [hL,Heap.get,getFs,getF],rfl,qb8 _⟩
  ·exact ⟨1,_,by simp,by simp [hL,Heap.get,getFs,getF],rfl,qb8 _⟩
 have:=h.framed (H:=hL t L I O) (H':=⟨6,[[(5,.cells (qcd L')),(3,.cells [qae t])],[(0,.cells (qcd I')),(1,.cells (qcd O'))]]⟩) (σ:=[(4,2),(0,0),(1,1)])
  (args:=[qav t,.int .i64 i,.slc 4 0 L.length (.rest 1),.slc 0 0 n (.ex n),.slc 1 0 n (.ex n),.int .i64 c]) hf ?_ ?_ (by simp [hW,hW'])
 ·simpa [qp9 hne',qhx,qfh,qgm,qdt,hL,hW] using this
 ·rw [qp9 hne]
  simp [qb1,qar,qay,qba,qah]
 ·refine ⟨by simp [hL,hW,hW'],by simp [Heap.ents],?_⟩
  intro e he
  have hI:qfh (qgm [(4,2),(0,0),(1,1)] 5 3) (qcd I')=qcd I':=qbr _ (qb8 _)
  have hO:qfh (qgm [(4,2),(0,0),(1,1)] 5 3) (qcd O')=qcd O':=qbr _ (qb8 _)
  have hL':qfh (qgm [(4,2),(0,0),(1,1)] 5 3) (qcd L')=qcd L':=qbr _ (qb8 _)
  simp [Heap.ents] at he
  rcases he with rfl | rfl | rfl | rfl
  ·exact .inl ⟨(3,.cells (qcd L')),by simp [hW',qi7 hne',Heap.ents],by simp [hL,hW,ql9,hL'];simp [qgm,qdt]⟩
  ·exact .inr ⟨by simp [hL,Heap.ents],by simp⟩
  ·exact .inl ⟨(0,.cells (qcd I')),by simp [hW',qi7 hne',Heap.ents],by simp [hL,hW,ql9,hI];simp [qgm,qdt]⟩
  ·exact .inl ⟨(1,.cells (qcd O')),by simp [hW',qi7 hne',Heap.ents],by simp [hL,hW,ql9,hO];simp [qgm,qdt]⟩
theorem get1 {L:List Int} {i:Nat} (h:i < L.length):qc7 (qcd L) i=some (.int .i64 L[i]):=by simp [qcd,qg3 h,qb6]
theorem ixI {b n i:Nat} {cap:Cap} (h:i < n):qat Tryz.prog 30 (.slc b 0 n cap) (.int .i64 (i:Int))=some (.ptr b i):=by
 simp [qat,qbs h]
theorem qzk {n:Nat} {ks:Nat→List Int}:∀ (f i:Nat) (w:Wk),w.l≠[]→(vis n ks f i w).l≠[]
 | 0,_,w,h=>h
 | f+1,i,w,h=>by
  have hk:∀ (r:List Int) (w:Wk),w.l≠[]→(kl n (vis n ks f) r w).l≠[]:=by
   intro r
   induction r with
   | nil=>intro w h;exact h
   | cons k r ih=>
    intro w h
    unfold kl
    split
    ·exact ih _ (qzk f _ _ h)
    ·exact ih _ h
  exact hk (ks i) (into i w) (by simp [into])
theorem c48 {T:List (Entry Tryz.prog)} (t:Tr) {K:Nat} (hK:K≤1000) (hkd:∀ x,x∈t→x.kids.length≤1000):∀ (f i:Nat) (w:Wk),Low t.length K 0 w→i < t.length→w.inn.getD i 0 < 0→qhl w.inn≤f →
  CallAt (ctx T) 48 [qav t,.int .i64 i,lA 2 w.l,.slc 0 0 t.length (.ex t.length),.slc 1 0 t.length (.ex t.length),.int .i64 w.c] (hW w.l w.inn w.out)
   (.tup [lA 3 (vis t.length (qap t) f i w).l,.int .i64 (vis t.length (qap t) f i w).c]) (hW' (vis t.length (qap t) f i w).l (vis t.length (qap t) f i w).inn (vis t.length (qap t) f i w).out)
 | 0,i,w,h,hi,hn,hf=>by
  have e:=qj2 (I:=w.inn) (by rw [h.1.li];exact hi) hn h.1.c0
  omega
 | f+1,i,w,h,hi,hn,hf=>by
  obtain ⟨g1,g2,g3⟩:=h.1.into hi hn
  have hlow:Low t.length K 0 (into i w):=⟨g1,by omega⟩
  have hc:=h.1.c0
  have hcb:=h.1.cb
  have hlb:=h.1.lb
  have hli:=h.1.li
  have hlo:=h.1.lo
  have hkl:(qap t i).length≤1000:=by rw [← qd5 hi];exact hkd _ (List.getElem_mem hi)
  have happ:=app_l (m:=5) (t:=4) (b:=2) (L:=w.l) (v:=(i:Int)) (g1:=[(3,.cells [qae t])]) (g:=[(0,.cells (qcd w.inn)),(1,.cells (qcd w.out))]) (by omega) (by simp) (by simp)
  unfold hW
  refine qa2 (fn:=Tryz.f48) (s0:=⟨[0,1,2,3,4,5,6,12,13,14,15],[qav t,.int .i64 i,lA 2 w.l,.slc 0 0 t.length (.ex t.length),.slc 1 0 t.length (.ex t.length),.int .i64 w.c,.undef,.undef,.undef,.undef,.undef],[],79,⟨3,[]::[lF 2 w.l++[(0,.cells (qcd w.inn)),(1,.cells (qcd w.out))]]⟩⟩) Tryz.func48 rfl rfl rfl ?_
  repeat apply wq
  refine qa0 qa1 ?_
  simp [zS,qav]
  repeat apply wq
  refine qa0 qa1 ?_
  simp [zS,happ]
  have hst:=lay1 (L:=w.inn) (i:=i) (v:=w.c) (by omega)
  repeat apply wq
  refine qa0 qa1 ?_
  simp [zS,ixI hi,hst]
  repeat apply wq
  refine qa0 qa1 ?_
  simp [zS,qep (show -1000000000000≤w.c+1 by omega) (show w.c+1≤1000000000000 by omega)]
  repeat apply wq
  refine qa0 qa1 ?_
  simp [zS]
  obtain ⟨w2,hw2⟩ : ∃ w2,w2=kl t.length (vis t.length (qap t) f) (qap t i) (into i w):=⟨_,rfl⟩
  have hvis:vis t.length (qap t) (f+1) i w=outof i w2:=by rw [hw2];rfl
  rw [hvis]
  have hb0:0≤(0:Int):=Int.le_refl 0
  refine qab (qb7 (fun x:Nat × Wk=>(⟨[0,1,2,3,4,5,6,12,13,14,15],[qav t,.int .i64 i,.slc 4 0 x.2.l.length (.rest 1),.slc 0 0 t.length (.ex t.length),.slc 1 0 t.length (.ex t.length),.int .i64 x.2.c,.ptr 3 0,.undef,.undef,.int .i64 x.1,.undef],[],79,hL t x.2.l x.2.inn x.2.out⟩ : St))
   (fun x=>x.1≤(qap t i).length∧x.2.l≠[]∧Low t.length K 1 x.2∧qhl x.2.inn≤f∧kl t.length (vis t.length (qap t) f) ((qap t i).drop x.1) x.2=w2) (fun x=>(qap t i).length - x.1) [(5,4),(3,3),(0,0),(1,1)] [] (0,into i w)
   ⟨Nat.zero_le _,by simp [into],⟨g1,g3⟩,by show qhl (into i w).inn≤f;omega,hw2.symm⟩
   ⟨rfl,rfl,rfl,by simp [qb1,qar,qay,qah,into,qav,qac],qtn (t:=t) (L:=w.l++[(i:Int)]) (I:=w.inn.set i w.c) (O:=w.out) (m:=6) (a:=5) (f:=[(5,.cells (qcd (w.l++[(i:Int)]))),(4,.cells [.int .i64 i]),(3,.cells [qae t])]) rfl rfl rfl rfl (by omega)⟩ ?_)
  rintro ⟨j,x⟩ ⟨hj,hne,hx,hfx,hk⟩ B hB
  simp only at hj hne hx hfx hk
  have xli:=hx.1.li
  have xlo:=hx.1.lo
  have xc0:=hx.1.c0
  have xcb:=hx.2
  have hget:∀ m,(hm:m < t.length)→x.inn[m]'(by omega)=x.inn.getD m 0:=fun m hm=>by rw [List.getD_eq_getElem?_getD,List.getElem?_eq_getElem (by omega),Option.getD_some]
  repeat apply wq
  refine qa0 qa1 ?_
  simp [zS,hL,atN hi,lenI,qd5 hi,Nd.cs]
  refine qb9 rfl (fun h=>?_) fun h=>?_
  ·simp at h
   refine qa9 ?_
   simp
   repeat apply wq
   refine qab ?_
   obtain ⟨k,hkj⟩ : ∃ k,k=(qap t i)[j]:=⟨_,rfl⟩
   have hdrop:(qap t i).drop j=k::(qap t i).drop (j+1):=by rw [List.drop_eq_getElem_cons h,hkj]
   rw [hdrop] at hk
   unfold kl at hk
   repeat apply wq
   refine qa0 qa1 ?_
   simp [zS,hL,atN hi,qd5 hi,Nd.cs,atI h,← hkj]
   by_cases h0:0≤k
   ·obtain ⟨m,rfl⟩:=Int.eq_ofNat_of_zero_le h0
    by_cases h1:m < t.length
    ·have hgm:=hget m h1
     by_cases h2:x.inn.getD m 0 < 0
     ·rw [if_pos ⟨h0,by omega,h2⟩] at hk
      have h2':x.inn[m]'(by omega) < 0:=by rw [hgm];exact h2
      repeat apply wq
      refine qa0 qa1 ?_
      simp [zS,hL,h1,qkl,ixI h1,get1 (show m < x.inn.length by omega),h2']
      refine qan rfl ?_
      have hx0:Low t.length K 0 x:=⟨hx.1,by have:=hx.2;omega⟩
      have ih:=c48 (T:=T) t hK hkd f m x hx0 h1 h2 hfx
      obtain ⟨q1,q2⟩:=qvs (ks:=qap t) f 1 m x (by omega) hx h1 h2 hfx
      have hkm:(Int.toNat (m:Int))=m:=by simp
      rw [hkm] at hk
      have hny:=qzk (n:=t.length) (ks:=qap t) f m x hne
      obtain ⟨y,hy⟩ : ∃ y,y=vis t.length (qap t) f m x:=⟨_,rfl⟩
      rw [← hy] at ih q1 q2 hk hny
      have hcall:=call_in hne hny ih
      refine qa0 (qbc [⟨48,_,_,_,_,hcall⟩]) ?_
      simp [zS,qce,hL,qav]
      refine qa0 qa1 ?_
      simp [zS,qbu (show j≤1000000000 by omega)]
      exact hB _ (j+1,y) (by simp;omega) ⟨by simp;omega,hny,q1,by simp only;omega,hk⟩ ⟨[(5,4),(3,3),(0,0),(1,1)],[],rfl,rfl,rfl,by simp [qb1,qar,qay,qah,qav,qac],qtn (t:=t) (L:=y.l) (I:=y.inn) (O:=y.out) (m:=6) (a:=5) (f:=[(5,.cells (qcd y.l)),(3,.cells [qae t])]) rfl rfl rfl rfl (by omega)⟩
     ·rw [if_neg (fun hx=>h2 hx.2.2)] at hk
      have h2':¬ x.inn[m]'(by omega) < 0:=by rw [hgm];exact h2
      repeat apply wq
      refine qa0 qa1 ?_
      simp [zS,hL,h1,qkl,ixI h1,get1 (show m < x.inn.length by omega),h2']
      refine qam rfl ?_
      refine qa9 ?_
      simp
      refine qa0 qa1 ?_
      simp [zS,qbu (show j≤1000000000 by omega)]
      exact hB _ (j+1,x) (by simp;omega) ⟨by simp;omega,hne,hx,hfx,hk⟩ ⟨[(4,4),(3,3),(0,0),(1,1)],[],rfl,rfl,rfl,by simp [qb1,qar,qay,qah,qav,qac],qtn (t:=t) (L:=x.l) (I:=x.inn) (O:=x.out) (m:=5) (a:=4) (f:=[(4,.cells (qcd x.l)),(3,.cells [qae t])]) rfl rfl rfl rfl (by omega)⟩
    ·rw [if_neg (fun hx=>h1 (by omega))] at hk
     repeat apply wq
     refine qa0 qa1 ?_
     simp [zS,hL,h1,qkl]
     refine qam rfl ?_
     refine qa9 ?_
     simp
     refine qa0 qa1 ?_
     simp [zS,qbu (show j≤1000000000 by omega)]
     exact hB _ (j+1,x) (by simp;omega) ⟨by simp;omega,hne,hx,hfx,hk⟩ ⟨[(4,4),(3,3),(0,0),(1,1)],[],rfl,rfl,rfl,by simp [qb1,qar,qay,qah,qav,qac],qtn (t:=t) (L:=x.l) (I:=x.inn) (O:=x.out) (m:=5) (a:=4) (f:=[(4,.cells (qcd x.l)),(3,.cells [qae t])]) rfl rfl rfl rfl (by omega)⟩
   ·rw [if_neg (fun hx=>h0 hx.1)] at hk
    repeat apply wq
    refine qa0 qa1 ?_
    simp [zS,hL,h0]
    refine qam rfl ?_
    refine qa9 ?_
    simp
    refine qa0 qa1 ?_
    simp [zS,qbu (show j≤1000000000 by omega)]
    exact hB _ (j+1,x) (by simp;omega) ⟨by simp;omega,hne,hx,hfx,hk⟩ ⟨[(4,4),(3,3),(0,0),(1,1)],[],rfl,rfl,rfl,by simp [qb1,qar,qay,qah,qav,qac],qtn (t:=t) (L:=x.l) (I:=x.inn) (O:=x.out) (m:=5) (a:=4) (f:=[(4,.cells (qcd x.l)),(3,.cells [qae t])]) rfl rfl rfl rfl (by omega)⟩
  ·simp at h
   refine qaw ?_
   simp
   have hjl:j=(qap t i).length:=by omega
   rw [hjl,List.drop_length] at hk
   have hk2:x=w2:=hk
   subst hk2
   have hst:=lay1 (L:=x.out) (i:=i) (v:=x.c) (by omega)
   repeat apply wq
   refine qa0 qa1 ?_
   simp [zS,hL,ixI hi,hst]
   repeat apply wq
   refine qa0 qa1 ?_
   simp [zS,qep (show -1000000000000≤x.c+1 by omega) (show x.c+1≤1000000000000 by omega)]
   refine qa8 ?_
   simp [qad,Tryz.f48,oneOr]
   refine ⟨[(4,3),(0,0),(1,1)],[],?_,fit_out (t:=t) (L:=x.l) (I:=x.inn) (O:=x.out.set i x.c) hne⟩
   simp [outof,qp9 hne,qar,qb1,qay,qah]
theorem qsj:∀ (n:Nat),replL [.int .i64 0] n=qcd (List.replicate n 0)
 | 0=>rfl
 | n+1=>by simp only [replL,qsj n,List.replicate_succ,qcd,List.map_cons];rfl
theorem msInt {n:Nat} (h:n≤1000000):msB Tryz.prog 30 (.int .i64 (n:Int)) (.int .i64 (n:Int))=some (fun b=>.slc b 0 n (.ex n),.cells (qcd (List.replicate n 0))):=by
 have h1:idx (n:Int) 17592186044416=some n:=qbs (by omega)
 have h2:idx (n:Int) (Nat.succ n)=some n:=qbs (by omega)
 have h3:qck n 8=true:=by simp [qck];omega
 have hz:qbn Tryz.prog 3=some (.int .i64 0):=zeT3
 have hs:qbw Tryz.prog 3=some 1:=szT3
 have hb:qc6 Tryz.prog 3=some 8:=byT3
 simp only [msB,Tryz.underlying30,Option.bind_some,hs,hb,h1,h2,h3,hz]
 simp [AV.cells,qsj]
theorem qrj {σ:List (Nat × Nat)} {Φ:List (Nat × List AV)} {b n:Nat} {cap:Cap} {L:List Int} (h:qc5 b Φ=some (qcd L)) (hn:n=L.length):qar σ Φ (.slc b 0 n cap) (qbh L):=by
 subst hn
 simp only [qbh,qar]
 refine .inl ⟨qcd L,h,?_,by simp,(qqb L).size⟩
 have:=qn9 (qqb L) (k:=L.length) (by simp)
 rw [qf8,List.take_of_length_le (by simp)] at this
 exact this
theorem vis_ne1 {n:Nat} {ks:Nat→List Int} (f i:Nat) (w:Wk):(vis n ks (f+1) i w).l≠[]:=by
 have hk:∀ (r:List Int) (w:Wk),w.l≠[]→(kl n (vis n ks f) r w).l≠[]:=by
  intro r
  induction r with
  | nil=>intro w h;exact h
  | cons k r ih=>
   intro w h
   unfold kl
   split
   ·exact ih _ (qzk f _ _ h)
   ·exact ih _ h
 exact hk (ks i) (into i w) (by simp [into])
def hA (t:Tr) (I O:List Int):Heap:=⟨3,[[(2,.cells (qcd O)),(1,.cells (qcd I)),(0,.cells [qae t])]]⟩
theorem fit_A {t:Tr} {I O:List Int} {m a b:Nat} {f:List (Nat × Blk)} (ha:getF a f=some (.cells (qcd O))) (hb:getF b f=some (.cells (qcd I))) (h0:getF 0 f=some (.cells [qae t])) (hab:a≠b) (ha0:a≠0) (hb0:b≠0) :
  FitH 0 [(a,2),(b,1),(0,0)] [] ⟨m,[f]⟩ (hA t I O):=by
 refine .rows (by simp [hab,ha0,hb0]) (by simp) (by simp [hA,Heap.ents]) (by simp [hA]) (by simp) (by simp [hA]) ?_
 intro e he
 simp [hA,Heap.ents] at he
 rcases he with rfl | rfl | rfl
 ·exact ⟨a,_,by simp,by simp [Heap.get,getFs,ha],rfl,qb8 _⟩
 ·exact ⟨b,_,by simp,by simp [Heap.get,getFs,hb],rfl,qb8 _⟩
 ·exact ⟨0,_,by simp,by simp [Heap.get,getFs,h0],rfl,by simp [qac]⟩
theorem call_all {t:Tr} {f:FuncId} {C:Ctx} {n:Nat} {I O L' I' O':List Int} {c c':Int} (hne':L'≠[])
  (h:CallAt C f [qav t,.int .i64 0,lA 2 [],.slc 0 0 n (.ex n),.slc 1 0 n (.ex n),.int .i64 c] (hW [] I O) (.tup [lA 3 L',.int .i64 c']) (hW' L' I' O')) :
  CallAt C f [qav t,.int .i64 0,.nilS,.slc 1 0 n (.ex n),.slc 2 0 n (.ex n),.int .i64 c] (hA t I O) (.tup [.slc 3 0 L'.length (.rest 1),.int .i64 c'])
   ⟨4,[[(3,.cells (qcd L')),(2,.cells (qcd O')),(1,.cells (qcd I')),(0,.cells [qae t])]]⟩:=by
 have hf:FitH 0 [(1,0),(2,1)] [] (hA t I O) (hW [] I O):=by
  refine .rows (by simp) (by simp) (by simp [hW,lF,qes,Heap.ents]) (by simp [hW]) (by simp) (by simp [hW]) ?_
  intro e he
  simp [hW,lF,qes,Heap.ents] at he
  rcases he with rfl | rfl
  ·exact ⟨1,_,by simp,by simp [hA,Heap.get,getFs,getF],rfl,qb8 _⟩
  ·exact ⟨2,_,by simp,by simp [hA,Heap.get,getFs,getF],rfl,qb8 _⟩
 have:=h.framed (H:=hA t I O) (H':=⟨4,[[(3,.cells (qcd L')),(2,.cells (qcd O')),(1,.cells (qcd I')),(0,.cells [qae t])]]⟩) (σ:=[(1,0),(2,1)])
  (args:=[qav t,.int .i64 0,.nilS,.slc 1 0 n (.ex n),.slc 2 0 n (.ex n),.int .i64 c]) hf ?_ ?_ (by simp [hW,hW'])
 ·simpa [qp9 hne',qhx,qfh,qgm,qdt,hA,hW] using this
 ·simp [lA,qdk,qb1,qar,qay,qba,qah]
 ·refine ⟨by simp [hA,hW,hW'],by simp [Heap.ents],?_⟩
  intro e he
  have hI:qfh (qgm [(1,0),(2,1)] 3 3) (qcd I')=qcd I':=qbr _ (qb8 _)
  have hO:qfh (qgm [(1,0),(2,1)] 3 3) (qcd O')=qcd O':=qbr _ (qb8 _)
  have hL':qfh (qgm [(1,0),(2,1)] 3 3) (qcd L')=qcd L':=qbr _ (qb8 _)
  simp [Heap.ents] at he
  rcases he with rfl | rfl | rfl | rfl
  ·exact .inl ⟨(3,.cells (qcd L')),by simp [hW',qi7 hne',Heap.ents],by simp [hA,hW,ql9,hL'];simp [qgm,qdt]⟩
  ·exact .inl ⟨(1,.cells (qcd O')),by simp [hW',qi7 hne',Heap.ents],by simp [hA,hW,ql9,hO];simp [qgm,qdt]⟩
  ·exact .inl ⟨(0,.cells (qcd I')),by simp [hW',qi7 hne',Heap.ents],by simp [hA,hW,ql9,hI];simp [qgm,qdt]⟩
  ·exact .inr ⟨by simp [hA,Heap.ents],by simp⟩
def finW (n:Nat) (ks:Nat→List Int):Wk:=if n=0 then w0 0 else vis n ks n 0 (w0 n)
theorem c26 {T:List (Entry Tryz.prog)} (t:Tr) (hn:t.length≤1000) (hkd:∀ x,x∈t→x.kids.length≤1000) :
  CallAt (ctx T) 26 [qav t] ⟨0,[]⟩ (.tup [qbh (qbf t.length (qap t)),qbh (finW t.length (qap t)).inn,qbh (finW t.length (qap t)).out]) ⟨0,[]⟩:=by
 refine qa2 (fn:=Tryz.f26) (s0:=⟨[0,1,2,3,4,5,6,7,8],[qav t,.undef,.undef,.undef,.undef,.undef,.undef,.undef,.undef],[],42,⟨0,[[]]⟩⟩) Tryz.func26 rfl rfl rfl ?_
 repeat apply wq
 refine qa0 qa1 ?_
 simp [zS,qav]
 repeat apply wq
 refine qd3 mixed qa1 (by decide +kernel) fun B_ hB_=>?_
 simp [zS,qds,qcc,qkt,qgf,qbv,qby,qas,qcs,qd1,qeq,qcj,Heap.lay,qeh,qaz,qax,qkl,msInt (show t.length≤1000000 by omega)]
 repeat apply wq
 refine qa0 qa1 ?_
 simp [zS]
 refine qab (qb7 (fun x:Nat × List Int × List Int=>(⟨[0,1,2,3,4,5,6,7,8],[qav t,.ptr 0 0,.undef,.undef,.undef,.slc 1 0 t.length (.ex t.length),.slc 2 0 t.length (.ex t.length),.int .i64 x.1,.undef],[],42,hA t x.2.1 x.2.2⟩ : St))
  (fun x=>x.1≤t.length∧x.2.1.length=t.length∧x.2.2.length=t.length∧x.2.1.take x.1=List.replicate x.1 (-1)∧x.2.2.take x.1=List.replicate x.1 (-1)) (fun x=>t.length - x.1) [(8,2),(4,1),(0,0)] [] (0,List.replicate t.length 0,List.replicate t.length 0)
  ⟨Nat.zero_le _,by simp,by simp,by simp,by simp⟩
  ⟨rfl,rfl,rfl,by simp [qb1,qar,qay,qah,qav,qac],fit_A (by simp [getF]) (by simp [getF]) (by simp [getF]) (by omega) (by omega) (by omega)⟩ ?_)
 rintro ⟨i,I,O⟩ ⟨hi,hI,hO,hti,hto⟩ B hB
 simp only at hi hI hO hti hto
 repeat apply wq
 refine qa0 qa1 ?_
 simp [zS,hA,qeu]
 refine qb9 rfl (fun h=>?_) fun h=>?_
 ·simp at h
  refine qa9 ?_
  simp
  repeat apply wq
  refine qab ?_
  have l1:=lay1 (L:=I) (i:=i) (v:=-1) (by omega)
  have l2:=lay1 (L:=O) (i:=i) (v:=-1) (by omega)
  refine qa0 qa1 ?_
  simp [zS,ixI h,l1,l2]
  refine qa0 qa1 ?_
  simp [zS,qbu (show i≤1000000000 by omega)]
  refine hB _ (i+1,I.set i (-1),O.set i (-1)) (by simp;omega) ⟨by simp;omega,by simp [hI],by simp [hO],?_,?_⟩ ⟨[(2,2),(1,1),(0,0)],[],rfl,rfl,rfl,by simp [qb1,qar,qay,qah,qav,qac],fit_A (by simp [getF]) (by simp [getF]) (by simp [getF]) (by omega) (by omega) (by omega)⟩
  ·simp only
   rw [List.take_succ_eq_append_getElem (by simp;omega),List.take_set_of_le (Nat.le_refl _),hti,List.replicate_succ'];simp
  ·simp only
   rw [List.take_succ_eq_append_getElem (by simp;omega),List.take_set_of_le (Nat.le_refl _),hto,List.replicate_succ'];simp
 ·simp at h
  have hin:i=t.length:=by omega
  subst hin
  rw [List.take_of_length_le (by omega)] at hti hto
  subst hti hto
  refine qaw ?_
  simp
  repeat apply wq
  refine qa0 qa1 ?_
  simp [zS]
  by_cases hz:t.length=0
  ·have ht:t=[]:=List.length_eq_zero_iff.1 hz
   subst ht
   repeat apply wq
   refine qa0 qa1 ?_
   simp [zS,qeu]
   refine qam rfl ?_
   refine qa9 ?_
   simp
   repeat apply wq
   refine qa0 qa1 ?_
   simp [zS]
   refine qa8 ?_
   simp [qad,Tryz.f26,oneOr]
   exact ⟨[],[],by simp [qar,qb1,qbh,qbf,finW,w0],FitH.empty⟩
  ·have hpos:0 < t.length:=by omega
   have hr:qhl (w0 t.length).inn≤t.length:=by simp [w0,qmo]
   have hw:=c48 (T:=T) t hn hkd t.length 0 (w0 t.length) (w0_ok _) (by omega) (by simp [w0,List.getD_eq_getElem?_getD,Nat.pos_of_ne_zero hz]) hr
   obtain ⟨m,hm⟩ : ∃ m,t.length=m+1:=⟨t.length - 1,by omega⟩
   have hny:(vis t.length (qap t) t.length 0 (w0 t.length)).l≠[]:=by
    have:=vis_ne1 (n:=t.length) (ks:=qap t) m 0 (w0 t.length)
    rw [← hm] at this;exact this
   have hvo:qbf t.length (qap t)=(vis t.length (qap t) t.length 0 (w0 t.length)).l:=by simp [qbf,hz]
   have hfo:finW t.length (qap t)=vis t.length (qap t) t.length 0 (w0 t.length):=by simp [finW,hz]
   obtain ⟨y1,y2⟩:=qvs (ks:=qap t) t.length 0 0 (w0 t.length) (by omega) (w0_ok _) (by omega) (by simp [w0,List.getD_eq_getElem?_getD,Nat.pos_of_ne_zero hz]) hr
   rw [hvo,hfo]
   obtain ⟨y,hy⟩ : ∃ y,y=vis t.length (qap t) t.length 0 (w0 t.length):=⟨_,rfl⟩
   rw [← hy] at hw hny y1 ⊢
   have hcall:=call_all (t:=t) hny hw
   simp only [w0] at hcall
   repeat apply wq
   refine qa0 qa1 ?_
   simp [zS,qeu,hpos]
   refine qan rfl ?_
   refine qa0 (qbc [⟨48,_,_,_,_,hcall⟩]) ?_
   simp [zS,qce,hA,qav]
   repeat apply wq
   refine qa0 qa1 ?_
   simp [zS]
   refine qa8 ?_
   simp [qad,Tryz.f26,oneOr]
   refine ⟨[],[(3,qcd y.l),(1,qcd y.inn),(2,qcd y.out)],?_,.froze (by simp) fun x hx=>?_⟩
   ·simp only [qar,qb1]
    exact .inl ⟨qrj (σ:=[]) (cap:=.rest 1) (by simp [qc5]) rfl,qrj (σ:=[]) (cap:=.ex t.length) (by simp [qc5]) y1.1.li.symm,qrj (σ:=[]) (cap:=.ex t.length) (by simp [qc5]) y1.1.lo.symm,trivial⟩
   ·simp at hx
    rcases hx with rfl | rfl | rfl
    ·exact ⟨_,by simp [Heap.get,getFs,getF],qaj (qb8 _),qb8 _⟩
    ·exact ⟨_,by simp [Heap.get,getFs,getF],qaj (qb8 _),qb8 _⟩
    ·exact ⟨_,by simp [Heap.get,getFs,getF],qaj (qb8 _),qb8 _⟩
def zay (t:Tr):Prop:=t.length≤1000∧∀ x,x∈t→x.kids.length≤1000∧x.attrs.length≤1000
def za4 (t:Tr):Prop:=t.length≤50∧zay t
noncomputable def e26:Entry Tryz.prog:=mkE 26 [[]] (fun t:Tr=>[qav t]) zay (fun t=>.tup [qbh (qbf t.length (qap t)),qbh (finW t.length (qap t)).inn,qbh (finW t.length (qap t)).out]) fun t ht=>c26 (T:=[]) t ht.1 fun x hx=>(ht.2 x hx).1
@[simp] theorem ok_aTree (t:Tr):okV (qav t)=true:=by simp [qav,qae,okV,qah,qac]
theorem qiv (H:Heap) (t:Tr):qe4 H [] (qav t)=some (qav t):=qau (by simp)
theorem injT (x y:Tr) (h:[qav x]=[qav y]):x=y:=by simp at h;exact qgp h
theorem k26 {T:List (Entry Tryz.prog)} (hT:qai 26 T=some e26.g) {t:Tr} (ht:zay t) (H:Heap):qbb (ctx T) (.fn 26) [qav t] H=some (.tup [qbh (qbf t.length (qap t)),qbh (finW t.length (qap t)).inn,qbh (finW t.length (qap t)).out],H):=
 qdc hT injT t ht (by simp [qac]) (by simp [qew,qiv]) H
theorem c13 {T:List (Entry Tryz.prog)} (hA:qai 26 T=some e26.g) (t:Tr) (ht:zay t):CallAt (ctx T) 13 [qav t] ⟨0,[]⟩ (qbh (qbf t.length (qap t))) ⟨0,[]⟩:=by
 have hk:=fun H=>k26 hA ht H
 simp only [qav] at hk
 refine qa2 (fn:=Tryz.f13) (s0:=⟨[0,1,2,3],[qav t,.undef,.undef,.undef],[],13,⟨0,[[]]⟩⟩) Tryz.func13 rfl rfl rfl ?_
 (repeat (first
  | (refine qb0 ?_)
  | (refine qab ?_)
  | (refine qc8 ?_;simp only [qaf,qa6])
  | ((refine qa0 qa1 ?_);simp [zS,qav,hk])
  | (refine qan rfl ?_)
  | (refine qam rfl ?_)
  | ((refine qa9 ?_);simp only [qaf,qa6])
  | ((refine qaw ?_);simp [qaf,qa6])))
 refine qa8 ?_
 simp [qad,Tryz.f13,oneOr,qaf,qa6]
 exact ⟨[],[],FitH.empty⟩
noncomputable def e13:Entry Tryz.prog:=mkE 13 [[]] (fun t:Tr=>[qav t]) zay (fun t=>qbh (qbf t.length (qap t))) fun t ht=>c13 (T:=[e26]) rfl t ht
theorem k13 {T:List (Entry Tryz.prog)} (hT:qai 13 T=some e13.g) {t:Tr} (ht:zay t) (H:Heap):qbb (ctx T) (.fn 13) [qav t] H=some (qbh (qbf t.length (qap t)),H):=
 qdc hT injT t ht (by simp [qac]) (by simp [qew,qiv]) H
theorem qzw {q:Nat} (h:q≤1000000000):wr .i64 (((q+1:Nat):Int) - 1)=some (q:Int):=by
 rw [qep (by omega) (by omega)];simp
theorem zbe {n:Nat} {g:Nat→Wk→Wk} {P:Wk→Prop} (hg:∀ i w,i < n→w.inn.getD i 0 < 0→P w→P (g i w)):∀ (ks:List Int) (w:Wk),P w→P (kl n g ks w)
 | [],w,h=>h
 | k::r,w,h=>by
  unfold kl
  split
  ·rename_i hk
   exact zbe hg r _ (hg k.toNat w (by omega) hk.2.2 h)
  ·exact zbe hg r w h
theorem qzl {n:Nat} {ks:Nat→List Int} {P:Wk→Prop} (hin:∀ i w,i < n→w.inn.getD i 0 < 0→P w→P (into i w)) (hout:∀ i w,P w→P (outof i w)):∀ (f i:Nat) (w:Wk),i < n→w.inn.getD i 0 < 0→P w→P (vis n ks f i w)
 | 0,i,w,_,_,h=>h
 | f+1,i,w,hi,hn,h=>by
  unfold vis
  exact hout _ _ (zbe (fun i w hi hn h=>qzl hin hout f i w hi hn h) _ _ (hin i w hi hn h))
structure LOK (n:Nat) (w:Wk):Prop where
 li:w.inn.length=n
 c0:0≤w.c
 rng:∀ x,x∈w.l→0≤x∧x < (n:Int)∧0≤w.inn.getD x.toNat (-1)
 nd:w.l.Nodup
theorem LOK.into {n i:Nat} {w:Wk} (h:LOK n w) (hi:i < n) (hn:w.inn.getD i 0 < 0):LOK n (into i w) where
 li:=by simp [Go.Proofs.YtocnpnnplllneaaGreatDoor.into,h.li]
 c0:=by have:=h.c0;simp only [Go.Proofs.YtocnpnnplllneaaGreatDoor.into];omega
 rng:=fun x hx=>by
  have hl:=h.li
  have hc:=h.c0
  simp only [Go.Proofs.YtocnpnnplllneaaGreatDoor.into,List.mem_append,List.mem_singleton] at hx ⊢
  have hset:∀ j,j < n→(w.inn.set i w.c).getD j (-1)=if i=j then w.c else w.inn.getD j (-1):=fun j hj=>by
   simp only [List.getD_eq_getElem?_getD,List.getElem?_set]
   split <;> simp_all
  rcases hx with hx | rfl
  ·obtain ⟨h1,h2,h3⟩:=h.rng x hx
   refine ⟨h1,h2,?_⟩
   rw [hset _ (by omega)]
   split <;> omega
  ·refine ⟨by omega,by omega,?_⟩
   rw [hset _ (by omega)]
   simp [hc]
 nd:=by
  simp only [Go.Proofs.YtocnpnnplllneaaGreatDoor.into]
  refine List.nodup_append.2 ⟨h.nd,by simp,?_⟩
  intro a ha b hb
  simp at hb
  subst hb
  rintro rfl
  have h3:=(h.rng _ ha).2.2
  have hl:=h.li
  simp only [List.getD_eq_getElem?_getD,Int.toNat_natCast] at h3 hn
  rw [List.getElem?_eq_getElem (by omega)] at h3 hn
  simp at h3 hn
  omega
theorem LOK.out {n i:Nat} {w:Wk} (h:LOK n w):LOK n (outof i w):=⟨h.li,by have:=h.c0;simp only [outof];omega,h.rng,h.nd⟩
theorem qsz {n:Nat} {ks:Nat→List Int} (hn:0 < n):LOK n (vis n ks n 0 (w0 n)):=
 qzl (fun i w hi h1 h2=>h2.into hi h1) (fun i w h=>h.out) n 0 (w0 n) hn (by simp [w0,List.getD_eq_getElem?_getD,hn]) ⟨by simp [w0],by simp [w0],by simp [w0],by simp [w0]⟩
theorem qnr {n:Nat} {ks:Nat→List Int} {x:Int} (h:x∈qbf n ks):0≤x∧x < (n:Int):=by
 unfold qbf at h
 split at h
 ·simp at h
 ·obtain ⟨h1,h2,_⟩:=(qsz (n:=n) (by omega)).rng x h
  exact ⟨h1,h2⟩
theorem qnq {n:Nat} {ks:Nat→List Int}:(qbf n ks).Nodup:=by
 unfold qbf
 split
 ·simp
 ·exact (qsz (n:=n) (by omega)).nd
theorem qns {n:Nat} {ks:Nat→List Int}:(qbf n ks).length≤n:=by
 unfold qbf
 split
 ·simp
 ·rename_i hz
  have hr:qhl (w0 n).inn≤n:=by simp [w0,qmo]
  have:=(qvs (n:=n) (ks:=ks) n 0 0 (w0 n) (by omega) (w0_ok _) (by omega) (by simp [w0,List.getD_eq_getElem?_getD,Nat.pos_of_ne_zero hz]) hr).1.1.lb
  omega
def nd0:Nd:=⟨0,0,[],[],[],0,[]⟩
def qa3 (t:Tr) (i:Int):Nd:=t.getD i.toNat nd0
theorem qbi {t:Tr} {i:Nat} (h:i < t.length):qa3 t (i:Int)=t[i]:=by
 simp [qa3,List.getD_eq_getElem?_getD,List.getElem?_eq_getElem h]
theorem qb3 {t:Tr} {i:Int} (h0:0≤i) (h:i < (t.length:Int)):qa3 t i∈t:=by
 obtain ⟨j,rfl⟩ : ∃ j:Nat,i=j:=⟨i.toNat,by omega⟩
 rw [qbi (by omega)]
 exact List.getElem_mem _
theorem atX {t:Tr} {i:Int} (h0:0≤i) (h:i < (t.length:Int)):qat Tryz.prog 22 (qae t) (.int .i64 i)=some (.fptr (qa3 t i).cs 0):=by
 obtain ⟨j,rfl⟩ : ∃ j:Nat,i=j:=⟨i.toNat,by omega⟩
 rw [atN (by omega),qbi (by omega)]
@[simp] theorem sub_cs (n:Nd):qek 0 7 n.cs=some n.cs:=rfl
theorem qtl (n:Nd):AV.agg n.cs=qa7 n:=rfl
def qol (a:At1):Bool:=decide (a.1.length≤40∧a.2.length≤150)
def qia (L:List At1):Bool:=decide (L.length≤14) && L.all qol
def qju (n:Nd):Bool:=decide (n.name.length≤40) && (decide (n.data.length≤300) && (decide (n.kids.length≤60) && qia n.attrs))
def qlh (t:Tr) (m:Int):Bool:=decide ((t.length:Int)≤m) && t.all qju
theorem c49 {T:List (Entry Tryz.prog)} (L:List At1):CallAt (ctx T) 49 [qak L] ⟨0,[]⟩ (.bool (qia L)) ⟨0,[]⟩:=by
 refine qa2 (fn:=Tryz.f49) (s0:=⟨[0,2,4,8,9,10],[qak L,.undef,.undef,.undef,.undef,.undef],[],25,⟨0,[[]]⟩⟩) Tryz.func49 rfl rfl rfl ?_
 repeat apply wq
 refine qa0 qa1 ?_
 simp [zS]
 by_cases hl:14 < L.length
 ·have hl':(14:Int) < (L.length:Int):=by omega
  repeat apply wq
  refine qa0 qa1 ?_
  simp [zS,qyh,hl']
  refine qan rfl ?_
  repeat apply wq
  refine qa0 qa1 ?_
  simp [zS]
  refine qa8 ?_
  simp [qad,Tryz.f49,oneOr,qaf,qa6]
  exact qa5 rfl (by simp [qia];omega)
 ·have hl':¬ (14:Int) < (L.length:Int):=by omega
  repeat apply wq
  refine qa0 qa1 ?_
  simp [zS,qyh,hl']
  refine qam rfl ?_
  refine qa9 ?_
  simp
  repeat apply wq
  refine qa0 qa1 ?_
  simp [zS,qyh]
  refine qab (qb7 (fun i:Nat=>(⟨[0,2,4,8,9,10],[qak L,.undef,.undef,qak L,.int .i64 (L.length:Nat),.int .i64 i],[],25,⟨0,[[]]⟩⟩ : St))
   (fun i=>i≤L.length∧L.all qol=(L.drop i).all qol) (fun i=>L.length - i) [] [] 0 ⟨Nat.zero_le _,by simp⟩ ⟨rfl,rfl,rfl,by simp [qb1,qar,qah,qac,qak],FitH.nothing⟩ ?_)
  rintro i ⟨hi,he⟩ B hB
  repeat apply wq
  refine qa0 qa1 ?_
  simp [zS]
  repeat apply wq
  refine qb9 rfl (fun h=>?_) fun h=>?_
  ·simp at h
   rw [List.drop_eq_getElem_cons h,List.all_cons] at he
   refine qa9 ?_
   simp
   repeat apply wq
   refine qab ?_
   repeat apply wq
   refine qa0 qa1 ?_
   simp [zS,atA h,rdA1]
   by_cases h1:40 < L[i].1.length
   ·have h1':(40:Int) < (L[i].1.length:Int):=by omega
    have hf:qol L[i]=false:=by simp [qol];omega
    repeat apply wq
    refine qa0 qa1 ?_
    simp [zS,h1']
    refine qan rfl ?_
    repeat apply wq
    refine qa0 qa1 ?_
    simp [zS]
    refine qa8 ?_
    simp [qad,Tryz.f49,oneOr,qaf,qa6]
    exact qa5 rfl (by simp only [qia,he,hf];simp)
   ·have h1':¬ (40:Int) < (L[i].1.length:Int):=by omega
    by_cases h2:150 < L[i].2.length
    ·have h2':(150:Int) < (L[i].2.length:Int):=by omega
     have hf:qol L[i]=false:=by simp [qol];omega
     repeat apply wq
     refine qa0 qa1 ?_
     simp [zS,h1',h2']
     refine qan rfl ?_
     repeat apply wq
     refine qa0 qa1 ?_
     simp [zS]
     refine qa8 ?_
     simp [qad,Tryz.f49,oneOr,qaf,qa6]
     exact qa5 rfl (by simp only [qia,he,hf];simp)
    ·have h2':¬ (150:Int) < (L[i].2.length:Int):=by omega
     have hf:qol L[i]=true:=by simp [qol];omega
     repeat apply wq
     refine qa0 qa1 ?_
     simp [zS,h1',h2']
     refine qam rfl ?_
     refine qa9 ?_
     simp
     refine qa0 qa1 ?_
     simp [zS,qbu (show i≤1000000000 by omega)]
     refine hB _ (i+1) (by omega) ⟨by omega,by rw [he,hf,Bool.true_and]⟩ ⟨[],[],⟨rfl,rfl,rfl,by simp [qb1,qar,qah,qac,qak],FitH.nothing⟩⟩
  ·simp at h
   rw [List.drop_eq_nil_of_le h] at he
   refine qaw ?_
   simp
   repeat apply wq
   refine qa0 qa1 ?_
   simp [zS]
   refine qa8 ?_
   simp [qad,Tryz.f49,oneOr,qaf,qa6]
   exact qa5 rfl (by simp only [qia,he];simp;omega)
noncomputable def e49:Entry Tryz.prog:=mkE 49 [[2]] (fun x:List At1=>[qak x]) (fun _=>True) (fun x=>.bool (qia x)) fun x _=>c49 (T:=[]) x
theorem injAs (x y:List At1) (h:[qak x]=[qak y]):x=y:=by simp only [List.cons.injEq] at h;exact qf1 h.1
theorem k49 {T:List (Entry Tryz.prog)} (hT:qai 49 T=some e49.g) (L:List At1) (H:Heap):qbb (ctx T) (.fn 49) [qak L] H=some (.bool (qia L),H):=
 qal hT injAs L trivial rfl (by simp [qk5])
theorem c27 {T:List (Entry Tryz.prog)} (hA:qai 49 T=some e49.g) (n:Nd):CallAt (ctx T) 27 [qa7 n] ⟨0,[]⟩ (.bool (qju n)) ⟨0,[]⟩:=by
 have hk:=fun H=>k49 hA n.attrs H
 obtain ⟨kind,space,name,attrs,data,up,kids⟩:=n
 simp only [qak] at hk
 rcases Bool.eq_false_or_eq_true (decide ((name.length:Int)≤40)) with b1 | b1 <;> rcases Bool.eq_false_or_eq_true (decide ((data.length:Int)≤300)) with b2 | b2 <;> rcases Bool.eq_false_or_eq_true (decide ((kids.length:Int)≤60)) with b3 | b3
 all_goals
  have c1:=b1
  have c2:=b2
  have c3:=b3
  simp only [decide_eq_true_eq,decide_eq_false_iff_not] at c1 c2 c3
  refine qa2 (fn:=Tryz.f27) (s0:=⟨[0,1,2],[qa7 ⟨kind,space,name,attrs,data,up,kids⟩,.undef,.undef],[],24,⟨0,[[]]⟩⟩) Tryz.func27 rfl rfl rfl ?_
  (repeat (first
   | (refine qb0 ?_)
   | (refine qab ?_)
   | (refine qc8 ?_;simp only [qaf,qa6])
   | ((refine qa0 qa1 ?_);simp [zS,qa7,Nd.cs,qb6,qak,qbh,qeu,c1,c2,c3,hk])
   | (refine qan rfl ?_)
   | (refine qam rfl ?_)
   | ((refine qa9 ?_);simp only [qaf,qa6])
   | ((refine qaw ?_);simp [qaf,qa6])))
  have e1:(name.length≤40)↔((name.length:Int)≤40):=by omega
  have e2:(data.length≤300)↔((data.length:Int)≤300):=by omega
  have e3:(kids.length≤60)↔((kids.length:Int)≤60):=by omega
  refine qa8 ?_
  simp [qad,Tryz.f27,oneOr,qaf,qa6]
  exact qa5 rfl (by simp only [qju,e1,e2,e3,b1,b2,b3];simp)
theorem injN1 (x y:Nd) (h:[qa7 x]=[qa7 y]):x=y:=by simp only [List.cons.injEq] at h;exact qe0 h.1
noncomputable def e27:Entry Tryz.prog:=mkE 27 [[]] (fun x:Nd=>[qa7 x]) (fun _=>True) (fun x=>.bool (qju x)) fun x _=>c27 (T:=[e49]) rfl x
theorem k27 {T:List (Entry Tryz.prog)} (hT:qai 27 T=some e27.g) (n:Nd) (H:Heap):qbb (ctx T) (.fn 27) [qa7 n] H=some (.bool (qju n),H):=
 qal hT injN1 n trivial rfl (by simp [th_aNode])
@[simp] theorem len_cs (n:Nd):n.cs.length=7:=rfl
@[simp] theorem sng_cs (n:Nd):allSingle n.cs=true:=rfl
@[simp] theorem lay_cs (n:Nd) (a b c d e f g:AV):qgl n.cs [a,b,c,d,e,f,g]=some n.cs:=rfl
@[simp 5000] theorem ready_cs (H:Heap) (b:Nat) (n:Nd):H.ready b n.cs=H:=rfl
theorem c14 {T:List (Entry Tryz.prog)} (hN:qai 27 T=some e27.g) (t:Tr) (m:Int) (hl:m≤1000000):CallAt (ctx T) 14 [qav t,.int .i64 m] ⟨0,[]⟩ (.bool (qlh t m)) ⟨0,[]⟩:=by
 refine qa2 (fn:=Tryz.f14) (s0:=⟨[0,1,2,4,6,13,14,15],[qav t,.int .i64 m,.undef,.undef,.undef,.undef,.undef,.undef],[],23,⟨0,[[]]⟩⟩) Tryz.func14 rfl rfl rfl ?_
 repeat apply wq
 refine qa0 qa1 ?_
 simp [zS,qav]
 by_cases hm:m < (t.length:Int)
 ·repeat apply wq
  refine qa0 qa1 ?_
  simp [zS,qkl,hm]
  refine qan rfl ?_
  repeat apply wq
  refine qa0 qa1 ?_
  simp [zS]
  refine qa8 ?_
  simp [qad,Tryz.f14,oneOr,qaf,qa6]
  exact qa5 rfl (by simp [qlh];omega)
 ·repeat apply wq
  refine qa0 qa1 ?_
  simp [zS,qkl,hm]
  refine qam rfl ?_
  refine qa9 ?_
  simp
  repeat apply wq
  refine qa0 qa1 ?_
  simp [zS,qkl]
  refine qab (qb7 (fun i:Nat=>(⟨[0,1,2,4,6,13,14,15],[.undef,.int .i64 m,.undef,.undef,.undef,qae t,.int .i64 (t.length:Nat),.int .i64 i],[],23,⟨0,[[]]⟩⟩ : St))
   (fun i=>i≤t.length∧t.all qju=(t.drop i).all qju) (fun i=>t.length - i) [] [] 0 ⟨Nat.zero_le _,by simp⟩ ⟨rfl,rfl,rfl,by simp [qb1,qar,qah,qac,qae],FitH.nothing⟩ ?_)
  rintro i ⟨hi,he⟩ B hB
  repeat apply wq
  refine qa0 qa1 ?_
  simp [zS]
  repeat apply wq
  refine qb9 rfl (fun h=>?_) fun h=>?_
  ·simp at h
   rw [List.drop_eq_getElem_cons h,List.all_cons] at he
   refine qa9 ?_
   simp
   repeat apply wq
   refine qab ?_
   repeat apply wq
   refine qa0 qa1 ?_
   simp [zN,atN h]
   cases hf:qju t[i] with
   | false=>
    repeat apply wq
    refine qa0 qa1 ?_
    simp [zS,qtl,k27 hN,hf]
    refine qan rfl ?_
    repeat apply wq
    refine qa0 qa1 ?_
    simp [zS]
    refine qa8 ?_
    simp [qad,Tryz.f14,oneOr,qaf,qa6]
    exact qa5 rfl (by simp only [qlh,he,hf];simp)
   | true=>
    repeat apply wq
    refine qa0 qa1 ?_
    simp [zS,qtl,k27 hN,hf]
    refine qam rfl ?_
    refine qa9 ?_
    simp
    refine qa0 qa1 ?_
    simp [zS,qbu (show i≤1000000000 by omega)]
    refine hB _ (i+1) (by omega) ⟨by omega,by rw [he,hf,Bool.true_and]⟩ ⟨[],[],⟨rfl,rfl,rfl,by simp [qb1,qar,qah,qac,qae],FitH.nothing⟩⟩
  ·simp at h
   rw [List.drop_eq_nil_of_le h] at he
   refine qaw ?_
   simp
   repeat apply wq
   refine qa0 qa1 ?_
   simp [zS]
   refine qa8 ?_
   simp [qad,Tryz.f14,oneOr,qaf,qa6]
   exact qa5 rfl (by simp only [qlh,he];simp;omega)
theorem qyj (x y:Tr × Int) (h:[qav x.1,.int .i64 x.2]=[qav y.1,.int .i64 y.2]):x=y:=by
 simp at h;exact Prod.ext (qgp h.1) h.2
noncomputable def e14:Entry Tryz.prog:=mkE 14 [[],[]] (fun x:Tr × Int=>[qav x.1,.int .i64 x.2]) (fun x=>x.2≤1000000) (fun x=>.bool (qlh x.1 x.2)) fun x hx=>c14 (T:=[e27]) rfl x.1 x.2 hx
theorem k14 {T:List (Entry Tryz.prog)} (hT:qai 14 T=some e14.g) (t:Tr) {m:Int} (hm:m≤1000000) (H:Heap):qbb (ctx T) (.fn 14) [qav t,.int .i64 m] H=some (.bool (qlh t m),H):=
 qal hT qyj (t,m) hm rfl (by simp [qiv])
theorem qtp {t:Tr} {m:Int} (hm:m≤50) (h:qlh t m=true):za4 t:=by
 simp only [qlh,Bool.and_eq_true,decide_eq_true_eq,List.all_eq_true] at h
 refine ⟨by omega,by omega,fun x hx=>?_⟩
 have:=h.2 x hx
 simp only [qju,qia,Bool.and_eq_true,decide_eq_true_eq] at this
 omega
theorem FitH.id1 {m':Nat} {H:Heap} {g:List (Nat × Blk)} (nd:(g.map (·.1)).Nodup) (lt:∀ e,e∈g→e.1 < m') (src:∀ e,e∈g→∃ cs,H.get e.1=some (.cells cs)∧e.2=.cells cs∧qac cs=true):FitH 0 (g.map fun e=>(e.1,e.1)) [] H ⟨m',[g]⟩:=by
 refine .rows (by simpa [Function.comp_def] using nd) (by simpa [Function.comp_def] using nd) (by simpa [Heap.ents] using nd) ?_ (by simp) (Nat.zero_le _) ?_
 ·intro x hx
  obtain ⟨e,he,rfl⟩:=List.mem_map.1 hx
  exact lt e he
 ·intro e he
  have he:e∈g:=by simpa [Heap.ents] using he
  obtain ⟨cs,h1,h2,h3⟩:=src e he
  exact ⟨e.1,cs,List.mem_map.2 ⟨e,he,rfl⟩,h1,h2,h3⟩
section
variable (n:Nd)
@[simp] theorem gcs0:qc7 n.cs 0=some (.int .i64 n.kind):=rfl
@[simp] theorem gcs1:qc7 n.cs 1=some (.int .i64 n.space):=rfl
@[simp] theorem gcs2:qc7 n.cs 2=some (.str n.name):=rfl
@[simp] theorem gcs3:qc7 n.cs 3=some (qak n.attrs):=rfl
@[simp] theorem gcs4:qc7 n.cs 4=some (.str n.data):=rfl
@[simp] theorem gcs5:qc7 n.cs 5=some (.int .i64 n.up):=rfl
@[simp] theorem gcs6:qc7 n.cs 6=some (qbh n.kids):=rfl
@[simp] theorem qh2:qac n.cs=true:=by simp [Nd.cs,qac,qb6,qah]
end
def qe8 (L:List Int) (n:Int):Nat:=L.countP fun x=>decide (x=n)
theorem c28 {T:List (Entry Tryz.prog)} (L:List Int) (n:Int) (hl:L.length≤1000000):CallAt (ctx T) 28 [qbh L,.int .i64 n] ⟨0,[]⟩ (.int .i64 (qe8 L n:Nat)) ⟨0,[]⟩:=by
 refine qa2 (fn:=Tryz.f28) (s0:=⟨[0,1,4,5,6],[qbh L,.int .i64 n,.undef,.undef,.undef],[],22,⟨0,[[]]⟩⟩) Tryz.func28 rfl rfl rfl ?_
 repeat apply wq
 refine qa0 qa1 ?_
 simp [zS]
 repeat apply wq
 refine qa0 qa1 ?_
 simp [zS]
 repeat apply wq
 refine qa0 qa1 ?_
 simp [zS]
 refine qab (qb7 (fun i:Nat=>(⟨[0,1,4,5,6],[qbh L,.int .i64 n,.undef,.int .i64 (qe8 (L.take i) n:Nat),.int .i64 i],[],22,⟨0,[[]]⟩⟩ : St))
  (fun i=>i≤L.length) (fun i=>L.length - i) [] [] 0 (Nat.zero_le _) ⟨rfl,rfl,rfl,by simp [qb1,qar,qah,qac,qbh,qe8],FitH.nothing⟩ ?_)
 rintro i hi B hB
 have hc:qe8 (L.take i) n≤i:=Nat.le_trans List.countP_le_length (by simp;omega)
 repeat apply wq
 refine qa0 qa1 ?_
 simp [zS,lenI]
 refine qb9 rfl (fun h=>?_) fun h=>?_
 ·simp at h
  refine qa9 ?_
  simp
  repeat apply wq
  refine qab ?_
  by_cases hv:L[i]=n
  ·have hn:qe8 (L.take (i+1)) n=qe8 (L.take i) n+1:=by rw [List.take_succ_eq_append_getElem h];simp [qe8,hv]
   repeat apply wq
   refine qa0 qa1 ?_
   simp [zS,atI h,hv]
   refine qan rfl ?_
   refine qa0 qa1 ?_
   simp [zS,qbu (show qe8 (L.take i) n≤1000000000 by omega)]
   refine qa0 qa1 ?_
   simp [zS,qbu (show i≤1000000000 by omega)]
   exact hB _ (i+1) (by omega) (by omega) ⟨[],[],⟨rfl,rfl,rfl,by simp [qb1,qar,qah,qac,qbh,hn],FitH.nothing⟩⟩
  ·have hn:qe8 (L.take (i+1)) n=qe8 (L.take i) n:=by rw [List.take_succ_eq_append_getElem h];simp only [qe8,List.countP_append,List.countP_cons,List.countP_nil];simp [hv]
   repeat apply wq
   refine qa0 qa1 ?_
   simp [zS,atI h,hv]
   refine qam rfl ?_
   refine qa9 ?_
   simp
   refine qa0 qa1 ?_
   simp [zS,qbu (show i≤1000000000 by omega)]
   exact hB _ (i+1) (by omega) (by omega) ⟨[],[],⟨rfl,rfl,rfl,by simp [qb1,qar,qah,qac,qbh,hn],FitH.nothing⟩⟩
 ·simp at h
  refine qaw ?_
  simp
  repeat apply wq
  refine qa0 qa1 ?_
  simp [zS]
  refine qa8 ?_
  simp [qad,Tryz.f28,oneOr,qaf,qa6]
  exact qa5 rfl (by rw [List.take_of_length_le h])
theorem injLI (x y:List Int × Int) (h:[qbh x.1,.int .i64 x.2]=[qbh y.1,.int .i64 y.2]):x=y:=by
 simp only [List.cons.injEq] at h
 obtain ⟨h1,h2,_⟩:=h
 simp at h2
 exact Prod.ext (qob h1) h2
noncomputable def e28:Entry Tryz.prog:=mkE 28 [[1],[]] (fun x:List Int × Int=>[qbh x.1,.int .i64 x.2]) (fun x=>x.1.length≤1000000) (fun x=>.int .i64 (qe8 x.1 x.2:Nat)) fun x hx=>c28 (T:=[]) x.1 x.2 hx
theorem k28 {T:List (Entry Tryz.prog)} (hT:qai 28 T=some e28.g) {L:List Int} (n:Int) (hl:L.length≤1000000) (H:Heap):qbb (ctx T) (.fn 28) [qbh L,.int .i64 n] H=some (.int .i64 (qe8 L n:Nat),H):=
 qal hT injLI (L,n) hl rfl (by simp [qbh])
def qco (t:Tr):Nat→Int→Bool
 | 0,_=>false
 | f+1,i=>if (qa3 t i).up = -1 then true else qco t f (qa3 t i).up
def qqq (t:Tr):Prop:=∀ x,x∈t→x.up = -1∨(0≤x.up∧x.up < (t.length:Int))
theorem c29 {T:List (Entry Tryz.prog)} (t:Tr) (hl:t.length≤1000000) (hu:qqq t) (i0:Int) (h0:0≤i0) (h1:i0 < (t.length:Int)):CallAt (ctx T) 29 [qav t,.int .i64 i0] ⟨0,[]⟩ (.bool (qco t (t.length+1) i0)) ⟨0,[]⟩:=by
 refine qa2 (fn:=Tryz.f29) (s0:=⟨[0,1,2,4,5],[qav t,.int .i64 i0,.undef,.undef,.undef],[],26,⟨0,[[]]⟩⟩) Tryz.func29 rfl rfl rfl ?_
 repeat apply wq
 refine qa0 qa1 ?_
 simp [zS,qav]
 repeat apply wq
 refine qa0 qa1 ?_
 simp [zS]
 refine qab (qb7 (fun x:Nat × Int=>(⟨[0,1,2,4,5],[.undef,.int .i64 x.2,.ptr 0 0,.undef,.int .i64 x.1],[],26,⟨1,[[(0,.cells [qae t])]]⟩⟩ : St))
  (fun x=>x.1≤t.length+1∧0≤x.2∧x.2 < (t.length:Int)∧qco t (t.length+1) i0=qco t (t.length+1 - x.1) x.2) (fun x=>t.length+1 - x.1) [(0,0)] [] (0,i0) ⟨Nat.zero_le _,h0,h1,rfl⟩
  ⟨rfl,rfl,rfl,by simp [qb1,qar,qay,qah],.id1 (g:=[(0,.cells [qae t])]) (by simp) (by simp) (by simp [Heap.get,getFs,getF,qac])⟩ ?_)
 rintro ⟨k,i⟩ ⟨hk,j0,j1,he⟩ B hB
 simp only at hk j0 j1 he
 repeat apply wq
 refine qa0 qa1 ?_
 simp [zS,qkl]
 refine qb9 rfl (fun h=>?_) fun h=>?_
 ·simp at h
  refine qa9 ?_
  simp
  repeat apply wq
  refine qab ?_
  rw [show t.length+1 - k=(t.length - k)+1 by omega,show qco t (t.length - k+1) i=if (qa3 t i).up = -1 then true else qco t (t.length - k) (qa3 t i).up from rfl] at he
  by_cases hv:(qa3 t i).up = -1
  ·rw [if_pos hv] at he
   repeat apply wq
   refine qa0 qa1 ?_
   simp [zS,atX j0 j1,hv]
   refine qan rfl ?_
   repeat apply wq
   refine qa0 qa1 ?_
   simp [zS]
   refine qa8 ?_
   simp [qad,Tryz.f29,oneOr,qaf,qa6]
   exact qa5 rfl (by rw [he])
  ·rw [if_neg hv] at he
   repeat apply wq
   refine qa0 qa1 ?_
   simp [zS,atX j0 j1,hv]
   refine qam rfl ?_
   refine qa9 ?_
   simp
   refine qa0 qa1 ?_
   simp [zS,atX j0 j1]
   refine qa0 qa1 ?_
   simp [zS,qbu (show k≤1000000000 by omega)]
   have hup:=(hu _ (qb3 j0 j1)).resolve_left hv
   exact hB _ (k+1,(qa3 t i).up) (by simp;omega) ⟨by simp;omega,hup.1,hup.2,by simp only;rw [he];congr 1;omega⟩ ⟨[(0,0)],[],rfl,rfl,rfl,by simp [qb1,qar,qay,qah],.id1 (g:=[(0,.cells [qae t])]) (by simp) (by simp) (by simp [Heap.get,getFs,getF,qac])⟩
 ·simp at h
  refine qaw ?_
  simp
  repeat apply wq
  refine qa0 qa1 ?_
  simp [zS]
  refine qa8 ?_
  simp [qad,Tryz.f29,oneOr,qaf,qa6]
  exact qa5 rfl (by rw [he,show t.length+1 - k=0 by omega];rfl)
noncomputable def e29:Entry Tryz.prog:=mkE 29 [[],[]] (fun x:Tr × Int=>[qav x.1,.int .i64 x.2]) (fun x=>x.1.length≤1000000∧qqq x.1∧0≤x.2∧x.2 < (x.1.length:Int)) (fun x=>.bool (qco x.1 (x.1.length+1) x.2)) fun x hx=>c29 (T:=[]) x.1 hx.1 hx.2.1 x.2 hx.2.2.1 hx.2.2.2
theorem k29 {T:List (Entry Tryz.prog)} (hT:qai 29 T=some e29.g) {t:Tr} (hl:t.length≤1000000) (hu:qqq t) {i:Int} (h0:0≤i) (h1:i < (t.length:Int)) (H:Heap):qbb (ctx T) (.fn 29) [qav t,.int .i64 i] H=some (.bool (qco t (t.length+1) i),H):=
 qal hT qyj (t,i) ⟨hl,hu,h0,h1⟩ rfl (by simp [qiv])
theorem qvq {C:Ctx} {n:Nat} {r:Option Nat} {c d:Code} {s:St} {Q:Out→St→Prop} (φ:Prop) (s0:St) (h1:φ→WpSr C n r d s0 Q) (h2:(∀ s',φ→s'.wT=s0→WpSr C n r d s' Q)→WpSr C n r c s (qaf (fun s=>WpSr C n r d s Q) Q)):WpSr C n r (.seq c d) s Q:=
 qb0 (h2 fun s' hφ e b a w hb ha K hK=>h1 hφ b a w hb (by have:=ha.fresh;rw [← e];exact this) K hK)
def qzc (t:Tr) (i:Nat):Bool:=decide (0 < i) && (decide ((qa3 t i).kind < 1) || (decide (4 < (qa3 t i).kind) || (decide ((qa3 t i).up < -1) || decide ((t.length:Int)≤(qa3 t i).up))))
def badB (t:Tr) (i:Nat):Bool:=decide (0≤(qa3 t i).up) && (decide (1 < (qa3 t (qa3 t i).up).kind) || decide ((qe8 (qa3 t (qa3 t i).up).kids i:Int)≠1))
def badC (t:Tr) (i:Nat) (k:Int):Bool:=decide (k < 0) || (decide ((t.length:Int)≤k) || decide ((qa3 t k).up≠(i:Int)))
def qlb (t:Tr) (i:Nat):Bool:=!qzc t i && (!badB t i && !(qa3 t i).kids.any (badC t i))
def qbq (t:Tr):Bool:=decide (t≠[]) && (decide ((qa3 t 0).kind=0) && (decide ((qa3 t 0).up = -1) && ((List.range t.length).all (qlb t) && (List.range t.length).all fun i=>qco t (t.length+1) (i:Int))))
theorem qdw {t:Tr} {i:Nat} (h:i < t.length) (hb:qlb t i=false):qbq t=false:=by
 have:(List.range t.length).all (qlb t)=false:=List.all_eq_false.2 ⟨i,by simpa using h,by simp [hb]⟩
 simp [qbq,this]
theorem qpq {t:Tr} {i:Nat} (h:i < t.length) (hb:qco t (t.length+1) (i:Int)=false):qbq t=false:=by
 have:((List.range t.length).all fun i=>qco t (t.length+1) (i:Int))=false:=List.all_eq_false.2 ⟨i,by simpa using h,by simp [hb]⟩
 simp [qbq,this]
theorem qpp {t:Tr} (h:t≠[]) (h0:(qa3 t 0).kind=0) (h1:(qa3 t 0).up = -1) (h2:∀ j,j < t.length→qlb t j=true) (h3:∀ j,j < t.length→qco t (t.length+1) (j:Int)=true):qbq t=true:=by
 have e1:(List.range t.length).all (qlb t)=true:=List.all_eq_true.2 fun j hj=>h2 j (by simpa using hj)
 have e2:((List.range t.length).all fun i=>qco t (t.length+1) (i:Int))=true:=List.all_eq_true.2 fun j hj=>h3 j (by simpa using hj)
 simp [qbq,h,h0,h1,e1,e2]
theorem qzo {t:Tr} (h1:(qa3 t 0).up = -1) (h2:∀ j,j < t.length→qlb t j=true):qqq t:=by
 intro x hx
 obtain ⟨j,hj,rfl⟩:=List.getElem_of_mem hx
 have:=h2 j hj
 rw [← qbi hj]
 by_cases hz:j=0
 ·subst hz
  exact .inl h1
 ·simp only [qlb,qzc,Bool.and_eq_true,Bool.not_eq_true',Bool.and_eq_false_iff,Bool.or_eq_false_iff,decide_eq_false_iff_not] at this
  rcases this.1 with h | h
  ·omega
  ·omega
theorem c15 {T:List (Entry Tryz.prog)} (hT:qai 28 T=some e28.g) (hH:qai 29 T=some e29.g) (t:Tr) (ht:zay t) :
  CallAt (ctx T) 15 [qav t] ⟨0,[]⟩ (.bool (qbq t)) ⟨0,[]⟩:=by
 have htl:=ht.1
 have g0:∀ (m:Nat),FitH 0 [(0,0)] [] ⟨m,[[(0,.cells [qae t])]]⟩ ⟨1,[[(0,.cells [qae t])]]⟩:=fun m=>.id1 (g:=[(0,.cells [qae t])]) (by simp) (by simp) (by simp [Heap.get,getFs,getF,qac])
 refine qa2 (fn:=Tryz.f15) (s0:=⟨[0,1,2,3,4,5,6],[qav t,.undef,.undef,.undef,.undef,.undef,.undef],[],138,⟨0,[[]]⟩⟩) Tryz.func15 rfl rfl rfl ?_
 repeat apply wq
 refine qa0 qa1 ?_
 simp [zS,qav]
 by_cases z0:t=[]
 ·repeat apply wq
  refine qa0 qa1 ?_
  simp [zS,qkl,z0]
  refine qan rfl ?_
  repeat apply wq
  refine qa0 qa1 ?_
  simp [zS]
  refine qa8 ?_
  simp [qad,Tryz.f15,oneOr,qaf,qa6]
  exact qa5 rfl (by simp [qbq,z0])
 have zl:0 < t.length:=List.length_pos_iff.2 z0
 have a0:=atX (t:=t) (i:=0) (by omega) (by omega)
 by_cases z1:(qa3 t 0).kind=0
 case neg=>
  repeat apply wq
  refine qa0 qa1 ?_
  simp [zS,qkl,z0,a0,z1]
  refine qan rfl ?_
  repeat apply wq
  refine qa0 qa1 ?_
  simp [zS]
  refine qa8 ?_
  simp [qad,Tryz.f15,oneOr,qaf,qa6]
  exact qa5 rfl (by simp [qbq,z1])
 by_cases z2:(qa3 t 0).up = -1
 case neg=>
  repeat apply wq
  refine qa0 qa1 ?_
  simp [zS,qkl,z0,a0,z1,z2]
  refine qan rfl ?_
  repeat apply wq
  refine qa0 qa1 ?_
  simp [zS]
  refine qa8 ?_
  simp [qad,Tryz.f15,oneOr,qaf,qa6]
  exact qa5 rfl (by simp [qbq,z2])
 repeat apply wq
 refine qa0 qa1 ?_
 simp [zS,qkl,z0,a0,z1,z2]
 refine qam rfl ?_
 refine qa9 ?_
 simp
 repeat apply wq
 refine qa0 qa1 ?_
 simp [zS]
 refine qab (qb7 (fun i:Nat=>(⟨[0,1,2,3,4,5,6],[.undef,.ptr 0 0,.undef,.int .i64 i,.undef,.undef,.undef],[],138,⟨1,[[(0,.cells [qae t])]]⟩⟩ : St))
  (fun i=>i≤t.length∧∀ j,j < i→qlb t j=true) (fun i=>t.length - i) [(0,0)] [] 0 ⟨Nat.zero_le _,fun j hj=>absurd hj (Nat.not_lt_zero j)⟩ ⟨rfl,rfl,rfl,by simp [qb1,qar,qay,qah],g0 1⟩ ?_)
 rintro i ⟨hi,hall⟩ B hB
 repeat apply wq
 refine qa0 qa1 ?_
 simp [zS,qkl]
 refine qb9 rfl (fun h=>?_) fun h=>?_
 ·simp at h
  refine qa9 ?_
  simp
  repeat apply wq
  refine qab ?_
  refine qb0 ?_
  have hkd:=(ht.2 _ (qb3 (t:=t) (i:=(i:Int)) (by omega) (by omega))).1
  obtain ⟨n,hn⟩ : ∃ n,n=qa3 t i:=⟨_,rfl⟩
  refine qa0 qa1 ?_
  simp [zN,atX (t:=t) (i:=(i:Int)) (by omega) (by omega)]
  rw [← hn] at hkd ⊢
  refine qvq (qzc t i=false) ((⟨[0,1,2,3,4,5,6],[.undef,.ptr 0 0,.undef,.int .i64 i,.ptr 1 0,.undef,.undef],[],138,⟨2,[[(1,.cells n.cs),(0,.cells [qae t])]]⟩⟩ : St)) (fun hbA=>?_) fun hj=>?_
  rotate_left
  ·by_cases c0:0 < i
   ·by_cases c1:n.kind < 1
    ·repeat apply wq
     refine qa0 qa1 ?_
     simp [zS,qkl,c0,c1]
     refine qan rfl ?_
     repeat apply wq
     refine qa0 qa1 ?_
     simp [zS]
     refine qa8 ?_
     simp [qad,Tryz.f15,oneOr,qaf,qa6]
     exact qa5 rfl (by rw [qdw h (by simp [qlb,qzc,c0,← hn,c1])])
    ·by_cases c2:4 < n.kind
     ·repeat apply wq
      refine qa0 qa1 ?_
      simp [zS,qkl,c0,c1,c2]
      refine qan rfl ?_
      repeat apply wq
      refine qa0 qa1 ?_
      simp [zS]
      refine qa8 ?_
      simp [qad,Tryz.f15,oneOr,qaf,qa6]
      exact qa5 rfl (by rw [qdw h (by simp [qlb,qzc,c0,← hn,c1,c2])])
     ·by_cases c3:n.up < -1
      ·repeat apply wq
       refine qa0 qa1 ?_
       simp [zS,qkl,c0,c1,c2,c3]
       refine qan rfl ?_
       repeat apply wq
       refine qa0 qa1 ?_
       simp [zS]
       refine qa8 ?_
       simp [qad,Tryz.f15,oneOr,qaf,qa6]
       exact qa5 rfl (by rw [qdw h (by simp [qlb,qzc,c0,← hn,c1,c2,c3])])
      ·by_cases c4:(t.length:Int)≤n.up
       ·repeat apply wq
        refine qa0 qa1 ?_
        simp [zS,qkl,c0,c1,c2,c3,c4]
        refine qan rfl ?_
        repeat apply wq
        refine qa0 qa1 ?_
        simp [zS]
        refine qa8 ?_
        simp [qad,Tryz.f15,oneOr,qaf,qa6]
        exact qa5 rfl (by rw [qdw h (by simp [qlb,qzc,c0,← hn,c1,c2,c3,c4])])
       ·repeat apply wq
        refine qa0 qa1 ?_
        simp [zS,qkl,c0,c1,c2,c3,c4]
        refine qam rfl ?_
        refine qa9 ?_
        simp
        exact hj _ (by simp [qzc,← hn,c1,c2,c3,c4]) rfl
   ·repeat apply wq
    refine qa0 qa1 ?_
    simp [zS,qkl,c0]
    refine qam rfl ?_
    refine qa9 ?_
    simp
    exact hj _ (by simp [qzc,c0]) rfl
  have hup:n.up < (t.length:Int):=by
   by_cases hz:i=0
   ·subst hz;rw [hn];simp only [Int.natCast_zero,z2];omega
   ·simp only [qzc,← hn,Bool.and_eq_false_iff,Bool.or_eq_false_iff,decide_eq_false_iff_not] at hbA
    omega
  refine qvq (badB t i=false) ((⟨[0,1,2,3,4,5,6],[.undef,.ptr 0 0,.undef,.int .i64 i,.ptr 1 0,.undef,.undef],[],138,⟨2,[[(1,.cells n.cs),(0,.cells [qae t])]]⟩⟩ : St)) (fun hbB=>?_) fun hj=>?_
  rotate_left
  ·by_cases c5:0≤n.up
   ·have hkt:=k28 hT (L:=(qa3 t n.up).kids) (i:Int) (by have:=(ht.2 _ (qb3 c5 hup)).1;omega)
    generalize hv:qe8 (qa3 t n.up).kids (i:Int)=v at hkt
    by_cases c6:1 < (qa3 t n.up).kind
    ·repeat apply wq
     refine qa0 qa1 ?_
     simp [zS,c5,atX c5 hup,hkt,c6]
     refine qan rfl ?_
     repeat apply wq
     refine qa0 qa1 ?_
     simp [zS]
     refine qa8 ?_
     simp [qad,Tryz.f15,oneOr,qaf,qa6]
     exact qa5 rfl (by rw [qdw h (by simp [qlb,badB,← hn,hv,c5,c6];try (intro _ ;omega))])
    ·by_cases c7:¬ (v:Int)=1
     ·repeat apply wq
      refine qa0 qa1 ?_
      simp [zS,c5,atX c5 hup,hkt,c6,c7]
      refine qan rfl ?_
      repeat apply wq
      refine qa0 qa1 ?_
      simp [zS]
      refine qa8 ?_
      simp [qad,Tryz.f15,oneOr,qaf,qa6]
      exact qa5 rfl (by rw [qdw h (by simp [qlb,badB,← hn,hv,c5,c6,c7];try (intro _ ;omega))])
     ·have c7:=Decidable.not_not.1 c7
      repeat apply wq
      refine qa0 qa1 ?_
      simp [zS,c5,atX c5 hup,hkt,c6,c7]
      refine qam rfl ?_
      refine qa9 ?_
      simp
      exact hj _ (by simp [badB,← hn,hv,c6,c7];try omega) rfl
   ·repeat apply wq
    refine qa0 qa1 ?_
    simp [zS,c5]
    refine qam rfl ?_
    refine qa9 ?_
    simp
    exact hj _ (by simp [badB,← hn,c5]) rfl
  repeat apply wq
  refine qa0 qa1 ?_
  simp [zS]
  have g1:∀ (m:Nat),FitH 0 [(1,1),(0,0)] [] ⟨m,[[(1,.cells n.cs),(0,.cells [qae t])]]⟩ ⟨2,[[(1,.cells n.cs),(0,.cells [qae t])]]⟩:=fun m=>.id1 (g:=[(1,.cells n.cs),(0,.cells [qae t])]) (by simp) (by simp) (by simp [Heap.get,getFs,getF,qac])
  refine qab (qb7 (fun k:Nat=>(⟨[0,1,2,3,4,5,6],[.undef,.ptr 0 0,.undef,.int .i64 i,.ptr 1 0,.int .i64 k,.undef],[],138,⟨2,[[(1,.cells n.cs),(0,.cells [qae t])]]⟩⟩ : St))
   (fun k=>k≤n.kids.length∧n.kids.any (badC t i)=(n.kids.drop k).any (badC t i)) (fun k=>n.kids.length - k) [(1,1),(0,0)] [] 0 ⟨Nat.zero_le _,rfl⟩ ⟨rfl,rfl,rfl,by simp [qb1,qar,qay,qah],g1 2⟩ ?_)
  rintro k ⟨hk,hany⟩ B2 hB2
  repeat apply wq
  refine qa0 qa1 ?_
  simp [zS,lenI]
  refine qb9 rfl (fun h2=>?_) fun h2=>?_
  ·simp at h2
   rw [List.drop_eq_getElem_cons h2,List.any_cons] at hany
   refine qa9 ?_
   simp
   repeat apply wq
   refine qab ?_
   by_cases d1:n.kids[k] < 0
   ·repeat apply wq
    refine qdd mixed qa1 (by decide +kernel) (by decide +kernel) ?_
    simp [zS,qf3,qd8,qcx,atI h2,d1]
    refine qan rfl ?_
    repeat apply wq
    refine qa0 qa1 ?_
    simp [zS]
    refine qa8 ?_
    simp [qad,Tryz.f15,oneOr,qaf,qa6]
    exact qa5 rfl (by rw [qdw h (by simp only [qlb,← hn,hany];simp [badC,d1])])
   ·by_cases d2:(t.length:Int)≤n.kids[k]
    ·repeat apply wq
     refine qdd mixed qa1 (by decide +kernel) (by decide +kernel) ?_
     simp [zS,qf3,qd8,qcx,atI h2,qkl,d1,d2]
     refine qan rfl ?_
     repeat apply wq
     refine qa0 qa1 ?_
     simp [zS]
     refine qa8 ?_
     simp [qad,Tryz.f15,oneOr,qaf,qa6]
     exact qa5 rfl (by rw [qdw h (by simp only [qlb,← hn,hany];simp [badC,d1,d2])])
    ·have ak:=atX (t:=t) (i:=n.kids[k]) (by omega) (by omega)
     by_cases d3:(qa3 t n.kids[k]).up=(i:Int)
     ·repeat apply wq
      refine qdd mixed qa1 (by decide +kernel) (by decide +kernel) ?_
      simp [zS,qf3,qd8,qcx,atI h2,qkl,ak,d1,d2,d3]
      refine qam rfl ?_
      refine qa9 ?_
      simp
      refine qa0 qa1 ?_
      simp [zS,qbu (show k≤1000000000 by omega)]
      refine hB2 _ (k+1) (by omega) ⟨by omega,?_⟩ ⟨[(1,1),(0,0)],[],rfl,rfl,rfl,by simp [qb1,qar,qay,qah],g1 _⟩
      rw [hany]
      simp [badC,d1,d2,d3]
     ·repeat apply wq
      refine qdd mixed qa1 (by decide +kernel) (by decide +kernel) ?_
      simp [zS,qf3,qd8,qcx,atI h2,qkl,ak,d1,d2,d3]
      refine qan rfl ?_
      repeat apply wq
      refine qa0 qa1 ?_
      simp [zS]
      refine qa8 ?_
      simp [qad,Tryz.f15,oneOr,qaf,qa6]
      exact qa5 rfl (by rw [qdw h (by simp only [qlb,← hn,hany];simp [badC,d1,d2,d3])])
  ·simp at h2
   rw [List.drop_eq_nil_of_le h2] at hany
   refine qaw ?_
   simp
   refine qa0 qa1 ?_
   simp [zS,qbu (show i≤1000000000 by omega)]
   refine hB _ (i+1) (by omega) ⟨by omega,fun j hj=>?_⟩ ⟨[(0,0)],[],rfl,rfl,rfl,by simp [qb1,qar,qay,qah],.id1 (g:=[(0,.cells [qae t])]) (by simp) (by simp) (by simp [Heap.get,getFs,getF,qac])⟩
   by_cases hji:j=i
   ·subst hji
    simp [qlb,hbA,hbB,← hn,hany]
   ·exact hall j (by omega)
 ·simp at h
  have hin:i=t.length:=by omega
  subst hin
  have hups:=qzo z2 hall
  refine qaw ?_
  simp
  repeat apply wq
  refine qa0 qa1 ?_
  simp [zS]
  refine qab (qb7 (fun i:Nat=>(⟨[0,1,2,3,4,5,6],[.undef,.ptr 0 0,.undef,.undef,.undef,.undef,.int .i64 i],[],138,⟨1,[[(0,.cells [qae t])]]⟩⟩ : St))
   (fun i=>i≤t.length∧∀ j,j < i→qco t (t.length+1) (j:Int)=true) (fun i=>t.length - i) [(0,0)] [] 0 ⟨Nat.zero_le _,fun j hj=>absurd hj (Nat.not_lt_zero j)⟩ ⟨rfl,rfl,rfl,by simp [qb1,qar,qay,qah],g0 1⟩ ?_)
  rintro i ⟨hi,hh⟩ B hB
  repeat apply wq
  refine qa0 qa1 ?_
  simp [zS,qkl]
  refine qb9 rfl (fun h=>?_) fun h=>?_
  ·simp at h
   refine qa9 ?_
   simp
   repeat apply wq
   refine qab ?_
   have kh:=fun H=>k29 hH (t:=t) (by have:=ht.1;omega) hups (i:=(i:Int)) (by omega) (by omega) H
   simp only [qav] at kh
   cases hv:qco t (t.length+1) (i:Int) with
   | false=>
    rw [hv] at kh
    repeat apply wq
    refine qa0 qa1 ?_
    simp [zS,kh]
    refine qan rfl ?_
    repeat apply wq
    refine qa0 qa1 ?_
    simp [zS]
    refine qa8 ?_
    simp [qad,Tryz.f15,oneOr,qaf,qa6]
    exact qa5 rfl (by rw [qpq h hv])
   | true=>
    rw [hv] at kh
    repeat apply wq
    refine qa0 qa1 ?_
    simp [zS,kh]
    refine qam rfl ?_
    refine qa9 ?_
    simp
    refine qa0 qa1 ?_
    simp [zS,qbu (show i≤1000000000 by omega)]
    refine hB _ (i+1) (by omega) ⟨by omega,fun j hj=>?_⟩ ⟨[(0,0)],[],rfl,rfl,rfl,by simp [qb1,qar,qay,qah],g0 _⟩
    by_cases hji:j=i
    ·subst hji;exact hv
    ·exact hh j (by omega)
  ·simp at h
   have hin:i=t.length:=by omega
   subst hin
   refine qaw ?_
   simp
   repeat apply wq
   refine qa0 qa1 ?_
   simp [zS]
   refine qa8 ?_
   simp [qad,Tryz.f15,oneOr,qaf,qa6]
   exact qa5 rfl (by rw [qpp z0 z1 z2 hall hh])
noncomputable def e15:Entry Tryz.prog:=mkE 15 [[]] (fun t:Tr=>[qav t]) zay (fun t=>.bool (qbq t)) fun t ht=>c15 (T:=[e28,e29]) rfl rfl t ht
theorem k15 {T:List (Entry Tryz.prog)} (hT:qai 15 T=some e15.g) {t:Tr} (ht:zay t) (H:Heap):qbb (ctx T) (.fn 15) [qav t] H=some (.bool (qbq t),H):=
 qal hT injT t ht rfl (by simp [qiv])
def qr8 (t:Tr) (m:Int):Bool:=qlh t m && qbq t
theorem c6 {T:List (Entry Tryz.prog)} (hF:qai 14 T=some e14.g) (hR:qai 15 T=some e15.g) (t:Tr) (m:Int) (hm:m≤50):CallAt (ctx T) 6 [qav t,.int .i64 m] ⟨0,[]⟩ (.bool (qr8 t m)) ⟨0,[]⟩:=by
 have kf:=fun H=>k14 hF t (m:=m) (by omega) H
 simp only [qav] at kf
 cases hf:qlh t m with
 | false=>
  rw [hf] at kf
  refine qa2 (fn:=Tryz.f6) (s0:=⟨[0,1,2,4],[qav t,.int .i64 m,.undef,.undef],[],12,⟨0,[[]]⟩⟩) Tryz.func6 rfl rfl rfl ?_
  (repeat (first
   | (refine qb0 ?_)
   | (refine qab ?_)
   | (refine qc8 ?_;simp only [qaf,qa6])
   | ((refine qa0 qa1 ?_);simp [zS,qav,kf])
   | (refine qan rfl ?_)
   | (refine qam rfl ?_)
   | ((refine qa9 ?_);simp only [qaf,qa6])
   | ((refine qaw ?_);simp [qaf,qa6])))
  refine qa8 ?_
  simp [qad,Tryz.f6,oneOr,qaf,qa6]
  exact qa5 rfl (by simp [qr8,hf])
 | true=>
  have kr:=fun H=>k15 hR (qtp hm hf).2 H
  simp only [qav] at kr
  rw [hf] at kf
  refine qa2 (fn:=Tryz.f6) (s0:=⟨[0,1,2,4],[qav t,.int .i64 m,.undef,.undef],[],12,⟨0,[[]]⟩⟩) Tryz.func6 rfl rfl rfl ?_
  (repeat (first
   | (refine qb0 ?_)
   | (refine qab ?_)
   | (refine qc8 ?_;simp only [qaf,qa6])
   | ((refine qa0 qa1 ?_);simp [zS,qav,kf,kr])
   | (refine qan rfl ?_)
   | (refine qam rfl ?_)
   | ((refine qa9 ?_);simp only [qaf,qa6])
   | ((refine qaw ?_);simp [qaf,qa6])))
  refine qa8 ?_
  simp [qad,Tryz.f6,oneOr,qaf,qa6]
  exact qa5 rfl (by simp [qr8,hf])
noncomputable def e6:Entry Tryz.prog:=mkE 6 [[],[]] (fun x:Tr × Int=>[qav x.1,.int .i64 x.2]) (fun x=>x.2≤50) (fun x=>.bool (qr8 x.1 x.2)) fun x hx=>c6 (T:=[e14,e15]) rfl rfl x.1 x.2 hx
theorem k6 {T:List (Entry Tryz.prog)} (hT:qai 6 T=some e6.g) (t:Tr) {m:Int} (hm:m≤50) (H:Heap):qbb (ctx T) (.fn 6) [qav t,.int .i64 m] H=some (.bool (qr8 t m),H):=
 qal hT qyj (t,m) hm rfl (by simp [qiv])
end Go.Proofs.YtocnpnnplllneaaGreatDoor
namespace Go.Proofs.YtocnpnnplllneaaGreatDoor
set_option linter.unusedSimpArgs false
set_option linter.unusedVariables false
open Go Go.RowKit Go.ChangeShapes Go.WideShapes Go.ChangeAt
set_option maxRecDepth 100000
theorem qjj {α:Type} {n:Nat} {t e:TypeId} {enc:α→AV} {ag:Bool} (hu:Tryz.prog.underlying t=some (.slice e)) (hag:qgd Tryz.prog e=some ag) (h:∀ cs x,qcm Tryz.prog n e cs→qft ag cs=some x→∃ a,x=enc a) {qs:List AV} (hs:qcm Tryz.prog (n+1) t qs) :
  ∃ L:List α,qs=[.fslc (Tryz.prog.cellsOf e) (L.map enc)]:=by
 unfold qcm at hs
 simp only [hu] at hs
 obtain ⟨es,rfl,_,hes⟩:=hs
 have key:∀ l:List AV,(∀ x,x∈l→∃ ag cs,qgd Tryz.prog e=some ag∧qft ag cs=some x∧qcm Tryz.prog n e cs)→∃ L:List α,l=L.map enc:=by
  intro l
  induction l with
  | nil=>intro _;exact ⟨[],rfl⟩
  | cons x r ih=>
   intro hx
   obtain ⟨ag',cs,h1,h2,h3⟩:=hx x (by simp)
   rw [hag,sj] at h1
   subst h1
   obtain ⟨a,ha⟩:=h cs x h3 h2
   obtain ⟨L,hL⟩:=ih fun y hy=>hx y (by simp [hy])
   exact ⟨a::L,by rw [ha,hL];rfl⟩
 obtain ⟨L,rfl⟩:=key es hes
 exact ⟨L,rfl⟩
theorem qk8 {n:Nat} {qs:List AV} (h:qcm Tryz.prog (n+1) 9 qs):∃ s:Str,qs=[.str s]:=by
 unfold qcm at h
 simp only [Tryz.underlying9] at h
 obtain ⟨s,rfl,_⟩:=h
 exact ⟨s,rfl⟩
theorem qk9 {n:Nat} {qs:List AV} (h:qcm Tryz.prog (n+1) 3 qs):∃ i:Int,qs=[qb6 i]:=by
 unfold qcm at h
 simp only [Tryz.underlying3] at h
 obtain ⟨s,rfl,_⟩:=h
 exact ⟨s,rfl⟩
theorem qva:Tryz.prog.cellsOf 71=2:=by kernel_rfl
theorem qyz:Tryz.prog.cellsOf 3=1:=by kernel_rfl
theorem qv9:Tryz.prog.cellsOf 34=7:=by kernel_rfl
theorem qy1 {n:Nat} {qs:List AV} (h:qcm Tryz.prog (n+2) 71 qs):∃ a:At1,AV.agg qs=qcg a:=by
 unfold qcm at h
 simp only [Tryz.underlying71] at h
 cases h with
 | cons f r x y h1 h2=>
  cases h2 with
  | cons f2 r2 x2 y2 h3 h4=>
   cases h4
   obtain ⟨s1,rfl⟩:=qk8 h1
   obtain ⟨s2,rfl⟩:=qk8 h3
   exact ⟨(s1,s2),rfl⟩
theorem qud {n:Nat} {qs:List AV} (h:qcm Tryz.prog (n+3) 32 qs):∃ L:List At1,qs=[qak L]:=by
 obtain ⟨L,rfl⟩:=qjj (enc:=qcg) (ag:=true) Tryz.underlying32 agT71 (fun cs x h hw=>by
  simp only [qft,sj] at hw
  obtain ⟨a,ha⟩:=qy1 h
  exact ⟨a,by rw [← hw,ha]⟩) h
 exact ⟨L,by rw [qva];rfl⟩
theorem qy0 {n:Nat} {qs:List AV} (h:qcm Tryz.prog (n+2) 30 qs):∃ L:List Int,qs=[qbh L]:=by
 obtain ⟨L,rfl⟩:=qjj (enc:=qb6) (ag:=false) Tryz.underlying30 agT3 (fun cs x h hw=>by
  obtain ⟨a,rfl⟩:=qk9 h
  simp only [qft,qb6,AV.single,sj] at hw
  exact ⟨a,hw.symm⟩) h
 exact ⟨L,by rw [qyz]⟩
theorem qxz {n:Nat} {qs:List AV} (h:qcm Tryz.prog (n+4) 34 qs):∃ a:Nd,AV.agg qs=qa7 a:=by
 unfold qcm at h
 simp only [Tryz.underlying34] at h
 obtain _ | ⟨_,_,_,_,h1,h⟩:=h
 obtain _ | ⟨_,_,_,_,h2,h⟩:=h
 obtain _ | ⟨_,_,_,_,h3,h⟩:=h
 obtain _ | ⟨_,_,_,_,h4,h⟩:=h
 obtain _ | ⟨_,_,_,_,h5,h⟩:=h
 obtain _ | ⟨_,_,_,_,h6,h⟩:=h
 obtain _ | ⟨_,_,_,_,h7,h⟩:=h
 cases h
 obtain ⟨x1,rfl⟩:=qk9 h1
 obtain ⟨x2,rfl⟩:=qk9 h2
 obtain ⟨x3,rfl⟩:=qk8 h3
 obtain ⟨x4,rfl⟩:=qud (n:=n) h4
 obtain ⟨x5,rfl⟩:=qk8 h5
 obtain ⟨x6,rfl⟩:=qk9 h6
 obtain ⟨x7,rfl⟩:=qy0 (n:=n+1) h7
 exact ⟨⟨x1,x2,x3,x4,x5,x6,x7⟩,rfl⟩
theorem qxx {n:Nat} {qs:List AV} (h:qcm Tryz.prog (n+6) 24 qs):∃ t:Tr,AV.agg qs=qav t:=by
 unfold qcm at h
 simp only [Tryz.underlying24] at h
 obtain _ | ⟨_,_,_,_,h1,h⟩:=h
 cases h
 obtain ⟨L,rfl⟩:=qjj (n:=n+4) (enc:=qa7) (ag:=true) Tryz.underlying22 agT34 (fun cs x h hw=>by
  simp only [qft,sj] at hw
  obtain ⟨a,ha⟩:=qxz h
  exact ⟨a,by rw [← hw,ha]⟩) h1
 exact ⟨L,by rw [qv9];rfl⟩
theorem okTree:qz8 Tryz.prog 6 24=true:=by kernel_rfl
section
variable {H:Type} {enc:TypeId × Value→H} {W:World} {hg:GlobsIn W}
theorem argTree {b0 base:Nat} {sp:Nat→Bool} {held:Bool} {v:Value} {d:DataW H} {ps:List MemPlace} (ht:DataW.Trod enc Tryz.prog W base sp held 24 v d ps) (hv:Value.okWide Tryz.prog W .any b0 24 v):∃ t,VR (start W hg) (qav t) v:=by
 obtain ⟨qs,a,h1,h2,h3⟩:=zdq (hg:=hg) okTree (ag:=true) agT24 (fun h=>by cases h) ht hv
 obtain ⟨x,hx⟩:=qxx (n:=0) h1
 have:a=qav x:=by
  simp only [qft,sj] at h2
  rw [← h2,hx]
 exact ⟨x,this ▸ h3⟩
end
end Go.Proofs.YtocnpnnplllneaaGreatDoor
namespace Go.Proofs.YtocnpnnplllneaaGreatDoor
set_option linter.unusedSimpArgs false
set_option linter.unusedVariables false
open Go Go.RowKit
set_option maxRecDepth 100000
end Go.Proofs.YtocnpnnplllneaaGreatDoor