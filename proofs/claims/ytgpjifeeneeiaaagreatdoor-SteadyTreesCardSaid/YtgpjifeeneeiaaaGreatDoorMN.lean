/- strings.ContainsAny of "\\x00\\r"; utf.Valid. No condition. -/
import Derived.Test.YtgpjifeeneeiaaaGreatDoorMI
import Derived.Test.YtgpjifeeneeiaaaGreatDoorMG
import Derived.Test.YtgpjifeeneeiaaaGreatDoorMM
import Derived.Lib.ValidLaws
import Derived.Test.YtgpjifeeneeiaaaGreatDoorMJ
import Derived.Lib.TrimUEq
import Derived.Shelf.Unicode.ValidAny
import Derived.Test.YtgpjifeeneeiaaaGreatDoorProg
import Derived.Lib.Bytealg
import Derived.Shelf.Strings.IndexAnyAll
namespace Go.Proofs.YtgpjifeeneeiaaaGreatDoor
noncomputable section
set_option linter.unusedSimpArgs false
set_option linter.unusedVariables false
open Go Go.RowKit
set_option maxRecDepth 100000
theorem qzx {T:List (Entry Tryz.prog)} {f:FuncId} (h:qvk (qow (ctx T) 100000 (.fn f) [] ⟨0,[]⟩)=true):CallAt (ctx T) f [] ⟨0,[]⟩ (.bool true) ⟨0,[]⟩:=by
 revert h
 cases hr:qow (ctx T) 100000 (.fn f) [] ⟨0,[]⟩ with
 | none=>intro h;cases h
 | some r=>
  obtain ⟨v,H'⟩:=r
  intro h
  cases v <;> simp only [qvk] at h <;> first | (cases h;done) | skip
  subst h
  exact ((qw4 qci (qxn _ _ _) 100000).fn f [] ⟨0,[]⟩ _ _ hr).freeze (Φ:=[]) (by simp [qay,qaf]) FitH.empty
def noneL:List AV→Bool
 | []=>true
 | _::_=>false
mutual
def ql2 (Φ:List (Nat × List AV)):AV→AV→Bool
 | .slc b o len cap,v'=>match v' with
  | .undef=>true
  | .fslc sz es=>(match qc1 b Φ with
   | some cs=>(match qeu o (len * sz) cs with
    | some x=>AV.beqL x (qan es) && Nat.beq es.length len && qdt sz es
    | none=>false)
   | none=>false) || (Nat.beq len 0 && noneL es)
  | _=>false
 | .ptr b o,v'=>match v' with
  | .undef=>true
  | .fptr cs o'=>(match qc1 b Φ with
   | some c=>AV.beqL c cs
   | none=>false) && Nat.beq o' o
  | _=>false
 | .nilS,v'=>match v' with
  | .undef=>true
  | .nilS=>true
  | .fslc _ es=>noneL es
  | _=>false
 | .fslc sz es,v'=>match v' with
  | .undef=>true
  | .fslc sz' es'=>Nat.beq sz sz' && AV.beqL es es'
  | _=>false
 | .agg cs,v'=>match v' with
  | .undef=>true
  | .agg cs'=>qu7 Φ cs cs'
  | _=>false
 | .tup cs,v'=>match v' with
  | .undef=>true
  | .tup cs'=>qu7 Φ cs cs'
  | _=>false
 | .int k n,v'=>match v' with
  | .undef=>true
  | .int k' n'=>decide (k'=k) && decide (n'=n)
  | _=>false
 | .str s,v'=>match v' with
  | .undef=>true
  | .str s'=>eqN s' s
  | _=>false
 | .bool s,v'=>match v' with
  | .undef=>true
  | .bool s'=>s' == s
  | _=>false
 | _,v'=>match v' with
  | .undef=>true
  | _=>false
def qu7 (Φ:List (Nat × List AV)):List AV→List AV→Bool
 | [],l'=>noneL l'
 | a::r,l'=>match l' with
  | []=>false
  | a'::r'=>ql2 Φ a a' && qu7 Φ r r'
end
theorem qr9 {l:List AV} (h:noneL l=true):l=[]:=by cases l <;> first | rfl | cases h
mutual
theorem qyc {Φ:List (Nat × List AV)}:∀ {v v':AV},ql2 Φ v v'=true→qay [] Φ v v':=by
 intro v v' h
 cases v with
 | slc b o len cap=>
  unfold ql2 at h
  unfold qay
  cases v' <;> simp only [Bool.false_eq_true] at h ⊢
  rename_i sz es
  simp only [Bool.or_eq_true,Bool.and_eq_true] at h
  rcases h with h | h
  ·left
   cases hl:qc1 b Φ with
   | none=>rw [hl] at h;cases h
   | some cs=>
    rw [hl] at h
    simp only at h
    cases hs:qeu o (len * sz) cs with
    | none=>rw [hs] at h;cases h
    | some x=>
     rw [hs] at h
     simp only [Bool.and_eq_true] at h
     exact ⟨cs,rfl,by rw [hs,AV.eqL_of_beq _ _ h.1.1],Nat.eq_of_beq_eq_true h.1.2,h.2⟩
  ·exact .inr ⟨Nat.eq_of_beq_eq_true h.1,qr9 h.2⟩
 | fslc sz es=>
  cases v' with
  | undef=>simp [qay]
  | fslc sz' es'=>
   unfold ql2 at h
   simp only [Bool.and_eq_true] at h
   have h1:=Nat.eq_of_beq_eq_true h.1
   have h2:=AV.eqL_of_beq _ _ h.2
   subst h1;subst h2
   exact qbb rfl
  | _=>simp [ql2] at h
 | ptr b o=>
  unfold ql2 at h
  unfold qay
  cases v' <;> simp only [Bool.false_eq_true] at h ⊢
  simp only [Bool.and_eq_true] at h
  cases hl:qc1 b Φ with
  | none=>rw [hl] at h;cases h.1
  | some cs=>
   rw [hl] at h
   exact ⟨by rw [AV.eqL_of_beq _ _ h.1],Nat.eq_of_beq_eq_true h.2⟩
 | nilS=>
  unfold ql2 at h
  unfold qay
  cases v' <;> simp only [Bool.false_eq_true] at h ⊢
  exact qr9 h
 | agg cs=>
  unfold ql2 at h
  unfold qay
  cases v' <;> simp only [Bool.false_eq_true] at h ⊢
  exact .inl (ql3 h)
 | tup cs=>
  unfold ql2 at h
  unfold qay
  cases v' <;> simp only [Bool.false_eq_true] at h ⊢
  exact .inl (ql3 h)
 | int k n=>
  unfold ql2 at h
  unfold qay
  cases v' <;> simp only [Bool.false_eq_true] at h ⊢
  ·simp
  ·simp only [Bool.and_eq_true,decide_eq_true_eq] at h
   obtain ⟨rfl,rfl⟩:=h
   exact .inr ⟨rfl,rfl⟩
 | str s=>
  unfold ql2 at h
  unfold qay
  cases v' <;> simp only [Bool.false_eq_true] at h ⊢
  ·simp
  ·rw [eqN_eq,decide_eq_true_eq] at h
   subst h
   exact .inr ⟨rfl,rfl⟩
 | bool s=>
  unfold ql2 at h
  unfold qay
  cases v' <;> simp only [Bool.false_eq_true] at h ⊢
  ·simp
  ·simp only [beq_iff_eq] at h
   subst h
   exact .inr ⟨rfl,rfl⟩
 | _=>
  unfold ql2 at h
  cases v' <;> simp only [Bool.false_eq_true] at h
  simp [qay]
theorem ql3 {Φ:List (Nat × List AV)}:∀ {l l':List AV},qu7 Φ l l'=true→qb6 [] Φ l l':=by
 intro l l' h
 cases l with
 | nil=>
  unfold qu7 at h
  unfold qb6
  exact qr9 h
 | cons a r=>
  unfold qu7 at h
  unfold qb6
  cases l' with
  | nil=>cases h
  | cons a' r'=>
   simp only [Bool.and_eq_true] at h
   exact ⟨qyc h.1,ql3 h.2⟩
end
def undefL:Nat→List AV→List AV
 | 0,_=>[]
 | _+1,[]=>[]
 | n+1,_::r=>.undef::undefL n r
def undefA:List AV→List AV
 | []=>[]
 | _::r=>.undef::undefA r
def qpz:List AV→List AV→List (AV × AV)→List (AV × AV)
 | a::r,b::s,acc=>(a,b)::qpz r s acc
 | _,_,acc=>acc
def zdr (H:Heap):Nat→List (AV × AV)→List (Nat × List AV)→Option (List (Nat × List AV))
 | 0,_,_=>none
 | n+1,todo,Φ=>match todo with
  | []=>some Φ
  | x::r=>match x.1,x.2 with
   | .agg xs,.agg ys=>zdr H n (qpz xs ys r) Φ
   | .tup xs,.tup ys=>zdr H n (qpz xs ys r) Φ
   | .slc b o len _,.fslc sz es=>match len with
    | 0=>zdr H n r Φ
    | Nat.succ _=>match qc1 b Φ with
     | some _=>zdr H n r Φ
     | none=>match H.get b with
      | some (.cells cs)=>zdr H n (qpz (cs.drop o) (qan es) r) ((b,undefL o cs++qan es++undefA (cs.drop (o+len * sz)))::Φ)
      | _=>none
   | .ptr b _,.fptr ys _=>match qc1 b Φ with
    | some _=>zdr H n r Φ
    | none=>match H.get b with
     | some (.cells cs)=>zdr H n (qpz cs ys r) ((b,ys)::Φ)
     | _=>none
   | _,_=>zdr H n r Φ
def qtf:List Nat→Bool
 | []=>true
 | x::r=>match memT x r with
  | true=>false
  | false=>qtf r
theorem qxp {n:Nat}:∀ {l:List Nat},memT n l=false→n ∉ l
 | [],_=>by simp
 | m::r,h=>by
  unfold memT at h
  split at h
  ·cases h
  ·rename_i hb
   have:n≠m:=fun e=>by rw [e,Nat.beq_refl] at hb;cases hb
   simp [this,qxp h]
theorem qo5:∀ {l:List Nat},qtf l=true→l.Nodup
 | [],_=>List.nodup_nil
 | x::r,h=>by
  unfold qtf at h
  split at h
  ·cases h
  ·rename_i hm
   exact List.nodup_cons.2 ⟨qxp hm,qo5 h⟩
def zcu (H:Heap) (Φ:List (Nat × List AV)):List (Nat × List AV)→Bool
 | []=>true
 | x::r=>(match H.get x.1 with
  | some (.cells cs)=>qu7 Φ cs x.2 && qac x.2
  | _=>false) && zcu H Φ r
theorem qrj {H:Heap} {Φ:List (Nat × List AV)}:∀ {l:List (Nat × List AV)},zcu H Φ l=true→∀ x,x∈l→∃ cs,H.get x.1=some (.cells cs)∧qb6 [] Φ cs x.2∧qac x.2=true
 | [],_,x,hx=>by cases hx
 | y::r,h,x,hx=>by
  unfold zcu at h
  simp only [Bool.and_eq_true] at h
  rcases List.mem_cons.1 hx with rfl | hx
  ·have h1:=h.1
   split at h1
   ·rename_i cs hg
    simp only [Bool.and_eq_true] at h1
    exact ⟨cs,hg,ql3 h1.1,h1.2⟩
   ·cases h1
  ·exact qrj h.2 x hx
def litOK (lit:AV):Option (AV × Heap)→Bool
 | some (v,H)=>match zdr H 100000 [(v,lit)] [] with
  | some Φ=>qtf (Φ.map (·.1)) && zcu H Φ Φ && ql2 Φ v lit
  | none=>false
 | none=>false
theorem quf {T:List (Entry Tryz.prog)} {f:FuncId} {args:List AV} {lit:AV} (h:litOK lit (qow (ctx T) 100000 (.fn f) args ⟨0,[]⟩)=true):CallAt (ctx T) f args ⟨0,[]⟩ lit ⟨0,[]⟩:=by
 revert h
 cases hr:qow (ctx T) 100000 (.fn f) args ⟨0,[]⟩ with
 | none=>intro h;cases h
 | some r=>
  obtain ⟨v,H'⟩:=r
  intro h
  unfold litOK at h
  simp only at h
  cases hc:zdr H' 100000 [(v,lit)] [] with
  | none=>rw [hc] at h;cases h
  | some Φ=>
   rw [hc] at h
   simp only [Bool.and_eq_true] at h
   exact ((qw4 qci (qxn _ _ _) 100000).fn f args ⟨0,[]⟩ _ _ hr).freeze (qyc h.2) (FitH.froze (qo5 h.1.1) (qrj h.1.2))
end
end Go.Proofs.YtgpjifeeneeiaaaGreatDoor
namespace Go.Proofs.YtgpjifeeneeiaaaGreatDoor
set_option linter.unusedSimpArgs false
set_option linter.unusedVariables false
open Go Go.RowKit
set_option maxRecDepth 100000
abbrev qru:Str:=[239,191,189]
theorem enc_lit:litOK (.str qru) (qow (ctx []) 100000 (.fn 172) [.int .i64 65533] ⟨0,[]⟩)=true:=by decide +kernel
noncomputable def e172:Entry Tryz.prog:=mkE 172 [[]] (fun _:Unit=>[.int .i64 65533]) (fun _=>True) (fun _=>.str qru) fun _ _=>quf (T:=[]) enc_lit
theorem k172 {T:List (Entry Tryz.prog)} (hT:qag 172 T=some e172.g) (H:Heap):qb9 (ctx T) (.fn 172) [.int .i64 65533] H=some (.str qru,H):=
 qae hT (fun _ _ _=>rfl) () trivial rfl (by simp)
theorem qxl (s:Str):∀ k i lo hi,1≤i→i≤s.length→i≤(qo4 s k i lo hi).1∧(qo4 s k i lo hi).1≤s.length
 | 0,i,_,_,h1,h2=>⟨Nat.le_refl _,h2⟩
 | k+1,i,lo,hi,h1,h2=>by
  unfold qo4
  split
  ·rename_i hc
   simp only [qph,Bool.and_eq_true,decide_eq_true_eq] at hc
   obtain ⟨a,b⟩:=qxl s k (i+1) 128 191 (by omega) (by omega)
   exact ⟨by omega,b⟩
  ·exact ⟨Nat.le_refl _,h2⟩
theorem qr8 {s:Str} (h:0 < s.length):1≤(qft s).1∧(qft s).1≤s.length:=by
 unfold qft
 split
 ·exact ⟨Nat.le_refl _,h⟩
 ·split
  ·exact ⟨Nat.le_refl _,h⟩
  ·exact qxl s _ 1 _ _ (Nat.le_refl _) h
def qcx (s:Str):Str × Nat:=if (qft s).2=false∨cN s 0=0 then (qru,(qft s).1) else if cN s 0=13 then ([10],if 1 < s.length∧cN s 1=10 then 2 else (qft s).1) else (s.take (qft s).1,(qft s).1)
def qjf:Nat→Str→Str
 | 0,_=>[]
 | k+1,s=>if s=[] then [] else (qcx s).1++qjf k (s.drop (qcx s).2)
def quw (s:Str):Str:=qjf s.length s
theorem qit {s:Str} {i j:Nat}:cN (s.drop i) j=cN s (i+j):=by
 unfold cN
 simp [List.getD_eq_getElem?_getD,List.getElem?_drop]
theorem c162 {T:List (Entry Tryz.prog)} (hO:qag 171 T=some e171.g) (hE:qag 172 T=some e172.g) (s:Str) (hl:s.length≤1000000):CallAt (ctx T) 162 [aB s] ⟨0,[]⟩ (.str (quw s)) ⟨0,[]⟩:=by
 have ke:=fun H=>k172 hE H
 refine qa3 (fn:=Tryz.f162) (s0:=⟨[0,2,3,4,5,6],[aB s,.undef,.undef,.undef,.undef,.undef],[],64,⟨0,[[]]⟩⟩) Tryz.func162 rfl rfl rfl ?_
 repeat apply wq
 refine qa0 qa1 ?_
 simp [zS]
 repeat apply wq
 refine qa0 qa1 ?_
 simp [zS]
 repeat apply wq
 refine qa0 qa1 ?_
 simp [zS]
 refine qa9 (qax (fun x:Nat × Str × Nat=>(⟨[0,2,3,4,5,6],[aB s,.str [],gV 0 x.2.1,.int .i64 (x.2.2:Nat),.undef,.undef],[],64,⟨1,[gF 0 x.2.1]⟩⟩ : St))
  (fun x=>x.2.2≤s.length∧s.length≤x.2.2+x.1∧x.2.1++qjf x.1 (s.drop x.2.2)=quw s∧x.2.1.length≤3 * x.2.2) (fun x=>x.1) [] [] (s.length,[],0) ⟨Nat.zero_le _,by simp,by simp [quw],by simp⟩
  ⟨rfl,rfl,rfl,by simp [qb6,qay,qaf,aB,gV],.keep0 (by simp [gF])⟩ ?_)
 rintro ⟨k,out,i⟩ ⟨hi,hk,hd,hol⟩ B hB
 simp only at hi hk hd hol hB
 by_cases h:i < s.length
 ·obtain ⟨k,rfl⟩ : ∃ k',k=k'+1:=⟨k - 1,by omega⟩
  have hx:(i:Int) < (s.length:Int):=by omega
  have hdl:0 < (s.drop i).length:=by rw [List.length_drop];omega
  have ko:=fun H=>k171 hO (s:=s.drop i) hdl (by rw [List.length_drop];omega) H
  have hsl:=fun H=>slB (H:=H) (s:=s) (i:=i) (by omega)
  have hat:=atB h
  rw [qox h] at hat
  obtain ⟨n1,n2⟩:=qr8 hdl
  have hstep:qjf (k+1) (s.drop i)=(qcx (s.drop i)).1++qjf k ((s.drop i).drop (qcx (s.drop i)).2):=by
   have:¬ s.drop i=[]:=fun e=>by rw [e] at hdl;simp at hdl
   simp only [qjf,if_neg this]
  rw [hstep] at hd
  have hc0:cN (s.drop i) 0=cN s i:=by rw [qit,Nat.add_zero]
  have hc1:cN (s.drop i) 1=cN s (i+1):=qit
  have hds:qcx (s.drop i)=if (qft (s.drop i)).2=false∨cN s i=0 then (qru,(qft (s.drop i)).1) else if cN s i=13 then ([10],if 1 < (s.drop i).length∧cN s (i+1)=10 then 2 else (qft (s.drop i)).1) else ((s.drop i).take (qft (s.drop i)).1,(qft (s.drop i)).1):=by
   unfold qcx;rw [hc0,hc1]
  rw [List.length_drop] at n2 hds
  generalize hone:qft (s.drop i)=o at *
  obtain ⟨n,ok⟩:=o
  simp only [oneA] at ko n1 n2 hds
  obtain ⟨c,hc⟩ : ∃ c,c=cN s i:=⟨_,rfl⟩
  rw [← hc] at hat hds
  have hadd:∀ j:Nat,j≤1000000→wr .i64 ((i:Int)+(j:Int))=some ((i+j:Nat):Int):=fun j hj=>by rw [qc6 (by omega) (by omega)];simp
  have put:∀ (t:Str) (m j:Nat) (g:List (Nat × Blk)) (v5 v6:AV) (L m':Nat) (J:Int) (ts:List (Nat × AV)),L=t.length→J=j→0 < t.length→t.length≤3 * j→1≤j→i+j≤s.length→qcx (s.drop i)=(t,j) →
    B { (⟨[0,2,3,4,5,6],[aB s,.str [],.slc m 0 (out.length+L) (.rest 1),.int .i64 ((i:Int)+J),v5,v6],[],64,⟨m',[(m,.buf 5 0 (qb0 (out++t)))::g]⟩⟩ : St) with ts:=ts }:=fun t m j g v5 v6 L m' J ts hL hJ ht htl hj hij hst=>by
   subst hL;subst hJ
   have hne:out++t≠[]:=fun e=>by have:=congrArg List.length e;simp at this;rw [this.2] at ht;simp at ht
   refine hB _ (k,out++t,i+j) (by simp only;omega) ⟨by simp only;omega,by simp only;omega,?_,by simp only [List.length_append];omega⟩ ⟨[(m,0)],[],rfl,rfl,rfl,?_,fit_g (b:=m) hne (by simp [Heap.get,getFs,getF])⟩
   ·simp only
    rw [← hd,hst,List.append_assoc,List.drop_drop]
   ·have:=fitV_g (σ:=[(m,0)]) (Φ:=[]) (b:=m) (s:=out++t) (by simp [qb2]) hne
    rw [List.length_append] at this
    simp [qb6,qaf,aB,this]
    exact ⟨qbb rfl,qbb rfl,qbb rfl⟩
  repeat apply wq
  refine qa0 qa1 ?_
  simp [zS,lenB,hx,h]
  refine qai rfl ?_
  refine qa7 ?_
  simp
  refine qa9 ?_
  repeat apply wq
  refine qa0 qa1 ?_
  simp [zS,hsl,ko]
  have bad:∀ {Q:Out→St→Prop},True:=fun {_}=>trivial
  by_cases hb:ok=false∨c=0
  ·have hst:qcx (s.drop i)=(qru,n):=by rw [hds,if_pos hb]
   have happ:=app_g (m:=1) (s:=out) (t:=qru) (x:=.str qru) (g:=[]) rfl rfl rfl (by decide) (by simp;omega)
   simp only [List.nil_append] at happ
   have hfin:=fun ts=>put qru 1 n [] (.int .i64 (n:Int)) (.bool ok) 3 2 n ts rfl rfl (by decide) (by simp;omega) n1 (by omega) hst
   cases ok with
   | false=>
    repeat apply wq
    refine qa0 qa1 ?_
    simp [zS]
    refine qai rfl ?_
    refine qa0 qa1 ?_
    simp [zS,ke,happ]
    refine qa0 qa1 ?_
    simp [zS,hadd n (by omega)]
    exact hfin _
   | true=>
    have hc00:c=0:=by simpa using hb
    subst hc00
    repeat apply wq
    refine qa0 qa1 ?_
    simp [zS,hat]
    refine qai rfl ?_
    refine qa0 qa1 ?_
    simp [zS,ke,happ]
    refine qa0 qa1 ?_
    simp [zS,hadd n (by omega)]
    exact hfin _
  ·have hok:ok=true:=by cases ok <;> simp at hb ⊢
   subst hok
   have hcn:¬ c=0:=fun e=>hb (.inr e)
   have hcn':¬ (c:Int)=0:=by omega
   repeat apply wq
   refine qa0 qa1 ?_
   simp [zS,hat,hcn,hcn']
   refine qal rfl ?_
   rw [if_neg hb] at hds
   by_cases h13:c=13
   ·have h13':(c:Int)=13:=by omega
    rw [if_pos h13] at hds
    repeat apply wq
    refine qa0 qa1 ?_
    simp [zS,hat,h13']
    refine qai rfl ?_
    have happ:=app_g (m:=2) (s:=out) (t:=[10]) (x:=.slc 1 0 1 (.ex 1)) (g:=[(1,.cells [.int .u8 10])]) rfl (by simp [qbi,readCells,Heap.get,getFs,getF,qb0]) (by simp [getF]) (by decide) (by simp;omega)
    simp only [List.cons_append,List.nil_append] at happ
    repeat apply wq
    refine qa0 qa1 ?_
    simp [zS,happ]
    obtain ⟨i1,hi1⟩ : ∃ i1,i1=i+1:=⟨_,rfl⟩
    have ha1:wr .i64 ((i:Int)+1)=some ((i1:Nat):Int):=by rw [hi1];exact qba (by omega)
    rw [← hi1] at hds
    by_cases q1:i1 < s.length
    ·have q1':(i1:Int) < (s.length:Int):=by omega
     have hat1:=atB q1
     rw [qox q1] at hat1
     obtain ⟨d,hd1⟩ : ∃ d,d=cN s i1:=⟨_,rfl⟩
     rw [← hd1] at hat1 hds
     by_cases q2:d=10
     ·have q2':(d:Int)=10:=by omega
      rw [if_pos ⟨by omega,q2⟩] at hds
      repeat apply wq
      refine qa0 qa1 ?_
      simp [zS,ha1,lenB,q1,q1',hat1,q2']
      refine qai rfl ?_
      refine qa0 qa1 ?_
      simp [zS]
      have h2:wr .i64 ((i:Int)+2)=some ((i:Int)+2):=qc6 (by omega) (by omega)
      refine qa0 qa1 ?_
      simp [zS,h2]
      exact put [10] 2 2 _ (.int .i64 2) _ 1 3 2 _ rfl rfl (by decide) (by simp) (by omega) (by omega) hds
     ·have q2':¬ (d:Int)=10:=by omega
      rw [if_neg (fun e=>q2 e.2)] at hds
      repeat apply wq
      refine qa0 qa1 ?_
      simp [zS,ha1,lenB,q1,q1',hat1,q2']
      refine qal rfl ?_
      refine qa7 ?_
      simp
      refine qa0 qa1 ?_
      simp [zS,hadd n (by omega)]
      exact put [10] 2 n _ (.int .i64 (n:Int)) _ 1 3 n _ rfl rfl (by decide) (by simp;omega) n1 (by omega) hds
    ·have q1':¬ (i1:Int) < (s.length:Int):=by omega
     rw [if_neg (fun e=>q1 (by omega))] at hds
     repeat apply wq
     refine qa0 qa1 ?_
     simp [zS,ha1,lenB,q1,q1']
     refine qal rfl ?_
     refine qa7 ?_
     simp
     refine qa0 qa1 ?_
     simp [zS,hadd n (by omega)]
     exact put [10] 2 n _ (.int .i64 (n:Int)) _ 1 3 n _ rfl rfl (by decide) (by simp;omega) n1 (by omega) hds
   ·have h13':¬ (c:Int)=13:=by omega
    rw [if_neg h13] at hds
    have hsl2:=fun H=>slB2 (H:=H) (s:=s) (i:=i) (j:=i+n) (by omega) (by omega)
    have htk:(s.take (i+n)).drop i=(s.drop i).take n:=by rw [List.drop_take];congr 1;omega
    have htl:((s.drop i).take n).length=n:=by simp;omega
    have happ:=app_g (m:=1) (s:=out) (t:=(s.drop i).take n) (x:=aB ((s.drop i).take n)) (g:=[]) (by simp [aB,qcc,qja]) (by
     have:=qlo ((s.drop i).take n)
     simp only [aB,qbi,Nat.beq_refl]
     rw [List.take_of_length_le (by rw [qja];omega),this]) rfl (by omega) (by omega)
    simp only [List.nil_append] at happ
    simp only [htk,Int.natCast_add] at hsl2
    have hfin:=fun ts=>put ((s.drop i).take n) 1 n [] (.int .i64 (n:Int)) (.bool true) _ 2 n ts rfl rfl (by omega) (by omega) n1 (by omega) hds
    repeat apply wq
    refine qa0 qa1 ?_
    simp [zS,hat,h13']
    refine qal rfl ?_
    have ha:=hadd n (by omega)
    generalize (s.drop i).take n=t at *
    refine qa0 qa1 ?_
    simp [zS,ha,hsl2,happ]
    refine qa0 qa1 ?_
    simp [zS,ha]
    exact hfin _
 ·have hx:¬ (i:Int) < (s.length:Int):=by omega
  have hie:i=s.length:=by omega
  subst hie
  have hnil:qjf k (s.drop s.length)=[]:=by
   rw [List.drop_length]
   cases k <;> simp [qjf]
  rw [hnil,List.append_nil] at hd
  subst hd
  repeat apply wq
  refine qa0 qa1 ?_
  simp [zS,lenB]
  refine qal (by simp [qbq,St.get]) ?_
  refine qat ?_
  simp
  repeat apply wq
  refine qa0 qa1 ?_
  simp [zS,conv_g]
  refine qa8 ?_
  simp [qab,Tryz.f162,oneOr,qaa,qa2]
  exact qa4 rfl (by rfl)
noncomputable def e162:Entry Tryz.prog:=mkE 162 [[1]] (fun x:Str=>[aB x]) (fun x=>x.length≤1000000) (fun x=>.str (quw x)) fun x h=>c162 (T:=[e171,e172]) rfl rfl x h
theorem k162 {T:List (Entry Tryz.prog)} (hT:qag 162 T=some e162.g) {s:Str} (hl:s.length≤1000000) {cap:Cap} {b:Nat} (H:Heap) (hb:H.get b=some (.cells (qb0 s))):qb9 (ctx T) (.fn 162) [.slc b 0 s.length cap] H=some (.str (quw s),H):=by
 refine qae hT inj_b1 s hl rfl ?_
 have:=qsh (r:=[]) (cap:=cap) (el_bytes s) (by rw [qlo];exact hb)
 rw [qja] at this
 simp [this,aB]
def qji (s:Str):Bool:=decide (quw s=s)
theorem c135 {T:List (Entry Tryz.prog)} (hD:qag 162 T=some e162.g) (s:Str) (hl:s.length≤1000000):CallAt (ctx T) 135 [.str s] ⟨0,[]⟩ (.bool (qji s)) ⟨0,[]⟩:=by
 have hk:=k162 hD (s:=s) hl (cap:=.rest 1) (b:=0) (qdw 1 s) (by simp [qdw,Heap.get,getFs,getF])
 refine qa3 (fn:=Tryz.f135) (s0:=⟨[0,2],[.str s,.undef],[],8,⟨0,[[]]⟩⟩) Tryz.func135 rfl rfl rfl ?_
 repeat apply wq
 refine qa0 qa1 ?_
 simp [zS]
 repeat apply wq
 refine qa0 qa1 ?_
 simp [zS,conv1 hl,hk]
 refine qa8 ?_
 simp [qab,Tryz.f135,oneOr,qaa,qa2]
 exact qa4 rfl (by rfl)
noncomputable def e135:Entry Tryz.prog:=mkE 135 [[]] (fun x:Str=>[.str x]) (fun x=>x.length≤1000000) (fun x=>.bool (qji x)) fun x h=>c135 (T:=[e162]) rfl x h
theorem k135 {T:List (Entry Tryz.prog)} (hT:qag 135 T=some e135.g) {s:Str} (hl:s.length≤1000000) (H:Heap):qb9 (ctx T) (.fn 135) [.str s] H=some (.bool (qji s),H):=
 qae hT qvm s hl rfl (by simp)
def qte (n b0 b1 b2 b3:Nat):Nat × Bool:=
 if b0 < 128 then (1,true) else if qee b0=0 then (1,false)
 else if ¬ (1 < n∧loN b0≤b1∧b1≤hiN b0) then (1,false) else if qee b0=1 then (2,true)
 else if ¬ (2 < n∧128≤b2∧b2≤191) then (2,false) else if qee b0=2 then (3,true)
 else if ¬ (3 < n∧128≤b3∧b3≤191) then (3,false) else (4,true)
theorem zby (s:Str):qft s=qte s.length (cN s 0) (cN s 1) (cN s 2) (cN s 3):=by
 unfold qft qte
 generalize cN s 0=c
 have h3:=qxm c
 have hc:∀ i lo hi,(qph s i lo hi=true)=(i < s.length∧lo≤cN s i∧cN s i≤hi):=fun i lo hi=>by simp [qph]
 obtain h | h | h | h:qee c=0∨qee c=1∨qee c=2∨qee c=3:=by omega
 all_goals
  simp only [h,qo4,hc,ite_not,Nat.reduceEqDiff,if_true,if_false,Nat.reduceAdd]
  try (repeat' split) <;> first | rfl | (exfalso;omega)
set_option maxHeartbeats 1000000 in
theorem qzh (n b0 b1 b2 b3:Nat) (hn:1≤n) (h0:b0 < 256) (h1:b1 < 256) (h2:b2 < 256) (h3:b3 < 256) :
  ((qte n b0 b1 b2 b3).2=false∧Lib.decodeN n b0 b1 b2 b3=(65533,1))∨((qte n b0 b1 b2 b3).2=true∧(Lib.decodeN n b0 b1 b2 b3).2=(qte n b0 b1 b2 b3).1∧¬ ((Lib.decodeN n b0 b1 b2 b3).1=65533∧(Lib.decodeN n b0 b1 b2 b3).2=1)):=by
 by_cases ha:b0 < 128
 ·exact .inr ⟨by simp [qte,ha],by simp [qte,Lib.decodeN,ha],by simp [Lib.decodeN,ha];omega⟩
 rcases Lib.check_decode n b0 b1 b2 b3 hn (by omega) h0 h1 h2 h3 with ⟨g1,g2⟩ | ⟨k,hk,g1,g2⟩
 all_goals
  have cls:b0 < 194∨(194≤b0∧b0 < 224)∨b0=224∨(225≤b0∧b0 < 237)∨b0=237∨(238≤b0∧b0 < 240)∨b0=240∨(241≤b0∧b0 < 244)∨b0=244∨245≤b0:=by omega
  have F:∀ m l h x y z,qee b0=m→loN b0=l→hiN b0=h→Lib.firstT b0 % 8=x→Lib.accLo (Lib.firstT b0 / 16)=y→Lib.accHi (Lib.firstT b0 / 16)=z→(m=0∧4 < x∨m=0∧x < 2∨x=m+1∧1≤m∧m≤3∧y=l∧z=h) →
    ((qte n b0 b1 b2 b3).2=false∧Lib.checkN n b1 b2 b3 x y z=none)∨((qte n b0 b1 b2 b3).2=true∧Lib.checkN n b1 b2 b3 x y z=some (qte n b0 b1 b2 b3).1):=by
   intro m l h x y z e1 e2 e3 _ _ _ hh
   simp only [qte,ha,if_false,e1,e2,e3,Lib.checkN,ite_not]
   rcases hh with ⟨rfl,hx⟩ | ⟨rfl,hx⟩ | ⟨rfl,hm1,hm2,rfl,rfl⟩
   ·left;simp only [if_true];refine ⟨trivial,?_⟩;rw [if_neg (by omega),if_neg (by omega),if_neg (by omega)]
   ·left;simp only [if_true];refine ⟨trivial,?_⟩;rw [if_neg (by omega),if_neg (by omega),if_neg (by omega)]
   ·obtain rfl | rfl | rfl:m=1∨m=2∨m=3:=by omega
    all_goals
     simp only [Nat.reduceEqDiff,if_false,if_true,Nat.reduceAdd]
     (repeat' split) <;> first | (exfalso;omega) | (left;exact ⟨rfl,rfl⟩) | (right;exact ⟨rfl,rfl⟩)
  have G:((qte n b0 b1 b2 b3).2=false∧Lib.checkN n b1 b2 b3 (Lib.firstT b0 % 8) (Lib.accLo (Lib.firstT b0 / 16)) (Lib.accHi (Lib.firstT b0 / 16))=none)∨((qte n b0 b1 b2 b3).2=true∧Lib.checkN n b1 b2 b3 (Lib.firstT b0 % 8) (Lib.accLo (Lib.firstT b0 / 16)) (Lib.accHi (Lib.firstT b0 / 16))=some (qte n b0 b1 b2 b3).1):=by
   refine F _ _ _ _ _ _ rfl rfl rfl rfl rfl rfl ?_
   have k1:∀ c:Fin 256,128≤c.val→(qee c.val=0∧4 < Lib.firstT c.val % 8∨qee c.val=0∧Lib.firstT c.val % 8 < 2∨Lib.firstT c.val % 8=qee c.val+1∧1≤qee c.val∧qee c.val≤3∧Lib.accLo (Lib.firstT c.val / 16)=loN c.val∧Lib.accHi (Lib.firstT c.val / 16)=hiN c.val):=by decide +kernel
   exact k1 ⟨b0,h0⟩ (by simp only;omega)
  rcases G with ⟨G1,G2⟩ | ⟨G1,G2⟩
 ·exact .inl ⟨G1,g2⟩
 ·rw [g1] at G2;cases G2
 ·rw [g1] at G2;cases G2
 ·rw [g1] at G2
  simp only [sj] at G2
  exact .inr ⟨G1,by rw [g2,G2],by omega⟩
theorem zbw (s:Str) (h:0 < s.length):((qft s).2=false∧Lib.decodeL s=(65533,1))∨((qft s).2=true∧(Lib.decodeL s).2=(qft s).1∧¬ ((Lib.decodeL s).1=65533∧(Lib.decodeL s).2=1)):=by
 rw [zby,Lib.decodeL_N]
 exact qzh _ _ _ _ _ (by omega) (UInt8.toNat_lt _) (UInt8.toNat_lt _) (UInt8.toNat_lt _) (UInt8.toNat_lt _)
theorem qxk {s:Str} (h:(qft s).2=true):cN s 0 < 128∧(qft s).1=1∨128≤cN s 0∧2≤(qft s).1∧(qft s).1≤s.length∧∀ k,k < (qft s).1→128≤cN s k:=by
 rw [zby] at h ⊢
 unfold qte at h ⊢
 by_cases ha:cN s 0 < 128
 ·left;simp [ha]
 right
 simp only [ha,if_false] at h ⊢
 split at h
 ·cases h
 rename_i hm
 rw [if_neg hm]
 have hlo:128≤loN (cN s 0):=by unfold loN;(repeat' split) <;> omega
 split at h
 ·cases h
 rename_i g1
 rw [if_neg g1]
 simp only [Decidable.not_not] at g1
 have k4:∀ m k,k < m→m≤4→k=0∨k=1∨(2 < m∧k=2)∨(3 < m∧k=3):=fun m k h1 h2=>by omega
 split at h
 ·rename_i m1
  rw [if_pos m1]
  refine ⟨by omega,by simp,by simp;omega,fun k hk=>?_⟩
  rcases k4 2 k hk (by omega) with rfl | rfl | h | h <;> omega
 rename_i m1
 rw [if_neg m1]
 split at h
 ·cases h
 rename_i g2
 rw [if_neg g2]
 simp only [Decidable.not_not] at g2
 split at h
 ·rename_i m2
  rw [if_pos m2]
  refine ⟨by omega,by simp,by simp;omega,fun k hk=>?_⟩
  rcases k4 3 k hk (by omega) with rfl | rfl | h | h
  ·omega
  ·omega
  ·rw [h.2];omega
  ·omega
 rename_i m2
 rw [if_neg m2]
 split at h
 ·cases h
 rename_i g3
 rw [if_neg g3]
 simp only [Decidable.not_not] at g3
 refine ⟨by omega,by simp,by simp;omega,fun k hk=>?_⟩
 rcases k4 4 k hk (by omega) with rfl | rfl | h | h
 ·omega
 ·omega
 ·rw [h.2];omega
 ·rw [h.2];omega
theorem mem_cN {s:Str} {c:UInt8} (h:c∈s):∃ i,i < s.length∧cN s i=c.toNat:=by
 obtain ⟨i,hi,rfl⟩:=List.getElem_of_mem h
 exact ⟨i,hi,(qox hi).symm⟩
theorem cN_mem {s:Str} {i:Nat} (h:i < s.length):∃ c,c∈s∧c.toNat=cN s i:=⟨s[i],List.getElem_mem h,qox h⟩
theorem qxq {s:Str} (n:Nat) (h:∀ k,k < n→128≤cN s k) {m:Nat} (hm:m < 128):(∃ i,i < s.length∧cN s i=m)↔∃ i,i < (s.drop n).length∧cN (s.drop n) i=m:=by
 constructor
 ·rintro ⟨i,hi,hc⟩
  have:n≤i:=by
   apply Decidable.byContradiction
   intro hn
   have:=h i (by omega)
   omega
  exact ⟨i - n,by rw [List.length_drop];omega,by rw [qit,show n+(i - n)=i by omega];exact hc⟩
 ·rintro ⟨i,hi,hc⟩
  rw [List.length_drop] at hi
  exact ⟨n+i,by omega,by rw [← qit];exact hc⟩
def za7 (s:Str) (m:Nat):Prop:=∃ i,i < s.length∧cN s i=m
theorem qy0 {s:Str} (h:0 < s.length) {m:Nat}:za7 s m↔cN s 0=m∨za7 (s.drop 1) m:=by
 constructor
 ·rintro ⟨i,hi,hc⟩
  cases i with
  | zero=>exact .inl hc
  | succ i=>exact .inr ⟨i,by rw [List.length_drop];omega,by rw [qit,Nat.add_comm];exact hc⟩
 ·rintro (hc | ⟨i,hi,hc⟩)
  ·exact ⟨0,h,hc⟩
  ·rw [List.length_drop] at hi
   exact ⟨1+i,by omega,by rw [← qit];exact hc⟩
theorem bad_enc {s:Str} (h:s=qru++s.drop 3) (h3:3≤s.length):(qft s).2=true:=by
 have e:∀ i,i < 3→cN s i=cN qru i:=fun i hi=>by
  rw [h]
  unfold cN
  simp only [List.getD_eq_getElem?_getD]
  rw [List.getElem?_append_left (by simpa using hi)]
 have c0:=e 0 (by omega)
 have c1:=e 1 (by omega)
 have c2:=e 2 (by omega)
 rw [zby,c0,c1,c2]
 have:qte s.length (cN qru 0) (cN qru 1) (cN qru 2) (cN s 3)=(3,true):=by
  have a0:cN qru 0=239:=by decide
  have a1:cN qru 1=191:=by decide
  have a2:cN qru 2=189:=by decide
  have m:qee 239=2:=by decide
  have l:loN 239=128:=by decide
  have hh:hiN 239=191:=by decide
  unfold qte
  rw [a0,a1,a2,m,l,hh,if_neg (by omega),if_neg (by omega),if_neg (by omega),if_neg (by omega),if_neg (by omega),if_pos rfl]
 rw [this]
theorem qrw:∀ (k m:Nat) (s:Str),s.length≤k→s.length≤m→qjf k s=qjf m s
 | 0,m,s,h,_=>by
  have:s=[]:=List.eq_nil_of_length_eq_zero (by omega)
  subst this
  cases m <;> simp [qjf]
 | k+1,0,s,_,h=>by
  have:s=[]:=List.eq_nil_of_length_eq_zero (by omega)
  subst this
  simp [qjf]
 | k+1,m+1,s,h1,h2=>by
  unfold qjf
  by_cases hs:s=[]
  ·simp [hs]
  ·rw [if_neg hs,if_neg hs]
   have hl:0 < s.length:=List.length_pos_iff.2 hs
   have hj:1≤(qcx s).2:=by
    have:=(qr8 hl).1
    unfold qcx
    (repeat' split) <;> simp only <;> omega
   rw [qrw k m (s.drop (qcx s).2) (by rw [List.length_drop];omega) (by rw [List.length_drop];omega)]
theorem zdn {s:Str} (hs:s≠[]):quw s=(qcx s).1++quw (s.drop (qcx s).2):=by
 have hl:0 < s.length:=List.length_pos_iff.2 hs
 have hj:1≤(qcx s).2:=by
  have:=(qr8 hl).1
  unfold qcx
  (repeat' split) <;> simp only <;> omega
 unfold quw
 rw [qrw s.length (s.length - 1+1) s (Nat.le_refl _) (by omega)]
 conv=>lhs;unfold qjf
 rw [if_neg hs,qrw (s.length - 1) (s.drop (qcx s).2).length _ (by rw [List.length_drop];omega) (Nat.le_refl _)]
theorem qsf:∀ (k:Nat) (s:Str),s.length≤k→(quw s=s↔Lib.validD s=true∧¬ za7 s 0∧¬ za7 s 13)
 | 0,s,h=>by
  have:s=[]:=List.eq_nil_of_length_eq_zero (by omega)
  subst this
  simp [quw,qjf,Lib.validD_nil,za7]
 | k+1,s,h=>by
  by_cases hs:s=[]
  ·subst hs;simp [quw,qjf,Lib.validD_nil,za7]
  have hl:0 < s.length:=List.length_pos_iff.2 hs
  have hone:=qr8 hl
  rw [zdn hs,Lib.validD_step s hs]
  rcases zbw s hl with ⟨g1,g2⟩ | ⟨g1,g2,g3⟩
  ·rw [g2]
   simp only [and_self,if_true,Bool.false_eq_true,false_and,iff_false]
   intro he
   have hst:qcx s=(qru,(qft s).1):=by unfold qcx;rw [if_pos (.inl g1)]
   rw [hst] at he
   have hlen:=congrArg List.length he
   simp only [List.length_append,List.length_cons,List.length_nil] at hlen
   have hd:s.drop 3=quw (s.drop (qft s).1):=by have:=congrArg (List.drop 3) he;simpa using this.symm
   have:(qft s).2=true:=bad_enc (by rw [hd];exact he.symm) (by omega)
   rw [g1] at this;cases this
  ·rw [if_neg g3,g2]
   have hdl:(s.drop (qft s).1).length≤k:=by rw [List.length_drop];omega
   have ih:=qsf k (s.drop (qft s).1) hdl
   by_cases h0:cN s 0=0
   ·have hst:qcx s=(qru,(qft s).1):=by unfold qcx;rw [if_pos (.inr h0)]
    rw [hst]
    constructor
    ·intro he
     have hc:cN s 0=239:=by rw [← he];rfl
     omega
    ·exact fun ⟨_,hn,_⟩=>absurd ⟨0,hl,h0⟩ hn
   by_cases h13:cN s 0=13
   ·constructor
    ·intro he
     have hst:(qcx s).1=[10]:=by unfold qcx;rw [if_neg (by simp [g1,h0]),if_pos h13]
     rw [hst] at he
     have hc:cN s 0=10:=by rw [← he];rfl
     omega
    ·exact fun ⟨_,_,hn⟩=>absurd ⟨0,hl,h13⟩ hn
   have hst:qcx s=(s.take (qft s).1,(qft s).1):=by unfold qcx;rw [if_neg (by simp [g1,h0]),if_neg h13]
   rw [hst]
   have e1:(s.take (qft s).1++quw (s.drop (qft s).1)=s)↔quw (s.drop (qft s).1)=s.drop (qft s).1:=by
    constructor
    ·intro he
     have:s.take (qft s).1++quw (s.drop (qft s).1)=s.take (qft s).1++s.drop (qft s).1:=by rw [List.take_append_drop];exact he
     exact List.append_cancel_left this
    ·intro he;rw [he,List.take_append_drop]
   simp only
   rw [e1,ih]
   rcases qxk g1 with ⟨q1,q2⟩ | ⟨q1,q2,q3,q4⟩
   ·rw [q2]
    have a0:=qy0 hl (m:=0)
    have a1:=qy0 hl (m:=13)
    rw [a0,a1]
    simp [h0,h13]
   ·have a0:za7 s 0↔za7 (s.drop (qft s).1) 0:=qxq _ q4 (by omega)
    have a1:za7 s 13↔za7 (s.drop (qft s).1) 13:=qxq _ q4 (by omega)
    rw [a0,a1]
def qpc (p:Nat→Bool) (s:Str):Bool:=s.any fun c=>p c.toNat
theorem qrh {p:Nat→Bool} {s:Str}:qpc p s=true↔∃ i,i < s.length∧p (cN s i)=true:=by
 unfold qpc
 rw [List.any_eq_true]
 constructor
 ·rintro ⟨c,hc,hp⟩
  obtain ⟨i,h1,h2⟩:=mem_cN hc
  exact ⟨i,h1,by rw [h2];exact hp⟩
 ·rintro ⟨i,hi,hp⟩
  obtain ⟨c,h1,h2⟩:=cN_mem hi
  exact ⟨c,h1,by rw [h2];exact hp⟩
def qv6 (p:Nat→Bool):Nat→Str→Nat→Int
 | 0,_,_=>-1
 | k+1,s,pos=>if s=[] then -1 else if p (Lib.decodeL s).1=true then pos else qv6 p k (s.drop (Lib.decodeL s).2) (pos+(Lib.decodeL s).2)
theorem zb7 {n b0 b1 b2 b3:Nat} (h:128≤b0):128≤(Lib.decodeN n b0 b1 b2 b3).1:=by
 unfold Lib.decodeN
 (repeat' split) <;> simp only <;> omega
theorem que {s:Str} (h:0 < s.length):cN s 0 < 128∧Lib.decodeL s=(cN s 0,1)∨128≤cN s 0∧128≤(Lib.decodeL s).1∧1≤(Lib.decodeL s).2∧(Lib.decodeL s).2≤s.length∧∀ k,k < (Lib.decodeL s).2→128≤cN s k:=by
 by_cases ha:cN s 0 < 128
 ·left
  refine ⟨ha,?_⟩
  rw [Lib.decodeL_N]
  exact Lib.decodeN_ascii _ _ _ _ _ ha
 right
 have hi:128≤(Lib.decodeL s).1:=by rw [Lib.decodeL_N];exact zb7 (by show 128≤cN s 0;omega)
 refine ⟨by omega,hi,?_⟩
 rcases zbw s h with ⟨g1,g2⟩ | ⟨g1,g2,g3⟩
 ·rw [g2]
  refine ⟨Nat.le_refl _,h,fun k hk=>?_⟩
  have:k=0:=by simp only at hk;omega
  subst this;omega
 ·rw [g2]
  rcases qxk g1 with ⟨q1,_⟩ | ⟨q1,q2,q3,q4⟩
  ·omega
  ·exact ⟨by omega,q3,q4⟩
theorem dec_rune (s:Str):(Lib.decodeL s).1≤1114111:=Lib.decodeL_rune s
theorem zcn {p:Nat→Bool} (hp:∀ r,p r=true→r < 128) {s:Str} (n:Nat) (h:∀ k,k < n→128≤cN s k):qpc p s=qpc p (s.drop n):=by
 rw [Bool.eq_iff_iff,qrh,qrh]
 constructor
 ·rintro ⟨i,hi,hc⟩
  have:n≤i:=by
   apply Decidable.byContradiction
   intro hn
   have:=h i (by omega)
   have:=hp _ hc
   omega
  exact ⟨i - n,by rw [List.length_drop];omega,by rw [qit,show n+(i - n)=i by omega];exact hc⟩
 ·rintro ⟨i,hi,hc⟩
  rw [List.length_drop] at hi
  exact ⟨n+i,by omega,by rw [← qit];exact hc⟩
theorem zco {p:Nat→Bool} {s:Str} (h:0 < s.length):qpc p s=(p (cN s 0) || qpc p (s.drop 1)):=by
 cases s with
 | nil=>simp at h
 | cons c r=>simp [qpc,cN]
theorem qr4 {p:Nat→Bool} (hp:∀ r,p r=true→r < 128):∀ (k:Nat) (s:Str) (pos:Nat),s.length≤k→(0≤qv6 p k s pos↔qpc p s=true)
 | 0,s,pos,h=>by
  have:s=[]:=List.eq_nil_of_length_eq_zero (by omega)
  subst this;simp [qv6,qpc]
 | k+1,s,pos,h=>by
  unfold qv6
  by_cases hs:s=[]
  ·subst hs;simp [qpc]
  rw [if_neg hs]
  have hl:0 < s.length:=List.length_pos_iff.2 hs
  rcases que hl with ⟨g1,g2⟩ | ⟨g1,g2,g3,g4,g5⟩
  ·rw [g2,zco hl]
   by_cases hc:p (cN s 0)=true
   ·simp [hc]
   ·rw [if_neg hc,qr4 hp k _ _ (by rw [List.length_drop];omega)]
    simp [hc]
  ·have hn:¬ p (Lib.decodeL s).1=true:=fun e=>by have:=hp _ e;omega
   rw [if_neg hn,qr4 hp k _ _ (by rw [List.length_drop];omega),zcn hp _ g5]
theorem zbc {p:Nat→Bool} {k pos:Nat}:qv6 p k [] pos = -1:=by cases k <;> simp [qv6]
theorem rIdx_yes {p:Nat→Bool} {k pos:Nat} {s:Str} (hs:s≠[]) (h:p (Lib.decodeL s).1=true):qv6 p (k+1) s pos=pos:=by unfold qv6;rw [if_neg hs,if_pos h]
theorem rIdx_no {p:Nat→Bool} {k pos:Nat} {s:Str} (hs:s≠[]) (h:p (Lib.decodeL s).1=false):qv6 p (k+1) s pos=qv6 p k (s.drop (Lib.decodeL s).2) (pos+(Lib.decodeL s).2):=by
 conv=>lhs;unfold qv6
 rw [if_neg hs,if_neg (by rw [h];decide)]
theorem dec_pos {s:Str} {i:Nat}:Utf8.decode ⟨s.toArray⟩ i=Lib.decodeL (s.drop i):=by
 have:=Lib.decodeL_drop ⟨s.toArray⟩ i
 simpa using this.symm
@[simp] theorem frU_range {d:Option Tmp} {t:TypeId} {l:Operand} {ty:TypeId} {pos:String} {af:Array Edge} {g:Option (Nat × Bool)} {s:St}:qbl s ⟨d,.range t l,ty,pos,af,g⟩=s:=rfl
@[simp] theorem frU_next {d:Option Tmp} {b:Bool} {l:Operand} {ty:TypeId} {pos:String} {af:Array Edge} {g:Option (Nat × Bool)} {s:St}:qbl s ⟨d,.next l b,ty,pos,af,g⟩=s:=rfl
theorem itU_yes {m b i:Nat} {s:Str} {g:List (Nat × Blk)} (h:i < s.length):qp9 ⟨m,[(b,.iter s i)::g]⟩ b=some (.tup [.bool true,.int .i64 i,.int .i32 ((Lib.decodeL (s.drop i)).1:Int)],⟨m,[(b,.iter s (i+(Lib.decodeL (s.drop i)).2))::g]⟩):=by
 have hb:Nat.blt i s.length=true:=by simpa using h
 simp [qp9,Heap.get,getFs,getF,hb,dec_pos,Heap.set,setFs,setF]
theorem itU_no {m b i:Nat} {s:Str} {g:List (Nat × Blk)} (h:¬ i < s.length):qp9 ⟨m,[(b,.iter s i)::g]⟩ b=some (.tup [.bool false],⟨m,[(b,.iter s i)::g]⟩):=by
 have hb:Nat.blt i s.length=false:=by
  cases hq:Nat.blt i s.length with
  | false=>rfl
  | true=>exact absurd (by simpa using hq) h
 simp [qp9,Heap.get,getFs,getF,hb]
theorem fit_it {m:Nat} {s:Str} {i:Nat}:FitH 0 [(0,0)] [] ⟨m,[[(0,.iter s i)]]⟩ ⟨1,[[(0,.iter s i)]]⟩ where
 nd1:=by simp
 nd2:=by simp
 nd3:=by simp [Heap.ents]
 lt:=fun x hx=>by simp at hx;subst hx;simp
 idn:=fun x hx h=>by rcases h with h | h <;> exact absurd h (Nat.not_lt_zero _)
 num:=Nat.zero_le _
 src:=fun e he=>by
  simp [Heap.ents] at he
  subst he
  exact ⟨0,.iter s i,by simp,by simp [Heap.get,getFs,getF],rfl,rfl⟩
 frz:=fun x hx=>by cases hx
def qvd:Go.Shelf.Ren:=⟨fun | 196=>119 | 259=>146 | n=>n,fun | 0=>0 | 3=>3 | 4=>4 | 5=>5 | 9=>9 | 12=>12 | 46=>125 | 53=>147 | 119=>130 | 138=>132 | 139=>133 | n=>n,fun | 3=>1 | 4=>2 | n=>n⟩
theorem lays196:Go.Proofs.Lays.n196 Tryz.prog qvd where
 mixed:=by kernel_rfl
 f196:=Tryz.func119.trans (congrArg some (by kernel_rfl))
 f259:=Tryz.func146.trans (congrArg some (by kernel_rfl))
 t0:=Tryz.underlying0
 a0:=Tryz.isAgg0
 z0:=Tryz.sizeOf0
 v0:=Tryz.zeroValue0
 t3:=Tryz.underlying3
 a3:=Tryz.isAgg3
 z3:=Tryz.sizeOf3
 v3:=Tryz.zeroValue3
 t4:=Tryz.underlying4
 a4:=Tryz.isAgg4
 z4:=Tryz.sizeOf4
 v4:=Tryz.zeroValue4
 t5:=Tryz.underlying5
 a5:=Tryz.isAgg5
 z5:=Tryz.sizeOf5
 v5:=Tryz.zeroValue5
 t9:=Tryz.underlying9
 a9:=Tryz.isAgg9
 z9:=Tryz.sizeOf9
 v9:=Tryz.zeroValue9
 t12:=Tryz.underlying12
 a12:=Tryz.isAgg12
 z12:=Tryz.sizeOf12
 v12:=Tryz.zeroValue12
 t46:=Tryz.underlying125
 a46:=Tryz.isAgg125
 z46:=Tryz.sizeOf125
 v46:=Tryz.zeroValue125
 t53:=Tryz.underlying147
 a53:=Tryz.isAgg147
 z53:=Tryz.sizeOf147
 v53:=Tryz.zeroValue147
 t119:=Tryz.underlying130
 a119:=Tryz.isAgg130
 z119:=Tryz.sizeOf130
 t138:=Tryz.underlying132
 a138:=Tryz.isAgg132
 z138:=Tryz.sizeOf132
 v138:=Tryz.zeroValue132
 t139:=Tryz.underlying133
 a139:=Tryz.isAgg133
 z139:=Tryz.sizeOf133
 v139:=Tryz.zeroValue133
 g3:=by kernel_rfl
 g4:=by kernel_rfl
theorem qps {ρ:Place} {w w':World} (sm:Sim ρ ⟨0,[]⟩ w) (h:Below w.heap.size w w'):Sim ρ ⟨0,[]⟩ w' where
 base:=fun k hk=>Nat.lt_of_lt_of_le (sm.base k hk) h.size
 below:=fun k hk=>(h.block k (sm.base k hk)).trans (sm.below k hk)
 os:=h.os.trans sm.os
 tape:=h.tape.trans sm.tape
 output:=h.output.trans sm.output
 dom:=sm.dom
 nodup:=sm.nodup
 live:=fun e he=>by simp [Heap.ents] at he
 inj:=fun e e' he=>by simp [Heap.ents] at he
theorem qni {ρ:Place} {w w':World} (h:Below w.heap.size w w'):Step ρ ⟨0,[]⟩ w ρ ⟨0,[]⟩ w' where
 le:=Place.le_refl ρ
 size:=h.size
 keeps:=fun k hk _=>h.block k hk
 rows:=fun e' he'=>by simp [Heap.ents] at he'
 num:=Nat.le_refl _
 low:=fun _ _=>rfl
 cold:=fun k hk=>.inl hk
theorem first_at:∀ c:Fin 256,qmq[c.val]? = some (Lib.firstT c.val:Int):=by decide +kernel
theorem acc_lo:∀ i:Fin 16,utfAcc[2 * i.val]? = some (Lib.accLo i.val:Int):=by decide +kernel
theorem acc_hi:∀ i:Fin 16,utfAcc[2 * i.val+1]? = some (Lib.accHi i.val:Int):=by decide +kernel
theorem tabs_in {ρ:Place} {w:World} (sm:Sim ρ ⟨0,[]⟩ w):Lib.Utf8Tabs (1) (2) w:=by
 have cell:∀ x,x∈pins→∀ i n,x.2[i]? = some n→w.cell? ⟨x.1,i,none⟩=some (.int .u8 n):=fun x hx i n hn=>by
  obtain ⟨hB,hc⟩:=ρ.gp x hx
  rw [World.cell?,sm.below x.1 hB];exact hc i n hn
 exact ⟨fun c hc=>cell (1,qmq) (by decide +kernel) c _ (first_at ⟨c,hc⟩),
  fun i hi=>⟨cell (2,utfAcc) (by decide +kernel) _ _ (acc_lo ⟨i,hi⟩),cell (2,utfAcc) (by decide +kernel) _ _ (acc_hi ⟨i,hi⟩)⟩⟩
theorem c119 {T:List (Entry Tryz.prog)} (s:Str) (hl:s.length≤1000000):CallAt (ctx T) 119 [.str s] ⟨0,[]⟩ (.bool (Lib.validD s)) ⟨0,[]⟩:=by
 intro ρ w xs sm hx
 match xs,hx with
 | [x],hx=>
  have h0:=hx.2 0 (by simp) (by simp)
  simp only [List.getElem_cons_zero] at h0
  cases h0
  have hrun:(callFunc 119 #[.string ⟨s.toArray⟩]).run (ctx T).P w=.ok (.enter 119 #[.string ⟨s.toArray⟩]) w:=by
   have hf:(ctx T).P.funcs[119]? = some Tryz.f119:=Tryz.func119
   have hn : ¬ Tryz.f119.name = "runtime.NumGoroutine" := by decide +kernel
   simp [callFunc,hf,hn,Tryz.f119]
  have hsz:(⟨s.toArray⟩ : ByteArray).size=s.length:=by show s.toArray.size=_;simp
  refine .inr ⟨119,_,hrun,callsIn_wide.2 ?_⟩
  refine (Go.Proofs.Any.utf8_ValidString lays196 ⟨s.toArray⟩ w (by rw [hsz];omega) (tabs_in sm)).mono ?_
  rintro e w' ⟨rfl,hb⟩
  exact ⟨_,ρ,rfl,.bool _,qps sm hb,qni hb⟩
theorem injS1 (x y:Str) (h:[AV.str x]=[AV.str y]):x=y:=by simpa using h
noncomputable def e119:Entry Tryz.prog:=mkE 119 [[]] (fun x:Str=>[.str x]) (fun x=>x.length≤1000000) (fun x=>.bool (Lib.validD x)) fun x h=>c119 (T:=[]) x h
theorem k119 {T:List (Entry Tryz.prog)} (hT:qag 119 T=some e119.g) {s:Str} (h1:s.length≤1000000) (H:Heap):qb9 (ctx T) (.fn 119) [.str s] H=some (.bool (Lib.validD s),H):=
 qae hT injS1 s h1 rfl (by simp)
theorem c155 {T:List (Entry Tryz.prog)} (s:Str) (c:UInt8):CallAt (ctx T) 155 [.str s,.int .u8 (c.toNat:Int)] ⟨0,[]⟩ (.int .i64 (Lib.indexByte s c)) ⟨0,[]⟩:=by
 intro ρ w xs sm hx
 match xs,hx with
 | [x,y],hx=>
  have h0:=hx.2 0 (by simp) (by simp)
  have h1:=hx.2 1 (by simp) (by simp)
  simp only [List.getElem_cons_zero,List.getElem_cons_succ] at h0 h1
  cases h0;cases h1
  have hr:=Lib.run_indexByteString (P:=Tryz.prog) ⟨s.toArray⟩ (c.toNat:Int) w
  have hf:(ctx T).P.funcs[155]? = some Tryz.f155:=Tryz.func155
  have hn : ¬ Tryz.f155.name = "runtime.NumGoroutine" := by decide +kernel
  have e1:(Extern.findNext Tryz.f155).isNone=true:=by decide +kernel
  have e2:Extern.find Tryz.f155=some Extern.BytealgIndexByte.indexByte:=by rfl
  have e1':Extern.findNext Tryz.f155=none:=Option.isNone_iff_eq_none.1 e1
  have hb:Tryz.f155.body.isNone=true:=rfl
  refine .inl ⟨_,ρ,w,?_,.int _ _,sm,Step.refl _ _ _⟩
  have hc:(c.toNat:Int).toNat.toUInt8=c:=by simp
  rw [hc] at hr
  have hr':Sem.run (ctx T).P (Extern.BytealgIndexByte.indexByte #[.string ⟨s.toArray⟩,.int .u8 (c.toNat:Int)]) w=.ok (.int .i64 (Lib.indexByte s c)) w:=hr
  have hb2:Tryz.f155.body=none:=rfl
  have hr2:Sem.run Tryz.prog (Extern.BytealgIndexByte.indexByte #[.string ⟨s.toArray⟩,.int .u8 (c.toNat:Int)]) w=.ok (.int .i64 (Lib.indexByte s c)) w:=hr
  simp [callFunc,hf,hn,hb2,e1',e2,hr2]
theorem inj_sb (x y:Str × UInt8) (h:[AV.str x.1,AV.int .u8 (x.2.toNat:Int)]=[AV.str y.1,AV.int .u8 (y.2.toNat:Int)]):x=y:=by
 simp at h
 exact Prod.ext h.1 (UInt8.toNat_inj.1 (by omega))
theorem qpk {C:Ctx} {n:Nat} {r:Option Nat} {s:St} {Q:Out→St→Prop} {body:Code} (h:WpSr C n r body s (qvr body (fun _ _=>False) Q)):WpSr C n r (.scope body) s Q:=by
 refine zac (fun _:Unit=>body) (fun _=>s) (fun _=>True) (fun _=>0) () trivial rfl ?_
 intro _ _ B _
 refine h.mono fun x s' hq=>?_
 cases x with
 | goto l=>
  simp only [qvr] at hq ⊢
  cases hl:findLabel body l with
  | none=>rw [hl] at hq;exact hq
  | some rest=>rw [hl] at hq;exact hq.elim
 | normal=>exact hq
 | exit k=>exact hq
 | ret=>exact hq
@[simp] theorem gotoQ_ret {body:Code} {R:Code→St→Prop} {Q:Out→St→Prop} {s:St}:qvr body R Q .ret s=Q .ret s:=rfl
@[simp] theorem gotoQ_normal {body:Code} {R:Code→St→Prop} {Q:Out→St→Prop} {s:St}:qvr body R Q .normal s=Q .normal s:=rfl
@[simp] theorem gotoQ_exit {body:Code} {R:Code→St→Prop} {Q:Out→St→Prop} {s:St} {k:Nat}:qvr body R Q (.exit k) s=Q (.exit k) s:=rfl
theorem c124 {T:List (Entry Tryz.prog)} (s:Str) (c:UInt8):CallAt (ctx T) 124 [.str s,.int .u8 (c.toNat:Int)] ⟨0,[]⟩ (.int .i64 (Lib.indexByte s c)) ⟨0,[]⟩:=by
 have hc:=(c155 (T:=T) s c).lift (by simp [qac,qaf]) ⟨0,[[]]⟩
 generalize Lib.indexByte s c=v at *
 refine qa3 (fn:=Tryz.f124) (s0:=⟨[0,1,4],[.str s,.int .u8 (c.toNat:Int),.undef],[],8,⟨0,[[]]⟩⟩) Tryz.func124 rfl rfl rfl ?_
 repeat apply wq
 refine qa0 qa1 ?_
 simp [zS]
 repeat apply wq
 refine qa0 (qca [⟨155,_,_,_,_,hc⟩]) ?_
 simp [zS,qdb]
 refine qa8 ?_
 simp [qab,Tryz.f124,oneOr,qaa,qa2]
 exact qa4 rfl (by rfl)
theorem c91 {T:List (Entry Tryz.prog)} (s:Str) (c:UInt8):CallAt (ctx T) 91 [.str s,.int .u8 (c.toNat:Int)] ⟨0,[]⟩ (.int .i64 (Lib.indexByte s c)) ⟨0,[]⟩:=by
 have hc:=(c124 (T:=T) s c).lift (by simp [qac,qaf]) ⟨0,[[]]⟩
 generalize Lib.indexByte s c=v at *
 refine qa3 (fn:=Tryz.f91) (s0:=⟨[0,1,4],[.str s,.int .u8 (c.toNat:Int),.undef],[],8,⟨0,[[]]⟩⟩) Tryz.func91 rfl rfl rfl ?_
 repeat apply wq
 refine qa0 qa1 ?_
 simp [zS]
 repeat apply wq
 refine qa0 (qca [⟨124,_,_,_,_,hc⟩]) ?_
 simp [zS,qdb]
 refine qa8 ?_
 simp [qab,Tryz.f91,oneOr,qaa,qa2]
 exact qa4 rfl (by rfl)
noncomputable def e91:Entry Tryz.prog:=mkE 91 [[],[]] (fun x:Str × UInt8=>[.str x.1,.int .u8 (x.2.toNat:Int)]) (fun _=>True) (fun x=>.int .i64 (Lib.indexByte x.1 x.2)) fun x _=>c91 (T:=[]) x.1 x.2
theorem k91 {T:List (Entry Tryz.prog)} (hT:qag 91 T=some e91.g) (s:Str) (c:UInt8) (H:Heap):qb9 (ctx T) (.fn 91) [.str s,.int .u8 (c.toNat:Int)] H=some (.int .i64 (Lib.indexByte s c),H):=
 qae hT inj_sb (s,c) trivial rfl (by simp)
def qjj (r:Nat):Bool:=decide (r < 55296) || (decide (57343 < r) && decide (r≤1114111))
theorem c173 {T:List (Entry Tryz.prog)} (r:Nat):CallAt (ctx T) 173 [.int .i32 (r:Int)] ⟨0,[]⟩ (.bool (qjj r)) ⟨0,[]⟩:=by
 have h0:(0:Int)≤r:=by omega
 by_cases h1:r < 55296
 ·have h1':(r:Int) < 55296:=by omega
  refine qa3 (fn:=Tryz.f173) (s0:=⟨[0,2],[.int .i32 (r:Int),.undef],[],17,⟨0,[[]]⟩⟩) Tryz.func173 rfl rfl rfl ?_
  (repeat (first
   | (refine qah ?_)
   | (refine qa9 ?_)
   | (refine qcf ?_;simp only [qaa,qa2])
   | ((refine qa0 qa1 ?_);simp [zS,h0,h1,h1'])
   | (refine qai rfl ?_)
   | (refine qal rfl ?_)
   | ((refine qa7 ?_);simp only [qaa,qa2])
   | ((refine qat ?_);simp [qaa,qa2])))
  refine qa8 ?_
  simp [qab,Tryz.f173,oneOr,qaa,qa2]
  exact qa4 rfl (by simp [qjj,h1])
 ·have h1':¬ (r:Int) < 55296:=by omega
  by_cases h2:57343 < r
  ·have h2':(57343:Int) < r:=by omega
   by_cases h3:r≤1114111
   ·have h3':(r:Int)≤1114111:=by omega
    refine qa3 (fn:=Tryz.f173) (s0:=⟨[0,2],[.int .i32 (r:Int),.undef],[],17,⟨0,[[]]⟩⟩) Tryz.func173 rfl rfl rfl ?_
    (repeat (first
     | (refine qah ?_)
     | (refine qa9 ?_)
     | (refine qcf ?_;simp only [qaa,qa2])
     | ((refine qa0 qa1 ?_);simp [zS,h0,h1,h1',h2,h2',h3,h3'])
     | (refine qai rfl ?_)
     | (refine qal rfl ?_)
     | ((refine qa7 ?_);simp only [qaa,qa2])
     | ((refine qat ?_);simp [qaa,qa2])))
    refine qa8 ?_
    simp [qab,Tryz.f173,oneOr,qaa,qa2]
    exact qa4 rfl (by simp [qjj,h1,h2,h3])
   ·have h3':¬ (r:Int)≤1114111:=by omega
    refine qa3 (fn:=Tryz.f173) (s0:=⟨[0,2],[.int .i32 (r:Int),.undef],[],17,⟨0,[[]]⟩⟩) Tryz.func173 rfl rfl rfl ?_
    (repeat (first
     | (refine qah ?_)
     | (refine qa9 ?_)
     | (refine qcf ?_;simp only [qaa,qa2])
     | ((refine qa0 qa1 ?_);simp [zS,h0,h1,h1',h2,h2',h3,h3'])
     | (refine qai rfl ?_)
     | (refine qal rfl ?_)
     | ((refine qa7 ?_);simp only [qaa,qa2])
     | ((refine qat ?_);simp [qaa,qa2])))
    refine qa8 ?_
    simp [qab,Tryz.f173,oneOr,qaa,qa2]
    exact qa4 rfl (by simp [qjj,h1,h2,h3])
  ·have h2':¬ (57343:Int) < r:=by omega
   refine qa3 (fn:=Tryz.f173) (s0:=⟨[0,2],[.int .i32 (r:Int),.undef],[],17,⟨0,[[]]⟩⟩) Tryz.func173 rfl rfl rfl ?_
   (repeat (first
    | (refine qah ?_)
    | (refine qa9 ?_)
    | (refine qcf ?_;simp only [qaa,qa2])
    | ((refine qa0 qa1 ?_);simp [zS,h0,h1,h1',h2,h2'])
    | (refine qai rfl ?_)
    | (refine qal rfl ?_)
    | ((refine qa7 ?_);simp only [qaa,qa2])
    | ((refine qat ?_);simp [qaa,qa2])))
   refine qa8 ?_
   simp [qab,Tryz.f173,oneOr,qaa,qa2]
   exact qa4 rfl (by simp [qjj,h1,h2])
noncomputable def e173:Entry Tryz.prog:=mkE 173 [[]] (fun x:Nat=>[.int .i32 (x:Int)]) (fun _=>True) (fun x=>.bool (qjj x)) fun x _=>c173 (T:=[]) x
theorem k173 {T:List (Entry Tryz.prog)} (hT:qag 173 T=some e173.g) (r:Nat) (H:Heap):qb9 (ctx T) (.fn 173) [.int .i32 (r:Int)] H=some (.bool (qjj r),H):=
 qae hT (fun x y h=>by simp at h;omega) r trivial rfl (by simp)
abbrev anyC:Str:=[0,13]
def anyV (r:Nat):Int:=if r=0 then 0 else if r=13 then 1 else -1
theorem bad_rune:litOK (.int .i64 (-1)) (qow (ctx []) 100000 (.fn 164) [.str anyC,.int .i32 65533] ⟨0,[]⟩)=true:=by decide +kernel
theorem anyV_low:∀ c:Fin 128,anyV c.val=Lib.indexByte anyC (UInt8.ofNat c.val):=by decide +kernel
theorem zdj {r:Nat} (h:128≤r) (hv:qjj r=true):(∃ a b:UInt8,(Utf8.encode (r:Int)).data.toList=[a,b]∧128≤b.toNat)∨3≤(Utf8.encode (r:Int)).data.toList.length∧(Utf8.encode (r:Int)).data.toList.length≤4:=by
 have hval:Utf8.valid (r:Int)=true:=by
  simp only [qjj,Bool.or_eq_true,Bool.and_eq_true,decide_eq_true_eq] at hv
  simp only [Utf8.valid,Bool.or_eq_true,Bool.and_eq_true,decide_eq_true_eq]
  omega
 unfold Utf8.encode
 simp only [hval,if_true,Int.toNat_natCast]
 rw [if_neg (by omega)]
 split
 ·left
  refine ⟨_,_,rfl,?_⟩
  simp only [UInt8.toNat_ofNat']
  omega
 ·right
  split <;> simp
theorem c164 {T:List (Entry Tryz.prog)} (hB:qag 91 T=some e91.g) (hV:qag 173 T=some e173.g) (r:Nat) (hr:r≤1114111):CallAt (ctx T) 164 [.str anyC,.int .i32 (r:Int)] ⟨0,[]⟩ (.int .i64 (anyV r)) ⟨0,[]⟩:=by
 have h0:(0:Int)≤r:=by omega
 by_cases h1:r < 128
 ·have h1':(r:Int) < 128:=by omega
  have hw:IntKind.u8.wrap (r:Int)=((UInt8.ofNat r).toNat:Int):=by
   have e:(UInt8.ofNat r).toNat=r:=by simp;omega
   rw [e]
   simp [IntKind.wrap,IntKind.signed,IntKind.bits]
   omega
  have hcv:∀ H,qi4 Tryz.prog H 21 5 (.int .i32 (r:Int))=some (.int .u8 ((UInt8.ofNat r).toNat:Int),H):=fun H=>by simp [qi4,hw]
  have hk:=fun H=>k91 hB anyC (UInt8.ofNat r) H
  have hv:=anyV_low ⟨r,h1⟩
  simp only at hv
  rw [← hv] at hk
  generalize UInt8.ofNat r=c at *
  generalize anyV r=v at *
  refine qa3 (fn:=Tryz.f164) (s0:=⟨[0,1,4,5,6,7,8,9,10,11,12,13,14,15,16,175,176],[.str anyC,.int .i32 (r:Int),.undef,.undef,.undef,.undef,.undef,.undef,.undef,.undef,.undef,.undef,.undef,.undef,.undef,.undef,.undef],[],187,⟨0,[[]]⟩⟩) Tryz.func164 rfl rfl rfl ?_
  repeat apply wq
  refine qa0 qa1 ?_
  simp [zS]
  refine qa9 ?_
  repeat apply wq
  refine qa0 qa1 ?_
  simp [zS,h0,h1,h1']
  refine qai rfl ?_
  repeat apply wq
  refine qa0 qa1 ?_
  simp [zS,hcv,hk]
  refine qa8 ?_
  simp [qab,Tryz.f164,oneOr,qaa,qa2]
  exact qa4 rfl (by rfl)
 have hn:anyV r = -1:=by unfold anyV;rw [if_neg (by omega),if_neg (by omega)]
 by_cases h2:r=65533
 ·subst h2
  rw [hn]
  exact quf (T:=[]) bad_rune
 have h1':¬ (r:Int) < 128:=by omega
 have h2':¬ (r:Int)=65533:=by omega
 have kv:=fun H=>k173 hV r H
 rw [hn]
 cases hok:qjj r with
 | false=>
  rw [hok] at kv
  refine qa3 (fn:=Tryz.f164) (s0:=⟨[0,1,4,5,6,7,8,9,10,11,12,13,14,15,16,175,176],[.str anyC,.int .i32 (r:Int),.undef,.undef,.undef,.undef,.undef,.undef,.undef,.undef,.undef,.undef,.undef,.undef,.undef,.undef,.undef],[],187,⟨0,[[]]⟩⟩) Tryz.func164 rfl rfl rfl ?_
  repeat apply wq
  refine qa0 qa1 ?_
  simp [zS]
  refine qa9 ?_
  repeat apply wq
  refine qa0 qa1 ?_
  simp [zS,h0,h1,h1']
  refine qal rfl ?_
  repeat apply wq
  refine qa0 qa1 ?_
  simp [zS,h2,h2']
  refine qal rfl ?_
  repeat apply wq
  refine qa0 qa1 ?_
  simp [zS,kv]
  refine qai rfl ?_
  repeat apply wq
  refine qa0 qa1 ?_
  simp [zS]
  refine qa8 ?_
  simp [qab,Tryz.f164,oneOr,qaa,qa2]
  exact qa4 rfl (by rfl)
 | true=>
  rw [hok] at kv
  have hsh:=zdj (by omega) hok
  have hcv:∀ H,qi4 Tryz.prog H 21 9 (.int .i32 (r:Int))=some (.str (Utf8.encode (r:Int)).data.toList,H):=fun H=>by simp [qi4]
  generalize (Utf8.encode (r:Int)).data.toList=rs at *
  refine qa3 (fn:=Tryz.f164) (s0:=⟨[0,1,4,5,6,7,8,9,10,11,12,13,14,15,16,175,176],[.str anyC,.int .i32 (r:Int),.undef,.undef,.undef,.undef,.undef,.undef,.undef,.undef,.undef,.undef,.undef,.undef,.undef,.undef,.undef],[],187,⟨0,[[]]⟩⟩) Tryz.func164 rfl rfl rfl ?_
  repeat apply wq
  refine qa0 qa1 ?_
  simp [zS]
  refine qa9 ?_
  repeat apply wq
  refine qa0 qa1 ?_
  simp [zS,h0,h1,h1']
  refine qal rfl ?_
  repeat apply wq
  refine qa0 qa1 ?_
  simp [zS,h2,h2']
  refine qal rfl ?_
  repeat apply wq
  refine qa0 qa1 ?_
  simp [zS,kv]
  refine qal rfl ?_
  refine qpk ?_
  rcases hsh with ⟨a,b,rfl,hb⟩ | ⟨g1,g2⟩
  ·have hkb:=fun H=>k91 hB [] b H
   have hib:Lib.indexByte [] b = -1:=rfl
   rw [hib] at hkb
   have hne:¬ (13:Int)=(b.toNat:Int):=by omega
   have hne':¬ (b.toNat:Int)=13:=by omega
   have ix1:qh6 Tryz.prog 9 (.str anyC) (.int .i64 1)=some (.int .u8 13):=rfl
   have ix2:qh6 Tryz.prog 9 (.str [a,b]) (.int .i64 1)=some (.int .u8 (b.toNat:Int)):=rfl
   have sl:∀ H,qdy Tryz.prog H 9 (.str anyC) (some (.int .i64 2)) none none=some (.str []):=fun H=>rfl
   repeat apply wq
   refine qa0 qa1 ?_
   simp [zS,hcv]
   have w1:wr .i64 1=some 1:=rfl
   repeat apply wq
   refine qa0 qa1 ?_
   simp [zS,w1]
   repeat apply wq
   refine qa0 qa1 ?_
   simp [zS]
   repeat apply wq
   refine qa0 qa1 ?_
   simp [zS]
   repeat apply wq
   refine qa9 (qax (fun _:Unit=>(⟨[0,1,4,5,6,7,8,9,10,11,12,13,14,15,16,175,176],[.str anyC,.int .i32 (r:Int),.int .i64 0,.undef,.undef,.str [a,b],.int .i64 1,.int .i64 1,.int .i64 0,.undef,.undef,.undef,.undef,.undef,.undef,.undef,.undef],[],187,⟨0,[[]]⟩⟩ : St)) (fun _=>True) (fun _=>0) [] [] () trivial ⟨rfl,rfl,rfl,by simp [qb6,qay,qaf,qac],FitH.nothing⟩ ?_)
   intro _ _ B hB
   repeat apply wq
   refine qa0 qa1 ?_
   simp [zS]
   refine qai rfl ?_
   refine qa7 ?_
   simp
   refine qa9 ?_
   refine qpk ?_
   repeat apply wq
   refine qbh qci qa1 (by decide +kernel) (by decide +kernel) ?_
   simp [zS,qbx,qbd,qb8,ix1,ix2,hne,hne']
   refine qai rfl ?_
   have w2:wr .i64 2=some 2:=rfl
   repeat apply wq
   refine qbh qci qa1 (by decide +kernel) (by decide +kernel) ?_
   simp [zS,qbx,qbd,qb8,ix2,w2,sl,hkb]
   repeat apply wq
   refine qa0 qa1 ?_
   simp [zS]
   refine qai rfl ?_
   repeat apply wq
   refine qa0 qa1 ?_
   simp [zS]
   refine qa8 ?_
   simp [qab,Tryz.f164,oneOr,qaa,qa2]
   exact qa4 rfl (by rfl)
  ·obtain ⟨L,hL⟩ : ∃ L,rs.length=L+1:=⟨rs.length - 1,by omega⟩
   have hw:wr .i64 ((rs.length:Int) - 1)=some ((L:Nat):Int):=by rw [qc6 (by omega) (by omega),hL];congr 1;omega
   have hlt:¬ (L:Int) < 2:=by omega
   have hlt':¬ L < 2:=by omega
   repeat apply wq
   refine qa0 qa1 ?_
   simp [zS,hcv]
   repeat apply wq
   refine qa0 qa1 ?_
   simp [zS,hw]
   repeat apply wq
   refine qa0 qa1 ?_
   simp [zS]
   repeat apply wq
   refine qa0 qa1 ?_
   simp [zS]
   repeat apply wq
   refine qa9 (qax (fun _:Unit=>(⟨[0,1,4,5,6,7,8,9,10,11,12,13,14,15,16,175,176],[.str anyC,.int .i32 (r:Int),.int .i64 0,.undef,.undef,.str rs,.int .i64 (L:Nat),.int .i64 (L:Nat),.int .i64 0,.undef,.undef,.undef,.undef,.undef,.undef,.undef,.undef],[],187,⟨0,[[]]⟩⟩ : St)) (fun _=>True) (fun _=>0) [] [] () trivial ⟨rfl,rfl,rfl,by simp [qb6,qay,qaf,qac],FitH.nothing⟩ ?_)
   intro _ _ B hB
   repeat apply wq
   refine qa0 qa1 ?_
   simp [zS,hlt,hlt']
   refine qal (by simp [qbq,St.get,hlt,hlt']) ?_
   refine qat ?_
   simp
   repeat apply wq
   refine qa0 qa1 ?_
   simp [zS]
   refine qa8 ?_
   simp [qab,Tryz.f164,oneOr,qaa,qa2]
   exact qa4 rfl (by rfl)
noncomputable def e164:Entry Tryz.prog:=mkE 164 [[],[]] (fun x:Nat=>[.str anyC,.int .i32 (x:Int)]) (fun x=>x≤1114111) (fun x=>.int .i64 (anyV x)) fun x h=>c164 (T:=[e91,e173]) rfl rfl x h
theorem k164 {T:List (Entry Tryz.prog)} (hT:qag 164 T=some e164.g) {r:Nat} (hr:r≤1114111) (H:Heap):qb9 (ctx T) (.fn 164) [.str anyC,.int .i32 (r:Int)] H=some (.int .i64 (anyV r),H):=
 qae hT (fun x y h=>by simp at h;omega) r hr rfl (by simp)
def qvf:Go.Shelf.Ren:=⟨fun | 119=>173 | 137=>91 | 152=>164 | 153=>147 | 217=>124 | 224=>144 | 225=>143 | 226=>165 | 227=>150 | 228=>166 | 266=>155 | n=>n,fun | 0=>0 | 3=>3 | 4=>4 | 5=>5 | 9=>9 | 21=>21 | 46=>125 | 116=>136 | 117=>137 | 124=>140 | n=>n,fun | n=>n⟩
theorem lays153:Go.Proofs.Lays.n153 Tryz.prog qvf where
 mixed:=by kernel_rfl
 f119:=Tryz.func173.trans (congrArg some (by kernel_rfl))
 f137:=Tryz.func91.trans (congrArg some (by kernel_rfl))
 f152:=Tryz.func164.trans (congrArg some (by kernel_rfl))
 f153:=Tryz.func147.trans (congrArg some (by kernel_rfl))
 f217:=Tryz.func124.trans (congrArg some (by kernel_rfl))
 f224:=Tryz.func144.trans (congrArg some (by kernel_rfl))
 f225:=Tryz.func143.trans (congrArg some (by kernel_rfl))
 f226:=Tryz.func165.trans (congrArg some (by kernel_rfl))
 f227:=Tryz.func150.trans (congrArg some (by kernel_rfl))
 f228:=Tryz.func166.trans (congrArg some (by kernel_rfl))
 f266:=Tryz.func155.trans (congrArg some (by kernel_rfl))
 t0:=Tryz.underlying0
 a0:=Tryz.isAgg0
 z0:=Tryz.sizeOf0
 v0:=Tryz.zeroValue0
 t3:=Tryz.underlying3
 a3:=Tryz.isAgg3
 z3:=Tryz.sizeOf3
 v3:=Tryz.zeroValue3
 t4:=Tryz.underlying4
 a4:=Tryz.isAgg4
 z4:=Tryz.sizeOf4
 v4:=Tryz.zeroValue4
 t5:=Tryz.underlying5
 a5:=Tryz.isAgg5
 z5:=Tryz.sizeOf5
 v5:=Tryz.zeroValue5
 t9:=Tryz.underlying9
 a9:=Tryz.isAgg9
 z9:=Tryz.sizeOf9
 v9:=Tryz.zeroValue9
 t21:=Tryz.underlying21
 a21:=Tryz.isAgg21
 z21:=Tryz.sizeOf21
 v21:=Tryz.zeroValue21
 t46:=Tryz.underlying125
 a46:=Tryz.isAgg125
 z46:=Tryz.sizeOf125
 v46:=Tryz.zeroValue125
 t116:=Tryz.underlying136
 a116:=Tryz.isAgg136
 z116:=Tryz.sizeOf136
 t117:=Tryz.underlying137
 a117:=Tryz.isAgg137
 z117:=Tryz.sizeOf137
 v117:=Tryz.zeroValue137
 t124:=Tryz.underlying140
 a124:=Tryz.isAgg140
 z124:=Tryz.sizeOf140
 v124:=Tryz.zeroValue140
def qm0 (r:Nat):Bool:=decide (r=0) || decide (r=13)
def qmb (s:Str):Int:=if s.length≤8 then qv6 qm0 s.length s 0 else Lib.indexAny s anyC
theorem zeg:∀ (s:Str),0≤Lib.indexAny s anyC↔qpc qm0 s=true
 | []=>by simp [Lib.indexAny,qpc]
 | c::r=>by
  have ih:=zeg r
  have hc:(anyC.contains c)=qm0 c.toNat:=by
   have key:∀ n:Fin 256,(anyC.contains (UInt8.ofNat n.val))=qm0 n.val:=by decide +kernel
   have:=key ⟨c.toNat,c.toNat_lt⟩
   simpa using this
  have hcons:qpc qm0 (c::r)=(qm0 c.toNat || qpc qm0 r):=by simp [qpc]
  unfold Lib.indexAny
  rw [hc,hcons]
  cases qm0 c.toNat with
  | true=>simp
  | false=>
   have hge:=Lib.indexAny_ge anyC r
   simp only [Bool.false_eq_true,if_false,Bool.false_or]
   rw [← ih]
   split
   ·rename_i h
    simp only [beq_iff_eq] at h
    omega
   ·rename_i h
    simp only [beq_iff_eq] at h
    omega
theorem qzo (s:Str):0≤qmb s↔qpc qm0 s=true:=by
 unfold qmb
 split
 ·exact qr4 (fun r h=>by simp [qm0] at h;omega) _ _ _ (Nat.le_refl _)
 ·exact zeg s
theorem qwv:(Tryz.prog.info? 136).map (fun i=>(i.zero,i.size))=some (some (.agg (Array.replicate 256 (.bool false))),256):=by kernel_rfl
theorem c165 {T:List (Entry Tryz.prog)} (n:Nat) (h:n≤8):CallAt (ctx T) 165 [.int .i64 (n:Int)] ⟨0,[]⟩ (.bool false) ⟨0,[]⟩:=by
 have h1:¬ (8:Int) < (n:Int):=by omega
 have h2:¬ 8 < n:=by omega
 refine qa3 (fn:=Tryz.f165) (s0:=⟨[0,2],[.int .i64 (n:Int),.undef],[],5,⟨0,[[]]⟩⟩) Tryz.func165 rfl rfl rfl ?_
 (repeat (first
  | (refine qah ?_)
  | (refine qa9 ?_)
  | (refine qcf ?_;simp only [qaa,qa2])
  | ((refine qa0 qa1 ?_);simp [zS,h1,h2])
  | (refine qai rfl ?_)
  | (refine qal rfl ?_)
  | ((refine qa7 ?_);simp only [qaa,qa2])
  | ((refine qat ?_);simp [qaa,qa2])))
 refine qa8 ?_
 simp [qab,Tryz.f165,oneOr,qaa,qa2]
 exact qa4 rfl (by rfl)
theorem c147 {T:List (Entry Tryz.prog)} (hR:qag 164 T=some e164.g) (s:Str) (hl:s.length≤900000):CallAt (ctx T) 147 [.str s,.str anyC] ⟨0,[]⟩ (.int .i64 (qmb s)) ⟨0,[]⟩:=by
 by_cases h8:s.length≤8
 ·have hv:qmb s=qv6 qm0 s.length s 0:=by unfold qmb;rw [if_pos h8]
  rw [hv]
  have hu:=(c165 (T:=T) s.length h8).lift (by simp [qac,qaf]) ⟨0,[[]]⟩
  refine qa3 (fn:=Tryz.f147) (s0:=⟨[0,1,4,5,6,7,8,9,10,45,46],[.str s,.str anyC,.undef,.undef,.undef,.undef,.undef,.undef,.undef,.undef,.undef],[],55,⟨0,[[]]⟩⟩) Tryz.func147 rfl rfl rfl ?_
  repeat apply wq
  refine qa0 qa1 ?_
  simp [zS]
  repeat apply wq
  refine qa0 qa1 ?_
  simp [zS]
  refine qal rfl ?_
  refine qa7 ?_
  simp
  repeat apply wq
  refine qa0 qa1 ?_
  simp [zS]
  refine qal rfl ?_
  refine qa7 ?_
  simp
  repeat apply wq
  refine qa0 (qca [⟨165,_,_,_,_,hu⟩]) ?_
  simp [zS,qdb]
  refine qal rfl ?_
  refine qa7 ?_
  simp
  repeat apply wq
  refine qa0 qa1 ?_
  simp [zS,rgV]
  refine qa9 (qax (fun x:Nat × Nat=>(⟨[0,1,4,5,6,7,8,9,10,45,46],[.str s,.str anyC,.int .i64 0,.undef,.undef,.undef,.undef,.undef,.undef,.ptr 0 0,.undef],[],55,⟨1,[[(0,.iter s x.2)]]⟩⟩ : St))
   (fun x=>x.2≤s.length∧s.length≤x.2+x.1∧qv6 qm0 x.1 (s.drop x.2) x.2=qv6 qm0 s.length s 0) (fun x=>x.1) [(0,0)] [] (s.length,0) ⟨Nat.zero_le _,by simp,by simp⟩
   ⟨rfl,rfl,rfl,by simp [qb6,qay,qb2,qaf,qac],fit_it⟩ ?_)
  rintro ⟨k,i⟩ ⟨hi,hk,hd⟩ B hB
  simp only at hi hk hd hB
  by_cases h:i < s.length
  ·obtain ⟨k,rfl⟩ : ∃ k',k=k'+1:=⟨k - 1,by omega⟩
   have hne:s.drop i≠[]:=fun e=>by have:=congrArg List.length e;simp at this;omega
   have hdl:0 < (s.drop i).length:=by rw [List.length_drop];omega
   have hr:=dec_rune (s.drop i)
   have hw:1≤(Lib.decodeL (s.drop i)).2∧(Lib.decodeL (s.drop i)).2≤s.length - i:=by
    rcases que hdl with ⟨g1,g2⟩ | ⟨g1,g2,g3,g4,g5⟩
    ·rw [g2];simp only;omega
    ·rw [List.length_drop] at g4;omega
   have hn:=fun m=>itU_yes (m:=m) (b:=0) (g:=[]) h
   have hyes:=rIdx_yes (p:=qm0) (k:=k) (pos:=i) hne
   have hno:=rIdx_no (p:=qm0) (k:=k) (pos:=i) hne
   generalize Lib.decodeL (s.drop i)=d at *
   obtain ⟨r,w⟩:=d
   simp only at hr hw hn hyes hno
   have hcall:=fun H=>k164 hR hr H
   have hbv:(0≤anyV r)↔qm0 r=true:=by
    unfold anyV qm0
    by_cases h1:r=0
    ·simp [h1]
    ·by_cases h2:r=13
     ·simp [h2]
     ·simp [h1,h2]
   generalize anyV r=v at *
   repeat apply wq
   refine qa0 qa1 ?_
   simp [zS,nxV,hn]
   repeat apply wq
   refine qai rfl ?_
   refine qa7 ?_
   simp
   refine qa9 ?_
   repeat apply wq
   refine qa0 qa1 ?_
   simp [zS]
   by_cases hpr:0≤v
   ·repeat apply wq
    refine qa0 qa1 ?_
    simp [zS,hcall,hpr]
    refine qai rfl ?_
    repeat apply wq
    refine qa0 qa1 ?_
    simp [zS]
    refine qa8 ?_
    simp [qab,Tryz.f147,oneOr,qaa,qa2]
    exact qa4 rfl (by rw [← hd,hyes (hbv.1 hpr)])
   ·have hpf:qm0 r=false:=by
     cases hq:qm0 r with
     | false=>rfl
     | true=>exact absurd (hbv.2 hq) hpr
    repeat apply wq
    refine qa0 qa1 ?_
    simp [zS,hcall,hpr]
    refine qal rfl ?_
    refine qa7 ?_
    simp
    refine hB _ (k,i+w) (by simp only;omega) ⟨by simp only;omega,by simp only;omega,?_⟩ ⟨[(0,0)],[],rfl,rfl,rfl,by simp [qb6,qay,qb2,qaf,qac],fit_it⟩
    simp only
    rw [← hd,hno hpf,List.drop_drop]
  ·have hie:i=s.length:=by omega
   subst hie
   have hn:=fun m=>itU_no (m:=m) (b:=0) (g:=[]) h
   rw [List.drop_length,zbc] at hd
   repeat apply wq
   refine qa0 qa1 ?_
   simp [zS,nxV,hn]
   repeat apply wq
   refine qal rfl ?_
   refine qat ?_
   simp
   repeat apply wq
   refine qa0 qa1 ?_
   simp [zS]
   refine qa8 ?_
   simp [qab,Tryz.f147,oneOr,qaa,qa2]
   exact qa4 rfl (by rw [← hd])
 ·have hv:qmb s=Lib.indexAny s anyC:=by unfold qmb;rw [if_neg h8]
  rw [hv]
  intro ρ w xs sm hx
  match xs,hx with
  | [x,y],hx=>
   have h0:=hx.2 0 (by simp) (by simp)
   have h1:=hx.2 1 (by simp) (by simp)
   simp only [List.getElem_cons_zero,List.getElem_cons_succ] at h0 h1
   cases h0;cases h1
   have hrun:(callFunc 147 #[.string ⟨s.toArray⟩,.string ⟨anyC.toArray⟩]).run (ctx T).P w=.ok (.enter 147 #[.string ⟨s.toArray⟩,.string ⟨anyC.toArray⟩]) w:=by
    have hf:(ctx T).P.funcs[147]? = some Tryz.f147:=Tryz.func147
    have hn : ¬ Tryz.f147.name = "runtime.NumGoroutine" := by decide +kernel
    simp [callFunc,hf,hn,Tryz.f147]
   have hsz:(⟨s.toArray⟩ : ByteArray).size=s.length:=by show s.toArray.size=_;simp
   refine .inr ⟨147,_,hrun,callsIn_wide.2 ?_⟩
   refine (Go.Proofs.Any.strings_IndexAny_long lays153 (zero_of_info qwv).1 (zero_of_info qwv).2 ⟨s.toArray⟩ ⟨anyC.toArray⟩ w (by decide) (by rw [hsz];omega) (by rw [hsz];omega) (by decide) (fun j b hj=>?_)).mono ?_
   ·have hm:b∈anyC:=List.mem_of_getElem? hj
    simp at hm
    rcases hm with rfl | rfl <;> decide
   ·rintro e w' ⟨rfl,hb⟩
    have hb':Below w.heap.size w w':=by
     rw [hb]
     exact ((Below.refl _ _).alloc (Nat.le_refl _) _).alloc (by simp) _
    exact ⟨_,ρ,rfl,.int _ _,qps sm hb',qni hb'⟩
theorem c120 {T:List (Entry Tryz.prog)} (hR:qag 164 T=some e164.g) (s:Str) (hl:s.length≤900000):CallAt (ctx T) 120 [.str s,.str anyC] ⟨0,[]⟩ (.bool (qpc qm0 s)) ⟨0,[]⟩:=by
 have hc:=(c147 hR s hl).lift (by simp [qac,qaf]) ⟨0,[[]]⟩
 have hi:=qzo s
 generalize qmb s=v at *
 refine qa3 (fn:=Tryz.f120) (s0:=⟨[0,1,4],[.str s,.str anyC,.undef],[],9,⟨0,[[]]⟩⟩) Tryz.func120 rfl rfl rfl ?_
 repeat apply wq
 refine qa0 qa1 ?_
 simp [zS]
 repeat apply wq
 refine qa0 (qca [⟨147,_,_,_,_,hc⟩]) ?_
 simp [zS,qdb]
 refine qa8 ?_
 simp [qab,Tryz.f120,oneOr,qaa,qa2]
 exact qa4 rfl (by simp [hi])
noncomputable def e120:Entry Tryz.prog:=mkE 120 [[],[]] (fun x:Str=>[.str x,.str anyC]) (fun x=>x.length≤900000) (fun x=>.bool (qpc qm0 x)) fun x h=>c120 (T:=[e164]) rfl x h
theorem k120 {T:List (Entry Tryz.prog)} (hT:qag 120 T=some e120.g) {s:Str} (h1:s.length≤900000) (H:Heap):qb9 (ctx T) (.fn 120) [.str s,.str anyC] H=some (.bool (qpc qm0 s),H):=
 qae hT (fun x y h=>by simpa using h) s h1 rfl (by simp)
theorem valid_eq (s:Str):(Lib.validD s && !qpc qm0 s)=qji s:=by
 have h:=qsf s.length s (Nat.le_refl _)
 have e:qpc qm0 s=true↔za7 s 0∨za7 s 13:=by
  rw [qrh]
  constructor
  ·rintro ⟨i,hi,hc⟩
   simp [qm0] at hc
   rcases hc with hc | hc
   ·exact .inl ⟨i,hi,hc⟩
   ·exact .inr ⟨i,hi,hc⟩
  ·rintro (⟨i,hi,hc⟩ | ⟨i,hi,hc⟩)
   ·exact ⟨i,hi,by simp [qm0,hc]⟩
   ·exact ⟨i,hi,by simp [qm0,hc]⟩
 unfold qji
 rw [Bool.eq_iff_iff]
 simp only [Bool.and_eq_true,Bool.not_eq_true',decide_eq_true_eq]
 rw [h,← Bool.not_eq_true,e,not_or]
theorem c81 {T:List (Entry Tryz.prog)} (hV:qag 119 T=some e119.g) (hC:qag 120 T=some e120.g) (s:Str) (hl:s.length≤900000):CallAt (ctx T) 81 [.str s] ⟨0,[]⟩ (.bool (qji s)) ⟨0,[]⟩:=by
 have k1:=fun H=>k119 hV (s:=s) (by omega) H
 have k2:=fun H=>k120 hC (s:=s) hl H
 have hv:=valid_eq s
 generalize qji s=v at *
 rcases Bool.eq_false_or_eq_true (Lib.validD s) with h | h
 ·rw [h] at k1 hv
  refine qa3 (fn:=Tryz.f81) (s0:=⟨[0,2],[.str s,.undef],[],10,⟨0,[[]]⟩⟩) Tryz.func81 rfl rfl rfl ?_
  repeat apply wq
  refine qa0 qa1 ?_
  simp [zS]
  repeat apply wq
  refine qa0 qa1 ?_
  simp [zS,k1,k2]
  refine qa8 ?_
  simp [qab,Tryz.f81,oneOr,qaa,qa2]
  exact qa4 rfl (by simpa using hv)
 ·rw [h] at k1 hv
  refine qa3 (fn:=Tryz.f81) (s0:=⟨[0,2],[.str s,.undef],[],10,⟨0,[[]]⟩⟩) Tryz.func81 rfl rfl rfl ?_
  repeat apply wq
  refine qa0 qa1 ?_
  simp [zS]
  repeat apply wq
  refine qa0 qa1 ?_
  simp [zS,k1]
  refine qa8 ?_
  simp [qab,Tryz.f81,oneOr,qaa,qa2]
  exact qa4 rfl (by simpa using hv)
noncomputable def e81:Entry Tryz.prog:=mkE 81 [[]] (fun x:Str=>[.str x]) (fun x=>x.length≤900000) (fun x=>.bool (qji x)) fun x h=>c81 (T:=[e119,e120]) rfl rfl x h
theorem k81 {T:List (Entry Tryz.prog)} (hT:qag 81 T=some e81.g) {s:Str} (h1:s.length≤900000) (H:Heap):qb9 (ctx T) (.fn 81) [.str s] H=some (.bool (qji s),H):=
 qae hT qvm s h1 rfl (by simp)
end Go.Proofs.YtgpjifeeneeiaaaGreatDoor