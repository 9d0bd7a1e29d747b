/- strings.ContainsAny of "\\x00\\r"; utf.Valid. No condition. -/
import Derived.Test.YtocnpnnplllneaaGreatDoorMG
import Derived.Test.YtocnpnnplllneaaGreatDoorMH
import Derived.Test.YtocnpnnplllneaaGreatDoorML
import Derived.Lib.ValidLaws
import Derived.Test.YtocnpnnplllneaaGreatDoorMI
import Derived.Lib.TrimUEq
import Derived.Shelf.Unicode.ValidAny
import Derived.Test.YtocnpnnplllneaaGreatDoorProg
import Derived.Lib.Bytealg
import Derived.Shelf.Strings.IndexAnyAll
namespace Go.Proofs.YtocnpnnplllneaaGreatDoor
noncomputable section
set_option linter.unusedSimpArgs false
set_option linter.unusedVariables false
open Go Go.RowKit
set_option maxRecDepth 100000
theorem qyx {T:List (Entry Tryz.prog)} {f:FuncId} (h:quv (qpe (ctx T) 100000 (.fn f) [] ⟨0,[]⟩)=true):CallAt (ctx T) f [] ⟨0,[]⟩ (.bool true) ⟨0,[]⟩:=by
 revert h
 cases hr:qpe (ctx T) 100000 (.fn f) [] ⟨0,[]⟩ with
 | none=>intro h;cases h
 | some r=>
  obtain ⟨v,H'⟩:=r
  intro h
  cases v <;> simp only [quv] at h <;> first | (cases h;done) | skip
  subst h
  exact ((qvc mixed (qwq _ _ _) 100000).fn f [] ⟨0,[]⟩ _ _ hr).freeze (Φ:=[]) (by simp [qar,qah]) FitH.empty
def noneL:List AV→Bool
 | []=>true
 | _::_=>false
mutual
def qkq (Φ:List (Nat × List AV)):AV→AV→Bool
 | .slc b o len cap,v'=>match v' with
  | .undef=>true
  | .fslc sz es=>(match qc5 b Φ with
   | some cs=>(match qek o (len * sz) cs with
    | some x=>AV.beqL x (qa4 es) && Nat.beq es.length len && qe2 sz es
    | none=>false)
   | none=>false) || (Nat.beq len 0 && noneL es)
  | _=>false
 | .ptr b o,v'=>match v' with
  | .undef=>true
  | .fptr cs o'=>(match qc5 b Φ with
   | some c=>AV.beqL c cs
   | none=>false) && Nat.beq o' o
  | _=>false
 | .nilS,v'=>match v' with
  | .undef=>true
  | .nilS=>true
  | .fslc _ es=>noneL es
  | _=>false
 | .fslc sz es,v'=>match v' with
  | .undef=>true
  | .fslc sz' es'=>Nat.beq sz sz' && AV.beqL es es'
  | _=>false
 | .agg cs,v'=>match v' with
  | .undef=>true
  | .agg cs'=>qto Φ cs cs'
  | _=>false
 | .tup cs,v'=>match v' with
  | .undef=>true
  | .tup cs'=>qto Φ cs cs'
  | _=>false
 | .int k n,v'=>match v' with
  | .undef=>true
  | .int k' n'=>decide (k'=k) && decide (n'=n)
  | _=>false
 | .str s,v'=>match v' with
  | .undef=>true
  | .str s'=>eqN s' s
  | _=>false
 | .bool s,v'=>match v' with
  | .undef=>true
  | .bool s'=>s' == s
  | _=>false
 | _,v'=>match v' with
  | .undef=>true
  | _=>false
def qto (Φ:List (Nat × List AV)):List AV→List AV→Bool
 | [],l'=>noneL l'
 | a::r,l'=>match l' with
  | []=>false
  | a'::r'=>qkq Φ a a' && qto Φ r r'
end
theorem qr4 {l:List AV} (h:noneL l=true):l=[]:=by cases l <;> first | rfl | cases h
mutual
theorem qx9 {Φ:List (Nat × List AV)}:∀ {v v':AV},qkq Φ v v'=true→qar [] Φ v v':=by
 intro v v' h
 cases v with
 | slc b o len cap=>
  unfold qkq at h
  unfold qar
  cases v' <;> simp only [Bool.false_eq_true] at h ⊢
  rename_i sz es
  simp only [Bool.or_eq_true,Bool.and_eq_true] at h
  rcases h with h | h
  ·left
   cases hl:qc5 b Φ with
   | none=>rw [hl] at h;cases h
   | some cs=>
    rw [hl] at h
    simp only at h
    cases hs:qek o (len * sz) cs with
    | none=>rw [hs] at h;cases h
    | some x=>
     rw [hs] at h
     simp only [Bool.and_eq_true] at h
     exact ⟨cs,rfl,by rw [hs,AV.eqL_of_beq _ _ h.1.1],Nat.eq_of_beq_eq_true h.1.2,h.2⟩
  ·exact .inr ⟨Nat.eq_of_beq_eq_true h.1,qr4 h.2⟩
 | fslc sz es=>
  cases v' with
  | undef=>simp [qar]
  | fslc sz' es'=>
   unfold qkq at h
   simp only [Bool.and_eq_true] at h
   have h1:=Nat.eq_of_beq_eq_true h.1
   have h2:=AV.eqL_of_beq _ _ h.2
   subst h1;subst h2
   exact qba rfl
  | _=>simp [qkq] at h
 | ptr b o=>
  unfold qkq at h
  unfold qar
  cases v' <;> simp only [Bool.false_eq_true] at h ⊢
  simp only [Bool.and_eq_true] at h
  cases hl:qc5 b Φ with
  | none=>rw [hl] at h;cases h.1
  | some cs=>
   rw [hl] at h
   exact ⟨by rw [AV.eqL_of_beq _ _ h.1],Nat.eq_of_beq_eq_true h.2⟩
 | nilS=>
  unfold qkq at h
  unfold qar
  cases v' <;> simp only [Bool.false_eq_true] at h ⊢
  exact qr4 h
 | agg cs=>
  unfold qkq at h
  unfold qar
  cases v' <;> simp only [Bool.false_eq_true] at h ⊢
  exact .inl (qkr h)
 | tup cs=>
  unfold qkq at h
  unfold qar
  cases v' <;> simp only [Bool.false_eq_true] at h ⊢
  exact .inl (qkr h)
 | int k n=>
  unfold qkq at h
  unfold qar
  cases v' <;> simp only [Bool.false_eq_true] at h ⊢
  ·simp
  ·simp only [Bool.and_eq_true,decide_eq_true_eq] at h
   obtain ⟨rfl,rfl⟩:=h
   exact .inr ⟨rfl,rfl⟩
 | str s=>
  unfold qkq at h
  unfold qar
  cases v' <;> simp only [Bool.false_eq_true] at h ⊢
  ·simp
  ·rw [eqN_eq,decide_eq_true_eq] at h
   subst h
   exact .inr ⟨rfl,rfl⟩
 | bool s=>
  unfold qkq at h
  unfold qar
  cases v' <;> simp only [Bool.false_eq_true] at h ⊢
  ·simp
  ·simp only [beq_iff_eq] at h
   subst h
   exact .inr ⟨rfl,rfl⟩
 | _=>
  unfold qkq at h
  cases v' <;> simp only [Bool.false_eq_true] at h
  simp [qar]
theorem qkr {Φ:List (Nat × List AV)}:∀ {l l':List AV},qto Φ l l'=true→qb1 [] Φ l l':=by
 intro l l' h
 cases l with
 | nil=>
  unfold qto at h
  unfold qb1
  exact qr4 h
 | cons a r=>
  unfold qto at h
  unfold qb1
  cases l' with
  | nil=>cases h
  | cons a' r'=>
   simp only [Bool.and_eq_true] at h
   exact ⟨qx9 h.1,qkr h.2⟩
end
def undefL:Nat→List AV→List AV
 | 0,_=>[]
 | _+1,[]=>[]
 | n+1,_::r=>.undef::undefL n r
def undefA:List AV→List AV
 | []=>[]
 | _::r=>.undef::undefA r
def qpt:List AV→List AV→List (AV × AV)→List (AV × AV)
 | a::r,b::s,acc=>(a,b)::qpt r s acc
 | _,_,acc=>acc
def zd1 (H:Heap):Nat→List (AV × AV)→List (Nat × List AV)→Option (List (Nat × List AV))
 | 0,_,_=>none
 | n+1,todo,Φ=>match todo with
  | []=>some Φ
  | x::r=>match x.1,x.2 with
   | .agg xs,.agg ys=>zd1 H n (qpt xs ys r) Φ
   | .tup xs,.tup ys=>zd1 H n (qpt xs ys r) Φ
   | .slc b o len _,.fslc sz es=>match len with
    | 0=>zd1 H n r Φ
    | Nat.succ _=>match qc5 b Φ with
     | some _=>zd1 H n r Φ
     | none=>match H.get b with
      | some (.cells cs)=>zd1 H n (qpt (cs.drop o) (qa4 es) r) ((b,undefL o cs++qa4 es++undefA (cs.drop (o+len * sz)))::Φ)
      | _=>none
   | .ptr b _,.fptr ys _=>match qc5 b Φ with
    | some _=>zd1 H n r Φ
    | none=>match H.get b with
     | some (.cells cs)=>zd1 H n (qpt cs ys r) ((b,ys)::Φ)
     | _=>none
   | _,_=>zd1 H n r Φ
def qt2:List Nat→Bool
 | []=>true
 | x::r=>match memT x r with
  | true=>false
  | false=>qt2 r
theorem qws {n:Nat}:∀ {l:List Nat},memT n l=false→n ∉ l
 | [],_=>by simp
 | m::r,h=>by
  unfold memT at h
  split at h
  ·cases h
  ·rename_i hb
   have:n≠m:=fun e=>by rw [e,Nat.beq_refl] at hb;cases hb
   simp [this,qws h]
theorem qnx:∀ {l:List Nat},qt2 l=true→l.Nodup
 | [],_=>List.nodup_nil
 | x::r,h=>by
  unfold qt2 at h
  split at h
  ·cases h
  ·rename_i hm
   exact List.nodup_cons.2 ⟨qws hm,qnx h⟩
def zc4 (H:Heap) (Φ:List (Nat × List AV)):List (Nat × List AV)→Bool
 | []=>true
 | x::r=>(match H.get x.1 with
  | some (.cells cs)=>qto Φ cs x.2 && qac x.2
  | _=>false) && zc4 H Φ r
theorem qrf {H:Heap} {Φ:List (Nat × List AV)}:∀ {l:List (Nat × List AV)},zc4 H Φ l=true→∀ x,x∈l→∃ cs,H.get x.1=some (.cells cs)∧qb1 [] Φ cs x.2∧qac x.2=true
 | [],_,x,hx=>by cases hx
 | y::r,h,x,hx=>by
  unfold zc4 at h
  simp only [Bool.and_eq_true] at h
  rcases List.mem_cons.1 hx with rfl | hx
  ·have h1:=h.1
   split at h1
   ·rename_i cs hg
    simp only [Bool.and_eq_true] at h1
    exact ⟨cs,hg,qkr h1.1,h1.2⟩
   ·cases h1
  ·exact qrf h.2 x hx
def litOK (lit:AV):Option (AV × Heap)→Bool
 | some (v,H)=>match zd1 H 100000 [(v,lit)] [] with
  | some Φ=>qt2 (Φ.map (·.1)) && zc4 H Φ Φ && qkq Φ v lit
  | none=>false
 | none=>false
theorem zd3 {T:List (Entry Tryz.prog)} {f:FuncId} {args:List AV} {lit:AV} (h:litOK lit (qpe (ctx T) 100000 (.fn f) args ⟨0,[]⟩)=true):CallAt (ctx T) f args ⟨0,[]⟩ lit ⟨0,[]⟩:=by
 revert h
 cases hr:qpe (ctx T) 100000 (.fn f) args ⟨0,[]⟩ with
 | none=>intro h;cases h
 | some r=>
  obtain ⟨v,H'⟩:=r
  intro h
  unfold litOK at h
  simp only at h
  cases hc:zd1 H' 100000 [(v,lit)] [] with
  | none=>rw [hc] at h;cases h
  | some Φ=>
   rw [hc] at h
   simp only [Bool.and_eq_true] at h
   exact ((qvc mixed (qwq _ _ _) 100000).fn f args ⟨0,[]⟩ _ _ hr).freeze (qx9 h.2) (FitH.froze (qnx h.1.1) (qrf h.1.2))
end
end Go.Proofs.YtocnpnnplllneaaGreatDoor
namespace Go.Proofs.YtocnpnnplllneaaGreatDoor
set_option linter.unusedSimpArgs false
set_option linter.unusedVariables false
open Go Go.RowKit
set_option maxRecDepth 100000
abbrev enc3:Str:=[239,191,189]
theorem qwm (s:Str):∀ k i lo hi,1≤i→i≤s.length→i≤(qnw s k i lo hi).1∧(qnw s k i lo hi).1≤s.length
 | 0,i,_,_,h1,h2=>⟨Nat.le_refl _,h2⟩
 | k+1,i,lo,hi,h1,h2=>by
  unfold qnw
  split
  ·rename_i hc
   simp only [qpd,Bool.and_eq_true,decide_eq_true_eq] at hc
   obtain ⟨a,b⟩:=qwm s k (i+1) 128 191 (by omega) (by omega)
   exact ⟨by omega,b⟩
  ·exact ⟨Nat.le_refl _,h2⟩
theorem qnv {s:Str} (h:0 < s.length):1≤(qed s).1∧(qed s).1≤s.length:=by
 unfold qed
 split
 ·exact ⟨Nat.le_refl _,h⟩
 ·split
  ·exact ⟨Nat.le_refl _,h⟩
  ·exact qwm s _ 1 _ _ (Nat.le_refl _) h
def qc1 (s:Str):Str × Nat:=if (qed s).2=false∨cN s 0=0 then (enc3,(qed s).1) else if cN s 0=13 then ([10],if 1 < s.length∧cN s 1=10 then 2 else (qed s).1) else (s.take (qed s).1,(qed s).1)
def qll:Nat→Str→Str
 | 0,_=>[]
 | k+1,s=>if s=[] then [] else (qc1 s).1++qll k (s.drop (qc1 s).2)
def qhi (s:Str):Str:=qll s.length s
theorem qlo {s:Str} {i j:Nat}:cN (s.drop i) j=cN s (i+j):=by
 unfold cN
 simp [List.getD_eq_getElem?_getD,List.getElem?_drop]
def qn3 (s:Str):Bool:=decide (qhi s=s)
def qs4 (n b0 b1 b2 b3:Nat):Nat × Bool:=
 if b0 < 128 then (1,true) else if qea b0=0 then (1,false)
 else if ¬ (1 < n∧loN b0≤b1∧b1≤hiN b0) then (1,false) else if qea b0=1 then (2,true)
 else if ¬ (2 < n∧128≤b2∧b2≤191) then (2,false) else if qea b0=2 then (3,true)
 else if ¬ (3 < n∧128≤b3∧b3≤191) then (3,false) else (4,true)
theorem qt1 (s:Str):qed s=qs4 s.length (cN s 0) (cN s 1) (cN s 2) (cN s 3):=by
 unfold qed qs4
 generalize cN s 0=c
 have h3:=qwn c
 have hc:∀ i lo hi,(qpd s i lo hi=true)=(i < s.length∧lo≤cN s i∧cN s i≤hi):=fun i lo hi=>by simp [qpd]
 obtain h | h | h | h:qea c=0∨qea c=1∨qea c=2∨qea c=3:=by omega
 all_goals
  simp only [h,qnw,hc,ite_not,Nat.reduceEqDiff,if_true,if_false,Nat.reduceAdd]
  try (repeat' split) <;> first | rfl | (exfalso;omega)
set_option maxHeartbeats 1000000 in
theorem qpw (n b0 b1 b2 b3:Nat) (hn:1≤n) (h0:b0 < 256) (h1:b1 < 256) (h2:b2 < 256) (h3:b3 < 256) :
  ((qs4 n b0 b1 b2 b3).2=false∧Lib.decodeN n b0 b1 b2 b3=(65533,1))∨((qs4 n b0 b1 b2 b3).2=true∧(Lib.decodeN n b0 b1 b2 b3).2=(qs4 n b0 b1 b2 b3).1∧¬ ((Lib.decodeN n b0 b1 b2 b3).1=65533∧(Lib.decodeN n b0 b1 b2 b3).2=1)):=by
 by_cases ha:b0 < 128
 ·exact .inr ⟨by simp [qs4,ha],by simp [qs4,Lib.decodeN,ha],by simp [Lib.decodeN,ha];omega⟩
 rcases Lib.check_decode n b0 b1 b2 b3 hn (by omega) h0 h1 h2 h3 with ⟨g1,g2⟩ | ⟨k,hk,g1,g2⟩
 all_goals
  have cls:b0 < 194∨(194≤b0∧b0 < 224)∨b0=224∨(225≤b0∧b0 < 237)∨b0=237∨(238≤b0∧b0 < 240)∨b0=240∨(241≤b0∧b0 < 244)∨b0=244∨245≤b0:=by omega
  have F:∀ m l h x y z,qea b0=m→loN b0=l→hiN b0=h→Lib.firstT b0 % 8=x→Lib.accLo (Lib.firstT b0 / 16)=y→Lib.accHi (Lib.firstT b0 / 16)=z→(m=0∧4 < x∨m=0∧x < 2∨x=m+1∧1≤m∧m≤3∧y=l∧z=h) →
    ((qs4 n b0 b1 b2 b3).2=false∧Lib.checkN n b1 b2 b3 x y z=none)∨((qs4 n b0 b1 b2 b3).2=true∧Lib.checkN n b1 b2 b3 x y z=some (qs4 n b0 b1 b2 b3).1):=by
   intro m l h x y z e1 e2 e3 _ _ _ hh
   simp only [qs4,ha,if_false,e1,e2,e3,Lib.checkN,ite_not]
   rcases hh with ⟨rfl,hx⟩ | ⟨rfl,hx⟩ | ⟨rfl,hm1,hm2,rfl,rfl⟩
   ·left;simp only [if_true];refine ⟨trivial,?_⟩;rw [if_neg (by omega),if_neg (by omega),if_neg (by omega)]
   ·left;simp only [if_true];refine ⟨trivial,?_⟩;rw [if_neg (by omega),if_neg (by omega),if_neg (by omega)]
   ·obtain rfl | rfl | rfl:m=1∨m=2∨m=3:=by omega
    all_goals
     simp only [Nat.reduceEqDiff,if_false,if_true,Nat.reduceAdd]
     (repeat' split) <;> first | (exfalso;omega) | (left;exact ⟨rfl,rfl⟩) | (right;exact ⟨rfl,rfl⟩)
  have G:((qs4 n b0 b1 b2 b3).2=false∧Lib.checkN n b1 b2 b3 (Lib.firstT b0 % 8) (Lib.accLo (Lib.firstT b0 / 16)) (Lib.accHi (Lib.firstT b0 / 16))=none)∨((qs4 n b0 b1 b2 b3).2=true∧Lib.checkN n b1 b2 b3 (Lib.firstT b0 % 8) (Lib.accLo (Lib.firstT b0 / 16)) (Lib.accHi (Lib.firstT b0 / 16))=some (qs4 n b0 b1 b2 b3).1):=by
   refine F _ _ _ _ _ _ rfl rfl rfl rfl rfl rfl ?_
   have k1:∀ c:Fin 256,128≤c.val→(qea c.val=0∧4 < Lib.firstT c.val % 8∨qea c.val=0∧Lib.firstT c.val % 8 < 2∨Lib.firstT c.val % 8=qea c.val+1∧1≤qea c.val∧qea c.val≤3∧Lib.accLo (Lib.firstT c.val / 16)=loN c.val∧Lib.accHi (Lib.firstT c.val / 16)=hiN c.val):=by decide +kernel
   exact k1 ⟨b0,h0⟩ (by simp only;omega)
  rcases G with ⟨G1,G2⟩ | ⟨G1,G2⟩
 ·exact .inl ⟨G1,g2⟩
 ·rw [g1] at G2;cases G2
 ·rw [g1] at G2;cases G2
 ·rw [g1] at G2
  simp only [sj] at G2
  exact .inr ⟨G1,by rw [g2,G2],by omega⟩
theorem zav (s:Str) (h:0 < s.length):((qed s).2=false∧Lib.decodeL s=(65533,1))∨((qed s).2=true∧(Lib.decodeL s).2=(qed s).1∧¬ ((Lib.decodeL s).1=65533∧(Lib.decodeL s).2=1)):=by
 rw [qt1,Lib.decodeL_N]
 exact qpw _ _ _ _ _ (by omega) (UInt8.toNat_lt _) (UInt8.toNat_lt _) (UInt8.toNat_lt _) (UInt8.toNat_lt _)
theorem qwl {s:Str} (h:(qed s).2=true):cN s 0 < 128∧(qed s).1=1∨128≤cN s 0∧2≤(qed s).1∧(qed s).1≤s.length∧∀ k,k < (qed s).1→128≤cN s k:=by
 rw [qt1] at h ⊢
 unfold qs4 at h ⊢
 by_cases ha:cN s 0 < 128
 ·left;simp [ha]
 right
 simp only [ha,if_false] at h ⊢
 split at h
 ·cases h
 rename_i hm
 rw [if_neg hm]
 have hlo:128≤loN (cN s 0):=by unfold loN;(repeat' split) <;> omega
 split at h
 ·cases h
 rename_i g1
 rw [if_neg g1]
 simp only [Decidable.not_not] at g1
 have k4:∀ m k,k < m→m≤4→k=0∨k=1∨(2 < m∧k=2)∨(3 < m∧k=3):=fun m k h1 h2=>by omega
 split at h
 ·rename_i m1
  rw [if_pos m1]
  refine ⟨by omega,by simp,by simp;omega,fun k hk=>?_⟩
  rcases k4 2 k hk (by omega) with rfl | rfl | h | h <;> omega
 rename_i m1
 rw [if_neg m1]
 split at h
 ·cases h
 rename_i g2
 rw [if_neg g2]
 simp only [Decidable.not_not] at g2
 split at h
 ·rename_i m2
  rw [if_pos m2]
  refine ⟨by omega,by simp,by simp;omega,fun k hk=>?_⟩
  rcases k4 3 k hk (by omega) with rfl | rfl | h | h
  ·omega
  ·omega
  ·rw [h.2];omega
  ·omega
 rename_i m2
 rw [if_neg m2]
 split at h
 ·cases h
 rename_i g3
 rw [if_neg g3]
 simp only [Decidable.not_not] at g3
 refine ⟨by omega,by simp,by simp;omega,fun k hk=>?_⟩
 rcases k4 4 k hk (by omega) with rfl | rfl | h | h
 ·omega
 ·omega
 ·rw [h.2];omega
 ·rw [h.2];omega
theorem mem_cN {s:Str} {c:UInt8} (h:c∈s):∃ i,i < s.length∧cN s i=c.toNat:=by
 obtain ⟨i,hi,rfl⟩:=List.getElem_of_mem h
 exact ⟨i,hi,(qqg hi).symm⟩
theorem cN_mem {s:Str} {i:Nat} (h:i < s.length):∃ c,c∈s∧c.toNat=cN s i:=⟨s[i],List.getElem_mem h,qqg h⟩
theorem qwv {s:Str} (n:Nat) (h:∀ k,k < n→128≤cN s k) {m:Nat} (hm:m < 128):(∃ i,i < s.length∧cN s i=m)↔∃ i,i < (s.drop n).length∧cN (s.drop n) i=m:=by
 constructor
 ·rintro ⟨i,hi,hc⟩
  have:n≤i:=by
   apply Decidable.byContradiction
   intro hn
   have:=h i (by omega)
   omega
  exact ⟨i - n,by rw [List.length_drop];omega,by rw [qlo,show n+(i - n)=i by omega];exact hc⟩
 ·rintro ⟨i,hi,hc⟩
  rw [List.length_drop] at hi
  exact ⟨n+i,by omega,by rw [← qlo];exact hc⟩
def qzb (s:Str) (m:Nat):Prop:=∃ i,i < s.length∧cN s i=m
theorem qx3 {s:Str} (h:0 < s.length) {m:Nat}:qzb s m↔cN s 0=m∨qzb (s.drop 1) m:=by
 constructor
 ·rintro ⟨i,hi,hc⟩
  cases i with
  | zero=>exact .inl hc
  | succ i=>exact .inr ⟨i,by rw [List.length_drop];omega,by rw [qlo,Nat.add_comm];exact hc⟩
 ·rintro (hc | ⟨i,hi,hc⟩)
  ·exact ⟨0,h,hc⟩
  ·rw [List.length_drop] at hi
   exact ⟨1+i,by omega,by rw [← qlo];exact hc⟩
theorem bad_enc {s:Str} (h:s=enc3++s.drop 3) (h3:3≤s.length):(qed s).2=true:=by
 have e:∀ i,i < 3→cN s i=cN enc3 i:=fun i hi=>by
  rw [h]
  unfold cN
  simp only [List.getD_eq_getElem?_getD]
  rw [List.getElem?_append_left (by simpa using hi)]
 have c0:=e 0 (by omega)
 have c1:=e 1 (by omega)
 have c2:=e 2 (by omega)
 rw [qt1,c0,c1,c2]
 have:qs4 s.length (cN enc3 0) (cN enc3 1) (cN enc3 2) (cN s 3)=(3,true):=by
  have a0:cN enc3 0=239:=by decide
  have a1:cN enc3 1=191:=by decide
  have a2:cN enc3 2=189:=by decide
  have m:qea 239=2:=by decide
  have l:loN 239=128:=by decide
  have hh:hiN 239=191:=by decide
  unfold qs4
  rw [a0,a1,a2,m,l,hh,if_neg (by omega),if_neg (by omega),if_neg (by omega),if_neg (by omega),if_neg (by omega),if_pos rfl]
 rw [this]
theorem qrt:∀ (k m:Nat) (s:Str),s.length≤k→s.length≤m→qll k s=qll m s
 | 0,m,s,h,_=>by
  have:s=[]:=List.eq_nil_of_length_eq_zero (by omega)
  subst this
  cases m <;> simp [qll]
 | k+1,0,s,_,h=>by
  have:s=[]:=List.eq_nil_of_length_eq_zero (by omega)
  subst this
  simp [qll]
 | k+1,m+1,s,h1,h2=>by
  unfold qll
  by_cases hs:s=[]
  ·simp [hs]
  ·rw [if_neg hs,if_neg hs]
   have hl:0 < s.length:=List.length_pos_iff.2 hs
   have hj:1≤(qc1 s).2:=by
    have:=(qnv hl).1
    unfold qc1
    (repeat' split) <;> simp only <;> omega
   rw [qrt k m (s.drop (qc1 s).2) (by rw [List.length_drop];omega) (by rw [List.length_drop];omega)]
theorem qoq {s:Str} (hs:s≠[]):qhi s=(qc1 s).1++qhi (s.drop (qc1 s).2):=by
 have hl:0 < s.length:=List.length_pos_iff.2 hs
 have hj:1≤(qc1 s).2:=by
  have:=(qnv hl).1
  unfold qc1
  (repeat' split) <;> simp only <;> omega
 unfold qhi
 rw [qrt s.length (s.length - 1+1) s (Nat.le_refl _) (by omega)]
 conv=>lhs;unfold qll
 rw [if_neg hs,qrt (s.length - 1) (s.drop (qc1 s).2).length _ (by rw [List.length_drop];omega) (Nat.le_refl _)]
theorem qs9:∀ (k:Nat) (s:Str),s.length≤k→(qhi s=s↔Lib.validD s=true∧¬ qzb s 0∧¬ qzb s 13)
 | 0,s,h=>by
  have:s=[]:=List.eq_nil_of_length_eq_zero (by omega)
  subst this
  simp [qhi,qll,Lib.validD_nil,qzb]
 | k+1,s,h=>by
  by_cases hs:s=[]
  ·subst hs;simp [qhi,qll,Lib.validD_nil,qzb]
  have hl:0 < s.length:=List.length_pos_iff.2 hs
  have hone:=qnv hl
  rw [qoq hs,Lib.validD_step s hs]
  rcases zav s hl with ⟨g1,g2⟩ | ⟨g1,g2,g3⟩
  ·rw [g2]
   simp only [and_self,if_true,Bool.false_eq_true,false_and,iff_false]
   intro he
   have hst:qc1 s=(enc3,(qed s).1):=by unfold qc1;rw [if_pos (.inl g1)]
   rw [hst] at he
   have hlen:=congrArg List.length he
   simp only [List.length_append,List.length_cons,List.length_nil] at hlen
   have hd:s.drop 3=qhi (s.drop (qed s).1):=by have:=congrArg (List.drop 3) he;simpa using this.symm
   have:(qed s).2=true:=bad_enc (by rw [hd];exact he.symm) (by omega)
   rw [g1] at this;cases this
  ·rw [if_neg g3,g2]
   have hdl:(s.drop (qed s).1).length≤k:=by rw [List.length_drop];omega
   have ih:=qs9 k (s.drop (qed s).1) hdl
   by_cases h0:cN s 0=0
   ·have hst:qc1 s=(enc3,(qed s).1):=by unfold qc1;rw [if_pos (.inr h0)]
    rw [hst]
    constructor
    ·intro he
     have hc:cN s 0=239:=by rw [← he];rfl
     omega
    ·exact fun ⟨_,hn,_⟩=>absurd ⟨0,hl,h0⟩ hn
   by_cases h13:cN s 0=13
   ·constructor
    ·intro he
     have hst:(qc1 s).1=[10]:=by unfold qc1;rw [if_neg (by simp [g1,h0]),if_pos h13]
     rw [hst] at he
     have hc:cN s 0=10:=by rw [← he];rfl
     omega
    ·exact fun ⟨_,_,hn⟩=>absurd ⟨0,hl,h13⟩ hn
   have hst:qc1 s=(s.take (qed s).1,(qed s).1):=by unfold qc1;rw [if_neg (by simp [g1,h0]),if_neg h13]
   rw [hst]
   have e1:(s.take (qed s).1++qhi (s.drop (qed s).1)=s)↔qhi (s.drop (qed s).1)=s.drop (qed s).1:=by
    constructor
    ·intro he
     have:s.take (qed s).1++qhi (s.drop (qed s).1)=s.take (qed s).1++s.drop (qed s).1:=by rw [List.take_append_drop];exact he
     exact List.append_cancel_left this
    ·intro he;rw [he,List.take_append_drop]
   simp only
   rw [e1,ih]
   rcases qwl g1 with ⟨q1,q2⟩ | ⟨q1,q2,q3,q4⟩
   ·rw [q2]
    have a0:=qx3 hl (m:=0)
    have a1:=qx3 hl (m:=13)
    rw [a0,a1]
    simp [h0,h13]
   ·have a0:qzb s 0↔qzb (s.drop (qed s).1) 0:=qwv _ q4 (by omega)
    have a1:qzb s 13↔qzb (s.drop (qed s).1) 13:=qwv _ q4 (by omega)
    rw [a0,a1]
def qpa (p:Nat→Bool) (s:Str):Bool:=s.any fun c=>p c.toNat
theorem qrc {p:Nat→Bool} {s:Str}:qpa p s=true↔∃ i,i < s.length∧p (cN s i)=true:=by
 unfold qpa
 rw [List.any_eq_true]
 constructor
 ·rintro ⟨c,hc,hp⟩
  obtain ⟨i,h1,h2⟩:=mem_cN hc
  exact ⟨i,h1,by rw [h2];exact hp⟩
 ·rintro ⟨i,hi,hp⟩
  obtain ⟨c,h1,h2⟩:=cN_mem hi
  exact ⟨c,h1,by rw [h2];exact hp⟩
def quj (p:Nat→Bool):Nat→Str→Nat→Int
 | 0,_,_=>-1
 | k+1,s,pos=>if s=[] then -1 else if p (Lib.decodeL s).1=true then pos else quj p k (s.drop (Lib.decodeL s).2) (pos+(Lib.decodeL s).2)
theorem za8 {n b0 b1 b2 b3:Nat} (h:128≤b0):128≤(Lib.decodeN n b0 b1 b2 b3).1:=by
 unfold Lib.decodeN
 (repeat' split) <;> simp only <;> omega
theorem qtv {s:Str} (h:0 < s.length):cN s 0 < 128∧Lib.decodeL s=(cN s 0,1)∨128≤cN s 0∧128≤(Lib.decodeL s).1∧1≤(Lib.decodeL s).2∧(Lib.decodeL s).2≤s.length∧∀ k,k < (Lib.decodeL s).2→128≤cN s k:=by
 by_cases ha:cN s 0 < 128
 ·left
  refine ⟨ha,?_⟩
  rw [Lib.decodeL_N]
  exact Lib.decodeN_ascii _ _ _ _ _ ha
 right
 have hi:128≤(Lib.decodeL s).1:=by rw [Lib.decodeL_N];exact za8 (by show 128≤cN s 0;omega)
 refine ⟨by omega,hi,?_⟩
 rcases zav s h with ⟨g1,g2⟩ | ⟨g1,g2,g3⟩
 ·rw [g2]
  refine ⟨Nat.le_refl _,h,fun k hk=>?_⟩
  have:k=0:=by simp only at hk;omega
  subst this;omega
 ·rw [g2]
  rcases qwl g1 with ⟨q1,_⟩ | ⟨q1,q2,q3,q4⟩
  ·omega
  ·exact ⟨by omega,q3,q4⟩
theorem dec_rune (s:Str):(Lib.decodeL s).1≤1114111:=Lib.decodeL_rune s
theorem zbv {p:Nat→Bool} (hp:∀ r,p r=true→r < 128) {s:Str} (n:Nat) (h:∀ k,k < n→128≤cN s k):qpa p s=qpa p (s.drop n):=by
 rw [Bool.eq_iff_iff,qrc,qrc]
 constructor
 ·rintro ⟨i,hi,hc⟩
  have:n≤i:=by
   apply Decidable.byContradiction
   intro hn
   have:=h i (by omega)
   have:=hp _ hc
   omega
  exact ⟨i - n,by rw [List.length_drop];omega,by rw [qlo,show n+(i - n)=i by omega];exact hc⟩
 ·rintro ⟨i,hi,hc⟩
  rw [List.length_drop] at hi
  exact ⟨n+i,by omega,by rw [← qlo];exact hc⟩
theorem zbw {p:Nat→Bool} {s:Str} (h:0 < s.length):qpa p s=(p (cN s 0) || qpa p (s.drop 1)):=by
 cases s with
 | nil=>simp at h
 | cons c r=>simp [qpa,cN]
theorem qr1 {p:Nat→Bool} (hp:∀ r,p r=true→r < 128):∀ (k:Nat) (s:Str) (pos:Nat),s.length≤k→(0≤quj p k s pos↔qpa p s=true)
 | 0,s,pos,h=>by
  have:s=[]:=List.eq_nil_of_length_eq_zero (by omega)
  subst this;simp [quj,qpa]
 | k+1,s,pos,h=>by
  unfold quj
  by_cases hs:s=[]
  ·subst hs;simp [qpa]
  rw [if_neg hs]
  have hl:0 < s.length:=List.length_pos_iff.2 hs
  rcases qtv hl with ⟨g1,g2⟩ | ⟨g1,g2,g3,g4,g5⟩
  ·rw [g2,zbw hl]
   by_cases hc:p (cN s 0)=true
   ·simp [hc]
   ·rw [if_neg hc,qr1 hp k _ _ (by rw [List.length_drop];omega)]
    simp [hc]
  ·have hn:¬ p (Lib.decodeL s).1=true:=fun e=>by have:=hp _ e;omega
   rw [if_neg hn,qr1 hp k _ _ (by rw [List.length_drop];omega),zbv hp _ g5]
theorem zae {p:Nat→Bool} {k pos:Nat}:quj p k [] pos = -1:=by cases k <;> simp [quj]
theorem rIdx_yes {p:Nat→Bool} {k pos:Nat} {s:Str} (hs:s≠[]) (h:p (Lib.decodeL s).1=true):quj p (k+1) s pos=pos:=by unfold quj;rw [if_neg hs,if_pos h]
theorem rIdx_no {p:Nat→Bool} {k pos:Nat} {s:Str} (hs:s≠[]) (h:p (Lib.decodeL s).1=false):quj p (k+1) s pos=quj p k (s.drop (Lib.decodeL s).2) (pos+(Lib.decodeL s).2):=by
 conv=>lhs;unfold quj
 rw [if_neg hs,if_neg (by rw [h];decide)]
theorem dec_pos {s:Str} {i:Nat}:Utf8.decode ⟨s.toArray⟩ i=Lib.decodeL (s.drop i):=by
 have:=Lib.decodeL_drop ⟨s.toArray⟩ i
 simpa using this.symm
@[simp] theorem frU_range {d:Option Tmp} {t:TypeId} {l:Operand} {ty:TypeId} {pos:String} {af:Array Edge} {g:Option (Nat × Bool)} {s:St}:qbe s ⟨d,.range t l,ty,pos,af,g⟩=s:=rfl
@[simp] theorem frU_next {d:Option Tmp} {b:Bool} {l:Operand} {ty:TypeId} {pos:String} {af:Array Edge} {g:Option (Nat × Bool)} {s:St}:qbe s ⟨d,.next l b,ty,pos,af,g⟩=s:=rfl
theorem itU_yes {m b i:Nat} {s:Str} {g:List (Nat × Blk)} (h:i < s.length):qp7 ⟨m,[(b,.iter s i)::g]⟩ b=some (.tup [.bool true,.int .i64 i,.int .i32 ((Lib.decodeL (s.drop i)).1:Int)],⟨m,[(b,.iter s (i+(Lib.decodeL (s.drop i)).2))::g]⟩):=by
 have hb:Nat.blt i s.length=true:=by simpa using h
 simp [qp7,Heap.get,getFs,getF,hb,dec_pos,Heap.set,setFs,setF]
theorem itU_no {m b i:Nat} {s:Str} {g:List (Nat × Blk)} (h:¬ i < s.length):qp7 ⟨m,[(b,.iter s i)::g]⟩ b=some (.tup [.bool false],⟨m,[(b,.iter s i)::g]⟩):=by
 have hb:Nat.blt i s.length=false:=by
  cases hq:Nat.blt i s.length with
  | false=>rfl
  | true=>exact absurd (by simpa using hq) h
 simp [qp7,Heap.get,getFs,getF,hb]
theorem fit_it {m:Nat} {s:Str} {i:Nat}:FitH 0 [(0,0)] [] ⟨m,[[(0,.iter s i)]]⟩ ⟨1,[[(0,.iter s i)]]⟩ where
 nd1:=by simp
 nd2:=by simp
 nd3:=by simp [Heap.ents]
 lt:=fun x hx=>by simp at hx;subst hx;simp
 idn:=fun x hx h=>by rcases h with h | h <;> exact absurd h (Nat.not_lt_zero _)
 num:=Nat.zero_le _
 src:=fun e he=>by
  simp [Heap.ents] at he
  subst he
  exact ⟨0,.iter s i,by simp,by simp [Heap.get,getFs,getF],rfl,rfl⟩
 frz:=fun x hx=>by cases hx
def qun:Go.Shelf.Ren:=⟨fun | 196=>147 | 259=>180 | n=>n,fun | 0=>0 | 3=>3 | 4=>4 | 5=>5 | 9=>9 | 12=>12 | 46=>130 | 53=>156 | 119=>129 | 138=>132 | 139=>133 | n=>n,fun | 3=>0 | 4=>1 | n=>n⟩
theorem lays196:Go.Proofs.Lays.n196 Tryz.prog qun where
 mixed:=by kernel_rfl
 f196:=Tryz.func147.trans (congrArg some (by kernel_rfl))
 f259:=Tryz.func180.trans (congrArg some (by kernel_rfl))
 t0:=Tryz.underlying0
 a0:=Tryz.isAgg0
 z0:=Tryz.sizeOf0
 v0:=Tryz.zeroValue0
 t3:=Tryz.underlying3
 a3:=Tryz.isAgg3
 z3:=Tryz.sizeOf3
 v3:=Tryz.zeroValue3
 t4:=Tryz.underlying4
 a4:=Tryz.isAgg4
 z4:=Tryz.sizeOf4
 v4:=Tryz.zeroValue4
 t5:=Tryz.underlying5
 a5:=Tryz.isAgg5
 z5:=Tryz.sizeOf5
 v5:=Tryz.zeroValue5
 t9:=Tryz.underlying9
 a9:=Tryz.isAgg9
 z9:=Tryz.sizeOf9
 v9:=Tryz.zeroValue9
 t12:=Tryz.underlying12
 a12:=Tryz.isAgg12
 z12:=Tryz.sizeOf12
 v12:=Tryz.zeroValue12
 t46:=Tryz.underlying130
 a46:=Tryz.isAgg130
 z46:=Tryz.sizeOf130
 v46:=Tryz.zeroValue130
 t53:=Tryz.underlying156
 a53:=Tryz.isAgg156
 z53:=Tryz.sizeOf156
 v53:=Tryz.zeroValue156
 t119:=Tryz.underlying129
 a119:=Tryz.isAgg129
 z119:=Tryz.sizeOf129
 t138:=Tryz.underlying132
 a138:=Tryz.isAgg132
 z138:=Tryz.sizeOf132
 v138:=Tryz.zeroValue132
 t139:=Tryz.underlying133
 a139:=Tryz.isAgg133
 z139:=Tryz.sizeOf133
 v139:=Tryz.zeroValue133
 g3:=by kernel_rfl
 g4:=by kernel_rfl
theorem ql6 {ρ:Place} {w w':World} (sm:Sim ρ ⟨0,[]⟩ w) (h:Below w.heap.size w w'):Sim ρ ⟨0,[]⟩ w' where
 base:=fun k hk=>Nat.lt_of_lt_of_le (sm.base k hk) h.size
 below:=fun k hk=>(h.block k (sm.base k hk)).trans (sm.below k hk)
 os:=h.os.trans sm.os
 tape:=h.tape.trans sm.tape
 output:=h.output.trans sm.output
 dom:=sm.dom
 nodup:=sm.nodup
 live:=fun e he=>by simp [Heap.ents] at he
 inj:=fun e e' he=>by simp [Heap.ents] at he
theorem qjh {ρ:Place} {w w':World} (h:Below w.heap.size w w'):Step ρ ⟨0,[]⟩ w ρ ⟨0,[]⟩ w' where
 le:=Place.le_refl ρ
 size:=h.size
 keeps:=fun k hk _=>h.block k hk
 rows:=fun e' he'=>by simp [Heap.ents] at he'
 num:=Nat.le_refl _
 low:=fun _ _=>rfl
 cold:=fun k hk=>.inl hk
theorem first_at:∀ c:Fin 256,qmh[c.val]? = some (Lib.firstT c.val:Int):=by decide +kernel
theorem acc_lo:∀ i:Fin 16,utfAcc[2 * i.val]? = some (Lib.accLo i.val:Int):=by decide +kernel
theorem acc_hi:∀ i:Fin 16,utfAcc[2 * i.val+1]? = some (Lib.accHi i.val:Int):=by decide +kernel
theorem qzt {ρ:Place} {w:World} (sm:Sim ρ ⟨0,[]⟩ w):Lib.Utf8Tabs (0) (1) w:=by
 have cell:∀ x,x∈pins→∀ i n,x.2[i]? = some n→w.cell? ⟨x.1,i,none⟩=some (.int .u8 n):=fun x hx i n hn=>by
  obtain ⟨hB,hc⟩:=ρ.gp x hx
  rw [World.cell?,sm.below x.1 hB];exact hc i n hn
 exact ⟨fun c hc=>cell (0,qmh) (by decide +kernel) c _ (first_at ⟨c,hc⟩),
  fun i hi=>⟨cell (1,utfAcc) (by decide +kernel) _ _ (acc_lo ⟨i,hi⟩),cell (1,utfAcc) (by decide +kernel) _ _ (acc_hi ⟨i,hi⟩)⟩⟩
theorem c147 {T:List (Entry Tryz.prog)} (s:Str) (hl:s.length≤1000000):CallAt (ctx T) 147 [.str s] ⟨0,[]⟩ (.bool (Lib.validD s)) ⟨0,[]⟩:=by
 intro ρ w xs sm hx
 match xs,hx with
 | [x],hx=>
  have h0:=hx.2 0 (by simp) (by simp)
  simp only [List.getElem_cons_zero] at h0
  cases h0
  have hrun:(callFunc 147 #[.string ⟨s.toArray⟩]).run (ctx T).P w=.ok (.enter 147 #[.string ⟨s.toArray⟩]) w:=by
   have hf:(ctx T).P.funcs[147]? = some Tryz.f147:=Tryz.func147
   have hn : ¬ Tryz.f147.name = "runtime.NumGoroutine" := by decide +kernel
   simp [callFunc,hf,hn,Tryz.f147]
  have hsz:(⟨s.toArray⟩ : ByteArray).size=s.length:=by show s.toArray.size=_;simp
  refine .inr ⟨147,_,hrun,callsIn_wide.2 ?_⟩
  refine (Go.Proofs.Any.utf8_ValidString lays196 ⟨s.toArray⟩ w (by rw [hsz];omega) (qzt sm)).mono ?_
  rintro e w' ⟨rfl,hb⟩
  exact ⟨_,ρ,rfl,.bool _,ql6 sm hb,qjh hb⟩
theorem injS1 (x y:Str) (h:[AV.str x]=[AV.str y]):x=y:=by simpa using h
noncomputable def e147:Entry Tryz.prog:=mkE 147 [[]] (fun x:Str=>[.str x]) (fun x=>x.length≤1000000) (fun x=>.bool (Lib.validD x)) fun x h=>c147 (T:=[]) x h
theorem k147 {T:List (Entry Tryz.prog)} (hT:qai 147 T=some e147.g) {s:Str} (h1:s.length≤1000000) (H:Heap):qbb (ctx T) (.fn 147) [.str s] H=some (.bool (Lib.validD s),H):=
 qal hT injS1 s h1 rfl (by simp)
theorem c198 {T:List (Entry Tryz.prog)} (s:Str) (c:UInt8):CallAt (ctx T) 198 [.str s,.int .u8 (c.toNat:Int)] ⟨0,[]⟩ (.int .i64 (Lib.indexByte s c)) ⟨0,[]⟩:=by
 intro ρ w xs sm hx
 match xs,hx with
 | [x,y],hx=>
  have h0:=hx.2 0 (by simp) (by simp)
  have h1:=hx.2 1 (by simp) (by simp)
  simp only [List.getElem_cons_zero,List.getElem_cons_succ] at h0 h1
  cases h0;cases h1
  have hr:=Lib.run_indexByteString (P:=Tryz.prog) ⟨s.toArray⟩ (c.toNat:Int) w
  have hf:(ctx T).P.funcs[198]? = some Tryz.f198:=Tryz.func198
  have hn : ¬ Tryz.f198.name = "runtime.NumGoroutine" := by decide +kernel
  have e1:(Extern.findNext Tryz.f198).isNone=true:=by decide +kernel
  have e2:Extern.find Tryz.f198=some Extern.BytealgIndexByte.indexByte:=by rfl
  have e1':Extern.findNext Tryz.f198=none:=Option.isNone_iff_eq_none.1 e1
  have hb:Tryz.f198.body.isNone=true:=rfl
  refine .inl ⟨_,ρ,w,?_,.int _ _,sm,Step.refl _ _ _⟩
  have hc:(c.toNat:Int).toNat.toUInt8=c:=by simp
  rw [hc] at hr
  have hr':Sem.run (ctx T).P (Extern.BytealgIndexByte.indexByte #[.string ⟨s.toArray⟩,.int .u8 (c.toNat:Int)]) w=.ok (.int .i64 (Lib.indexByte s c)) w:=hr
  have hb2:Tryz.f198.body=none:=rfl
  have hr2:Sem.run Tryz.prog (Extern.BytealgIndexByte.indexByte #[.string ⟨s.toArray⟩,.int .u8 (c.toNat:Int)]) w=.ok (.int .i64 (Lib.indexByte s c)) w:=hr
  simp [callFunc,hf,hn,hb2,e1',e2,hr2]
theorem inj_sb (x y:Str × UInt8) (h:[AV.str x.1,AV.int .u8 (x.2.toNat:Int)]=[AV.str y.1,AV.int .u8 (y.2.toNat:Int)]):x=y:=by
 simp at h
 exact Prod.ext h.1 (UInt8.toNat_inj.1 (by omega))
theorem qpg {C:Ctx} {n:Nat} {r:Option Nat} {s:St} {Q:Out→St→Prop} {body:Code} (h:WpSr C n r body s (quz body (fun _ _=>False) Q)):WpSr C n r (.scope body) s Q:=by
 refine qze (fun _:Unit=>body) (fun _=>s) (fun _=>True) (fun _=>0) () trivial rfl ?_
 intro _ _ B _
 refine h.mono fun x s' hq=>?_
 cases x with
 | goto l=>
  simp only [quz] at hq ⊢
  cases hl:findLabel body l with
  | none=>rw [hl] at hq;exact hq
  | some rest=>rw [hl] at hq;exact hq.elim
 | normal=>exact hq
 | exit k=>exact hq
 | ret=>exact hq
@[simp] theorem gotoQ_ret {body:Code} {R:Code→St→Prop} {Q:Out→St→Prop} {s:St}:quz body R Q .ret s=Q .ret s:=rfl
@[simp] theorem gotoQ_normal {body:Code} {R:Code→St→Prop} {Q:Out→St→Prop} {s:St}:quz body R Q .normal s=Q .normal s:=rfl
@[simp] theorem gotoQ_exit {body:Code} {R:Code→St→Prop} {Q:Out→St→Prop} {s:St} {k:Nat}:quz body R Q (.exit k) s=Q (.exit k) s:=rfl
theorem c192 {T:List (Entry Tryz.prog)} (s:Str) (c:UInt8):CallAt (ctx T) 192 [.str s,.int .u8 (c.toNat:Int)] ⟨0,[]⟩ (.int .i64 (Lib.indexByte s c)) ⟨0,[]⟩:=by
 have hc:=(c198 (T:=T) s c).lift (by simp [qac,qah]) ⟨0,[[]]⟩
 generalize Lib.indexByte s c=v at *
 refine qa2 (fn:=Tryz.f192) (s0:=⟨[0,1,4],[.str s,.int .u8 (c.toNat:Int),.undef],[],8,⟨0,[[]]⟩⟩) Tryz.func192 rfl rfl rfl ?_
 repeat apply wq
 refine qa0 qa1 ?_
 simp [zS]
 repeat apply wq
 refine qa0 (qbc [⟨198,_,_,_,_,hc⟩]) ?_
 simp [zS,qce]
 refine qa8 ?_
 simp [qad,Tryz.f192,oneOr,qaf,qa6]
 exact qa5 rfl (by rfl)
theorem c162 {T:List (Entry Tryz.prog)} (s:Str) (c:UInt8):CallAt (ctx T) 162 [.str s,.int .u8 (c.toNat:Int)] ⟨0,[]⟩ (.int .i64 (Lib.indexByte s c)) ⟨0,[]⟩:=by
 have hc:=(c192 (T:=T) s c).lift (by simp [qac,qah]) ⟨0,[[]]⟩
 generalize Lib.indexByte s c=v at *
 refine qa2 (fn:=Tryz.f162) (s0:=⟨[0,1,4],[.str s,.int .u8 (c.toNat:Int),.undef],[],8,⟨0,[[]]⟩⟩) Tryz.func162 rfl rfl rfl ?_
 repeat apply wq
 refine qa0 qa1 ?_
 simp [zS]
 repeat apply wq
 refine qa0 (qbc [⟨192,_,_,_,_,hc⟩]) ?_
 simp [zS,qce]
 refine qa8 ?_
 simp [qad,Tryz.f162,oneOr,qaf,qa6]
 exact qa5 rfl (by rfl)
noncomputable def e162:Entry Tryz.prog:=mkE 162 [[],[]] (fun x:Str × UInt8=>[.str x.1,.int .u8 (x.2.toNat:Int)]) (fun _=>True) (fun x=>.int .i64 (Lib.indexByte x.1 x.2)) fun x _=>c162 (T:=[]) x.1 x.2
theorem k162 {T:List (Entry Tryz.prog)} (hT:qai 162 T=some e162.g) (s:Str) (c:UInt8) (H:Heap):qbb (ctx T) (.fn 162) [.str s,.int .u8 (c.toNat:Int)] H=some (.int .i64 (Lib.indexByte s c),H):=
 qal hT inj_sb (s,c) trivial rfl (by simp)
def qj9 (r:Nat):Bool:=decide (r < 55296) || (decide (57343 < r) && decide (r≤1114111))
theorem c177 {T:List (Entry Tryz.prog)} (r:Nat):CallAt (ctx T) 177 [.int .i32 (r:Int)] ⟨0,[]⟩ (.bool (qj9 r)) ⟨0,[]⟩:=by
 have h0:(0:Int)≤r:=by omega
 by_cases h1:r < 55296
 ·have h1':(r:Int) < 55296:=by omega
  refine qa2 (fn:=Tryz.f177) (s0:=⟨[0,2],[.int .i32 (r:Int),.undef],[],17,⟨0,[[]]⟩⟩) Tryz.func177 rfl rfl rfl ?_
  (repeat (first
   | (refine qb0 ?_)
   | (refine qab ?_)
   | (refine qc8 ?_;simp only [qaf,qa6])
   | ((refine qa0 qa1 ?_);simp [zS,h0,h1,h1'])
   | (refine qan rfl ?_)
   | (refine qam rfl ?_)
   | ((refine qa9 ?_);simp only [qaf,qa6])
   | ((refine qaw ?_);simp [qaf,qa6])))
  refine qa8 ?_
  simp [qad,Tryz.f177,oneOr,qaf,qa6]
  exact qa5 rfl (by simp [qj9,h1])
 ·have h1':¬ (r:Int) < 55296:=by omega
  by_cases h2:57343 < r
  ·have h2':(57343:Int) < r:=by omega
   by_cases h3:r≤1114111
   ·have h3':(r:Int)≤1114111:=by omega
    refine qa2 (fn:=Tryz.f177) (s0:=⟨[0,2],[.int .i32 (r:Int),.undef],[],17,⟨0,[[]]⟩⟩) Tryz.func177 rfl rfl rfl ?_
    (repeat (first
     | (refine qb0 ?_)
     | (refine qab ?_)
     | (refine qc8 ?_;simp only [qaf,qa6])
     | ((refine qa0 qa1 ?_);simp [zS,h0,h1,h1',h2,h2',h3,h3'])
     | (refine qan rfl ?_)
     | (refine qam rfl ?_)
     | ((refine qa9 ?_);simp only [qaf,qa6])
     | ((refine qaw ?_);simp [qaf,qa6])))
    refine qa8 ?_
    simp [qad,Tryz.f177,oneOr,qaf,qa6]
    exact qa5 rfl (by simp [qj9,h1,h2,h3])
   ·have h3':¬ (r:Int)≤1114111:=by omega
    refine qa2 (fn:=Tryz.f177) (s0:=⟨[0,2],[.int .i32 (r:Int),.undef],[],17,⟨0,[[]]⟩⟩) Tryz.func177 rfl rfl rfl ?_
    (repeat (first
     | (refine qb0 ?_)
     | (refine qab ?_)
     | (refine qc8 ?_;simp only [qaf,qa6])
     | ((refine qa0 qa1 ?_);simp [zS,h0,h1,h1',h2,h2',h3,h3'])
     | (refine qan rfl ?_)
     | (refine qam rfl ?_)
     | ((refine qa9 ?_);simp only [qaf,qa6])
     | ((refine qaw ?_);simp [qaf,qa6])))
    refine qa8 ?_
    simp [qad,Tryz.f177,oneOr,qaf,qa6]
    exact qa5 rfl (by simp [qj9,h1,h2,h3])
  ·have h2':¬ (57343:Int) < r:=by omega
   refine qa2 (fn:=Tryz.f177) (s0:=⟨[0,2],[.int .i32 (r:Int),.undef],[],17,⟨0,[[]]⟩⟩) Tryz.func177 rfl rfl rfl ?_
   (repeat (first
    | (refine qb0 ?_)
    | (refine qab ?_)
    | (refine qc8 ?_;simp only [qaf,qa6])
    | ((refine qa0 qa1 ?_);simp [zS,h0,h1,h1',h2,h2'])
    | (refine qan rfl ?_)
    | (refine qam rfl ?_)
    | ((refine qa9 ?_);simp only [qaf,qa6])
    | ((refine qaw ?_);simp [qaf,qa6])))
   refine qa8 ?_
   simp [qad,Tryz.f177,oneOr,qaf,qa6]
   exact qa5 rfl (by simp [qj9,h1,h2])
noncomputable def e177:Entry Tryz.prog:=mkE 177 [[]] (fun x:Nat=>[.int .i32 (x:Int)]) (fun _=>True) (fun x=>.bool (qj9 x)) fun x _=>c177 (T:=[]) x
theorem k177 {T:List (Entry Tryz.prog)} (hT:qai 177 T=some e177.g) (r:Nat) (H:Heap):qbb (ctx T) (.fn 177) [.int .i32 (r:Int)] H=some (.bool (qj9 r),H):=
 qal hT (fun x y h=>by simp at h;omega) r trivial rfl (by simp)
abbrev anyC:Str:=[0,13]
def anyV (r:Nat):Int:=if r=0 then 0 else if r=13 then 1 else -1
theorem bad_rune:litOK (.int .i64 (-1)) (qpe (ctx []) 100000 (.fn 146) [.str anyC,.int .i32 65533] ⟨0,[]⟩)=true:=by decide +kernel
theorem anyV_low:∀ c:Fin 128,anyV c.val=Lib.indexByte anyC (UInt8.ofNat c.val):=by decide +kernel
theorem zcs {r:Nat} (h:128≤r) (hv:qj9 r=true):(∃ a b:UInt8,(Utf8.encode (r:Int)).data.toList=[a,b]∧128≤b.toNat)∨3≤(Utf8.encode (r:Int)).data.toList.length∧(Utf8.encode (r:Int)).data.toList.length≤4:=by
 have hval:Utf8.valid (r:Int)=true:=by
  simp only [qj9,Bool.or_eq_true,Bool.and_eq_true,decide_eq_true_eq] at hv
  simp only [Utf8.valid,Bool.or_eq_true,Bool.and_eq_true,decide_eq_true_eq]
  omega
 unfold Utf8.encode
 simp only [hval,if_true,Int.toNat_natCast]
 rw [if_neg (by omega)]
 split
 ·left
  refine ⟨_,_,rfl,?_⟩
  simp only [UInt8.toNat_ofNat']
  omega
 ·right
  split <;> simp
theorem c146 {T:List (Entry Tryz.prog)} (hB:qai 162 T=some e162.g) (hV:qai 177 T=some e177.g) (r:Nat) (hr:r≤1114111):CallAt (ctx T) 146 [.str anyC,.int .i32 (r:Int)] ⟨0,[]⟩ (.int .i64 (anyV r)) ⟨0,[]⟩:=by
 have h0:(0:Int)≤r:=by omega
 by_cases h1:r < 128
 ·have h1':(r:Int) < 128:=by omega
  have hw:IntKind.u8.wrap (r:Int)=((UInt8.ofNat r).toNat:Int):=by
   have e:(UInt8.ofNat r).toNat=r:=by simp;omega
   rw [e]
   simp [IntKind.wrap,IntKind.signed,IntKind.bits]
   omega
  have hcv:∀ H,qgb Tryz.prog H 21 5 (.int .i32 (r:Int))=some (.int .u8 ((UInt8.ofNat r).toNat:Int),H):=fun H=>by simp [qgb,hw]
  have hk:=fun H=>k162 hB anyC (UInt8.ofNat r) H
  have hv:=anyV_low ⟨r,h1⟩
  simp only at hv
  rw [← hv] at hk
  generalize UInt8.ofNat r=c at *
  generalize anyV r=v at *
  refine qa2 (fn:=Tryz.f146) (s0:=⟨[0,1,4,5,6,7,8,9,10,11,12,13,14,15,16,175,176],[.str anyC,.int .i32 (r:Int),.undef,.undef,.undef,.undef,.undef,.undef,.undef,.undef,.undef,.undef,.undef,.undef,.undef,.undef,.undef],[],187,⟨0,[[]]⟩⟩) Tryz.func146 rfl rfl rfl ?_
  repeat apply wq
  refine qa0 qa1 ?_
  simp [zS]
  refine qab ?_
  repeat apply wq
  refine qa0 qa1 ?_
  simp [zS,h0,h1,h1']
  refine qan rfl ?_
  repeat apply wq
  refine qa0 qa1 ?_
  simp [zS,hcv,hk]
  refine qa8 ?_
  simp [qad,Tryz.f146,oneOr,qaf,qa6]
  exact qa5 rfl (by rfl)
 have hn:anyV r = -1:=by unfold anyV;rw [if_neg (by omega),if_neg (by omega)]
 by_cases h2:r=65533
 ·subst h2
  rw [hn]
  exact zd3 (T:=[]) bad_rune
 have h1':¬ (r:Int) < 128:=by omega
 have h2':¬ (r:Int)=65533:=by omega
 have kv:=fun H=>k177 hV r H
 rw [hn]
 cases hok:qj9 r with
 | false=>
  rw [hok] at kv
  refine qa2 (fn:=Tryz.f146) (s0:=⟨[0,1,4,5,6,7,8,9,10,11,12,13,14,15,16,175,176],[.str anyC,.int .i32 (r:Int),.undef,.undef,.undef,.undef,.undef,.undef,.undef,.undef,.undef,.undef,.undef,.undef,.undef,.undef,.undef],[],187,⟨0,[[]]⟩⟩) Tryz.func146 rfl rfl rfl ?_
  repeat apply wq
  refine qa0 qa1 ?_
  simp [zS]
  refine qab ?_
  repeat apply wq
  refine qa0 qa1 ?_
  simp [zS,h0,h1,h1']
  refine qam rfl ?_
  repeat apply wq
  refine qa0 qa1 ?_
  simp [zS,h2,h2']
  refine qam rfl ?_
  repeat apply wq
  refine qa0 qa1 ?_
  simp [zS,kv]
  refine qan rfl ?_
  repeat apply wq
  refine qa0 qa1 ?_
  simp [zS]
  refine qa8 ?_
  simp [qad,Tryz.f146,oneOr,qaf,qa6]
  exact qa5 rfl (by rfl)
 | true=>
  rw [hok] at kv
  have hsh:=zcs (by omega) hok
  have hcv:∀ H,qgb Tryz.prog H 21 9 (.int .i32 (r:Int))=some (.str (Utf8.encode (r:Int)).data.toList,H):=fun H=>by simp [qgb]
  generalize (Utf8.encode (r:Int)).data.toList=rs at *
  refine qa2 (fn:=Tryz.f146) (s0:=⟨[0,1,4,5,6,7,8,9,10,11,12,13,14,15,16,175,176],[.str anyC,.int .i32 (r:Int),.undef,.undef,.undef,.undef,.undef,.undef,.undef,.undef,.undef,.undef,.undef,.undef,.undef,.undef,.undef],[],187,⟨0,[[]]⟩⟩) Tryz.func146 rfl rfl rfl ?_
  repeat apply wq
  refine qa0 qa1 ?_
  simp [zS]
  refine qab ?_
  repeat apply wq
  refine qa0 qa1 ?_
  simp [zS,h0,h1,h1']
  refine qam rfl ?_
  repeat apply wq
  refine qa0 qa1 ?_
  simp [zS,h2,h2']
  refine qam rfl ?_
  repeat apply wq
  refine qa0 qa1 ?_
  simp [zS,kv]
  refine qam rfl ?_
  refine qpg ?_
  rcases hsh with ⟨a,b,rfl,hb⟩ | ⟨g1,g2⟩
  ·have hkb:=fun H=>k162 hB [] b H
   have hib:Lib.indexByte [] b = -1:=rfl
   rw [hib] at hkb
   have hne:¬ (13:Int)=(b.toNat:Int):=by omega
   have hne':¬ (b.toNat:Int)=13:=by omega
   have ix1:qgq Tryz.prog 9 (.str anyC) (.int .i64 1)=some (.int .u8 13):=rfl
   have ix2:qgq Tryz.prog 9 (.str [a,b]) (.int .i64 1)=some (.int .u8 (b.toNat:Int)):=rfl
   have sl:∀ H,qdu Tryz.prog H 9 (.str anyC) (some (.int .i64 2)) none none=some (.str []):=fun H=>rfl
   repeat apply wq
   refine qa0 qa1 ?_
   simp [zS,hcv]
   have w1:wr .i64 1=some 1:=rfl
   repeat apply wq
   refine qa0 qa1 ?_
   simp [zS,w1]
   repeat apply wq
   refine qa0 qa1 ?_
   simp [zS]
   repeat apply wq
   refine qa0 qa1 ?_
   simp [zS]
   repeat apply wq
   refine qab (qb7 (fun _:Unit=>(⟨[0,1,4,5,6,7,8,9,10,11,12,13,14,15,16,175,176],[.str anyC,.int .i32 (r:Int),.int .i64 0,.undef,.undef,.str [a,b],.int .i64 1,.int .i64 1,.int .i64 0,.undef,.undef,.undef,.undef,.undef,.undef,.undef,.undef],[],187,⟨0,[[]]⟩⟩ : St)) (fun _=>True) (fun _=>0) [] [] () trivial ⟨rfl,rfl,rfl,by simp [qb1,qar,qah,qac],FitH.nothing⟩ ?_)
   intro _ _ B hB
   repeat apply wq
   refine qa0 qa1 ?_
   simp [zS]
   refine qan rfl ?_
   refine qa9 ?_
   simp
   refine qab ?_
   refine qpg ?_
   repeat apply wq
   refine qdd mixed qa1 (by decide +kernel) (by decide +kernel) ?_
   simp [zS,qf3,qd8,qcx,ix1,ix2,hne,hne']
   refine qan rfl ?_
   have w2:wr .i64 2=some 2:=rfl
   repeat apply wq
   refine qdd mixed qa1 (by decide +kernel) (by decide +kernel) ?_
   simp [zS,qf3,qd8,qcx,ix2,w2,sl,hkb]
   repeat apply wq
   refine qa0 qa1 ?_
   simp [zS]
   refine qan rfl ?_
   repeat apply wq
   refine qa0 qa1 ?_
   simp [zS]
   refine qa8 ?_
   simp [qad,Tryz.f146,oneOr,qaf,qa6]
   exact qa5 rfl (by rfl)
  ·obtain ⟨L,hL⟩ : ∃ L,rs.length=L+1:=⟨rs.length - 1,by omega⟩
   have hw:wr .i64 ((rs.length:Int) - 1)=some ((L:Nat):Int):=by rw [qep (by omega) (by omega),hL];congr 1;omega
   have hlt:¬ (L:Int) < 2:=by omega
   have hlt':¬ L < 2:=by omega
   repeat apply wq
   refine qa0 qa1 ?_
   simp [zS,hcv]
   repeat apply wq
   refine qa0 qa1 ?_
   simp [zS,hw]
   repeat apply wq
   refine qa0 qa1 ?_
   simp [zS]
   repeat apply wq
   refine qa0 qa1 ?_
   simp [zS]
   repeat apply wq
   refine qab (qb7 (fun _:Unit=>(⟨[0,1,4,5,6,7,8,9,10,11,12,13,14,15,16,175,176],[.str anyC,.int .i32 (r:Int),.int .i64 0,.undef,.undef,.str rs,.int .i64 (L:Nat),.int .i64 (L:Nat),.int .i64 0,.undef,.undef,.undef,.undef,.undef,.undef,.undef,.undef],[],187,⟨0,[[]]⟩⟩ : St)) (fun _=>True) (fun _=>0) [] [] () trivial ⟨rfl,rfl,rfl,by simp [qb1,qar,qah,qac],FitH.nothing⟩ ?_)
   intro _ _ B hB
   repeat apply wq
   refine qa0 qa1 ?_
   simp [zS,hlt,hlt']
   refine qam (by simp [qbk,St.get,hlt,hlt']) ?_
   refine qaw ?_
   simp
   repeat apply wq
   refine qa0 qa1 ?_
   simp [zS]
   refine qa8 ?_
   simp [qad,Tryz.f146,oneOr,qaf,qa6]
   exact qa5 rfl (by rfl)
noncomputable def e146:Entry Tryz.prog:=mkE 146 [[],[]] (fun x:Nat=>[.str anyC,.int .i32 (x:Int)]) (fun x=>x≤1114111) (fun x=>.int .i64 (anyV x)) fun x h=>c146 (T:=[e162,e177]) rfl rfl x h
theorem k146 {T:List (Entry Tryz.prog)} (hT:qai 146 T=some e146.g) {r:Nat} (hr:r≤1114111) (H:Heap):qbb (ctx T) (.fn 146) [.str anyC,.int .i32 (r:Int)] H=some (.int .i64 (anyV r),H):=
 qal hT (fun x y h=>by simp at h;omega) r hr rfl (by simp)
def quq:Go.Shelf.Ren:=⟨fun | 119=>177 | 137=>162 | 152=>146 | 153=>181 | 217=>192 | 224=>178 | 225=>179 | 226=>194 | 227=>79 | 228=>117 | 266=>198 | n=>n,fun | 0=>0 | 3=>3 | 4=>4 | 5=>5 | 9=>9 | 21=>21 | 46=>130 | 116=>101 | 117=>102 | 124=>105 | n=>n,fun | n=>n⟩
theorem lays153:Go.Proofs.Lays.n153 Tryz.prog quq where
 mixed:=by kernel_rfl
 f119:=Tryz.func177.trans (congrArg some (by kernel_rfl))
 f137:=Tryz.func162.trans (congrArg some (by kernel_rfl))
 f152:=Tryz.func146.trans (congrArg some (by kernel_rfl))
 f153:=Tryz.func181.trans (congrArg some (by kernel_rfl))
 f217:=Tryz.func192.trans (congrArg some (by kernel_rfl))
 f224:=Tryz.func178.trans (congrArg some (by kernel_rfl))
 f225:=Tryz.func179.trans (congrArg some (by kernel_rfl))
 f226:=Tryz.func194.trans (congrArg some (by kernel_rfl))
 f227:=Tryz.func79.trans (congrArg some (by kernel_rfl))
 f228:=Tryz.func117.trans (congrArg some (by kernel_rfl))
 f266:=Tryz.func198.trans (congrArg some (by kernel_rfl))
 t0:=Tryz.underlying0
 a0:=Tryz.isAgg0
 z0:=Tryz.sizeOf0
 v0:=Tryz.zeroValue0
 t3:=Tryz.underlying3
 a3:=Tryz.isAgg3
 z3:=Tryz.sizeOf3
 v3:=Tryz.zeroValue3
 t4:=Tryz.underlying4
 a4:=Tryz.isAgg4
 z4:=Tryz.sizeOf4
 v4:=Tryz.zeroValue4
 t5:=Tryz.underlying5
 a5:=Tryz.isAgg5
 z5:=Tryz.sizeOf5
 v5:=Tryz.zeroValue5
 t9:=Tryz.underlying9
 a9:=Tryz.isAgg9
 z9:=Tryz.sizeOf9
 v9:=Tryz.zeroValue9
 t21:=Tryz.underlying21
 a21:=Tryz.isAgg21
 z21:=Tryz.sizeOf21
 v21:=Tryz.zeroValue21
 t46:=Tryz.underlying130
 a46:=Tryz.isAgg130
 z46:=Tryz.sizeOf130
 v46:=Tryz.zeroValue130
 t116:=Tryz.underlying101
 a116:=Tryz.isAgg101
 z116:=Tryz.sizeOf101
 t117:=Tryz.underlying102
 a117:=Tryz.isAgg102
 z117:=Tryz.sizeOf102
 v117:=Tryz.zeroValue102
 t124:=Tryz.underlying105
 a124:=Tryz.isAgg105
 z124:=Tryz.sizeOf105
 v124:=Tryz.zeroValue105
def qlt (r:Nat):Bool:=decide (r=0) || decide (r=13)
def qm3 (s:Str):Int:=if s.length≤8 then quj qlt s.length s 0 else Lib.indexAny s anyC
theorem zds:∀ (s:Str),0≤Lib.indexAny s anyC↔qpa qlt s=true
 | []=>by simp [Lib.indexAny,qpa]
 | c::r=>by
  have ih:=zds r
  have hc:(anyC.contains c)=qlt c.toNat:=by
   have key:∀ n:Fin 256,(anyC.contains (UInt8.ofNat n.val))=qlt n.val:=by decide +kernel
   have:=key ⟨c.toNat,c.toNat_lt⟩
   simpa using this
  have hcons:qpa qlt (c::r)=(qlt c.toNat || qpa qlt r):=by simp [qpa]
  unfold Lib.indexAny
  rw [hc,hcons]
  cases qlt c.toNat with
  | true=>simp
  | false=>
   have hge:=Lib.indexAny_ge anyC r
   simp only [Bool.false_eq_true,if_false,Bool.false_or]
   rw [← ih]
   split
   ·rename_i h
    simp only [beq_iff_eq] at h
    omega
   ·rename_i h
    simp only [beq_iff_eq] at h
    omega
theorem qyk (s:Str):0≤qm3 s↔qpa qlt s=true:=by
 unfold qm3
 split
 ·exact qr1 (fun r h=>by simp [qlt] at h;omega) _ _ _ (Nat.le_refl _)
 ·exact zds s
theorem qw2:(Tryz.prog.info? 101).map (fun i=>(i.zero,i.size))=some (some (.agg (Array.replicate 256 (.bool false))),256):=by kernel_rfl
theorem c194 {T:List (Entry Tryz.prog)} (n:Nat) (h:n≤8):CallAt (ctx T) 194 [.int .i64 (n:Int)] ⟨0,[]⟩ (.bool false) ⟨0,[]⟩:=by
 have h1:¬ (8:Int) < (n:Int):=by omega
 have h2:¬ 8 < n:=by omega
 refine qa2 (fn:=Tryz.f194) (s0:=⟨[0,2],[.int .i64 (n:Int),.undef],[],5,⟨0,[[]]⟩⟩) Tryz.func194 rfl rfl rfl ?_
 (repeat (first
  | (refine qb0 ?_)
  | (refine qab ?_)
  | (refine qc8 ?_;simp only [qaf,qa6])
  | ((refine qa0 qa1 ?_);simp [zS,h1,h2])
  | (refine qan rfl ?_)
  | (refine qam rfl ?_)
  | ((refine qa9 ?_);simp only [qaf,qa6])
  | ((refine qaw ?_);simp [qaf,qa6])))
 refine qa8 ?_
 simp [qad,Tryz.f194,oneOr,qaf,qa6]
 exact qa5 rfl (by rfl)
theorem c181 {T:List (Entry Tryz.prog)} (hR:qai 146 T=some e146.g) (s:Str) (hl:s.length≤900000):CallAt (ctx T) 181 [.str s,.str anyC] ⟨0,[]⟩ (.int .i64 (qm3 s)) ⟨0,[]⟩:=by
 by_cases h8:s.length≤8
 ·have hv:qm3 s=quj qlt s.length s 0:=by unfold qm3;rw [if_pos h8]
  rw [hv]
  have hu:=(c194 (T:=T) s.length h8).lift (by simp [qac,qah]) ⟨0,[[]]⟩
  refine qa2 (fn:=Tryz.f181) (s0:=⟨[0,1,4,5,6,7,8,9,10,45,46],[.str s,.str anyC,.undef,.undef,.undef,.undef,.undef,.undef,.undef,.undef,.undef],[],55,⟨0,[[]]⟩⟩) Tryz.func181 rfl rfl rfl ?_
  repeat apply wq
  refine qa0 qa1 ?_
  simp [zS]
  repeat apply wq
  refine qa0 qa1 ?_
  simp [zS]
  refine qam rfl ?_
  refine qa9 ?_
  simp
  repeat apply wq
  refine qa0 qa1 ?_
  simp [zS]
  refine qam rfl ?_
  refine qa9 ?_
  simp
  repeat apply wq
  refine qa0 (qbc [⟨194,_,_,_,_,hu⟩]) ?_
  simp [zS,qce]
  refine qam rfl ?_
  refine qa9 ?_
  simp
  repeat apply wq
  refine qa0 qa1 ?_
  simp [zS,rgV]
  refine qab (qb7 (fun x:Nat × Nat=>(⟨[0,1,4,5,6,7,8,9,10,45,46],[.str s,.str anyC,.int .i64 0,.undef,.undef,.undef,.undef,.undef,.undef,.ptr 0 0,.undef],[],55,⟨1,[[(0,.iter s x.2)]]⟩⟩ : St))
   (fun x=>x.2≤s.length∧s.length≤x.2+x.1∧quj qlt x.1 (s.drop x.2) x.2=quj qlt s.length s 0) (fun x=>x.1) [(0,0)] [] (s.length,0) ⟨Nat.zero_le _,by simp,by simp⟩
   ⟨rfl,rfl,rfl,by simp [qb1,qar,qay,qah,qac],fit_it⟩ ?_)
  rintro ⟨k,i⟩ ⟨hi,hk,hd⟩ B hB
  simp only at hi hk hd hB
  by_cases h:i < s.length
  ·obtain ⟨k,rfl⟩ : ∃ k',k=k'+1:=⟨k - 1,by omega⟩
   have hne:s.drop i≠[]:=fun e=>by have:=congrArg List.length e;simp at this;omega
   have hdl:0 < (s.drop i).length:=by rw [List.length_drop];omega
   have hr:=dec_rune (s.drop i)
   have hw:1≤(Lib.decodeL (s.drop i)).2∧(Lib.decodeL (s.drop i)).2≤s.length - i:=by
    rcases qtv hdl with ⟨g1,g2⟩ | ⟨g1,g2,g3,g4,g5⟩
    ·rw [g2];simp only;omega
    ·rw [List.length_drop] at g4;omega
   have hn:=fun m=>itU_yes (m:=m) (b:=0) (g:=[]) h
   have hyes:=rIdx_yes (p:=qlt) (k:=k) (pos:=i) hne
   have hno:=rIdx_no (p:=qlt) (k:=k) (pos:=i) hne
   generalize Lib.decodeL (s.drop i)=d at *
   obtain ⟨r,w⟩:=d
   simp only at hr hw hn hyes hno
   have hcall:=fun H=>k146 hR hr H
   have hbv:(0≤anyV r)↔qlt r=true:=by
    unfold anyV qlt
    by_cases h1:r=0
    ·simp [h1]
    ·by_cases h2:r=13
     ·simp [h2]
     ·simp [h1,h2]
   generalize anyV r=v at *
   repeat apply wq
   refine qa0 qa1 ?_
   simp [zS,nxV,hn]
   repeat apply wq
   refine qan rfl ?_
   refine qa9 ?_
   simp
   refine qab ?_
   repeat apply wq
   refine qa0 qa1 ?_
   simp [zS]
   by_cases hpr:0≤v
   ·repeat apply wq
    refine qa0 qa1 ?_
    simp [zS,hcall,hpr]
    refine qan rfl ?_
    repeat apply wq
    refine qa0 qa1 ?_
    simp [zS]
    refine qa8 ?_
    simp [qad,Tryz.f181,oneOr,qaf,qa6]
    exact qa5 rfl (by rw [← hd,hyes (hbv.1 hpr)])
   ·have hpf:qlt r=false:=by
     cases hq:qlt r with
     | false=>rfl
     | true=>exact absurd (hbv.2 hq) hpr
    repeat apply wq
    refine qa0 qa1 ?_
    simp [zS,hcall,hpr]
    refine qam rfl ?_
    refine qa9 ?_
    simp
    refine hB _ (k,i+w) (by simp only;omega) ⟨by simp only;omega,by simp only;omega,?_⟩ ⟨[(0,0)],[],rfl,rfl,rfl,by simp [qb1,qar,qay,qah,qac],fit_it⟩
    simp only
    rw [← hd,hno hpf,List.drop_drop]
  ·have hie:i=s.length:=by omega
   subst hie
   have hn:=fun m=>itU_no (m:=m) (b:=0) (g:=[]) h
   rw [List.drop_length,zae] at hd
   repeat apply wq
   refine qa0 qa1 ?_
   simp [zS,nxV,hn]
   repeat apply wq
   refine qam rfl ?_
   refine qaw ?_
   simp
   repeat apply wq
   refine qa0 qa1 ?_
   simp [zS]
   refine qa8 ?_
   simp [qad,Tryz.f181,oneOr,qaf,qa6]
   exact qa5 rfl (by rw [← hd])
 ·have hv:qm3 s=Lib.indexAny s anyC:=by unfold qm3;rw [if_neg h8]
  rw [hv]
  intro ρ w xs sm hx
  match xs,hx with
  | [x,y],hx=>
   have h0:=hx.2 0 (by simp) (by simp)
   have h1:=hx.2 1 (by simp) (by simp)
   simp only [List.getElem_cons_zero,List.getElem_cons_succ] at h0 h1
   cases h0;cases h1
   have hrun:(callFunc 181 #[.string ⟨s.toArray⟩,.string ⟨anyC.toArray⟩]).run (ctx T).P w=.ok (.enter 181 #[.string ⟨s.toArray⟩,.string ⟨anyC.toArray⟩]) w:=by
    have hf:(ctx T).P.funcs[181]? = some Tryz.f181:=Tryz.func181
    have hn : ¬ Tryz.f181.name = "runtime.NumGoroutine" := by decide +kernel
    simp [callFunc,hf,hn,Tryz.f181]
   have hsz:(⟨s.toArray⟩ : ByteArray).size=s.length:=by show s.toArray.size=_;simp
   refine .inr ⟨181,_,hrun,callsIn_wide.2 ?_⟩
   refine (Go.Proofs.Any.strings_IndexAny_long lays153 (zero_of_info qw2).1 (zero_of_info qw2).2 ⟨s.toArray⟩ ⟨anyC.toArray⟩ w (by decide) (by rw [hsz];omega) (by rw [hsz];omega) (by decide) (fun j b hj=>?_)).mono ?_
   ·have hm:b∈anyC:=List.mem_of_getElem? hj
    simp at hm
    rcases hm with rfl | rfl <;> decide
   ·rintro e w' ⟨rfl,hb⟩
    have hb':Below w.heap.size w w':=by
     rw [hb]
     exact ((Below.refl _ _).alloc (Nat.le_refl _) _).alloc (by simp) _
    exact ⟨_,ρ,rfl,.int _ _,ql6 sm hb',qjh hb'⟩
theorem c148 {T:List (Entry Tryz.prog)} (hR:qai 146 T=some e146.g) (s:Str) (hl:s.length≤900000):CallAt (ctx T) 148 [.str s,.str anyC] ⟨0,[]⟩ (.bool (qpa qlt s)) ⟨0,[]⟩:=by
 have hc:=(c181 hR s hl).lift (by simp [qac,qah]) ⟨0,[[]]⟩
 have hi:=qyk s
 generalize qm3 s=v at *
 refine qa2 (fn:=Tryz.f148) (s0:=⟨[0,1,4],[.str s,.str anyC,.undef],[],9,⟨0,[[]]⟩⟩) Tryz.func148 rfl rfl rfl ?_
 repeat apply wq
 refine qa0 qa1 ?_
 simp [zS]
 repeat apply wq
 refine qa0 (qbc [⟨181,_,_,_,_,hc⟩]) ?_
 simp [zS,qce]
 refine qa8 ?_
 simp [qad,Tryz.f148,oneOr,qaf,qa6]
 exact qa5 rfl (by simp [hi])
noncomputable def e148:Entry Tryz.prog:=mkE 148 [[],[]] (fun x:Str=>[.str x,.str anyC]) (fun x=>x.length≤900000) (fun x=>.bool (qpa qlt x)) fun x h=>c148 (T:=[e146]) rfl x h
theorem k148 {T:List (Entry Tryz.prog)} (hT:qai 148 T=some e148.g) {s:Str} (h1:s.length≤900000) (H:Heap):qbb (ctx T) (.fn 148) [.str s,.str anyC] H=some (.bool (qpa qlt s),H):=
 qal hT (fun x y h=>by simpa using h) s h1 rfl (by simp)
theorem valid_eq (s:Str):(Lib.validD s && !qpa qlt s)=qn3 s:=by
 have h:=qs9 s.length s (Nat.le_refl _)
 have e:qpa qlt s=true↔qzb s 0∨qzb s 13:=by
  rw [qrc]
  constructor
  ·rintro ⟨i,hi,hc⟩
   simp [qlt] at hc
   rcases hc with hc | hc
   ·exact .inl ⟨i,hi,hc⟩
   ·exact .inr ⟨i,hi,hc⟩
  ·rintro (⟨i,hi,hc⟩ | ⟨i,hi,hc⟩)
   ·exact ⟨i,hi,by simp [qlt,hc]⟩
   ·exact ⟨i,hi,by simp [qlt,hc]⟩
 unfold qn3
 rw [Bool.eq_iff_iff]
 simp only [Bool.and_eq_true,Bool.not_eq_true',decide_eq_true_eq]
 rw [h,← Bool.not_eq_true,e,not_or]
theorem c120 {T:List (Entry Tryz.prog)} (hV:qai 147 T=some e147.g) (hC:qai 148 T=some e148.g) (s:Str) (hl:s.length≤900000):CallAt (ctx T) 120 [.str s] ⟨0,[]⟩ (.bool (qn3 s)) ⟨0,[]⟩:=by
 have k1:=fun H=>k147 hV (s:=s) (by omega) H
 have k2:=fun H=>k148 hC (s:=s) hl H
 have hv:=valid_eq s
 generalize qn3 s=v at *
 rcases Bool.eq_false_or_eq_true (Lib.validD s) with h | h
 ·rw [h] at k1 hv
  refine qa2 (fn:=Tryz.f120) (s0:=⟨[0,2],[.str s,.undef],[],10,⟨0,[[]]⟩⟩) Tryz.func120 rfl rfl rfl ?_
  repeat apply wq
  refine qa0 qa1 ?_
  simp [zS]
  repeat apply wq
  refine qa0 qa1 ?_
  simp [zS,k1,k2]
  refine qa8 ?_
  simp [qad,Tryz.f120,oneOr,qaf,qa6]
  exact qa5 rfl (by simpa using hv)
 ·rw [h] at k1 hv
  refine qa2 (fn:=Tryz.f120) (s0:=⟨[0,2],[.str s,.undef],[],10,⟨0,[[]]⟩⟩) Tryz.func120 rfl rfl rfl ?_
  repeat apply wq
  refine qa0 qa1 ?_
  simp [zS]
  repeat apply wq
  refine qa0 qa1 ?_
  simp [zS,k1]
  refine qa8 ?_
  simp [qad,Tryz.f120,oneOr,qaf,qa6]
  exact qa5 rfl (by simpa using hv)
noncomputable def e120:Entry Tryz.prog:=mkE 120 [[]] (fun x:Str=>[.str x]) (fun x=>x.length≤900000) (fun x=>.bool (qn3 x)) fun x h=>c120 (T:=[e147,e148]) rfl rfl x h
theorem k120 {T:List (Entry Tryz.prog)} (hT:qai 120 T=some e120.g) {s:Str} (h1:s.length≤900000) (H:Heap):qbb (ctx T) (.fn 120) [.str s] H=some (.bool (qn3 s),H):=
 qal hT inj_str s h1 rfl (by simp)
end Go.Proofs.YtocnpnnplllneaaGreatDoor