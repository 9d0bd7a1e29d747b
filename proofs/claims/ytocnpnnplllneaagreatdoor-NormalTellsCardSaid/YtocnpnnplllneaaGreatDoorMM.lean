/- strings.ContainsAny of "\\x00\\r"; utf.Valid. No condition. -/
import Derived.Test.YtocnpnnplllneaaGreatDoorML
import Derived.Lib.ValidLaws
import Derived.Lib.TrimUEq
import Derived.Shelf.Unicode.ValidAny
import Derived.Lib.Bytealg
import Derived.Shelf.Strings.IndexAnyAll
namespace Go.Proofs.YtocnpnnplllneaaGreatDoor
noncomputable section
set_option linter.unusedSimpArgs false
set_option linter.unusedVariables false
open Go Go.RowKit
set_option maxRecDepth 100000
theorem zc5{T:List (Entry PG)} {f:FuncId} (h:qxs (qqw (ctx T) 100000 (.fn f) [] zH)=true):CA T f [] zH (.bool true) zH:=by
 revert h;cases hr:qqw (ctx T) 100000 (.fn f) [] zH with
 |none=>intro h;cases h
 |some r=>
  obtain⟨v,H'⟩:=r;intro h;cases v<;>simp only[qxs]at h<;>first|(cases h;done)|skip
  subst h;exact((qyc mixed (qzm _ _ _) 100000).fn f [] zH _ _ hr).freeze (Φ:=[]) (by simp[qas,qab]) FitH.empty
def noneL:List AV->Bool
 |[]=>true
 |_::_=>false
mutual
def qmr(Φ:List (Nat × List AV)):AV->AV->Bool
 |.slc b o len cap,v'=>match v' with
  |.undef=>true
  |.fslc sz es=>(match qca b Φ with
   |some cs=>(match qex o (len * sz) cs with
    |some x=>AV.beqL x (qa6 es) && Nat.beq es.length len && qem sz es
    |none=>false)
   |none=>false) || (Nat.beq len 0 && noneL es)
  |_=>false
 |.ptr b o,v'=>match v' with
  |.undef=>true
  |.fptr cs o'=>(match qca b Φ with
   |some c=>AV.beqL c cs
   |none=>false) && Nat.beq o' o
  |_=>false
 |.nilS,v'=>match v' with
  |.undef=>true
  |.nilS=>true
  |.fslc _ es=>noneL es
  |_=>false
 |.fslc sz es,v'=>match v' with
  |.undef=>true
  |.fslc sz' es'=>Nat.beq sz sz' && AV.beqL es es'
  |_=>false
 |.agg cs,v'=>match v' with
  |.undef=>true
  |.agg cs'=>qwg Φ cs cs'
  |_=>false
 |.tup cs,v'=>match v' with
  |.undef=>true
  |.tup cs'=>qwg Φ cs cs'
  |_=>false
 |.int k n,v'=>match v' with
  |.undef=>true
  |.int k' n'=>decide (k'=k) && decide (n'=n)
  |_=>false
 |.str s,v'=>match v' with
  |.undef=>true
  |.str s'=>eqN s' s
  |_=>false
 |.bool s,v'=>match v' with
  |.undef=>true
  |.bool s'=>s' == s
  |_=>false
 |_,v'=>match v' with
  |.undef=>true
  |_=>false
def qwg(Φ:List (Nat × List AV)):List AV->List AV->Bool
 |[],l'=>noneL l'
 |a::r,l'=>match l' with
  |[]=>false
  |a'::r'=>qmr Φ a a' && qwg Φ r r'
end
theorem qtf{l:List AV} (h:noneL l=true):l=[]:=by cases l<;>first|rfl|cases h
mutual
theorem za7{Φ:List (Nat × List AV)}:∀{v v':AV},qmr Φ v v'=true->qas [] Φ v v':=by
 intro v v' h;cases v with
 |slc b o len cap=>
  unfold qmr at h;unfold qas;cases v'<;>simp only[Bool.false_eq_true]at h ⊢;rename_i sz es;simp only[Bool.or_eq_true,Bool.and_eq_true]at h;rcases h with h|h
  ·left;cases hl:qca b Φ with
   |none=>rw[hl]at h;cases h
   |some cs=>
    rw[hl]at h;simp only at h;cases hs:qex o (len * sz) cs with
    |none=>rw[hs]at h;cases h
    |some x=>rw[hs]at h;simp only[Bool.and_eq_true]at h;exact⟨cs,rfl,by rw[hs,AV.eqL_of_beq _ _ h.1.1],Nat.eq_of_beq_eq_true h.1.2,h.2⟩
  ·exact .inr ⟨Nat.eq_of_beq_eq_true h.1,qtf h.2⟩
 |fslc sz es=>
  cases v' with
  |undef=>simp[qas]
  |fslc sz' es'=>unfold qmr at h;simp only[Bool.and_eq_true]at h;have h1:=Nat.eq_of_beq_eq_true h.1;have h2:=AV.eqL_of_beq _ _ h.2;subst h1;subst h2;exact qb5 rfl
  |_=>simp[qmr]at h
 |ptr b o=>
  unfold qmr at h;unfold qas;cases v'<;>simp only[Bool.false_eq_true]at h ⊢;simp only[Bool.and_eq_true]at h;cases hl:qca b Φ with
  |none=>rw[hl]at h;cases h.1
  |some cs=>rw[hl]at h;exact⟨by rw[AV.eqL_of_beq _ _ h.1],Nat.eq_of_beq_eq_true h.2⟩
 |nilS=>unfold qmr at h;unfold qas;cases v'<;>simp only[Bool.false_eq_true]at h ⊢;exact qtf h
 |agg cs=>unfold qmr at h;unfold qas;cases v'<;>simp only[Bool.false_eq_true]at h ⊢;exact .inl (qms h)
 |tup cs=>unfold qmr at h;unfold qas;cases v'<;>simp only[Bool.false_eq_true]at h ⊢;exact .inl (qms h)
 |int k n=>
  unfold qmr at h;unfold qas;cases v'<;>simp only[Bool.false_eq_true]at h ⊢
  ·simp
  ·simp only[Bool.and_eq_true,decide_eq_true_eq]at h;obtain⟨rfl,rfl⟩:=h;exact .inr ⟨rfl,rfl⟩
 |str s=>
  unfold qmr at h;unfold qas;cases v'<;>simp only[Bool.false_eq_true]at h ⊢
  ·simp
  ·rw[eqN_eq,decide_eq_true_eq]at h;subst h;exact .inr ⟨rfl,rfl⟩
 |bool s=>
  unfold qmr at h;unfold qas;cases v'<;>simp only[Bool.false_eq_true]at h ⊢
  ·simp
  ·simp only[beq_iff_eq]at h;subst h;exact .inr ⟨rfl,rfl⟩
 |_=>unfold qmr at h;cases v'<;>simp only[Bool.false_eq_true]at h;simp[qas]
theorem qms{Φ:List (Nat × List AV)}:∀{l l':List AV},qwg Φ l l'=true->qax [] Φ l l':=by
 intro l l' h;cases l with
 |nil=>unfold qwg at h;unfold qax;exact qtf h
 |cons a r=>
  unfold qwg at h;unfold qax;cases l' with
  |nil=>cases h
  |cons a' r'=>simp only[Bool.and_eq_true]at h;exact⟨za7 h.1,qms h.2⟩
end
def undefL:Nat->List AV->List AV
 |0,_=>[]
 |_+1,[]=>[]
 |n+1,_::r=>.undef::undefL n r
def undefA:List AV->List AV
 |[]=>[]
 |_::r=>.undef::undefA r
def qrx:List AV->List AV->List (AV × AV)->List (AV × AV)
 |a::r,b::s,acc=>(a,b)::qrx r s acc
 |_,_,acc=>acc
def zgd(H:Heap):Nat->List (AV × AV)->List (Nat × List AV)->Option (List (Nat × List AV))
 |0,_,_=>none
 |n+1,todo,Φ=>match todo with
  |[]=>some Φ
  |x::r=>match x.1,x.2 with
   |.agg xs,.agg ys=>zgd H n (qrx xs ys r) Φ
   |.tup xs,.tup ys=>zgd H n (qrx xs ys r) Φ
   |.slc b o len _,.fslc sz es=>match len with
    |0=>zgd H n r Φ
    |Nat.succ _=>match qca b Φ with
     |some _=>zgd H n r Φ
     |none=>match H.get b with
      |some (.cells cs)=>zgd H n (qrx (cs.drop o) (qa6 es) r) ((b,undefL o cs++qa6 es++undefA (cs.drop (o+len * sz)))::Φ)
      |_=>none
   |.ptr b _,.fptr ys _=>match qca b Φ with
    |some _=>zgd H n r Φ
    |none=>match H.get b with
     |some (.cells cs)=>zgd H n (qrx cs ys r) ((b,ys)::Φ)
     |_=>none
   |_,_=>zgd H n r Φ
def qvm:List Nat->Bool
 |[]=>true
 |x::r=>match memT x r with
  |true=>false
  |false=>qvm r
theorem qzo{n:Nat}:∀{l:List Nat},memT n l=false->n ∉ l
 |[],_=>by simp
 |m::r,h=>by
  unfold memT at h;split at h
  ·cases h
  next hb=>have:n≠m:=fun e=>(by rw[e,Nat.beq_refl]at hb;cases hb);simp[this,qzo h]
theorem qpw:∀{l:List Nat},qvm l=true->l.Nodup
 |[],_=>List.nodup_nil
 |x::r,h=>by
  unfold qvm at h;split at h
  ·cases h
  next hm=>exact List.nodup_cons.2 ⟨qzo hm,qpw h⟩
def zfj(H:Heap) (Φ:List (Nat × List AV)):List (Nat × List AV)->Bool
 |[]=>true
 |x::r=>(match H.get x.1 with
  |some (.cells cs)=>qwg Φ cs x.2 && qa9 x.2
  |_=>false) && zfj H Φ r
theorem qts{H:Heap} {Φ:List (Nat × List AV)}:∀{l:List (Nat × List AV)},zfj H Φ l=true->∀x,x∈l->∃cs,H.get x.1=some (.cells cs)/\qax [] Φ cs x.2/\qa9 x.2=true
 |[],_,x,hx=>by cases hx
 |y::r,h,x,hx=>by
  unfold zfj at h;simp only[Bool.and_eq_true]at h;rcases List.mem_cons.1 hx with rfl|hx
  ·have h1:=h.1;split at h1
   next cs hg=>simp only[Bool.and_eq_true]at h1;exact⟨cs,hg,qms h1.1,h1.2⟩
   ·cases h1
  ·exact qts h.2 x hx
def litOK(lit:AV):Option (AV × Heap)->Bool
 |some (v,H)=>match zgd H 100000 [(v,lit)] []with
  |some Φ=>qvm (Φ.map (·.1)) && zfj H Φ Φ && qmr Φ v lit
  |none=>false
 |none=>false
theorem qwq{T:List (Entry PG)} {f:FuncId} {args:List AV} {lit:AV} (h:litOK lit (qqw (ctx T) 100000 (.fn f) args zH)=true):CA T f args zH lit zH:=by
 revert h;cases hr:qqw (ctx T) 100000 (.fn f) args zH with
 |none=>intro h;cases h
 |some r=>
  obtain⟨v,H'⟩:=r;intro h;unfold litOK at h;simp only at h;cases hc:zgd H' 100000 [(v,lit)] []with
  |none=>rw[hc]at h;cases h
  |some Φ=>rw[hc]at h;simp only[Bool.and_eq_true]at h;exact((qyc mixed (qzm _ _ _) 100000).fn f args zH _ _ hr).freeze (za7 h.2) (FitH.froze (qpw h.1.1) (qts h.1.2))
abbrev enc3:Str:=[239,191,189]
theorem enc_lit:litOK (.str enc3) (qqw (ctx []) 100000 (.fn 98) [.int .i64 65533] zH)=true:=by decide +kernel
def e98:Entry PG:=mkE 98 [[]] (fun _:Unit=>[.int .i64 65533]) (fun _=>True) (fun _=>.str enc3) fun _ _=>qwq (T:=[]) enc_lit
theorem k98{T:List (Entry PG)} (hT:qIn 98 T e98) (H:Heap):qb6 (ctx T) (.fn 98) [.int .i64 65533] H=some (.str enc3,H):=
 qac hT (fun _ _ _=>rfl) () trivial rfl (by simp)
theorem qzk(s:Str):∀k i lo hi,1<=i->i<=s.length->i<=(qkv s k i lo hi).1/\(qkv s k i lo hi).1<=s.length
 |0,i,_,_,h1,h2=>⟨Nat.le_refl _,h2⟩
 |k+1,i,lo,hi,h1,h2=>by
  unfold qkv;split
  next hc=>simp only[ql1,Bool.and_eq_true,decide_eq_true_eq]at hc;obtain⟨a,b⟩:=qzk s k (i+1) 128 191 (by omega) (by omega);exact⟨by omega,b⟩
  ·exact⟨Nat.le_refl _,h2⟩
theorem qn8{s:Str} (h:0 < s.length):1<=(qej s).1/\(qej s).1<=s.length:=by
 unfold qej;split
 ·exact⟨Nat.le_refl _,h⟩
 ·split
  ·exact⟨Nat.le_refl _,h⟩
  ·exact qzk s _ 1 _ _ (Nat.le_refl _) h
def qc2(s:Str):Str × Nat:=if (qej s).2=false\/cN s 0=0 then (enc3,(qej s).1) else if cN s 0=13 then ([10],if 1 < s.length/\cN s 1=10 then 2 else (qej s).1) else (s.take (qej s).1,(qej s).1)
def qj2:Nat->Str->Str
 |0,_=>[]
 |k+1,s=>if s=[] then [] else (qc2 s).1++qj2 k (s.drop (qc2 s).2)
def qgu(s:Str):Str:=qj2 s.length s
theorem qka{s:Str} {i j:Nat}:cN (s.drop i) j=cN s (i+j):=by unfold cN;simp[List.getD_eq_getElem?_getD,List.getElem?_drop]
theorem c60{T:List (Entry PG)} (hO:qIn 97 T e97) (hE:qIn 98 T e98) (s:Str) (hl:s.length<=1000000):CA T 60 [aB s] zH (.str (qgu s)) zH:=by
 have ke:=fun H=>k98 hE H;refine qa0 (s0:=⟨[0,2,3,4,5,6],[aB s,uD,uD,uD,uD,uD],[],64,⟨0,[[]]⟩⟩) Tryz.func60 rfl rfl rfl ?_;apply ra;simp[zS];apply ra;simp[zS];apply ra;simp[zS];refine qa7 (qb1 (fun x:Nat × Str × Nat=>(⟨[0,2,3,4,5,6],[aB s,.str [],gV 0 x.2.1,.int .i64 (x.2.2:Nat),uD,uD],[],64,⟨1,[gF 0 x.2.1]⟩⟩ : St))
  (fun x=>x.2.2<=s.length/\s.length<=x.2.2+x.1/\x.2.1++qj2 x.1 (s.drop x.2.2)=qgu s/\x.2.1.length<=3 * x.2.2) (fun x=>x.1) [] [] (s.length,[],0) ⟨Nat.zero_le _,by simp,by simp[qgu],by simp⟩
  ⟨rfl,rfl,rfl,by simp[qax,qas,qab,aB,gV],.keep0 (by simp[gF])⟩ ?_)
 rintro⟨k,out,i⟩ ⟨hi,hk,hd,hol⟩ B hB;simp only at hi hk hd hol hB;by_cases h:i < s.length
 ·obtain⟨k,rfl⟩ : ∃k',k=k'+1:=⟨k - 1,by omega⟩;have hx:(i:Int) < (s.length:Int):=by omega
  have hdl:0 < (s.drop i).length:=by rw[List.length_drop];omega
  have ko:=fun H=>k97 hO (s:=s.drop i) hdl (by rw[List.length_drop];omega) H;have hsl:=fun H=>slB (H:=H) (s:=s) (i:=i) (by omega);have hat:=atB h;rw[qk9 h]at hat;obtain⟨n1,n2⟩:=qn8 hdl;have hstep:qj2 (k+1) (s.drop i)=(qc2 (s.drop i)).1++qj2 k ((s.drop i).drop (qc2 (s.drop i)).2):=by have:¬ s.drop i=[]:=fun e=>(by rw[e]at hdl;simp at hdl);simp only[qj2,if_neg this]
  rw[hstep]at hd;have hc0:cN (s.drop i) 0=cN s i:=by rw[qka,Nat.add_zero]
  have hc1:cN (s.drop i) 1=cN s (i+1):=qka;have hds:qc2 (s.drop i)=if (qej (s.drop i)).2=false\/cN s i=0 then (enc3,(qej (s.drop i)).1) else if cN s i=13 then ([10],if 1 < (s.drop i).length/\cN s (i+1)=10 then 2 else (qej (s.drop i)).1) else ((s.drop i).take (qej (s.drop i)).1,(qej (s.drop i)).1):=by unfold qc2;rw[hc0,hc1]
  rw[List.length_drop]at n2 hds;generalize hone:qej (s.drop i)=o at *;obtain⟨n,ok⟩:=o;simp only[oneA]at ko n1 n2 hds;obtain⟨c,hc⟩ : ∃c,c=cN s i:=⟨_,rfl⟩;rw[<- hc]at hat hds;have hadd:∀j:Nat,j<=1000000->wr .i64 ((i:Int)+(j:Int))=some ((i+j:Nat):Int):=fun j hj=>by rw[qdr (by omega) (by omega)];simp
  have put:∀(t:Str) (m j:Nat) (g:List (Nat × Blk)) (v5 v6:AV) (L m':Nat) (J:Int) (ts:List (Nat × AV)),L=t.length->J=j->0 < t.length->t.length<=3 * j->1<=j->i+j<=s.length->qc2 (s.drop i)=(t,j) ->
    B { (⟨[0,2,3,4,5,6],[aB s,.str [],.slc m 0 (out.length+L) (.rest 1),.int .i64 ((i:Int)+J),v5,v6],[],64,⟨m',[(m,.buf 5 0 (qad (out++t)))::g]⟩⟩ : St)with ts:=ts }:=fun t m j g v5 v6 L m' J ts hL hJ ht htl hj hij hst=>by
   subst hL;subst hJ;have hne:out++t≠[]:=fun e=>(by have:=congrArg List.length e;simp at this;rw[this.2]at ht;simp at ht);refine hB _ (k,out++t,i+j) (by simp only;omega) ⟨by simp only;omega,by simp only;omega,?_,by simp only[List.length_append];omega⟩ ⟨[(m,0)],[],rfl,rfl,rfl,?_,fit_g (b:=m) hne (by simp[zG])⟩
   ·simp only;rw[<- hd,hst,List.append_assoc,List.drop_drop]
   ·have:=fitV_g (σ:=[(m,0)]) (Φ:=[]) (b:=m) (s:=out++t) (by simp[qb2]) hne;rw[List.length_append]at this;simp[qax,qab,aB,this];exact⟨qb5 rfl,qb5 rfl,qb5 rfl⟩
  apply ra;simp[zS,qre,hx,h];apply qai rfl;apply qa4;simp;apply qa7;apply ra;simp[zS,hsl,ko];have bad:∀{Q:Out->St->Prop},True:=fun {_}=>trivial;by_cases hb:ok=false\/c=0
  ·have hst:qc2 (s.drop i)=(enc3,n):=(by rw[hds,if_pos hb]);have happ:=app_g (m:=1) (s:=out) (t:=enc3) (x:=.str enc3) (g:=[]) rfl rfl rfl (by decide) (by simp;omega);simp only[List.nil_append]at happ;have hfin:=fun ts=>put enc3 1 n [] (.int .i64 (n:Int)) (.bool ok) 3 2 n ts rfl rfl (by decide) (by simp;omega) n1 (by omega) hst;cases ok with
   |false=>apply ra;simp[zS];apply qai rfl;apply ra;simp[zS,ke,happ];apply ra;simp[zS,hadd n (by omega)];exact hfin _
   |true=>have hc00:c=0:=(by simpa using hb);subst hc00;apply ra;simp[zS,hat];apply qai rfl;apply ra;simp[zS,ke,happ];apply ra;simp[zS,hadd n (by omega)];exact hfin _
  ·have hok:ok=true:=(by cases ok<;>simp at hb ⊢);subst hok;have hcn:¬ c=0:=fun e=>hb (.inr e);have hcn':¬ (c:Int)=0:=(by omega);apply ra;simp[zS,hat,hcn,hcn'];apply qag rfl;rw[if_neg hb]at hds;by_cases h13:c=13
   ·have h13':(c:Int)=13:=(by omega);rw[if_pos h13]at hds;apply ra;simp[zS,hat,h13'];apply qai rfl;have happ:=app_g (m:=2) (s:=out) (t:=[10]) (x:=.slc 1 0 1 (.ex 1)) (g:=[(1,.cells [.int .u8 10])]) rfl (by simp[qba,readCells,zG,qad]) (by simp[getF]) (by decide) (by simp;omega);simp only[List.cons_append,List.nil_append]at happ;apply ra;simp[zS,happ];obtain⟨i1,hi1⟩ : ∃i1,i1=i+1:=⟨_,rfl⟩;have ha1:wr .i64 ((i:Int)+1)=some ((i1:Nat):Int):=(by rw[hi1];exact qbb (by omega));rw[<- hi1]at hds;by_cases q1:i1 < s.length
    ·have q1':(i1:Int) < (s.length:Int):=(by omega);have hat1:=atB q1;rw[qk9 q1]at hat1;obtain⟨d,hd1⟩ : ∃d,d=cN s i1:=⟨_,rfl⟩;rw[<- hd1]at hat1 hds;by_cases q2:d=10
     ·have q2':(d:Int)=10:=(by omega);rw[if_pos ⟨by omega,q2⟩]at hds;apply ra;simp[zS,ha1,qre,q1,q1',hat1,q2'];apply qai rfl;apply ra;simp[zS];have h2:wr .i64 ((i:Int)+2)=some ((i:Int)+2):=qdr (by omega) (by omega);apply ra;simp[zS,h2];exact put [10] 2 2 _ (.int .i64 2) _ 1 3 2 _ rfl rfl (by decide) (by simp) (by omega) (by omega) hds
     ·have q2':¬ (d:Int)=10:=(by omega);rw[if_neg (fun e=>q2 e.2)]at hds;apply ra;simp[zS,ha1,qre,q1,q1',hat1,q2'];apply qag rfl;apply qa4;simp;apply ra;simp[zS,hadd n (by omega)];exact put [10] 2 n _ (.int .i64 (n:Int)) _ 1 3 n _ rfl rfl (by decide) (by simp;omega) n1 (by omega) hds
    ·have q1':¬ (i1:Int) < (s.length:Int):=(by omega);rw[if_neg (fun e=>q1 (by omega))]at hds;apply ra;simp[zS,ha1,qre,q1,q1'];apply qag rfl;apply qa4;simp;apply ra;simp[zS,hadd n (by omega)];exact put [10] 2 n _ (.int .i64 (n:Int)) _ 1 3 n _ rfl rfl (by decide) (by simp;omega) n1 (by omega) hds
   ·have h13':¬ (c:Int)=13:=(by omega);rw[if_neg h13]at hds;have hsl2:=fun H=>slB2 (H:=H) (s:=s) (i:=i) (j:=i+n) (by omega) (by omega);have htk:(s.take (i+n)).drop i=(s.drop i).take n:=(by rw[List.drop_take];congr 1;omega);have htl:((s.drop i).take n).length=n:=(by simp;omega);have happ:=app_g (m:=1) (s:=out) (t:=(s.drop i).take n) (x:=aB ((s.drop i).take n)) (g:=[]) (by simp[aB,qc9,qj6]) (by have:=qkp ((s.drop i).take n);simp only[aB,qba,Nat.beq_refl];rw[List.take_of_length_le (by rw[qj6];omega),this]) rfl (by omega) (by omega);simp only[List.nil_append]at happ;simp only[htk,Int.natCast_add]at hsl2;have hfin:=fun ts=>put ((s.drop i).take n) 1 n [] (.int .i64 (n:Int)) (.bool true) _ 2 n ts rfl rfl (by omega) (by omega) n1 (by omega) hds;apply ra;simp[zS,hat,h13'];apply qag rfl;have ha:=hadd n (by omega);generalize (s.drop i).take n=t at *;apply ra;simp[zS,ha,hsl2,happ];apply ra;simp[zS,ha];exact hfin _
 ·have hx:¬ (i:Int) < (s.length:Int):=by omega
  have hie:i=s.length:=by omega
  subst hie;have hnil:qj2 k (s.drop s.length)=[]:=by rw[List.drop_length];cases k<;>simp[qj2]
  rw[hnil,List.append_nil]at hd;subst hd;apply ra;simp[zS,qre];refine qag (by simp[qbp,St.get]) ?_;apply qar;simp;apply ra;simp[zS,conv_g];apply qa5;simp[zQ,Tryz.f60];exact qa2 rfl (by rfl)
def e60:Entry PG:=mkE 60 [[1]] (fun x:Str=>[aB x]) (fun x=>x.length<=1000000) (fun x=>.str (qgu x)) fun x h=>c60 (T:=[e97,e98]) rfl rfl x h
theorem k60{T:List (Entry PG)} (hT:qIn 60 T e60) {s:Str} (hl:s.length<=1000000) {cap:Cap} {b:Nat} (H:Heap) (hb:H.get b=some (.cells (qad s))):qb6 (ctx T) (.fn 60) [.slc b 0 s.length cap] H=some (.str (qgu s),H):=by refine qac hT qw1 s hl rfl ?_;have:=qp7 (r:=[]) (cap:=cap) (zac s) (by rw[qkp];exact hb);rw[qj6]at this;simp[this,aB]
def ql4(s:Str):Bool:=decide (qgu s=s)
theorem c109{T:List (Entry PG)} (hD:qIn 60 T e60) (s:Str) (hl:s.length<=1000000):CA T 109 [.str s] zH (.bool (ql4 s)) zH:=by have hk:=k60 hD (s:=s) hl (cap:=.rest 1) (b:=0) (qeo 1 s) (by simp[qeo,zG]);refine qa0 (s0:=⟨[0,2],[.str s,uD],[],8,⟨0,[[]]⟩⟩) Tryz.func109 rfl rfl rfl ?_;apply ra;simp[zS];apply ra;simp[zS,conv1 hl,hk];apply qa5;simp[zQ,Tryz.f109];exact qa2 rfl (by rfl)
def e109:Entry PG:=mkE 109 [[]] (fun x:Str=>[.str x]) (fun x=>x.length<=1000000) (fun x=>.bool (ql4 x)) fun x h=>c109 (T:=[e60]) rfl x h
theorem k109{T:List (Entry PG)} (hT:qIn 109 T e109) {s:Str} (hl:s.length<=1000000) (H:Heap):qb6 (ctx T) (.fn 109) [.str s] H=some (.bool (ql4 s),H):=
 qac hT qxt s hl rfl (by simp)
def qul(n b0 b1 b2 b3:Nat):Nat × Bool:=
 if b0 < 128 then (1,true) else if qdi b0=0 then (1,false)
 else if ¬ (1 < n/\loN b0<=b1/\b1<=hiN b0) then (1,false) else if qdi b0=1 then (2,true)
 else if ¬ (2 < n/\128<=b2/\b2<=191) then (2,false) else if qdi b0=2 then (3,true)
 else if ¬ (3 < n/\128<=b3/\b3<=191) then (3,false) else (4,true)
theorem qvl(s:Str):qej s=qul s.length (cN s 0) (cN s 1) (cN s 2) (cN s 3):=by
 unfold qej qul;generalize cN s 0=c;have h3:=qth c;have hc:∀i lo hi,(ql1 s i lo hi=true)=(i < s.length/\lo<=cN s i/\cN s i<=hi):=fun i lo hi=>by simp[ql1]
 obtain h|h|h|h:qdi c=0\/qdi c=1\/qdi c=2\/qdi c=3:=by omega
 all_goals
  simp only[h,qkv,hc,ite_not,Nat.reduceEqDiff,if_true,if_false,Nat.reduceAdd];try (repeat' split)<;>first|rfl|(exfalso;omega)
set_option maxHeartbeats 1000000 in
theorem qs0(n b0 b1 b2 b3:Nat) (hn:1<=n) (h0:b0 < 256) (h1:b1 < 256) (h2:b2 < 256) (h3:b3 < 256) :
  ((qul n b0 b1 b2 b3).2=false/\Lib.decodeN n b0 b1 b2 b3=(65533,1))\/((qul n b0 b1 b2 b3).2=true/\(Lib.decodeN n b0 b1 b2 b3).2=(qul n b0 b1 b2 b3).1/\¬ ((Lib.decodeN n b0 b1 b2 b3).1=65533/\(Lib.decodeN n b0 b1 b2 b3).2=1)):=by
 by_cases ha:b0 < 128
 ·exact .inr ⟨by simp[qul,ha],by simp[qul,Lib.decodeN,ha],by simp[Lib.decodeN,ha];omega⟩
 rcases Lib.check_decode n b0 b1 b2 b3 hn (by omega) h0 h1 h2 h3 with⟨g1,g2⟩|⟨k,hk,g1,g2⟩;all_goals
  have cls:b0 < 194\/(194<=b0/\b0 < 224)\/b0=224\/(225<=b0/\b0 < 237)\/b0=237\/(238<=b0/\b0 < 240)\/b0=240\/(241<=b0/\b0 < 244)\/b0=244\/245<=b0:=by omega
  have F:∀m l h x y z,qdi b0=m->loN b0=l->hiN b0=h->Lib.firstT b0 % 8=x->Lib.accLo (Lib.firstT b0 / 16)=y->Lib.accHi (Lib.firstT b0 / 16)=z->(m=0/\4 < x\/m=0/\x < 2\/x=m+1/\1<=m/\m<=3/\y=l/\z=h) ->
    ((qul n b0 b1 b2 b3).2=false/\Lib.checkN n b1 b2 b3 x y z=none)\/((qul n b0 b1 b2 b3).2=true/\Lib.checkN n b1 b2 b3 x y z=some (qul n b0 b1 b2 b3).1):=by
   intro m l h x y z e1 e2 e3 _ _ _ hh;simp only[qul,ha,if_false,e1,e2,e3,Lib.checkN,ite_not];rcases hh with⟨rfl,hx⟩|⟨rfl,hx⟩|⟨rfl,hm1,hm2,rfl,rfl⟩
   ·left;simp only[if_true];refine⟨trivial,?_⟩;rw[if_neg (by omega),if_neg (by omega),if_neg (by omega)]
   ·left;simp only[if_true];refine⟨trivial,?_⟩;rw[if_neg (by omega),if_neg (by omega),if_neg (by omega)]
   ·obtain rfl|rfl|rfl:m=1\/m=2\/m=3:=(by omega);all_goals
     simp only[Nat.reduceEqDiff,if_false,if_true,Nat.reduceAdd]
     (repeat' split)<;>first|(exfalso;omega)|(left;exact⟨rfl,rfl⟩)|(right;exact⟨rfl,rfl⟩)
  have G:((qul n b0 b1 b2 b3).2=false/\Lib.checkN n b1 b2 b3 (Lib.firstT b0 % 8) (Lib.accLo (Lib.firstT b0 / 16)) (Lib.accHi (Lib.firstT b0 / 16))=none)\/((qul n b0 b1 b2 b3).2=true/\Lib.checkN n b1 b2 b3 (Lib.firstT b0 % 8) (Lib.accLo (Lib.firstT b0 / 16)) (Lib.accHi (Lib.firstT b0 / 16))=some (qul n b0 b1 b2 b3).1):=by refine F _ _ _ _ _ _ rfl rfl rfl rfl rfl rfl ?_;have k1:∀c:Fin 256,128<=c.val->(qdi c.val=0/\4 < Lib.firstT c.val % 8\/qdi c.val=0/\Lib.firstT c.val % 8 < 2\/Lib.firstT c.val % 8=qdi c.val+1/\1<=qdi c.val/\qdi c.val<=3/\Lib.accLo (Lib.firstT c.val / 16)=loN c.val/\Lib.accHi (Lib.firstT c.val / 16)=hiN c.val):=(by decide +kernel);exact k1 ⟨b0,h0⟩ (by simp only;omega)
  rcases G with⟨G1,G2⟩|⟨G1,G2⟩
 ·exact .inl ⟨G1,g2⟩
 ·rw[g1]at G2;cases G2
 ·rw[g1]at G2;cases G2
 ·rw[g1]at G2;simp only[sj]at G2;exact .inr ⟨G1,by rw[g2,G2],by omega⟩
theorem ze8(s:Str) (h:0 < s.length):((qej s).2=false/\Lib.decodeL s=(65533,1))\/((qej s).2=true/\(Lib.decodeL s).2=(qej s).1/\¬ ((Lib.decodeL s).1=65533/\(Lib.decodeL s).2=1)):=by rw[qvl,Lib.decodeL_N];exact qs0 _ _ _ _ _ (by omega) (UInt8.toNat_lt _) (UInt8.toNat_lt _) (UInt8.toNat_lt _) (UInt8.toNat_lt _)
theorem qzj{s:Str} (h:(qej s).2=true):cN s 0 < 128/\(qej s).1=1\/128<=cN s 0/\2<=(qej s).1/\(qej s).1<=s.length/\∀k,k < (qej s).1->128<=cN s k:=by
 rw[qvl]at h ⊢;unfold qul at h ⊢;by_cases ha:cN s 0 < 128
 ·left;simp[ha]
 right;simp only[ha,if_false]at h ⊢;split at h
 ·cases h
 rename_i hm;rw[if_neg hm];have hlo:128<=loN (cN s 0):=by unfold loN;(repeat' split)<;>omega
 split at h
 ·cases h
 rename_i g1;rw[if_neg g1];simp only[Decidable.not_not]at g1;have k4:∀m k,k < m->m<=4->k=0\/k=1\/(2 < m/\k=2)\/(3 < m/\k=3):=fun m k h1 h2=>by omega
 split at h
 next m1=>rw[if_pos m1];refine⟨by omega,by simp,by simp;omega,fun k hk=>?_⟩;rcases k4 2 k hk (by omega)with rfl|rfl|h|h<;>omega
 rename_i m1;rw[if_neg m1];split at h
 ·cases h
 rename_i g2;rw[if_neg g2];simp only[Decidable.not_not]at g2;split at h
 ·rename_i m2;rw[if_pos m2];refine⟨by omega,by simp,by simp;omega,fun k hk=>?_⟩;rcases k4 3 k hk (by omega)with rfl|rfl|h|h
  ·omega
  ·omega
  ·rw[h.2];omega
  ·omega
 rename_i m2;rw[if_neg m2];split at h
 ·cases h
 rename_i g3;rw[if_neg g3];simp only[Decidable.not_not]at g3;refine⟨by omega,by simp,by simp;omega,fun k hk=>?_⟩;rcases k4 4 k hk (by omega)with rfl|rfl|h|h
 ·omega
 ·omega
 ·rw[h.2];omega
 ·rw[h.2];omega
theorem mem_cN{s:Str} {c:UInt8} (h:c∈s):∃i,i < s.length/\cN s i=c.toNat:=by obtain⟨i,hi,rfl⟩:=List.getElem_of_mem h;exact⟨i,hi,(qk9 hi).symm⟩
theorem cN_mem{s:Str} {i:Nat} (h:i < s.length):∃c,c∈s/\c.toNat=cN s i:=⟨s[i],List.getElem_mem h,qk9 h⟩
theorem qzp{s:Str} (n:Nat) (h:∀k,k < n->128<=cN s k) {m:Nat} (hm:m < 128):(∃i,i < s.length/\cN s i=m)↔∃i,i < (s.drop n).length/\cN (s.drop n) i=m:=by
 constructor
 ·rintro⟨i,hi,hc⟩;have:n<=i:=by apply Decidable.byContradiction;intro hn;have:=h i (by omega);omega
  exact⟨i - n,by rw[List.length_drop];omega,by rw[qka,show n+(i - n)=i by omega];exact hc⟩
 ·rintro⟨i,hi,hc⟩;rw[List.length_drop]at hi;exact⟨n+i,by omega,by rw[<- qka];exact hc⟩
def zcj(s:Str) (m:Nat):Prop:=∃i,i < s.length/\cN s i=m
theorem qzy{s:Str} (h:0 < s.length) {m:Nat}:zcj s m↔cN s 0=m\/zcj (s.drop 1) m:=by
 constructor
 ·rintro⟨i,hi,hc⟩;cases i with
  |zero=>exact .inl hc
  |succ i=>exact .inr ⟨i,by rw[List.length_drop];omega,by rw[qka,Nat.add_comm];exact hc⟩
 ·rintro(hc|⟨i,hi,hc⟩)
  ·exact⟨0,h,hc⟩
  ·rw[List.length_drop]at hi;exact⟨1+i,by omega,by rw[<- qka];exact hc⟩
theorem bad_enc{s:Str} (h:s=enc3++s.drop 3) (h3:3<=s.length):(qej s).2=true:=by
 have e:∀i,i < 3->cN s i=cN enc3 i:=fun i hi=>by rw[h];unfold cN;simp only[List.getD_eq_getElem?_getD];rw[List.getElem?_append_left (by simpa using hi)]
 have c0:=e 0 (by omega);have c1:=e 1 (by omega);have c2:=e 2 (by omega);rw[qvl,c0,c1,c2];have:qul s.length (cN enc3 0) (cN enc3 1) (cN enc3 2) (cN s 3)=(3,true):=by
  have a0:cN enc3 0=239:=by decide
  have a1:cN enc3 1=191:=by decide
  have a2:cN enc3 2=189:=by decide
  have m:qdi 239=2:=by decide
  have l:loN 239=128:=by decide
  have hh:hiN 239=191:=by decide
  unfold qul;rw[a0,a1,a2,m,l,hh,if_neg (by omega),if_neg (by omega),if_neg (by omega),if_neg (by omega),if_neg (by omega),if_pos rfl]
 rw[this]
theorem qu5:∀(k m:Nat) (s:Str),s.length<=k->s.length<=m->qj2 k s=qj2 m s
 |0,m,s,h,_=>by have:s=[]:=List.eq_nil_of_length_eq_zero (by omega);subst this;cases m<;>simp[qj2]
 |k+1,0,s,_,h=>by have:s=[]:=List.eq_nil_of_length_eq_zero (by omega);subst this;simp[qj2]
 |k+1,m+1,s,h1,h2=>by
  unfold qj2;by_cases hs:s=[]
  ·simp[hs]
  ·rw[if_neg hs,if_neg hs];have hl:0 < s.length:=List.length_pos_iff.2 hs;have hj:1<=(qc2 s).2:=by
    have:=(qn8 hl).1;unfold qc2
    (repeat' split)<;>simp only<;>omega
   rw[qu5 k m (s.drop (qc2 s).2) (by rw[List.length_drop];omega) (by rw[List.length_drop];omega)]
theorem qqq{s:Str} (hs:s≠[]):qgu s=(qc2 s).1++qgu (s.drop (qc2 s).2):=by
 have hl:0 < s.length:=List.length_pos_iff.2 hs;have hj:1<=(qc2 s).2:=by
  have:=(qn8 hl).1;unfold qc2
  (repeat' split)<;>simp only<;>omega
 unfold qgu;rw[qu5 s.length (s.length - 1+1) s (Nat.le_refl _) (by omega)]
 conv=>lhs;unfold qj2
 rw[if_neg hs,qu5 (s.length - 1) (s.drop (qc2 s).2).length _ (by rw[List.length_drop];omega) (Nat.le_refl _)]
theorem qup:∀(k:Nat) (s:Str),s.length<=k->(qgu s=s↔Lib.validD s=true/\¬ zcj s 0/\¬ zcj s 13)
 |0,s,h=>by have:s=[]:=List.eq_nil_of_length_eq_zero (by omega);subst this;simp[qgu,qj2,Lib.validD_nil,zcj]
 |k+1,s,h=>by
  by_cases hs:s=[]
  ·subst hs;simp[qgu,qj2,Lib.validD_nil,zcj]
  have hl:0 < s.length:=List.length_pos_iff.2 hs;have hone:=qn8 hl;rw[qqq hs,Lib.validD_step s hs];rcases ze8 s hl with⟨g1,g2⟩|⟨g1,g2,g3⟩
  ·rw[g2];simp only[and_self,if_true,Bool.false_eq_true,false_and,iff_false];intro he;have hst:qc2 s=(enc3,(qej s).1):=(by unfold qc2;rw[if_pos (.inl g1)]);rw[hst]at he;have hlen:=congrArg List.length he;simp only[List.length_append,List.length_cons,List.length_nil]at hlen;have hd:s.drop 3=qgu (s.drop (qej s).1):=(by have:=congrArg (List.drop 3) he;simpa using this.symm);have:(qej s).2=true:=bad_enc (by rw[hd];exact he.symm) (by omega);rw[g1]at this;cases this
  ·rw[if_neg g3,g2];have hdl:(s.drop (qej s).1).length<=k:=(by rw[List.length_drop];omega);have ih:=qup k (s.drop (qej s).1) hdl;by_cases h0:cN s 0=0
   ·have hst:qc2 s=(enc3,(qej s).1):=(by unfold qc2;rw[if_pos (.inr h0)]);rw[hst];constructor
    ·intro he;have hc:cN s 0=239:=(by rw[<- he];rfl);omega
    ·exact fun⟨_,hn,_⟩=>absurd ⟨0,hl,h0⟩ hn
   by_cases h13:cN s 0=13
   ·constructor
    ·intro he;have hst:(qc2 s).1=[10]:=(by unfold qc2;rw[if_neg (by simp[g1,h0]),if_pos h13]);rw[hst]at he;have hc:cN s 0=10:=(by rw[<- he];rfl);omega
    ·exact fun⟨_,_,hn⟩=>absurd ⟨0,hl,h13⟩ hn
   have hst:qc2 s=(s.take (qej s).1,(qej s).1):=(by unfold qc2;rw[if_neg (by simp[g1,h0]),if_neg h13]);rw[hst];have e1:(s.take (qej s).1++qgu (s.drop (qej s).1)=s)↔qgu (s.drop (qej s).1)=s.drop (qej s).1:=by
    constructor
    ·intro he;have:s.take (qej s).1++qgu (s.drop (qej s).1)=s.take (qej s).1++s.drop (qej s).1:=(by rw[List.take_append_drop];exact he);exact List.append_cancel_left this
    ·intro he;rw[he,List.take_append_drop]
   simp only;rw[e1,ih];rcases qzj g1 with⟨q1,q2⟩|⟨q1,q2,q3,q4⟩
   ·rw[q2];have a0:=qzy hl (m:=0);have a1:=qzy hl (m:=13);rw[a0,a1];simp[h0,h13]
   ·have a0:zcj s 0↔zcj (s.drop (qej s).1) 0:=qzp _ q4 (by omega);have a1:zcj s 13↔zcj (s.drop (qej s).1) 13:=qzp _ q4 (by omega);rw[a0,a1]
def qrf(p:Nat->Bool) (s:Str):Bool:=s.any fun c=>p c.toNat
theorem qtp{p:Nat->Bool} {s:Str}:qrf p s=true↔∃i,i < s.length/\p (cN s i)=true:=by
 unfold qrf;rw[List.any_eq_true];constructor
 ·rintro⟨c,hc,hp⟩;obtain⟨i,h1,h2⟩:=mem_cN hc;exact⟨i,h1,by rw[h2];exact hp⟩
 ·rintro⟨i,hi,hp⟩;obtain⟨c,h1,h2⟩:=cN_mem hi;exact⟨c,h1,by rw[h2];exact hp⟩
def qxd(p:Nat->Bool):Nat->Str->Nat->Int
 |0,_,_=>-1
 |k+1,s,pos=>if s=[] then -1 else if p (Lib.decodeL s).1=true then pos else qxd p k (s.drop (Lib.decodeL s).2) (pos+(Lib.decodeL s).2)
theorem zdk{n b0 b1 b2 b3:Nat} (h:128<=b0):128<=(Lib.decodeN n b0 b1 b2 b3).1:=by
 unfold Lib.decodeN
 (repeat' split)<;>simp only<;>omega
theorem qwo{s:Str} (h:0 < s.length):cN s 0 < 128/\Lib.decodeL s=(cN s 0,1)\/128<=cN s 0/\128<=(Lib.decodeL s).1/\1<=(Lib.decodeL s).2/\(Lib.decodeL s).2<=s.length/\∀k,k < (Lib.decodeL s).2->128<=cN s k:=by
 by_cases ha:cN s 0 < 128
 ·left;refine⟨ha,?_⟩;rw[Lib.decodeL_N];exact Lib.decodeN_ascii _ _ _ _ _ ha
 right;have hi:128<=(Lib.decodeL s).1:=by rw[Lib.decodeL_N];exact zdk (by show 128<=cN s 0;omega)
 refine⟨by omega,hi,?_⟩;rcases ze8 s h with⟨g1,g2⟩|⟨g1,g2,g3⟩
 ·rw[g2];refine⟨Nat.le_refl _,h,fun k hk=>?_⟩;have:k=0:=by simp only at hk;omega
  subst this;omega
 ·rw[g2];rcases qzj g1 with⟨q1,_⟩|⟨q1,q2,q3,q4⟩
  ·omega
  ·exact⟨by omega,q3,q4⟩
theorem dec_rune(s:Str):(Lib.decodeL s).1<=1114111:=Lib.decodeL_rune s
theorem zfa{p:Nat->Bool} (hp:∀r,p r=true->r < 128) {s:Str} (n:Nat) (h:∀k,k < n->128<=cN s k):qrf p s=qrf p (s.drop n):=by
 rw[Bool.eq_iff_iff,qtp,qtp];constructor
 ·rintro⟨i,hi,hc⟩;have:n<=i:=by apply Decidable.byContradiction;intro hn;have:=h i (by omega);have:=hp _ hc;omega
  exact⟨i - n,by rw[List.length_drop];omega,by rw[qka,show n+(i - n)=i by omega];exact hc⟩
 ·rintro⟨i,hi,hc⟩;rw[List.length_drop]at hi;exact⟨n+i,by omega,by rw[<- qka];exact hc⟩
theorem zfb{p:Nat->Bool} {s:Str} (h:0 < s.length):qrf p s=(p (cN s 0) || qrf p (s.drop 1)):=by
 cases s with
 |nil=>simp at h
 |cons c r=>simp[qrf,cN]
theorem qt9{p:Nat->Bool} (hp:∀r,p r=true->r < 128):∀(k:Nat) (s:Str) (pos:Nat),s.length<=k->(0<=qxd p k s pos↔qrf p s=true)
 |0,s,pos,h=>by have:s=[]:=List.eq_nil_of_length_eq_zero (by omega);subst this;simp[qxd,qrf]
 |k+1,s,pos,h=>by
  unfold qxd;by_cases hs:s=[]
  ·subst hs;simp[qrf]
  rw[if_neg hs];have hl:0 < s.length:=List.length_pos_iff.2 hs;rcases qwo hl with⟨g1,g2⟩|⟨g1,g2,g3,g4,g5⟩
  ·rw[g2,zfb hl];by_cases hc:p (cN s 0)=true
   ·simp[hc]
   ·rw[if_neg hc,qt9 hp k _ _ (by rw[List.length_drop];omega)];simp[hc]
  ·have hn:¬ p (Lib.decodeL s).1=true:=fun e=>(by have:=hp _ e;omega);rw[if_neg hn,qt9 hp k _ _ (by rw[List.length_drop];omega),zfa hp _ g5]
theorem zdq{p:Nat->Bool} {k pos:Nat}:qxd p k [] pos = -1:=by cases k<;>simp[qxd]
theorem rIdx_yes{p:Nat->Bool} {k pos:Nat} {s:Str} (hs:s≠[]) (h:p (Lib.decodeL s).1=true):qxd p (k+1) s pos=pos:=by unfold qxd;rw[if_neg hs,if_pos h]
theorem rIdx_no{p:Nat->Bool} {k pos:Nat} {s:Str} (hs:s≠[]) (h:p (Lib.decodeL s).1=false):qxd p (k+1) s pos=qxd p k (s.drop (Lib.decodeL s).2) (pos+(Lib.decodeL s).2):=by
 conv=>lhs;unfold qxd
 rw[if_neg hs,if_neg (by rw[h];decide)]
theorem dec_pos{s:Str} {i:Nat}:Utf8.decode ⟨s.toArray⟩ i=Lib.decodeL (s.drop i):=by have:=Lib.decodeL_drop ⟨s.toArray⟩ i;simpa using this.symm
@[simp]theorem frU_range{d:Option Tmp} {t:TypeId} {l:Operand} {ty:TypeId} {pos:String} {af:Array Edge} {g:Option (Nat × Bool)} {s:St}:qbr s ⟨d,.range t l,ty,pos,af,g⟩=s:=rfl
@[simp]theorem frU_next{d:Option Tmp} {b:Bool} {l:Operand} {ty:TypeId} {pos:String} {af:Array Edge} {g:Option (Nat × Bool)} {s:St}:qbr s ⟨d,.next l b,ty,pos,af,g⟩=s:=rfl
theorem itU_yes{m b i:Nat} {s:Str} {g:List (Nat × Blk)} (h:i < s.length):qra ⟨m,[(b,.iter s i)::g]⟩ b=some (.tup [.bool true,.int .i64 i,.int .i32 ((Lib.decodeL (s.drop i)).1:Int)],⟨m,[(b,.iter s (i+(Lib.decodeL (s.drop i)).2))::g]⟩):=by
 have hb:Nat.blt i s.length=true:=by simpa using h
 simp[qra,zG,hb,dec_pos,Heap.set,setFs,setF]
theorem itU_no{m b i:Nat} {s:Str} {g:List (Nat × Blk)} (h:¬ i < s.length):qra ⟨m,[(b,.iter s i)::g]⟩ b=some (.tup [.bool false],⟨m,[(b,.iter s i)::g]⟩):=by
 have hb:Nat.blt i s.length=false:=by
  cases hq:Nat.blt i s.length with
  |false=>rfl
  |true=>exact absurd (by simpa using hq) h
 simp[qra,zG,hb]
theorem fit_it{m:Nat} {s:Str} {i:Nat}:FitH 0 [(0,0)] [] ⟨m,[[(0,.iter s i)]]⟩ ⟨1,[[(0,.iter s i)]]⟩ where
 nd1:=by simp
 nd2:=by simp
 nd3:=by simp[Heap.ents]
 lt:=fun x hx=>by simp at hx;subst hx;simp
 idn:=fun x hx h=>by rcases h with h|h<;>exact absurd h (Nat.not_lt_zero _)
 num:=Nat.zero_le _
 src:=fun e he=>by simp[Heap.ents]at he;subst he;exact⟨0,.iter s i,by simp,by simp[zG],rfl,rfl⟩
 frz:=fun x hx=>by cases hx
def qxj:Go.Shelf.Ren:=⟨fun | 196=>147 | 259=>180|n=>n,fun | 0=>0 | 3=>3 | 4=>4 | 5=>5 | 9=>9 | 12=>12 | 46=>130 | 53=>156 | 119=>129 | 138=>132 | 139=>133|n=>n,fun | 3=>0 | 4=>1|n=>n⟩
theorem lays196:Go.Proofs.Lays.n196 PG qxj where
 mixed:=by kernel_rfl
 f196:=Tryz.func147.trans (congrArg some (by kernel_rfl))
 f259:=Tryz.func180.trans (congrArg some (by kernel_rfl))
 t0:=Tryz.underlying0
 a0:=Tryz.isAgg0
 z0:=Tryz.sizeOf0
 v0:=Tryz.zeroValue0
 t3:=Tryz.underlying3
 a3:=Tryz.isAgg3
 z3:=Tryz.sizeOf3
 v3:=Tryz.zeroValue3
 t4:=Tryz.underlying4
 a4:=Tryz.isAgg4
 z4:=Tryz.sizeOf4
 v4:=Tryz.zeroValue4
 t5:=Tryz.underlying5
 a5:=Tryz.isAgg5
 z5:=Tryz.sizeOf5
 v5:=Tryz.zeroValue5
 t9:=Tryz.underlying9
 a9:=Tryz.isAgg9
 z9:=Tryz.sizeOf9
 v9:=Tryz.zeroValue9
 t12:=Tryz.underlying12
 a12:=Tryz.isAgg12
 z12:=Tryz.sizeOf12
 v12:=Tryz.zeroValue12
 t46:=Tryz.underlying130
 a46:=Tryz.isAgg130
 z46:=Tryz.sizeOf130
 v46:=Tryz.zeroValue130
 t53:=Tryz.underlying156
 a53:=Tryz.isAgg156
 z53:=Tryz.sizeOf156
 v53:=Tryz.zeroValue156
 t119:=Tryz.underlying129
 a119:=Tryz.isAgg129
 z119:=Tryz.sizeOf129
 t138:=Tryz.underlying132
 a138:=Tryz.isAgg132
 z138:=Tryz.sizeOf132
 v138:=Tryz.zeroValue132
 t139:=Tryz.underlying133
 a139:=Tryz.isAgg133
 z139:=Tryz.sizeOf133
 v139:=Tryz.zeroValue133
 g3:=by kernel_rfl
 g4:=by kernel_rfl
theorem qn3{ρ:Place} {w w':World} (sm:Sim ρ zH w) (h:Below w.heap.size w w'):Sim ρ zH w' where
 base:=fun k hk=>Nat.lt_of_lt_of_le (sm.base k hk) h.size
 below:=fun k hk=>(h.block k (sm.base k hk)).trans (sm.below k hk)
 os:=h.os.trans sm.os
 tape:=h.tape.trans sm.tape
 output:=h.output.trans sm.output
 dom:=sm.dom
 nodup:=sm.nodup
 live:=fun e he=>by simp[Heap.ents]at he
 inj:=fun e e' he=>by simp[Heap.ents]at he
theorem qld{ρ:Place} {w w':World} (h:Below w.heap.size w w'):Step ρ zH w ρ zH w' where
 le:=Place.le_refl ρ
 size:=h.size
 keeps:=fun k hk _=>h.block k hk
 rows:=fun e' he'=>by simp[Heap.ents]at he'
 num:=Nat.le_refl _
 low:=fun _ _=>rfl
 cold:=fun k hk=>.inl hk
theorem first_at:∀c:Fin 256,qoi[c.val]? = some (Lib.firstT c.val:Int):=by decide +kernel
theorem acc_lo:∀i:Fin 16,utfAcc[2 * i.val]? = some (Lib.accLo i.val:Int):=by decide +kernel
theorem acc_hi:∀i:Fin 16,utfAcc[2 * i.val+1]? = some (Lib.accHi i.val:Int):=by decide +kernel
theorem zd3{ρ:Place} {w:World} (sm:Sim ρ zH w):Lib.Utf8Tabs (0) (1) w:=by
 have cell:∀x,x∈pins->∀i n,x.2[i]? = some n->w.cell? ⟨x.1,i,none⟩=some (.int .u8 n):=fun x hx i n hn=>by obtain⟨hB,hc⟩:=ρ.gp x hx;rw[World.cell?,sm.below x.1 hB];exact hc i n hn
 exact⟨fun c hc=>cell (0,qoi) (by decide +kernel) c _ (first_at ⟨c,hc⟩),
  fun i hi=>⟨cell (1,utfAcc) (by decide +kernel) _ _ (acc_lo ⟨i,hi⟩),cell (1,utfAcc) (by decide +kernel) _ _ (acc_hi ⟨i,hi⟩)⟩⟩
theorem c147{T:List (Entry PG)} (s:Str) (hl:s.length<=1000000):CA T 147 [.str s] zH (.bool (Lib.validD s)) zH:=by
 intro ρ w xs sm hx
 match xs,hx with
 |[x],hx=>
  have h0:=hx.2 0 (by simp) (by simp);simp only[List.getElem_cons_zero]at h0;cases h0;have hrun:(callFunc 147 #[.string ⟨s.toArray⟩]).run (ctx T).P w=.ok (.enter 147 #[.string ⟨s.toArray⟩]) w:=by
   have hf:(ctx T).P.funcs[147]? = some Tryz.f147:=Tryz.func147
   have hn : ¬ Tryz.f147.name = "runtime.NumGoroutine" := by decide +kernel
   simp[callFunc,hf,hn,Tryz.f147]
  have hsz:(⟨s.toArray⟩ : ByteArray).size=s.length:=by show s.toArray.size=_;simp
  refine .inr ⟨147,_,hrun,callsIn_wide.2 ?_⟩;refine(Go.Proofs.Any.utf8_ValidString lays196 ⟨s.toArray⟩ w (by rw[hsz];omega) (zd3 sm)).mono ?_;rintro e w' ⟨rfl,hb⟩;exact⟨_,ρ,rfl,.bool _,qn3 sm hb,qld hb⟩
def e147:Entry PG:=mkE 147 [[]] (fun x:Str=>[.str x]) (fun x=>x.length<=1000000) (fun x=>.bool (Lib.validD x)) fun x h=>c147 (T:=[]) x h
theorem k147{T:List (Entry PG)} (hT:qIn 147 T e147) {s:Str} (h1:s.length<=1000000) (H:Heap):qb6 (ctx T) (.fn 147) [.str s] H=some (.bool (Lib.validD s),H):=
 qac hT inj_strL s h1 rfl (by simp)
theorem c198{T:List (Entry PG)} (s:Str) (c:UInt8):CA T 198 [.str s,.int .u8 (c.toNat:Int)] zH (.int .i64 (Lib.indexByte s c)) zH:=by
 intro ρ w xs sm hx
 match xs,hx with
 |[x,y],hx=>
  have h0:=hx.2 0 (by simp) (by simp);have h1:=hx.2 1 (by simp) (by simp);simp only[List.getElem_cons_zero,List.getElem_cons_succ]at h0 h1;cases h0;cases h1;have hr:=Lib.run_indexByteString (P:=PG) ⟨s.toArray⟩ (c.toNat:Int) w;have hf:(ctx T).P.funcs[198]? = some Tryz.f198:=Tryz.func198
  have hn : ¬ Tryz.f198.name = "runtime.NumGoroutine" := by decide +kernel
  have e1:(Extern.findNext Tryz.f198).isNone=true:=by decide +kernel
  have e2:Extern.find Tryz.f198=some Extern.BytealgIndexByte.indexByte:=by rfl
  have e1':Extern.findNext Tryz.f198=none:=Option.isNone_iff_eq_none.1 e1;have hb:Tryz.f198.body.isNone=true:=rfl;refine .inl ⟨_,ρ,w,?_,.int _ _,sm,Step.refl _ _ _⟩;have hc:(c.toNat:Int).toNat.toUInt8=c:=by simp
  rw[hc]at hr;have hr':Sem.run (ctx T).P (Extern.BytealgIndexByte.indexByte #[.string ⟨s.toArray⟩,.int .u8 (c.toNat:Int)]) w=.ok (.int .i64 (Lib.indexByte s c)) w:=hr;have hb2:Tryz.f198.body=none:=rfl;have hr2:Sem.run PG (Extern.BytealgIndexByte.indexByte #[.string ⟨s.toArray⟩,.int .u8 (c.toNat:Int)]) w=.ok (.int .i64 (Lib.indexByte s c)) w:=hr;simp[callFunc,hf,hn,hb2,e1',e2,hr2]
theorem inj_sb(x y:Str × UInt8) (h:[AV.str x.1,AV.int .u8 (x.2.toNat:Int)]=[AV.str y.1,AV.int .u8 (y.2.toNat:Int)]):x=y:=by simp at h;exact Prod.ext h.1 (UInt8.toNat_inj.1 (by omega))
theorem qrk{C:Ctx} {n:Nat} {r:Option Nat} {s:St} {Q:Out->St->Prop} {body:Code} (h:WpSr C n r body s (qxx body (fun _ _=>False) Q)):WpSr C n r (.scope body) s Q:=by
 refine zco (fun _:Unit=>body) (fun _=>s) (fun _=>True) (fun _=>0) () trivial rfl ?_;intro _ _ B _;refine h.mono fun x s' hq=>?_;cases x with
 |goto l=>
  simp only[qxx]at hq ⊢;cases hl:findLabel body l with
  |none=>rw[hl]at hq;exact hq
  |some rest=>rw[hl]at hq;exact hq.elim
 |normal=>exact hq
 |exit k=>exact hq
 |ret=>exact hq
@[simp]theorem gotoQ_ret{body:Code} {R:Code->St->Prop} {Q:Out->St->Prop} {s:St}:qxx body R Q .ret s=Q .ret s:=rfl
@[simp]theorem gotoQ_normal{body:Code} {R:Code->St->Prop} {Q:Out->St->Prop} {s:St}:qxx body R Q .normal s=Q .normal s:=rfl
@[simp]theorem gotoQ_exit{body:Code} {R:Code->St->Prop} {Q:Out->St->Prop} {s:St} {k:Nat}:qxx body R Q (.exit k) s=Q (.exit k) s:=rfl
theorem c192{T:List (Entry PG)} (s:Str) (c:UInt8):CA T 192 [.str s,.int .u8 (c.toNat:Int)] zH (.int .i64 (Lib.indexByte s c)) zH:=by
 have hc:=(c198 (T:=T) s c).lift (by simp[qa9,qab]) ⟨0,[[]]⟩;generalize Lib.indexByte s c=v at *;refine qa0 (s0:=⟨[0,1,4],[.str s,.int .u8 (c.toNat:Int),uD],[],8,⟨0,[[]]⟩⟩) Tryz.func192 rfl rfl rfl ?_;apply ra;simp[zS];repeat apply wq
 refine qah (qbh [⟨198,_,_,_,_,hc⟩]) ?_;simp[zS,qcc];apply qa5;simp[zQ,Tryz.f192];exact qa2 rfl (by rfl)
theorem c162{T:List (Entry PG)} (s:Str) (c:UInt8):CA T 162 [.str s,.int .u8 (c.toNat:Int)] zH (.int .i64 (Lib.indexByte s c)) zH:=by
 have hc:=(c192 (T:=T) s c).lift (by simp[qa9,qab]) ⟨0,[[]]⟩;generalize Lib.indexByte s c=v at *;refine qa0 (s0:=⟨[0,1,4],[.str s,.int .u8 (c.toNat:Int),uD],[],8,⟨0,[[]]⟩⟩) Tryz.func162 rfl rfl rfl ?_;apply ra;simp[zS];repeat apply wq
 refine qah (qbh [⟨192,_,_,_,_,hc⟩]) ?_;simp[zS,qcc];apply qa5;simp[zQ,Tryz.f162];exact qa2 rfl (by rfl)
def e162:Entry PG:=mkE 162 [[],[]] (fun x:Str × UInt8=>[.str x.1,.int .u8 (x.2.toNat:Int)]) (fun _=>True) (fun x=>.int .i64 (Lib.indexByte x.1 x.2)) fun x _=>c162 (T:=[]) x.1 x.2
theorem k162{T:List (Entry PG)} (hT:qIn 162 T e162) (s:Str) (c:UInt8) (H:Heap):qb6 (ctx T) (.fn 162) [.str s,.int .u8 (c.toNat:Int)] H=some (.int .i64 (Lib.indexByte s c),H):=
 qac hT inj_sb (s,c) trivial rfl (by simp)
def ql5(r:Nat):Bool:=decide (r < 55296) || (decide (57343 < r) && decide (r<=1114111))
theorem c177{T:List (Entry PG)} (r:Nat):CA T 177 [.int .i32 (r:Int)] zH (.bool (ql5 r)) zH:=by
 have h0:(0:Int)<=r:=by omega
 by_cases h1:r < 55296
 ·have h1':(r:Int) < 55296:=by omega
  refine qa0 (s0:=⟨[0,2],[.int .i32 (r:Int),uD],[],17,⟨0,[[]]⟩⟩) Tryz.func177 rfl rfl rfl ?_
  (repeat (first
   |(apply qal)
   |(apply qa7)
   |(apply qch;simp only[qam,qaj])
   |((refine qah qbf ?_);simp[zS,h0,h1,h1'])
   |apply qai rfl
   |apply qag rfl
   |((apply qa4);simp only[qam,qaj])
   |((apply qar);simp)))
  apply qa5;simp[zQ,Tryz.f177];exact qa2 rfl (by simp[ql5,h1])
 ·have h1':¬ (r:Int) < 55296:=by omega
  by_cases h2:57343 < r
  ·have h2':(57343:Int) < r:=(by omega);by_cases h3:r<=1114111
   ·have h3':(r:Int)<=1114111:=(by omega);refine qa0 (s0:=⟨[0,2],[.int .i32 (r:Int),uD],[],17,⟨0,[[]]⟩⟩) Tryz.func177 rfl rfl rfl ?_
    (repeat (first
     |(apply qal)
     |(apply qa7)
     |(apply qch;simp only[qam,qaj])
     |((refine qah qbf ?_);simp[zS,h0,h1,h1',h2,h2',h3,h3'])
     |apply qai rfl
     |apply qag rfl
     |((apply qa4);simp only[qam,qaj])
     |((apply qar);simp)))
    apply qa5;simp[zQ,Tryz.f177];exact qa2 rfl (by simp[ql5,h1,h2,h3])
   ·have h3':¬ (r:Int)<=1114111:=(by omega);refine qa0 (s0:=⟨[0,2],[.int .i32 (r:Int),uD],[],17,⟨0,[[]]⟩⟩) Tryz.func177 rfl rfl rfl ?_
    (repeat (first
     |(apply qal)
     |(apply qa7)
     |(apply qch;simp only[qam,qaj])
     |((refine qah qbf ?_);simp[zS,h0,h1,h1',h2,h2',h3,h3'])
     |apply qai rfl
     |apply qag rfl
     |((apply qa4);simp only[qam,qaj])
     |((apply qar);simp)))
    apply qa5;simp[zQ,Tryz.f177];exact qa2 rfl (by simp[ql5,h1,h2,h3])
  ·have h2':¬ (57343:Int) < r:=(by omega);refine qa0 (s0:=⟨[0,2],[.int .i32 (r:Int),uD],[],17,⟨0,[[]]⟩⟩) Tryz.func177 rfl rfl rfl ?_
   (repeat (first
    |(apply qal)
    |(apply qa7)
    |(apply qch;simp only[qam,qaj])
    |((refine qah qbf ?_);simp[zS,h0,h1,h1',h2,h2'])
    |apply qai rfl
    |apply qag rfl
    |((apply qa4);simp only[qam,qaj])
    |((apply qar);simp)))
   apply qa5;simp[zQ,Tryz.f177];exact qa2 rfl (by simp[ql5,h1,h2])
def e177:Entry PG:=mkE 177 [[]] (fun x:Nat=>[.int .i32 (x:Int)]) (fun _=>True) (fun x=>.bool (ql5 x)) fun x _=>c177 (T:=[]) x
theorem k177{T:List (Entry PG)} (hT:qIn 177 T e177) (r:Nat) (H:Heap):qb6 (ctx T) (.fn 177) [.int .i32 (r:Int)] H=some (.bool (ql5 r),H):=
 qac hT (fun x y h=>by simp at h;omega) r trivial rfl (by simp)
abbrev anyC:Str:=[0,13]
def anyV(r:Nat):Int:=if r=0 then 0 else if r=13 then 1 else -1
theorem bad_rune:litOK (.int .i64 (-1)) (qqw (ctx []) 100000 (.fn 146) [.str anyC,.int .i32 65533] zH)=true:=by decide +kernel
theorem anyV_low:∀c:Fin 128,anyV c.val=Lib.indexByte anyC (UInt8.ofNat c.val):=by decide +kernel
theorem zg5{r:Nat} (h:128<=r) (hv:ql5 r=true):(∃a b:UInt8,(Utf8.encode (r:Int)).data.toList=[a,b]/\128<=b.toNat)\/3<=(Utf8.encode (r:Int)).data.toList.length/\(Utf8.encode (r:Int)).data.toList.length<=4:=by
 have hval:Utf8.valid (r:Int)=true:=by simp only[ql5,Bool.or_eq_true,Bool.and_eq_true,decide_eq_true_eq]at hv;simp only[Utf8.valid,Bool.or_eq_true,Bool.and_eq_true,decide_eq_true_eq];omega
 unfold Utf8.encode;simp only[hval,if_true,Int.toNat_natCast];rw[if_neg (by omega)];split
 ·left;refine⟨_,_,rfl,?_⟩;simp only[UInt8.toNat_ofNat'];omega
 ·right;split<;>simp
theorem c146{T:List (Entry PG)} (hB:qIn 162 T e162) (hV:qIn 177 T e177) (r:Nat) (hr:r<=1114111):CA T 146 [.str anyC,.int .i32 (r:Int)] zH (.int .i64 (anyV r)) zH:=by
 have h0:(0:Int)<=r:=by omega
 by_cases h1:r < 128
 ·have h1':(r:Int) < 128:=by omega
  have hw:IntKind.u8.wrap (r:Int)=((UInt8.ofNat r).toNat:Int):=by have e:(UInt8.ofNat r).toNat=r:=(by simp;omega);rw[e];simp[IntKind.wrap,IntKind.signed,IntKind.bits];omega
  have hcv:∀H,qh5 PG H 21 5 (.int .i32 (r:Int))=some (.int .u8 ((UInt8.ofNat r).toNat:Int),H):=fun H=>by simp[qh5,hw]
  have hk:=fun H=>k162 hB anyC (UInt8.ofNat r) H;have hv:=anyV_low ⟨r,h1⟩;simp only at hv;rw[<- hv]at hk;generalize UInt8.ofNat r=c at *;generalize anyV r=v at *;refine qa0 (s0:=⟨[0,1,4,5,6,7,8,9,10,11,12,13,14,15,16,175,176],[.str anyC,.int .i32 (r:Int),uD,uD,uD,uD,uD,uD,uD,uD,uD,uD,uD,uD,uD,uD,uD],[],187,⟨0,[[]]⟩⟩) Tryz.func146 rfl rfl rfl ?_;apply ra;simp[zS];apply qa7;apply ra;simp[zS,h0,h1,h1'];apply qai rfl;apply ra;simp[zS,hcv,hk];apply qa5;simp[zQ,Tryz.f146];exact qa2 rfl (by rfl)
 have hn:anyV r = -1:=by unfold anyV;rw[if_neg (by omega),if_neg (by omega)]
 by_cases h2:r=65533
 ·subst h2;rw[hn];exact qwq (T:=[]) bad_rune
 have h1':¬ (r:Int) < 128:=by omega
 have h2':¬ (r:Int)=65533:=by omega
 have kv:=fun H=>k177 hV r H;rw[hn];cases hok:ql5 r with
 |false=>rw[hok]at kv;refine qa0 (s0:=⟨[0,1,4,5,6,7,8,9,10,11,12,13,14,15,16,175,176],[.str anyC,.int .i32 (r:Int),uD,uD,uD,uD,uD,uD,uD,uD,uD,uD,uD,uD,uD,uD,uD],[],187,⟨0,[[]]⟩⟩) Tryz.func146 rfl rfl rfl ?_;apply ra;simp[zS];apply qa7;apply ra;simp[zS,h0,h1,h1'];apply qag rfl;apply ra;simp[zS,h2,h2'];apply qag rfl;apply ra;simp[zS,kv];apply qai rfl;apply ra;simp[zS];apply qa5;simp[zQ,Tryz.f146];exact qa2 rfl (by rfl)
 |true=>
  rw[hok]at kv;have hsh:=zg5 (by omega) hok;have hcv:∀H,qh5 PG H 21 9 (.int .i32 (r:Int))=some (.str (Utf8.encode (r:Int)).data.toList,H):=fun H=>by simp[qh5]
  generalize (Utf8.encode (r:Int)).data.toList=rs at *;refine qa0 (s0:=⟨[0,1,4,5,6,7,8,9,10,11,12,13,14,15,16,175,176],[.str anyC,.int .i32 (r:Int),uD,uD,uD,uD,uD,uD,uD,uD,uD,uD,uD,uD,uD,uD,uD],[],187,⟨0,[[]]⟩⟩) Tryz.func146 rfl rfl rfl ?_;apply ra;simp[zS];apply qa7;apply ra;simp[zS,h0,h1,h1'];apply qag rfl;apply ra;simp[zS,h2,h2'];apply qag rfl;apply ra;simp[zS,kv];apply qag rfl;apply qrk;rcases hsh with⟨a,b,rfl,hb⟩|⟨g1,g2⟩
  ·have hkb:=fun H=>k162 hB [] b H;have hib:Lib.indexByte [] b = -1:=rfl;rw[hib]at hkb;have hne:¬ (13:Int)=(b.toNat:Int):=(by omega);have hne':¬ (b.toNat:Int)=13:=(by omega);have ix1:qhy PG 9 (.str anyC) (.int .i64 1)=some (.int .u8 13):=rfl;have ix2:qhy PG 9 (.str [a,b]) (.int .i64 1)=some (.int .u8 (b.toNat:Int)):=rfl;have sl:∀H,qdx PG H 9 (.str anyC) (some (.int .i64 2)) none none=some (.str []):=fun H=>rfl;apply ra;simp[zS,hcv];have w1:wr .i64 1=some 1:=rfl;apply ra;simp[zS,w1];apply ra;simp[zS];apply ra;simp[zS];repeat apply wq
   refine qa7 (qb1 (fun _:Unit=>(⟨[0,1,4,5,6,7,8,9,10,11,12,13,14,15,16,175,176],[.str anyC,.int .i32 (r:Int),.int .i64 0,uD,uD,.str [a,b],.int .i64 1,.int .i64 1,.int .i64 0,uD,uD,uD,uD,uD,uD,uD,uD],[],187,⟨0,[[]]⟩⟩ : St)) (fun _=>True) (fun _=>0) [] [] () trivial ⟨rfl,rfl,rfl,by simp[qax,qas,qab,qa9],FitH.nothing⟩ ?_);intro _ _ B hB;apply ra;simp[zS];apply qai rfl;apply qa4;simp;apply qa7;apply qrk;repeat apply wq
   refine qbu mixed qbf (by decide +kernel) (by decide +kernel) ?_;simp[zS,qcr,qbl,qbi,ix1,ix2,hne,hne'];apply qai rfl;have w2:wr .i64 2=some 2:=rfl;repeat apply wq
   refine qbu mixed qbf (by decide +kernel) (by decide +kernel) ?_;simp[zS,qcr,qbl,qbi,ix2,w2,sl,hkb];apply ra;simp[zS];apply qai rfl;apply ra;simp[zS];apply qa5;simp[zQ,Tryz.f146];exact qa2 rfl (by rfl)
  ·obtain⟨L,hL⟩ : ∃L,rs.length=L+1:=⟨rs.length - 1,by omega⟩;have hw:wr .i64 ((rs.length:Int) - 1)=some ((L:Nat):Int):=(by rw[qdr (by omega) (by omega),hL];congr 1;omega);have hlt:¬ (L:Int) < 2:=(by omega);have hlt':¬ L < 2:=(by omega);apply ra;simp[zS,hcv];apply ra;simp[zS,hw];apply ra;simp[zS];apply ra;simp[zS];repeat apply wq
   refine qa7 (qb1 (fun _:Unit=>(⟨[0,1,4,5,6,7,8,9,10,11,12,13,14,15,16,175,176],[.str anyC,.int .i32 (r:Int),.int .i64 0,uD,uD,.str rs,.int .i64 (L:Nat),.int .i64 (L:Nat),.int .i64 0,uD,uD,uD,uD,uD,uD,uD,uD],[],187,⟨0,[[]]⟩⟩ : St)) (fun _=>True) (fun _=>0) [] [] () trivial ⟨rfl,rfl,rfl,by simp[qax,qas,qab,qa9],FitH.nothing⟩ ?_);intro _ _ B hB;apply ra;simp[zS,hlt,hlt'];refine qag (by simp[qbp,St.get,hlt,hlt']) ?_;apply qar;simp;apply ra;simp[zS];apply qa5;simp[zQ,Tryz.f146];exact qa2 rfl (by rfl)
def e146:Entry PG:=mkE 146 [[],[]] (fun x:Nat=>[.str anyC,.int .i32 (x:Int)]) (fun x=>x<=1114111) (fun x=>.int .i64 (anyV x)) fun x h=>c146 (T:=[e162,e177]) rfl rfl x h
theorem k146{T:List (Entry PG)} (hT:qIn 146 T e146) {r:Nat} (hr:r<=1114111) (H:Heap):qb6 (ctx T) (.fn 146) [.str anyC,.int .i32 (r:Int)] H=some (.int .i64 (anyV r),H):=
 qac hT (fun x y h=>by simp at h;omega) r hr rfl (by simp)
def qxl:Go.Shelf.Ren:=⟨fun | 119=>177 | 137=>162 | 152=>146 | 153=>181 | 217=>192 | 224=>178 | 225=>179 | 226=>194 | 227=>79 | 228=>117 | 266=>198|n=>n,fun | 0=>0 | 3=>3 | 4=>4 | 5=>5 | 9=>9 | 21=>21 | 46=>130 | 116=>101 | 117=>102 | 124=>105|n=>n,fun|n=>n⟩
theorem lays153:Go.Proofs.Lays.n153 PG qxl where
 mixed:=by kernel_rfl
 f119:=Tryz.func177.trans (congrArg some (by kernel_rfl))
 f137:=Tryz.func162.trans (congrArg some (by kernel_rfl))
 f152:=Tryz.func146.trans (congrArg some (by kernel_rfl))
 f153:=Tryz.func181.trans (congrArg some (by kernel_rfl))
 f217:=Tryz.func192.trans (congrArg some (by kernel_rfl))
 f224:=Tryz.func178.trans (congrArg some (by kernel_rfl))
 f225:=Tryz.func179.trans (congrArg some (by kernel_rfl))
 f226:=Tryz.func194.trans (congrArg some (by kernel_rfl))
 f227:=Tryz.func79.trans (congrArg some (by kernel_rfl))
 f228:=Tryz.func117.trans (congrArg some (by kernel_rfl))
 f266:=Tryz.func198.trans (congrArg some (by kernel_rfl))
 t0:=Tryz.underlying0
 a0:=Tryz.isAgg0
 z0:=Tryz.sizeOf0
 v0:=Tryz.zeroValue0
 t3:=Tryz.underlying3
 a3:=Tryz.isAgg3
 z3:=Tryz.sizeOf3
 v3:=Tryz.zeroValue3
 t4:=Tryz.underlying4
 a4:=Tryz.isAgg4
 z4:=Tryz.sizeOf4
 v4:=Tryz.zeroValue4
 t5:=Tryz.underlying5
 a5:=Tryz.isAgg5
 z5:=Tryz.sizeOf5
 v5:=Tryz.zeroValue5
 t9:=Tryz.underlying9
 a9:=Tryz.isAgg9
 z9:=Tryz.sizeOf9
 v9:=Tryz.zeroValue9
 t21:=Tryz.underlying21
 a21:=Tryz.isAgg21
 z21:=Tryz.sizeOf21
 v21:=Tryz.zeroValue21
 t46:=Tryz.underlying130
 a46:=Tryz.isAgg130
 z46:=Tryz.sizeOf130
 v46:=Tryz.zeroValue130
 t116:=Tryz.underlying101
 a116:=Tryz.isAgg101
 z116:=Tryz.sizeOf101
 t117:=Tryz.underlying102
 a117:=Tryz.isAgg102
 z117:=Tryz.sizeOf102
 v117:=Tryz.zeroValue102
 t124:=Tryz.underlying105
 a124:=Tryz.isAgg105
 z124:=Tryz.sizeOf105
 v124:=Tryz.zeroValue105
def qnp(r:Nat):Bool:=decide (r=0) || decide (r=13)
def qo3(s:Str):Int:=if s.length<=8 then qxd qnp s.length s 0 else Lib.indexAny s anyC
theorem zh7:∀(s:Str),0<=Lib.indexAny s anyC↔qrf qnp s=true
 |[]=>by simp[Lib.indexAny,qrf]
 |c::r=>by
  have ih:=zh7 r;have hc:(anyC.contains c)=qnp c.toNat:=by have key:∀n:Fin 256,(anyC.contains (UInt8.ofNat n.val))=qnp n.val:=(by decide +kernel);have:=key ⟨c.toNat,c.toNat_lt⟩;simpa using this
  have hcons:qrf qnp (c::r)=(qnp c.toNat || qrf qnp r):=by simp[qrf]
  unfold Lib.indexAny;rw[hc,hcons];cases qnp c.toNat with
  |true=>simp
  |false=>
   have hge:=Lib.indexAny_ge anyC r;simp only[Bool.false_eq_true,if_false,Bool.false_or];rw[<- ih];split
   next h=>simp only[beq_iff_eq]at h;omega
   next h=>simp only[beq_iff_eq]at h;omega
theorem zbs(s:Str):0<=qo3 s↔qrf qnp s=true:=by
 unfold qo3;split
 ·exact qt9 (fun r h=>by simp[qnp]at h;omega) _ _ _ (Nat.le_refl _)
 ·exact zh7 s
theorem qz0:(PG.info? 101).map (fun i=>(i.zero,i.size))=some (some (.agg (Array.replicate 256 (.bool false))),256):=by kernel_rfl
theorem c194{T:List (Entry PG)} (n:Nat) (h:n<=8):CA T 194 [.int .i64 (n:Int)] zH (.bool false) zH:=by
 have h1:¬ (8:Int) < (n:Int):=by omega
 have h2:¬ 8 < n:=by omega
 refine qa0 (s0:=⟨[0,2],[.int .i64 (n:Int),uD],[],5,⟨0,[[]]⟩⟩) Tryz.func194 rfl rfl rfl ?_
 (repeat (first
  |(apply qal)
  |(apply qa7)
  |(apply qch;simp only[qam,qaj])
  |((refine qah qbf ?_);simp[zS,h1,h2])
  |apply qai rfl
  |apply qag rfl
  |((apply qa4);simp only[qam,qaj])
  |((apply qar);simp)))
 apply qa5;simp[zQ,Tryz.f194];exact qa2 rfl (by rfl)
theorem c181{T:List (Entry PG)} (hR:qIn 146 T e146) (s:Str) (hl:s.length<=900000):CA T 181 [.str s,.str anyC] zH (.int .i64 (qo3 s)) zH:=by
 by_cases h8:s.length<=8
 ·have hv:qo3 s=qxd qnp s.length s 0:=by unfold qo3;rw[if_pos h8]
  rw[hv];have hu:=(c194 (T:=T) s.length h8).lift (by simp[qa9,qab]) ⟨0,[[]]⟩;refine qa0 (s0:=⟨[0,1,4,5,6,7,8,9,10,45,46],[.str s,.str anyC,uD,uD,uD,uD,uD,uD,uD,uD,uD],[],55,⟨0,[[]]⟩⟩) Tryz.func181 rfl rfl rfl ?_;apply ra;simp[zS];apply ra;simp[zS];apply qag rfl;apply qa4;simp;apply ra;simp[zS];apply qag rfl;apply qa4;simp;repeat apply wq
  refine qah (qbh [⟨194,_,_,_,_,hu⟩]) ?_;simp[zS,qcc];apply qag rfl;apply qa4;simp;apply ra;simp[zS,rgV];refine qa7 (qb1 (fun x:Nat × Nat=>(⟨[0,1,4,5,6,7,8,9,10,45,46],[.str s,.str anyC,.int .i64 0,uD,uD,uD,uD,uD,uD,.ptr 0 0,uD],[],55,⟨1,[[(0,.iter s x.2)]]⟩⟩ : St))
   (fun x=>x.2<=s.length/\s.length<=x.2+x.1/\qxd qnp x.1 (s.drop x.2) x.2=qxd qnp s.length s 0) (fun x=>x.1) [(0,0)] [] (s.length,0) ⟨Nat.zero_le _,by simp,by simp⟩
   ⟨rfl,rfl,rfl,by simp[qax,qas,qb2,qab,qa9],fit_it⟩ ?_)
  rintro⟨k,i⟩ ⟨hi,hk,hd⟩ B hB;simp only at hi hk hd hB;by_cases h:i < s.length
  ·obtain⟨k,rfl⟩ : ∃k',k=k'+1:=⟨k - 1,by omega⟩;have hne:s.drop i≠[]:=fun e=>(by have:=congrArg List.length e;simp at this;omega);have hdl:0 < (s.drop i).length:=(by rw[List.length_drop];omega);have hr:=dec_rune (s.drop i);have hw:1<=(Lib.decodeL (s.drop i)).2/\(Lib.decodeL (s.drop i)).2<=s.length - i:=by
    rcases qwo hdl with⟨g1,g2⟩|⟨g1,g2,g3,g4,g5⟩
    ·rw[g2];simp only;omega
    ·rw[List.length_drop]at g4;omega
   have hn:=fun m=>itU_yes (m:=m) (b:=0) (g:=[]) h;have hyes:=rIdx_yes (p:=qnp) (k:=k) (pos:=i) hne;have hno:=rIdx_no (p:=qnp) (k:=k) (pos:=i) hne;generalize Lib.decodeL (s.drop i)=d at *;obtain⟨r,w⟩:=d;simp only at hr hw hn hyes hno;have hcall:=fun H=>k146 hR hr H;have hbv:(0<=anyV r)↔qnp r=true:=by
    unfold anyV qnp;by_cases h1:r=0
    ·simp[h1]
    ·by_cases h2:r=13
     ·simp[h2]
     ·simp[h1,h2]
   generalize anyV r=v at *;apply ra;simp[zS,nxV,hn];repeat apply wq
   apply qai rfl;apply qa4;simp;apply qa7;apply ra;simp[zS];by_cases hpr:0<=v
   ·apply ra;simp[zS,hcall,hpr];apply qai rfl;apply ra;simp[zS];apply qa5;simp[zQ,Tryz.f181];exact qa2 rfl (by rw[<- hd,hyes (hbv.1 hpr)])
   ·have hpf:qnp r=false:=by
     cases hq:qnp r with
     |false=>rfl
     |true=>exact absurd (hbv.2 hq) hpr
    apply ra;simp[zS,hcall,hpr];apply qag rfl;apply qa4;simp;refine hB _ (k,i+w) (by simp only;omega) ⟨by simp only;omega,by simp only;omega,?_⟩ ⟨[(0,0)],[],rfl,rfl,rfl,by simp[qax,qas,qb2,qab,qa9],fit_it⟩;simp only;rw[<- hd,hno hpf,List.drop_drop]
  ·have hie:i=s.length:=(by omega);subst hie;have hn:=fun m=>itU_no (m:=m) (b:=0) (g:=[]) h;rw[List.drop_length,zdq]at hd;apply ra;simp[zS,nxV,hn];repeat apply wq
   apply qag rfl;apply qar;simp;apply ra;simp[zS];apply qa5;simp[zQ,Tryz.f181];exact qa2 rfl (by rw[<- hd])
 ·have hv:qo3 s=Lib.indexAny s anyC:=by unfold qo3;rw[if_neg h8]
  rw[hv];intro ρ w xs sm hx
  match xs,hx with
  |[x,y],hx=>
   have h0:=hx.2 0 (by simp) (by simp);have h1:=hx.2 1 (by simp) (by simp);simp only[List.getElem_cons_zero,List.getElem_cons_succ]at h0 h1;cases h0;cases h1;have hrun:(callFunc 181 #[.string ⟨s.toArray⟩,.string ⟨anyC.toArray⟩]).run (ctx T).P w=.ok (.enter 181 #[.string ⟨s.toArray⟩,.string ⟨anyC.toArray⟩]) w:=by
    have hf:(ctx T).P.funcs[181]? = some Tryz.f181:=Tryz.func181
    have hn : ¬ Tryz.f181.name = "runtime.NumGoroutine" := by decide +kernel
    simp[callFunc,hf,hn,Tryz.f181]
   have hsz:(⟨s.toArray⟩ : ByteArray).size=s.length:=(by show s.toArray.size=_;simp);refine .inr ⟨181,_,hrun,callsIn_wide.2 ?_⟩;refine(Go.Proofs.Any.strings_IndexAny_long lays153 (zero_of_info qz0).1 (zero_of_info qz0).2 ⟨s.toArray⟩ ⟨anyC.toArray⟩ w (by decide) (by rw[hsz];omega) (by rw[hsz];omega) (by decide) (fun j b hj=>?_)).mono ?_
   ·have hm:b∈anyC:=List.mem_of_getElem? hj;simp at hm;rcases hm with rfl|rfl<;>decide
   ·rintro e w' ⟨rfl,hb⟩;have hb':Below w.heap.size w w':=(by rw[hb];exact((Below.refl _ _).alloc (Nat.le_refl _) _).alloc (by simp) _);exact⟨_,ρ,rfl,.int _ _,qn3 sm hb',qld hb'⟩
theorem c148{T:List (Entry PG)} (hR:qIn 146 T e146) (s:Str) (hl:s.length<=900000):CA T 148 [.str s,.str anyC] zH (.bool (qrf qnp s)) zH:=by
 have hc:=(c181 hR s hl).lift (by simp[qa9,qab]) ⟨0,[[]]⟩;have hi:=zbs s;generalize qo3 s=v at *;refine qa0 (s0:=⟨[0,1,4],[.str s,.str anyC,uD],[],9,⟨0,[[]]⟩⟩) Tryz.func148 rfl rfl rfl ?_;apply ra;simp[zS];repeat apply wq
 refine qah (qbh [⟨181,_,_,_,_,hc⟩]) ?_;simp[zS,qcc];apply qa5;simp[zQ,Tryz.f148];exact qa2 rfl (by simp[hi])
def e148:Entry PG:=mkE 148 [[],[]] (fun x:Str=>[.str x,.str anyC]) (fun x=>x.length<=900000) (fun x=>.bool (qrf qnp x)) fun x h=>c148 (T:=[e146]) rfl x h
theorem k148{T:List (Entry PG)} (hT:qIn 148 T e148) {s:Str} (h1:s.length<=900000) (H:Heap):qb6 (ctx T) (.fn 148) [.str s,.str anyC] H=some (.bool (qrf qnp s),H):=
 qac hT (fun x y h=>by simpa using h) s h1 rfl (by simp)
theorem valid_eq(s:Str):(Lib.validD s && !qrf qnp s)=ql4 s:=by
 have h:=qup s.length s (Nat.le_refl _);have e:qrf qnp s=true↔zcj s 0\/zcj s 13:=by
  rw[qtp];constructor
  ·rintro⟨i,hi,hc⟩;simp[qnp]at hc;rcases hc with hc|hc
   ·exact .inl ⟨i,hi,hc⟩
   ·exact .inr ⟨i,hi,hc⟩
  ·rintro(⟨i,hi,hc⟩|⟨i,hi,hc⟩)
   ·exact⟨i,hi,by simp[qnp,hc]⟩
   ·exact⟨i,hi,by simp[qnp,hc]⟩
 unfold ql4;rw[Bool.eq_iff_iff];simp only[Bool.and_eq_true,Bool.not_eq_true',decide_eq_true_eq];rw[h,<- Bool.not_eq_true,e,not_or]
theorem c120{T:List (Entry PG)} (hV:qIn 147 T e147) (hC:qIn 148 T e148) (s:Str) (hl:s.length<=900000):CA T 120 [.str s] zH (.bool (ql4 s)) zH:=by
 have k1:=fun H=>k147 hV (s:=s) (by omega) H;have k2:=fun H=>k148 hC (s:=s) hl H;have hv:=valid_eq s;generalize ql4 s=v at *;rcases Bool.eq_false_or_eq_true (Lib.validD s)with h|h
 ·rw[h]at k1 hv;refine qa0 (s0:=⟨[0,2],[.str s,uD],[],10,⟨0,[[]]⟩⟩) Tryz.func120 rfl rfl rfl ?_;apply ra;simp[zS];apply ra;simp[zS,k1,k2];apply qa5;simp[zQ,Tryz.f120];exact qa2 rfl (by simpa using hv)
 ·rw[h]at k1 hv;refine qa0 (s0:=⟨[0,2],[.str s,uD],[],10,⟨0,[[]]⟩⟩) Tryz.func120 rfl rfl rfl ?_;apply ra;simp[zS];apply ra;simp[zS,k1];apply qa5;simp[zQ,Tryz.f120];exact qa2 rfl (by simpa using hv)
def e120:Entry PG:=mkE 120 [[]] (fun x:Str=>[.str x]) (fun x=>x.length<=900000) (fun x=>.bool (ql4 x)) fun x h=>c120 (T:=[e147,e148]) rfl rfl x h
theorem k120{T:List (Entry PG)} (hT:qIn 120 T e120) {s:Str} (h1:s.length<=900000) (H:Heap):qb6 (ctx T) (.fn 120) [.str s] H=some (.bool (ql4 s),H):=
 qac hT qxt s h1 rfl (by simp)
