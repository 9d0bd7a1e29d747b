/- strings.ContainsAny of "\\x00\\r"; utf.Valid. No condition. -/
import Derived.Test.YtocnpnnplllneaaGreatDoorML
import Derived.Lib.ValidLaws
import Derived.Lib.TrimUEq
import Derived.Shelf.Unicode.ValidAny
import Derived.Lib.Bytealg
import Derived.Shelf.Strings.IndexAnyAll
import Derived.Shelf.Strings.SlTrimAscii
namespace Go.Proofs.YtocnpnnplllneaaGreatDoor
noncomputable section
set_option linter.unusedSimpArgs false
set_option linter.unusedVariables false
open Go Go.RowKit
set_option maxRecDepth 100000
theorem yd:type_of% @List.eq_nil_of_length_eq_zero:=@List.eq_nil_of_length_eq_zero
theorem yr:type_of% @Bool.false_and:=@Bool.false_and
theorem yP:type_of% @Bool.not_false:=@Bool.not_false
variable {T:List (Entry Tryz.prog)}
theorem ze2{f:FuncId} (h:qz2 (qru (ctx T) 100000 (.fn f) [] zH)=true):CA T f [] zH (.bool true) zH:=by
 revert h;cases hr:qru (ctx T) 100000 (.fn f) [] zH with
 |none=>intro h;cases h
 |some r=>
  obtain⟨v,H'⟩:=r;intro h;cases v<;>simp only[qz2]at h<;>first|(cases h;done)|skip
  subst h;exact((qzo mixed (zbd _ _ _) 100000).fn f [] zH _ _ hr).freeze (Φ:=[]) (by simp[qat,qab]) FitH.empty
def noneL:List AV->Bool
 |[]=>true
 |_::_=>false
mutual
def qng(Φ:List (Nat × List AV)):AV->AV->Bool
 |.slc b o len cap,v'=>match v' with
  |.undef=>true
  |.fslc sz es=>(match qca b Φ with
   |some cs=>(match qek o (len * sz) cs with
    |some x=>AV.beqL x (qa5 es) && Nat.beq es.length len && qep sz es
    |none=>false)
   |none=>false) || (Nat.beq len 0 && noneL es)
  |_=>false
 |.ptr b o,v'=>match v' with
  |.undef=>true
  |.fptr cs o'=>(match qca b Φ with
   |some c=>AV.beqL c cs
   |none=>false) && Nat.beq o' o
  |_=>false
 |.nilS,v'=>match v' with
  |.undef=>true
  |.nilS=>true
  |.fslc _ es=>noneL es
  |_=>false
 |.fslc sz es,v'=>match v' with
  |.undef=>true
  |.fslc sz' es'=>Nat.beq sz sz' && AV.beqL es es'
  |_=>false
 |.agg cs,v'=>match v' with
  |.undef=>true
  |.agg cs'=>qxi Φ cs cs'
  |_=>false
 |.tup cs,v'=>match v' with
  |.undef=>true
  |.tup cs'=>qxi Φ cs cs'
  |_=>false
 |.int k n,v'=>match v' with
  |.undef=>true
  |.int k' n'=>decide (k'=k) && decide (n'=n)
  |_=>false
 |.str s,v'=>match v' with
  |.undef=>true
  |.str s'=>eqN s' s
  |_=>false
 |.bool s,v'=>match v' with
  |.undef=>true
  |.bool s'=>s' == s
  |_=>false
 |_,v'=>match v' with
  |.undef=>true
  |_=>false
def qxi(Φ:List (Nat × List AV)):List AV->List AV->Bool
 |[],l'=>noneL l'
 |a::r,l'=>match l' with
  |[]=>false
  |a'::r'=>qng Φ a a' && qxi Φ r r'
end
theorem qu5{l:List AV} (h:noneL l=true):l=[]:=by cases l<;>first|rfl|cases h
mutual
theorem zc4{Φ:List (Nat × List AV)}:∀{v v':AV},qng Φ v v'=true->qat [] Φ v v':=by
 intro v v' h;cases v with
 |slc b o len cap=>
  unfold qng at h;unfold qat;cases v'<;>simp only[jC]at h ⊢;rename_i sz es;simp only[yf,jd]at h;rcases h with h|h
  ·left;cases hl:qca b Φ with
   |none=>rw[hl]at h;cases h
   |some cs=>
    rw[hl]at h;simp only at h;cases hs:qek o (len * sz) cs with
    |none=>rw[hs]at h;cases h
    |some x=>rw[hs]at h;simp only[jd]at h;exact⟨cs,rfl,by rw[hs,AV.eqL_of_beq _ _ h.1.1],Nat.eq_of_beq_eq_true h.1.2,h.2⟩
  ·exact .inr ⟨Nat.eq_of_beq_eq_true h.1,qu5 h.2⟩
 |fslc sz es=>
  cases v' with
  |undef=>simp[qat]
  |fslc sz' es'=>unfold qng at h;simp only[jd]at h;have h1:=Nat.eq_of_beq_eq_true h.1;have h2:=AV.eqL_of_beq _ _ h.2;subst h1;subst h2;exact qbe rfl
  |_=>simp[qng]at h
 |ptr b o=>
  unfold qng at h;unfold qat;cases v'<;>simp only[jC]at h ⊢;simp only[jd]at h;cases hl:qca b Φ with
  |none=>rw[hl]at h;cases h.1
  |some cs=>rw[hl]at h;exact⟨by rw[AV.eqL_of_beq _ _ h.1],Nat.eq_of_beq_eq_true h.2⟩
 |nilS=>unfold qng at h;unfold qat;cases v'<;>simp only[jC]at h ⊢;exact qu5 h
 |agg cs=>unfold qng at h;unfold qat;cases v'<;>simp only[jC]at h ⊢;exact .inl (qnh h)
 |tup cs=>unfold qng at h;unfold qat;cases v'<;>simp only[jC]at h ⊢;exact .inl (qnh h)
 |int k n=>
  unfold qng at h;unfold qat;cases v'<;>simp only[jC]at h ⊢
  ·simp
  ·simp only[jd,decide_eq_true_eq]at h;obtain⟨rfl,rfl⟩:=h;exact .inr ⟨rfl,rfl⟩
 |str s=>
  unfold qng at h;unfold qat;cases v'<;>simp only[jC]at h ⊢
  ·simp
  ·rw[eqN_eq,decide_eq_true_eq]at h;subst h;exact .inr ⟨rfl,rfl⟩
 |bool s=>
  unfold qng at h;unfold qat;cases v'<;>simp only[jC]at h ⊢
  ·simp
  ·simp only[beq_iff_eq]at h;subst h;exact .inr ⟨rfl,rfl⟩
 |_=>unfold qng at h;cases v'<;>simp only[jC]at h;simp[qat]
theorem qnh{Φ:List (Nat × List AV)}:∀{l l':List AV},qxi Φ l l'=true->qaz [] Φ l l':=by
 intro l l' h;cases l with
 |nil=>unfold qxi at h;unfold qaz;exact qu5 h
 |cons a r=>
  unfold qxi at h;unfold qaz;cases l' with
  |nil=>cases h
  |cons a' r'=>simp only[jd]at h;exact⟨zc4 h.1,qnh h.2⟩
end
def undefL:Nat->List AV->List AV
 |0,_=>[]
 |_+1,[]=>[]
 |n+1,_::r=>.undef::undefL n r
def undefA:List AV->List AV
 |[]=>[]
 |_::r=>.undef::undefA r
def qsu:List AV->List AV->List (AV × AV)->List (AV × AV)
 |a::r,b::s,acc=>(a,b)::qsu r s acc
 |_,_,acc=>acc
def zix(H:Heap):Nat->List (AV × AV)->List (Nat × List AV)->Option (List (Nat × List AV))
 |0,_,_=>none
 |n+1,todo,Φ=>match todo with
  |[]=>some Φ
  |x::r=>match x.1,x.2 with
   |.agg xs,.agg ys=>zix H n (qsu xs ys r) Φ
   |.tup xs,.tup ys=>zix H n (qsu xs ys r) Φ
   |.slc b o len _,.fslc sz es=>match len with
    |0=>zix H n r Φ
    |Nat.succ _=>match qca b Φ with
     |some _=>zix H n r Φ
     |none=>match H.get b with
      |some (.cells cs)=>zix H n (qsu (cs.drop o) (qa5 es) r) ((b,undefL o cs++qa5 es++undefA (cs.drop (o+len * sz)))::Φ)
      |_=>none
   |.ptr b _,.fptr ys _=>match qca b Φ with
    |some _=>zix H n r Φ
    |none=>match H.get b with
     |some (.cells cs)=>zix H n (qsu cs ys r) ((b,ys)::Φ)
     |_=>none
   |_,_=>zix H n r Φ
def qwm:List Nat->Bool
 |[]=>true
 |x::r=>match memT x r with
  |true=>false
  |false=>qwm r
theorem zbf{n:Nat}:∀{l:List Nat},memT n l=false->n ∉ l
 |[],_=>by simp
 |m::r,h=>by
  unfold memT at h;split at h
  ·cases h
  next hb=>have:n≠m:=fun e=>(by rw[e,jD]at hb;cases hb);simp[this,zbf h]
theorem qqw:∀{l:List Nat},qwm l=true->l.Nodup
 |[],_=>jS
 |x::r,h=>by
  unfold qwm at h;split at h
  ·cases h
  next hm=>exact jr.2 ⟨zbf hm,qqw h⟩
def zhs(H:Heap) (Φ:List (Nat × List AV)):List (Nat × List AV)->Bool
 |[]=>true
 |x::r=>(match H.get x.1 with
  |some (.cells cs)=>qxi Φ cs x.2 && qa9 x.2
  |_=>false) && zhs H Φ r
theorem qum{H:Heap} {Φ:List (Nat × List AV)}:∀{l:List (Nat × List AV)},zhs H Φ l=true->∀x,x∈l->∃cs,H.get x.1=some (.cells cs)/\qaz [] Φ cs x.2/\qa9 x.2=true
 |[],_,x,hx=>by cases hx
 |y::r,h,x,hx=>by
  unfold zhs at h;simp only[jd]at h;rcases ja.1 hx with rfl|hx
  ·have h1:=h.1;split at h1
   next cs hg=>simp only[jd]at h1;exact⟨cs,hg,qnh h1.1,h1.2⟩
   ·cases h1
  ·exact qum h.2 x hx
def litOK(lit:AV):Option (AV × Heap)->Bool
 |some (v,H)=>match zix H 100000 [(v,lit)] []with
  |some Φ=>qwm (Φ.map (·.1)) && zhs H Φ Φ && qng Φ v lit
  |none=>false
 |none=>false
theorem qxs{f:FuncId} {args:List AV} {lit:AV} (h:litOK lit (qru (ctx T) 100000 (.fn f) args zH)=true):CA T f args zH lit zH:=by
 revert h;cases hr:qru (ctx T) 100000 (.fn f) args zH with
 |none=>intro h;cases h
 |some r=>
  obtain⟨v,H'⟩:=r;intro h;unfold litOK at h;simp only at h;cases hc:zix H' 100000 [(v,lit)] []with
  |none=>rw[hc]at h;cases h
  |some Φ=>rw[hc]at h;simp only[jd]at h;exact((qzo mixed (zbd _ _ _) 100000).fn f args zH _ _ hr).freeze (zc4 h.2) (FitH.froze (qqw h.1.1) (qum h.1.2))
abbrev enc3:Str:=[239,191,189]
theorem enc_lit:litOK (.str enc3) (qru (ctx []) 100000 (.fn 98) [.int .i64 65533] zH)=true:=by decide +kernel
def e98:Entry PG:=mkE 98 [[]] (fun _:Unit=>[.int .i64 65533]) (fun _=>True) (fun _=>.str enc3) fun _ _=>qxs (T:=[]) enc_lit
theorem k98(hT:qIn 98 T e98) (H:Heap):qb7 (ctx T) (.fn 98) [.int .i64 65533] H=some (.str enc3,H):=
 qac hT (fun _ _ _=>rfl) () trivial rfl (by simp)
theorem zb8(s:Str):∀k i lo hi,1<=i->i<=s.length->i<=(ql9 s k i lo hi).1/\(ql9 s k i lo hi).1<=s.length
 |0,i,_,_,h1,h2=>⟨jc _,h2⟩
 |k+1,i,lo,hi,h1,h2=>by
  unfold ql9;split
  next hc=>simp only[qld,jd,decide_eq_true_eq]at hc;obtain⟨a,b⟩:=zb8 s k (i+1) 128 191 (by omega) (by omega);exact⟨by omega,b⟩
  ·exact⟨jc _,h2⟩
theorem qlv{s:Str} (h:0 < s.length):1<=(qdt s).1/\(qdt s).1<=s.length:=by
 unfold qdt;split
 ·exact⟨jc _,h⟩
 ·split
  ·exact⟨jc _,h⟩
  ·exact zb8 s _ 1 _ _ (jc _) h
def qbp(s:Str):Str × Nat:=if (qdt s).2=false\/cN s 0=0 then (enc3,(qdt s).1) else if cN s 0=13 then ([10],if 1 < s.length/\cN s 1=10 then 2 else (qdt s).1) else (s.take (qdt s).1,(qdt s).1)
def qj3:Nat->Str->Str
 |0,_=>[]
 |k+1,s=>if s=[] then [] else (qbp s).1++qj3 k (s.drop (qbp s).2)
def qgl(s:Str):Str:=qj3 s.length s
theorem qkm{s:Str} {i j:Nat}:cN (s.drop i) j=cN s (i+j):=by unfold cN;simp[List.getD_eq_getElem?_getD,List.getElem?_drop]
theorem c60(hO:qIn 97 T e97) (hE:qIn 98 T e98) (s:Str) (hl:s.length<=1000000):CA T 60 [aB s] zH (.str (qgl s)) zH:=by
 have ke:=fun H=>k98 hE H;refine qa1 (s0:=⟨[0,2,3,4,5,6],[aB s,uD,uD,uD,uD,uD],[],64,⟨0,[[]]⟩⟩) Tryz.func60 rfl rfl rfl ?_;apply qR;simp[zS];apply qR;simp[zS];apply qR;simp[zS];refine qa7 (qb1 (fun x:Nat × Str × Nat=>(⟨[0,2,3,4,5,6],[aB s,.str [],gV 0 x.2.1,.int .i64 (x.2.2:Nat),uD,uD],[],64,⟨1,[gF 0 x.2.1]⟩⟩ : St))
  (fun x=>x.2.2<=s.length/\s.length<=x.2.2+x.1/\x.2.1++qj3 x.1 (s.drop x.2.2)=qgl s/\x.2.1.length<=3 * x.2.2) (fun x=>x.1) [] [] (s.length,[],0) ⟨jh _,by simp,by simp[qgl],by simp⟩
  ⟨rfl,rfl,rfl,by simp[qaz,qat,qab,aB,gV],.keep0 (by simp[gF])⟩ ?_)
 rintro⟨k,out,i⟩ ⟨hi,hk,hd,hol⟩ B hB;simp only at hi hk hd hol hB;by_cases h:i < s.length
 ·obtain⟨k,rfl⟩ : ∃k',k=k'+1:=⟨k - 1,by omega⟩;have hx:(i:Int) < (s.length:Int):=by omega
  have hdl:0 < (s.drop i).length:=by rw[j9];omega
  have ko:=fun H=>k97 hO (s:=s.drop i) hdl (by rw[j9];omega) H;have hsl:=fun H=>slB (H:=H) (s:=s) (i:=i) (by omega);have hat:=atB h;rw[qkl h]at hat;obtain⟨n1,n2⟩:=qlv hdl;have hstep:qj3 (k+1) (s.drop i)=(qbp (s.drop i)).1++qj3 k ((s.drop i).drop (qbp (s.drop i)).2):=by have:¬ s.drop i=[]:=fun e=>(by rw[e]at hdl;simp at hdl);simp only[qj3,if_neg this]
  rw[hstep]at hd;have hc0:cN (s.drop i) 0=cN s i:=by rw[qkm,y4]
  have hc1:cN (s.drop i) 1=cN s (i+1):=qkm;have hds:qbp (s.drop i)=if (qdt (s.drop i)).2=false\/cN s i=0 then (enc3,(qdt (s.drop i)).1) else if cN s i=13 then ([10],if 1 < (s.drop i).length/\cN s (i+1)=10 then 2 else (qdt (s.drop i)).1) else ((s.drop i).take (qdt (s.drop i)).1,(qdt (s.drop i)).1):=by unfold qbp;rw[hc0,hc1]
  rw[j9]at n2 hds;generalize hone:qdt (s.drop i)=o at *;obtain⟨n,ok⟩:=o;simp only[oneA]at ko n1 n2 hds;obtain⟨c,hc⟩ : ∃c,c=cN s i:=⟨_,rfl⟩;rw[<- hc]at hat hds;have hadd:∀j:Nat,j<=1000000->wr .i64 ((i:Int)+(j:Int))=some ((i+j:Nat):Int):=fun j hj=>by rw[qdi (by omega) (by omega)];simp
  have put:∀(t:Str) (m j:Nat) (g:List (Nat × Blk)) (v5 v6:AV) (L m':Nat) (J:Int) (ts:List (Nat × AV)),L=t.length->J=j->0 < t.length->t.length<=3 * j->1<=j->i+j<=s.length->qbp (s.drop i)=(t,j) ->
    B { (⟨[0,2,3,4,5,6],[aB s,.str [],.slc m 0 (out.length+L) (.rest 1),.int .i64 ((i:Int)+J),v5,v6],[],64,⟨m',[(m,.buf 5 0 (qad (out++t)))::g]⟩⟩ : St)with ts:=ts }:=fun t m j g v5 v6 L m' J ts hL hJ ht htl hj hij hst=>by
   subst hL;subst hJ;have hne:out++t≠[]:=fun e=>(by have:=congrArg List.length e;simp at this;rw[this.2]at ht;simp at ht);refine hB _ (k,out++t,i+j) (by simp only;omega) ⟨by simp only;omega,by simp only;omega,?_,by simp only[jo];omega⟩ ⟨[(m,0)],[],rfl,rfl,rfl,?_,fit_g (b:=m) hne (by simp[zG])⟩
   ·simp only;rw[<- hd,hst,List.append_assoc,List.drop_drop]
   ·have:=fitV_g (σ:=[(m,0)]) (Φ:=[]) (b:=m) (s:=out++t) (by simp[qb2]) hne;rw[jo]at this;simp[qaz,qab,aB,this];exact⟨qbe rfl,qbe rfl,qbe rfl⟩
  apply qR;simp[zS,qsb,hx,h];apply qaj rfl;apply qa4;simp;apply qa7;apply qR;simp[zS,hsl,ko];have bad:∀{Q:Out->St->Prop},True:=fun {_}=>trivial;by_cases hb:ok=false\/c=0
  ·have hst:qbp (s.drop i)=(enc3,n):=(by rw[hds,if_pos hb]);have happ:=app_g (m:=1) (s:=out) (t:=enc3) (x:=.str enc3) (g:=[]) rfl rfl rfl (by decide) (by simp;omega);simp only[jq]at happ;have hfin:=fun ts=>put enc3 1 n [] (.int .i64 (n:Int)) (.bool ok) 3 2 n ts rfl rfl (by decide) (by simp;omega) n1 (by omega) hst;cases ok with
   |false=>apply qR;simp[zS];apply qaj rfl;apply qR;simp[zS,ke,happ];apply qR;simp[zS,hadd n (by omega)];exact hfin _
   |true=>have hc00:c=0:=(by simpa using hb);subst hc00;apply qR;simp[zS,hat];apply qaj rfl;apply qR;simp[zS,ke,happ];apply qR;simp[zS,hadd n (by omega)];exact hfin _
  ·have hok:ok=true:=(by cases ok<;>simp at hb ⊢);subst hok;have hcn:¬ c=0:=fun e=>hb (.inr e);have hcn':¬ (c:Int)=0:=(by omega);apply qR;simp[zS,hat,hcn,hcn'];apply qag rfl;rw[if_neg hb]at hds;by_cases h13:c=13
   ·have h13':(c:Int)=13:=(by omega);rw[if_pos h13]at hds;apply qR;simp[zS,hat,h13'];apply qaj rfl;have happ:=app_g (m:=2) (s:=out) (t:=[10]) (x:=.slc 1 0 1 (.ex 1)) (g:=[(1,.cells [.int .u8 10])]) rfl (by simp[qbb,readCells,zG,qad]) (by simp[getF]) (by decide) (by simp;omega);simp only[List.cons_append,jq]at happ;apply qR;simp[zS,happ];obtain⟨i1,hi1⟩ : ∃i1,i1=i+1:=⟨_,rfl⟩;have ha1:wr .i64 ((i:Int)+1)=some ((i1:Nat):Int):=(by rw[hi1];exact qbd (by omega));rw[<- hi1]at hds;by_cases q1:i1 < s.length
    ·have q1':(i1:Int) < (s.length:Int):=(by omega);have hat1:=atB q1;rw[qkl q1]at hat1;obtain⟨d,hd1⟩ : ∃d,d=cN s i1:=⟨_,rfl⟩;rw[<- hd1]at hat1 hds;by_cases q2:d=10
     ·have q2':(d:Int)=10:=(by omega);rw[if_pos ⟨by omega,q2⟩]at hds;apply qR;simp[zS,ha1,qsb,q1,q1',hat1,q2'];apply qaj rfl;apply qR;simp[zS];have h2:wr .i64 ((i:Int)+2)=some ((i:Int)+2):=qdi (by omega) (by omega);apply qR;simp[zS,h2];exact put [10] 2 2 _ (.int .i64 2) _ 1 3 2 _ rfl rfl (by decide) (by simp) (by omega) (by omega) hds
     ·have q2':¬ (d:Int)=10:=(by omega);rw[if_neg (fun e=>q2 e.2)]at hds;apply qR;simp[zS,ha1,qsb,q1,q1',hat1,q2'];apply qag rfl;apply qa4;simp;apply qR;simp[zS,hadd n (by omega)];exact put [10] 2 n _ (.int .i64 (n:Int)) _ 1 3 n _ rfl rfl (by decide) (by simp;omega) n1 (by omega) hds
    ·have q1':¬ (i1:Int) < (s.length:Int):=(by omega);rw[if_neg (fun e=>q1 (by omega))]at hds;apply qR;simp[zS,ha1,qsb,q1,q1'];apply qag rfl;apply qa4;simp;apply qR;simp[zS,hadd n (by omega)];exact put [10] 2 n _ (.int .i64 (n:Int)) _ 1 3 n _ rfl rfl (by decide) (by simp;omega) n1 (by omega) hds
   ·have h13':¬ (c:Int)=13:=(by omega);rw[if_neg h13]at hds;have hsl2:=fun H=>slB2 (H:=H) (s:=s) (i:=i) (j:=i+n) (by omega) (by omega);have htk:(s.take (i+n)).drop i=(s.drop i).take n:=(by rw[List.drop_take];congr 1;omega);have htl:((s.drop i).take n).length=n:=(by simp;omega);have happ:=app_g (m:=1) (s:=out) (t:=(s.drop i).take n) (x:=aB ((s.drop i).take n)) (g:=[]) (by simp[aB,qc7,qj7]) (by have:=ql3 ((s.drop i).take n);simp only[aB,qbb,jD];rw[jz (by rw[qj7];omega),this]) rfl (by omega) (by omega);simp only[jq]at happ;simp only[htk,Int.natCast_add]at hsl2;have hfin:=fun ts=>put ((s.drop i).take n) 1 n [] (.int .i64 (n:Int)) (.bool true) _ 2 n ts rfl rfl (by omega) (by omega) n1 (by omega) hds;apply qR;simp[zS,hat,h13'];apply qag rfl;have ha:=hadd n (by omega);generalize (s.drop i).take n=t at *;apply qR;simp[zS,ha,hsl2,happ];apply qR;simp[zS,ha];exact hfin _
 ·have hx:¬ (i:Int) < (s.length:Int):=by omega
  have hie:i=s.length:=by omega
  subst hie;have hnil:qj3 k (s.drop s.length)=[]:=by rw[List.drop_length];cases k<;>simp[qj3]
  rw[hnil,jg]at hd;subst hd;apply qR;simp[zS,qsb];refine qag (by simp[qc0,St.get]) ?_;apply qau;simp;apply qR;simp[zS,conv_g];apply qa3;simp[zQ,Tryz.f60];exact qa2 rfl (by rfl)
def e60:Entry PG:=mkE 60 [[1]] (fun x:Str=>[aB x]) (fun x=>x.length<=1000000) (fun x=>.str (qgl x)) fun x h=>c60 (T:=[e97,e98]) rfl rfl x h
theorem k60(hT:qIn 60 T e60) {s:Str} (hl:s.length<=1000000) {cap:Cap} {b:Nat} (H:Heap) (hb:H.get b=some (.cells (qad s))):qb7 (ctx T) (.fn 60) [.slc b 0 s.length cap] H=some (.str (qgl s),H):=by refine qac hT qx2 s hl rfl ?_;have:=qq6 (r:=[]) (cap:=cap) (zc7 s) (by rw[ql3];exact hb);rw[qj7]at this;simp[this,aB]
def qjc(s:Str):Bool:=decide (qgl s=s)
theorem c109(hD:qIn 60 T e60) (s:Str) (hl:s.length<=1000000):CA T 109 [.str s] zH (.bool (qjc s)) zH:=by have hk:=k60 hD (s:=s) hl (cap:=.rest 1) (b:=0) (qes 1 s) (by simp[qes,zG]);refine qa1 (s0:=⟨[0,2],[.str s,uD],[],8,⟨0,[[]]⟩⟩) Tryz.func109 rfl rfl rfl ?_;apply qR;simp[zS];apply qR;simp[zS,conv1 hl,hk];apply qa3;simp[zQ,Tryz.f109];exact qa2 rfl (by rfl)
def e109:Entry PG:=mkE 109 [[]] (fun x:Str=>[.str x]) (fun x=>x.length<=1000000) (fun x=>.bool (qjc x)) fun x h=>c109 (T:=[e60]) rfl x h
theorem k109(hT:qIn 109 T e109) {s:Str} (hl:s.length<=1000000) (H:Heap):qb7 (ctx T) (.fn 109) [.str s] H=some (.bool (qjc s),H):=
 qac hT qz4 s hl rfl (by simp)
def qu2(n b0 b1 b2 b3:Nat):Nat × Bool:=
 if b0 < 128 then (1,true) else if qdg b0=0 then (1,false)
 else if ¬ (1 < n/\loN b0<=b1/\b1<=hiN b0) then (1,false) else if qdg b0=1 then (2,true)
 else if ¬ (2 < n/\128<=b2/\b2<=191) then (2,false) else if qdg b0=2 then (3,true)
 else if ¬ (3 < n/\128<=b3/\b3<=191) then (3,false) else (4,true)
theorem qou(s:Str):qdt s=qu2 s.length (cN s 0) (cN s 1) (cN s 2) (cN s 3):=by
 unfold qdt qu2;generalize cN s 0=c;have h3:=qu7 c;have hc:∀i lo hi,(qld s i lo hi=true)=(i < s.length/\lo<=cN s i/\cN s i<=hi):=fun i lo hi=>by simp[qld]
 obtain h|h|h|h:qdg c=0\/qdg c=1\/qdg c=2\/qdg c=3:=by omega
 all_goals
  simp only[h,ql9,hc,ite_not,Nat.reduceEqDiff,if_true,if_false,Nat.reduceAdd];try (repeat' split)<;>first|rfl|(exfalso;omega)
set_option maxHeartbeats 1000000 in
theorem qsy(n b0 b1 b2 b3:Nat) (hn:1<=n) (h0:b0 < 256) (h1:b1 < 256) (h2:b2 < 256) (h3:b3 < 256) :
  ((qu2 n b0 b1 b2 b3).2=false/\Lib.decodeN n b0 b1 b2 b3=(65533,1))\/((qu2 n b0 b1 b2 b3).2=true/\(Lib.decodeN n b0 b1 b2 b3).2=(qu2 n b0 b1 b2 b3).1/\¬ ((Lib.decodeN n b0 b1 b2 b3).1=65533/\(Lib.decodeN n b0 b1 b2 b3).2=1)):=by
 by_cases ha:b0 < 128
 ·exact .inr ⟨by simp[qu2,ha],by simp[qu2,Lib.decodeN,ha],by simp[Lib.decodeN,ha];omega⟩
 rcases Lib.check_decode n b0 b1 b2 b3 hn (by omega) h0 h1 h2 h3 with⟨g1,g2⟩|⟨k,hk,g1,g2⟩;all_goals
  have cls:b0 < 194\/(194<=b0/\b0 < 224)\/b0=224\/(225<=b0/\b0 < 237)\/b0=237\/(238<=b0/\b0 < 240)\/b0=240\/(241<=b0/\b0 < 244)\/b0=244\/245<=b0:=by omega
  have F:∀m l h x y z,qdg b0=m->loN b0=l->hiN b0=h->Lib.firstT b0 % 8=x->Lib.accLo (Lib.firstT b0 / 16)=y->Lib.accHi (Lib.firstT b0 / 16)=z->(m=0/\4 < x\/m=0/\x < 2\/x=m+1/\1<=m/\m<=3/\y=l/\z=h) ->
    ((qu2 n b0 b1 b2 b3).2=false/\Lib.checkN n b1 b2 b3 x y z=none)\/((qu2 n b0 b1 b2 b3).2=true/\Lib.checkN n b1 b2 b3 x y z=some (qu2 n b0 b1 b2 b3).1):=by
   intro m l h x y z e1 e2 e3 _ _ _ hh;simp only[qu2,ha,if_false,e1,e2,e3,Lib.checkN,ite_not];rcases hh with⟨rfl,hx⟩|⟨rfl,hx⟩|⟨rfl,hm1,hm2,rfl,rfl⟩
   ·left;simp only[if_true];refine⟨trivial,?_⟩;rw[if_neg (by omega),if_neg (by omega),if_neg (by omega)]
   ·left;simp only[if_true];refine⟨trivial,?_⟩;rw[if_neg (by omega),if_neg (by omega),if_neg (by omega)]
   ·obtain rfl|rfl|rfl:m=1\/m=2\/m=3:=(by omega);all_goals
     simp only[Nat.reduceEqDiff,if_false,if_true,Nat.reduceAdd]
     (repeat' split)<;>first|(exfalso;omega)|(left;exact⟨rfl,rfl⟩)|(right;exact⟨rfl,rfl⟩)
  have G:((qu2 n b0 b1 b2 b3).2=false/\Lib.checkN n b1 b2 b3 (Lib.firstT b0 % 8) (Lib.accLo (Lib.firstT b0 / 16)) (Lib.accHi (Lib.firstT b0 / 16))=none)\/((qu2 n b0 b1 b2 b3).2=true/\Lib.checkN n b1 b2 b3 (Lib.firstT b0 % 8) (Lib.accLo (Lib.firstT b0 / 16)) (Lib.accHi (Lib.firstT b0 / 16))=some (qu2 n b0 b1 b2 b3).1):=by refine F _ _ _ _ _ _ rfl rfl rfl rfl rfl rfl ?_;have k1:∀c:Fin 256,128<=c.val->(qdg c.val=0/\4 < Lib.firstT c.val % 8\/qdg c.val=0/\Lib.firstT c.val % 8 < 2\/Lib.firstT c.val % 8=qdg c.val+1/\1<=qdg c.val/\qdg c.val<=3/\Lib.accLo (Lib.firstT c.val / 16)=loN c.val/\Lib.accHi (Lib.firstT c.val / 16)=hiN c.val):=(by decide +kernel);exact k1 ⟨b0,h0⟩ (by simp only;omega)
  rcases G with⟨G1,G2⟩|⟨G1,G2⟩
 ·exact .inl ⟨G1,g2⟩
 ·rw[g1]at G2;cases G2
 ·rw[g1]at G2;cases G2
 ·rw[g1]at G2;simp only[sj]at G2;exact .inr ⟨G1,by rw[g2,G2],by omega⟩
theorem zgg(s:Str) (h:0 < s.length):((qdt s).2=false/\Lib.decodeL s=(65533,1))\/((qdt s).2=true/\(Lib.decodeL s).2=(qdt s).1/\¬ ((Lib.decodeL s).1=65533/\(Lib.decodeL s).2=1)):=by rw[qou,Lib.decodeL_N];exact qsy _ _ _ _ _ (by omega) (UInt8.toNat_lt _) (UInt8.toNat_lt _) (UInt8.toNat_lt _) (UInt8.toNat_lt _)
theorem zb7{s:Str} (h:(qdt s).2=true):cN s 0 < 128/\(qdt s).1=1\/128<=cN s 0/\2<=(qdt s).1/\(qdt s).1<=s.length/\∀k,k < (qdt s).1->128<=cN s k:=by
 rw[qou]at h ⊢;unfold qu2 at h ⊢;by_cases ha:cN s 0 < 128
 ·left;simp[ha]
 right;simp only[ha,if_false]at h ⊢;split at h
 ·cases h
 rename_i hm;rw[if_neg hm];have hlo:128<=loN (cN s 0):=by unfold loN;(repeat' split)<;>omega
 split at h
 ·cases h
 rename_i g1;rw[if_neg g1];simp only[Decidable.not_not]at g1;have k4:∀m k,k < m->m<=4->k=0\/k=1\/(2 < m/\k=2)\/(3 < m/\k=3):=fun m k h1 h2=>by omega
 split at h
 next m1=>rw[if_pos m1];refine⟨by omega,by simp,by simp;omega,fun k hk=>?_⟩;rcases k4 2 k hk (by omega)with rfl|rfl|h|h<;>omega
 rename_i m1;rw[if_neg m1];split at h
 ·cases h
 rename_i g2;rw[if_neg g2];simp only[Decidable.not_not]at g2;split at h
 ·rename_i m2;rw[if_pos m2];refine⟨by omega,by simp,by simp;omega,fun k hk=>?_⟩;rcases k4 3 k hk (by omega)with rfl|rfl|h|h
  ·omega
  ·omega
  ·rw[h.2];omega
  ·omega
 rename_i m2;rw[if_neg m2];split at h
 ·cases h
 rename_i g3;rw[if_neg g3];simp only[Decidable.not_not]at g3;refine⟨by omega,by simp,by simp;omega,fun k hk=>?_⟩;rcases k4 4 k hk (by omega)with rfl|rfl|h|h
 ·omega
 ·omega
 ·rw[h.2];omega
 ·rw[h.2];omega
theorem mem_cN{s:Str} {c:UInt8} (h:c∈s):∃i,i < s.length/\cN s i=c.toNat:=by obtain⟨i,hi,rfl⟩:=yp h;exact⟨i,hi,(qkl hi).symm⟩
theorem cN_mem{s:Str} {i:Nat} (h:i < s.length):∃c,c∈s/\c.toNat=cN s i:=⟨s[i],jy h,qkl h⟩
theorem zbg{s:Str} (n:Nat) (h:∀k,k < n->128<=cN s k) {m:Nat} (hm:m < 128):(∃i,i < s.length/\cN s i=m)↔∃i,i < (s.drop n).length/\cN (s.drop n) i=m:=by
 constructor
 ·rintro⟨i,hi,hc⟩;have:n<=i:=by apply yA;intro hn;have:=h i (by omega);omega
  exact⟨i - n,by rw[j9];omega,by rw[qkm,show n+(i - n)=i by omega];exact hc⟩
 ·rintro⟨i,hi,hc⟩;rw[j9]at hi;exact⟨n+i,by omega,by rw[<- qkm];exact hc⟩
def zef(s:Str) (m:Nat):Prop:=∃i,i < s.length/\cN s i=m
theorem zbu{s:Str} (h:0 < s.length) {m:Nat}:zef s m↔cN s 0=m\/zef (s.drop 1) m:=by
 constructor
 ·rintro⟨i,hi,hc⟩;cases i with
  |zero=>exact .inl hc
  |succ i=>exact .inr ⟨i,by rw[j9];omega,by rw[qkm,Nat.add_comm];exact hc⟩
 ·rintro(hc|⟨i,hi,hc⟩)
  ·exact⟨0,h,hc⟩
  ·rw[j9]at hi;exact⟨1+i,by omega,by rw[<- qkm];exact hc⟩
theorem zjn{s:Str} (h:s=enc3++s.drop 3) (h3:3<=s.length):(qdt s).2=true:=by
 have e:∀i,i < 3->cN s i=cN enc3 i:=fun i hi=>by rw[h];unfold cN;simp only[List.getD_eq_getElem?_getD];rw[List.getElem?_append_left (by simpa using hi)]
 have c0:=e 0 (by omega);have c1:=e 1 (by omega);have c2:=e 2 (by omega);rw[qou,c0,c1,c2];have:qu2 s.length (cN enc3 0) (cN enc3 1) (cN enc3 2) (cN s 3)=(3,true):=by
  have a0:cN enc3 0=239:=by decide
  have a1:cN enc3 1=191:=by decide
  have a2:cN enc3 2=189:=by decide
  have m:qdg 239=2:=by decide
  have l:loN 239=128:=by decide
  have hh:hiN 239=191:=by decide
  unfold qu2;rw[a0,a1,a2,m,l,hh,if_neg (by omega),if_neg (by omega),if_neg (by omega),if_neg (by omega),if_neg (by omega),if_pos rfl]
 rw[this]
theorem qv3:∀(k m:Nat) (s:Str),s.length<=k->s.length<=m->qj3 k s=qj3 m s
 |0,m,s,h,_=>by have:s=[]:=yd (by omega);subst this;cases m<;>simp[qj3]
 |k+1,0,s,_,h=>by have:s=[]:=yd (by omega);subst this;simp[qj3]
 |k+1,m+1,s,h1,h2=>by
  unfold qj3;by_cases hs:s=[]
  ·simp[hs]
  ·rw[if_neg hs,if_neg hs];have hl:0 < s.length:=j8.2 hs;have hj:1<=(qbp s).2:=by
    have:=(qlv hl).1;unfold qbp
    (repeat' split)<;>simp only<;>omega
   rw[qv3 k m (s.drop (qbp s).2) (by rw[j9];omega) (by rw[j9];omega)]
theorem qkf{s:Str} (hs:s≠[]):qgl s=(qbp s).1++qgl (s.drop (qbp s).2):=by
 have hl:0 < s.length:=j8.2 hs;have hj:1<=(qbp s).2:=by
  have:=(qlv hl).1;unfold qbp
  (repeat' split)<;>simp only<;>omega
 unfold qgl;rw[qv3 s.length (s.length - 1+1) s (jc _) (by omega)]
 conv=>lhs;unfold qj3
 rw[if_neg hs,qv3 (s.length - 1) (s.drop (qbp s).2).length _ (by rw[j9];omega) (jc _)]
theorem qvn:∀(k:Nat) (s:Str),s.length<=k->(qgl s=s↔Lib.validD s=true/\¬ zef s 0/\¬ zef s 13)
 |0,s,h=>by have:s=[]:=yd (by omega);subst this;simp[qgl,qj3,Lib.validD_nil,zef]
 |k+1,s,h=>by
  by_cases hs:s=[]
  ·subst hs;simp[qgl,qj3,Lib.validD_nil,zef]
  have hl:0 < s.length:=j8.2 hs;have hone:=qlv hl;rw[qkf hs,Lib.validD_step s hs];rcases zgg s hl with⟨g1,g2⟩|⟨g1,g2,g3⟩
  ·rw[g2];simp only[and_self,if_true,jC,false_and,iff_false];intro he;have hst:qbp s=(enc3,(qdt s).1):=(by unfold qbp;rw[if_pos (.inl g1)]);rw[hst]at he;have hlen:=congrArg List.length he;simp only[jo,jx,jW]at hlen;have hd:s.drop 3=qgl (s.drop (qdt s).1):=(by have:=congrArg (List.drop 3) he;simpa using this.symm);have:(qdt s).2=true:=zjn (by rw[hd];exact he.symm) (by omega);rw[g1]at this;cases this
  ·rw[if_neg g3,g2];have hdl:(s.drop (qdt s).1).length<=k:=(by rw[j9];omega);have ih:=qvn k (s.drop (qdt s).1) hdl;by_cases h0:cN s 0=0
   ·have hst:qbp s=(enc3,(qdt s).1):=(by unfold qbp;rw[if_pos (.inr h0)]);rw[hst];constructor
    ·intro he;have hc:cN s 0=239:=(by rw[<- he];rfl);omega
    ·exact fun⟨_,hn,_⟩=>absurd ⟨0,hl,h0⟩ hn
   by_cases h13:cN s 0=13
   ·constructor
    ·intro he;have hst:(qbp s).1=[10]:=(by unfold qbp;rw[if_neg (by simp[g1,h0]),if_pos h13]);rw[hst]at he;have hc:cN s 0=10:=(by rw[<- he];rfl);omega
    ·exact fun⟨_,_,hn⟩=>absurd ⟨0,hl,h13⟩ hn
   have hst:qbp s=(s.take (qdt s).1,(qdt s).1):=(by unfold qbp;rw[if_neg (by simp[g1,h0]),if_neg h13]);rw[hst];have e1:(s.take (qdt s).1++qgl (s.drop (qdt s).1)=s)↔qgl (s.drop (qdt s).1)=s.drop (qdt s).1:=by
    constructor
    ·intro he;have:s.take (qdt s).1++qgl (s.drop (qdt s).1)=s.take (qdt s).1++s.drop (qdt s).1:=(by rw[yt];exact he);exact List.append_cancel_left this
    ·intro he;rw[he,yt]
   simp only;rw[e1,ih];rcases zb7 g1 with⟨q1,q2⟩|⟨q1,q2,q3,q4⟩
   ·rw[q2];have a0:=zbu hl (m:=0);have a1:=zbu hl (m:=13);rw[a0,a1];simp[h0,h13]
   ·have a0:zef s 0↔zef (s.drop (qdt s).1) 0:=zbg _ q4 (by omega);have a1:zef s 13↔zef (s.drop (qdt s).1) 13:=zbg _ q4 (by omega);rw[a0,a1]
def qsc(p:Nat->Bool) (s:Str):Bool:=s.any fun c=>p c.toNat
theorem quj{p:Nat->Bool} {s:Str}:qsc p s=true↔∃i,i < s.length/\p (cN s i)=true:=by
 unfold qsc;rw[List.any_eq_true];constructor
 ·rintro⟨c,hc,hp⟩;obtain⟨i,h1,h2⟩:=mem_cN hc;exact⟨i,h1,by rw[h2];exact hp⟩
 ·rintro⟨i,hi,hp⟩;obtain⟨c,h1,h2⟩:=cN_mem hi;exact⟨c,h1,by rw[h2];exact hp⟩
def qyj(p:Nat->Bool):Nat->Str->Nat->Int
 |0,_,_=>-1
 |k+1,s,pos=>if s=[] then -1 else if p (Lib.decodeL s).1=true then pos else qyj p k (s.drop (Lib.decodeL s).2) (pos+(Lib.decodeL s).2)
theorem zfo{n b0 b1 b2 b3:Nat} (h:128<=b0):128<=(Lib.decodeN n b0 b1 b2 b3).1:=by
 unfold Lib.decodeN
 (repeat' split)<;>simp only<;>omega
theorem qxq{s:Str} (h:0 < s.length):cN s 0 < 128/\Lib.decodeL s=(cN s 0,1)\/128<=cN s 0/\128<=(Lib.decodeL s).1/\1<=(Lib.decodeL s).2/\(Lib.decodeL s).2<=s.length/\∀k,k < (Lib.decodeL s).2->128<=cN s k:=by
 by_cases ha:cN s 0 < 128
 ·left;refine⟨ha,?_⟩;rw[Lib.decodeL_N];exact Lib.decodeN_ascii _ _ _ _ _ ha
 right;have hi:128<=(Lib.decodeL s).1:=by rw[Lib.decodeL_N];exact zfo (by show 128<=cN s 0;omega)
 refine⟨by omega,hi,?_⟩;rcases zgg s h with⟨g1,g2⟩|⟨g1,g2,g3⟩
 ·rw[g2];refine⟨jc _,h,fun k hk=>?_⟩;have:k=0:=by simp only at hk;omega
  subst this;omega
 ·rw[g2];rcases zb7 g1 with⟨q1,_⟩|⟨q1,q2,q3,q4⟩
  ·omega
  ·exact⟨by omega,q3,q4⟩
theorem dec_rune(s:Str):(Lib.decodeL s).1<=1114111:=Lib.decodeL_rune s
theorem zhk{p:Nat->Bool} (hp:∀r,p r=true->r < 128) {s:Str} (n:Nat) (h:∀k,k < n->128<=cN s k):qsc p s=qsc p (s.drop n):=by
 rw[jP,quj,quj];constructor
 ·rintro⟨i,hi,hc⟩;have:n<=i:=by apply yA;intro hn;have:=h i (by omega);have:=hp _ hc;omega
  exact⟨i - n,by rw[j9];omega,by rw[qkm,show n+(i - n)=i by omega];exact hc⟩
 ·rintro⟨i,hi,hc⟩;rw[j9]at hi;exact⟨n+i,by omega,by rw[<- qkm];exact hc⟩
theorem zhl{p:Nat->Bool} {s:Str} (h:0 < s.length):qsc p s=(p (cN s 0) || qsc p (s.drop 1)):=by
 cases s with
 |nil=>simp at h
 |cons c r=>simp[qsc,cN]
theorem qtz{p:Nat->Bool} (hp:∀r,p r=true->r < 128):∀(k:Nat) (s:Str) (pos:Nat),s.length<=k->(0<=qyj p k s pos↔qsc p s=true)
 |0,s,pos,h=>by have:s=[]:=yd (by omega);subst this;simp[qyj,qsc]
 |k+1,s,pos,h=>by
  unfold qyj;by_cases hs:s=[]
  ·subst hs;simp[qsc]
  rw[if_neg hs];have hl:0 < s.length:=j8.2 hs;rcases qxq hl with⟨g1,g2⟩|⟨g1,g2,g3,g4,g5⟩
  ·rw[g2,zhl hl];by_cases hc:p (cN s 0)=true
   ·simp[hc]
   ·rw[if_neg hc,qtz hp k _ _ (by rw[j9];omega)];simp[hc]
  ·have hn:¬ p (Lib.decodeL s).1=true:=fun e=>(by have:=hp _ e;omega);rw[if_neg hn,qtz hp k _ _ (by rw[j9];omega),zhk hp _ g5]
theorem zfu{p:Nat->Bool} {k pos:Nat}:qyj p k [] pos = -1:=by cases k<;>simp[qyj]
theorem rIdx_yes{p:Nat->Bool} {k pos:Nat} {s:Str} (hs:s≠[]) (h:p (Lib.decodeL s).1=true):qyj p (k+1) s pos=pos:=by unfold qyj;rw[if_neg hs,if_pos h]
theorem rIdx_no{p:Nat->Bool} {k pos:Nat} {s:Str} (hs:s≠[]) (h:p (Lib.decodeL s).1=false):qyj p (k+1) s pos=qyj p k (s.drop (Lib.decodeL s).2) (pos+(Lib.decodeL s).2):=by
 conv=>lhs;unfold qyj
 rw[if_neg hs,if_neg (by rw[h];decide)]
theorem dec_pos{s:Str} {i:Nat}:Utf8.decode ⟨s.toArray⟩ i=Lib.decodeL (s.drop i):=by have:=Lib.decodeL_drop ⟨s.toArray⟩ i;simpa using this.symm
@[simp]theorem frU_range{d:Option Tmp} {t:TypeId} {l:Operand} {ty:TypeId} {pos:String} {af:Array Edge} {g:Option (Nat × Bool)} {s:St}:qbw s ⟨d,.range t l,ty,pos,af,g⟩=s:=rfl
@[simp]theorem frU_next{d:Option Tmp} {b:Bool} {l:Operand} {ty:TypeId} {pos:String} {af:Array Edge} {g:Option (Nat × Bool)} {s:St}:qbw s ⟨d,.next l b,ty,pos,af,g⟩=s:=rfl
theorem itU_yes{m b i:Nat} {s:Str} {g:List (Nat × Blk)} (h:i < s.length):qs8 ⟨m,[(b,.iter s i)::g]⟩ b=some (.tup [.bool true,.int .i64 i,.int .i32 ((Lib.decodeL (s.drop i)).1:Int)],⟨m,[(b,.iter s (i+(Lib.decodeL (s.drop i)).2))::g]⟩):=by
 have hb:Nat.blt i s.length=true:=by simpa using h
 simp[qs8,zG,hb,dec_pos,Heap.set,setFs,setF]
theorem itU_no{m b i:Nat} {s:Str} {g:List (Nat × Blk)} (h:¬ i < s.length):qs8 ⟨m,[(b,.iter s i)::g]⟩ b=some (.tup [.bool false],⟨m,[(b,.iter s i)::g]⟩):=by
 have hb:Nat.blt i s.length=false:=by
  cases hq:Nat.blt i s.length with
  |false=>rfl
  |true=>exact absurd (by simpa using hq) h
 simp[qs8,zG,hb]
theorem fit_it{m:Nat} {s:Str} {i:Nat}:FitH 0 [(0,0)] [] ⟨m,[[(0,.iter s i)]]⟩ ⟨1,[[(0,.iter s i)]]⟩ where
 nd1:=by simp
 nd2:=by simp
 nd3:=by simp[Heap.ents]
 lt:=fun x hx=>by simp at hx;subst hx;simp
 idn:=fun x hx h=>by rcases h with h|h<;>exact absurd h (jk _)
 num:=jh _
 src:=fun e he=>by simp[Heap.ents]at he;subst he;exact⟨0,.iter s i,by simp,by simp[zG],rfl,rfl⟩
 frz:=fun x hx=>by cases hx
def qyu:Go.Shelf.Ren:=⟨fun | 196=>147 | 259=>180|n=>n,fun | 0=>0 | 3=>3 | 4=>4 | 5=>5 | 9=>9 | 12=>12 | 46=>130 | 53=>156 | 119=>129 | 138=>132 | 139=>133|n=>n,fun | 3=>0 | 4=>1|n=>n⟩
theorem lays196:Go.Proofs.Lays.n196 PG qyu where
 mixed:=by kernel_rfl
 f196:=Tryz.func147.trans (congrArg some (by kernel_rfl))
 f259:=Tryz.func180.trans (congrArg some (by kernel_rfl))
 t0:=Tryz.underlying0
 a0:=Tryz.isAgg0
 z0:=Tryz.sizeOf0
 v0:=Tryz.zeroValue0
 t3:=Tryz.underlying3
 a3:=Tryz.isAgg3
 z3:=Tryz.sizeOf3
 v3:=Tryz.zeroValue3
 t4:=Tryz.underlying4
 a4:=Tryz.isAgg4
 z4:=Tryz.sizeOf4
 v4:=Tryz.zeroValue4
 t5:=Tryz.underlying5
 a5:=Tryz.isAgg5
 z5:=Tryz.sizeOf5
 v5:=Tryz.zeroValue5
 t9:=Tryz.underlying9
 a9:=Tryz.isAgg9
 z9:=Tryz.sizeOf9
 v9:=Tryz.zeroValue9
 t12:=Tryz.underlying12
 a12:=Tryz.isAgg12
 z12:=Tryz.sizeOf12
 v12:=Tryz.zeroValue12
 t46:=Tryz.underlying130
 a46:=Tryz.isAgg130
 z46:=Tryz.sizeOf130
 v46:=Tryz.zeroValue130
 t53:=Tryz.underlying156
 a53:=Tryz.isAgg156
 z53:=Tryz.sizeOf156
 v53:=Tryz.zeroValue156
 t119:=Tryz.underlying129
 a119:=Tryz.isAgg129
 z119:=Tryz.sizeOf129
 t138:=Tryz.underlying132
 a138:=Tryz.isAgg132
 z138:=Tryz.sizeOf132
 v138:=Tryz.zeroValue132
 t139:=Tryz.underlying133
 a139:=Tryz.isAgg133
 z139:=Tryz.sizeOf133
 v139:=Tryz.zeroValue133
 g3:=by kernel_rfl
 g4:=by kernel_rfl
theorem qnt{ρ:Place} {w w':World} (sm:Sim ρ zH w) (h:Below w.heap.size w w'):Sim ρ zH w' where
 base:=fun k hk=>jI (sm.base k hk) h.size
 below:=fun k hk=>(h.block k (sm.base k hk)).trans (sm.below k hk)
 os:=h.os.trans sm.os
 tape:=h.tape.trans sm.tape
 output:=h.output.trans sm.output
 dom:=sm.dom
 nodup:=sm.nodup
 live:=fun e he=>by simp[Heap.ents]at he
 inj:=fun e e' he=>by simp[Heap.ents]at he
theorem qln{ρ:Place} {w w':World} (h:Below w.heap.size w w'):Step ρ zH w ρ zH w' where
 le:=Place.le_refl ρ
 size:=h.size
 keeps:=fun k hk _=>h.block k hk
 rows:=fun e' he'=>by simp[Heap.ents]at he'
 num:=jc _
 low:=fun _ _=>rfl
 cold:=fun k hk=>.inl hk
theorem first_at:∀c:Fin 256,qpg[c.val]? = some (Lib.firstT c.val:Int):=by decide +kernel
theorem acc_lo:∀i:Fin 16,utfAcc[2 * i.val]? = some (Lib.accLo i.val:Int):=by decide +kernel
theorem acc_hi:∀i:Fin 16,utfAcc[2 * i.val+1]? = some (Lib.accHi i.val:Int):=by decide +kernel
theorem zf6{ρ:Place} {w:World} (sm:Sim ρ zH w):Lib.Utf8Tabs (0) (1) w:=by
 have cell:∀x,x∈pins->∀i n,x.2[i]? = some n->w.cell? ⟨x.1,i,none⟩=some (.int .u8 n):=fun x hx i n hn=>by obtain⟨hB,hc⟩:=ρ.gp x hx;rw[World.cell?,sm.below x.1 hB];exact hc i n hn
 exact⟨fun c hc=>cell (0,qpg) (by decide +kernel) c _ (first_at ⟨c,hc⟩),
  fun i hi=>⟨cell (1,utfAcc) (by decide +kernel) _ _ (acc_lo ⟨i,hi⟩),cell (1,utfAcc) (by decide +kernel) _ _ (acc_hi ⟨i,hi⟩)⟩⟩
theorem c147(s:Str) (hl:s.length<=1000000):CA T 147 [.str s] zH (.bool (Lib.validD s)) zH:=by
 intro ρ w xs sm hx
 match xs,hx with
 |[x],hx=>
  have h0:=hx.2 0 (by simp) (by simp);simp only[j5]at h0;cases h0;have hrun:(callFunc 147 #[.string ⟨s.toArray⟩]).run (ctx T).P w=.ok (.enter 147 #[.string ⟨s.toArray⟩]) w:=by
   have hf:(ctx T).P.funcs[147]? = some Tryz.f147:=Tryz.func147
   have hn : ¬ Tryz.f147.name = "runtime.NumGoroutine" := by decide +kernel
   simp[callFunc,hf,hn,Tryz.f147]
  have hsz:(⟨s.toArray⟩ : ByteArray).size=s.length:=by show s.toArray.size=_;simp
  refine .inr ⟨147,_,hrun,callsIn_wide.2 ?_⟩;refine(Go.Proofs.Any.utf8_ValidString lays196 ⟨s.toArray⟩ w (by rw[hsz];omega) (zf6 sm)).mono ?_;rintro e w' ⟨rfl,hb⟩;exact⟨_,ρ,rfl,.bool _,qnt sm hb,qln hb⟩
def e147:Entry PG:=mkE 147 [[]] (fun x:Str=>[.str x]) (fun x=>x.length<=1000000) (fun x=>.bool (Lib.validD x)) fun x h=>c147 (T:=[]) x h
theorem k147(hT:qIn 147 T e147) {s:Str} (h1:s.length<=1000000) (H:Heap):qb7 (ctx T) (.fn 147) [.str s] H=some (.bool (Lib.validD s),H):=
 qac hT inj_strL s h1 rfl (by simp)
theorem c198(s:Str) (c:UInt8):CA T 198 [.str s,.int .u8 (c.toNat:Int)] zH (.int .i64 (Lib.indexByte s c)) zH:=by
 intro ρ w xs sm hx
 match xs,hx with
 |[x,y],hx=>
  have h0:=hx.2 0 (by simp) (by simp);have h1:=hx.2 1 (by simp) (by simp);simp only[j5,ym]at h0 h1;cases h0;cases h1;have hr:=Lib.run_indexByteString (P:=PG) ⟨s.toArray⟩ (c.toNat:Int) w;have hf:(ctx T).P.funcs[198]? = some Tryz.f198:=Tryz.func198
  have hn : ¬ Tryz.f198.name = "runtime.NumGoroutine" := by decide +kernel
  have e1:(Extern.findNext Tryz.f198).isNone=true:=by decide +kernel
  have e2:Extern.find Tryz.f198=some Extern.BytealgIndexByte.indexByte:=by rfl
  have e1':Extern.findNext Tryz.f198=none:=Option.isNone_iff_eq_none.1 e1;have hb:Tryz.f198.body.isNone=true:=rfl;refine .inl ⟨_,ρ,w,?_,.int _ _,sm,Step.refl _ _ _⟩;have hc:(c.toNat:Int).toNat.toUInt8=c:=by simp
  rw[hc]at hr;have hr':Sem.run (ctx T).P (Extern.BytealgIndexByte.indexByte #[.string ⟨s.toArray⟩,.int .u8 (c.toNat:Int)]) w=.ok (.int .i64 (Lib.indexByte s c)) w:=hr;have hb2:Tryz.f198.body=none:=rfl;have hr2:Sem.run PG (Extern.BytealgIndexByte.indexByte #[.string ⟨s.toArray⟩,.int .u8 (c.toNat:Int)]) w=.ok (.int .i64 (Lib.indexByte s c)) w:=hr;simp[callFunc,hf,hn,hb2,e1',e2,hr2]
theorem inj_sb(x y:Str × UInt8) (h:[AV.str x.1,AV.int .u8 (x.2.toNat:Int)]=[AV.str y.1,AV.int .u8 (y.2.toNat:Int)]):x=y:=by simp at h;exact yz h.1 (yn.1 (by omega))
theorem qsi{C:Ctx} {n:Nat} {r:Option Nat} {s:St} {Q:Out->St->Prop} {body:Code} (h:WpSr C n r body s (qz9 body (fun _ _=>False) Q)):WpSr C n r (.scope body) s Q:=by
 refine zel (fun _:Unit=>body) (fun _=>s) (fun _=>True) (fun _=>0) () trivial rfl ?_;intro _ _ B _;refine h.mono fun x s' hq=>?_;cases x with
 |goto l=>
  simp only[qz9]at hq ⊢;cases hl:findLabel body l with
  |none=>rw[hl]at hq;exact hq
  |some rest=>rw[hl]at hq;exact hq.elim
 |normal=>exact hq
 |exit k=>exact hq
 |ret=>exact hq
@[simp]theorem gotoQ_ret{body:Code} {R:Code->St->Prop} {Q:Out->St->Prop} {s:St}:qz9 body R Q .ret s=Q .ret s:=rfl
@[simp]theorem gotoQ_normal{body:Code} {R:Code->St->Prop} {Q:Out->St->Prop} {s:St}:qz9 body R Q .normal s=Q .normal s:=rfl
@[simp]theorem gotoQ_exit{body:Code} {R:Code->St->Prop} {Q:Out->St->Prop} {s:St} {k:Nat}:qz9 body R Q (.exit k) s=Q (.exit k) s:=rfl
theorem c192(s:Str) (c:UInt8):CA T 192 [.str s,.int .u8 (c.toNat:Int)] zH (.int .i64 (Lib.indexByte s c)) zH:=by
 have hc:=(c198 (T:=T) s c).lift (by simp[qa9,qab]) ⟨0,[[]]⟩;generalize Lib.indexByte s c=v at *;refine qa1 (s0:=⟨[0,1,4],[.str s,.int .u8 (c.toNat:Int),uD],[],8,⟨0,[[]]⟩⟩) Tryz.func192 rfl rfl rfl ?_;apply qR;simp[zS];repeat apply wq
 refine qai (qbo [⟨198,_,_,_,_,hc⟩]) ?_;simp[zS,qcu];apply qa3;simp[zQ,Tryz.f192];exact qa2 rfl (by rfl)
theorem c162(s:Str) (c:UInt8):CA T 162 [.str s,.int .u8 (c.toNat:Int)] zH (.int .i64 (Lib.indexByte s c)) zH:=by
 have hc:=(c192 (T:=T) s c).lift (by simp[qa9,qab]) ⟨0,[[]]⟩;generalize Lib.indexByte s c=v at *;refine qa1 (s0:=⟨[0,1,4],[.str s,.int .u8 (c.toNat:Int),uD],[],8,⟨0,[[]]⟩⟩) Tryz.func162 rfl rfl rfl ?_;apply qR;simp[zS];repeat apply wq
 refine qai (qbo [⟨192,_,_,_,_,hc⟩]) ?_;simp[zS,qcu];apply qa3;simp[zQ,Tryz.f162];exact qa2 rfl (by rfl)
def e162:Entry PG:=mkE 162 [[],[]] (fun x:Str × UInt8=>[.str x.1,.int .u8 (x.2.toNat:Int)]) (fun _=>True) (fun x=>.int .i64 (Lib.indexByte x.1 x.2)) fun x _=>c162 (T:=[]) x.1 x.2
theorem k162(hT:qIn 162 T e162) (s:Str) (c:UInt8) (H:Heap):qb7 (ctx T) (.fn 162) [.str s,.int .u8 (c.toNat:Int)] H=some (.int .i64 (Lib.indexByte s c),H):=
 qac hT inj_sb (s,c) trivial rfl (by simp)
def qlg(r:Nat):Bool:=decide (r < 55296) || (decide (57343 < r) && decide (r<=1114111))
theorem c177(r:Nat):CA T 177 [.int .i32 (r:Int)] zH (.bool (qlg r)) zH:=by
 have h0:(0:Int)<=r:=by omega
 by_cases h1:r < 55296
 ·have h1':(r:Int) < 55296:=by omega
  refine qa1 (s0:=⟨[0,2],[.int .i32 (r:Int),uD],[],17,⟨0,[[]]⟩⟩) Tryz.func177 rfl rfl rfl ?_
  (repeat (first
   |(apply qam)
   |(apply qa7)
   |(apply qcm;simp only[qan,qah])
   |((refine qai qbc ?_);simp[zS,h0,h1,h1'])
   |apply qaj rfl
   |apply qag rfl
   |((apply qa4);simp only[qan,qah])
   |((apply qau);simp)))
  apply qa3;simp[zQ,Tryz.f177];exact qa2 rfl (by simp[qlg,h1])
 ·have h1':¬ (r:Int) < 55296:=by omega
  by_cases h2:57343 < r
  ·have h2':(57343:Int) < r:=(by omega);by_cases h3:r<=1114111
   ·have h3':(r:Int)<=1114111:=(by omega);refine qa1 (s0:=⟨[0,2],[.int .i32 (r:Int),uD],[],17,⟨0,[[]]⟩⟩) Tryz.func177 rfl rfl rfl ?_
    (repeat (first
     |(apply qam)
     |(apply qa7)
     |(apply qcm;simp only[qan,qah])
     |((refine qai qbc ?_);simp[zS,h0,h1,h1',h2,h2',h3,h3'])
     |apply qaj rfl
     |apply qag rfl
     |((apply qa4);simp only[qan,qah])
     |((apply qau);simp)))
    apply qa3;simp[zQ,Tryz.f177];exact qa2 rfl (by simp[qlg,h1,h2,h3])
   ·have h3':¬ (r:Int)<=1114111:=(by omega);refine qa1 (s0:=⟨[0,2],[.int .i32 (r:Int),uD],[],17,⟨0,[[]]⟩⟩) Tryz.func177 rfl rfl rfl ?_
    (repeat (first
     |(apply qam)
     |(apply qa7)
     |(apply qcm;simp only[qan,qah])
     |((refine qai qbc ?_);simp[zS,h0,h1,h1',h2,h2',h3,h3'])
     |apply qaj rfl
     |apply qag rfl
     |((apply qa4);simp only[qan,qah])
     |((apply qau);simp)))
    apply qa3;simp[zQ,Tryz.f177];exact qa2 rfl (by simp[qlg,h1,h2,h3])
  ·have h2':¬ (57343:Int) < r:=(by omega);refine qa1 (s0:=⟨[0,2],[.int .i32 (r:Int),uD],[],17,⟨0,[[]]⟩⟩) Tryz.func177 rfl rfl rfl ?_
   (repeat (first
    |(apply qam)
    |(apply qa7)
    |(apply qcm;simp only[qan,qah])
    |((refine qai qbc ?_);simp[zS,h0,h1,h1',h2,h2'])
    |apply qaj rfl
    |apply qag rfl
    |((apply qa4);simp only[qan,qah])
    |((apply qau);simp)))
   apply qa3;simp[zQ,Tryz.f177];exact qa2 rfl (by simp[qlg,h1,h2])
def e177:Entry PG:=mkE 177 [[]] (fun x:Nat=>[.int .i32 (x:Int)]) (fun _=>True) (fun x=>.bool (qlg x)) fun x _=>c177 (T:=[]) x
theorem k177(hT:qIn 177 T e177) (r:Nat) (H:Heap):qb7 (ctx T) (.fn 177) [.int .i32 (r:Int)] H=some (.bool (qlg r),H):=
 qac hT (fun x y h=>by simp at h;omega) r trivial rfl (by simp)
abbrev anyC:Str:=[0,13]
def anyV(r:Nat):Int:=if r=0 then 0 else if r=13 then 1 else -1
theorem bad_rune:litOK (.int .i64 (-1)) (qru (ctx []) 100000 (.fn 146) [.str anyC,.int .i32 65533] zH)=true:=by decide +kernel
theorem anyV_low:∀c:Fin 128,anyV c.val=Lib.indexByte anyC (UInt8.ofNat c.val):=by decide +kernel
theorem zim{r:Nat} (h:128<=r) (hv:qlg r=true):(∃a b:UInt8,(Utf8.encode (r:Int)).data.toList=[a,b]/\128<=b.toNat)\/3<=(Utf8.encode (r:Int)).data.toList.length/\(Utf8.encode (r:Int)).data.toList.length<=4:=by
 have hval:Utf8.valid (r:Int)=true:=by simp only[qlg,yf,jd,decide_eq_true_eq]at hv;simp only[Utf8.valid,yf,jd,decide_eq_true_eq];omega
 unfold Utf8.encode;simp only[hval,if_true,jU];rw[if_neg (by omega)];split
 ·left;refine⟨_,_,rfl,?_⟩;simp only[UInt8.toNat_ofNat'];omega
 ·right;split<;>simp
theorem c146(hB:qIn 162 T e162) (hV:qIn 177 T e177) (r:Nat) (hr:r<=1114111):CA T 146 [.str anyC,.int .i32 (r:Int)] zH (.int .i64 (anyV r)) zH:=by
 have h0:(0:Int)<=r:=by omega
 by_cases h1:r < 128
 ·have h1':(r:Int) < 128:=by omega
  have hw:IntKind.u8.wrap (r:Int)=((UInt8.ofNat r).toNat:Int):=by have e:(UInt8.ofNat r).toNat=r:=(by simp;omega);rw[e];simp[IntKind.wrap,IntKind.signed,IntKind.bits];omega
  have hcv:∀H,qh7 PG H 21 5 (.int .i32 (r:Int))=some (.int .u8 ((UInt8.ofNat r).toNat:Int),H):=fun H=>by simp[qh7,hw]
  have hk:=fun H=>k162 hB anyC (UInt8.ofNat r) H;have hv:=anyV_low ⟨r,h1⟩;simp only at hv;rw[<- hv]at hk;generalize UInt8.ofNat r=c at *;generalize anyV r=v at *;refine qa1 (s0:=⟨[0,1,4,5,6,7,8,9,10,11,12,13,14,15,16,175,176],[.str anyC,.int .i32 (r:Int),uD,uD,uD,uD,uD,uD,uD,uD,uD,uD,uD,uD,uD,uD,uD],[],187,⟨0,[[]]⟩⟩) Tryz.func146 rfl rfl rfl ?_;apply qR;simp[zS];apply qa7;apply qR;simp[zS,h0,h1,h1'];apply qaj rfl;apply qR;simp[zS,hcv,hk];apply qa3;simp[zQ,Tryz.f146];exact qa2 rfl (by rfl)
 have hn:anyV r = -1:=by unfold anyV;rw[if_neg (by omega),if_neg (by omega)]
 by_cases h2:r=65533
 ·subst h2;rw[hn];exact qxs (T:=[]) bad_rune
 have h1':¬ (r:Int) < 128:=by omega
 have h2':¬ (r:Int)=65533:=by omega
 have kv:=fun H=>k177 hV r H;rw[hn];cases hok:qlg r with
 |false=>rw[hok]at kv;refine qa1 (s0:=⟨[0,1,4,5,6,7,8,9,10,11,12,13,14,15,16,175,176],[.str anyC,.int .i32 (r:Int),uD,uD,uD,uD,uD,uD,uD,uD,uD,uD,uD,uD,uD,uD,uD],[],187,⟨0,[[]]⟩⟩) Tryz.func146 rfl rfl rfl ?_;apply qR;simp[zS];apply qa7;apply qR;simp[zS,h0,h1,h1'];apply qag rfl;apply qR;simp[zS,h2,h2'];apply qag rfl;apply qR;simp[zS,kv];apply qaj rfl;apply qR;simp[zS];apply qa3;simp[zQ,Tryz.f146];exact qa2 rfl (by rfl)
 |true=>
  rw[hok]at kv;have hsh:=zim (by omega) hok;have hcv:∀H,qh7 PG H 21 9 (.int .i32 (r:Int))=some (.str (Utf8.encode (r:Int)).data.toList,H):=fun H=>by simp[qh7]
  generalize (Utf8.encode (r:Int)).data.toList=rs at *;refine qa1 (s0:=⟨[0,1,4,5,6,7,8,9,10,11,12,13,14,15,16,175,176],[.str anyC,.int .i32 (r:Int),uD,uD,uD,uD,uD,uD,uD,uD,uD,uD,uD,uD,uD,uD,uD],[],187,⟨0,[[]]⟩⟩) Tryz.func146 rfl rfl rfl ?_;apply qR;simp[zS];apply qa7;apply qR;simp[zS,h0,h1,h1'];apply qag rfl;apply qR;simp[zS,h2,h2'];apply qag rfl;apply qR;simp[zS,kv];apply qag rfl;apply qsi;rcases hsh with⟨a,b,rfl,hb⟩|⟨g1,g2⟩
  ·have hkb:=fun H=>k162 hB [] b H;have hib:Lib.indexByte [] b = -1:=rfl;rw[hib]at hkb;have hne:¬ (13:Int)=(b.toNat:Int):=(by omega);have hne':¬ (b.toNat:Int)=13:=(by omega);have ix1:qi1 PG 9 (.str anyC) (.int .i64 1)=some (.int .u8 13):=rfl;have ix2:qi1 PG 9 (.str [a,b]) (.int .i64 1)=some (.int .u8 (b.toNat:Int)):=rfl;have sl:∀H,qee PG H 9 (.str anyC) (some (.int .i64 2)) none none=some (.str []):=fun H=>rfl;apply qR;simp[zS,hcv];have w1:wr .i64 1=some 1:=rfl;apply qR;simp[zS,w1];apply qR;simp[zS];apply qR;simp[zS];repeat apply wq
   refine qa7 (qb1 (fun _:Unit=>(⟨[0,1,4,5,6,7,8,9,10,11,12,13,14,15,16,175,176],[.str anyC,.int .i32 (r:Int),.int .i64 0,uD,uD,.str [a,b],.int .i64 1,.int .i64 1,.int .i64 0,uD,uD,uD,uD,uD,uD,uD,uD],[],187,⟨0,[[]]⟩⟩ : St)) (fun _=>True) (fun _=>0) [] [] () trivial ⟨rfl,rfl,rfl,by simp[qaz,qat,qab,qa9],FitH.nothing⟩ ?_);intro _ _ B hB;apply qR;simp[zS];apply qaj rfl;apply qa4;simp;apply qa7;apply qsi;repeat apply wq
   refine qbh mixed qbc (by decide +kernel) (by decide +kernel) ?_;simp[zS,qc6,qbf,qb9,ix1,ix2,hne,hne'];apply qaj rfl;have w2:wr .i64 2=some 2:=rfl;repeat apply wq
   refine qbh mixed qbc (by decide +kernel) (by decide +kernel) ?_;simp[zS,qc6,qbf,qb9,ix2,w2,sl,hkb];apply qR;simp[zS];apply qaj rfl;apply qR;simp[zS];apply qa3;simp[zQ,Tryz.f146];exact qa2 rfl (by rfl)
  ·obtain⟨L,hL⟩ : ∃L,rs.length=L+1:=⟨rs.length - 1,by omega⟩;have hw:wr .i64 ((rs.length:Int) - 1)=some ((L:Nat):Int):=(by rw[qdi (by omega) (by omega),hL];congr 1;omega);have hlt:¬ (L:Int) < 2:=(by omega);have hlt':¬ L < 2:=(by omega);apply qR;simp[zS,hcv];apply qR;simp[zS,hw];apply qR;simp[zS];apply qR;simp[zS];repeat apply wq
   refine qa7 (qb1 (fun _:Unit=>(⟨[0,1,4,5,6,7,8,9,10,11,12,13,14,15,16,175,176],[.str anyC,.int .i32 (r:Int),.int .i64 0,uD,uD,.str rs,.int .i64 (L:Nat),.int .i64 (L:Nat),.int .i64 0,uD,uD,uD,uD,uD,uD,uD,uD],[],187,⟨0,[[]]⟩⟩ : St)) (fun _=>True) (fun _=>0) [] [] () trivial ⟨rfl,rfl,rfl,by simp[qaz,qat,qab,qa9],FitH.nothing⟩ ?_);intro _ _ B hB;apply qR;simp[zS,hlt,hlt'];refine qag (by simp[qc0,St.get,hlt,hlt']) ?_;apply qau;simp;apply qR;simp[zS];apply qa3;simp[zQ,Tryz.f146];exact qa2 rfl (by rfl)
def e146:Entry PG:=mkE 146 [[],[]] (fun x:Nat=>[.str anyC,.int .i32 (x:Int)]) (fun x=>x<=1114111) (fun x=>.int .i64 (anyV x)) fun x h=>c146 (T:=[e162,e177]) rfl rfl x h
theorem k146(hT:qIn 146 T e146) {r:Nat} (hr:r<=1114111) (H:Heap):qb7 (ctx T) (.fn 146) [.str anyC,.int .i32 (r:Int)] H=some (.int .i64 (anyV r),H):=
 qac hT (fun x y h=>by simp at h;omega) r hr rfl (by simp)
def qyw:Go.Shelf.Ren:=⟨fun | 119=>177 | 137=>162 | 152=>146 | 153=>181 | 217=>192 | 224=>178 | 225=>179 | 226=>194 | 227=>79 | 228=>117 | 266=>198|n=>n,fun | 0=>0 | 3=>3 | 4=>4 | 5=>5 | 9=>9 | 21=>21 | 46=>130 | 116=>101 | 117=>102 | 124=>105|n=>n,fun|n=>n⟩
theorem lays153:Go.Proofs.Lays.n153 PG qyw where
 mixed:=by kernel_rfl
 f119:=Tryz.func177.trans (congrArg some (by kernel_rfl))
 f137:=Tryz.func162.trans (congrArg some (by kernel_rfl))
 f152:=Tryz.func146.trans (congrArg some (by kernel_rfl))
 f153:=Tryz.func181.trans (congrArg some (by kernel_rfl))
 f217:=Tryz.func192.trans (congrArg some (by kernel_rfl))
 f224:=Tryz.func178.trans (congrArg some (by kernel_rfl))
 f225:=Tryz.func179.trans (congrArg some (by kernel_rfl))
 f226:=Tryz.func194.trans (congrArg some (by kernel_rfl))
 f227:=Tryz.func79.trans (congrArg some (by kernel_rfl))
 f228:=Tryz.func117.trans (congrArg some (by kernel_rfl))
 f266:=Tryz.func198.trans (congrArg some (by kernel_rfl))
 t0:=Tryz.underlying0
 a0:=Tryz.isAgg0
 z0:=Tryz.sizeOf0
 v0:=Tryz.zeroValue0
 t3:=Tryz.underlying3
 a3:=Tryz.isAgg3
 z3:=Tryz.sizeOf3
 v3:=Tryz.zeroValue3
 t4:=Tryz.underlying4
 a4:=Tryz.isAgg4
 z4:=Tryz.sizeOf4
 v4:=Tryz.zeroValue4
 t5:=Tryz.underlying5
 a5:=Tryz.isAgg5
 z5:=Tryz.sizeOf5
 v5:=Tryz.zeroValue5
 t9:=Tryz.underlying9
 a9:=Tryz.isAgg9
 z9:=Tryz.sizeOf9
 v9:=Tryz.zeroValue9
 t21:=Tryz.underlying21
 a21:=Tryz.isAgg21
 z21:=Tryz.sizeOf21
 v21:=Tryz.zeroValue21
 t46:=Tryz.underlying130
 a46:=Tryz.isAgg130
 z46:=Tryz.sizeOf130
 v46:=Tryz.zeroValue130
 t116:=Tryz.underlying101
 a116:=Tryz.isAgg101
 z116:=Tryz.sizeOf101
 t117:=Tryz.underlying102
 a117:=Tryz.isAgg102
 z117:=Tryz.sizeOf102
 v117:=Tryz.zeroValue102
 t124:=Tryz.underlying105
 a124:=Tryz.isAgg105
 z124:=Tryz.sizeOf105
 v124:=Tryz.zeroValue105
def qom(r:Nat):Bool:=decide (r=0) || decide (r=13)
def qoz(s:Str):Int:=if s.length<=8 then qyj qom s.length s 0 else Lib.indexAny s anyC
theorem zjx:∀(s:Str),0<=Lib.indexAny s anyC↔qsc qom s=true
 |[]=>by simp[Lib.indexAny,qsc]
 |c::r=>by
  have ih:=zjx r;have hc:(anyC.contains c)=qom c.toNat:=by have key:∀n:Fin 256,(anyC.contains (UInt8.ofNat n.val))=qom n.val:=(by decide +kernel);have:=key ⟨c.toNat,c.toNat_lt⟩;simpa using this
  have hcons:qsc qom (c::r)=(qom c.toNat || qsc qom r):=by simp[qsc]
  unfold Lib.indexAny;rw[hc,hcons];cases qom c.toNat with
  |true=>simp
  |false=>
   have hge:=Lib.indexAny_ge anyC r;simp only[jC,if_false,Bool.false_or];rw[<- ih];split
   next h=>simp only[beq_iff_eq]at h;omega
   next h=>simp only[beq_iff_eq]at h;omega
theorem zdm(s:Str):0<=qoz s↔qsc qom s=true:=by
 unfold qoz;split
 ·exact qtz (fun r h=>by simp[qom]at h;omega) _ _ _ (jc _)
 ·exact zjx s
theorem zaj:(PG.info? 101).map (fun i=>(i.zero,i.size))=some (some (.agg (Array.replicate 256 (.bool false))),256):=by kernel_rfl
theorem c194(n:Nat) (h:n<=8):CA T 194 [.int .i64 (n:Int)] zH (.bool false) zH:=by
 have h1:¬ (8:Int) < (n:Int):=by omega
 have h2:¬ 8 < n:=by omega
 refine qa1 (s0:=⟨[0,2],[.int .i64 (n:Int),uD],[],5,⟨0,[[]]⟩⟩) Tryz.func194 rfl rfl rfl ?_
 (repeat (first
  |(apply qam)
  |(apply qa7)
  |(apply qcm;simp only[qan,qah])
  |((refine qai qbc ?_);simp[zS,h1,h2])
  |apply qaj rfl
  |apply qag rfl
  |((apply qa4);simp only[qan,qah])
  |((apply qau);simp)))
 apply qa3;simp[zQ,Tryz.f194];exact qa2 rfl (by rfl)
theorem c181(hR:qIn 146 T e146) (s:Str) (hl:s.length<=900000):CA T 181 [.str s,.str anyC] zH (.int .i64 (qoz s)) zH:=by
 by_cases h8:s.length<=8
 ·have hv:qoz s=qyj qom s.length s 0:=by unfold qoz;rw[if_pos h8]
  rw[hv];have hu:=(c194 (T:=T) s.length h8).lift (by simp[qa9,qab]) ⟨0,[[]]⟩;refine qa1 (s0:=⟨[0,1,4,5,6,7,8,9,10,45,46],[.str s,.str anyC,uD,uD,uD,uD,uD,uD,uD,uD,uD],[],55,⟨0,[[]]⟩⟩) Tryz.func181 rfl rfl rfl ?_;apply qR;simp[zS];apply qR;simp[zS];apply qag rfl;apply qa4;simp;apply qR;simp[zS];apply qag rfl;apply qa4;simp;repeat apply wq
  refine qai (qbo [⟨194,_,_,_,_,hu⟩]) ?_;simp[zS,qcu];apply qag rfl;apply qa4;simp;apply qR;simp[zS,rgV];refine qa7 (qb1 (fun x:Nat × Nat=>(⟨[0,1,4,5,6,7,8,9,10,45,46],[.str s,.str anyC,.int .i64 0,uD,uD,uD,uD,uD,uD,.ptr 0 0,uD],[],55,⟨1,[[(0,.iter s x.2)]]⟩⟩ : St))
   (fun x=>x.2<=s.length/\s.length<=x.2+x.1/\qyj qom x.1 (s.drop x.2) x.2=qyj qom s.length s 0) (fun x=>x.1) [(0,0)] [] (s.length,0) ⟨jh _,by simp,by simp⟩
   ⟨rfl,rfl,rfl,by simp[qaz,qat,qb2,qab,qa9],fit_it⟩ ?_)
  rintro⟨k,i⟩ ⟨hi,hk,hd⟩ B hB;simp only at hi hk hd hB;by_cases h:i < s.length
  ·obtain⟨k,rfl⟩ : ∃k',k=k'+1:=⟨k - 1,by omega⟩;have hne:s.drop i≠[]:=fun e=>(by have:=congrArg List.length e;simp at this;omega);have hdl:0 < (s.drop i).length:=(by rw[j9];omega);have hr:=dec_rune (s.drop i);have hw:1<=(Lib.decodeL (s.drop i)).2/\(Lib.decodeL (s.drop i)).2<=s.length - i:=by
    rcases qxq hdl with⟨g1,g2⟩|⟨g1,g2,g3,g4,g5⟩
    ·rw[g2];simp only;omega
    ·rw[j9]at g4;omega
   have hn:=fun m=>itU_yes (m:=m) (b:=0) (g:=[]) h;have hyes:=rIdx_yes (p:=qom) (k:=k) (pos:=i) hne;have hno:=rIdx_no (p:=qom) (k:=k) (pos:=i) hne;generalize Lib.decodeL (s.drop i)=d at *;obtain⟨r,w⟩:=d;simp only at hr hw hn hyes hno;have hcall:=fun H=>k146 hR hr H;have hbv:(0<=anyV r)↔qom r=true:=by
    unfold anyV qom;by_cases h1:r=0
    ·simp[h1]
    ·by_cases h2:r=13
     ·simp[h2]
     ·simp[h1,h2]
   generalize anyV r=v at *;apply qR;simp[zS,nxV,hn];repeat apply wq
   apply qaj rfl;apply qa4;simp;apply qa7;apply qR;simp[zS];by_cases hpr:0<=v
   ·apply qR;simp[zS,hcall,hpr];apply qaj rfl;apply qR;simp[zS];apply qa3;simp[zQ,Tryz.f181];exact qa2 rfl (by rw[<- hd,hyes (hbv.1 hpr)])
   ·have hpf:qom r=false:=by
     cases hq:qom r with
     |false=>rfl
     |true=>exact absurd (hbv.2 hq) hpr
    apply qR;simp[zS,hcall,hpr];apply qag rfl;apply qa4;simp;refine hB _ (k,i+w) (by simp only;omega) ⟨by simp only;omega,by simp only;omega,?_⟩ ⟨[(0,0)],[],rfl,rfl,rfl,by simp[qaz,qat,qb2,qab,qa9],fit_it⟩;simp only;rw[<- hd,hno hpf,List.drop_drop]
  ·have hie:i=s.length:=(by omega);subst hie;have hn:=fun m=>itU_no (m:=m) (b:=0) (g:=[]) h;rw[List.drop_length,zfu]at hd;apply qR;simp[zS,nxV,hn];repeat apply wq
   apply qag rfl;apply qau;simp;apply qR;simp[zS];apply qa3;simp[zQ,Tryz.f181];exact qa2 rfl (by rw[<- hd])
 ·have hv:qoz s=Lib.indexAny s anyC:=by unfold qoz;rw[if_neg h8]
  rw[hv];intro ρ w xs sm hx
  match xs,hx with
  |[x,y],hx=>
   have h0:=hx.2 0 (by simp) (by simp);have h1:=hx.2 1 (by simp) (by simp);simp only[j5,ym]at h0 h1;cases h0;cases h1;have hrun:(callFunc 181 #[.string ⟨s.toArray⟩,.string ⟨anyC.toArray⟩]).run (ctx T).P w=.ok (.enter 181 #[.string ⟨s.toArray⟩,.string ⟨anyC.toArray⟩]) w:=by
    have hf:(ctx T).P.funcs[181]? = some Tryz.f181:=Tryz.func181
    have hn : ¬ Tryz.f181.name = "runtime.NumGoroutine" := by decide +kernel
    simp[callFunc,hf,hn,Tryz.f181]
   have hsz:(⟨s.toArray⟩ : ByteArray).size=s.length:=(by show s.toArray.size=_;simp);refine .inr ⟨181,_,hrun,callsIn_wide.2 ?_⟩;refine(Go.Proofs.Any.strings_IndexAny_long lays153 (zero_of_info zaj).1 (zero_of_info zaj).2 ⟨s.toArray⟩ ⟨anyC.toArray⟩ w (by decide) (by rw[hsz];omega) (by rw[hsz];omega) (by decide) (fun j b hj=>?_)).mono ?_
   ·have hm:b∈anyC:=List.mem_of_getElem? hj;simp at hm;rcases hm with rfl|rfl<;>decide
   ·rintro e w' ⟨rfl,hb⟩;have hb':Below w.heap.size w w':=(by rw[hb];exact((Below.refl _ _).alloc (jc _) _).alloc (by simp) _);exact⟨_,ρ,rfl,.int _ _,qnt sm hb',qln hb'⟩
theorem c148(hR:qIn 146 T e146) (s:Str) (hl:s.length<=900000):CA T 148 [.str s,.str anyC] zH (.bool (qsc qom s)) zH:=by
 have hc:=(c181 hR s hl).lift (by simp[qa9,qab]) ⟨0,[[]]⟩;have hi:=zdm s;generalize qoz s=v at *;refine qa1 (s0:=⟨[0,1,4],[.str s,.str anyC,uD],[],9,⟨0,[[]]⟩⟩) Tryz.func148 rfl rfl rfl ?_;apply qR;simp[zS];repeat apply wq
 refine qai (qbo [⟨181,_,_,_,_,hc⟩]) ?_;simp[zS,qcu];apply qa3;simp[zQ,Tryz.f148];exact qa2 rfl (by simp[hi])
def e148:Entry PG:=mkE 148 [[],[]] (fun x:Str=>[.str x,.str anyC]) (fun x=>x.length<=900000) (fun x=>.bool (qsc qom x)) fun x h=>c148 (T:=[e146]) rfl x h
theorem k148(hT:qIn 148 T e148) {s:Str} (h1:s.length<=900000) (H:Heap):qb7 (ctx T) (.fn 148) [.str s,.str anyC] H=some (.bool (qsc qom s),H):=
 qac hT (fun x y h=>by simpa using h) s h1 rfl (by simp)
theorem valid_eq(s:Str):(Lib.validD s && !qsc qom s)=qjc s:=by
 have h:=qvn s.length s (jc _);have e:qsc qom s=true↔zef s 0\/zef s 13:=by
  rw[quj];constructor
  ·rintro⟨i,hi,hc⟩;simp[qom]at hc;rcases hc with hc|hc
   ·exact .inl ⟨i,hi,hc⟩
   ·exact .inr ⟨i,hi,hc⟩
  ·rintro(⟨i,hi,hc⟩|⟨i,hi,hc⟩)
   ·exact⟨i,hi,by simp[qom,hc]⟩
   ·exact⟨i,hi,by simp[qom,hc]⟩
 unfold qjc;rw[jP];simp only[jd,jV,decide_eq_true_eq];rw[h,<- Bool.not_eq_true,e,not_or]
theorem c120(hV:qIn 147 T e147) (hC:qIn 148 T e148) (s:Str) (hl:s.length<=900000):CA T 120 [.str s] zH (.bool (qjc s)) zH:=by
 have k1:=fun H=>k147 hV (s:=s) (by omega) H;have k2:=fun H=>k148 hC (s:=s) hl H;have hv:=valid_eq s;generalize qjc s=v at *;rcases jG (Lib.validD s)with h|h
 ·rw[h]at k1 hv;refine qa1 (s0:=⟨[0,2],[.str s,uD],[],10,⟨0,[[]]⟩⟩) Tryz.func120 rfl rfl rfl ?_;apply qR;simp[zS];apply qR;simp[zS,k1,k2];apply qa3;simp[zQ,Tryz.f120];exact qa2 rfl (by simpa using hv)
 ·rw[h]at k1 hv;refine qa1 (s0:=⟨[0,2],[.str s,uD],[],10,⟨0,[[]]⟩⟩) Tryz.func120 rfl rfl rfl ?_;apply qR;simp[zS];apply qR;simp[zS,k1];apply qa3;simp[zQ,Tryz.f120];exact qa2 rfl (by simpa using hv)
def e120:Entry PG:=mkE 120 [[]] (fun x:Str=>[.str x]) (fun x=>x.length<=900000) (fun x=>.bool (qjc x)) fun x h=>c120 (T:=[e147,e148]) rfl rfl x h
theorem k120(hT:qIn 120 T e120) {s:Str} (h1:s.length<=900000) (H:Heap):qb7 (ctx T) (.fn 120) [.str s] H=some (.bool (qjc s),H):=
 qac hT qz4 s h1 rfl (by simp)
def conB(s t:Str):Bool:=decide (0<=Lib.index s t)
theorem c121(hI:qIn 149 T e149) (s t:Str) (hl:s.length<=1000000):CA T 121 [.str s,.str t] zH (.bool (conB s t)) zH:=by
 have hk:=fun H=>k149 hI (t:=t) hl H;refine qa1 (s0:=⟨[0,1,4],[.str s,.str t,uD],[],9,⟨0,[[]]⟩⟩) Tryz.func121 rfl rfl rfl ?_
 (repeat (first
  |(apply qam)
  |(apply qa7)
  |(apply qcm;simp only[qan,qah])
  |((refine qai qbc ?_);simp[zS,hk])
  |apply qaj rfl
  |apply qag rfl
  |((apply qa4);simp only[qan,qah])
  |((apply qau);simp)))
 repeat apply wq
 apply qa3;simp[zQ,Tryz.f121];exact qa2 rfl (by simp[conB])
def e121:Entry PG:=mkE 121 [[],[]] (fun x:Str × Str=>[.str x.1,.str x.2]) (fun x=>x.1.length<=1000000) (fun x=>.bool (conB x.1 x.2)) fun x h=>c121 (T:=[e149]) rfl x.1 x.2 h
theorem k121(hT:qIn 121 T e121) {s:Str} (t:Str) (hl:s.length<=1000000) (H:Heap):qb7 (ctx T) (.fn 121) [.str s,.str t] H=some (.bool (conB s t),H):=
 qac hT quh (s,t) hl rfl (by simp)
@[simp]theorem szT84:qcg PG 84=some 1:=rfl
@[simp]theorem agT84:qi8 PG 84=some false:=rfl
@[simp]theorem byT84:qco PG 84=some 8:=rfl
@[simp]theorem alT84(H:Heap):alV PG H 84=some (.ptr H.n 0,H.new (.cells [.nilF])):=rfl
@[simp]theorem zeT84:qc1 PG 84=some (.nilF):=rfl
attribute [simp] Tryz.underlying84
@[simp 500]theorem rvF84(H:Heap) (cs:List AV) (o:Nat):qb3 PG H 84 (.fptr cs o)=qcy cs o:=rfl
@[simp 500]theorem rvP84(H:Heap) (b o:Nat):qb3 PG H 84 (.ptr b o)=(H.get b).bind fun k=>k.rd.bind fun cs=>qcy cs o:=rfl
theorem qz7{α:Type} {p:α->Bool}:∀(L:List α) (k:Nat),(0<=qbu p L k)↔L.any p=true
 |[],k=>by simp[qbu]
 |y::r,k=>by
  unfold qbu;by_cases h:p y=true
  ·simp[h]
  ·rw[if_neg h,qz7 r (k+1)];simp[h]
theorem c191(L:List Str) (hl:L.length<=1000000) (f:FuncId) (cap:List AV) (hc:qa9 cap=true) (p:Str->Bool) (hp:∀s,s∈L->CA T f (.str s::cap) zH (.bool (p s)) zH) :
  CA T 191 [qcp L,.func (.func f) [] cap] zH (.int .i64 (qbu p L 0)) zH:=by
 refine qa1 (s0:=⟨[0,1,4,5,7,8],[qcp L,.func (.func f) [] cap,uD,uD,uD,uD],[],19,⟨0,[[]]⟩⟩) Tryz.func191 rfl rfl rfl ?_;apply qR;simp[zS];apply qR;simp[zS,lenS];refine qa7 (qb1 (fun i:Nat=>(⟨[0,1,4,5,7,8],[qcp L,.func (.func f) [] cap,.int .i64 0,uD,.int .i64 (L.length:Nat),.int .i64 i],[],19,⟨0,[[]]⟩⟩ : St))
  (fun i=>i<=L.length/\qbu p L 0=qbu p (L.drop i) i) (fun i=>L.length - i) [] [] 0 ⟨jh _,rfl⟩ ⟨rfl,rfl,rfl,by simp[qaz,qat,qab,qa9,qcp,hc],FitH.nothing⟩ ?_)
 rintro i ⟨hi,hx⟩ B hB;apply qR;simp[zS];repeat apply wq
 refine qay rfl (fun h=>?_) fun h=>?_
 ·simp at h;rw[qha h]at hx;apply qa4;simp;repeat apply wq
  apply qa7;apply qR;simp[zS];have hcall:=(hp L[i] (jy h)).lift (by simp[qa9,qab,hc]) ⟨0,[[]]⟩
  skip
  rcases jG (p L[i])with hb|hb
  ·rw[hb]at hcall hx;repeat apply wq
   refine qai (qbo [⟨f,_,_,_,_,hcall⟩]) ?_;simp[zS,atS h, qcu];apply qaj rfl;apply qR;simp[zS];apply qa3;simp[zQ,Tryz.f191];exact qa2 rfl (by rw[hx,if_pos rfl])
  ·rw[hb]at hcall hx;repeat apply wq
   refine qai (qbo [⟨f,_,_,_,_,hcall⟩]) ?_;simp[zS,atS h, qcu];apply qag rfl;apply qa4;simp;apply qR;simp[zS,qbd (show i<=1000000000 by omega)];exact hB _ (i+1) (by omega) ⟨by omega,by rw[hx,if_neg (by decide)]⟩ ⟨[],[],⟨rfl,rfl,rfl,by simp[qaz,qat,qab,qa9,qcp,hc],FitH.nothing⟩⟩
 ·simp at h;apply qau;simp;apply qR;simp[zS];apply qa3;simp[zQ,Tryz.f191];exact qa2 rfl (by rw[hx,jt h];rfl)
theorem c159(L:List Str) (hl:L.length<=1000000) (f:FuncId) (cap:List AV) (hc:qa9 cap=true) (p:Str->Bool) (hp:∀s,s∈L->CA T f (.str s::cap) zH (.bool (p s)) zH) :
  CA T 159 [qcp L,.func (.func f) [] cap] zH (.bool (L.any p)) zH:=by
 have hk:=(c191 (T:=T) L hl f cap hc p hp).lift (by simp[qa9,qab,hc]) ⟨0,[[]]⟩;have hd:decide (0<=qbu p L 0)=L.any p:=by rw[jP,decide_eq_true_iff];exact qz7 L 0
 generalize qbu p L 0=v at *;refine qa1 (s0:=⟨[0,1,4],[qcp L,.func (.func f) [] cap,uD],[],9,⟨0,[[]]⟩⟩) Tryz.func159 rfl rfl rfl ?_;apply qR;simp[zS];repeat apply wq
 refine qai (qbo [⟨191,_,_,_,_,hk⟩]) ?_;simp[zS,qcu];apply qa3;simp[zQ,Tryz.f159];exact qa2 rfl (by rw[hd])
theorem c169(L:List Nd) (hl:L.length<=1000000) (f:FuncId) (cap:List AV) (hc:qa9 cap=true) (p:Nd->Bool) (hp:∀s,s∈L->CA T f (qa6 s::cap) zH (.bool (p s)) zH) :
  CA T 169 [qa8 L,.func (.func f) [] cap] zH (.int .i64 (qbu p L 0)) zH:=by
 refine qa1 (s0:=⟨[0,1,4,5,7,8],[qa8 L,.func (.func f) [] cap,uD,uD,uD,uD],[],19,⟨0,[[]]⟩⟩) Tryz.func169 rfl rfl rfl ?_;apply qR;simp[zS];apply qR;simp[zS,qhn];refine qa7 (qb1 (fun i:Nat=>(⟨[0,1,4,5,7,8],[qa8 L,.func (.func f) [] cap,.int .i64 0,uD,.int .i64 (L.length:Nat),.int .i64 i],[],19,⟨0,[[]]⟩⟩ : St))
  (fun i=>i<=L.length/\qbu p L 0=qbu p (L.drop i) i) (fun i=>L.length - i) [] [] 0 ⟨jh _,rfl⟩ ⟨rfl,rfl,rfl,by simp[qaz,qat,qab,qa9,hc],FitH.nothing⟩ ?_)
 rintro i ⟨hi,hx⟩ B hB;apply qR;simp[zS];repeat apply wq
 refine qay rfl (fun h=>?_) fun h=>?_
 ·simp at h;rw[qha h]at hx;apply qa4;simp;repeat apply wq
  apply qa7;apply qR;simp[zS];have hcall:=hp L[i] (jy h);have hix:=atX (t:=L) (i:=(i:Int)) (by omega) (by omega);rw[qba h]at hix;have hpu:qa9 (qa6 L[i]::cap)=true:=by simp[qa9,hc]
  rcases jG (p L[i])with hb|hb
  ·rw[hb]at hcall hx;repeat apply wq
   refine qai (qj4 [⟨f,_,_,hpu,hcall⟩]) ?_;simp[zS,hix,qaq,qhj];apply qaj rfl;apply qR;simp[zS];apply qa3;simp[zQ,Tryz.f169];exact qa2 rfl (by rw[hx,if_pos rfl])
  ·rw[hb]at hcall hx;repeat apply wq
   refine qai (qj4 [⟨f,_,_,hpu,hcall⟩]) ?_;simp[zS,hix,qaq,qhj];apply qag rfl;apply qa4;simp;apply qR;simp[zS,qbd (show i<=1000000000 by omega)];exact hB _ (i+1) (by omega) ⟨by omega,by rw[hx,if_neg (by decide)]⟩ ⟨[],[],⟨rfl,rfl,rfl,by simp[qaz,qat,qab,qa9,hc],FitH.nothing⟩⟩
 ·simp at h;apply qau;simp;apply qR;simp[zS];apply qa3;simp[zQ,Tryz.f169];exact qa2 rfl (by rw[hx,jt h];rfl)
theorem c136(L:List Nd) (hl:L.length<=1000000) (f:FuncId) (cap:List AV) (hc:qa9 cap=true) (p:Nd->Bool) (hp:∀s,s∈L->CA T f (qa6 s::cap) zH (.bool (p s)) zH) :
  CA T 136 [qa8 L,.func (.func f) [] cap] zH (.bool (L.any p)) zH:=by
 have hk:=c169 (T:=T) L hl f cap hc p hp;have hd:decide (0<=qbu p L 0)=L.any p:=by rw[jP,decide_eq_true_iff];exact qz7 L 0
 generalize qbu p L 0=v at *;refine qa1 (s0:=⟨[0,1,4],[qa8 L,.func (.func f) [] cap,uD],[],9,⟨0,[[]]⟩⟩) Tryz.func136 rfl rfl rfl ?_;apply qR;simp[zS];repeat apply wq
 refine qai (qj4 [⟨169,_,_,by simp[qa9,qab,hc],hk⟩]) ?_;simp[zS,qhj];apply qa3;simp[zQ,Tryz.f136];exact qa2 rfl (by rw[hd])
theorem c170(hc0:qIn 85 T e85) (n:Nd) (W:Str) (hW:qdn W) (hl:W.length<=100000) (hx:n.name.length<=1000000000):CA T 170 [qa6 n,.fptr [.str W] 0] zH (.bool (elB n W)) zH:=by
 have kc0:=@k85 T hc0;refine qa1 (s0:=⟨[0,1,2,3],[qa6 n,.fptr [.str W] 0,uD,uD],[],7,⟨0,[[]]⟩⟩) Tryz.func170 rfl rfl rfl ?_
 (repeat' (first
  |with_reducible apply qam
  |(with_reducible apply rE;simp[zS, *,qaq];exact rfl)
  |(with_reducible apply qax;simp only[qan,qah])
  |(with_reducible apply qa3;simp[zQ,Tryz.f170])))
 all_goals first|exact qa2 rfl (by first|(simp[*];done)|(simp_all;done))|(exfalso;omega)
theorem c166(hc0:qIn 167 T e167) (n:Nd) (sc:Int) (hx:n.name.length<=1000000000):CA T 166 [qa6 n,.fptr [.int .i64 sc] 0] zH (.bool (qhw sc n.space n.name)) zH:=by
 have kc0:=@k167 T hc0;refine qa1 (s0:=⟨[0,1,2,3],[qa6 n,.fptr [.int .i64 sc] 0,uD,uD],[],10,⟨0,[[]]⟩⟩) Tryz.func166 rfl rfl rfl ?_
 (repeat' (first
  |with_reducible apply qam
  |(with_reducible apply rE;simp[zS, *,qaq];exact rfl)
  |(with_reducible apply qax;simp only[qan,qah])
  |(with_reducible apply qa3;simp[zQ,Tryz.f166])))
 all_goals first|exact qa2 rfl (by first|(simp[*];done)|(simp_all;done))|(exfalso;omega)
abbrev lsAdp:Str:=[97,100,100,114,101,115,115,32,100,105,118,32,112]
theorem c171(hc0:qIn 172 T e172) (hc1:qIn 85 T e85) (n:Nd) (hx:n.name.length<=1000000000):CA T 171 [qa6 n] zH (.bool (qe6 n.space n.name && !elB n lsAdp)) zH:=by
 have kc0:=@k172 T hc0;have kc1:=@k85 T hc1;have hp:qdn lsAdp:=qry (by decide);have hq:lsAdp.length<=100000:=by decide
 refine qa1 (s0:=⟨[0,1,2],[qa6 n,uD,uD],[],13,⟨0,[[]]⟩⟩) Tryz.func171 rfl rfl rfl ?_
 (repeat' (first
  |with_reducible apply qam
  |(with_reducible apply rE;simp[zS, *,qaq];exact rfl)
  |(with_reducible apply qax;simp only[qan,qah])
  |(with_reducible refine qb6 (fun hc=>?_) (fun hc=>?_)<;>(have hd:=hc;(try simp at hd);(try subst hd);apply qf6;simp[zS, *,qaq];exact rfl))
  |(with_reducible apply qa3;simp[zQ,Tryz.f171])))
 all_goals first|exact qa2 rfl (by first|(simp[*];done)|(simp_all;done))|(exfalso;omega)
def qn4(n:Nd):Bool:=decide (n.space=0) && inW qs9 n.name
theorem c173(hc0:qIn 174 T e174) (hc1:qIn 85 T e85) (n:Nd) (hx:n.name.length<=1000000000):CA T 173 [qa6 n] zH (.bool (elB n [97] && !qn4 n)) zH:=by
 have kc0:=@k174 T hc0;have kc1:=@k85 T hc1;have hp:qdn [97]:=qry (by decide);refine qa1 (s0:=⟨[0,1,2],[qa6 n,uD,uD],[],13,⟨0,[[]]⟩⟩) Tryz.func173 rfl rfl rfl ?_
 (repeat' (first
  |with_reducible apply qam
  |(with_reducible apply rE;simp[zS, *,qaq];exact rfl)
  |(with_reducible apply qax;simp only[qan,qah])
  |(with_reducible refine qb6 (fun hc=>?_) (fun hc=>?_)<;>(have hd:=hc;(try simp at hd);(try subst hd);apply qf6;simp[zS, *,qaq];exact rfl))
  |(with_reducible apply qa3;simp[zQ,Tryz.f173])))
 all_goals first|exact qa2 rfl (by first|(simp[qn4, *];done)|(simp_all [qn4];done))|(exfalso;omega)
theorem c175(hc0:qIn 174 T e174) (n:Nd) (hx:n.name.length<=1000000000):CA T 175 [qa6 n] zH (.bool (qn4 n)) zH:=by
 have kc0:=@k174 T hc0;refine qa1 (s0:=⟨[0,1,2],[qa6 n,uD,uD],[],8,⟨0,[[]]⟩⟩) Tryz.func175 rfl rfl rfl ?_
 (repeat' (first
  |with_reducible apply qam
  |(with_reducible apply rE;simp[zS, *,qaq];exact rfl)
  |(with_reducible apply qax;simp only[qan,qah])
  |(with_reducible apply qa3;simp[zQ,Tryz.f175])))
 all_goals first|exact qa2 rfl (by first|(simp[qn4, *];done)|(simp_all [qn4];done))|(exfalso;omega)
theorem c137(W:Str):CA T 137 [.str W] zH (qgs 170 [.fptr [.str W] 0]) zH:=by refine qa1 (s0:=⟨[0,1,2],[.str W,uD,uD],[],4,⟨0,[[]]⟩⟩) Tryz.func137 rfl rfl rfl ?_;apply qR;simp[zS];apply qR;simp[zS];apply qa3;simp[zQ,Tryz.f137];refine⟨[],[(0,[.str W])],by simp[qgs,qat,qaz,qca],.froze (by simp) fun x hx=>?_⟩;rw[ju]at hx;subst hx;exact⟨[.str W],by simp[zG],qaf (by simp[qa9,qab]),by simp[qa9,qab]⟩
def e137:Entry PG:=mkE 137 [[]] (fun z:Str=>[.str z]) (fun z=>True) (fun z=>qgs 170 [.fptr [.str z] 0]) fun z h=>c137 (T:=[])  z 
theorem k137(hT:qIn 137 T e137) (W:Str) (H:Heap):qb7 (ctx T) (.fn 137) [.str W] H=some (qgs 170 [.fptr [.str W] 0],H):=
 qd2 hT inj_168 (W) trivial (by simp[qa9,qab,qao]) (by simp[qao]) H
def qel(L:List Nd) (W:Str) (sc:Int):Bool:=qwi (fun n=>elB n W) (fun n=>qhw sc n.space n.name) L
theorem c133(hc0:qIn 137 T e137) (hc1:qIn 85 T e85) (hc2:qIn 167 T e167) (hc3:qIn 193 T e193) (L:List Nd) (W:Str) (sc:Int) (hp:okP L) (hW:qdn W) (hl:W.length<=100000):CA T 133 [qa8 L,.str W,.int .i64 sc] zH (.bool (qel L W sc)) zH:=by
 have kc0:=@k137 T hc0;have kc1:=@k85 T hc1;have kc2:=@k167 T hc2;have kc3:=@k193 T hc3;have hc:=c165 hc3 L (by have:=hp.1;omega) (f1:=170) (c1:=[.fptr [.str W] 0]) (f2:=166) (c2:=[.fptr [.int .i64 sc] 0]) rfl rfl (p:=fun n=>elB n W) (q:=fun n=>qhw sc n.space n.name) (fun n hn=>c170 hc1 n W hW hl (hp.2 n hn).nm) (fun n hn=>c166 hc2 n sc (hp.2 n hn).nm);have hcall:=CallAt.thaw hc rfl [[7],[],[]] (H:=⟨1,[[(0,.cells [.int .i64 sc])]]⟩) (args:=[qa8 L,qgs 170 [.fptr [.str W] 0],.func (.func 166) [] [.ptr 0 0]]) (by simp[qgs,qao,okV,qab,qa9,qq7 (H:=⟨1,[[(0,.cells [.int .i64 sc])]]⟩) (b:=0) (cs:=[.int .i64 sc]) rfl rfl]);refine qa1 (s0:=⟨[0,1,2,5,6],[qa8 L,.str W,.int .i64 sc,uD,uD],[],12,⟨0,[[]]⟩⟩) Tryz.func133 rfl rfl rfl ?_;apply qR;simp[zS];repeat apply wq
 refine qai (qbo [⟨165,_,_,_,_,hcall⟩]) ?_;simp[zS,qcu,kc0];apply qa3;simp[zQ,Tryz.f133];exact qa2 rfl (by rfl)
theorem inj_133(x y:List Nd × Str × Int) (h:(fun z:List Nd × Str × Int=>([qa8 z.1,.str z.2.1,.int .i64 z.2.2]:List AV)) x=(fun z:List Nd × Str × Int=>([qa8 z.1,.str z.2.1,.int .i64 z.2.2]:List AV)) y):x=y:=by obtain⟨x0,x1,x2⟩:=x;obtain⟨y0,y1,y2⟩:=y;simp only[j4,and_true]at h;obtain⟨h0,h1,h2⟩:=h;have g0:x0=y0:=qcl h0;have g1:x1=y1:=AV.str.inj h1;have g2:x2=y2:=AV.int.inj h2 |>.2;subst g0 g1 g2;rfl
def e133:Entry PG:=mkE 133 [[7],[],[]] (fun z:List Nd × Str × Int=>[qa8 z.1,.str z.2.1,.int .i64 z.2.2]) (fun z=>(okP z.1)/\(qdn z.2.1)/\(z.2.1.length<=100000)) (fun z=>.bool (qel z.1 z.2.1 z.2.2)) fun z h=>c133 (T:=[e137,e85,e167,e193]) rfl rfl rfl rfl z.1 z.2.1 z.2.2 h.1 h.2.1 h.2.2
theorem k133(hT:qIn 133 T e133) (L:List Nd) (W:Str) (sc:Int) (hp:okP L) (hW:qdn W) (hl:W.length<=100000) (H:Heap):qb7 (ctx T) (.fn 133) [qa8 L,.str W,.int .i64 sc] H=some (.bool (qel L W sc),H):=
 qac hT inj_133 (L,W,sc) ⟨hp,hW,hl⟩ rfl (by simp[qao])
def qeo(L:List Nd) (W:Str):Bool:=qwi (fun n=>elB n W) (fun n=>qe6 n.space n.name && !elB n lsAdp) L
theorem c138(hc0:qIn 137 T e137) (hc1:qIn 85 T e85) (hc2:qIn 172 T e172) (hc3:qIn 193 T e193) (L:List Nd) (W:Str) (hp:okP L) (hW:qdn W) (hl:W.length<=100000):CA T 138 [qa8 L,.str W] zH (.bool (qeo L W)) zH:=by
 have kc0:=@k137 T hc0;have kc1:=@k85 T hc1;have kc2:=@k172 T hc2;have kc3:=@k193 T hc3;have hc:=c165 hc3 L (by have:=hp.1;omega) (f1:=170) (c1:=[.fptr [.str W] 0]) (f2:=171) (c2:=[]) rfl rfl (p:=fun n=>elB n W) (q:=fun n=>qe6 n.space n.name && !elB n lsAdp) (fun n hn=>c170 hc1 n W hW hl (hp.2 n hn).nm) (fun n hn=>c171 hc2 hc1 n (hp.2 n hn).nm);refine qa1 (s0:=⟨[0,1,4],[qa8 L,.str W,uD],[],9,⟨0,[[]]⟩⟩) Tryz.func138 rfl rfl rfl ?_;apply qR;simp[zS];repeat apply wq
 refine qai (qj4 [⟨165,_,_,by simp[qa9,qgs,qab],hc⟩]) ?_;simp[zS,qpe,kc0,qgs];apply qa3;simp[zQ,Tryz.f138];exact qa2 rfl (by rfl)
theorem inj_138(x y:List Nd × Str) (h:(fun z:List Nd × Str=>([qa8 z.1,.str z.2]:List AV)) x=(fun z:List Nd × Str=>([qa8 z.1,.str z.2]:List AV)) y):x=y:=by obtain⟨x0,x1⟩:=x;obtain⟨y0,y1⟩:=y;simp only[j4,and_true]at h;obtain⟨h0,h1⟩:=h;have g0:x0=y0:=qcl h0;have g1:x1=y1:=AV.str.inj h1;subst g0 g1;rfl
def e138:Entry PG:=mkE 138 [[7],[]] (fun z:List Nd × Str=>[qa8 z.1,.str z.2]) (fun z=>(okP z.1)/\(qdn z.2)/\(z.2.length<=100000)) (fun z=>.bool (qeo z.1 z.2)) fun z h=>c138 (T:=[e137,e85,e172,e193]) rfl rfl rfl rfl z.1 z.2 h.1 h.2.1 h.2.2
theorem k138(hT:qIn 138 T e138) (L:List Nd) (W:Str) (hp:okP L) (hW:qdn W) (hl:W.length<=100000) (H:Heap):qb7 (ctx T) (.fn 138) [qa8 L,.str W] H=some (.bool (qeo L W),H):=
 qac hT inj_138 (L,W) ⟨hp,hW,hl⟩ rfl (by simp[qao])
def qg7(L:List Nd):Bool:=qwi (fun n=>elB n [97] && !qn4 n) qn4 L
theorem c139(hc0:qIn 174 T e174) (hc1:qIn 85 T e85) (hc2:qIn 193 T e193) (L:List Nd) (hp:okP L):CA T 139 [qa8 L] zH (.bool (qg7 L)) zH:=by
 have kc0:=@k174 T hc0;have kc1:=@k85 T hc1;have kc2:=@k193 T hc2;have hc:=c165 hc2 L (by have:=hp.1;omega) (f1:=173) (c1:=[]) (f2:=175) (c2:=[]) rfl rfl (p:=fun n=>elB n [97] && !qn4 n) (q:=qn4) (fun n hn=>c173 hc0 hc1 n (hp.2 n hn).nm) (fun n hn=>c175 hc0 n (hp.2 n hn).nm);refine qa1 (s0:=⟨[0,2],[qa8 L,uD],[],5,⟨0,[[]]⟩⟩) Tryz.func139 rfl rfl rfl ?_;apply qR;simp[zS];repeat apply wq
 refine qai (qj4 [⟨165,_,_,by simp[qa9,qgs,qab],hc⟩]) ?_;simp[zS,qpe,qgs];apply qa3;simp[zQ,Tryz.f139];exact qa2 rfl (by rfl)
def e139:Entry PG:=mkE 139 [[7]] (fun z:List Nd=>[qa8 z]) (fun z=>(okP z)) (fun z=>.bool (qg7 z)) fun z h=>c139 (T:=[e174,e85,e193]) rfl rfl rfl z h
theorem k139(hT:qIn 139 T e139) (L:List Nd) (hp:okP L) (H:Heap):qb7 (ctx T) (.fn 139) [qa8 L] H=some (.bool (qg7 L),H):=
 qac hT inj_82 (L) hp rfl (by simp[qao])
def qyv:Go.Shelf.Ren:=⟨fun | 119=>177 | 120=>201 | 137=>162 | 151=>119 | 152=>146 | 160=>153 | 197=>118 | 217=>192 | 224=>178 | 225=>179 | 227=>79 | 228=>117 | 231=>78 | 232=>186 | 233=>80 | 234=>187 | 235=>81 | 236=>188 | 260=>145 | 266=>198 | 271=>196|n=>n,fun | 0=>0 | 3=>3 | 4=>4 | 5=>5 | 9=>9 | 21=>21 | 46=>130 | 105=>89 | 116=>101 | 117=>102 | 119=>129 | 124=>105 | 138=>132 | 139=>133|n=>n,fun | 3=>0 | 4=>1|n=>n⟩
theorem lays160:Go.Proofs.Lays.n160 PG qyv where
 mixed:=by kernel_rfl
 f119:=Tryz.func177.trans (congrArg some (by kernel_rfl))
 f120:=Tryz.func201.trans (congrArg some (by kernel_rfl))
 f137:=Tryz.func162.trans (congrArg some (by kernel_rfl))
 f151:=Tryz.func119.trans (congrArg some (by kernel_rfl))
 f152:=Tryz.func146.trans (congrArg some (by kernel_rfl))
 f160:=Tryz.func153.trans (congrArg some (by kernel_rfl))
 f197:=Tryz.func118.trans (congrArg some (by kernel_rfl))
 f217:=Tryz.func192.trans (congrArg some (by kernel_rfl))
 f224:=Tryz.func178.trans (congrArg some (by kernel_rfl))
 f225:=Tryz.func179.trans (congrArg some (by kernel_rfl))
 f227:=Tryz.func79.trans (congrArg some (by kernel_rfl))
 f228:=Tryz.func117.trans (congrArg some (by kernel_rfl))
 f231:=Tryz.func78.trans (congrArg some (by kernel_rfl))
 f232:=Tryz.func186.trans (congrArg some (by kernel_rfl))
 f233:=Tryz.func80.trans (congrArg some (by kernel_rfl))
 f234:=Tryz.func187.trans (congrArg some (by kernel_rfl))
 f235:=Tryz.func81.trans (congrArg some (by kernel_rfl))
 f236:=Tryz.func188.trans (congrArg some (by kernel_rfl))
 f260:=Tryz.func145.trans (congrArg some (by kernel_rfl))
 f266:=Tryz.func198.trans (congrArg some (by kernel_rfl))
 f271:=Tryz.func196.trans (congrArg some (by kernel_rfl))
 t0:=Tryz.underlying0
 a0:=Tryz.isAgg0
 z0:=Tryz.sizeOf0
 v0:=Tryz.zeroValue0
 t3:=Tryz.underlying3
 a3:=Tryz.isAgg3
 z3:=Tryz.sizeOf3
 v3:=Tryz.zeroValue3
 t4:=Tryz.underlying4
 a4:=Tryz.isAgg4
 z4:=Tryz.sizeOf4
 v4:=Tryz.zeroValue4
 t5:=Tryz.underlying5
 a5:=Tryz.isAgg5
 z5:=Tryz.sizeOf5
 v5:=Tryz.zeroValue5
 t9:=Tryz.underlying9
 a9:=Tryz.isAgg9
 z9:=Tryz.sizeOf9
 v9:=Tryz.zeroValue9
 t21:=Tryz.underlying21
 a21:=Tryz.isAgg21
 z21:=Tryz.sizeOf21
 v21:=Tryz.zeroValue21
 t46:=Tryz.underlying130
 a46:=Tryz.isAgg130
 z46:=Tryz.sizeOf130
 v46:=Tryz.zeroValue130
 t105:=Tryz.underlying89
 a105:=Tryz.isAgg89
 z105:=Tryz.sizeOf89
 v105:=Tryz.zeroValue89
 t116:=Tryz.underlying101
 a116:=Tryz.isAgg101
 z116:=Tryz.sizeOf101
 t117:=Tryz.underlying102
 a117:=Tryz.isAgg102
 z117:=Tryz.sizeOf102
 v117:=Tryz.zeroValue102
 t119:=Tryz.underlying129
 a119:=Tryz.isAgg129
 z119:=Tryz.sizeOf129
 t124:=Tryz.underlying105
 a124:=Tryz.isAgg105
 z124:=Tryz.sizeOf105
 v124:=Tryz.zeroValue105
 t138:=Tryz.underlying132
 a138:=Tryz.isAgg132
 z138:=Tryz.sizeOf132
 v138:=Tryz.zeroValue132
 t139:=Tryz.underlying133
 a139:=Tryz.isAgg133
 z139:=Tryz.sizeOf133
 v139:=Tryz.zeroValue133
 g3:=by kernel_rfl
 g4:=by kernel_rfl
abbrev blV:Str:=[9,10,12,13,32]
theorem bl_spV(c:UInt8):blV.contains c=sp c:=by
 have key:∀n:Fin 256,blV.contains (UInt8.ofNat n.val)=sp (UInt8.ofNat n.val):=by decide +kernel
 have:=key ⟨c.toNat,c.toNat_lt⟩;simpa using this
def qtp(s:Str):Str:=((s.reverse.dropWhile sp).reverse).dropWhile sp
theorem c153(s:Str) (hs:s.length<=1000000000):CA T 153 [.str s,.str blV] zH (.str (qtp s)) zH:=by
 intro ρ w xs sm hx
 match xs,hx with
 |[x,y],hx=>
  have h0:=hx.2 0 (by simp) (by simp);have h1:=hx.2 1 (by simp) (by simp);simp only[j5,ym]at h0 h1;cases h0;cases h1;have hrun:(callFunc 153 #[.string ⟨s.toArray⟩,.string ⟨blV.toArray⟩]).run (ctx T).P w=.ok (.enter 153 #[.string ⟨s.toArray⟩,.string ⟨blV.toArray⟩]) w:=by
   have hf:(ctx T).P.funcs[153]? = some Tryz.f153:=Tryz.func153
   have hn : ¬ Tryz.f153.name = "runtime.NumGoroutine" := by decide +kernel
   simp[callFunc,hf,hn,Tryz.f153]
  refine .inr ⟨153,_,hrun,callsIn_wide.2 ?_⟩;refine(Go.Proofs.Any.strings_Trim_ascii lays160 (zero_of_info zaj).1 (zero_of_info zaj).2 ⟨s.toArray⟩ ⟨blV.toArray⟩ w (by show s.length<=_;omega) (by decide) (fun j b hj=>?_)).mono ?_
  ·have hm:b∈blV:=List.mem_of_getElem? hj;simp at hm;rcases hm with rfl|rfl|rfl|rfl|rfl<;>decide
  ·rintro e w' ⟨rfl,hb⟩;have hv:Lib.trimS (⟨s.toArray⟩ : ByteArray).data.toList (⟨blV.toArray⟩ : ByteArray).data.toList=qtp s:=(by have e1:(fun c=>blV.contains c)=sp:=funext bl_spV;show ((s.toArray.toList.reverse.dropWhile (fun c=>blV.contains c)).reverse).dropWhile (fun c=>blV.contains c)=_;rw[e1];rfl);rw[hv];exact⟨_,ρ,rfl,.str _,qnt sm hb,qln hb⟩
def e153:Entry PG:=mkE 153 [[],[]] (fun x:Str=>[.str x,.str blV]) (fun x=>x.length<=1000000000) (fun x=>.str (qtp x)) fun x h=>c153 (T:=[]) x h
theorem k153(hT:qIn 153 T e153) (s:Str) (hs:s.length<=1000000000) (H:Heap):qb7 (ctx T) (.fn 153) [.str s,.str blV] H=some (.str (qtp s),H):=
 qd2 hT (fun x y h=>by simpa using h) s hs (by simp[qa9,qab]) (by simp) H
theorem zin{p:UInt8->Bool}:∀(s:Str),s.dropWhile p=[]↔s.all p=true
 |[]=>by simp
 |c::r=>by
  rw[List.dropWhile_cons];by_cases h:p c=true
  ·simp[h,zin r]
  ·simp[h]
theorem zab(s:Str):decide (qtp s=[])=s.all sp:=by
 rw[jP,decide_eq_true_iff];unfold qtp;rw[zin,List.all_reverse];constructor
 ·intro h;have e:=List.takeWhile_append_dropWhile (p:=sp) (l:=s.reverse);have:s.reverse.all sp=true:=by rw[<- e,List.all_append,jd];exact⟨List.all_takeWhile,h⟩
  simpa using this
 ·intro h;have:s.reverse.dropWhile sp=[]:=(zin _).2 (by simpa using h);rw[this];rfl
theorem c123(hc0:qIn 153 T e153) (s:Str) (hs:s.length<=1000000000):CA T 123 [.str s] zH (.str (qtp s)) zH:=by
 have kc0:=@k153 T hc0;refine qa1 (s0:=⟨[0,2],[.str s,uD],[],5,⟨0,[[]]⟩⟩) Tryz.func123 rfl rfl rfl ?_
 (repeat' (first
  |with_reducible apply qam
  |(with_reducible apply rE;simp[zS, *];exact rfl)
  |(with_reducible apply qax;simp only[qan,qah])
  |(with_reducible apply qa3;simp[zQ,Tryz.f123])))
 all_goals first|exact qa2 rfl (by first|(simp[*];done)|(simp_all;done))|(exfalso;omega)
def e123:Entry PG:=mkE 123 [[]] (fun z:Str=>[.str z]) (fun z=>(z.length<=1000000000)) (fun z=>.str (qtp z)) fun z h=>c123 (T:=[e153]) rfl z h
theorem k123(hT:qIn 123 T e123) (s:Str) (hs:s.length<=1000000000) (H:Heap):qb7 (ctx T) (.fn 123) [.str s] H=some (.str (qtp s),H):=
 qac hT inj_168 (s) hs rfl (by simp[qao])
theorem c86(hc0:qIn 123 T e123) (s:Str) (hs:s.length<=1000000000):CA T 86 [.str s] zH (.bool (s.all sp)) zH:=by
 have kc0:=@k123 T hc0;refine qa1 (s0:=⟨[0,2],[.str s,uD],[],6,⟨0,[[]]⟩⟩) Tryz.func86 rfl rfl rfl ?_
 (repeat' (first
  |with_reducible apply qam
  |(with_reducible apply rE;simp[zS, *];exact rfl)
  |(with_reducible apply qax;simp only[qan,qah])
  |(with_reducible apply qa3;simp[zQ,Tryz.f86])))
 all_goals first|exact qa2 rfl (by first|(simp[<- zab, *];done)|(simp_all [<- zab];done))|(exfalso;omega)
def e86:Entry PG:=mkE 86 [[]] (fun z:Str=>[.str z]) (fun z=>(z.length<=1000000000)) (fun z=>.bool (z.all sp)) fun z h=>c86 (T:=[e123]) rfl z h
theorem k86(hT:qIn 86 T e86) (s:Str) (hs:s.length<=1000000000) (H:Heap):qb7 (ctx T) (.fn 86) [.str s] H=some (.bool (s.all sp),H):=
 qac hT inj_168 (s) hs rfl (by simp[qao])
def qez(s:Str):Bool:=qjc s && !conB s [13]
theorem c83(hc0:qIn 120 T e120) (hc1:qIn 121 T e121) (s:Str) (hs:s.length<=900000):CA T 83 [.str s] zH (.bool (qez s)) zH:=by
 have kc0:=@k120 T hc0;have kc1:=@k121 T hc1;have hs2:s.length<=1000000:=by omega
 refine qa1 (s0:=⟨[0,2],[.str s,uD],[],10,⟨0,[[]]⟩⟩) Tryz.func83 rfl rfl rfl ?_
 (repeat' (first
  |with_reducible apply qam
  |(with_reducible apply rE;simp[zS, *];exact rfl)
  |(with_reducible apply qax;simp only[qan,qah])
  |(with_reducible refine qb6 (fun hc=>?_) (fun hc=>?_)<;>(have hd:=hc;(try simp at hd);(try subst hd);apply qf6;simp[zS, *];exact rfl))
  |(with_reducible apply qa3;simp[zQ,Tryz.f83])))
 all_goals first|exact qa2 rfl (by first|(simp[qez, *];done)|(simp_all [qez];done))|(exfalso;omega)
def e83:Entry PG:=mkE 83 [[]] (fun z:Str=>[.str z]) (fun z=>(z.length<=900000)) (fun z=>.bool (qez z)) fun z h=>c83 (T:=[e120,e121]) rfl rfl z h
theorem k83(hT:qIn 83 T e83) (s:Str) (hs:s.length<=900000) (H:Heap):qb7 (ctx T) (.fn 83) [.str s] H=some (.bool (qez s),H):=
 qac hT inj_168 (s) hs rfl (by simp[qao])
def qd3(n:Nd):Bool:=decide (n.name=[]) && decide (n.attrs=[]) && decide (n.space=0)
def qd5(L:List Nd) (s:Str):Bool:=!decide (s=[]) && qez s && !(decide ((qap L).kind=1) && qjk (qap L).space (qap L).name) && (!elB (qap L) lsB8 || s.all sp)
theorem qjx{L:List Nd} (h:okP L):okN (qap L):=by
 unfold qap;split
 ·exact⟨by decide,by decide,by decide,fun a ha=>by cases ha⟩
 next hne=>have:0 < L.length:=j8.2 hne;exact h.2 _ (qb5 (by omega) (by omega))
theorem c55(hc0:qIn 82 T e82) (hc1:qIn 83 T e83) (hc2:qIn 84 T e84) (hc3:qIn 85 T e85) (hc4:qIn 86 T e86) (L:List Nd) (s:Str) (hp:okP L) (hs:s.length<=900000):CA T 55 [qa8 L,.str s] zH (.bool (qd5 L s)) zH:=by
 have kc0:=@k82 T hc0;have kc1:=@k83 T hc1;have kc2:=@k84 T hc2;have kc3:=@k85 T hc3;have kc4:=@k86 T hc4;have hl:L.length<=1000000:=by have:=hp.1;omega
 have hx:=(qjx hp).nm;have hs2:s.length<=1000000000:=by omega
 have h1:qdn lsB8:=qry (by decide);refine qa1 (s0:=⟨[0,1,4,5],[qa8 L,.str s,uD,uD],[],32,⟨0,[[]]⟩⟩) Tryz.func55 rfl rfl rfl ?_
 (repeat' (first
  |with_reducible apply qam
  |with_reducible apply qa7
  |(with_reducible apply rE;simp[zS, *,qaq];exact rfl)
  |(with_reducible apply qax;simp only[qan,qah])
  |(with_reducible refine qb6 (fun hc=>?_) (fun hc=>?_)<;>(have hd:=hc;(try simp at hd);(try subst hd);apply qf6;simp[zS, *,qaq];exact rfl))
  |apply qaj rfl
  |apply qag rfl
  |(refine qay rfl (fun hc=>?_) (fun hc=>?_)<;>(have hd:=hc;(try simp at hd);(try subst hd)))
  |(with_reducible apply qa4;simp only[qan,qah])
  |(with_reducible apply qa3;simp[zQ,Tryz.f55])))
 all_goals first|exact qa2 rfl (by first|(simp[qd5, *];done)|(simp_all [qd5];done))|(exfalso;omega)
def e55:Entry PG:=mkE 55 [[7],[]] (fun z:List Nd × Str=>[qa8 z.1,.str z.2]) (fun z=>(okP z.1)/\(z.2.length<=900000)) (fun z=>.bool (qd5 z.1 z.2)) fun z h=>c55 (T:=[e82,e83,e84,e85,e86]) rfl rfl rfl rfl rfl z.1 z.2 h.1 h.2
theorem k55(hT:qIn 55 T e55) (L:List Nd) (s:Str) (hp:okP L) (hs:s.length<=900000) (H:Heap):qb7 (ctx T) (.fn 55) [qa8 L,.str s] H=some (.bool (qd5 L s),H):=
 qac hT inj_138 (L,s) ⟨hp,hs⟩ rfl (by simp[qao])
theorem q55(hT:qIn 55 T e55) {H:Heap} {a0:AV} {L:List Nd} (b0:qet H [7] a0=some (qa8 L)) (s:Str) (hp:okP L) (hs:s.length<=900000):qb7 (ctx T) (.fn 55) [a0,.str s] H=some (.bool (qd5 L s),H):=
 qac hT inj_138 (L,s) ⟨hp,hs⟩ rfl (by simp[b0])
abbrev qyr:Str:= qsa
def qxo(x:Str):Bool:=decide (x=[104,114]\/x=[116,97,98,108,101]\/x=[102,111,114,109]\/x=[108,105]\/x=[100,100]\/x=[100,116]) || inW qsa x || qdu 0 x
theorem c134(hc0:qIn 168 T e168) (hc1:qIn 135 T e135) (x:Str) (hx:x.length<=1000000000):CA T 134 [.str x] zH (.bool (qxo x)) zH:=by
 have kc0:=@k168 T hc0;have kc1:=@k135 T hc1;refine qa1 (s0:=⟨[0,2,3,4],[.str x,uD,uD,uD],[],17,⟨0,[[]]⟩⟩) Tryz.func134 rfl rfl rfl ?_
 (repeat' (first
  |with_reducible apply qam
  |with_reducible apply qa7
  |(with_reducible apply rE;simp[zS, *];exact rfl)
  |(with_reducible apply qax;simp only[qan,qah])
  |(with_reducible refine qb6 (fun hc=>?_) (fun hc=>?_)<;>(have hd:=hc;(try simp at hd);(try subst hd);apply qf6;simp[zS, *];exact rfl))
  |apply qaj rfl
  |(refine qay rfl (fun hc=>?_) (fun hc=>?_)<;>(have hd:=hc;(try simp at hd);(try subst hd)))
  |(with_reducible apply qa4;simp only[qan,qah])
  |(with_reducible apply qa3;simp[zQ,Tryz.f134])))
 all_goals first|exact qa2 rfl (by first|(simp[qxo, *];done)|(simp_all [qxo];done))|(exfalso;omega)
def e134:Entry PG:=mkE 134 [[]] (fun z:Str=>[.str z]) (fun z=>(z.length<=1000000000)) (fun z=>.bool (qxo z)) fun z h=>c134 (T:=[e168,e135]) rfl rfl z h
theorem k134(hT:qIn 134 T e134) (x:Str) (hx:x.length<=1000000000) (H:Heap):qb7 (ctx T) (.fn 134) [.str x] H=some (.bool (qxo x),H):=
 qac hT inj_168 (x) hx rfl (by simp[qao])
def qlb(L:List Nd):Bool:=L.any fun n=>elB n [102,111,114,109]
def qla(L:List Nd) (x:Str):Bool:=
 if (qxo x && qel L [112] 2)=true then false
 else if x=[99,97,112,116,105,111,110]\/x=[99,111,108]\/x=[99,111,108,103,114,111,117,112]\/x=[116,98,111,100,121]\/x=[116,100]\/x=[116,102,111,111,116]\/x=[116,104]\/x=[116,104,101,97,100]\/x=[116,114] then false
 else if x=[104,49]\/x=[104,50]\/x=[104,51]\/x=[104,52]\/x=[104,53]\/x=[104,54] then !(decide ((qap L).kind=1) && qdu (qap L).space (qap L).name)
 else if x=[102,111,114,109] then !qlb L
 else if x=[98,117,116,116,111,110]\/x=[110,111,98,114] then !qel L x 0
 else if x=[108,105] then !qeo L x
 else if x=[100,100]\/x=[100,116] then !qeo L [100,100,32,100,116]
 else if x=[97] then !qg7 L
 else if x=[111,112,116,105,111,110]\/x=[111,112,116,103,114,111,117,112] then !elB (qap L) [111,112,116,105,111,110] else true
set_option maxHeartbeats 4000000 in
theorem c96(hc0:qIn 82 T e82) (hc1:qIn 134 T e134) (hc2:qIn 133 T e133) (hc3:qIn 85 T e85) (hc4:qIn 138 T e138) (hc5:qIn 139 T e139) (hc6:qIn 135 T e135) (hc7:qIn 137 T e137) (L:List Nd) (x:Str) (hp:okP L) (hx:x.length<=1000000000):CA T 96 [qa8 L,.str x] zH (.bool (qla L x)) zH:=by
 have kc0:=@k82 T hc0;have kc1:=@k134 T hc1;have kc2:=@k133 T hc2;have kc3:=@k85 T hc3;have kc4:=@k138 T hc4;have kc5:=@k139 T hc5;have kc6:=@k135 T hc6;have kc7:=@k137 T hc7;have hl:L.length<=1000000:=by have:=hp.1;omega
 have hpx:=(qjx hp).nm;have a1:qdn [112]:=qry (by decide);have a2:qdn [98,117,116,116,111,110]:=qry (by decide);have a3:qdn [110,111,98,114]:=qry (by decide);have a4:qdn [108,105]:=qry (by decide);have a5:qdn [100,100,32,100,116]:=qry (by decide);have a6:qdn [111,112,116,105,111,110]:=qry (by decide);have hf:=c136 (T:=T) L hl 170 [.fptr [.str [102,111,114,109]] 0] rfl (fun n=>elB n [102,111,114,109]) (fun n hn=>c170 hc3 n [102,111,114,109] (qry (by decide)) (by decide) (hp.2 n hn).nm);have hpu:qa9 [qa8 L,.func (.func 170) [] [.fptr [.str [102,111,114,109]] 0]]=true:=by simp[qa9,qab]
 have ef:qlb L=L.any fun n=>elB n [102,111,114,109]:=rfl;rw[<- ef]at hf;have cv:qgs 170 [.fptr [.str [102,111,114,109]] 0]=.func (.func 170) [] [.fptr [.str [102,111,114,109]] 0]:=rfl;have k0:=fun H=>kc0 L hl H;have k1:=fun H=>kc1 x hx H;have k2:=fun H=>kc2 L [112] 2 hp a1 (by decide) H;have k2x:=fun(hW:qdn x) (hq:x.length<=100000) H=>kc2 L x 0 hp hW hq H;have k3:=fun H=>kc3 (qap L) [111,112,116,105,111,110] a6 (by decide) hpx H;have k4:=fun H=>kc4 L [100,100,32,100,116] hp a5 (by decide) H;have k4x:=fun(hW:qdn x) (hq:x.length<=100000) H=>kc4 L x hp hW hq H;have k5:=fun H=>kc5 L hp H;have k6:=fun H=>kc6 (qap L).space (qap L).name H;have k7:=fun H=>kc7 [102,111,114,109] H;clear kc0 kc1 kc2 kc3 kc4 kc5 kc6 kc7 hc0 hc1 hc2 hc3 hc4 hc5 hc6 hc7 ef;unfold qla;generalize qdu (qap L).space (qap L).name=b6 at *;generalize elB (qap L) [111,112,116,105,111,110]=b3 at *;generalize qap L=up at *;generalize qg7 L=b5 at *;generalize qeo L [100,100,32,100,116]=b4 at *;generalize qeo L x=b4x at *;generalize qel L [112] 2=b2 at *;generalize qel L x 0=b2x at *;generalize qlb L=bf at *;generalize qxo x=b1 at *;refine qa1 (s0:=⟨[0,1,4,5,14,15,25,49,62,73],[qa8 L,.str x,uD,uD,uD,uD,uD,uD,uD,uD],[],79,⟨0,[[]]⟩⟩) Tryz.func96 rfl rfl rfl ?_
 (repeat' (first
  |with_reducible apply qam
  |with_reducible apply qa7
  |(with_reducible refine qai (qj4 [⟨136,_,_,hpu,hf⟩]) ?_;apply qf6;simp[zS, *,qaq,qpe];exact rfl)
  |(with_reducible apply qax;simp only[qan,qah])
  |(with_reducible refine qb6 (fun hc=>?_) (fun hc=>?_)<;>(have hd:=hc;(try simp at hd);(try subst hd);apply qf6;simp[zS, *,qaq,qpe];exact rfl))
  |apply qaj rfl
  |apply qag rfl
  |(refine qay rfl (fun hc=>?_) (fun hc=>?_)<;>(have hd:=hc;(try simp at hd);(try subst hd)))
  |(with_reducible apply qa4;simp only[qan,qah])
  |(with_reducible apply qa3;simp[zQ,Tryz.f96])))
 all_goals first|exact qa2 rfl (by first|(simp[*];done)|(simp_all;done))|(exfalso;omega)
def e96:Entry PG:=mkE 96 [[7],[]] (fun z:List Nd × Str=>[qa8 z.1,.str z.2]) (fun z=>(okP z.1)/\(z.2.length<=1000000000)) (fun z=>.bool (qla z.1 z.2)) fun z h=>c96 (T:=[e82,e134,e133,e85,e138,e139,e135,e137]) rfl rfl rfl rfl rfl rfl rfl rfl z.1 z.2 h.1 h.2
theorem k96(hT:qIn 96 T e96) (L:List Nd) (x:Str) (hp:okP L) (hx:x.length<=1000000000) (H:Heap):qb7 (ctx T) (.fn 96) [qa8 L,.str x] H=some (.bool (qla L x),H):=
 qac hT inj_138 (L,x) ⟨hp,hx⟩ rfl (by simp[qao])
def qdb(L:List Nd):Str × Bool:=
 let up:=qap L
 if up.kind≠1 then ([],false)
 else if qjk up.space up.name=true then ([],true)
 else if up.space≠0 then ([],false)
 else if up.name=[116,101,120,116,97,114,101,97] then ([],true)
 else if up.name=[111,112,116,105,111,110] then ([],qel L [115,101,108,101,99,116] 4)
 else if up.name=[111,112,116,103,114,111,117,112] then ([111,112,116,105,111,110],qel L [115,101,108,101,99,116] 4)
 else if up.name=[115,101,108,101,99,116] then (lsB6,true)
 else if up.name=[116,97,98,108,101] then (lsB18,true)
 else if up.name=[99,111,108,103,114,111,117,112] then ([99,111,108],true)
 else if up.name=[116,98,111,100,121]\/up.name=[116,102,111,111,116]\/up.name=[116,104,101,97,100] then ([116,114],true)
 else if up.name=[116,114] then ([116,100,32,116,104],true) else ([],false)
theorem c95(hc0:qIn 82 T e82) (hc1:qIn 84 T e84) (hc2:qIn 133 T e133) (L:List Nd) (hp:okP L):CA T 95 [qa8 L] zH (.tup [.str (qdb L).1,.bool (qdb L).2]) zH:=by
 have kc0:=@k82 T hc0;have kc1:=@k84 T hc1;have kc2:=@k133 T hc2;have hl:L.length<=1000000:=by have:=hp.1;omega
 have hpx:=(qjx hp).nm;have k0:=fun H=>kc0 L hl H;have k1:=fun H=>kc1 (qap L).space hpx H;have k2:=fun H=>kc2 L [115,101,108,101,99,116] 4 hp (qry (by decide)) (by decide) H;clear kc0 kc1 kc2 hc0 hc1 hc2;simp only[qdb];generalize qel L [115,101,108,101,99,116] 4=b2 at *;generalize qjk (qap L).space (qap L).name=b1 at *;generalize qap L=up at *;refine qa1 (s0:=⟨[0,2,3,4,19,36],[qa8 L,uD,uD,uD,uD,uD],[],42,⟨0,[[]]⟩⟩) Tryz.func95 rfl rfl rfl ?_
 (repeat' (first
  |with_reducible apply qam
  |with_reducible apply qa7
  |(with_reducible apply rE;simp[zS, *,qaq];exact rfl)
  |(with_reducible apply qax;simp only[qan,qah])
  |apply qag rfl
  |(refine qay rfl (fun hc=>?_) (fun hc=>?_)<;>(have hd:=hc;(try simp at hd);(try subst hd)))
  |(with_reducible apply qa4;simp only[qan,qah])
  |(with_reducible apply qa3;simp[zQ,Tryz.f95])))
 all_goals first|exact qa2 rfl (by first|(simp[*];done)|(simp_all;done))|(exfalso;omega)
def e95:Entry PG:=mkE 95 [[7]] (fun z:List Nd=>[qa8 z]) (fun z=>(okP z)) (fun z=>.tup [.str (qdb z).1,.bool (qdb z).2]) fun z h=>c95 (T:=[e82,e84,e133]) rfl rfl rfl z h
theorem k95(hT:qIn 95 T e95) (L:List Nd) (hp:okP L) (H:Heap):qb7 (ctx T) (.fn 95) [qa8 L] H=some (.tup [.str (qdb L).1,.bool (qdb L).2],H):=
 qd2 hT inj_82 (L) hp (by simp[qa9,qab,qao]) (by simp[qao]) H
theorem ite_P{α:Type} {P:α->Prop} {c:Prop} [Decidable c] {a b:α} (ha:P a) (hb:P b):P (if c then a else b):=by
 split
 ·exact ha
 ·exact hb
theorem qoq(L:List Nd):qdn (qdb L).1/\(qdb L).1.length<=100000:=by
 have key:∀W:Str,∀b:Bool,W.all (fun c=>decide (c.toNat < 128))=true->W.length<=100000->(fun z:Str × Bool=>qdn z.1/\z.1.length<=100000) (W,b):=fun W b h1 h2=>⟨qry h1,h2⟩;show (fun z:Str × Bool=>qdn z.1/\z.1.length<=100000) (qdb L);simp only[qdb]
 repeat' (first|exact key _ _ (by decide) (by decide)|apply ite_P (P:=fun z:Str × Bool=>qdn z.1/\z.1.length<=100000))
def zch(u n:Nd):Bool:=decide (n.space=u.space) || (decide (u.space=2) && decide (u.name=[97,110,110,111,116,97,116,105,111,110,45,120,109,108]) && decide (n.space=1) && decide (n.name=[115,118,103]))
def qly(L:List Nd) (n:Nd):Bool:=
 let up:=qap L
 if n.kind≠1\/qm0 n.space n.name=false then false
 else if (up.kind≠1\/up.space≠0)/\qgb up=false/\qf7 up=false then zch up n
 else if (qdb L).2=true then elB n (qdb L).1
 else if n.space=1 then decide (n.name=[115,118,103]) else if n.space=2 then decide (n.name=[109,97,116,104]) else qla L n.name
set_option maxHeartbeats 2000000 in
theorem c58(hc0:qIn 82 T e82) (hc1:qIn 91 T e91) (hc2:qIn 92 T e92) (hc3:qIn 93 T e93) (hc4:qIn 94 T e94) (hc5:qIn 95 T e95) (hc6:qIn 85 T e85) (hc7:qIn 96 T e96) (L:List Nd) (n:Nd) (hp:okP L) (hn:okN n):CA T 58 [qa8 L,qa6 n] zH (.bool (qly L n)) zH:=by
 have kc0:=@k82 T hc0;have kc1:=@k91 T hc1;have kc2:=@k92 T hc2;have kc3:=@k93 T hc3;have kc4:=@k94 T hc4;have kc5:=@k95 T hc5;have kc6:=@k85 T hc6;have kc7:=@k96 T hc7;have hl:L.length<=1000000:=by have:=hp.1;omega
 have hpo:=qjx hp;have hnx:=hn.nm;obtain⟨a1,a2⟩:=qoq L;have k0:=fun H=>kc0 L hl H;have k1:=fun H=>kc1 n.space n.name hnx H;have k2:=fun H=>kc2 (qap L) H;have k3:=fun H=>kc3 (qap L) hpo H;have k4:=fun H=>kc4 (qap L) n H;have k5:=fun H=>kc5 L hp H;have k6:=fun H=>kc6 n (qdb L).1 a1 a2 hnx H;have k7:=fun H=>kc7 L n.name hp hnx H;have ea:(decide (n.space=(qap L).space) || (decide ((qap L).space=2) && decide ((qap L).name=[97,110,110,111,116,97,116,105,111,110,45,120,109,108]) && decide (n.space=1) && decide (n.name=[115,118,103])))=zch (qap L) n:=rfl;simp only[ea]at k4;clear kc0 kc1 kc2 kc3 kc4 kc5 kc6 kc7 hc0 hc1 hc2 hc3 hc4 hc5 hc6 hc7 a1 a2 ea hpo;simp only[qly];generalize elB n (qdb L).1=b6 at *;generalize qdb L=st at *;obtain⟨s1,s2⟩:=st;generalize qla L n.name=b7 at *;generalize qf7 (qap L)=b3 at *;generalize qgb (qap L)=b2 at *;generalize zch (qap L) n=b4 at *;generalize qm0 n.space n.name=b1 at *;generalize qap L=up at *;simp only at *;refine qa1 (s0:=⟨[0,1,3,4,5,6,7,52],[qa8 L,qa6 n,uD,uD,uD,uD,uD,uD],[],67,⟨0,[[]]⟩⟩) Tryz.func58 rfl rfl rfl ?_
 (repeat' (first
  |with_reducible apply qam
  |with_reducible apply qa7
  |(with_reducible apply rE;simp[zS, *,qaq];exact rfl)
  |(with_reducible apply qax;simp only[qan,qah])
  |(with_reducible refine qb6 (fun hc=>?_) (fun hc=>?_)<;>(have hd:=hc;(try simp at hd);(try subst hd);apply qf6;simp[zS, *,qaq];exact rfl))
  |apply qaj rfl
  |apply qag rfl
  |(refine qay rfl (fun hc=>?_) (fun hc=>?_)<;>(have hd:=hc;(try simp at hd);(try subst hd)))
  |(with_reducible apply qa4;simp only[qan,qah])
  |(with_reducible apply qa3;simp[zQ,Tryz.f58])))
 all_goals first|exact qa2 rfl (by first|(simp[*];done)|(simp_all;done))|(exfalso;omega)
theorem inj_58(x y:List Nd × Nd) (h:(fun z:List Nd × Nd=>([qa8 z.1,qa6 z.2]:List AV)) x=(fun z:List Nd × Nd=>([qa8 z.1,qa6 z.2]:List AV)) y):x=y:=by obtain⟨x0,x1⟩:=x;obtain⟨y0,y1⟩:=y;simp only[j4,and_true]at h;obtain⟨h0,h1⟩:=h;have g0:x0=y0:=qcl h0;have g1:x1=y1:=qcw h1;subst g0 g1;rfl
def e58:Entry PG:=mkE 58 [[7],[0,0,0,2,0,0,1]] (fun z:List Nd × Nd=>[qa8 z.1,qa6 z.2]) (fun z=>(okP z.1)/\(okN z.2)) (fun z=>.bool (qly z.1 z.2)) fun z h=>c58 (T:=[e82,e91,e92,e93,e94,e95,e85,e96]) rfl rfl rfl rfl rfl rfl rfl rfl z.1 z.2 h.1 h.2
theorem k58(hT:qIn 58 T e58) (L:List Nd) (n:Nd) (hp:okP L) (hn:okN n) (H:Heap):qb7 (ctx T) (.fn 58) [qa8 L,qa6 n] H=some (.bool (qly L n),H):=
 qac hT inj_58 (L,n) ⟨hp,hn⟩ rfl (by simp[qao])
theorem q58(hT:qIn 58 T e58) {H:Heap} {a0:AV} {L:List Nd} (b0:qet H [7] a0=some (qa8 L)) {a1:AV} {n:Nd} (b1:qet H [0,0,0,2,0,0,1] a1=some (qa6 n))  (hp:okP L) (hn:okN n):qb7 (ctx T) (.fn 58) [a0,a1] H=some (.bool (qly L n),H):=
 qac hT inj_58 (L,n) ⟨hp,hn⟩ rfl (by simp[b0,b1])
theorem FitH.fsV{n:Nat} {σ:List (Nat × Nat)} {Φ:List (Nat × List AV)} {H:Heap} {m:Nat} {f g:List (List (Nat × Blk))} (h:FitH n σ Φ H ⟨m,f⟩) (e:f.flatten=g.flatten):FitH n σ Φ H ⟨m,g⟩ where
 nd1:=h.nd1
 nd2:=h.nd2
 nd3:=by have:=h.nd3;simp only[Heap.ents]at this ⊢;rw[<- e];exact this
 lt:=h.lt
 idn:=h.idn
 num:=h.num
 src:=by have:=h.src;simp only[Heap.ents]at this ⊢;rw[<- e];exact this
 frz:=h.frz
def qno(s:Str):AV:=.fslc 1 (qad s)
theorem qte:∀(s:Str),qep 1 (qad s)=true
 |[]=>rfl
 |c::r=>by simp[qad,qep,qte r]
theorem zdv{σ:List (Nat × Nat)} {Φ:List (Nat × List AV)} {b:Nat} {s:Str} {cap:Cap} (h:qca b Φ=some (qad s)):qat σ Φ (.slc b 0 s.length cap) (qno s):=by simp only[qat,qno];refine .inl ⟨qad s,h,?_,qd8 s,qte s⟩;have:=qcn (qad s);rw[qd8]at this;simp only[qek,jF,y8,this,ql3]
theorem qqp(s:Str):qab (qno s)=true:=by simp[qno,qab,ql3,qh9]
theorem atBy{s:Str} {i:Nat} (h:i < s.length):qav PG 74 (qno s) (.int .i64 (i:Int))=some (.fptr [.int .u8 s[i].toNat] 0):=by
 have hb:i < (qad s).length:=by rw[qd8];exact h
 simp[qav,qno,qbz hb,qdz h,AV.cells]
def qgd(sp:Int):List Str:=if sp=1 then [[118,105,101,119,66,111,120],lsB7,[103,114,97,100,105,101,110,116,85,110,105,116,115]] else if sp=2 then [[100,101,102,105,110,105,116,105,111,110,85,82,76]] else []
theorem spel_len(sp:Int):(qgd sp).length<=3:=by
 unfold qgd;split
 ·exact jc 3
 split
 ·exact(by decide:1<=3)
 ·exact jh _
theorem c158(sp:Int):CA T 158 [.int .i64 sp] zH (qcp (qgd sp)) zH:=by
 by_cases h1:sp=1
 ·refine qa1 (s0:=⟨[0,2,3],[.int .i64 sp,uD,uD],[],10,⟨0,[[]]⟩⟩) Tryz.func158 rfl rfl rfl ?_
  (repeat' (first
   |with_reducible apply qam
   |with_reducible apply qa7
   |(with_reducible apply rE;simp[zS, *];exact rfl)
   |(with_reducible apply qax;simp only[qan,qah])
   |apply qaj rfl
   |(with_reducible apply qa3;simp[zQ,Tryz.f158])))
  all_goals first|(skip)|(exfalso;omega)
  simp[qgd,h1];exact qt8 rfl (by simp[qa5]) (by simp[qa9,qab]) rfl (by simp[qep]) rfl
 ·by_cases h2:sp=2
  ·refine qa1 (s0:=⟨[0,2,3],[.int .i64 sp,uD,uD],[],10,⟨0,[[]]⟩⟩) Tryz.func158 rfl rfl rfl ?_
   (repeat' (first
    |with_reducible apply qam
    |with_reducible apply qa7
    |(with_reducible apply rE;simp[zS, *];exact rfl)
    |(with_reducible apply qax;simp only[qan,qah])
    |apply qaj rfl
    |apply qag rfl
    |(with_reducible apply qa3;simp[zQ,Tryz.f158])))
   all_goals first|(skip)|(exfalso;omega)
   simp[qgd,h2];exact qt8 rfl (by simp[qa5]) (by simp[qa9,qab]) rfl (by simp[qep]) rfl
  ·refine qa1 (s0:=⟨[0,2,3],[.int .i64 sp,uD,uD],[],10,⟨0,[[]]⟩⟩) Tryz.func158 rfl rfl rfl ?_
   (repeat' (first
    |with_reducible apply qam
    |with_reducible apply qa7
    |(with_reducible apply rE;simp[zS, *];exact rfl)
    |(with_reducible apply qax;simp only[qan,qah])
    |apply qag rfl
    |(with_reducible apply qa4;simp only[qan,qah])
    |(with_reducible apply qa3;simp[zQ,Tryz.f158])))
   all_goals first|(skip)|(exfalso;omega)
   simp[qgd,h1,h2];exact ends_nil
theorem inj_158(x y:Int) (h:(fun z:Int=>([.int .i64 z]:List AV)) x=(fun z:Int=>([.int .i64 z]:List AV)) y):x=y:=by simp only[j4,and_true]at h;exact AV.int.inj h |>.2
def e158:Entry PG:=mkE 158 [[]] (fun z:Int=>[.int .i64 z]) (fun z=>True) (fun z=>qcp (qgd z)) fun z h=>c158 (T:=[])  z 
theorem k158(hT:qIn 158 T e158) (sp:Int) (H:Heap):qb7 (ctx T) (.fn 158) [.int .i64 sp] H=some (qcp (qgd sp),H):=
 qd2 hT inj_158 (sp) trivial (by simp[qa9,qab,qao]) (by simp[qao]) H
theorem c160(hL:qIn 161 T e161) (x s:Str) (hx:x.length<=1000000):CA T 160 [.str x,.fptr [.str s] 0] zH (.bool (decide (qg0 x=s))) zH:=by
 have kl:=fun H=>k161 hL hx H;refine qa1 (s0:=⟨[0,1,3],[.str x,.fptr [.str s] 0,uD],[],8,⟨0,[[]]⟩⟩) Tryz.func160 rfl rfl rfl ?_;apply qR;simp[zS];repeat apply wq
 refine zen mixed qbc (by decide +kernel) rfl fun B_ hB_=>?_;have hD_:ahead B_ 1 2=false/\ahead B_ 2 1=false:=by rw[hB_];decide +kernel
 simp[zS,qdx,qc9,qc4,qb4,qb0,qc8,Heap.lay,qdk,zii,zih,qmu,zev,actA_s,layA_s,zho,zhp,clsA_l,clsA_a,clsA_p,clsA_r,offA_a,offA_l,offA_p,offA_r,hD_,kl];refine⟨_,_,⟨rfl,rfl⟩,?_⟩;simp[qc8,Heap.lay,qdk,qan];apply qa3;simp[zQ,Tryz.f160];exact qa2 rfl (by rfl)
abbrev qr2:Str:=[48,49,50,51,52,53,54,55,56,57,45,95,58]
def okCh(i:Nat) (c:UInt8):Bool:=(decide (97<=(c.toNat:Int)) && decide ((c.toNat:Int)<=122)) || (decide (0 < (i:Int)) && decide (0<=Lib.indexByte qr2 c))
def qkk:Str->Nat->Bool
 |[],_=>true
 |c::r,i=>okCh i c && qkk r (i+1)
def qys(L:List Str) (s:Str):Bool:=L.any fun x=>decide (qg0 x=s)
def qo2(sp:Int) (s:Str):Bool:=decide (s∈qgd sp) || (!(decide (s=[]) || qys (qgd sp) s) && qkk s 0)
theorem c129(hc0:qIn 158 T e158) (hc1:qIn 183 T e183) (hc2:qIn 161 T e161) (hc3:qIn 162 T e162) (sp:Int) (s:Str) (hs:s.length<=1000000):CA T 129 [.int .i64 sp,.str s] zH (.bool (qo2 sp s)) zH:=by
 have kc0:=@k158 T hc0;have kc1:=@k183 T hc1;have kc2:=@k161 T hc2;have kc3:=@k162 T hc3;have k0:=fun H=>kc0 sp H;have k3:=fun c H=>kc3 qr2 c H;have hsl:=spel_len sp;have hml:∀x,x∈qgd sp->x.length<=1000000:=by
  unfold qgd;intro x hx;split at hx
  ·simp at hx;rcases hx with rfl|rfl|rfl<;>decide
  ·split at hx
   ·simp at hx;subst hx;decide
   ·cases hx
 have hC:=c151 hc1 (qgd sp) s (by omega);have hF:=c159 (T:=T) (qgd sp) (by omega) 160 [.fptr [.str s] 0] rfl (fun x=>decide (qg0 x=s)) (fun x hx=>c160 hc2 x s (hml x hx));have hF2:=CallAt.thaw hF rfl [[1],[]] (H:=⟨1,[[(0,.cells [.str s])]]⟩) (args:=[qcp (qgd sp),.func (.func 160) [] [.ptr 0 0]]) (by simp[qao,okV,qab,qa9,qq7 (H:=⟨1,[[(0,.cells [.str s])]]⟩) (b:=0) (cs:=[.str s]) rfl rfl]);have el:(qgd sp).any (fun x=>decide (qg0 x=s))=qys (qgd sp) s:=rfl;rw[el]at hF2;have hpu:qa9 [qcp (qgd sp),.str s]=true:=by simp[qa9,qab]
 unfold qo2;clear hF el hml hsl kc0 kc1 kc2 kc3;generalize qys (qgd sp) s=lb at *;generalize decide (s∈qgd sp)=db at *;generalize qgd sp=l at *;have cb:qh7 PG ⟨1,[[(0,.cells [.str s])]]⟩ 9 74 (.str s)=some (.slc 1 0 s.length (.rest 1),⟨2,[[(1,.cells (qad s)),(0,.cells [.str s])]]⟩):=by
  have hr:qcf s.length 1=true:=by simp[qcf];omega
  simp[qh7,hr,Heap.new,pushF]
 have ls:∀H,qer PG H 74 (.slc 1 0 s.length (.rest 1))=some s.length:=fun H=>rfl;refine qa1 (s0:=⟨[0,1,3,4,5,6,7,21,22,23],[.int .i64 sp,.str s,uD,uD,uD,uD,uD,uD,uD,uD],[],44,⟨0,[[]]⟩⟩) Tryz.func129 rfl rfl rfl ?_;apply qR;simp[zS];apply qR;simp[zS,k0];repeat apply wq
 refine qai (qj4 [⟨151,_,_,hpu,hC⟩]) ?_;simp[zS,qpe];cases db with
 |true=>apply qaj rfl;apply qR;simp[zS];apply qa3;simp[zQ,Tryz.f129];exact qa2 rfl (by rfl)
 |false=>
  apply qag rfl;apply qa4;simp;repeat apply wq
  refine qai (qbo [⟨159,_,_,_,_,hF2⟩]) ?_;by_cases he:s=[]
  ·simp[zS,qcu,he];apply qaj rfl;apply qR;simp[zS];apply qa3;simp[zQ,Tryz.f129];exact qa2 rfl (by simp)
  ·cases lb with
   |true=>simp[zS,qcu,he];apply qaj rfl;apply qR;simp[zS];apply qa3;simp[zQ,Tryz.f129];exact qa2 rfl (by simp)
   |false=>
    simp[zS,qcu,he];apply qag rfl;apply qa4;simp;apply qR;simp[zS,cb,ls];refine qa7 (qb1 (fun i:Nat=>(⟨[0,1,3,4,5,6,7,21,22,23],[.int .i64 sp,.str s,.fptr [.str s] 0,.bool false,qcp l,uD,uD,qno s,.int .i64 (s.length:Nat),.int .i64 (i:Int)],[],44,⟨0,[[]]⟩⟩ : St))
     (fun i=>i<=s.length/\qkk s 0=qkk (s.drop i) i) (fun i=>s.length - i) [] [(1,qad s),(0,[.str s])] 0 ⟨jh _,rfl⟩ ⟨rfl,rfl,rfl,?_,?_⟩ ?_)
    ·simp[qaz,zdv,qca,qab,qa9];simp[qat,qca,qa9,qab]
    ·refine FitH.fsV (.froze (by simp) fun x hx=>?_) rfl;simp at hx;rcases hx with rfl|rfl
     ·exact⟨qad s,by simp[zG],qaf (qh9 s),qh9 s⟩
     ·exact⟨[.str s],by simp[zG],qaf rfl,rfl⟩
    rintro i ⟨hi,hx⟩ B hB;clear hC hF2 cb ls k0;apply qR;simp[zS];repeat apply wq
    refine qay rfl (fun h=>?_) fun h=>?_
    ·simp at h;have hix:=atBy h;rw[List.drop_eq_getElem_cons h]at hx;simp only[qkk]at hx;have ha:=qbd (show i<=1000000000 by omega);have w1:wr .i64 1=some 1:=rfl;have hfit:(∃σ Φ,Fit 0 σ Φ (⟨[0,1,3,4,5,6,7,21,22,23],[.int .i64 sp,.str s,.fptr [.str s] 0,.bool false,qcp l,uD,uD,qno s,.int .i64 (s.length:Nat),.int .i64 ((i+1:Nat):Int)],[],44,⟨0,[[]]⟩⟩ : St) (⟨[0,1,3,4,5,6,7,21,22,23],[.int .i64 sp,.str s,.fptr [.str s] 0,.bool false,qcp l,uD,uD,qno s,.int .i64 (s.length:Nat),.int .i64 ((i+1:Nat):Int)],[],44,⟨0,[[]]⟩⟩ : St)):=⟨[],[],⟨rfl,rfl,rfl,by simp[qaz,qat,qab,qa9,qqp],FitH.nothing⟩⟩;unfold okCh at hx;generalize s[i]=c at *;have k3c:=fun H=>k3 c H;clear k3;generalize Lib.indexByte qr2 c=ib at *;apply qa4;simp only[qan,qah]
     (repeat' (first
      |with_reducible apply qam
      |with_reducible apply qa7
      |(with_reducible apply rE;simp[zS, *];exact rfl)
      |(with_reducible apply qax;simp only[qan,qah])
      |(with_reducible refine qb6 (fun hc=>?_) (fun hc=>?_)<;>(have hd:=hc;(try simp at hd);(try subst hd);apply qf6;simp[zS, *];exact rfl))
      |(with_reducible refine ql0 (fun hc=>?_) (fun hc=>?_)<;>(have hd:=hc;(try simp at hd);(try subst hd);apply qf6;simp[zS, *];exact rfl))
      |apply qaj rfl
      |apply qag rfl
      |(refine qay rfl (fun hc=>?_) (fun hc=>?_)<;>(have hd:=hc;(try simp at hd);(try subst hd)))
      |(with_reducible apply qa4;simp only[qan,qah])
      |(with_reducible apply qau;simp)
      |(with_reducible apply qa3;simp[zQ,Tryz.f129])))
     all_goals first|exact qa2 rfl (by rw[hx];simp[*])|(exact hB _ (i+1) (by omega) ⟨by omega,by rw[hx];simp[*]⟩ ⟨[],[],⟨rfl,rfl,rfl,by simp[qaz,qat,qab,qa9,qqp],FitH.nothing⟩⟩)|(exfalso;omega)
    ·simp at h;apply qau;simp;apply qR;simp[zS];apply qa3;simp[zQ,Tryz.f129];exact qa2 rfl (by rw[hx,jt h];simp[qkk,he])
def e129:Entry PG:=mkE 129 [[],[]] (fun z:Int × Str=>[.int .i64 z.1,.str z.2]) (fun z=>(z.2.length<=1000000)) (fun z=>.bool (qo2 z.1 z.2)) fun z h=>c129 (T:=[e158,e183,e161,e162]) rfl rfl rfl rfl z.1 z.2 h
theorem k129(hT:qIn 129 T e129) (sp:Int) (s:Str) (hs:s.length<=1000000) (H:Heap):qb7 (ctx T) (.fn 129) [.int .i64 sp,.str s] H=some (.bool (qo2 sp s),H):=
 qac hT inj_172 (sp,s) hs rfl (by simp[qao])
@[simp]theorem szT124:qcg PG 124=some 1:=rfl
@[simp]theorem agT124:qi8 PG 124=some false:=rfl
@[simp]theorem byT124:qco PG 124=some 8:=rfl
@[simp]theorem alT124(H:Heap):alV PG H 124=some (.ptr H.n 0,H.new (.cells [.nilM])):=rfl
@[simp]theorem zeT124:qc1 PG 124=some (.nilM):=rfl
attribute [simp] Tryz.underlying124
@[simp 500]theorem rvF124(H:Heap) (cs:List AV) (o:Nat):qb3 PG H 124 (.fptr cs o)=qcy cs o:=rfl
@[simp 500]theorem rvP124(H:Heap) (b o:Nat):qb3 PG H 124 (.ptr b o)=(H.get b).bind fun k=>k.rd.bind fun cs=>qcy cs o:=rfl
def qjh(_:Unit):AV:=.int .i64 1
def mapSV:MapT PG 124 AV.str qjh where
 tk:=9
 te:=3
 kd:=_
 hu:=Tryz.underlying124
 hk:=Tryz.underlying9
 eq:=fun a b=>by show some (eqB a b)=_;rw[qkc]
 pure:=fun a v=>rfl
def qgh(L:List Str):List (Str × Unit):=L.map fun s=>(s,())
theorem qrf{x:Str}:∀{L:List Str},getM x (qgh L)=if x∈L then some () else none
 |[]=>rfl
 |y::r=>by
  unfold qgh;rw[jj];unfold getM;by_cases h:y=x
  ·simp[h]
  ·have h2:¬ x=y:=fun e=>h e.symm;have:=qrf (x:=x) (L:=r);unfold qgh at this;simp[h,h2,this]
theorem set_keys{x:Str} {L:List Str} (h:x ∉ L):setM x () (qgh L)=qgh (L++[x]):=by
 have hi:qo6 x (qgh L)=none:=by
  cases hq:qo6 x (qgh L)with
  |none=>rfl
  |some i=>obtain⟨h1,h2,h3⟩:=qpr hq;rw[qrf,if_neg h]at h3;cases h3
 rw[qtw hi];simp[qgh]
theorem zi9(σ:List (Nat × Nat)) (Φ:List (Nat × List AV)) (S:List Str):qhp σ Φ (.map (qdh AV.str qjh (qgh S))) (.map (qdh AV.str qjh (qgh S))):=by
 have e1:(qdh AV.str qjh (qgh S)).map (·.1)=S.map AV.str:=by simp[qdh,qgh,yo]
 have e2:(qdh AV.str qjh (qgh S)).map (·.2)=S.map fun _=>AV.int .i64 1:=by simp[qdh,qgh,yo,qjh]
 have p1:qa9 ((qdh AV.str qjh (qgh S)).map (·.1))=true:=by
  rw[e1];clear e1 e2;induction S with
  |nil=>rfl
  |cons a r ih=>simp only[jj,qa9,qab,jQ];exact ih
 have p2:qa9 ((qdh AV.str qjh (qgh S)).map (·.2))=true:=by
  rw[e2];clear e1 e2 p1;induction S with
  |nil=>rfl
  |cons a r ih=>simp only[jj,qa9,qab,jQ];exact ih
 exact⟨qaf p1,qaf p2⟩
def qvc(sp:Int):List Str->List At1->Bool
 |_,[]=>true
 |S,a::r=>!decide (a.1∈S) && qo2 sp a.1 && qez a.2 && qvc sp (S++[a.1]) r
def qdm(n:Nd):Bool:=qvc n.space [] n.attrs
def qce(L:List At1):List Str:=L.map (·.1)
theorem c89(hc0:qIn 129 T e129) (hc1:qIn 83 T e83) (n:Nd) (h:okN n):CA T 89 [qa6 n] zH (.bool (qdm n)) zH:=by
 have kc0:=@k129 T hc0;have kc1:=@k83 T hc1;have zi:qc1 PG (mapSV).te=some (.int .i64 0):=rfl;obtain⟨sp,hsp⟩ : ∃sp,sp=n.space:=⟨_,rfl⟩;refine qa1 (s0:=⟨[0,1,2,3,5,8,9,10],[qa6 n,uD,uD,uD,uD,uD,uD,uD],[],37,⟨0,[[]]⟩⟩) Tryz.func89 rfl rfl rfl ?_;apply qR;simp[zS,qaq];apply qR;simp[zS];apply qR;simp[zS,qh2];refine qa7 (qb1 (fun i:Nat=>(⟨[0,1,2,3,5,8,9,10],[qa6 n,.fptr n.cs 0,.bool false,.map 0,uD,qal n.attrs,.int .i64 (n.attrs.length:Nat),.int .i64 (i:Int)],[],37,⟨1,[[(0,.map (qdh AV.str qjh (qgh (qce (n.attrs.take i)))))]]⟩⟩ : St))
  (fun i=>i<=n.attrs.length/\qdm n=qvc n.space (qce (n.attrs.take i)) (n.attrs.drop i)) (fun i=>n.attrs.length - i) [(1,0)] [(0,n.cs)] 0 ⟨jh _,by simp[qdm,qce]⟩ ⟨rfl,rfl,rfl,?_,?_⟩ ?_)
 ·simp[qaz,qat,qb2,qca,qab,qa9]
 ·exact {
   nd1:=by simp
   nd2:=by simp
   nd3:=by simp[Heap.ents]
   lt:=by simp
   idn:=by simp
   num:=by simp
   src:=fun e he=>by simp[Heap.ents]at he;subst he;exact⟨1,.map [],by simp,by simp[zG],by simp[qhp,qaz,qdh,qgh,qce]⟩
   frz:=fun x hx=>by simp at hx;subst hx;exact⟨n.cs,by simp[zG],qaf (qf8 n),qf8 n⟩ }
 rintro i ⟨hi,hx⟩ B hB;apply qR;simp[zS];repeat apply wq
 refine qay rfl (fun h2=>?_) fun h2=>?_
 ·simp at h2;have hix:=atA h2;rw[List.drop_eq_getElem_cons h2]at hx;simp only[qvc]at hx;obtain⟨l1,l2⟩:=h.2.2.2 _ (jy h2);have hT:qce (n.attrs.take (i+1))=qce (n.attrs.take i)++[n.attrs[i].1]:=by rw[jw h2];unfold qce;rw[j3];rfl
  have ha:=qbd (show i<=1000000000 by have:=h.2.1;omega);have kn:=fun H=>kc0 n.space n.attrs[i].1 (by omega) H;have kl:=fun H=>kc1 n.attrs[i].2 (by omega) H;generalize n.attrs[i]=a at *;obtain⟨x,y⟩:=a;simp only at hT l1 l2 kn kl hx hix;have hlen:=h.2.1;generalize hS:qce (n.attrs.take i)=S at *;clear kc0 kc1 hc0 hc1 hS;have lu:qk0 PG ⟨2,[[(1,.cells [.str x,.str y]),(0,.map (qdh AV.str qjh (qgh S)))]]⟩ 124 (.map 0) (.str x) false=some (.int .i64 (if x∈S then 1 else 0)):=by
   rw[mapSV.look (b:=0) (M:=qgh S) zi (by simp[zG]) x,qrf];by_cases hm:x∈S
   ·simp[hm,qjh]
   ·simp[hm]
  by_cases hm:x∈S
  ·simp only[hm,if_true,decide_true,Bool.not_true,yr]at lu hx;apply qa4;simp only[qan,qah]
   (repeat' (first
    |with_reducible apply qam
    |with_reducible apply qa7
    |(with_reducible apply rE;simp[zS, *];exact rfl)
    |(with_reducible apply qax;simp only[qan,qah])
    |apply qaj rfl
    |(with_reducible apply qa3;simp[zQ,Tryz.f89])))
   all_goals first|exact qa2 rfl (by rw[hx])|(exfalso;omega)
  ·simp only[hm,if_false,decide_false,yP,jQ]at lu hx;have mu:qiz PG ⟨2,[[(1,.cells [.str x,.str y]),(0,.map (qdh AV.str qjh (qgh S)))]]⟩ 124 (.map 0) (.str x) (.int .i64 1)=some ⟨2,[[(1,.cells [.str x,.str y]),(0,.map (qdh AV.str qjh (qgh (S++[x]))))]]⟩:=(by have:=mapSV.update (b:=0) (M:=qgh S) (H:=⟨2,[[(1,.cells [.str x,.str y]),(0,.map (qdh AV.str qjh (qgh S)))]]⟩) (by simp[zG]) x ();rw[set_keys hm]at this;rw[show AV.int .i64 1=qjh () from rfl,this];simp[Heap.set,setFs,setF]);have hfit:∀(v:Int) (w:List (Nat × AV)),v=((i+1:Nat):Int)->Fit 0 [(0,0)] [] ⟨[0,1,2,3,5,8,9,10],[qa6 n,.fptr n.cs 0,.bool false,.map 0,.ptr 1 0,qal n.attrs,.int .i64 (n.attrs.length:Nat),.int .i64 v],w,37,⟨2,[[(1,.cells [.str x,.str y]),(0,.map (qdh AV.str qjh (qgh (S++[x]))))]]⟩⟩
     (⟨[0,1,2,3,5,8,9,10],[qa6 n,.fptr n.cs 0,.bool false,.map 0,uD,qal n.attrs,.int .i64 (n.attrs.length:Nat),.int .i64 ((i+1:Nat):Int)],[],37,⟨1,[[(0,.map (qdh AV.str qjh (qgh (qce (n.attrs.take (i+1))))))]]⟩⟩ : St):=by
    rintro v w rfl;rw[hT];refine⟨rfl,rfl,rfl,by simp[qaz,qat,qb2,qca,qab,qa9],?_⟩;exact {
     nd1:=by simp
     nd2:=by simp
     nd3:=by simp[Heap.ents]
     lt:=by simp
     idn:=by simp
     num:=by simp
     src:=fun e he=>by simp[Heap.ents]at he;subst he;exact⟨0,.map (qdh AV.str qjh (qgh (S++[x]))),by simp,by simp[zG],zi9 _ _ _⟩
     frz:=fun x hx=>by cases hx }
   have hnx:qo2 n.space x=true->qez y=true->qdm n=qvc n.space (qce (n.attrs.take (i+1))) (n.attrs.drop (i+1)):=fun q1 q2=>(by rw[hx,hT,q1,q2];rfl);generalize qo2 n.space x=b1 at *;generalize qez y=b2 at *;apply qa4;simp only[qan,qah]
   (repeat' (first
    |with_reducible apply qam
    |with_reducible apply qa7
    |(with_reducible apply rE;simp[zS, *];exact rfl)
    |(with_reducible apply qax;simp only[qan,qah])
    |(with_reducible refine qb6 (fun hc=>?_) (fun hc=>?_)<;>(have hd:=hc;(try simp at hd);(try subst hd);apply qf6;simp[zS, *];exact rfl))
    |apply qaj rfl
    |(refine qay rfl (fun hc=>?_) (fun hc=>?_)<;>(have hd:=hc;(try simp at hd);(try subst hd)))
    |(with_reducible apply qa4;simp only[qan,qah])
    |(with_reducible apply qa3;simp[zQ,Tryz.f89])))
   all_goals first|exact qa2 rfl (by rw[hx];simp[*])|(exact hB _ (i+1) (by omega) ⟨by omega,hnx rfl rfl⟩ ⟨_,_,hfit _ _ (by simp)⟩)|(exfalso;omega)
 ·simp at h2;apply qau;simp;apply qR;simp[zS];apply qa3;simp[zQ,Tryz.f89];exact qa2 rfl (by rw[hx,jt h2];rfl)
def e89:Entry PG:=mkE 89 [[0,0,0,2,0,0,1]] (fun z:Nd=>[qa6 z]) (fun z=>(okN z)) (fun z=>.bool (qdm z)) fun z h=>c89 (T:=[e129,e83]) rfl rfl z h
theorem k89(hT:qIn 89 T e89) (n:Nd) (h:okN n) (H:Heap):qb7 (ctx T) (.fn 89) [qa6 n] H=some (.bool (qdm n),H):=
 qac hT inj_92 (n) h rfl (by simp[qao])
theorem c62(hc0:qIn 71 T e71) (sp:Int) (x:Str):CA T 62 [.int .i64 sp,.str x] zH (.bool (qm0 sp x)) zH:=by
 have kw0:=fun(x:Str) (H:Heap)=>k71 hc0 (w:= lsB16) x (by decide) H;have kw1:=fun(x:Str) (H:Heap)=>k71 hc0 (w:= lsB17) x (by decide) H;have kw2:=fun(x:Str) (H:Heap)=>k71 hc0 (w:= lsB13) x (by decide) H;refine qa1 (s0:=⟨[0,1,4],[.int .i64 sp,.str x,uD],[],19,⟨0,[[]]⟩⟩) Tryz.func62 rfl rfl rfl ?_
 (repeat' (first
  |with_reducible apply qam
  |(with_reducible apply rE;simp[zS, *];exact rfl)
  |(with_reducible apply qax;simp only[qan,qah])
  |(with_reducible refine qb6 (fun hc=>?_) (fun hc=>?_)<;>(have hd:=hc;(try simp at hd);(try subst hd);apply qf6;simp[zS, *];exact rfl))
  |(refine qay rfl (fun hc=>?_) (fun hc=>?_)<;>(have hd:=hc;(try simp at hd);(try subst hd)))
  |(with_reducible apply qa4;simp only[qan,qah])
  |(with_reducible apply qa3;simp[zQ,Tryz.f62])))
 all_goals first|exact qa2 rfl (by first|(simp[qm0, *];done)|(simp_all [qm0];done))|(exfalso;omega)
def e62:Entry PG:=mkE 62 [[],[]] (fun z:Int × Str=>[.int .i64 z.1,.str z.2]) (fun z=>True) (fun z=>.bool (qm0 z.1 z.2)) fun z h=>c62 (T:=[e71]) rfl z.1 z.2 
theorem k62(hT:qIn 62 T e62) (sp:Int) (x:Str) (H:Heap):qb7 (ctx T) (.fn 62) [.int .i64 sp,.str x] H=some (.bool (qm0 sp x),H):=
 qac hT inj_172 (sp,x) trivial rfl (by simp[qao])
theorem c46(hc0:qIn 71 T e71) (n:Nd) (W:Str) (hl:W.length<=900000):CA T 46 [qa6 n,.str W] zH (.bool (elB n W)) zH:=by
 have kc0:=@k71 T hc0;refine qa1 (s0:=⟨[0,1,2,4],[qa6 n,.str W,uD,uD],[],19,⟨0,[[]]⟩⟩) Tryz.func46 rfl rfl rfl ?_
 (repeat' (first
  |with_reducible apply qam
  |(with_reducible apply rE;simp[zS, *,qaq];exact rfl)
  |(with_reducible apply qax;simp only[qan,qah])
  |(with_reducible refine qb6 (fun hc=>?_) (fun hc=>?_)<;>(have hd:=hc;(try simp at hd);(try subst hd);apply qf6;simp[zS, *,qaq];exact rfl))
  |(with_reducible apply qa3;simp[zQ,Tryz.f46])))
 all_goals first|exact qa2 rfl (by first|(simp[elB, *];done)|(simp_all [elB];done))|(exfalso;omega)
def e46:Entry PG:=mkE 46 [[0,0,0,2,0,0,1],[]] (fun z:Nd × Str=>[qa6 z.1,.str z.2]) (fun z=>(z.2.length<=900000)) (fun z=>.bool (elB z.1 z.2)) fun z h=>c46 (T:=[e71]) rfl z.1 z.2 h
theorem k46(hT:qIn 46 T e46) (n:Nd) (W:Str) (hl:W.length<=900000) (H:Heap):qb7 (ctx T) (.fn 46) [qa6 n,.str W] H=some (.bool (elB n W),H):=
 qac hT inj_85 (n,W) hl rfl (by simp[qao])
theorem c47(L:List Nd) (hl:L.length<=1000000):CA T 47 [qa8 L] zH (qa6 (qap L)) zH:=by
 by_cases he:L=[]
 ·subst he;have bld:qgq PG 34 [(0,.int .i64 1),(2,.str [100,105,118])]=some (.agg [.int .i64 1,.int .i64 0,.str [100,105,118],.nilS,.str [],.int .i64 0,.nilS]):=rfl;have l0:∀H,qer PG H 22 (qa8 [])=some 0:=fun H=>rfl;refine qa1 (s0:=⟨[0,2],[qa8 [],uD],[],13,⟨0,[[]]⟩⟩) Tryz.func47 rfl rfl rfl ?_;apply qR;simp[zS];apply qR;simp[zS,l0];apply qaj rfl;apply qR;simp[zS,bld];apply qa3;simp[zQ,Tryz.f47,readCells,zG,Blk.rd];refine⟨[],[],?_,FitH.empty⟩;simp[qap,qa6,Nd.cs,qbm,qbl,qal,qat,qaz,qab]
 ·have h:0 < L.length:=j8.2 he;have hi:¬ (L.length:Int)=0:=by omega
  have hj:¬ L.length=0:=by omega
  have hs:=qvs h (by omega);have ha:=atX (t:=L) (i:=((L.length - 1:Nat):Int)) (by omega) (by omega);have hp:qap L=qa0 L ((L.length - 1:Nat):Int):=by unfold qap;rw[if_neg he]
  rw[hp];refine qa1 (s0:=⟨[0,2],[qa8 L,uD],[],13,⟨0,[[]]⟩⟩) Tryz.func47 rfl rfl rfl ?_;apply qR;simp[zS];apply qR;simp[zS,qhn,hi,hj,he];refine qag (by simp[qc0,St.get,hi,hj,he]) ?_;apply qa4;simp;apply qR;simp[zS,qhn,hs,ha,qaq];apply qa3;simp[zQ,Tryz.f47,readCells,zG,Blk.rd,qaq];exact⟨[],[],FitH.empty⟩
def e47:Entry PG:=mkE 47 [[7]] (fun z:List Nd=>[qa8 z]) (fun z=>(z.length<=1000000)) (fun z=>qa6 (qap z)) fun z h=>c47 (T:=[])  z h
theorem k47(hT:qIn 47 T e47) (L:List Nd) (hl:L.length<=1000000) (H:Heap):qb7 (ctx T) (.fn 47) [qa8 L] H=some (qa6 (qap L),H):=
 qd2 hT inj_82 (L) hl (by simp[qa9,qab,qao]) (by simp[qao]) H
theorem qqt(p q:Nd->Bool) (L:List Nd) (j:Nat):(qvg (qne p q L) (j+1)).getD false=if p (qa0 L j)=true then true else if q (qa0 L j)=true then false else (qvg (qne p q L) j).getD false:=by
 simp only[qvg];unfold qne;by_cases h1:p (qa0 L j)=true
 ·simp[h1]
 ·by_cases h2:q (qa0 L j)=true
  ·simp[h1,h2]
  ·simp[h1,h2]
theorem c102(hc0:qIn 46 T e46) (hc1:qIn 141 T e141) (L:List Nd) (W:Str) (sc:Int) (hl:L.length<=1000000) (hW:W.length<=900000):CA T 102 [qa8 L,.str W,.int .i64 sc] zH (.bool (qel L W sc)) zH:=by
 have kc0:=@k46 T hc0;have kc1:=@k141 T hc1;obtain⟨w,hw⟩ : ∃w:Int,w=(L.length:Int) - 1:=⟨_,rfl⟩;have hws:wr .i64 ((L.length:Int) - 1)=some w:=by rw[hw];exact qdi (by omega) (by omega)
 refine qa1 (s0:=⟨[0,1,2,6,7],[qa8 L,.str W,.int .i64 sc,uD,uD],[],33,⟨0,[[]]⟩⟩) Tryz.func102 rfl rfl rfl ?_;apply qR;simp[zS];apply qR;simp[zS,qhn,hws];refine qa7 (qb1 (fun x:Nat × Int=>(⟨[0,1,2,6,7],[qa8 L,.str W,.int .i64 sc,.bool false,.int .i64 x.2],[],33,⟨0,[[]]⟩⟩ : St))
  (fun x=>x.1<=L.length/\x.2=(x.1:Int) - 1/\qel L W sc=(qvg (qne (fun n=>elB n W) (fun n=>qhw sc n.space n.name) L) x.1).getD false) (fun x=>x.1) [] [] (L.length,w) ⟨jc _,hw,rfl⟩ ⟨rfl,rfl,rfl,by simp[qaz,qat,qab,qa9],FitH.nothing⟩ ?_)
 rintro⟨j,v⟩ ⟨hj,hv,hx⟩ B hB;simp only at hj hv hx;cases j with
 |zero=>
  have hn:¬ 0<=v:=by omega
  (repeat' (first
   |with_reducible apply qam
   |(with_reducible apply rE;simp[zS, *];exact rfl)
   |(with_reducible apply qax;simp only[qan,qah])
   |apply qag rfl
   |(with_reducible apply qau;simp)
   |(with_reducible apply qa3;simp[zQ,Tryz.f102])))
  all_goals first|exact qa2 rfl (by rw[hx];rfl)|(exfalso;omega)
 |succ r=>
  have hvq:v=(r:Int):=by omega
  subst hvq;clear hv;have hn:(0:Int)<=(r:Int):=by omega
  have hix:=atX (t:=L) (i:=(r:Int)) (by omega) (by omega);have hs1:wr .i64 ((r:Int) - 1)=some ((r:Int) - 1):=qdi (by omega) (by omega);rw[qqt]at hx;have ki:=fun H=>kc0 (qa0 L (r:Int)) W hW H;have ks:=fun H=>kc1 sc (qa0 L (r:Int)).space (qa0 L (r:Int)).name H;clear kc0 kc1;generalize qhw sc (qa0 L (r:Int)).space (qa0 L (r:Int)).name=b2 at *;generalize elB (qa0 L (r:Int)) W=b1 at *
  (repeat' (first
   |with_reducible apply qam
   |with_reducible apply qa7
   |(with_reducible apply rE;simp[zS, *,qaq];exact rfl)
   |(refine qbh mixed qbc (by decide +kernel) (by decide +kernel) ?_;apply qf6;simp[zS,qc6,qbf,qb9, *,qaq];exact rfl)
   |(with_reducible apply qax;simp only[qan,qah])
   |apply qaj rfl
   |(refine qay rfl (fun hc=>?_) (fun hc=>?_)<;>(have hd:=hc;(try simp at hd);(try subst hd)))
   |(with_reducible apply qa4;simp only[qan,qah])
   |(with_reducible apply qa3;simp[zQ,Tryz.f102])))
  all_goals first|exact qa2 rfl (by rw[hx];simp[*])|(exact hB _ (r,(r:Int) - 1) (by simp) ⟨by simp only;omega,rfl,by rw[hx];simp[*]⟩ ⟨[],[],⟨rfl,rfl,rfl,by simp[qaz,qat,qab,qa9],FitH.nothing⟩⟩)|(exfalso;omega)
def e102:Entry PG:=mkE 102 [[7],[],[]] (fun z:List Nd × Str × Int=>[qa8 z.1,.str z.2.1,.int .i64 z.2.2]) (fun z=>(z.1.length<=1000000)/\(z.2.1.length<=900000)) (fun z=>.bool (qel z.1 z.2.1 z.2.2)) fun z h=>c102 (T:=[e46,e141]) rfl rfl z.1 z.2.1 z.2.2 h.1 h.2
theorem k102(hT:qIn 102 T e102) (L:List Nd) (W:Str) (sc:Int) (hl:L.length<=1000000) (hW:W.length<=900000) (H:Heap):qb7 (ctx T) (.fn 102) [qa8 L,.str W,.int .i64 sc] H=some (.bool (qel L W sc),H):=
 qac hT inj_133 (L,W,sc) ⟨hl,hW⟩ rfl (by simp[qao])
theorem c107(hc0:qIn 46 T e46) (hc1:qIn 143 T e143) (L:List Nd) (W:Str) (hl:L.length<=1000000) (hW:W.length<=900000):CA T 107 [qa8 L,.str W] zH (.bool (!qeo L W)) zH:=by
 have kc0:=@k46 T hc0;have kc1:=@k143 T hc1;obtain⟨w,hw⟩ : ∃w:Int,w=(L.length:Int) - 1:=⟨_,rfl⟩;have hws:wr .i64 ((L.length:Int) - 1)=some w:=by rw[hw];exact qdi (by omega) (by omega)
 refine qa1 (s0:=⟨[0,1,4,5],[qa8 L,.str W,uD,uD],[],38,⟨0,[[]]⟩⟩) Tryz.func107 rfl rfl rfl ?_;apply qR;simp[zS];apply qR;simp[zS,qhn,hws];refine qa7 (qb1 (fun x:Nat × Int=>(⟨[0,1,4,5],[qa8 L,.str W,.bool false,.int .i64 x.2],[],38,⟨0,[[]]⟩⟩ : St))
  (fun x=>x.1<=L.length/\x.2=(x.1:Int) - 1/\qeo L W=(qvg (qne (fun n=>elB n W) (fun n=>qe6 n.space n.name && !elB n lsAdp) L) x.1).getD false) (fun x=>x.1) [] [] (L.length,w) ⟨jc _,hw,rfl⟩ ⟨rfl,rfl,rfl,by simp[qaz,qat,qab,qa9],FitH.nothing⟩ ?_)
 rintro⟨j,v⟩ ⟨hj,hv,hx⟩ B hB;simp only at hj hv hx;cases j with
 |zero=>
  have hn:¬ 0<=v:=by omega
  (repeat' (first
   |with_reducible apply qam
   |(with_reducible apply rE;simp[zS, *];exact rfl)
   |(with_reducible apply qax;simp only[qan,qah])
   |apply qag rfl
   |(with_reducible apply qau;simp)
   |(with_reducible apply qa3;simp[zQ,Tryz.f107])))
  all_goals first|exact qa2 rfl (by rw[hx];rfl)|(exfalso;omega)
 |succ r=>
  have hvq:v=(r:Int):=by omega
  subst hvq;clear hv;have hn:(0:Int)<=(r:Int):=by omega
  have hix:=atX (t:=L) (i:=(r:Int)) (by omega) (by omega);have hs1:wr .i64 ((r:Int) - 1)=some ((r:Int) - 1):=qdi (by omega) (by omega);rw[qqt]at hx;have k1:=fun H=>kc0 (qa0 L (r:Int)) W hW H;have k2:=fun H=>kc0 (qa0 L (r:Int)) lsAdp (by decide) H;have k3:=fun H=>kc1 (qa0 L (r:Int)).space (qa0 L (r:Int)).name H;clear kc0 kc1;generalize elB (qa0 L (r:Int)) W=b1 at *;generalize elB (qa0 L (r:Int)) lsAdp=b2 at *;generalize qe6 (qa0 L (r:Int)).space (qa0 L (r:Int)).name=b3 at *
  (repeat' (first
   |with_reducible apply qam
   |with_reducible apply qa7
   |(with_reducible apply rE;simp[zS, *,qaq];exact rfl)
   |(refine qbh mixed qbc (by decide +kernel) (by decide +kernel) ?_;apply qf6;simp[zS,qc6,qbf,qb9, *,qaq];exact rfl)
   |(with_reducible apply qax;simp only[qan,qah])
   |(with_reducible refine qri (fun hc=>?_) (fun hc=>?_)<;>(have hd:=hc;(try simp at hd);(try subst hd);apply qf6;simp[zS,qc6,qbf,qb9, *,qaq];exact rfl))
   |apply qaj rfl
   |apply qag rfl
   |(refine qay rfl (fun hc=>?_) (fun hc=>?_)<;>(have hd:=hc;(try simp at hd);(try subst hd)))
   |(with_reducible apply qa4;simp only[qan,qah])
   |(with_reducible apply qa3;simp[zQ,Tryz.f107])))
  all_goals first|exact qa2 rfl (by rw[hx];simp[*])|(exact hB _ (r,(r:Int) - 1) (by simp) ⟨by simp only;omega,rfl,by rw[hx];simp[*]⟩ ⟨[],[],⟨rfl,rfl,rfl,by simp[qaz,qat,qab,qa9],FitH.nothing⟩⟩)|(exfalso;omega)
def e107:Entry PG:=mkE 107 [[7],[]] (fun z:List Nd × Str=>[qa8 z.1,.str z.2]) (fun z=>(z.1.length<=1000000)/\(z.2.length<=900000)) (fun z=>.bool (!qeo z.1 z.2)) fun z h=>c107 (T:=[e46,e143]) rfl rfl z.1 z.2 h.1 h.2
theorem k107(hT:qIn 107 T e107) (L:List Nd) (W:Str) (hl:L.length<=1000000) (hW:W.length<=900000) (H:Heap):qb7 (ctx T) (.fn 107) [qa8 L,.str W] H=some (.bool (!qeo L W),H):=
 qac hT inj_138 (L,W) ⟨hl,hW⟩ rfl (by simp[qao])
theorem c106(hc0:qIn 46 T e46) (hc1:qIn 142 T e142) (L:List Nd) (hl:L.length<=1000000):CA T 106 [qa8 L] zH (.bool (!qg7 L)) zH:=by
 have kc0:=@k46 T hc0;have kc1:=@k142 T hc1;obtain⟨w,hw⟩ : ∃w:Int,w=(L.length:Int) - 1:=⟨_,rfl⟩;have hws:wr .i64 ((L.length:Int) - 1)=some w:=by rw[hw];exact qdi (by omega) (by omega)
 refine qa1 (s0:=⟨[0,2,3],[qa8 L,uD,uD],[],27,⟨0,[[]]⟩⟩) Tryz.func106 rfl rfl rfl ?_;apply qR;simp[zS];apply qR;simp[zS,qhn,hws];refine qa7 (qb1 (fun x:Nat × Int=>(⟨[0,2,3],[qa8 L,.bool false,.int .i64 x.2],[],27,⟨0,[[]]⟩⟩ : St))
  (fun x=>x.1<=L.length/\x.2=(x.1:Int) - 1/\qg7 L=(qvg (qne (fun n=>elB n [97] && !qn4 n) qn4 L) x.1).getD false) (fun x=>x.1) [] [] (L.length,w) ⟨jc _,hw,rfl⟩ ⟨rfl,rfl,rfl,by simp[qaz,qat,qab,qa9],FitH.nothing⟩ ?_)
 rintro⟨j,v⟩ ⟨hj,hv,hx⟩ B hB;simp only at hj hv hx;cases j with
 |zero=>
  have hn:¬ 0<=v:=by omega
  (repeat' (first
   |with_reducible apply qam
   |(with_reducible apply rE;simp[zS, *];exact rfl)
   |(with_reducible apply qax;simp only[qan,qah])
   |apply qag rfl
   |(with_reducible apply qau;simp)
   |(with_reducible apply qa3;simp[zQ,Tryz.f106])))
  all_goals first|exact qa2 rfl (by rw[hx];rfl)|(exfalso;omega)
 |succ r=>
  have hvq:v=(r:Int):=by omega
  subst hvq;clear hv;have hn:(0:Int)<=(r:Int):=by omega
  have hix:=atX (t:=L) (i:=(r:Int)) (by omega) (by omega);have hs1:wr .i64 ((r:Int) - 1)=some ((r:Int) - 1):=qdi (by omega) (by omega);rw[qqt]at hx;have k1:=fun H=>kc0 (qa0 L (r:Int)) [97] (by decide) H;have k3:=fun H=>kc1 (qa0 L (r:Int)).space (qa0 L (r:Int)).name H;have em:(decide ((qa0 L (r:Int)).space=0) && inW qs9 (qa0 L (r:Int)).name)=qn4 (qa0 L (r:Int)):=rfl;rw[em]at k3;clear em;clear kc0 kc1;generalize elB (qa0 L (r:Int)) [97]=b1 at *;generalize qn4 (qa0 L (r:Int))=b3 at *
  (repeat' (first
   |with_reducible apply qam
   |with_reducible apply qa7
   |(with_reducible apply rE;simp[zS, *,qaq];exact rfl)
   |(refine qbh mixed qbc (by decide +kernel) (by decide +kernel) ?_;apply qf6;simp[zS,qc6,qbf,qb9, *,qaq];exact rfl)
   |(with_reducible apply qax;simp only[qan,qah])
   |apply qaj rfl
   |(refine qay rfl (fun hc=>?_) (fun hc=>?_)<;>(have hd:=hc;(try simp at hd);(try subst hd)))
   |(with_reducible apply qa4;simp only[qan,qah])
   |(with_reducible apply qa3;simp[zQ,Tryz.f106])))
  all_goals first|exact qa2 rfl (by rw[hx];simp[*])|(exact hB _ (r,(r:Int) - 1) (by simp) ⟨by simp only;omega,rfl,by rw[hx];simp[*]⟩ ⟨[],[],⟨rfl,rfl,rfl,by simp[qaz,qat,qab,qa9],FitH.nothing⟩⟩)|(exfalso;omega)
def e106:Entry PG:=mkE 106 [[7]] (fun z:List Nd=>[qa8 z]) (fun z=>(z.length<=1000000)) (fun z=>.bool (!qg7 z)) fun z h=>c106 (T:=[e46,e142]) rfl rfl z h
theorem k106(hT:qIn 106 T e106) (L:List Nd) (hl:L.length<=1000000) (H:Heap):qb7 (ctx T) (.fn 106) [qa8 L] H=some (.bool (!qg7 L),H):=
 qac hT inj_82 (L) hl rfl (by simp[qao])
theorem c105(hc0:qIn 46 T e46) (L:List Nd) (hl:L.length<=1000000):CA T 105 [qa8 L] zH (.bool (!qlb L)) zH:=by
 have kc0:=@k46 T hc0;refine qa1 (s0:=⟨[0,2,3],[qa8 L,uD,uD],[],15,⟨0,[[]]⟩⟩) Tryz.func105 rfl rfl rfl ?_;apply qR;simp[zS];apply qR;simp[zS];refine qa7 (qb1 (fun i:Nat=>(⟨[0,2,3],[qa8 L,.bool false,.int .i64 (i:Int)],[],15,⟨0,[[]]⟩⟩ : St))
  (fun i=>i<=L.length/\qlb L=qlb (L.drop i)) (fun i=>L.length - i) [] [] 0 ⟨jh _,rfl⟩ ⟨rfl,rfl,rfl,by simp[qaz,qat,qab,qa9],FitH.nothing⟩ ?_)
 rintro i ⟨hi,hx⟩ B hB;by_cases h:i < L.length
 ·have hc:(i:Int) < (L.length:Int):=by omega
  have hix:=atX (t:=L) (i:=(i:Int)) (by omega) (by omega);rw[qba h]at hix;have ha:=qbd (show i<=1000000000 by omega);have hd:qlb (L.drop i)=(elB L[i] [102,111,114,109] || qlb (L.drop (i+1))):=by rw[List.drop_eq_getElem_cons h];rfl
  rw[hd]at hx;have k1:=fun H=>kc0 L[i] [102,111,114,109] (by decide) H;clear kc0 hd;generalize L[i]=n at *;generalize elB n [102,111,114,109]=b1 at *
  (repeat' (first
   |with_reducible apply qam
   |with_reducible apply qa7
   |(with_reducible apply rE;simp[zS, *,qaq,qhn];exact rfl)
   |(with_reducible apply qax;simp only[qan,qah])
   |apply qaj rfl
   |(refine qay rfl (fun hc=>?_) (fun hc=>?_)<;>(have hd:=hc;(try simp at hd);(try subst hd)))
   |(with_reducible apply qa4;simp only[qan,qah])
   |(with_reducible apply qa3;simp[zQ,Tryz.f105])))
  all_goals first|exact qa2 rfl (by rw[hx];simp[*])|(exact hB _ (i+1) (by omega) ⟨by omega,by rw[hx];simp[*]⟩ ⟨[],[],⟨rfl,rfl,rfl,by simp[qaz,qat,qab,qa9],FitH.nothing⟩⟩)|(exfalso;omega)
 ·have hc:¬ (i:Int) < (L.length:Int):=by omega
  (repeat' (first
   |with_reducible apply qam
   |(with_reducible apply rE;simp[zS, *,qaq,qhn];exact rfl)
   |(with_reducible apply qax;simp only[qan,qah])
   |apply qag rfl
   |(with_reducible apply qau;simp)
   |(with_reducible apply qa3;simp[zQ,Tryz.f105])))
  all_goals first|exact qa2 rfl (by rw[hx,jt (by omega)];rfl)|(exfalso;omega)
def e105:Entry PG:=mkE 105 [[7]] (fun z:List Nd=>[qa8 z]) (fun z=>(z.length<=1000000)) (fun z=>.bool (!qlb z)) fun z h=>c105 (T:=[e46]) rfl z h
theorem k105(hT:qIn 105 T e105) (L:List Nd) (hl:L.length<=1000000) (H:Heap):qb7 (ctx T) (.fn 105) [qa8 L] H=some (.bool (!qlb L),H):=
 qac hT inj_82 (L) hl rfl (by simp[qao])
theorem c100(hc0:qIn 71 T e71) (n:Nd):CA T 100 [qa6 n] zH (.bool (qgb n)) zH:=by
 have kw0:=fun(x:Str) (H:Heap)=>k71 hc0 (w:= lsB4) x (by decide) H;refine qa1 (s0:=⟨[0,1,2],[qa6 n,uD,uD],[],16,⟨0,[[]]⟩⟩) Tryz.func100 rfl rfl rfl ?_
 (repeat' (first
  |with_reducible apply qam
  |(with_reducible apply rE;simp[zS, *,qaq];exact rfl)
  |(with_reducible apply qax;simp only[qan,qah])
  |(with_reducible refine qb6 (fun hc=>?_) (fun hc=>?_)<;>(have hd:=hc;(try simp at hd);(try subst hd);apply qf6;simp[zS, *,qaq];exact rfl))
  |(with_reducible apply qa3;simp[zQ,Tryz.f100])))
 all_goals first|exact qa2 rfl (by first|(simp[qgb, *];done)|(simp_all [qgb];done))|(exfalso;omega)
def e100:Entry PG:=mkE 100 [[0,0,0,2,0,0,1]] (fun z:Nd=>[qa6 z]) (fun z=>True) (fun z=>.bool (qgb z)) fun z h=>c100 (T:=[e71]) rfl z 
theorem k100(hT:qIn 100 T e100) (n:Nd) (H:Heap):qb7 (ctx T) (.fn 100) [qa6 n] H=some (.bool (qgb n),H):=
 qac hT inj_92 (n) trivial rfl (by simp[qao])
theorem c108(s:Str) (hl:s.length<=1000000):CA T 108 [.str s] zH (.str (qg0 s)) zH:=by
 refine qa1 (s0:=⟨[0,2,3,4],[.str s,uD,uD,uD],[],33,⟨0,[[]]⟩⟩) Tryz.func108 rfl rfl rfl ?_;apply qR;simp[zS];apply qR;simp[zS,conv1 hl];apply qR;simp[zS];refine qa7 (qb1 (fun i:Nat=>(⟨[0,2,3,4],[.str s,.str [],.slc 0 0 s.length (.rest 1),.int .i64 i],[],33,qes 1 (qwo s i)⟩ : St))
  (fun i=>i<=s.length) (fun i=>s.length - i) [(0,0)] [] 0 (jh _) ⟨rfl,rfl,rfl,by simp[qaz,qat,qp2,qb2,qab],by simpa[qwo]using qi3 (n:=1) (s:=s) rfl⟩ ?_)
 rintro i hi B hB;by_cases h:i < s.length
 ·have hc:(i:Int) < (s.length:Int):=by omega
  have hm:i < (qwo s i).length:=by rw[qn1];exact h
  apply qR;simp[zS,len52,hc,h];apply qaj rfl;apply qa4;simp;repeat apply wq
  apply qa7;by_cases h1:65<=s[i].toNat/\s[i].toNat<=90
  ·have e1:(65:Int)<=s[i].toNat:=(by omega);have e2:(s[i].toNat:Int)<=90:=(by omega);apply qR;simp[zS,qes,ix52 h,qdz hm,qgk h,e1,e2];apply qaj rfl;apply qR;simp[zS,qes,ix52 h,qdz hm,qgk h,add8 h1.1 h1.2,qo3 hm];apply qR;simp[zS,qbd (show i<=1000000000 by omega)];exact hB _ (i+1) (by omega) (by omega) ⟨[(0,0)],[],rfl,rfl,rfl,by simp[qaz,qat,qp2,qb2,qab],qi3 (qqz h)⟩
  ·by_cases e1:(65:Int)<=s[i].toNat
   ·have e2:¬ (s[i].toNat:Int)<=90:=(by omega);apply qR;simp[zS,qes,ix52 h,qdz hm,qgk h,e1,e2];apply qag rfl;apply qa4;simp;apply qR;simp[zS,qbd (show i<=1000000000 by omega)];exact hB _ (i+1) (by omega) (by omega) ⟨[(0,0)],[],rfl,rfl,rfl,by simp[qaz,qat,qp2,qb2,qab],qi3 (qn2 h (qu8 h1)).symm⟩
   ·apply qR;simp[zS,qes,ix52 h,qdz hm,qgk h,e1];apply qag rfl;apply qa4;simp;apply qR;simp[zS,qbd (show i<=1000000000 by omega)];exact hB _ (i+1) (by omega) (by omega) ⟨[(0,0)],[],rfl,rfl,rfl,by simp[qaz,qat,qp2,qb2,qab],qi3 (qn2 h (qu8 h1)).symm⟩
 ·have hc:¬ (i:Int) < (s.length:Int):=by omega
  apply qR;simp[zS,len52,hc,h];apply qag rfl;apply qau;simp;apply qR;simp[zS,conv2 (qn1 s i)];apply qa3;simp[zQ,Tryz.f108];exact qa2 rfl (by rw[show i=s.length by omega,zbe])
def e108:Entry PG:=mkE 108 [[]] (fun z:Str=>[.str z]) (fun z=>(z.length<=1000000)) (fun z=>.str (qg0 z)) fun z h=>c108 (T:=[])  z h
theorem k108(hT:qIn 108 T e108) (s:Str) (hl:s.length<=1000000) (H:Heap):qb7 (ctx T) (.fn 108) [.str s] H=some (.str (qg0 s),H):=
 qac hT inj_168 (s) hl rfl (by simp[qao])
theorem zhu(a b:Str):qpd a b=decide (qg0 a=qg0 b):=by
 unfold qpd;by_cases h:qg0 a=qg0 b
 ·have:=congrArg List.length h;simp[qg0]at this;simp[h,this]
 ·simp[h]
theorem c140(hc0:qIn 108 T e108) (a:Str) (b:Str) (ha:a.length<=1000000) (hb:b.length<=1000000):CA T 140 [.str a,.str b] zH (.bool (qpd a b)) zH:=by
 have kc0:=@k108 T hc0;refine qa1 (s0:=⟨[0,1,4],[.str a,.str b,uD],[],10,⟨0,[[]]⟩⟩) Tryz.func140 rfl rfl rfl ?_
 (repeat' (first
  |with_reducible apply qam
  |(with_reducible apply rE;simp[zS, *];exact rfl)
  |(with_reducible apply qax;simp only[qan,qah])
  |(with_reducible apply qa3;simp[zQ,Tryz.f140])))
 all_goals first|exact qa2 rfl (by first|(simp[zhu, *];done)|(simp_all [zhu];done))|(exfalso;omega)
theorem inj_140(x y:Str × Str) (h:(fun z:Str × Str=>([.str z.1,.str z.2]:List AV)) x=(fun z:Str × Str=>([.str z.1,.str z.2]:List AV)) y):x=y:=by obtain⟨x0,x1⟩:=x;obtain⟨y0,y1⟩:=y;simp only[j4,and_true]at h;obtain⟨h0,h1⟩:=h;have g0:x0=y0:=AV.str.inj h0;have g1:x1=y1:=AV.str.inj h1;subst g0 g1;rfl
def e140:Entry PG:=mkE 140 [[],[]] (fun z:Str × Str=>[.str z.1,.str z.2]) (fun z=>(z.1.length<=1000000)/\(z.2.length<=1000000)) (fun z=>.bool (qpd z.1 z.2)) fun z h=>c140 (T:=[e108]) rfl z.1 z.2 h.1 h.2
theorem k140(hT:qIn 140 T e140) (a:Str) (b:Str) (ha:a.length<=1000000) (hb:b.length<=1000000) (H:Heap):qb7 (ctx T) (.fn 140) [.str a,.str b] H=some (.bool (qpd a b),H):=
 qac hT inj_140 (a,b) ⟨ha,hb⟩ rfl (by simp[qao])
theorem c101(hc0:qIn 71 T e71) (hc1:qIn 99 T e99) (hc2:qIn 140 T e140) (n:Nd) (h:okN n):CA T 101 [qa6 n] zH (.bool (qf7 n)) zH:=by
 have kw0:=fun(x:Str) (H:Heap)=>k71 hc0 (w:= lsB0) x (by decide) H;have kc1:=@k99 T hc1;have kc2:=@k140 T hc2;have hg:=fun H=>k99 (nm:=[101,110,99,111,100,105,110,103]) hc1 h.2.1 (qjq H n.attrs);have lu:lsSvg.length<=900000:=by decide
 cases hv:qhi [101,110,99,111,100,105,110,103] n.attrs with
 |none=>
  rw[hv]at hg;simp only[zbv]at hg;refine qa1 (s0:=⟨[0,1,2,3,4],[qa6 n,uD,uD,uD,uD],[],48,⟨0,[[]]⟩⟩) Tryz.func101 rfl rfl rfl ?_
  (repeat' (first
   |with_reducible apply qam
   |(with_reducible apply rE;simp[zS, *,qaq];exact rfl)
   |(with_reducible apply qax;simp only[qan,qah])
   |(with_reducible refine qb6 (fun hc=>?_) (fun hc=>?_)<;>(have hd:=hc;(try simp at hd);(try subst hd);apply qf6;simp[zS, *,qaq];exact rfl))
   |apply qag rfl
   |(refine qay rfl (fun hc=>?_) (fun hc=>?_)<;>(have hd:=hc;(try simp at hd);(try subst hd)))
   |(with_reducible apply qa4;simp only[qan,qah])
   |(with_reducible apply qa3;simp[zQ,Tryz.f101])))
  all_goals first|exact qa2 rfl (by first|(simp[qf7, *];done)|(simp_all [qf7];done))|(exfalso;omega)
 |some v=>
  rw[hv]at hg;have lv:v.length<=1000000:=by have:=qrh h.2.2.2 hv;omega
  simp only[zbv]at hg;refine qa1 (s0:=⟨[0,1,2,3,4],[qa6 n,uD,uD,uD,uD],[],48,⟨0,[[]]⟩⟩) Tryz.func101 rfl rfl rfl ?_
  (repeat' (first
   |with_reducible apply qam
   |(with_reducible apply rE;simp[zS, *,qaq];exact rfl)
   |(with_reducible apply qax;simp only[qan,qah])
   |(with_reducible refine qb6 (fun hc=>?_) (fun hc=>?_)<;>(have hd:=hc;(try simp at hd);(try subst hd);apply qf6;simp[zS, *,qaq];exact rfl))
   |apply qag rfl
   |(refine qay rfl (fun hc=>?_) (fun hc=>?_)<;>(have hd:=hc;(try simp at hd);(try subst hd)))
   |(with_reducible apply qa4;simp only[qan,qah])
   |(with_reducible apply qa3;simp[zQ,Tryz.f101])))
  all_goals first|exact qa2 rfl (by first|(simp[qf7, *];done)|(simp_all [qf7];done))|(exfalso;omega)
def e101:Entry PG:=mkE 101 [[0,0,0,2,0,0,1]] (fun z:Nd=>[qa6 z]) (fun z=>(okN z)) (fun z=>.bool (qf7 z)) fun z h=>c101 (T:=[e71,e99,e140]) rfl rfl rfl z h
theorem k101(hT:qIn 101 T e101) (n:Nd) (h:okN n) (H:Heap):qb7 (ctx T) (.fn 101) [qa6 n] H=some (.bool (qf7 n),H):=
 qac hT inj_92 (n) h rfl (by simp[qao])
theorem con13:∀(s:Str),conB s [13]=s.any fun c=>decide (c=13)
 |[]=>rfl
 |b::l=>by
  have ih:=con13 l;have hg:=Lib.index_ge l [13];rw[List.any_cons,<- ih];unfold conB
  conv=>lhs;unfold Lib.index
  by_cases h:b=13
  ·subst h;simp[List.isPrefixOf]
  ·have h':(13 == b)=false:=(by simpa using fun e=>h e.symm);simp only[List.isPrefixOf,h',yr,jC,if_false,h,decide_false,Bool.false_or];by_cases hq:Lib.index l [13] = -1
   ·simp[hq]
   ·have:(Lib.index l [13] == -1)=false:=(by simpa using hq);simp only[this,jC,if_false];rw[jP];simp only[decide_eq_true_eq];omega
theorem u13(c:UInt8):((c.toNat:Int)=13)↔c=13:=by
 constructor
 ·intro e;have h:c.toNat=(13:UInt8).toNat:=by show c.toNat=13;omega
  exact yn.1 h
 ·intro e;rw[e];rfl
theorem c68(hc0:qIn 109 T e109) (s:Str) (hs:s.length<=1000000):CA T 68 [.str s] zH (.bool (qez s)) zH:=by
 have kc0:=@k109 T hc0;have kv:=fun H=>k109 hc0 hs H;refine qa1 (s0:=⟨[0,2,3],[.str s,uD,uD],[],16,⟨0,[[]]⟩⟩) Tryz.func68 rfl rfl rfl ?_;apply qR;simp[zS];apply qR;simp[zS];refine qa7 (qb1 (fun i:Nat=>(⟨[0,2,3],[.str s,.bool false,.int .i64 (i:Int)],[],16,⟨0,[[]]⟩⟩ : St))
  (fun i=>i<=s.length/\conB s [13]=(s.drop i).any fun c=>decide (c=13)) (fun i=>s.length - i) [] [] 0 ⟨jh _,con13 s⟩ ⟨rfl,rfl,rfl,by simp[qaz,qat,qab,qa9],FitH.nothing⟩ ?_)
 rintro i ⟨hi,hx⟩ B hB;by_cases h:i < s.length
 ·have hc:(i:Int) < (s.length:Int):=by omega
  have hix:=qjj h;have ha:=qbd (show i<=1000000000 by omega);rw[List.drop_eq_getElem_cons h,List.any_cons]at hx;have h13:=u13 s[i];clear kc0;generalize s[i]=c at *;by_cases e:c=13
  ·have e1:(c.toNat:Int)=13:=h13.2 e;simp only[e,decide_true,Bool.true_or]at hx;clear h13
   (repeat' (first
    |with_reducible apply qam
    |with_reducible apply qa7
    |(with_reducible apply rE;simp[zS, *];exact rfl)
    |(with_reducible apply qax;simp only[qan,qah])
    |apply qaj rfl
    |(with_reducible apply qa4;simp only[qan,qah])
    |(with_reducible apply qa3;simp[zQ,Tryz.f68])))
   all_goals first|exact qa2 rfl (by unfold qez;rw[hx];simp)|(exfalso;omega)
  ·have e1:¬ (c.toNat:Int)=13:=fun q=>e (h13.1 q);simp only[e,decide_false,Bool.false_or]at hx;clear h13
   (repeat' (first
    |with_reducible apply qam
    |with_reducible apply qa7
    |(with_reducible apply rE;simp[zS, *];exact rfl)
    |(with_reducible apply qax;simp only[qan,qah])
    |apply qaj rfl
    |apply qag rfl
    |(with_reducible apply qa4;simp only[qan,qah])))
   all_goals first|(exact hB _ (i+1) (by omega) ⟨by omega,hx⟩ ⟨[],[],⟨rfl,rfl,rfl,by simp[qaz,qat,qab,qa9],FitH.nothing⟩⟩)|(exfalso;omega)
 ·have hc:¬ (i:Int) < (s.length:Int):=by omega
  rw[jt (by omega)]at hx
  (repeat' (first
   |with_reducible apply qam
   |(with_reducible apply rE;simp[zS, *];exact rfl)
   |(with_reducible apply qax;simp only[qan,qah])
   |apply qag rfl
   |(with_reducible apply qau;simp)
   |(with_reducible apply qa3;simp[zQ,Tryz.f68])))
  all_goals first|exact qa2 rfl (by unfold qez;rw[hx];simp)|(exfalso;omega)
def e68:Entry PG:=mkE 68 [[]] (fun z:Str=>[.str z]) (fun z=>(z.length<=1000000)) (fun z=>.bool (qez z)) fun z h=>c68 (T:=[e109]) rfl z h
theorem k68(hT:qIn 68 T e68) (s:Str) (hs:s.length<=1000000) (H:Heap):qb7 (ctx T) (.fn 68) [.str s] H=some (.bool (qez s),H):=
 qac hT inj_168 (s) hs rfl (by simp[qao])
theorem c70(hc0:qIn 111 T e111) (s:Str) (hs:s.length<=1000000):CA T 70 [.str s] zH (.bool (s.all sp)) zH:=by
 have kc0:=@k111 T hc0;refine qa1 (s0:=⟨[0,2,3],[.str s,uD,uD],[],15,⟨0,[[]]⟩⟩) Tryz.func70 rfl rfl rfl ?_;apply qR;simp[zS];apply qR;simp[zS];refine qa7 (qb1 (fun i:Nat=>(⟨[0,2,3],[.str s,.bool false,.int .i64 (i:Int)],[],15,⟨0,[[]]⟩⟩ : St))
  (fun i=>i<=s.length/\s.all sp=(s.drop i).all sp) (fun i=>s.length - i) [] [] 0 ⟨jh _,rfl⟩ ⟨rfl,rfl,rfl,by simp[qaz,qat,qab,qa9],FitH.nothing⟩ ?_)
 rintro i ⟨hi,hx⟩ B hB;by_cases h:i < s.length
 ·have hc:(i:Int) < (s.length:Int):=by omega
  have hix:=qjj h;have ha:=qbd (show i<=1000000000 by omega);rw[List.drop_eq_getElem_cons h,List.all_cons]at hx;generalize s[i]=c at *;have k1:=fun H=>kc0 c H;clear kc0;generalize sp c=b1 at *
  (repeat' (first
   |with_reducible apply qam
   |with_reducible apply qa7
   |(with_reducible apply rE;simp[zS, *];exact rfl)
   |(with_reducible apply qax;simp only[qan,qah])
   |apply qaj rfl
   |(refine qay rfl (fun hc=>?_) (fun hc=>?_)<;>(have hd:=hc;(try simp at hd);(try subst hd)))
   |(with_reducible apply qa4;simp only[qan,qah])
   |(with_reducible apply qa3;simp[zQ,Tryz.f70])))
  all_goals first|exact qa2 rfl (by rw[hx];simp[*])|(exact hB _ (i+1) (by omega) ⟨by omega,by rw[hx];simp[*]⟩ ⟨[],[],⟨rfl,rfl,rfl,by simp[qaz,qat,qab,qa9],FitH.nothing⟩⟩)|(exfalso;omega)
 ·have hc:¬ (i:Int) < (s.length:Int):=by omega
  rw[jt (by omega)]at hx
  (repeat' (first
   |with_reducible apply qam
   |(with_reducible apply rE;simp[zS, *];exact rfl)
   |(with_reducible apply qax;simp only[qan,qah])
   |apply qag rfl
   |(with_reducible apply qau;simp)
   |(with_reducible apply qa3;simp[zQ,Tryz.f70])))
  all_goals first|exact qa2 rfl (by rw[hx];rfl)|(exfalso;omega)
def e70:Entry PG:=mkE 70 [[]] (fun z:Str=>[.str z]) (fun z=>(z.length<=1000000)) (fun z=>.bool (z.all sp)) fun z h=>c70 (T:=[e111]) rfl z h
theorem k70(hT:qIn 70 T e70) (s:Str) (hs:s.length<=1000000) (H:Heap):qb7 (ctx T) (.fn 70) [.str s] H=some (.bool (s.all sp),H):=
 qac hT inj_168 (s) hs rfl (by simp[qao])
theorem c44(hc0:qIn 47 T e47) (hc1:qIn 68 T e68) (hc2:qIn 69 T e69) (hc3:qIn 46 T e46) (hc4:qIn 70 T e70) (L:List Nd) (s:Str) (hp:okP L) (hs:s.length<=900000):CA T 44 [qa8 L,.str s] zH (.bool (qd5 L s)) zH:=by
 have kc0:=@k47 T hc0;have kc1:=@k68 T hc1;have kc2:=@k69 T hc2;have kc3:=@k46 T hc3;have kc4:=@k70 T hc4;have hl:L.length<=1000000:=by have:=hp.1;omega
 have hs2:s.length<=1000000:=by omega
 refine qa1 (s0:=⟨[0,1,4,5],[qa8 L,.str s,uD,uD],[],34,⟨0,[[]]⟩⟩) Tryz.func44 rfl rfl rfl ?_
 (repeat' (first
  |with_reducible apply qam
  |(with_reducible apply rE;simp[zS, *,qaq];exact rfl)
  |(with_reducible apply qax;simp only[qan,qah])
  |(with_reducible refine qb6 (fun hc=>?_) (fun hc=>?_)<;>(have hd:=hc;(try simp at hd);(try subst hd);apply qf6;simp[zS, *,qaq];exact rfl))
  |apply qaj rfl
  |apply qag rfl
  |(refine qay rfl (fun hc=>?_) (fun hc=>?_)<;>(have hd:=hc;(try simp at hd);(try subst hd)))
  |(with_reducible apply qa4;simp only[qan,qah])
  |(with_reducible apply qa3;simp[zQ,Tryz.f44])))
 all_goals first|exact qa2 rfl (by first|(simp[qd5, *];done)|(simp_all [qd5];done))|(exfalso;omega)
def e44:Entry PG:=mkE 44 [[7],[]] (fun z:List Nd × Str=>[qa8 z.1,.str z.2]) (fun z=>(okP z.1)/\(z.2.length<=900000)) (fun z=>.bool (qd5 z.1 z.2)) fun z h=>c44 (T:=[e47,e68,e69,e46,e70]) rfl rfl rfl rfl rfl z.1 z.2 h.1 h.2
theorem k44(hT:qIn 44 T e44) (L:List Nd) (s:Str) (hp:okP L) (hs:s.length<=900000) (H:Heap):qb7 (ctx T) (.fn 44) [qa8 L,.str s] H=some (.bool (qd5 L s),H):=
 qac hT inj_138 (L,s) ⟨hp,hs⟩ rfl (by simp[qao])
theorem c63(hc0:qIn 100 T e100) (hc1:qIn 101 T e101) (n:Nd) (h:okN n):CA T 63 [qa6 n] zH (.bool (decide (n.kind=1) && decide (n.space=0) || qgb n || qf7 n)) zH:=by
 have kc0:=@k100 T hc0;have kc1:=@k101 T hc1;refine qa1 (s0:=⟨[0,1,2],[qa6 n,uD,uD],[],19,⟨0,[[]]⟩⟩) Tryz.func63 rfl rfl rfl ?_
 (repeat' (first
  |with_reducible apply qam
  |(with_reducible apply rE;simp[zS, *,qaq];exact rfl)
  |(with_reducible apply qax;simp only[qan,qah])
  |(with_reducible refine qb6 (fun hc=>?_) (fun hc=>?_)<;>(have hd:=hc;(try simp at hd);(try subst hd);apply qf6;simp[zS, *,qaq];exact rfl))
  |(with_reducible apply qa3;simp[zQ,Tryz.f63])))
 all_goals first|exact qa2 rfl (by first|(simp[*];done)|(simp_all;done))|(exfalso;omega)
def e63:Entry PG:=mkE 63 [[0,0,0,2,0,0,1]] (fun z:Nd=>[qa6 z]) (fun z=>(okN z)) (fun z=>.bool (decide (z.kind=1) && decide (z.space=0) || qgb z || qf7 z)) fun z h=>c63 (T:=[e100,e101]) rfl rfl z h
theorem k63(hT:qIn 63 T e63) (n:Nd) (h:okN n) (H:Heap):qb7 (ctx T) (.fn 63) [qa6 n] H=some (.bool (decide (n.kind=1) && decide (n.space=0) || qgb n || qf7 n),H):=
 qac hT inj_92 (n) h rfl (by simp[qao])
