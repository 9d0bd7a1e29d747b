/- law19.Done on two states: all but a closing. No condition. -/
import Derived.Test.YtnfdakclfmchfaaGreatMV
namespace Go.Proofs.YtnfdakclfmchfaaGreat
noncomputable section
set_option linter.unusedSimpArgs false
set_option linter.unusedVariables false
open Go Go.RowKit
variable {T:List (Entry Tryz.prog)}
inductive PreF (K:Int->List Int):List Int->List Int->Prop
 |nil:PreF K [] []
 |cons {k:Int} {r L M:List Int} (h:PreF K (K k) L) (g:PreF K r M):PreF K (k::r) (k::(L++M))
theorem PreF.app{K:Int->List Int} {a b L M:List Int} (h:PreF K a L) (g:PreF K b M):PreF K (a++b) (L++M):=by
 induction h with
 |nil=>exact g
 |cons h1 h2 _ ih=>have:=PreF.cons h1 ih;simpa using this
theorem PreF.congr{K K':Int->List Int} {a L:List Int} (h:PreF K a L) (e:∀x,x∈L->K' x=K x):PreF K' a L:=by
 induction h with
 |nil=>exact .nil
 |cons h1 h2 ih1 ih2=>have e1:=e _ (j8 ..);refine .cons ?_ (ih2 fun x hx=>e x (by simp[hx]));rw[e1];exact ih1 fun x hx=>e x (by simp[hx])
theorem PreF.mem{K:Int->List Int} {a L:List Int} (h:PreF K a L):∀x,x∈a->x∈L:=by
 induction h with
 |nil=>intro x hx;exact hx
 |cons h1 h2 _ ih=>
  intro x hx;rcases jd.1 hx with rfl|hx
  ·simp
  ·simp[ih x hx]
theorem PreF.kid{K:Int->List Int} {a L:List Int} (h:PreF K a L):∀x,x∈L->∀y,y∈K x->y∈L:=by
 induction h with
 |nil=>intro x hx;cases hx
 |cons h1 h2 ih1 ih2=>
  intro x hx y hy;rcases jd.1 hx with rfl|hx
  ·simp[h1.mem y hy]
  ·rcases je.1 hx with hx|hx
   ·simp[ih1 x hx y hy]
   ·simp[ih2 x hx y hy]
abbrev Ch:=List (Int × List Int)
def flat(c:Ch):List Int:=c.flatMap fun x=>x.1::x.2
@[simp]theorem qxc:flat []=[]:=rfl
@[simp]theorem qe5(o:Int) (L:List Int) (c:Ch):flat ((o,L)::c)=o::(L++flat c):=by simp[flat]
@[simp]theorem qf6(a b:Ch):flat (a++b)=flat a++flat b:=by simp[flat]
def EdgeK(K:Int->List Int):Ch->Prop
 |[]=>True
 |[(o,L)]=>PreF K (K o) L
 |(o,L)::(p,M)::r=>(∃A,K o=A++[p]/\PreF K A L)/\EdgeK K ((p,M)::r)
theorem EdgeK.pre{K:Int->List Int}:∀{r:Ch} {o:Int} {L:List Int},EdgeK K ((o,L)::r)->PreF K [o] (flat ((o,L)::r))
 |[],o,L,h=>by have:=PreF.cons (k:=o) (show PreF K (K o) L from h) .nil;simpa using this
 |(p,M)::r,o,L,h=>by obtain⟨⟨A,e,hA⟩,h2⟩:=h;have h3:=hA.app (EdgeK.pre h2);rw[<- e]at h3;have:=PreF.cons (k:=o) h3 .nil;simpa using this
theorem EdgeK.below{K:Int->List Int} {r:Ch} {o:Int} {L:List Int} (h:EdgeK K ((o,L)::r)):PreF K (K o) (L++flat r):=by
 cases r with
 |nil=>simpa using(show PreF K (K o) L from h)
 |cons x r=>obtain⟨p,M⟩:=x;obtain⟨⟨A,e,hA⟩,h2⟩:=h;have h3:=hA.app h2.pre;rw[<- e]at h3;exact h3
theorem EdgeK.congr{K K':Int->List Int}:∀{c:Ch},EdgeK K c->(∀x,x∈flat c->K' x=K x)->EdgeK K' c
 |[],_,_=>trivial
 |[(o,L)],h,e=>by show PreF K' (K' o) L;rw[e o (by simp)];exact PreF.congr h fun x hx=>e x (by simp[hx])
 |(o,L)::(p,M)::r,h,e=>by
  obtain⟨⟨A,e1,hA⟩,h2⟩:=h;refine⟨⟨A,by rw[e o (by simp)];exact e1,hA.congr fun x hx=>e x (by simp[hx])⟩,EdgeK.congr h2 fun x hx=>e x ?_⟩;simp at hx ⊢;rcases hx with hx|hx
  ·simp[hx]
  ·simp[hx]
theorem EdgeK.trunc{K:Int->List Int} {o:Int} {L:List Int} {b:Ch}:∀{a:Ch},EdgeK K (a++(o,L)::b)->EdgeK K (a++[(o,L++flat b)])
 |[],h=>h.below
 |[(p,M)],h=>by obtain⟨h1,h2⟩:=h;exact⟨h1,EdgeK.trunc (a:=[]) h2⟩
 |(p,M)::(q,N)::a,h=>by obtain⟨h1,h2⟩:=h;exact⟨h1,EdgeK.trunc (a:=(q,N)::a) h2⟩
theorem EdgeK.tail{K:Int->List Int}:∀{a b:Ch},EdgeK K (a++b)->EdgeK K b
 |[],b,h=>h
 |[(p,M)],[],h=>trivial
 |[(p,M)],(q,N)::b,h=>h.2
 |(p,M)::(q,N)::a,b,h=>EdgeK.tail (a:=(q,N)::a) h.2
theorem EdgeK.cut{K K':Int->List Int} {o p:Int} {L M:List Int} {b:Ch}:∀{a:Ch},EdgeK K (a++(o,L)::(p,M)::b)->(flat (a++(o,L)::(p,M)::b)).Nodup->(∀x,K' x=(K x).filter fun y=>!decide (y=p))->(∀x,x≠o->p ∉ K x)->(K o).Nodup ->
  EdgeK K' (a++[(o,L)])/\EdgeK K' ((p,M)::b)
 |a,h,nd,e,hn,no=>by
  have e1:∀x,x≠o->K' x=K x:=fun x hx=>by rw[e x,yI];intro y hy;have:y≠p:=fun e=>hn x hx (e ▸ hy);simp[this]
  have h0:=EdgeK.tail h;obtain⟨⟨A,e2,hA⟩,h2⟩:=h0;have e3:K' o=A:=by rw[e o,e2,yU];rw[e2]at no;rw[j4]at no;have:A.filter (fun y=>!decide (y=p))=A:=(by rw[yI];intro y hy;have:y≠p:=no.2.2 y hy p (by simp);simp[this]);rw[this];simp
  have ho:o ∉ flat a/\o ∉ L/\o ∉ flat ((p,M)::b):=by rw[qf6,j4]at nd;have n2:=nd.2.1;rw[qe5,jp,je]at n2;refine⟨fun hm=>nd.2.2 o hm o (by simp) rfl,fun hm=>n2.1 (.inl hm),fun hm=>n2.1 (.inr hm)⟩
  refine⟨?_,h2.congr fun x hx=>e1 x fun hxo=>ho.2.2 (hxo ▸ hx)⟩;have hA':PreF K' (K' o) L:=by rw[e3];exact hA.congr fun x hx=>e1 x fun hxo=>ho.2.1 (hxo ▸ hx)
  have key:∀(a:Ch),o ∉ flat a->EdgeK K (a++(o,L)::(p,M)::b)->EdgeK K' (a++[(o,L)]):=by
   intro a;induction a with
   |nil=>intro _ _;exact hA'
   |cons x a ih=>
    intro hoa hx;obtain⟨q,N⟩:=x;simp at hoa;have hq:q≠o:=fun e=>hoa.1 e.symm;cases a with
    |nil=>obtain⟨⟨B,e4,hB⟩,h4⟩:=hx;exact⟨⟨B,by rw[e1 q hq];exact e4,hB.congr fun x hx=>e1 x fun hxo=>hoa.2.1 (hxo ▸ hx)⟩,hA'⟩
    |cons y a=>obtain⟨r,N2⟩:=y;obtain⟨⟨B,e4,hB⟩,h4⟩:=hx;refine⟨⟨B,by rw[e1 q hq];exact e4,hB.congr fun x hx=>e1 x fun hxo=>hoa.2.1 (hxo ▸ hx)⟩,ih ?_ h4⟩;have:=hoa.2.2;simpa using this
  exact key a ho.1 h
theorem EdgeK.join{K K':Int->List Int} {o p:Int} {L M:List Int} {b:Ch}:∀{a:Ch},EdgeK K (a++[(o,L)])->EdgeK K ((p,M)::b)->(flat (a++(o,L)::(p,M)::b)).Nodup->K' o=K o++[p]->(∀x,x∈flat (a++(o,L)::(p,M)::b)->x≠o->K' x=K x) ->
  EdgeK K' (a++(o,L)::(p,M)::b)
 |a,h,g,nd,e0,e1=>by
  have ho:o ∉ flat a/\o ∉ L/\o ∉ flat ((p,M)::b):=by rw[qf6,j4]at nd;have n2:=nd.2.1;rw[qe5,jp,je]at n2;refine⟨fun hm=>nd.2.2 o hm o (by simp) rfl,fun hm=>n2.1 (.inl hm),fun hm=>n2.1 (.inr hm)⟩
  have g':EdgeK K' ((p,M)::b):=g.congr fun x hx=>e1 x (by rw[qf6,je];right;rw[qe5];simp only[jd,je];exact .inr (.inr hx)) fun hxo=>ho.2.2 (hxo ▸ hx);have hL:PreF K (K o) L:=by have:=EdgeK.tail h;exact this
  have last:EdgeK K' ((o,L)::(p,M)::b):=⟨⟨K o,e0,hL.congr fun x hx=>e1 x (by simp[hx]) fun hxo=>ho.2.1 (hxo ▸ hx)⟩,g'⟩;have key:∀(a':Ch),(∀x,x∈flat a'->x∈flat a)->EdgeK K (a'++[(o,L)])->EdgeK K' (a'++(o,L)::(p,M)::b):=by
   intro a';induction a' with
   |nil=>intro _ _;exact last
   |cons x a' ih=>
    intro hs hx;obtain⟨q,N⟩:=x;have hin:∀x,x∈flat ((q,N)::a')->K' x=K x:=fun x hx=>e1 x (by rw[qf6,je];exact .inl (hs x hx)) fun hxo=>ho.1 (hxo ▸ hs x hx);cases a' with
    |nil=>obtain⟨⟨B,e4,hB⟩,h4⟩:=hx;exact⟨⟨B,by rw[hin q (by simp)];exact e4,hB.congr fun x hx=>hin x (by simp[hx])⟩,last⟩
    |cons y a'=>obtain⟨r,N2⟩:=y;obtain⟨⟨B,e4,hB⟩,h4⟩:=hx;refine⟨⟨B,by rw[hin q (by simp)];exact e4,hB.congr fun x hx=>hin x (by simp[hx])⟩,ih (fun x hx=>hs x ?_) h4⟩;rw[qe5];simp only[jd,je];exact .inr (.inr hx)
  exact key a (fun x hx=>hx) h
theorem EdgeK.mov{K K':Int->List Int} {o n:Int} {L:List Int} {b:Ch} {a:Ch} (h:EdgeK K (a++(o,L)::b)) (nd:(flat (a++(o,L)::b)).Nodup) (e0:K' o=[]) (en:K' n=K o) (e1:∀x,x∈flat (a++(o,L)::b)->x≠o->K' x=K x) :
  EdgeK K' (a++[(o,[])])/\EdgeK K' ((n,L)::b):=by
 have ho:o ∉ flat a/\o ∉ L/\o ∉ flat b:=by rw[qf6,j4]at nd;have n2:=nd.2.1;rw[qe5,jp,je]at n2;refine⟨fun hm=>nd.2.2 o hm o (by simp) rfl,fun hm=>n2.1 (.inl hm),fun hm=>n2.1 (.inr hm)⟩
 have inL:∀x,x∈L->K' x=K x:=fun x hx=>e1 x (by simp[hx]) fun hxo=>ho.2.1 (hxo ▸ hx);have inb:∀x,x∈flat b->K' x=K x:=fun x hx=>e1 x (by simp[hx]) fun hxo=>ho.2.2 (hxo ▸ hx);have ina:∀x,x∈flat a->K' x=K x:=fun x hx=>e1 x (by simp[hx]) fun hxo=>ho.1 (hxo ▸ hx);constructor
 ·have key:∀(a':Ch),(∀x,x∈flat a'->x∈flat a)->EdgeK K (a'++(o,L)::b)->EdgeK K' (a'++[(o,[])]):=by
   intro a';induction a' with
   |nil=>intro _ _;show PreF K' (K' o) [];rw[e0];exact .nil
   |cons x a' ih=>
    intro hs hx;obtain⟨q,N⟩:=x;have hin:∀x,x∈flat ((q,N)::a')->K' x=K x:=fun x hx=>ina x (hs x hx);cases a' with
    |nil=>obtain⟨⟨B,e4,hB⟩,h4⟩:=hx;exact⟨⟨B,by rw[hin q (by simp)];exact e4,hB.congr fun x hx=>hin x (by simp[hx])⟩,(by show PreF K' (K' o) [];rw[e0];exact .nil)⟩
    |cons y a'=>obtain⟨r,N2⟩:=y;obtain⟨⟨B,e4,hB⟩,h4⟩:=hx;refine⟨⟨B,by rw[hin q (by simp)];exact e4,hB.congr fun x hx=>hin x (by simp[hx])⟩,ih (fun x hx=>hs x ?_) h4⟩;rw[qe5];simp only[jd,je];exact .inr (.inr hx)
  exact key a (fun x hx=>hx) h
 ·have h0:=EdgeK.tail h;cases b with
  |nil=>show PreF K' (K' n) L;rw[en];exact PreF.congr h0 inL
  |cons x b=>obtain⟨p,M⟩:=x;obtain⟨⟨A,e2,hA⟩,h2⟩:=h0;exact⟨⟨A,by rw[en];exact e2,hA.congr inL⟩,h2.congr inb⟩
def kO(t:Tr) (i:Int):List Int:=if isB t i=true then (qa0 t i).kids else []
theorem zb4{t:Tr} {x y:Int} (h:y∈kO t x):0<=x/\x < (t.length:Int):=by
 unfold kO at h;split at h
 next hb=>exact isB_iff.1 hb
 ·cases h
theorem qir{t:Tr} {x:Int} (h:0<=x/\x < (t.length:Int)):kO t x=(qa0 t x).kids:=by unfold kO;rw[jo (isB_iff.2 h)]
theorem qjz{t:Tr} {x:Int} (h:¬ (0<=x/\x < (t.length:Int))):kO t x=[]:=by unfold kO;rw[jm fun e=>h (isB_iff.1 e)]
structure UC (t:Tr):Prop where
 nd:∀x,(kO t x).Nodup
 ku:∀x y,y∈kO t x->0<=y/\y < (t.length:Int)/\(qa0 t y).up=x
 uk:∀y:Int,0<=y->y < (t.length:Int)->(qa0 t y).up = -1\/y∈kO t (qa0 t y).up
def Dat(t t':Tr):Prop:=t.length<=t'.length/\∀y:Int,0<=y->y < (t.length:Int)->(qa0 t' y).kind=(qa0 t y).kind/\(qa0 t' y).data=(qa0 t y).data
theorem Dat.refl(t:Tr):Dat t t:=⟨ja _,fun _ _ _=>⟨rfl,rfl⟩⟩
theorem Dat.trans{a b c:Tr} (h:Dat a b) (g:Dat b c):Dat a c:=⟨j6 h.1 g.1,fun y h0 h1=>by obtain⟨e1,e2⟩:=h.2 y h0 h1;obtain⟨e3,e4⟩:=g.2 y h0 (by have:=h.1;omega);exact⟨e3.trans e1,e4.trans e2⟩⟩
def ne_(k:Int):Int->Bool:=fun y=>!decide (y=k)
theorem qgb{L:List Int} {k:Int} (h:k ∉ L):L.filter (ne_ k)=L:=by rw[yI];intro y hy;have:y≠k:=fun e=>h (e ▸ hy);simp[ne_,this]
theorem qxj{k:Int}:∀(L:List Int) (j:Nat),k∈L->L.Nodup->∃p:Nat,qb7 (fun y=>decide (y=k)) L j=((j+p:Nat):Int)/\L.eraseIdx p=L.filter (ne_ k)
 |[],j,h,_=>by cases h
 |x::r,j,h,hn=>by
  unfold qb7;have hn2:=jp.1 hn;by_cases e:x=k
  ·subst e;refine⟨0,by simp,?_⟩;simp only[List.eraseIdx_cons_zero,List.filter_cons];rw[qgb hn2.1];simp[ne_]
  ·have hr:k∈r:=by
    rcases jd.1 h with h|h
    ·exact absurd h.symm e
    ·exact h
   obtain⟨p,h1,h2⟩:=qxj r (j+1) hr hn2.2;refine⟨p+1,?_,?_⟩
   ·simp only[e,yr,jz,jM];rw[h1];congr 1;omega
   ·simp only[List.eraseIdx_cons_succ,List.filter_cons,h2];simp[ne_,e]
theorem qys{t:Tr} (h:UC t) {k:Int} (k0:0 < k) (k1:k < (t.length:Int)) :
  (∀x,kO (qec t k) x=(kO t x).filter (ne_ k))/\(∀y:Int,0<=y->y < (t.length:Int)->(qa0 (qec t k) y).up=if y=k then -1 else (qa0 t y).up)/\Dat t (qec t k):=by
 have hb:isB t k=true:=isB_iff.2 ⟨by omega,k1⟩;have e0:qec t k=setUp (cutK t k) k.toNat (-1):=by unfold qec;rw[jo ⟨by omega,hb⟩]
 have lK:(cutK t k).length=t.length:=qhx t k;have hkt:k.toNat < (cutK t k).length:=by omega
 have lT:(qec t k).length=t.length:=qf7 t k;have nT:∀j,qa0 (qec t k) j=if j.toNat=k.toNat then { qa0 (cutK t k) k.toNat with up:=-1 } else qa0 (cutK t k) j:=fun j=>by rw[e0,qyd hkt]
 have kT:∀x,kO (qec t k) x=kO (cutK t k) x:=fun x=>by
  by_cases hx:0<=x/\x < (t.length:Int)
  ·rw[qir (by rw[lT];exact hx),qir (by rw[lK];exact hx),nT];split
   next e=>have:x=(k.toNat:Int):=(by omega);rw[this]
   ·rfl
  ·rw[qjz (by rw[lT];exact hx),qjz (by rw[lK];exact hx)]
 have main:(∀x,kO (cutK t k) x=(kO t x).filter (ne_ k))/\(∀y,(qa0 (cutK t k) y).up=(qa0 t y).up/\(qa0 (cutK t k) y).kind=(qa0 t y).kind/\(qa0 (cutK t k) y).data=(qa0 t y).data):=by
  rcases h.uk k (by omega) k1 with hu|hu
  ·have hp:qd6 t k = -1:=(by unfold qd6;rw[jm];rintro⟨_,h2⟩;rw[hu]at h2;have:=(isB_iff.1 h2).1;omega);have e1:cutK t k=t:=(by unfold cutK;rw[hp,jm (by omega)]);rw[e1];refine⟨fun x=>(qgb fun hm=>?_).symm,fun y=>⟨rfl,rfl,rfl⟩⟩;have h1:=(h.ku x k hm).2.2;have h2:=zb4 hm;omega
  ·obtain⟨p,hp⟩ : ∃p,p=(qa0 t k).up:=⟨_,rfl⟩;rw[<- hp]at hu;have hr:=zb4 hu;have hn:=h.nd p;rw[qir hr]at hu hn;obtain⟨q,q1,q2⟩:=qxj (k:=k) (qa0 t p).kids 0 hu hn;have hpl:qd6 t k=(q:Int):=(by unfold qd6;rw[<- hp,jo ⟨hb,isB_iff.2 hr⟩];unfold atP;rw[q1];simp);have e1:cutK t k=setKids t p.toNat ((qa0 t p).kids.filter (ne_ k)):=(by unfold cutK;rw[<- hp,hpl,jo (by omega),jr,q2]);have hpt:p.toNat < t.length:=(by omega);have nK:∀j,qa0 (cutK t k) j=if j.toNat=p.toNat then { qa0 t p.toNat with kids:=(qa0 t p).kids.filter (ne_ k) } else qa0 t j:=fun j=>(by rw[e1,qm9 hpt]);refine⟨fun x=>?_,fun y=>?_⟩
   ·by_cases hx:0<=x/\x < (t.length:Int)
    ·rw[qir (by rw[lK];exact hx),qir hx,nK];split
     next e=>have:x=p:=(by omega);rw[this]
     next e=>rw[qgb];intro hm;have h1:=(h.ku x k (by rw[qir hx];exact hm)).2.2;exact e (by omega)
    ·rw[qjz (by rw[lK];exact hx),qjz hx];rfl
   ·rw[nK];split
    next e=>have:qa0 t y=qa0 t (p.toNat:Int):=(by simp only[qa0,e,jr]);rw[this];exact⟨rfl,rfl,rfl⟩
    ·exact⟨rfl,rfl,rfl⟩
 refine⟨fun x=>by rw[kT,main.1],fun y h0 h1=>?_,by rw[lT];exact ja _,fun y h0 h1=>?_⟩
 ·rw[nT];split
  next e=>rw[jo (by omega)]
  next e=>rw[jm (by omega)];exact(main.2 y).1
 ·rw[nT];split
  next e=>have:y=(k.toNat:Int):=(by omega);rw[this];exact(main.2 _).2
  ·exact(main.2 y).2
theorem UC.cut{t:Tr} (h:UC t) {k:Int} (k0:0 < k) (k1:k < (t.length:Int)):UC (qec t k):=by
 obtain⟨e1,e2,_⟩:=qys h k0 k1;have lT:(qec t k).length=t.length:=qf7 t k;refine⟨fun x=>by rw[e1];exact List.Nodup.sublist yH (h.nd x),fun x y hy=>?_,fun y h0 h1=>?_⟩
 ·rw[e1,yw]at hy;obtain⟨a,b,c⟩:=h.ku x y hy.1;rw[lT];refine⟨a,b,?_⟩;rw[e2 y a b,jm (by simpa[ne_]using hy.2)];exact c
 ·rw[lT]at h1;rw[e2 y h0 h1];split
  ·exact .inl rfl
  ·rename_i hne;rcases h.uk y h0 h1 with h|h
   ·exact .inl h
   ·right;rw[e1,yw];exact⟨h,by simp[ne_,hne]⟩
theorem zaa{t:Tr} (h:UC t) {u k:Int} (ok:qi9 t u k=true) :
  (∀x,kO (qgh t u ((qa0 t u).kids.length:Int) k) x=if x=u then (kO t x).filter (ne_ k)++[k] else (kO t x).filter (ne_ k))/\(∀y:Int,0<=y->y < (t.length:Int)->(qa0 (qgh t u ((qa0 t u).kids.length:Int) k) y).up=if y=k then u else (qa0 t y).up)/\Dat t (qgh t u ((qa0 t u).kids.length:Int) k):=by
 have ok':=ok;simp only[qi9,jf,yn,yh]at ok';obtain⟨⟨⟨o1,o2⟩,o3⟩,_⟩:=ok';have hu:=isB_iff.1 o1;have hk:=isB_iff.1 o2;obtain⟨c1,c2,c3⟩:=qys h (k:=k) (by omega) hk.2;have lC:(qec t k).length=t.length:=qf7 t k;obtain⟨X,hX⟩ : ∃X,X=qec t k:=⟨_,rfl⟩;rw[<- hX]at c1 c2 c3 lC;have hins:qgx (qa0 X u).kids ((qa0 t u).kids.length:Int) k=(kO t u).filter (ne_ k)++[k]:=by
  have e1:(qa0 X u).kids=(kO t u).filter (ne_ k):=by rw[<- c1,qir (by rw[lC];exact hu)]
  have e2:(qa0 t u).kids=kO t u:=(qir hu).symm;rw[e1,e2];unfold qgx qdb;have:((kO t u).filter (ne_ k)).length<=(kO t u).length:=yp _ _;rw[show (min (max ((kO t u).length:Int) 0) (((kO t u).filter (ne_ k)).length:Int)).toNat=((kO t u).filter (ne_ k)).length by omega,yx,List.drop_length]
 have e0:qgh t u ((qa0 t u).kids.length:Int) k=setUp (setKids X u.toNat ((kO t u).filter (ne_ k)++[k])) k.toNat u:=by unfold qgh;rw[jo ok,<- hX,hins]
 have hut:u.toNat < X.length:=by omega
 obtain⟨Y,hY⟩ : ∃Y,Y=setKids X u.toNat ((kO t u).filter (ne_ k)++[k]):=⟨_,rfl⟩;have lY:Y.length=X.length:=by rw[hY];exact qbt hut _
 have hkt:k.toNat < Y.length:=by omega
 rw[e0,<- hY];have lZ:(setUp Y k.toNat u).length=t.length:=by rw[qi8 hkt,lY,lC]
 have nY:∀j,qa0 Y j=if j.toNat=u.toNat then { qa0 X u.toNat with kids:=(kO t u).filter (ne_ k)++[k] } else qa0 X j:=fun j=>by rw[hY,qm9 hut]
 have nZ:∀j,qa0 (setUp Y k.toNat u) j=if j.toNat=k.toNat then { qa0 Y k.toNat with up:=u } else qa0 Y j:=fun j=>by rw[qyd hkt]
 have sY:∀y:Int,0<=y->(qa0 Y y).up=(qa0 X y).up/\(qa0 Y y).kind=(qa0 X y).kind/\(qa0 Y y).data=(qa0 X y).data:=fun y h0=>by
  rw[nY];split
  next e=>have:y=(u.toNat:Int):=(by omega);rw[this];exact⟨rfl,rfl,rfl⟩
  ·exact⟨rfl,rfl,rfl⟩
 refine⟨fun x=>?_,fun y h0 h1=>?_,by rw[lZ];exact ja _,fun y h0 h1=>?_⟩
 ·by_cases hx:0<=x/\x < (t.length:Int)
  ·rw[qir (by rw[lZ];exact hx)];have e1:(qa0 (setUp Y k.toNat u) x).kids=(qa0 Y x).kids:=by
    rw[nZ];split
    next e=>have:x=(k.toNat:Int):=(by omega);rw[this]
    ·rfl
   rw[e1,nY];split
   next e=>have:x=u:=(by omega);rw[jo this,this]
   next e=>rw[jm (by omega),<- c1,qir (by rw[lC];exact hx)]
  ·rw[qjz (by rw[lZ];exact hx),jm (fun(e:x=u)=>hx (by rw[e];exact hu)),qjz hx];rfl
 ·rw[nZ];split
  next e=>rw[jo (by omega)]
  next e=>have hne:¬ y=k:=(by omega);rw[jm hne,(sY y h0).1,c2 y h0 h1,jm hne]
 ·have e1:(qa0 (setUp Y k.toNat u) y).kind=(qa0 Y y).kind/\(qa0 (setUp Y k.toNat u) y).data=(qa0 Y y).data:=by
   rw[nZ];split
   next e=>have:y=(k.toNat:Int):=(by omega);rw[this];exact⟨rfl,rfl⟩
   ·exact⟨rfl,rfl⟩
  rw[e1.1,e1.2,(sY y h0).2.1,(sY y h0).2.2];exact c3.2 y h0 h1
theorem UC.put{t:Tr} (h:UC t) {u k:Int} (ok:qi9 t u k=true):UC (qgh t u ((qa0 t u).kids.length:Int) k):=by
 obtain⟨e1,e2,_⟩:=zaa h ok;have ok':=ok;simp only[qi9,jf,yn,yh]at ok';obtain⟨⟨⟨o1,o2⟩,o3⟩,_⟩:=ok';have hk:=isB_iff.1 o2;have lT:(qgh t u ((qa0 t u).kids.length:Int) k).length=t.length:=qhs _ _ _;have nf:∀x,((kO t x).filter (ne_ k)).Nodup:=fun x=>List.Nodup.sublist yH (h.nd x);have old:∀x y,y∈(kO t x).filter (ne_ k)->0<=y/\y < (t.length:Int)/\y≠k/\(qa0 t y).up=x:=fun x y hy=>by rw[yw]at hy;obtain⟨a,b,c⟩:=h.ku x y hy.1;exact⟨a,b,by simpa[ne_]using hy.2,c⟩
 refine⟨fun x=>?_,fun x y hy=>?_,fun y h0 h1=>?_⟩
 ·rw[e1];split
  ·rw[j4];refine⟨nf x,by simp,fun a ha b hb=>?_⟩;simp at hb;rw[hb];exact(old x a ha).2.2.1
  ·exact nf x
 ·rw[lT];rw[e1]at hy;have key:y∈(kO t x).filter (ne_ k)->0<=y/\y < (t.length:Int)/\(qa0 (qgh t u ((qa0 t u).kids.length:Int) k) y).up=x:=fun hy=>by obtain⟨a,b,c,d⟩:=old x y hy;exact⟨a,b,by rw[e2 y a b,jm c];exact d⟩
  split at hy
  ·rename_i hx;rcases je.1 hy with hy|hy
   ·exact key hy
   ·simp at hy;subst hy;exact⟨hk.1,hk.2,by rw[e2 y hk.1 hk.2,jo rfl];exact hx.symm⟩
  ·exact key hy
 ·rw[lT]at h1;rw[e2 y h0 h1];split
  next e=>right;rw[e1,jo rfl,e];simp
  ·rename_i hne;rcases h.uk y h0 h1 with hh|hh
   ·exact .inl hh
   ·right;rw[e1];have:y∈(kO t (qa0 t y).up).filter (ne_ k):=(by rw[yw];exact⟨hh,by simp[ne_,hne]⟩);split
    ·exact j9 _ this
    ·exact this
theorem add_f(t:Tr) (nd:Nd):(∀x,kO (qed t nd) x=kO t x)/\(∀y:Int,0<=y->y < (t.length:Int)->(qa0 (qed t nd) y).up=(qa0 t y).up)/\(qa0 (qed t nd) (t.length:Int)).up = -1/\(qa0 (qed t nd) (t.length:Int)).kind=nd.kind/\Dat t (qed t nd):=by
 have l:(qed t nd).length=t.length+1:=qg3 nd;have old:∀y:Int,0<=y->y < (t.length:Int)->qa0 (qed t nd) y=qa0 t y:=fun y h0 h1=>by rw[qoh,jm (by omega)]
 have new:qa0 (qed t nd) (t.length:Int)=fresh nd:=by rw[qoh,jo (by simp)]
 refine⟨fun x=>?_,fun y h0 h1=>by rw[old y h0 h1],by rw[new];rfl,by rw[new];rfl,by rw[l];omega,fun y h0 h1=>by rw[old y h0 h1];exact⟨rfl,rfl⟩⟩;by_cases hx:0<=x/\x < (t.length:Int)
 ·rw[qir (by rw[l];omega),qir hx,old x hx.1 hx.2]
 ·rw[qjz hx];by_cases h2:x=(t.length:Int)
  ·rw[qir (by rw[l];omega),h2,new];rfl
  ·exact qjz (by rw[l];omega)
theorem UC.add{t:Tr} (h:UC t) (nd:Nd):UC (qed t nd):=by
 obtain⟨e1,e2,e3,_,_⟩:=add_f t nd;have l:(qed t nd).length=t.length+1:=qg3 nd;refine⟨fun x=>by rw[e1];exact h.nd x,fun x y hy=>?_,fun y h0 h1=>?_⟩
 ·rw[e1]at hy;obtain⟨a,b,c⟩:=h.ku x y hy;exact⟨a,by rw[l];omega,by rw[e2 y a b];exact c⟩
 ·by_cases hy:y=(t.length:Int)
  ·rw[hy];exact .inl e3
  ·have hy:y < (t.length:Int):=(by rw[l]at h1;omega);rw[e2 y h0 hy,e1];exact h.uk y h0 hy
theorem ups_up(u:Int):∀(K:List Int) (t:Tr) (y:Int),0<=y->y < (t.length:Int)->(qa0 (qna t K u) y).up=if y∈K then u else (qa0 t y).up
 |[],t,y,_,_=>by simp[qna]
 |k::K,t,y,h0,h1=>by
  have ih:=ups_up u K (upT u t k) y h0 (by rw[quu];exact h1);show (qa0 (qna (upT u t k) K u) y).up=_;rw[ih];by_cases hK:y∈K
  ·rw[jo hK,jo (ji _ hK)]
  ·rw[jm hK];unfold upT;by_cases hb:isB t k=true
   ·rw[jo hb];have hk:=isB_iff.1 hb;rw[qyd (by omega)];by_cases e:y=k
    ·rw[jo (by omega),jo (by simp[e])]
    ·rw[jm (by omega),jm (by simp[e,hK])]
   ·rw[jm hb,jm];intro hm;rcases jd.1 hm with e|e
    ·exact hb (isB_iff.2 ⟨by omega,by omega⟩)
    ·exact hK e
theorem qzg(u:Int):∀(K:List Int) (t:Tr) (y:Int),0<=y->(qa0 (qna t K u) y).kind=(qa0 t y).kind/\(qa0 (qna t K u) y).data=(qa0 t y).data
 |[],t,y,_=>⟨rfl,rfl⟩
 |k::K,t,y,h0=>by
  obtain⟨i1,i2⟩:=qzg u K (upT u t k) y h0;show (qa0 (qna (upT u t k) K u) y).kind=_/\(qa0 (qna (upT u t k) K u) y).data=_;rw[i1,i2];unfold upT;by_cases hb:isB t k=true
  ·rw[jo hb];have hk:=isB_iff.1 hb;rw[qyd (by omega)];split
   next e=>have:y=(k.toNat:Int):=(by omega);rw[this];exact⟨rfl,rfl⟩
   ·exact⟨rfl,rfl⟩
  ·rw[jm hb];exact⟨rfl,rfl⟩
theorem mov_f{t:Tr} (h:UC t) {f g:Int} (ok:qjy t f g=true) (hg:kO t g=[]) (hfg:f≠g) :
  (∀x,kO (qjx t f g) x=if x=f then [] else if x=g then kO t f else kO t x)/\(∀y:Int,0<=y->y < (t.length:Int)->(qa0 (qjx t f g) y).up=if y∈kO t f then g else (qa0 t y).up)/\Dat t (qjx t f g):=by
 have ok':=ok;simp only[qjy,jf]at ok';obtain⟨⟨o1,o2⟩,_⟩:=ok';have hf:=isB_iff.1 o1;have hgr:=isB_iff.1 o2;have ef:(qa0 t f).kids=kO t f:=(qir hf).symm;obtain⟨X,hX⟩ : ∃X,X=qpp t f g:=⟨_,rfl⟩;have lX:X.length=t.length:=by rw[hX];exact qij _ _ _
 have kX:∀x,(qa0 X x).kids=(qa0 t x).kids:=fun x=>by rw[hX];exact qj0 _ _ _ _
 have uX:∀y:Int,0<=y->y < (t.length:Int)->(qa0 X y).up=if y∈kO t f then g else (qa0 t y).up:=fun y h0 h1=>by rw[hX];unfold qpp;rw[ef];exact ups_up g _ t y h0 h1
 have dX:∀y:Int,0<=y->(qa0 X y).kind=(qa0 t y).kind/\(qa0 X y).data=(qa0 t y).data:=fun y h0=>by rw[hX];exact qzg g _ t y h0
 have hkg:(qa0 X g).kids=[]:=by rw[kX,<- qir hgr,hg]
 have e0:qjx t f g=setKids (setKids X g.toNat (kO t f)) f.toNat []:=by unfold qjx;rw[jo ok,<- hX,hkg,ef];rfl
 have hgt:g.toNat < X.length:=by omega
 obtain⟨Y,hY⟩ : ∃Y,Y=setKids X g.toNat (kO t f):=⟨_,rfl⟩;have lY:Y.length=X.length:=by rw[hY];exact qbt hgt _
 have hft:f.toNat < Y.length:=by omega
 rw[e0,<- hY];have lZ:(setKids Y f.toNat []).length=t.length:=by rw[qbt hft,lY,lX]
 have nY:∀j,qa0 Y j=if j.toNat=g.toNat then { qa0 X g.toNat with kids:=kO t f } else qa0 X j:=fun j=>by rw[hY,qm9 hgt]
 have nZ:∀j,qa0 (setKids Y f.toNat []) j=if j.toNat=f.toNat then { qa0 Y f.toNat with kids:=[] } else qa0 Y j:=fun j=>by rw[qm9 hft]
 have sZ:∀y:Int,0<=y->(qa0 (setKids Y f.toNat []) y).up=(qa0 X y).up/\(qa0 (setKids Y f.toNat []) y).kind=(qa0 X y).kind/\(qa0 (setKids Y f.toNat []) y).data=(qa0 X y).data:=fun y h0=>by
  have s1:(qa0 Y y).up=(qa0 X y).up/\(qa0 Y y).kind=(qa0 X y).kind/\(qa0 Y y).data=(qa0 X y).data:=by
   rw[nY];split
   next e=>have:y=(g.toNat:Int):=(by omega);rw[this];exact⟨rfl,rfl,rfl⟩
   ·exact⟨rfl,rfl,rfl⟩
  rw[nZ];split
  next e=>have:y=(f.toNat:Int):=(by omega);rw[this]at s1 ⊢;exact s1
  ·exact s1
 refine⟨fun x=>?_,fun y h0 h1=>by rw[(sZ y h0).1];exact uX y h0 h1,by rw[lZ];exact ja _,fun y h0 h1=>?_⟩
 ·by_cases hx:0<=x/\x < (t.length:Int)
  ·rw[qir (by rw[lZ];exact hx),nZ];split
   next e=>rw[jo (by omega)]
   ·rename_i e;rw[jm (by omega),nY];split
    next e2=>rw[jo (by omega)]
    next e2=>rw[jm (by omega),kX,qir hx]
  ·rw[qjz (by rw[lZ];exact hx),jm (fun(e:x=f)=>hx (by rw[e];exact hf)),jm (fun(e:x=g)=>hx (by rw[e];exact hgr)),qjz hx]
 ·rw[(sZ y h0).2.1,(sZ y h0).2.2];exact dX y h0
theorem UC.mov{t:Tr} (h:UC t) {f g:Int} (ok:qjy t f g=true) (hg:kO t g=[]) (hfg:f≠g):UC (qjx t f g):=by
 obtain⟨e1,e2,_⟩:=mov_f h ok hg hfg;have lT:(qjx t f g).length=t.length:=qrh _ _;refine⟨fun x=>?_,fun x y hy=>?_,fun y h0 h1=>?_⟩
 ·rw[e1];split
  ·exact jK
  split
  ·exact h.nd f
  ·exact h.nd x
 ·rw[lT];rw[e1]at hy;split at hy
  ·cases hy
  rename_i hxf;split at hy
  next hxg=>obtain⟨a,b,c⟩:=h.ku f y hy;exact⟨a,b,by rw[e2 y a b,jo hy];exact hxg.symm⟩
  ·obtain⟨a,b,c⟩:=h.ku x y hy;refine⟨a,b,?_⟩;rw[e2 y a b,jm]
   ·exact c
   ·intro hm;exact hxf (by rw[<- c];exact(h.ku f y hm).2.2)
 ·rw[lT]at h1;rw[e2 y h0 h1];split
  next hm=>right;rw[e1,jm (fun e=>hfg e.symm),jo rfl];exact hm
  ·rename_i hm;rcases h.uk y h0 h1 with hh|hh
   ·exact .inl hh
   ·right;rw[e1];split
    next e=>rw[e]at hh;exact absurd hh hm
    split
    next e1 e2=>rw[e2,hg]at hh;cases hh
    ·exact hh
def UpP(t:Tr):Int->List Int->Prop
 |x,[]=>(qa0 t x).up = -1
 |x,y::r=>(qa0 t x).up=y/\UpP t y r
theorem qrv{t:Tr} {k:Int}:∀(n:Nat) (l:List Int) (x:Int),UpP t x l->k≠x->k ∉ l->qgo t k n x=false
 |0,_,_,_,_,_=>rfl
 |n+1,l,x,h,h1,h2=>by
  unfold qgo;split
  ·rw[jm fun e=>h1 e.symm];cases l with
   |nil=>
    rw[show (qa0 t x).up = -1 from h];cases n with
    |zero=>rfl
    |succ n=>unfold qgo;rw[jm (by simp[isB])]
   |cons y r=>rw[h.1];exact qrv n r y h.2 (fun e=>h2 (by simp[e])) (fun e=>h2 (by simp[e]))
  ·rfl
theorem qnf{t:Tr} {u k:Int} {l:List Int} (hu:0<=u/\u < (t.length:Int)) (hk:0 < k/\k < (t.length:Int)) (h:UpP t u l) (h1:k≠u) (h2:k ∉ l):qi9 t u k=true:=by
 have k0:¬ k=0:=by omega
 simp only[qi9,isB_iff.2 hu,isB_iff.2 (show 0<=k/\k < (t.length:Int) by omega),qft,qrv _ l u h h1 h2,k0,yr];rfl
theorem movOK_of{t:Tr} {u k:Int} {l:List Int} (hu:0<=u/\u < (t.length:Int)) (hk:0<=k/\k < (t.length:Int)) (h:UpP t u l) (h1:k≠u) (h2:k ∉ l):qjy t k u=true:=by simp only[qjy,isB_iff.2 hu,isB_iff.2 hk,qft,qrv _ l u h h1 h2];rfl
theorem EdgeK.ups{t:Tr} (h:UC t) {o0:Int} (h0:(qa0 t o0).up = -1):∀(a:Ch) {o:Int} {L:List Int},(a++[(o,L)]).head?.map (·.1)=some o0->EdgeK (kO t) (a++[(o,L)])->UpP t o (a.map (·.1)).reverse:=by
 have key:∀(n:Nat) (a:Ch) {o:Int} {L:List Int},a.length=n->(a++[(o,L)]).head?.map (·.1)=some o0->EdgeK (kO t) (a++[(o,L)])->UpP t o (a.map (·.1)).reverse:=by
  intro n;induction n with
  |zero=>intro a o L hl hh he;have:a=[]:=jO.1 hl;subst this;simp at hh;subst hh;exact h0
  |succ n ih=>
   intro a o L hl hh he;obtain⟨b,x,rfl⟩ : ∃b x,a=b++[x]:=⟨a.dropLast,a.getLast (fun e=>by rw[e]at hl;simp at hl),(y8 _).symm⟩;obtain⟨p,M⟩:=x;rw[List.append_assoc]at he hh;have e1:EdgeK (kO t) ((p,M)::[(o,L)]):=EdgeK.tail he;obtain⟨⟨A,e2,_⟩,_⟩:=e1;have hup:=(h.ku p o (by rw[e2];simp)).2.2;have he2:=EdgeK.trunc (o:=p) (L:=M) (b:=[(o,L)]) (a:=b) he;have hr:=ih b (o:=p) (L:=M++flat [(o,L)]) (by simp at hl;omega) (by
    cases b with
    |nil=>simpa using hh
    |cons y b=>simpa using hh) he2
   simp only[j5,List.map_cons,jP,List.reverse_append,List.reverse_cons,List.reverse_nil,jv,Ja];exact⟨hup,hr⟩
 intro a o L hh he;exact key a.length a rfl hh he
set_option maxRecDepth 100000
set_option maxHeartbeats 1000000
theorem VR.slcInv{ρ:Place} {b o n c:Nat} {x:Value} (h:VR ρ (.slc b o n (.ex c)) x):∃l,ρ b=some l/\x=.slice (some ⟨l.cb,l.off+o,none⟩) n c/\n<=c:=by
 cases h with
 |slcE b o len c l h hc=>exact⟨l,h,rfl,hc⟩
theorem VR.aggInv1{ρ:Place} {v:AV} {x:Value} (h:VR ρ (.agg [v]) x):∃y,x=.agg #[y]/\VR ρ v y:=by
 cases h with
 |agg cs vs hl hv=>
  have h0:0 < vs.size:=by rw[hl];simp
  refine⟨vs[0],?_,hv 0 (by simp) h0⟩;congr 1;apply Array.ext
  ·rw[hl];rfl
  ·intro i h1 h2;have:i=0:=(by simp at h2;omega);subst this;rfl
theorem CallAt.rest{C:Ctx} {f:FuncId} {args:List AV} {n sz:Nat} {cs:List AV} (h:CallAt C f args zH (.agg [.slc 0 0 n (.ex n)]) ⟨1,[[(0,.cells cs)]]⟩) (hc:cs.length=n * sz) (hp:qa6 cs=true) (hn:n<=9223372036854775807) :
  CallAt C f args zH (.agg [.slc 0 0 n (.rest sz)]) ⟨1,[[(0,.cells cs)]]⟩:=by
 intro ρ w xs sm hx;have key:∀{x:Value} {ρ':Place} {w':World},VR ρ' (.agg [.slc 0 0 n (.ex n)]) x->Sim ρ' ⟨1,[[(0,.cells cs)]]⟩ w'->Step ρ zH w ρ' ⟨1,[[(0,.cells cs)]]⟩ w'->∃ρ'',VR ρ'' (.agg [.slc 0 0 n (.rest sz)]) x/\Sim ρ'' ⟨1,[[(0,.cells cs)]]⟩ w'/\Step ρ zH w ρ'' ⟨1,[[(0,.cells cs)]]⟩ w':=fun {x ρ' w'} h1 h2 h3=>by
  obtain⟨y,rfl,hy⟩:=h1.aggInv1;obtain⟨l,hl,rfl,_⟩:=hy.slcInv;obtain⟨l',hl',g2,g3,g4⟩:=h2.live (0,.cells cs) (by simp[Heap.ents]);rw[hl]at hl';cases hl';obtain⟨r1,r2,r3⟩:=g4;obtain⟨ρ'',e⟩ : ∃ρ'':Place,ρ''=ρ'.upd 0 ⟨l.cb,l.off,l.off+cs.length⟩:=⟨_,rfl⟩;have u0:ρ'' 0=some ⟨l.cb,l.off,l.off+cs.length⟩:=by rw[e];exact Place.upd_same
  have uo:∀b,b≠0->ρ'' b=ρ' b:=fun b hb=>by rw[e];exact Place.upd_other hb
  have eB:ρ''.B=ρ'.B:=by rw[e];rfl
  have eW:ρ''.W=ρ'.W:=by rw[e];rfl
  have ebare:ρ''.bare=ρ'.bare:=by rw[e];rfl
  have hd:∀b,ρ b=none:=fun b=>sm.dom b (jx _);have only:∀e,e∈(⟨1,[[(0,.cells cs)]]⟩ : Heap).ents->e=(0,.cells cs):=fun e he=>by simpa[Heap.ents]using he
  refine⟨ρ'',?_,⟨?_,?_,?_,?_,?_,?_,?_,?_,?_⟩,⟨⟨?_,?_,?_,?_,?_⟩,h3.size,?_,?_,h3.num,?_,?_⟩⟩
  ·refine .agg _ _ (by simp) fun i hi hi'=>?_;have:i=0:=(by simp at hi;omega);subst this;exact .slcR 0 0 n sz n ⟨l.cb,l.off,l.off+cs.length⟩ u0 (ja _) ⟨by simp[hc],hn⟩
  ·rw[eB];exact h2.base
  ·rw[eB,eW];exact h2.below
  ·rw[eW];exact h2.os
  ·rw[eW];exact h2.tape
  ·rw[eW];exact h2.output
  ·intro b hb;rw[uo b (by simp at hb;omega)];exact h2.dom b hb
  ·exact h2.nodup
  ·intro e he;rw[only e he];refine⟨_,u0,by rw[eB];exact g2,g3,⟨by simp,fun i hi=>r2 i (by simp at hi;omega),fun i hi=>?_⟩⟩;obtain⟨x,hx1,hx2⟩:=r3 i hi;refine⟨x,hx1,?_⟩;have:=hx2.pure (qff hp i hi);rw[<- ebare]at this;exact this.mono ρ''.bare_le
  ·intro e e' he he' _ _ _ _ _;rw[only e he,only e' he']
  ·intro b l0 hb;rw[hd b]at hb;cases hb
  ·intro k hk;rw[eB,eW];exact h3.le.fz k hk
  ·rw[eW];exact h3.le.os
  ·rw[eW];exact h3.le.tape
  ·rw[eW];exact h3.le.output
  ·exact h3.keeps
  ·intro e he l0 hl0;rw[only e he]at hl0;rw[u0]at hl0;cases hl0;exact h3.rows (0,.cells cs) (by simp[Heap.ents]) l hl
  ·intro b hb;exact absurd hb (j3 b)
  ·intro k hk;rw[eB]at hk;exact h3.cold k hk
 rcases h ρ w xs sm hx with⟨x,ρ',w',h0,h1,h2,h3⟩|⟨g,ys,h0,h1⟩
 ·obtain⟨ρ'',k1,k2,k3⟩:=key h1 h2 h3;exact .inl ⟨x,ρ'',w',h0,k1,k2,k3⟩
 ·refine .inr ⟨g,ys,h0,h1.mono ?_⟩;rintro e w' ⟨x,ρ',rfl,m1,m2,m3⟩;obtain⟨ρ'',k1,k2,k3⟩:=key m1 m2 m3;exact⟨x,ρ'',rfl,k1,k2,k3⟩
def s0:SS:=⟨[⟨0,0,[],[],[],-1,[1]⟩,⟨1,0,[104,116,109,108],[],[],0,[]⟩],[1],[],5,0,0,0,0,false,false,[100,105,118]⟩
structure ED (s:SS) (c:Ch):Prop where
 uc:UC s.tree
 u0:(qa0 s.tree 0).up = -1
 eg:EdgeK (kO s.tree) c
 nd:(flat c).Nodup
 rg:∀x,x∈flat c->0<=x/\x < (s.tree.length:Int)
 op:c.map (·.1)=0::s.opn
theorem ED.of{s s':SS} {c:Ch} (h:ED s c) (e1:s'.tree=s.tree) (e2:s'.opn=s.opn):ED s' c:=
 ⟨by rw[e1];exact h.uc,by rw[e1];exact h.u0,by rw[e1];exact h.eg,h.nd,by rw[e1];exact h.rg,by rw[e2];exact h.op⟩
theorem ED.pre{s:SS} {c:Ch} (h:ED s c) {o:List Int} (ho:o <+: s.opn):∃c',ED { s with opn:=o } c'/\flat c'=flat c:=by
 obtain⟨r,hr⟩:=ho;have hop:=h.op;rw[<- hr,<- List.cons_append]at hop;obtain⟨c1,c2,rfl,h1,h2⟩:=List.map_eq_append_iff.1 hop;have hn:c1≠[]:=fun e=>by rw[e]at h1;simp at h1
 obtain⟨a,x,rfl⟩ : ∃a x,c1=a++[x]:=⟨c1.dropLast,c1.getLast hn,(y8 hn).symm⟩;obtain⟨p,L⟩:=x;have he:=h.eg;rw[List.append_assoc]at he;have e1:=EdgeK.trunc (K:=kO s.tree) (a:=a) (o:=p) (L:=L) (b:=c2) he;have ef:flat (a++[(p,L++flat c2)])=flat (a++[(p,L)]++c2):=by simp
 refine⟨a++[(p,L++flat c2)],⟨h.uc,h.u0,e1,by rw[ef];exact h.nd,by rw[ef];exact h.rg,?_⟩,ef⟩;rw[<- h1];simp
theorem ED.split{s:SS} {c:Ch} (h:ED s c) (hne:s.opn≠[]):∃a L,c=a++[(qdw s.opn,L)]/\a.map (·.1)=0::s.opn.dropLast:=by
 have hop:=h.op;have e:s.opn=s.opn.dropLast++[qdw s.opn]:=by unfold qdw;rw[List.getLast?_eq_some_getLast hne];exact(y8 hne).symm
 rw[e,<- List.cons_append]at hop;obtain⟨c1,c2,rfl,h1,h2⟩:=List.map_eq_append_iff.1 hop;obtain⟨x,hx⟩ : ∃x,c2=[x]:=by have:=jR List.length h2;simp at this;exact List.length_eq_one_iff.1 this
 subst hx;obtain⟨p,L⟩:=x;simp at h2;exact⟨c1,L,by rw[h2],h1⟩
theorem ED.head{s:SS} {c:Ch} (h:ED s c):c.head?.map (·.1)=some 0:=by have:=jR List.head? h.op;simpa using this
theorem new_f{s:SS} {c:Ch} (h:ED s c) (hne:s.opn≠[]) (nd:Nd):0<=qdw s.opn/\qdw s.opn < (s.tree.length:Int)/\UC (qm8 s.tree (qdw s.opn) ((qa0 s.tree (qdw s.opn)).kids.length:Int) nd) /\
  (∀x,kO (qm8 s.tree (qdw s.opn) ((qa0 s.tree (qdw s.opn)).kids.length:Int) nd) x=if x=qdw s.opn then kO s.tree x++[(s.tree.length:Int)] else kO s.tree x) /\
  (∀y:Int,0<=y->y < (s.tree.length:Int)->(qa0 (qm8 s.tree (qdw s.opn) ((qa0 s.tree (qdw s.opn)).kids.length:Int) nd) y).up=(qa0 s.tree y).up):=by
 obtain⟨a,L,rfl,_⟩:=h.split hne;obtain⟨o,ho⟩ : ∃o,o=qdw s.opn:=⟨_,rfl⟩;rw[<- ho]at h ⊢;have hr:=h.rg o (by simp);obtain⟨f1,f2,f3,_,_⟩:=add_f s.tree nd;have ua:=h.uc.add nd;have l:(qed s.tree nd).length=s.tree.length+1:=qg3 nd;have h00:(0:Int) < (s.tree.length:Int):=by omega
 have u0:(qa0 (qed s.tree nd) 0).up = -1:=by rw[f2 0 (by omega) h00];exact h.u0
 have eg:EdgeK (kO (qed s.tree nd)) (a++[(o,L)]):=h.eg.congr fun x _=>f1 x;have hup:=EdgeK.ups ua u0 a h.head eg;have hin:∀x,x∈a.map (·.1)->x < (s.tree.length:Int):=fun x hx=>by obtain⟨z,hz,rfl⟩:=jw.1 hx;refine(h.rg z.1 ?_).2;rw[qf6,je];left;unfold flat;rw[List.mem_flatMap];exact⟨z,hz,by simp⟩
 have ok:qi9 (qed s.tree nd) o (s.tree.length:Int)=true:=qnf (by rw[l];omega) (by rw[l];omega) hup (by omega) (fun hm=>by have:=hin _ (List.mem_reverse.1 hm);omega);have ek:(qa0 s.tree o).kids.length=(qa0 (qed s.tree nd) o).kids.length:=by rw[qoh,jm (by omega)]
 unfold qm8;rw[ek];obtain⟨p1,p2,p3⟩:=zaa ua ok;have nf:∀x,(kO (qed s.tree nd) x).filter (ne_ (s.tree.length:Int))=kO s.tree x:=fun x=>by rw[f1,qgb];intro hm;have:=(h.uc.ku x _ hm).2.1;omega
 refine⟨hr.1,hr.2,ua.put ok,fun x=>?_,fun y h0 h1=>?_⟩
 ·rw[p1,nf]
 ·rw[p2 y h0 (by rw[l];omega),jm (by omega)];exact f2 y h0 h1
theorem ED.new{s:SS} {c:Ch} (h:ED s c) (hne:s.opn≠[]) (nd:Nd):ED { s with tree:=qm8 s.tree (qdw s.opn) ((qa0 s.tree (qdw s.opn)).kids.length:Int) nd,opn:=s.opn++[(s.tree.length:Int)] } (c++[((s.tree.length:Int),[])]):=by
 obtain⟨r0,r1,uc,f1,f2⟩:=new_f h hne nd;have l:(qm8 s.tree (qdw s.opn) ((qa0 s.tree (qdw s.opn)).kids.length:Int) nd).length=s.tree.length+1:=qre _ _ _;obtain⟨a,L,rfl,ea⟩:=h.split hne;obtain⟨o,ho⟩ : ∃o,o=qdw s.opn:=⟨_,rfl⟩;rw[<- ho]at h f1 f2 r0 r1 uc l ⊢;have fr:∀x,x∈flat (a++[(o,L)])->x≠(s.tree.length:Int):=fun x hx=>by have:=h.rg x hx;omega
 have nd2:(flat (a++(o,L)::((s.tree.length:Int),[])::[])).Nodup:=by
  have e:flat (a++(o,L)::((s.tree.length:Int),[])::[])=flat (a++[(o,L)])++[(s.tree.length:Int)]:=by simp
  rw[e,j4];exact⟨h.nd,by simp,fun x hx y hy=>by simp at hy;rw[hy];exact fr x hx⟩
 have g0:EdgeK (kO s.tree) (((s.tree.length:Int),[])::[]):=by show PreF _ (kO s.tree (s.tree.length:Int)) [];rw[qjz (by omega)];exact .nil
 have hj:=EdgeK.join (K':=kO (qm8 s.tree o ((qa0 s.tree o).kids.length:Int) nd)) h.eg g0 nd2 (by rw[f1,jo rfl]) (fun x _ hx=>by rw[f1,jm hx]);refine⟨uc,?_,?_,?_,?_,?_⟩
 ·show (qa0 (qm8 _ _ _ _) 0).up = -1;rw[f2 0 (by omega) (by omega)];exact h.u0
 ·rw[List.append_assoc];exact hj
 ·rw[List.append_assoc];exact nd2
 ·intro x hx;show 0<=x/\x < ((qm8 _ _ _ _).length:Int);rw[l];rw[qf6,je]at hx;rcases hx with hx|hx
  ·have:=h.rg x hx;omega
  ·simp at hx;omega
 ·rw[j5,h.op];simp
theorem ED.newN{s:SS} {c:Ch} (h:ED s c) (hne:s.opn≠[]) (nd:Nd):∃c',ED { s with tree:=qm8 s.tree (qdw s.opn) ((qa0 s.tree (qdw s.opn)).kids.length:Int) nd } c':=by obtain⟨c',h1,_⟩:=(h.new hne nd).pre (o:=s.opn) (List.prefix_append _ _);exact⟨c',h1⟩
theorem qus{s:SS} {c:Ch} (h:ED s c) (hne:s.opn≠[]):whP s.tree (qdw s.opn)=qdw s.opn:=by obtain⟨a,L,rfl,_⟩:=h.split hne;have:=h.rg (qdw s.opn) (by simp);unfold whP;rw[jo (isB_iff.2 this)]
theorem ED.elS{s:SS} {c:Ch} (h:ED s c) (hne:s.opn≠[]) (sp:Int) (nm:Str) (L:List At1):ED (elS s sp nm L) (c++[((s.tree.length:Int),[])]):=by have:=h.new hne ⟨1,sp,nm,L,[],0,[]⟩;refine this.of ?_ rfl;show elT s.tree (qdw s.opn) sp nm L=_;unfold elT;rw[qus h hne]
theorem ED.dat{s:SS} {c:Ch} (h:ED s c) {i:Nat} (hi:i < s.tree.length) (x:Str):ED { s with tree:=qhl s.tree i x } c:=by
 have l:(qhl s.tree i x).length=s.tree.length:=qo4 hi x;have nS:∀j,qa0 (qhl s.tree i x) j=if j.toNat=i then { qa0 s.tree i with data:=x } else qa0 s.tree j:=fun j=>by unfold qhl;exact qq9 hi _ j
 have same:∀j,(qa0 (qhl s.tree i x) j).kids=(qa0 s.tree j).kids/\(qa0 (qhl s.tree i x) j).up=(qa0 s.tree j).up:=fun j=>by
  rw[nS];split
  next e=>have:qa0 s.tree j=qa0 s.tree (i:Int):=(by simp only[qa0,e,jr]);rw[this];exact⟨rfl,rfl⟩
  ·exact⟨rfl,rfl⟩
 have k:∀y,kO (qhl s.tree i x) y=kO s.tree y:=fun y=>by unfold kO isB;rw[l,(same y).1]
 have uc:UC (qhl s.tree i x):=⟨fun y=>by rw[k];exact h.uc.nd y,fun y z hz=>by rw[k]at hz;rw[l,(same z).2];exact h.uc.ku y z hz,fun y h0 h1=>by rw[l]at h1;rw[(same y).2,k];exact h.uc.uk y h0 h1⟩;exact⟨uc,by show (qa0 (qhl _ _ _) 0).up = -1;rw[(same 0).2];exact h.u0,h.eg.congr fun y _=>k y,h.nd,by show ∀y,y∈flat c->0<=y/\y < ((qhl s.tree i x).length:Int);rw[l];exact h.rg,h.op⟩
theorem ED.chars{s:SS} {c:Ch} (h:ED s c) (hne:s.opn≠[]) (x:Str):∃c',ED (chrS s x) c':=by
 unfold chrS chT;rw[qus h hne];split
 ·exact⟨c,h⟩
 split
 ·rename_i k hk;split
  ·obtain⟨a,L,e,_⟩:=h.split hne;have hr:=h.rg (qdw s.opn) (by rw[e];simp);have hm:=List.mem_of_getLast? hk;rw[<- qir hr]at hm;obtain⟨k0,k1,_⟩:=h.uc.ku _ _ hm;exact⟨c,h.dat (by omega) _⟩
  ·exact h.newN hne _
 ·exact h.newN hne _
theorem ED.op18{s:SS} {c:Ch} (h:ED s c) (hne:s.opn≠[]) (o:Opn):∃c',ED (op18 s o) c':=by
 unfold Go.Proofs.YtnfdakclfmchfaaGreat.op18;split
 ·exact⟨_,h.elS hne _ _ _⟩
 split
 ·exact h.chars hne _
 split
 ·have e:ntP s (-1)=qdw s.opn:=by unfold ntP;rw[jm (by simp[isB]),qus h hne]
  rw[e];exact h.newN hne _
 split
 ·obtain⟨c',h1,_⟩:=h.pre (qr8 s.tree s.opn o.name).1;exact⟨c',h1⟩
 split
 ·obtain⟨c',h1,_⟩:=h.pre (zac s.tree s.opn o.name).1;exact⟨c',h1⟩
 split
 ·obtain⟨c',h1,_⟩:=h.pre (pre_to s.tree s.opn o.name).1;exact⟨c',h1⟩
 ·exact⟨c,h⟩
theorem ED.recs:∀(l:List Int) {s:SS} {c:Ch},ED s c->s.opn≠[]->∃c',ED (l.foldl qgg s) c'
 |[],s,c,h,_=>⟨c,h⟩
 |i::l,s,c,h,hne=>by have h1:ED (qgg s i) (c++[((s.tree.length:Int),[])]):=(h.elS hne 0 (qa0 s.tree i).name (qa0 s.tree i).attrs).of rfl rfl;exact ED.recs l h1 (by simp[qgg,Go.Proofs.YtnfdakclfmchfaaGreat.elS])
theorem s0_ed:ED s0 [(0,[]),(1,[])] where
 uc:=by
  have k0:kO s0.tree 0=[1]:=rfl;have kn:∀x,x≠0->kO s0.tree x=[]:=fun x hx=>by
   by_cases h:0<=x/\x < 2
   ·have:x=1:=(by omega);subst this;rfl
   ·exact qjz h
  refine⟨fun x=>?_,fun x y hy=>?_,fun y h0 h1=>?_⟩
  ·by_cases hx:x=0
   ·subst hx;rw[k0];simp
   ·rw[kn x hx];simp
  ·by_cases hx:x=0
   ·subst hx;rw[k0]at hy;simp at hy;subst hy;exact⟨by decide,by decide,by decide⟩
   ·rw[kn x hx]at hy;cases hy
  ·have h1:y < 2:=h1;rcases(by omega:y=0\/y=1)with rfl|rfl
   ·exact .inl (by decide)
   ·exact .inr (by decide)
 u0:=by decide
 eg:=⟨⟨[],rfl,.nil⟩,.nil⟩
 nd:=by decide
 rg:=by decide
 op:=rfl
def qhm(cl:List Int):Ch:=cl.map fun y=>(y,[])
@[simp]theorem qli:∀cl:List Int,flat (qhm cl)=cl
 |[]=>rfl
 |x::r=>by show flat ((x,[])::qhm r)=_;rw[qe5,qli r];rfl
@[simp]theorem qsh:∀cl:List Int,(qhm cl).map (·.1)=cl
 |[]=>rfl
 |x::r=>by show x::(qhm r).map (·.1)=_;rw[qsh r]
def Txt(t:Tr) (l:List Int):Str:=l.flatMap fun y=>if (qa0 t y).kind=2 then (qa0 t y).data else []
theorem qvv(t:Tr) (a b:List Int):Txt t (a++b)=Txt t a++Txt t b:=by simp[Txt]
theorem qpf{t t':Tr} (h:Dat t t'):∀(l:List Int),(∀y,y∈l->0<=y/\y < (t.length:Int))->Txt t' l=Txt t l
 |[],_=>rfl
 |y::l,hl=>by obtain⟨h0,h1⟩:=hl y (by simp);obtain⟨e1,e2⟩:=h.2 y h0 h1;have:=qpf h l fun z hz=>hl z (by simp[hz]);unfold Txt at this ⊢;rw[yF,yF,e1,e2,this]
theorem zcv{t:Tr}:∀(l:List Int),(∀y,y∈l->(qa0 t y).kind=1)->Txt t l=[]
 |[],_=>rfl
 |y::l,hl=>by have e1:=hl y (by simp);have:=zcv l fun z hz=>hl z (by simp[hz]);unfold Txt at this ⊢;rw[yF,e1,this];rfl
theorem qxl{X Y:List Int} {i:Int} (h:(X++i::Y).Nodup):qbm (X++i::Y) i=X++Y:=by
 rw[j4]at h;have h1:i ∉ X:=fun hm=>h.2.2 i hm i (by simp) rfl;have h2:=(jp.1 h.2.1).1;have:qbm (X++i::Y) i=qbm X i++qbm Y i:=by unfold qbm;simp
 rw[this,qlo h1,qlo h2]
theorem swp_mid{X Y:List Int} {i n:Int} (h:(X++i::Y).Nodup):(X++i::Y).map (swp i n)=X++n::Y:=by rw[j4]at h;have h1:i ∉ X:=fun hm=>h.2.2 i hm i (by simp) rfl;have h2:=(jp.1 h.2.1).1;rw[j5,List.map_cons,qnb h1,qnb h2];unfold swp;rw[jo rfl]
structure CM (t0:Tr) (A:Ch) (bk:Int) (Lb:List Int) (post:Ch) (O1:List Int) (el:Int) (O2 M cl:List Int) (x:CS):Prop where
 uc:UC x.s.tree
 u0:(qa0 x.s.tree 0).up = -1
 la:(cl++[bk]).head? = some x.last
 l0:0 < x.last/\x.last < (x.s.tree.length:Int)
 ea:EdgeK (kO (qec x.s.tree x.last)) A
 eb:EdgeK (kO (qec x.s.tree x.last)) (qhm cl++(bk,Lb)::post)
 nd:(flat A++(cl++bk::(Lb++flat post))).Nodup
 rg:∀y,y∈flat A++(cl++bk::(Lb++flat post))->0<=y/\y < (x.s.tree.length:Int)
 op:x.s.opn=O1++el::(M++(cl++bk::O2))
 on:x.s.opn.Nodup
 or_:∀y,y∈x.s.opn->y < (x.s.tree.length:Int)
 da:Dat t0 x.s.tree
 kc:∀y,y∈cl->(qa0 x.s.tree y).kind=1
section
variable {t0:Tr} {A:Ch} {bk:Int} {Lb:List Int} {post:Ch} {O1:List Int} {el:Int} {O2 M cl:List Int} {x:CS}
theorem clU_tree(k:Nat) (i:Int) (s:SS):(clU k i s).tree=s.tree/\(clU k i s).opn=s.opn:=by unfold clU;split<;>exact⟨rfl,rfl⟩
theorem CM.D{i:Int} (h:CM t0 A bk Lb post O1 el O2 (M++[i]) cl x) (k:Nat):CM t0 A bk Lb post O1 el O2 M cl (clD k i x):=by
 have et:(clD k i x).s.tree=x.s.tree:=(clU_tree k i x.s).1;have el':(clD k i x).last=x.last:=rfl;have hop:x.s.opn=(O1++el::M)++i::(cl++bk::O2):=by rw[h.op];simp
 have hon:=h.on;rw[hop]at hon;have eo:(clD k i x).s.opn=(O1++el::M)++(cl++bk::O2):=by show qbm x.s.opn i=_;rw[hop,qxl hon]
 refine⟨by rw[et];exact h.uc,by rw[et];exact h.u0,by rw[el'];exact h.la,by rw[et,el'];exact h.l0,by rw[et,el'];exact h.ea,by rw[et,el'];exact h.eb,h.nd,by rw[et];exact h.rg,by rw[eo];simp,?_,?_,by rw[et];exact h.da,by rw[et];exact h.kc⟩
 ·rw[eo];exact List.Nodup.sublist (List.Sublist.append (ym _) (yA _ _)) hon
 ·rw[eo,et];intro y hy;refine h.or_ y ?_;rw[hop];rcases je.1 hy with hy|hy
  ·exact j9 _ hy
  ·exact jV _ (ji _ hy)
theorem CM.R{i:Int} (h:CM t0 A bk Lb post O1 el O2 (M++[i]) cl x):CM t0 A bk Lb post O1 el O2 M ((x.s.tree.length:Int)::cl) (clR bk i x):=by
 obtain⟨l0,l1⟩:=h.l0;obtain⟨f1,f2,f3,f4,f5⟩:=add_f x.s.tree (qe0 x.s.tree i);have ua:=h.uc.add (qe0 x.s.tree i);have l:(qed x.s.tree (qe0 x.s.tree i)).length=x.s.tree.length+1:=qg3 _;have ok:qi9 (qed x.s.tree (qe0 x.s.tree i)) (x.s.tree.length:Int) x.last=true:=qnf (l:=[]) (by rw[l];omega) (by rw[l];omega) f3 (by omega) (by simp);obtain⟨p1,p2,p3⟩:=zaa ua ok;have uc':=ua.put ok;have et:(clR bk i x).s.tree=qgh (qed x.s.tree (qe0 x.s.tree i)) (x.s.tree.length:Int) ((qa0 (qed x.s.tree (qe0 x.s.tree i)) (x.s.tree.length:Int)).kids.length:Int) x.last:=rfl;obtain⟨t',ht'⟩ : ∃t',t'=qgh (qed x.s.tree (qe0 x.s.tree i)) (x.s.tree.length:Int) ((qa0 (qed x.s.tree (qe0 x.s.tree i)) (x.s.tree.length:Int)).kids.length:Int) x.last:=⟨_,rfl⟩;rw[<- ht']at p1 p2 p3 uc' et;have lt':t'.length=x.s.tree.length+1:=by rw[ht',qhs,l]
 have eL:(clR bk i x).last=(x.s.tree.length:Int):=rfl;obtain⟨c1,c2,c3⟩:=qys h.uc l0 l1;have k':∀y,kO t' y=if y=(x.s.tree.length:Int) then [x.last] else kO (qec x.s.tree x.last) y:=fun y=>by
  rw[p1,f1,c1];split
  next e=>rw[e,qjz (by omega)];rfl
  ·rfl
 have un:(qa0 t' (x.s.tree.length:Int)).up = -1:=by rw[p2 _ (by omega) (by rw[l];omega),jm (by omega)];exact f3
 have kc':∀y,kO (qec t' (x.s.tree.length:Int)) y=if y=(x.s.tree.length:Int) then [x.last] else kO (qec x.s.tree x.last) y:=fun y=>by obtain⟨d1,_,_⟩:=qys uc' (k:=(x.s.tree.length:Int)) (by omega) (by rw[lt'];omega);rw[d1,qgb,k'];intro hm;have a1:=(uc'.ku y _ hm).2.2;have a2:=zb4 hm;omega
 have hfr:∀y,y∈flat A++(cl++bk::(Lb++flat post))->y≠(x.s.tree.length:Int):=fun y hy=>by have:=h.rg y hy;omega
 have hop:x.s.opn=(O1++el::M)++i::(cl++bk::O2):=by rw[h.op];simp
 have hon:=h.on;rw[hop]at hon;have eo:(clR bk i x).s.opn=(O1++el::M)++(x.s.tree.length:Int)::(cl++bk::O2):=by show x.s.opn.map (swp i (x.s.tree.length:Int))=_;rw[hop,swp_mid hon]
 have hfo:∀y,y∈x.s.opn->y≠(x.s.tree.length:Int):=fun y hy=>by have:=h.or_ y hy;omega
 obtain⟨Mx,bx,ex⟩ : ∃Mx bx,qhm cl++(bk,Lb)::post=(x.last,Mx)::bx:=by
  have:=h.la;cases cl with
  |nil=>simp at this;exact⟨Lb,post,by rw[<- this];rfl⟩
  |cons y r=>simp at this;exact⟨[],qhm r++(bk,Lb)::post,by rw[<- this];rfl⟩
 have efl:flat (qhm cl++(bk,Lb)::post)=cl++bk::(Lb++flat post):=by rw[qf6,qli,qe5]
 have nd2:=h.nd;rw[j4]at nd2;have hfb:∀y,y∈cl++bk::(Lb++flat post)->y≠(x.s.tree.length:Int):=fun y hy=>hfr y (jV _ hy);refine⟨by rw[et];exact uc',?_,by rw[eL];rfl,by rw[eL,et,lt'];omega,?_,?_,?_,?_,by rw[eo];simp,?_,?_,by rw[et];exact h.da.trans (f5.trans p3),?_⟩
 ·rw[et,p2 0 (by omega) (by rw[l];omega),jm (by omega),f2 0 (by omega) (by omega)];exact h.u0
 ·rw[et,eL];exact h.ea.congr fun y hy=>by rw[kc',jm (hfr y (j9 _ hy))]
 ·rw[et,eL];show EdgeK _ (((x.s.tree.length:Int),[])::(qhm cl++(bk,Lb)::post));have g0:EdgeK (kO (qec x.s.tree x.last)) ([]++[((x.s.tree.length:Int),[])]):=by show PreF _ (kO (qec x.s.tree x.last) (x.s.tree.length:Int)) [];rw[qjz (by rw[qf7];omega)];exact .nil
  have eb:=h.eb;rw[ex]at eb ⊢;have hj:=EdgeK.join (K':=kO (qec t' (x.s.tree.length:Int))) g0 eb (by
   rw[jv,qe5,<- ex,efl,jv,jp];exact⟨fun hm=>hfb _ hm rfl,nd2.2.1⟩) (by
   rw[kc',jo rfl,qjz (by rw[qf7];omega)];rfl) (fun y _ hy=>by rw[kc',jm hy])
  exact hj
 ·rw[j4];refine⟨nd2.1,?_,fun a ha b hb=>?_⟩
  ·rw[List.cons_append,jp];exact⟨fun hm=>hfb _ hm rfl,nd2.2.1⟩
  ·rw[List.cons_append]at hb;rcases jd.1 hb with rfl|hb
   ·exact hfr a (j9 _ ha)
   ·exact nd2.2.2 a ha b hb
 ·rw[et,lt'];intro y hy;rw[List.cons_append,je,jd]at hy;have key:y∈flat A++(cl++bk::(Lb++flat post))\/y=(x.s.tree.length:Int):=by
   rcases hy with hy|rfl|hy
   ·exact .inl (j9 _ hy)
   ·exact .inr rfl
   ·exact .inl (jV _ hy)
  rcases key with hy|rfl
  ·have:=h.rg y hy;omega
  ·omega
 ·rw[eo,j4];rw[j4]at hon;have hin:∀y,y∈(O1++el::M)++i::(cl++bk::O2)->y≠(x.s.tree.length:Int):=fun y hy=>hfo y (by rw[hop];exact hy);refine⟨hon.1,?_,fun a ha b hb=>?_⟩
  ·rw[jp];exact⟨fun hm=>hin _ (jV _ (ji _ hm)) rfl,(jp.1 hon.2.1).2⟩
  ·rcases jd.1 hb with rfl|hb
   ·exact hin a (j9 _ ha)
   ·exact hon.2.2 a ha b (ji _ hb)
 ·rw[eo,et,lt'];intro y hy;have key:y∈x.s.opn\/y=(x.s.tree.length:Int):=by
   rw[hop];rcases je.1 hy with hy|hy
   ·exact .inl (j9 _ hy)
   ·rcases jd.1 hy with rfl|hy
    ·exact .inr rfl
    ·exact .inl (jV _ (ji _ hy))
  rcases key with hy|rfl
  ·have:=h.or_ y hy;omega
  ·omega
 ·rw[et];intro y hy;rcases jd.1 hy with rfl|hy
  ·rw[(p3.2 _ (by omega) (by rw[l];omega)).1,f4];rfl
  ·have hr:=h.rg y (jV _ (j9 _ hy));rw[(p3.2 y hr.1 (by rw[l];omega)).1,(f5.2 y hr.1 hr.2).1];exact h.kc y hy
theorem CM.climb:∀(m:Nat) (M cl:List Int) (x:CS) (k:Nat),M.length=m->CM t0 A bk Lb post O1 el O2 M cl x->∃cl',CM t0 A bk Lb post O1 el O2 [] cl' (qfi el bk (O1.length+1+m) k x)
 |0,M,cl,x,k,hm,h=>by
  have:M=[]:=jO.1 hm;subst this;refine⟨cl,?_⟩;unfold qfi;have:x.s.opn.getD O1.length 0=el:=by rw[h.op];simp[List.getD_eq_getElem?_getD]
  rw[jo this];exact h
 |m+1,M,cl,x,k,hm,h=>by
  obtain⟨M',i,rfl⟩ : ∃M' i,M=M'++[i]:=⟨M.dropLast,M.getLast (fun e=>by rw[e]at hm;simp at hm),(y8 _).symm⟩;have hm':M'.length=m:=by simp at hm;exact hm
  have hop:x.s.opn=(O1++el::M')++i::(cl++bk::O2):=by rw[h.op];simp
  have hg:x.s.opn.getD (O1.length+1+m) 0=i:=by rw[hop,List.getD_eq_getElem?_getD,List.getElem?_append_right (by simp;omega)];have:O1.length+1+m - (O1++el::M').length=0:=(by simp;omega);rw[this];rfl
  have hne:¬ i=el:=fun e=>by have hon:=h.on;rw[hop,j4]at hon;exact hon.2.2 el (by simp) i (by simp) e.symm
  rw[show O1.length+1+(m+1)=(O1.length+1+m)+1 by omega];unfold qfi;rw[hg,jm hne];unfold qd8;split
  ·exact CM.climb m M' cl _ _ hm' (h.D k)
  ·exact CM.climb m M' _ _ _ hm' h.R
end
theorem insP_mid{X Y:List Int} {i n:Int} (h:(X++i::Y).Nodup):qgx (X++i::Y) (qhe (X++i::Y) i+1) n=X++i::n::Y:=by
 have hp:X.length < (X++i::Y).length:=by simp
 have hg:(X++i::Y)[X.length]=i:=by simp
 have hi:=zbm h hp;rw[hg]at hi;unfold qgx qdb;rw[hi,show (min (max ((X.length:Int)+1) 0) (((X++i::Y).length:Nat):Int)).toNat=(X++[i]).length by simp;omega];rw[show X++i::Y=(X++[i])++Y by simp,List.take_left,yX];simp
theorem CM.rd{t0:Tr} {a1 mids post:Ch} {out el bk:Int} {Lo Le Lb O0 O2 cl:List Int} {x:CS} (h:CM t0 (a1++(out,Lo)::(el,Le)::mids) bk Lb post (O0++[out]) el O2 [] cl x) (h1:a1.map (·.1)++[out]=0::(O0++[out])) (h2:post.map (·.1)=O2) :
  ED (rdS x out el bk) (a1++(out,Lo++flat ((el,Le)::mids))::(qhm cl++(bk,[])::((x.s.tree.length:Int),Lb)::post))/\Dat t0 (rdS x out el bk).tree/\(∀y,y∈cl->(qa0 (rdS x out el bk).tree y).kind=1)/\(qa0 (rdS x out el bk).tree (x.s.tree.length:Int)).kind=1:=by
 obtain⟨l0,l1⟩:=h.l0;obtain⟨Lo',hLo⟩ : ∃Lo',Lo'=Lo++flat ((el,Le)::mids):=⟨_,rfl⟩;rw[<- hLo];have nd:=h.nd;have rg:=h.rg;have efA:flat (a1++(out,Lo)::(el,Le)::mids)=flat (a1++[(out,Lo')]):=by rw[hLo];simp
 rw[efA]at nd rg;obtain⟨c1,c2,c3⟩:=qys h.uc l0 l1;have uc1:=h.uc.cut l0 l1;have ea:EdgeK (kO (qec x.s.tree x.last)) (a1++[(out,Lo')]):=by rw[hLo];exact EdgeK.trunc h.ea
 have eb:=h.eb;have e1:qfa x=qec x.s.tree x.last:=rfl;have len1:(qfa x).length=x.s.tree.length:=qf7 _ _;have u01:(qa0 (qfa x) 0).up = -1:=by rw[e1,c2 0 (by omega) (by omega),jm (by omega)];exact h.u0
 have ul1:(qa0 (qfa x) x.last).up = -1:=by rw[e1,c2 x.last (by omega) l1,jo rfl]
 rw[<- e1]at ea eb uc1 c3;have outA:out∈flat (a1++[(out,Lo')]):=by simp
 have ro:=rg out (j9 _ outA);have hw:whP (qfa x) out=out:=by unfold whP;rw[jo (isB_iff.2 (by rw[len1];exact ro))]
 have lastB:x.last∈cl++bk::(Lb++flat post):=by
  have:=h.la;cases cl with
  |nil=>simp at this;simp[this]
  |cons y r=>simp at this;simp[this]
 have nd2:=nd;rw[j4]at nd2;have hd0:(a1++[(out,Lo')]).head?.map (·.1)=some 0:=by
  have:=jR List.head? h1;cases a1 with
  |nil=>simpa using this
  |cons y r=>simpa using this
 have firsts:∀(a:Ch) y,y∈a.map (·.1)->y∈flat a:=fun a y hy=>by obtain⟨z,hz,rfl⟩:=jw.1 hy;unfold flat;rw[List.mem_flatMap];exact⟨z,hz,by simp⟩
 have inA:∀y,y∈a1.map (·.1)->y∈flat (a1++[(out,Lo')]):=fun y hy=>by rw[qf6,je];exact .inl (firsts a1 y hy)
 have ok2:qi9 (qfa x) out x.last=true:=qnf (by rw[len1];exact ro) (by rw[len1];omega) (EdgeK.ups uc1 u01 a1 hd0 ea) (fun e=>nd2.2.2 out outA x.last lastB e.symm) (fun hm=>nd2.2.2 x.last (inA _ (List.mem_reverse.1 hm)) x.last lastB rfl);obtain⟨p1,p2,p3⟩:=zaa uc1 ok2;have uc2:=uc1.put ok2;have e2:qfu x out=qgh (qfa x) out ((qa0 (qfa x) out).kids.length:Int) x.last:=by unfold qfu;rw[hw]
 rw[<- e2]at p1 p2 p3 uc2;have len2:(qfu x out).length=x.s.tree.length:=by rw[e2,qhs,len1]
 have nl:∀y,(kO (qfa x) y).filter (ne_ x.last)=kO (qfa x) y:=fun y=>qgb fun hm=>by have a1:=(uc1.ku y _ hm).2.2;have a2:=zb4 hm;omega
 have k2:∀y,kO (qfu x out) y=if y=out then kO (qfa x) y++[x.last] else kO (qfa x) y:=fun y=>by rw[p1,nl]
 have u02:(qa0 (qfu x out) 0).up = -1:=by rw[p2 0 (by omega) (by rw[len1];omega),jm (by omega)];exact u01
 obtain⟨Mx,bx,ex⟩ : ∃Mx bx,qhm cl++(bk,Lb)::post=(x.last,Mx)::bx:=by
  have:=h.la;cases cl with
  |nil=>simp at this;exact⟨Lb,post,by rw[<- this];rfl⟩
  |cons y r=>simp at this;exact⟨[],qhm r++(bk,Lb)::post,by rw[<- this];rfl⟩
 have efB:flat (qhm cl++(bk,Lb)::post)=cl++bk::(Lb++flat post):=by rw[qf6,qli,qe5]
 have efC:flat (a1++(out,Lo')::(qhm cl++(bk,Lb)::post))=flat (a1++[(out,Lo')])++(cl++bk::(Lb++flat post)):=by rw[qf6,qe5,efB,qf6,qe5,qxc];simp
 have g2:EdgeK (kO (qfu x out)) (a1++(out,Lo')::(qhm cl++(bk,Lb)::post)):=by rw[ex]at eb ⊢;exact EdgeK.join ea eb (by rw[<- ex,efC];exact nd) (by rw[k2,jo rfl]) (fun y _ hy=>by rw[k2,jm hy])
 obtain⟨f1,f2,f3,f4,f5⟩:=add_f (qfu x out) (qe0 (qfu x out) el);have uc3:=uc2.add (qe0 (qfu x out) el);have e3:qku x out el=qed (qfu x out) (qe0 (qfu x out) el):=rfl;rw[<- e3]at f1 f2 f3 f4 f5 uc3;have len3:(qku x out el).length=x.s.tree.length+1:=by rw[e3,qg3,len2]
 rw[len2]at f3 f4 f2;obtain⟨N,hN⟩ : ∃N:Int,N=(x.s.tree.length:Int):=⟨_,rfl⟩;rw[<- hN]at f3 f4 ⊢;have g3:EdgeK (kO (qku x out el)) ((a1++(out,Lo')::qhm cl)++(bk,Lb)::post):=by have:=g2.congr (K':=kO (qku x out el)) fun y _=>f1 y;simpa using this
 have hbk:bk∈cl++bk::(Lb++flat post):=by simp
 have rb:=rg bk (jV _ hbk);have allN:∀y,y∈flat (a1++[(out,Lo')])++(cl++bk::(Lb++flat post))->y≠N:=fun y hy=>by have:=rg y hy;omega
 have bN:bk≠N:=allN bk (jV _ hbk);have k3N:kO (qku x out el) N=[]:=by rw[f1,qjz (by rw[len2];omega)]
 have u03:(qa0 (qku x out el) 0).up = -1:=by rw[f2 0 (by omega) (by omega)];exact u02
 have ok4:qjy (qku x out el) bk N=true:=movOK_of (l:=[]) (by rw[len3];omega) (by rw[len3];omega) f3 bN (by simp);obtain⟨m1,m2,m3⟩:=mov_f uc3 ok4 k3N bN;have uc4:=uc3.mov ok4 k3N bN;have e4:qkg x out el bk=qjx (qku x out el) bk N:=by unfold qkg;rw[len2,<- hN]
 rw[<- e4]at m1 m2 m3 uc4;have len4:(qkg x out el bk).length=x.s.tree.length+1:=by rw[e4,qrh,len3]
 have efD:flat ((a1++(out,Lo')::qhm cl)++(bk,Lb)::post)=flat (a1++[(out,Lo')])++(cl++bk::(Lb++flat post)):=by rw[<- efC];simp
 have g4:=EdgeK.mov (K':=kO (qkg x out el bk)) (n:=N) g3 (by rw[efD];exact nd) (by rw[m1,jo rfl]) (by rw[m1,jm (fun e=>bN e.symm),jo rfl]) (fun y hy hb=>by rw[efD]at hy;rw[m1,jm hb,jm (allN y hy)]);have nup:∀y,(qa0 (qku x out el) y).up = -1->y ∉ kO (qku x out el) bk:=fun y hy hm=>by have:=(uc3.ku bk y hm).2.2;omega
 have u04:(qa0 (qkg x out el bk) 0).up = -1:=by rw[m2 0 (by omega) (by rw[len3];omega),jm (nup 0 u03)];exact u03
 have uN4:(qa0 (qkg x out el bk) N).up = -1:=by rw[m2 N (by omega) (by rw[len3];omega),jm (nup N f3)];exact f3
 have hd4:((a1++(out,Lo')::qhm cl)++[(bk,([]:List Int))]).head?.map (·.1)=some 0:=by
  cases a1 with
  |nil=>simpa using hd0
  |cons y r=>simpa using hd0
 have ups4:=EdgeK.ups uc4 u04 _ hd4 g4.1;have ok5:qi9 (qkg x out el bk) bk N=true:=qnf (by rw[len4];omega) (by rw[len4];omega) ups4 (fun e=>bN e.symm) (fun hm=>by
  have hm:=List.mem_reverse.1 hm;rw[j5,List.map_cons,qsh]at hm;refine allN N ?_ rfl;rw[je];rcases je.1 hm with hm|hm
  ·exact .inl (inA N hm)
  ·rcases jd.1 hm with e|hm
   ·left;rw[e];exact outA
   ·exact .inr (j9 _ hm))
 obtain⟨q1,q2,q3⟩:=zaa uc4 ok5;have uc5:=uc4.put ok5;have e5:qmt x out el bk=qgh (qkg x out el bk) bk ((qa0 (qkg x out el bk) bk).kids.length:Int) N:=by unfold qmt;rw[len2,<- hN]
 rw[<- e5]at q1 q2 q3 uc5;have len5:(qmt x out el bk).length=x.s.tree.length+1:=by rw[e5,qhs,len4]
 have nN:∀y,(kO (qkg x out el bk) y).filter (ne_ N)=kO (qkg x out el bk) y:=fun y=>qgb fun hm=>by have a1:=(uc4.ku y _ hm).2.2;have a2:=zb4 hm;omega
 have k5:∀y,kO (qmt x out el bk) y=if y=bk then kO (qkg x out el bk) y++[N] else kO (qkg x out el bk) y:=fun y=>by rw[q1,nN]
 have efE:flat (a1++(out,Lo')::(qhm cl++(bk,[])::(N,Lb)::post))=flat (a1++[(out,Lo')])++(cl++bk::N::(Lb++flat post)):=by simp only[qf6,qe5,qli,qxc,List.append_assoc,List.cons_append,jv,jh]
 have hperm:(flat (a1++[(out,Lo')])++(cl++bk::N::(Lb++flat post))).Perm (N::(flat (a1++[(out,Lo')])++(cl++bk::(Lb++flat post)))):=by
  have e:∀(P Q R:List Int),P++(Q++bk::N::R)=(P++(Q++[bk]))++N::R:=fun P Q R=>by simp
  rw[e];exact yO.trans (List.Perm.of_eq (by simp))
 have nd5:(flat (a1++(out,Lo')::(qhm cl++(bk,[])::(N,Lb)::post))).Nodup:=by rw[efE,hperm.nodup_iff,jp];exact⟨fun hm=>allN N hm rfl,nd⟩
 have g5:EdgeK (kO (qmt x out el bk)) ((a1++(out,Lo')::qhm cl)++(bk,[])::(N,Lb)::post):=
  EdgeK.join g4.1 g4.2 (by simpa using nd5) (by rw[k5,jo rfl]) (fun y _ hy=>by rw[k5,jm hy])
 have hop:x.s.opn=(O0++[out])++el::(cl++bk::O2):=by rw[h.op];simp
 have hon:=h.on;rw[hop]at hon;have on2:((O0++[out]++cl)++bk::O2).Nodup:=by have:((O0++[out])++(cl++bk::O2)).Nodup:=List.Nodup.sublist (List.Sublist.append (ym _) (yA _ _)) hon;simpa using this
 have eo:(rdS x out el bk).opn=(O0++[out])++(cl++bk::N::O2):=by
  show qgx (qbm x.s.opn el) (qhe (qbm x.s.opn el) bk+1) ((qfu x out).length:Int)=_;rw[hop,qxl hon,len2,<- hN];have:=insP_mid (n:=N) on2;have e:O0++[out]++(cl++bk::O2)=(O0++[out]++cl)++bk::O2:=by simp
  rw[e,this];simp
 have ea5:(rdS x out el bk).tree=qmt x out el bk:=rfl;refine⟨⟨by rw[ea5];exact uc5,?_,by rw[ea5];simpa using g5,nd5,?_,?_⟩,?_,?_,?_⟩
 ·rw[ea5,q2 0 (by omega) (by rw[len4];omega),jm (by omega)];exact u04
 ·rw[ea5,len5];intro y hy;rw[efE]at hy;have hy:=hperm.mem_iff.1 hy;rcases jd.1 hy with rfl|hy
  ·omega
  ·have:=rg y hy;omega
 ·rw[eo];simp only[j5,List.map_cons,qsh,h2];have:=jR (· ++ (cl++bk::N::O2)) h1;simpa using this
 ·rw[ea5];exact h.da.trans (c3.trans (p3.trans (f5.trans (m3.trans q3))))
 ·rw[ea5];intro y hy;have ry:=rg y (jV _ (j9 _ hy));have d:=c3.trans (p3.trans (f5.trans (m3.trans q3)));rw[(d.2 y ry.1 ry.2).1];exact h.kc y hy
 ·rw[ea5];have d:=m3.trans q3;rw[(d.2 N (by omega) (by rw[len3];omega)).1,f4];rfl
theorem Txt_one{t:Tr} {y:Int} (h:(qa0 t y).kind=1):Txt t [y]=[]:=zcv [y] fun z hz=>by simp at hz;rw[hz];exact h
theorem zap{L:List Int} {p f:Nat} (h1:1<=p) (h2:p < f) (h3:f < L.length):L=L.take (p - 1)++L[p - 1]'(by omega)::L[p]'(by omega)::((L.drop (p+1)).take (f - (p+1))++L[f]::L.drop (f+1)):=by
 have e1:L.drop (p - 1)=L[p - 1]'(by omega)::L.drop p:=by have:=List.drop_eq_getElem_cons (l:=L) (i:=p - 1) (by omega);rw[this,show p - 1+1=p by omega]
 have e2:L.drop p=L[p]'(by omega)::L.drop (p+1):=List.drop_eq_getElem_cons (by omega);have e3:L.drop f=L[f]::L.drop (f+1):=List.drop_eq_getElem_cons h3;have e4:L.drop (p+1)=(L.drop (p+1)).take (f - (p+1))++L.drop f:=by have:=(List.take_append_drop (f - (p+1)) (L.drop (p+1))).symm;rw[List.drop_drop,show p+1+(f - (p+1))=f by omega]at this;exact this
 conv=>lhs;rw[<- List.take_append_drop (p - 1) L,e1,e2,e4,e3]
theorem ED.rn{n d a cc e:Nat} {s:SS} {c:Ch} {el:Int} {p:Nat} (h:ED s c) (hr:RdOk n d a cc e s el p) (he:e<=900):∃c',ED (rnS s el p) c'/\Txt (rnS s el p).tree (flat c')=Txt s.tree (flat c)/\(flat c).length<=(flat c').length:=by
 unfold rnS;split
 ·obtain⟨c',h1,h2⟩:=h.pre (o:=s.opn.take p) (List.take_prefix _ _);exact⟨c',h1.of rfl rfl,by rw[h2],by rw[h2];exact ja _⟩
 rename_i hb;obtain⟨f,ef,hpf,hfl,hix,_⟩:=hr.cl he hb;have hp1:=hr.p1;have hpl:=hr.pl;have hel:=hr.get;have hbi:=hr.bi;have eb:qjk s p=s.opn[f]:=by unfold qjk;rw[ef,jr,List.getD_eq_getElem?_getD,List.getElem?_eq_getElem hfl];rfl
 have eout:qtg s p=s.opn[p - 1]'(by omega):=by unfold qtg;rw[List.getD_eq_getElem?_getD,List.getElem?_eq_getElem (by omega)];rfl
 have hop:=zap hp1 hpf hfl;rw[hel,<- eb,<- eout]at hop;obtain⟨M,hM⟩ : ∃M,M=(s.opn.drop (p+1)).take (f - (p+1)):=⟨_,rfl⟩;obtain⟨O0,hO0⟩ : ∃O0,O0=s.opn.take (p - 1):=⟨_,rfl⟩;obtain⟨O2,hO2⟩ : ∃O2,O2=s.opn.drop (f+1):=⟨_,rfl⟩;rw[<- hM,<- hO0,<- hO2]at hop;have lM:M.length=f - (p+1):=by rw[hM,jL,yP];omega
 have lO:O0.length=p - 1:=by rw[hO0,jL];omega
 clear hM hO0 hO2;have hbr:=hbi.rg (qjk s p) (by rw[eb];exact jA hfl);have eC:clC s el p=qfi el (qjk s p) ((O0++[qtg s p]).length+1+M.length) 1 ⟨s,atP s.act el,qjk s p⟩:=by have e1:clC s el p=qfi el (qjk s p) (qhe s.opn (qjk s p)).toNat 1 ⟨s,atP s.act el,qjk s p⟩:=rfl;rw[e1,hix,jr];congr 1;simp;omega
 generalize qtg s p=out at *;generalize qjk s p=bk at *;rw[eC];have hc:=h.op;rw[hop]at hc;have hc2:c.map (·.1)=(0::O0)++(out::el::(M++bk::O2)):=by rw[hc];simp
 obtain⟨a1,c1,rfl,ha1,hc1⟩:=List.map_eq_append_iff.1 hc2;obtain⟨⟨o',Lo⟩,c2,rfl,e1,hc1⟩:=List.map_eq_cons_iff.1 hc1;obtain⟨⟨l',Le⟩,c3,rfl,e2,hc1⟩:=List.map_eq_cons_iff.1 hc1;obtain⟨mids,c4,rfl,hmid,hc1⟩:=List.map_eq_append_iff.1 hc1;obtain⟨⟨b',Lb⟩,post,rfl,e3,hpost⟩:=List.map_eq_cons_iff.1 hc1;simp only at e1 e2 e3;subst e1 e2 e3;have efl:flat (a1++(o',Lo)::(l',Le)::(mids++(b',Lb)::post))=flat (a1++(o',Lo)::(l',Le)::mids)++(b'::(Lb++flat post)):=by simp
 have hcm:CM s.tree (a1++(o',Lo)::(l',Le)::mids) b' Lb post (O0++[o']) l' O2 M [] ⟨s,atP s.act l',b'⟩:=by
  have eg:=h.eg;have nd:=h.nd;have rg:=h.rg;have e0:a1++(o',Lo)::(l',Le)::(mids++(b',Lb)::post)=(a1++(o',Lo)::(l',Le)::mids)++(b',Lb)::post:=by simp
  rw[e0]at eg;obtain⟨A0,⟨z,Lz⟩,hA0⟩ : ∃A0 x,a1++(o',Lo)::(l',Le)::mids=A0++[x]:=⟨_,_,(y8 (l:=a1++(o',Lo)::(l',Le)::mids) (by simp)).symm⟩;have eg2:=eg;rw[hA0,List.append_assoc]at eg2;have hz:b'∈kO s.tree z:=by have:=EdgeK.tail eg2;obtain⟨⟨B,e4,_⟩,_⟩:=this;rw[e4];simp
  have hcut:=EdgeK.cut (K':=kO (qec s.tree b')) eg2 (by
   rw[efl,hA0]at nd;simpa using nd) (fun x=>(qys h.uc (by omega) hbr.2).1 x) (fun x hx hm=>hx (by
   have a:=(h.uc.ku x b' hm).2.2;have b:=(h.uc.ku z b' hz).2.2;omega)) (h.uc.nd z)
  rw[<- hA0]at hcut;rw[efl]at nd rg;exact⟨h.uc,h.u0,rfl,⟨by show 0 < b';omega,hbr.2⟩,hcut.1,hcut.2,nd,rg,by show s.opn=_;rw[hop];simp,hbi.nd,fun y hy=>(hbi.rg y hy).2,Dat.refl _,fun y hy=>by cases hy⟩
 obtain⟨cl,hcl⟩:=CM.climb M.length M [] _ 1 rfl hcm;generalize qfi l' b' ((O0++[o']).length+1+M.length) 1 ⟨s,atP s.act l',b'⟩=C at *;obtain⟨r1,r2,r3,r4⟩:=hcl.rd (by rw[ha1];simp) hpost;refine⟨_,r1,?_,?_⟩
 ·have fl':flat (a1++(o',Lo++flat ((l',Le)::mids))::(qhm cl++(b',[])::((C.s.tree.length:Int),Lb)::post))=flat (a1++(o',Lo)::(l',Le)::mids)++(cl++([b']++([(C.s.tree.length:Int)]++(Lb++flat post)))):=by simp
  have fl0:flat (a1++(o',Lo)::(l',Le)::(mids++(b',Lb)::post))=flat (a1++(o',Lo)::(l',Le)::mids)++([b']++(Lb++flat post)):=by rw[efl];rfl
  have rg:=h.rg;rw[fl0]at rg;rw[fl',fl0];simp only[qvv];rw[zcv cl r3,Txt_one r4,qpf r2 _ (fun y hy=>rg y (by simp only[je];exact .inl hy)),qpf r2 [b'] (fun y hy=>rg y (by simp only[je];exact .inr (.inl hy))),qpf r2 Lb (fun y hy=>rg y (by simp only[je];exact .inr (.inr (.inl hy)))),qpf r2 (flat post) (fun y hy=>rg y (by simp only[je];exact .inr (.inr (.inr hy))))];simp
 ·simp;omega
theorem ED.runF{nm:Str}:∀(r:Nat) {n d a cc e:Nat} {s:SS} {c:Ch},e<=900->BI n d a cc e s->ED s c->∃c',ED (runF nm r s).1 c'/\Txt (Go.Proofs.YtnfdakclfmchfaaGreat.runF nm r s).1.tree (flat c')=Txt s.tree (flat c)/\(flat c).length<=(flat c').length
 |0,n,d,a,cc,e,s,c,he,hb,h=>⟨c,h,rfl,ja _⟩
 |r+1,n,d,a,cc,e,s,c,he,hb,h=>by
  unfold Go.Proofs.YtnfdakclfmchfaaGreat.runF;split
  ·exact⟨c,h,rfl,ja _⟩
  split
  ·exact⟨c,h.of rfl rfl,rfl,ja _⟩
  split
  ·exact⟨c,h,rfl,ja _⟩
  have hr:=rd_of hb (nm:=nm) (by assumption) (by assumption);obtain⟨c1,h1,h2,h3⟩:=h.rn hr he;split
  ·obtain⟨c2,g1,g2,g3⟩:=ED.runF r he (BI.rn hr he) h1;exact⟨c2,g1,g2.trans h2,j6 h3 g3⟩
  ·exact⟨c1,h1,h2,h3⟩
theorem ED.run{n d a cc e:Nat} {s:SS} {c:Ch} (h:ED s c) (hb:BI n d a cc e s) (he:e<=900) (nm:Str):∃c',ED (qih nm s).1 c'/\Txt (qih nm s).1.tree (flat c')=Txt s.tree (flat c)/\(flat c).length<=(flat c').length:=by
 unfold qih;split
 ·obtain⟨c',h1,h2⟩:=h.pre (qr8 s.tree s.opn nm).1;exact⟨c',h1,by rw[h2],by rw[h2];exact ja _⟩
 ·exact h.runF 8 he hb
theorem ED.op19{n d a cc e:Nat} {s:SS} {c:Ch} (h:ED s c) (hb:BI n d a cc e s) (he:e<=900) (o:Opn) (k:Int):∃c',ED (op19 s o k) c':=by
 unfold Go.Proofs.YtnfdakclfmchfaaGreat.op19;split
 ·exact⟨_,(h.elS hb.on 0 o.name o.attrs).of rfl rfl⟩
 split
 ·exact⟨c,h.of rfl rfl⟩
 split
 ·obtain⟨c',h1,_⟩:=h.run hb he o.name;exact⟨c',h1⟩
 split
 ·exact ED.recs (qhc s) h hb.on
 ·exact h.op18 hb.on _
set_option maxHeartbeats 2000000
structure Gone (n:Nat) (w w':Wk) (L:List Int):Prop where
 l:w'.l=w.l++L
 ln:w'.inn.length=w.inn.length
 old:∀j:Nat,j < n->(j:Int) ∉ L->(w'.inn.getD j 0 < 0↔w.inn.getD j 0 < 0)
theorem Gone.trans{n:Nat} {w w' w'':Wk} {L M:List Int} (h:Gone n w w' L) (g:Gone n w' w'' M):Gone n w w'' (L++M):=
 ⟨by rw[g.l,h.l,List.append_assoc],by rw[g.ln,h.ln],fun j hj hm=>by rw[je,Jh]at hm;rw[g.old j hj hm.2,h.old j hj hm.1]⟩
theorem set_getD{I:List Int} {i j:Nat} {c:Int} (h:j≠i):(I.set i c).getD j 0=I.getD j 0:=by rw[List.getD_eq_getElem?_getD,List.getD_eq_getElem?_getD,List.getElem?_set_ne (fun e=>h e.symm)]
theorem vis_pre{n:Nat} {ks:Nat->List Int} {K:Int->List Int} (hK:∀i:Nat,i < n->K i=ks i):∀{a L:List Int},PreF K a L->∀(f:Nat) (w:Wk),0<=w.c->w.inn.length=n->L.Nodup->(∀x,x∈L->0<=x/\x < (n:Int)/\w.inn.getD x.toNat 0 < 0)->L.length<=f->Gone n w (kl n (vis n ks f) a w) L/\0<=(kl n (vis n ks f) a w).c:=by
 intro a L h;induction h with
 |nil=>intro f w hc hl nd hx hf;exact⟨⟨by simp[kl],rfl,fun j hj _=>Iff.rfl⟩,hc⟩
 | @cons k r L M h1 h2 ih1 ih2=>
  intro f w hc hl nd hx hf;obtain⟨k0,k1,k2⟩:=hx k (j8 ..);obtain⟨i,rfl⟩ : ∃i:Nat,k=i:=⟨k.toNat,by omega⟩;rw[jr]at k2;have hi:i < n:=by omega
  obtain⟨g,rfl⟩ : ∃g,f=g+1:=⟨f - 1,by simp at hf;omega⟩;rw[jp,je,Jh]at nd;obtain⟨⟨ni1,ni2⟩,nd2⟩:=nd;rw[j4]at nd2;unfold kl;rw[jr,jo ⟨k0,k1,k2⟩];have hlen:(L++M).length<=g:=by simp at hf ⊢;omega
  rw[js]at hlen;have hin:Gone n w (into i w) [(i:Int)]:=⟨rfl,by simp[into],fun j hj hm=>by simp at hm;show (w.inn.set i w.c).getD j 0 < 0↔_;rw[set_getD (by omega)]⟩;have hci:0<=(into i w).c:=by show 0<=w.c+1;omega
  have hli:(into i w).inn.length=n:=by rw[hin.ln,hl]
  have hv:=ih1 g (into i w) hci hli nd2.1 (fun x hxL=>by obtain⟨x0,x1,x2⟩:=hx x (by simp[hxL]);refine⟨x0,x1,?_⟩;rw[hin.old x.toNat (by omega) (by simp;intro e;exact ni1 (by rw[show (i:Int)=x by omega];exact hxL))];exact x2) (by omega);rw[hK i hi]at hv;obtain⟨hv1,hv2⟩:=hv;have ho:Gone n w (vis n ks (g+1) i w) ([(i:Int)]++L):=by have:=hin.trans hv1;exact⟨this.l,this.ln,this.old⟩
  have hcv:0<=(vis n ks (g+1) i w).c:=by show 0<=(kl n (vis n ks g) (ks i) (into i w)).c+1;omega
  have hr:=ih2 (g+1) (vis n ks (g+1) i w) hcv (by rw[ho.ln,hl]) nd2.2.1 (fun x hxM=>by obtain⟨x0,x1,x2⟩:=hx x (by simp[hxM]);refine⟨x0,x1,?_⟩;rw[ho.old x.toNat (by omega) (by rw[show ((x.toNat:Nat):Int)=x by omega];simp only[Ja,jd,Jh];exact⟨fun e=>ni2 (e ▸ hxM),fun e=>nd2.2.2 x e x hxM rfl⟩)];exact x2) (by omega);refine⟨?_,hr.2⟩;have:=ho.trans hr.1;simpa using this
theorem nodup_lt:∀(n:Nat) (L:List Int),L.Nodup->(∀x,x∈L->0<=x/\x < (n:Int))->L.length<=n:=by
 intro n L nd h;have:=qra (M:=(List.range n).map fun(i:Nat)=>(i:Int)) nd fun x hx=>by obtain⟨h0,h1⟩:=h x hx;rw[jw];exact⟨x.toNat,by rw[List.mem_range];omega,by omega⟩
 simpa using this
theorem zak{t:Tr} {L:List Int} (h:PreF (kO t) [0] L) (nd:L.Nodup) (hr:∀x,x∈L->0<=x/\x < (t.length:Int)):qdn t.length (qc3 t)=L:=by
 have hK:∀i:Nat,i < t.length->kO t i=qc3 t i:=fun i hi=>by rw[qir (by omega),<- qld hi,qga hi]
 have h0:(0:Int)∈L:=h.mem 0 (by simp);have hn:=(hr 0 h0).2;have hv:=(vis_pre hK h t.length (w0 t.length) (by simp[w0]) (by simp[w0]) nd (fun x hx=>by obtain⟨x0,x1⟩:=hr x hx;refine⟨x0,x1,?_⟩;simp[w0,List.getD_eq_getElem?_getD];rw[List.getElem?_replicate,jo (by omega)];simp) (nodup_lt _ _ nd hr)).1;have e1:kl t.length (vis t.length (qc3 t) t.length) [0] (w0 t.length)=vis t.length (qc3 t) t.length 0 (w0 t.length):=by unfold kl;rw[jo ⟨by omega,by omega,by simp[w0,List.getD_eq_getElem?_getD];rw[List.getElem?_replicate,jo (by omega)];simp⟩];rfl
 rw[e1]at hv;unfold qdn;rw[jm (by omega),hv.l];simp[w0]
theorem ED.order{s:SS} {c:Ch} (h:ED s c):qdn s.tree.length (qc3 s.tree)=flat c:=by
 cases c with
 |nil=>have:=h.op;simp at this
 |cons x r=>
  obtain⟨o,L⟩:=x;have ho:=h.op;simp at ho;have:=h.eg.pre;rw[ho.1]at this;have e:flat ((0,L)::r)=flat ((o,L)::r):=by rw[ho.1]
  exact zak (by rw[<- e];exact this) h.nd h.rg
def okT4(t:Tr):Prop:=t.length<=10000/\∀x,x∈t->x.kids.length<=10000
theorem c41o(t:Tr) (hpos:0 < t.length) (hn:t.length<=10000) (hkd:∀x,x∈t->x.kids.length<=10000) :
  CA T 41 [qao t] zH (.tup [.slc 0 0 (qdn t.length (qc3 t)).length (.rest 1),.slc 1 0 t.length (.ex t.length),.slc 2 0 t.length (.ex t.length)]) ⟨3,[[(0,.cells (qay (qdn t.length (qc3 t)))),(1,.cells (qay (finW t.length (qc3 t)).inn)),(2,.cells (qay (finW t.length (qc3 t)).out))]]⟩:=by
 refine qa1 (s0:=⟨[0,1,2,3,4,5,6,7,8],[qao t,uD,uD,uD,uD,uD,uD,uD,uD],[],42,⟨0,[[]]⟩⟩) Tryz.func41 rfl rfl rfl ?_;apply qR;simp[zS,qao];repeat apply wq
 refine qc4 mixed qaz (by decide +kernel) fun B_ hB_=>?_;simp[zS,qbc,qar,qlm,qi7,qb4,qbh,qan,qc1,qc9,qd2,allPend,Heap.lay,qap,qbd,qba,qlv,msInt (show t.length<=1000000 by omega)];apply qR;simp[zS];refine qa3 (qb6 (fun x:Nat × List Int × List Int=>(⟨[0,1,2,3,4,5,6,7,8],[qao t,.ptr 0 0,uD,uD,uD,.slc 1 0 t.length (.ex t.length),.slc 2 0 t.length (.ex t.length),.int .i64 x.1,uD],[],42,hA t x.2.1 x.2.2⟩ : St))
  (fun x=>x.1<=t.length/\x.2.1.length=t.length/\x.2.2.length=t.length/\x.2.1.take x.1=List.replicate x.1 (-1)/\x.2.2.take x.1=List.replicate x.1 (-1)) (fun x=>t.length - x.1) [(8,2),(4,1),(0,0)] [] (0,List.replicate t.length 0,List.replicate t.length 0)
  ⟨jx _,by simp,by simp,by simp,by simp⟩
  ⟨rfl,rfl,rfl,by simp[qb8,qas,qaw,qa2,qao,qa6],fit_A (by simp[getF]) (by simp[getF]) (by simp[getF]) (by omega) (by omega) (by omega)⟩ ?_)
 rintro⟨i,I,O⟩ ⟨hi,hI,hO,hti,hto⟩ B hB;simp only at hi hI hO hti hto;apply qR;simp[zS,hA,qf3];refine qbe rfl (fun h=>?_) fun h=>?_
 ·simp at h;apply qa5;simp;repeat apply wq
  apply qa3;have l1:=lay1 (L:=I) (i:=i) (v:=-1) (by omega);have l2:=lay1 (L:=O) (i:=i) (v:=-1) (by omega);apply qR;simp[zS,ixI h,l1,l2];apply qR;simp[zS,qbb (show i<=1000000000 by omega)];refine hB _ (i+1,I.set i (-1),O.set i (-1)) (by simp;omega) ⟨by simp;omega,by simp[hI],by simp[hO],?_,?_⟩ ⟨[(2,2),(1,1),(0,0)],[],rfl,rfl,rfl,by simp[qb8,qas,qaw,qa2,qao,qa6],fit_A (by simp[getF]) (by simp[getF]) (by simp[getF]) (by omega) (by omega) (by omega)⟩
  ·simp only;rw[jj (by simp;omega),List.take_set_of_le (ja _),hti,List.replicate_succ'];simp
  ·simp only;rw[jj (by simp;omega),List.take_set_of_le (ja _),hto,List.replicate_succ'];simp
 ·simp at h;have hin:i=t.length:=by omega
  subst hin;rw[ju (by omega)]at hti hto;subst hti hto;apply qak;simp;apply qR;simp[zS];have hz:¬ t.length=0:=by omega
  have hr:qmv (w0 t.length).inn<=t.length:=by simp[w0,qrg]
  have hw:=c127 (T:=T) t hn hkd t.length 0 (w0 t.length) (w0_ok _) (by omega) (by simp[w0,List.getD_eq_getElem?_getD,Nat.pos_of_ne_zero hz]) hr;obtain⟨m,hm⟩ : ∃m,t.length=m+1:=⟨t.length - 1,by omega⟩;have hny:(vis t.length (qc3 t) t.length 0 (w0 t.length)).l≠[]:=by have:=vis_ne1 (n:=t.length) (ks:=qc3 t) m 0 (w0 t.length);rw[<- hm]at this;exact this
  have hvo:qdn t.length (qc3 t)=(vis t.length (qc3 t) t.length 0 (w0 t.length)).l:=by simp[qdn,hz]
  have hfo:finW t.length (qc3 t)=vis t.length (qc3 t) t.length 0 (w0 t.length):=by simp[finW,hz]
  obtain⟨y1,y2⟩:=qw0 (ks:=qc3 t) t.length 0 0 (w0 t.length) (by omega) (w0_ok _) (by omega) (by simp[w0,List.getD_eq_getElem?_getD,Nat.pos_of_ne_zero hz]) hr;rw[hvo,hfo];obtain⟨y,hy⟩ : ∃y,y=vis t.length (qc3 t) t.length 0 (w0 t.length):=⟨_,rfl⟩;rw[<- hy]at hw hny y1 ⊢;have hcall:=call_all (t:=t) hny hw;simp only[w0]at hcall;apply qR;simp[zS,qf3,hpos];apply qag rfl;refine qb0 (qci [⟨127,_,_,_,_,hcall⟩]) ?_;simp[zS,qdz,hA,qao];apply qR;simp[zS];apply qa7;simp[zQ,Tryz.f41];refine⟨[(3,0),(1,1),(2,2)],[],by simp[qas,qb8,qaw],.rows (by simp) (by simp) (by simp[Heap.ents]) (by simp) (by simp) (by simp) ?_⟩;intro e he;simp[Heap.ents]at he;rcases he with rfl|rfl|rfl
  ·exact⟨3,_,by simp,by simp[zG],rfl,qbq _⟩
  ·exact⟨1,_,by simp,by simp[zG],rfl,qbq _⟩
  ·exact⟨2,_,by simp,by simp[zG],rfl,qbq _⟩
theorem c12o(t:Tr) (hpos:0 < t.length) (ht:okT4 t) (hne:qdn t.length (qc3 t)≠[]):CA T 12 [qao t] zH (qce 0 1 ((qdn t.length (qc3 t)).map qat)) ⟨1,[qcg 0 ((qdn t.length (qc3 t)).map qat)]⟩:=by
 rw[(qib hne).1,(qib hne).2];have h0:=c41o (T:=T) t hpos ht.1 ht.2;generalize (finW t.length (qc3 t)).inn=I at *;generalize (finW t.length (qc3 t)).out=O at *;generalize qdn t.length (qc3 t)=L at *;have h1:=h0.framed (H:=⟨1,[[(0,.cells [qb3 t])]]⟩) (H':=⟨4,[[(1,.cells (qay L)),(2,.cells (qay I)),(3,.cells (qay O)),(0,.cells [qb3 t])]]⟩) (σ:=[]) (args:=[qao t]) (.keep0 rfl) (by simp[qb8,qbo]) (by
  refine⟨by simp,by simp[Heap.ents],?_⟩;intro e he;have hI:qii (qg4 [] 1 0) (qay I)=qay I:=qc2 _ (qbq _);have hO:qii (qg4 [] 1 0) (qay O)=qay O:=qc2 _ (qbq _);have hL:qii (qg4 [] 1 0) (qay L)=qay L:=qc2 _ (qbq _);simp[Heap.ents]at he;rcases he with rfl|rfl|rfl|rfl
  ·exact .inl ⟨(0,.cells (qay L)),by simp[Heap.ents],by simp[qn6,hL];simp[qg4,qdt]⟩
  ·exact .inl ⟨(1,.cells (qay I)),by simp[Heap.ents],by simp[qn6,hI];simp[qg4,qdt]⟩
  ·exact .inl ⟨(2,.cells (qay O)),by simp[Heap.ents],by simp[qn6,hO];simp[qg4,qdt]⟩
  ·exact .inr ⟨by simp[Heap.ents],by simp⟩) (by simp)
 have h2:CA T 41 [qao t] ⟨1,[[(0,.cells [qb3 t])]]⟩ (.tup [.slc 1 0 L.length (.rest 1),.slc 2 0 t.length (.ex t.length),.slc 3 0 t.length (.ex t.length)]) ⟨4,[[(1,.cells (qay L)),(2,.cells (qay I)),(3,.cells (qay O)),(0,.cells [qb3 t])]]⟩:=by simpa[qlu,qii,qg4,qdt]using h1
 clear h0 h1;refine qa1 (s0:=⟨[0,1,2,3],[qao t,uD,uD,uD],[],13,⟨0,[[]]⟩⟩) Tryz.func12 rfl rfl rfl ?_;apply qR;simp[zS,qao];repeat apply wq
 refine qb0 (qci [⟨41,_,_,_,_,h2⟩]) ?_;simp[zS,qdz,qao];apply qR;simp[zS];apply qa7;simp[zQ,Tryz.f12];refine⟨[(1,0)],[],by simp[qas,qaw],.rows (by simp) (by simp) (by simp[Heap.ents]) (by simp) (by simp) (by simp) ?_⟩;intro e he;simp[Heap.ents]at he;subst he;exact⟨1,_,by simp,by simp[zG,qay],rfl,ql6 _⟩
def okT5(t:Tr):Prop:=okT4 t/\0 < t.length/\qdn t.length (qc3 t)≠[]
def e12o:Entry PG:=mkL 12 [[7]] (fun t:Tr=>[qao t]) okT5 (fun t=>qdn t.length (qc3 t)) fun t h=>c12o (T:=[]) t h.2.1 h.1 h.2.2
theorem k12o(hT:qac 12 T=some e12o.g) {t:Tr} (h:okT5 t) {a:AV} {H:Heap} (ha:qco H [7] a=some (qao t)):qb5 (ctx T) (.fn 12) [a] H=some (qa8 (qdn t.length (qc3 t)),H):=
 qj7 hT injT t h (by simp[qbl,ha])
structure okT6 (t:Tr):Prop where
 o:okT5 t
 dl:∀y:Int,0<=y->y < (t.length:Int)->(qa0 t y).data.length<=100000
theorem zcu{t:Tr} (h:okT6 t):∀L:List Int,(∀y,y∈L->0<=y/\y < (t.length:Int))->(Txt t L).length<=100000 * L.length
 |[],_=>by simp[Txt]
 |y::L,hl=>by
  have ih:=zcu h L fun z hz=>hl z (by simp[hz]);obtain⟨y0,y1⟩:=hl y (by simp);have:=h.dl y y0 y1;rw[show y::L=[y]++L from rfl,qvv,js,js];have e:(Txt t [y]).length<=100000:=by
   unfold Txt;rw[yF,List.flatMap_nil,jh];split
   ·exact this
   ·simp
  simp only[yo];omega
theorem c11(hc0:qac 12 T=some e12o.g) (t:Tr) (h:okT6 t):CA T 11 [qao t] zH (.str (Txt t (qdn t.length (qc3 t)))) zH:=by
 have kO:=fun H=>k12o hc0 h.o (qam (H:=H) (ss:=[7]) (v:=qao t) (ok_aTree t));simp only[qao]at kO;have hr:=fun x hx=>zal (n:=t.length) (ks:=qc3 t) (x:=x) hx;have hlen:=zan (n:=t.length) (ks:=qc3 t);have htl:=h.o.1.1;generalize qdn t.length (qc3 t)=L at *;have lL:=fun H=>qgi (H:=H) (L:=L);refine qa1 (s0:=⟨[0,1,2,3,5,7,8,9],[qao t,uD,uD,uD,uD,uD,uD,uD],[],30,⟨0,[[]]⟩⟩) Tryz.func11 rfl rfl rfl ?_;apply qR;simp[zS,qao];apply qR;simp[zS];apply qR;simp[zS,kO,lL];refine qa3 (qb6 (fun j:Nat=>(⟨[0,1,2,3,5,7,8,9],[uD,.ptr 0 0,uD,.str (Txt t (L.take j)),uD,qa8 L,.int .i64 (L.length:Int),.int .i64 (j:Int)],[],30,⟨1,[[(0,.cells [qb3 t])]]⟩⟩ : St)) (fun j=>j<=L.length) (fun j=>L.length - j) [(0,0)] [] 0 (jx _)
  ⟨rfl,rfl,rfl,by simp[qb8,qas,qaw,qa2,qa6,qa8,Txt],FitH.id1 (g:=[(0,.cells [qb3 t])]) (by simp) (by simp) (by simp[zG,qa6])⟩ ?_)
 intro j hj B hB;by_cases hjl:j < L.length
 ·have hc:((j:Int) < (L.length:Int)):=by omega
  have hat:=atI hjl;have hak:=qbb (show j<=1000000000 by omega);obtain⟨i0,i1⟩:=hr L[j] (jA hjl);have htk:Txt t (L.take (j+1))=Txt t (L.take j)++(if (qa0 t L[j]).kind=2 then (qa0 t L[j]).data else []):=by rw[jj hjl,qvv];simp[Txt]
  have hl1:=zcu h (L.take j) (fun y hy=>hr y (yf hy));have hl2:=h.dl L[j] i0 i1;rw[jL]at hl1;have hB:=fun s' hf=>hB s' (j+1) (by omega) (by omega) hf;rw[htk]at hB;have hatx:=atX i0 i1;clear htk hr kO h lL;generalize L[j]=i at *;generalize Txt t (L.take j)=A at *;have hcat:qex PG .add 9 (.str A) (.str (qa0 t i).data)=some (.str (A++(qa0 t i).data)):=by simp[qex,qqx];omega
  have l7:(qa0 t i).cs=[.int .i64 (qa0 t i).kind,.int .i64 (qa0 t i).space,.str (qa0 t i).name,qae (qa0 t i).attrs,.str (qa0 t i).data,.int .i64 (qa0 t i).up,qa8 (qa0 t i).kids]:=rfl;rw[l7]at hatx;clear l7 hl1 hl2;generalize (qa0 t i).kind=n1 at *;generalize (qa0 t i).space=n2 at *;generalize (qa0 t i).name=n3 at *;generalize (qa0 t i).attrs=n4 at *;generalize (qa0 t i).data=n5 at *;generalize (qa0 t i).up=n6 at *;generalize (qa0 t i).kids=n7 at *;by_cases h2:n1=2
  ·rw[jo h2]at hB
   exact zL1
  ·rw[jm h2,jh]at hB
   exact zL1
 ·have hc:¬ ((j:Int) < (L.length:Int)):=by omega
  have e:L.take j=L:=ju (by omega);rw[e];clear hB hr kO h lL
  exact zL0
theorem inj_11(x y:Tr) (h:(fun z:Tr=>([qao z]:List AV)) x=(fun z:Tr=>([qao z]:List AV)) y):x=y:=by simp only[jl,jJ]at h;exact qem h
def e11:Entry PG:=mkE 11 [[7]] (fun z:Tr=>[qao z]) (fun z=>(okT6 z)) (fun z=>.str (Txt z (qdn z.length (qc3 z)))) fun z h=>c11 (T:=[e12o]) rfl z h
theorem q11(hT:qIn 11 T e11) {H:Heap} {a0:AV} {t:Tr} (b0:qco H [7] a0=some (qao t))  (h:okT6 t):qb5 (ctx T) (.fn 11) [a0] H=some (.str (Txt t (qdn t.length (qc3 t))),H):=
 qb9 hT inj_11 (t) h rfl (by simp[b0])
section
variable {s x y:SS} {t:Tr} {n q k j:Nat} {fr:List (Nat × Blk)} {l r:List (List (Nat × Blk))}
theorem thP(hqk:q≠k) (hne:s.tree≠[]) (o:qyc q k l):qco ⟨n,l++VP q k s::r⟩ [7] (.agg [nV k s.tree])=some (qao s.tree):=by have:=qcx (H:=⟨n,l++VP q k s::r⟩) (k:=k) (t:=s.tree) hne (pgetk hqk hne o);rw[qbr (by simpa using hne)]at this;simpa[nV]using this
theorem thA(hne:s.tree≠[]) (h1:1 < k) (o:qi2 k j fr):qco ⟨n,[fr,VS k s,VP 1 j y]⟩ [7] (.agg [nV k s.tree])=some (qao s.tree):=
 thP (q:=0) (l:=[fr]) (r:=[VP 1 j y]) (by omega) hne fun f hf e he=>by simp at hf;subst hf;exact⟨(o e he).1,(o e he).2.2.1⟩
theorem thB(hne:s.tree≠[]) (nex:x.tree≠[]) (h1:1 < k) (h2:1 < j) (h3:k≠j) (o:qi2 k j fr):qco ⟨n,[fr,VS k x,VP 1 j s]⟩ [7] (.agg [nV j s.tree])=some (qao s.tree):=
 thP (q:=1) (l:=[fr,VS k x]) (r:=[]) (by omega) hne fun f hf e he=>by
  simp at hf;rcases hf with rfl|rfl
  ·exact⟨(o e he).2.1,(o e he).2.2.2⟩
  ·rw[qdv nex]at he;simp at he;rcases he with rfl|rfl
   ·exact⟨by simp,by simp only;omega⟩
   ·exact⟨by simp only;omega,by simp only;omega⟩
theorem pg1(hne:s.tree≠[]) (h1:1 < k):getF 1 (VS k s)=none:=by rw[qdv hne];have b1:Nat.beq 0 1=false:=rfl;have b2:Nat.beq k 1=false:=qax (by omega);simp[getF,b1,b2]
theorem pgv(hne:s.tree≠[]):getF q (VP q k s)=some (.cells (nV k s.tree::s.post)):=by rw[qhk hne];simp[getF]
theorem ps1(hne:s.tree≠[]) (h1:1 < k) (X:Blk):setF 1 X (VS k s)=none:=sF_nx (pg1 hne h1)
theorem pset(hs:s.tree=t) (hne:t≠[]) (o a:List Int) (m1 m2 m3 m4 m5:Int) (b1 b2:Bool) (i:Str) :
  setF q (.cells [nV k t,qa8 o,qa8 a,.int .i64 m1,.int .i64 m2,.int .i64 m3,.int .i64 m4,.int .i64 m5,.bool b1,.bool b2,.str i]) (VP q k s)=some (VP q k ⟨t,o,a,m1,m2,m3,m4,m5,b1,b2,i⟩):=by
 subst hs;rw[qhk hne,qhk (by exact hne)];simp only[setF,jC,SS.post]
theorem pgn{b:Nat} (hne:s.tree≠[]) (hb:b≠q) (hk:b≠k):getF b (VP q k s)=none:=by rw[qhk hne];have b1:Nat.beq q b=false:=qax fun e=>hb e.symm;have b2:Nat.beq k b=false:=qax fun e=>hk e.symm;simp[getF,b1,b2]
theorem psetR(hne:s.tree≠[]) (X:Blk):setF q X (VP q k s)=some [(q,X),(k,.cells (qaa (s.tree.map qa9)))]:=by rw[qhk hne];simp[setF]
theorem reach0{m c:Nat} {F:List (Nat × Blk)} (h:getF c F=none):qgv (Nat.succ (Nat.succ m)) [c] F []=([],F):=by
 cases F with
 |nil=>rfl
 |cons e r=>unfold qgv;simp only[h];unfold qgv;rfl
theorem prom_A{c:Nat} {cs:List AV} {g:List (Nat × Blk)} (hc:qa6 cs=true) (ne:s.tree≠[]) (h0:getF 0 ((c,.cells cs)::g)=none) (r:List (List (Nat × Blk))):qd3 0 [c] [] (((c,.cells cs)::g)::VS k s::r)=g::((c,.cells cs)::VS k s)::r:=by have h1:=qr5 (n:=99998) (b:=c) (g:=g) hc;have h2:qgv 100000 [c] ((c,.cells cs)::g) []=([(c,.cells cs)],g):=h1;unfold qd3;simp only[h0,h2];unfold qd3;simp only[vg0 ne,jh,List.cons_append,jv]
theorem prom_B{c:Nat} {cs:List AV} {g F:List (Nat × Blk)} (hc:qa6 cs=true) (ne:s.tree≠[]) (h0:getF 1 ((c,.cells cs)::g)=none) (h1:getF 1 F=none) (h2:getF c F=none):qd3 1 [c] [] [(c,.cells cs)::g,F,VP 1 j s]=[g,F,(c,.cells cs)::VP 1 j s]:=by
 have e1:qgv 100000 [c] ((c,.cells cs)::g) []=([(c,.cells cs)],g):=qr5 (n:=99998) (b:=c) (g:=g) hc;have e2:qgv 100000 [c] F []=([],F):=reach0 (m:=99998) h2;have hr:qv0 [(c,Blk.cells cs)]=[]:=by simp[qv0,qv1,qe2 _ _ hc]
 unfold qd3;simp only[h0,e1,hr,jv,jh];unfold qd3;simp only[h1,e2,qv0];unfold qd3;simp only[pgv ne];simp
end
theorem rec_nd{n d a c e:Nat} {s:SS} (h:BI n d a c e s):(qhc s).Nodup/\∀i,i∈qhc s->0<=i:=by
 have hm:∀i,i∈qhc s->i∈s.act/\i ≠ -1:=fun i hi=>by have h1:=ql5 s i hi;simp only[qfv,jf,yn,yh]at h1;refine⟨?_,h1.1⟩;unfold qhc at hi;exact jZ hi
 refine⟨?_,fun i hi=>?_⟩
 ·have hp:(qhc s).Pairwise (fun x y=>x=y->x = -1):=by unfold qhc;exact List.Pairwise.sublist (List.drop_sublist _ _) h.an
  rw[List.nodup_iff_pairwise_ne];exact List.Pairwise.imp_of_mem (fun {x y} hx hy hxy e=>(hm x hx).2 (hxy e)) hp
 ·obtain⟨h1,h2⟩:=hm i hi;have:=h.ac i h1;omega
structure Op19 (o:Opn) (k:Int) (s:SS):Prop where
 bi:BI 50000 90000 850 700 700 s
 ok:OpOk o
 no:k≠6
theorem Op19.ne{o:Opn} {k:Int} {s:SS} (h:Op19 o k s):(op19 s o k).tree≠[]:=(h.bi.op19 h.ok (by omega) (by omega) (by omega)).ne
def qk3(o:Opn) (k:Int):AV:=.agg [.int .i64 o.do18,.int .i64 o.space,.str o.name,qae o.attrs,.int .i64 k]
abbrev D19(T:List (Entry PG)) (o:Opn) (k:Int) (s:SS):Prop:=CA T 10 [.ptr 0 0,.ptr 1 0,qk3 o k] ⟨4,[VS 2 s,VP 1 3 s]⟩ (.bool true) ⟨6,[VS 4 (op19 s o k),VP 1 5 (op19 s o k)]⟩
section
variable {T:List (Entry PG)}
theorem d19_10(hc0:qac 39 T=some (upE e39).g) (hc1:qac 40 T=some (upE e40).g) {s:SS} (ne:s.tree≠[]) (o:Opn) (h:Op19 o 10 s):D19 T o 10 s:=by
 have nS:=h.ne;obtain⟨bi,_,_⟩:=h;obtain⟨dd,sp,nm,L⟩:=o;have eS:op19 s ⟨dd,sp,nm,L⟩ 10=qr4 s:=rfl;unfold D19;rw[eS]at nS ⊢;obtain⟨r1,r2⟩:=rec_nd bi;have rk:=bi.rok (by omega) (by omega) (by omega);have k1:=fun n k j fr (h1:1 < k) (h2:1 < j) (h3:k≠j) (h4:k < n) (h5:j < n) (o:qi2 k j fr)=>upA (rest:=[]) (v:=.tup []) (s':=qr4 s) (y:=s) hc0 (k39 (T:=[e39]) rfl ne rk (n:=2) (k:=1) (fr:=[]) (by omega) (by omega) (by simp)) rfl rfl ne nS ne ⟨h1,h2,h3,h4,h5⟩ o;have k2:=fun n k j fr (h1:1 < k) (h2:1 < j) (h3:k≠j) (h4:k < n) (h5:j < n) (o:qi2 k j fr)=>upB (rest:=[]) (v:=.tup []) (s':=qr4 s) (x:=qr4 s) hc1 (k40 (T:=[e40]) rfl ne rk r1 r2 bi.on (n:=2) (k:=1) (fr:=[]) (by omega) (by omega) (by simp)) rfl rfl ne nS nS ⟨h1,h2,h3,h4,h5⟩ o;clear hc0 hc1 eS r1 r2 rk bi;generalize qr4 s=S1 at *;unfold qk3;refine qa1 (s0:=⟨[0,1,2,5,6,7,9],[.ptr 0 0,.ptr 1 0,.agg [.int .i64 dd,.int .i64 sp,.str nm,qae L,.int .i64 10],uD,uD,uD,uD],[],137,⟨4,[]::[VS 2 s,VP 1 3 s]⟩⟩) Tryz.func10 rfl rfl rfl ?_
 exact zL0
theorem d19_x(hc0:qIn 35 T e35) {s:SS} (ne:s.tree≠[]) (o:Opn) {k0:Int} (h:Op19 o k0 s) (h7:k0≠7) (h8:k0≠8) (h9:k0≠9) (h10:k0≠10):D19 T o k0 s:=by
 have nS:=h.ne;obtain⟨bi,ok,no⟩:=h;obtain⟨dd,sp,nm,L⟩:=o;have eS:op19 s ⟨dd,sp,nm,L⟩ k0=op18 s ⟨k0,sp,nm,L⟩:=by unfold op19;simp[h7,h8,h9,h10]
 unfold D19;rw[eS]at nS ⊢;have k1:∀n k j fr (h1:1 < k) (h2:1 < j) (h3:k≠j) (h4:k < n) (h5:j < n) (o:qi2 k j fr),qb5 (ctx T) (.fn 35) [.ptr 0 0,.ptr 1 0,.agg [.int .i64 k0,.int .i64 sp,.str nm,qae L]] ⟨n,[fr,VS k s,VP 1 j s]⟩=some (.tup [],⟨n+2,[fr,VS n (op18 s ⟨k0,sp,nm,L⟩),VP 1 (n+1) (op18 s ⟨k0,sp,nm,L⟩)]⟩):=fun n k j fr h1 h2 h3 h4 h5 o=>k35 hc0 ne ⟨k0,sp,nm,L⟩ ⟨bi.mono (by omega) (by omega) (by omega) (by omega) (by omega),⟨ok.nm,ok.at_⟩,no⟩ ⟨h1,h2,h3,h4,h5⟩ o;clear hc0 eS bi ok;generalize op18 s ⟨k0,sp,nm,L⟩=S1 at *;have sA:(qae L).single=true:=rfl;have rA:refs 4 (qae L)=[]:=rfl;have rB:refs 5 (qae L)=[]:=rfl;have ob2:zax 29 objs=false:=rfl;unfold qk3;refine qa1 (s0:=⟨[0,1,2,5,6,7,9],[.ptr 0 0,.ptr 1 0,.agg [.int .i64 dd,.int .i64 sp,.str nm,qae L,.int .i64 k0],uD,uD,uD,uD],[],137,⟨4,[]::[VS 2 s,VP 1 3 s]⟩⟩) Tryz.func10 rfl rfl rfl ?_
 exact zL0
set_option maxHeartbeats 2000000
section
theorem d19_7(hc0:qIn 35 T e35) (hc1:qIn 36 T e36) (hc2:qIn 37 T e37) {s:SS} (ne:s.tree≠[]) (o:Opn) (h:Op19 o 7 s):D19 T o 7 s:=by
 obtain⟨bi,ok,no⟩:=h;have b0:=bi.psh7 ok (by omega);obtain⟨dd,sp,nm,L⟩:=o;have b1:BI 50001 90000 850 701 700 (elS s 0 nm L):=bi.elS 0 ok.nm (show L.length<=850 by have:=ok.at_;simp only at this;omega);have eS:op19 s ⟨dd,sp,nm,L⟩ 7={s with tree:=(elS s 0 nm L).tree,opn:=(elS s 0 nm L).opn,act:=qg9 (elS s 0 nm L).tree (elS s 0 nm L).act (s.tree.length:Int)}:=rfl;unfold D19;rw[eS];have k1:∀n k j fr (h1:1 < k) (h2:1 < j) (h3:k≠j) (h4:k < n) (h5:j < n) (o:qi2 k j fr),qb5 (ctx T) (.fn 35) [.ptr 0 0,.ptr 1 0,.agg [.int .i64 0,.int .i64 0,.str nm,qae L]] ⟨n,[fr,VS k s,VP 1 j s]⟩=some (.tup [],⟨n+2,[fr,VS n (elS s 0 nm L),VP 1 (n+1) (elS s 0 nm L)]⟩):=fun n k j fr h1 h2 h3 h4 h5 o=>k35 hc0 ne ⟨0,0,nm,L⟩ ⟨bi.mono (by omega) (by omega) (by omega) (by omega) (by omega),⟨ok.nm,ok.at_⟩,(by decide:(0:Int)≠6)⟩ ⟨h1,h2,h3,h4,h5⟩ o;have e1:elS s 0 nm L={s with tree:=(elS s 0 nm L).tree,opn:=s.opn++[(s.tree.length:Int)]}:=rfl;have n1:=b1.ne;have hat:∀y,(qcd (elS s 0 nm L).tree y).attrs.length<=900:=fun y=>by
  unfold qcd;split
  next hb=>obtain⟨h1,h2⟩:=isB_iff.1 hb;have:=(b1.tb.at_ h1 h2).1;omega
  ·simp
 have hatk:∀n,n∈(elS s 0 nm L).tree->n.attrs.length<=100000:=fun n hn=>by obtain⟨i,hi,rfl⟩:=yG hn;have:=b1.tb.al i hi;rw[qga hi]at this;omega
 have hal:=bi.al;have hal2:=b1.al;have kA:=fun n k j fr (y:SS) (h1:1 < k) (o:qi2 k j fr)=>k36 hc1 (l:=s.act) (s.tree.length:Int) (by omega) hat (thA (n:=n) (j:=j) (y:=y) (s:=elS s 0 nm L) n1 h1 o);have kB:=fun n k j fr (x:SS) (nex:x.tree≠[]) (h1:1 < k) (h2:1 < j) (h3:k≠j) (o:qi2 k j fr)=>k37 hc2 (L:=s.act) (s.tree.length:Int) (by omega) hatk (thB (n:=n) (x:=x) (s:=elS s 0 nm L) n1 nex h1 h2 h3 o);rw[e1]at k1;have eo:(elS s 0 nm L).opn=s.opn++[(s.tree.length:Int)]:=rfl;have ea:(elS s 0 nm L).act=s.act:=rfl;rw[eo,ea];have hol:=bi.ol;obtain⟨O,hO⟩ : ∃O,O=s.opn++[(s.tree.length:Int)]:=⟨_,rfl⟩;obtain⟨m,hm⟩ : ∃m,m=s.opn.length:=⟨_,rfl⟩;have hlen:O.length=m+1:=by rw[hO,hm];simp
 have hmO:m < O.length:=by omega
 have hat2:=atI hmO;have hx:O[m]=(s.tree.length:Int):=by subst hO hm;simp
 rw[hx]at hat2;have lO:=fun H=>qgi (H:=H) (L:=O);rw[hlen]at lO;have hw:wr .i64 (((m+1:Nat):Int) - 1)=some (m:Int):=by rw[show (((m+1:Nat):Int) - 1)=(m:Int) by omega];exact qbi (by omega) (by omega)
 obtain⟨z,hz⟩ : ∃z:Nat,z=m+1:=⟨_,rfl⟩;have hz0:¬ z=0:=by omega
 rw[<- hz]at lO hw;rw[<- hO]at k1 ⊢;rw[ea]at hal2;rw[show (elS s 0 nm L)={s with tree:=(elS s 0 nm L).tree,opn:=O} by rw[hO];rfl]at kA kB n1;have nS:({s with tree:=(elS s 0 nm L).tree,opn:=O,act:=qg9 (elS s 0 nm L).tree s.act (s.tree.length:Int)} : SS).tree≠[]:=n1;clear eS e1 eo ea hO hm hlen hmO hx hz hat hatk hol b0 b1 hal hal2 bi ok hc0 hc1 hc2;simp only at kA kB;generalize qg9 (elS s 0 nm L).tree s.act (s.tree.length:Int)=A2 at *;generalize (elS s 0 nm L).tree=t1 at *;generalize (s.tree.length:Int)=q1 at *;have g0:=@vg0;have g1:=@pg1;have g2:=@pgv;have w0:=@vset;have w1:=@ps1;have w2:=@pset;have bld:qe6 PG 29 [(2,.str nm),(3,qae L)]=some (.agg [.int .i64 0,.int .i64 0,.str nm,qae L]):=rfl;unfold qk3;refine qa1 (s0:=⟨[0,1,2,5,6,7,9],[.ptr 0 0,.ptr 1 0,.agg [.int .i64 dd,.int .i64 sp,.str nm,qae L,.int .i64 7],uD,uD,uD,uD],[],137,⟨4,[]::[VS 2 s,VP 1 3 s]⟩⟩) Tryz.func10 rfl rfl rfl ?_
 exact zL0
theorem ap_ex0g{m b t:Nat} (hbt:t≠b) (g:List (Nat × Blk)) (fs:List (List (Nat × Blk))) (x:Int) :
  qbs PG ⟨m,((t,.cells [.int .i64 x])::(b,.cells [])::g)::fs⟩ 3 (.slc b 0 0 (.ex 0)) (.slc t 0 1 (.ex 1))=some (.slc m 0 1 (.rest 1),⟨m+1,((m,.cells [.int .i64 x])::(t,.cells [.int .i64 x])::(b,.cells [])::g)::fs⟩):=by
 have hs:qcj PG 3=some 1:=qhz;have hb:qch PG 3=some 8:=qk2;have hz:qby PG 3=some (.int .i64 0):=qjw;have c0:(Nat.beq 1 0 || !(Nat.beq (AV.cells (.int .i64 0)).length 1 && Nat.blt 0 8))=false:=rfl;have hr:qdg (0+1) 8=true:=rfl;have hx:qbj ⟨m,((t,.cells [.int .i64 x])::(b,.cells [])::g)::fs⟩ 1 1 (.slc t 0 1 (.ex 1))=some [.int .i64 x]:=by simp[qbj,readCells,zG]
 have hq:readCells ⟨m,((t,.cells [.int .i64 x])::(b,.cells [])::g)::fs⟩ b 0 0=some []:=by simp[readCells,zG,qax hbt]
 have h1:Nat.ble (0+1) 0=false:=rfl;have h2:Nat.beq ([AV.int .i64 x]).length (1 * 1)=true:=rfl;have hrow:∀cs,qpj PG 3 cs=.cells cs:=fun _=>rfl;simp only[qbs,hs,hb,hz,jc,qd5,c0,hx,hr,allSingle,AV.single,h1,h2,Nat.zero_mul,hq,jv,hrow];simp[Heap.new,pushF]
theorem ends_8{s:SS} {H:Heap} {c1 c2:Nat} {A:List Int} (ne:s.tree≠[]) (hc:3 < c1/\3 < c2/\c1≠c2)
  (h0:H.get 0=some (.cells (nV 2 s.tree::qa8 s.opn::.slc c1 0 A.length (.rest 1)::s.post.tail.tail))) (hk:H.get 2=some (.cells (qaa (s.tree.map qa9)))) (h1:H.get 1=some (.cells (nV 3 s.tree::qa8 s.opn::.slc c2 0 A.length (.rest 1)::s.post.tail.tail))) (hj:H.get 3=some (.cells (qaa (s.tree.map qa9))))
  (g1:H.get c1=some (.cells (A.map qat))) (g2:H.get c2=some (.cells (A.map qat))):∃σ Φ,qas σ Φ (.bool true) (.bool true)/\FitH 4 σ Φ H ⟨6,[VS 4 { s with act:=A },VP 1 5 { s with act:=A }]⟩:=by
 have ne2:({ s with act:=A }:SS).tree≠[]:=ne;have he:Heap.ents ⟨6,[VS 4 { s with act:=A },VP 1 5 { s with act:=A }]⟩=[(0,.cells (nV 4 s.tree::({ s with act:=A }:SS).post)),(4,.cells (qaa (s.tree.map qa9))),(1,.cells (nV 5 s.tree::({ s with act:=A }:SS).post)),(5,.cells (qaa (s.tree.map qa9)))]:=by rw[qdv ne2,qhk ne2];simp[Heap.ents]
 have c12:¬ c1=c2:=hc.2.2;have cells:∀(c k k':Nat),qcp c [(c1,A.map qat),(c2,A.map qat)]=some (A.map qat)->qas [(2,4),(0,0),(3,5),(1,1)] [(c1,A.map qat),(c2,A.map qat)] (nV k s.tree) (nV k' s.tree)->qb8 [(2,4),(0,0),(3,5),(1,1)] [(c1,A.map qat),(c2,A.map qat)] (nV k s.tree::qa8 s.opn::.slc c 0 A.length (.rest 1)::s.post.tail.tail) (nV k' s.tree::({ s with act:=A }:SS).post):=fun c k k' hl hn=>by simp only[qb8,SS.post,List.tail_cons];refine⟨hn,qbo (by simp),qp5 hl,?_⟩;simp[qb8,qas,qa2]
 refine⟨[(2,4),(0,0),(3,5),(1,1)],[(c1,A.map qat),(c2,A.map qat)],by simp[qas,qa2],⟨by simp;omega,by simp,by rw[he];simp,by simp,by simp,by simp,fun e hm=>?_,fun x hx=>?_⟩⟩
 ·rw[he]at hm;simp only[jd,jX,yJ]at hm;rcases hm with rfl|rfl|rfl|rfl
  ·exact⟨0,_,by simp,h0,by simp only[qkw];exact cells c1 2 4 (by simp[qcp]) (by simp[qas,qaw])⟩
  ·exact⟨2,_,by simp,hk,qau (qbg s.tree).pure⟩
  ·exact⟨1,_,by simp,h1,by simp only[qkw];exact cells c2 3 5 (by simp[qcp,c12]) (by simp[qas,qaw])⟩
  ·exact⟨3,_,by simp,hj,qau (qbg s.tree).pure⟩
 ·simp at hx;rcases hx with rfl|rfl
  ·exact⟨_,g1,qau (ql6 _),ql6 _⟩
  ·exact⟨_,g2,qau (ql6 _),ql6 _⟩
theorem d19_8{s:SS} (ne:s.tree≠[]) (o:Opn) (h:Op19 o 8 s):D19 T o 8 s:=by
 obtain⟨bi,ok,no⟩:=h;obtain⟨dd,sp,nm,L⟩:=o;have eS:op19 s ⟨dd,sp,nm,L⟩ 8={ s with act:=s.act++[-1] }:=rfl;unfold D19;rw[eS];have hal:=bi.al;clear bi ok eS;obtain⟨t0,o0,A,m1,m2,m3,m4,m5,f1,f2,i0⟩:=s;simp only at hal ne ⊢;have g0:=@vg0;have g1:=@pg1;have g2:=@pgv;have gn:=@pgn;have gk:=@vgk;have rS:=@prom_A;have sR:=@setR;have rB:=@prom_B;have sB:=@psetR;have lI:=fun H=>qgi (H:=H) (L:=A);have sX:=fun H=>sl_x H A;have aX:=fun H b i=>ap_x H A b i (by omega);unfold qk3;by_cases hA:A=[]
 ·subst hA;have a0:∀n g fs,27 < n->qbs PG ⟨n,((27,.cells [])::g)::fs⟩ 3 (.slc 27 0 0 (.ex 0)) (qa8 [])=some (.slc 27 0 0 (.ex 0),⟨n,((27,.cells [])::g)::fs⟩):=fun n g fs hn=>
   qh3 (P:=PG) (elem:=3) (b:=27) (m:=n) (es:=[]) (g:=g) (fs:=fs) qhz qk2 qjw rfl (by omega) (by omega) (qiw []) (qfq []) (by simp)
  have sX0:∀H,qcq PG H 38 (qa8 []) none (some (.int .i64 0)) (some (.int .i64 0))=some .zslc:=fun H=>sl_x H [];have aX0:∀(H:Heap) (b:Nat),H.get b=some (.cells [.int .i64 (-1)])->qbs PG H 3 .zslc (.slc b 0 1 (.ex 1))=some (.slc H.n 0 1 (.rest 1),H.new (.cells [.int .i64 (-1)])):=fun H b hb=>ap_x H [] b (-1) (by simp) hb;clear sX aX lI;have lI0:∀H,qf3 PG H 38 (qa8 [])=some 0:=fun H=>qgi;have a1:=fun b t m (hbt:t≠b) g (fs:List (List (Nat × Blk)))=>ap_ex0g (m:=m) (b:=b) (t:=t) hbt g fs (-1);refine qa1 (s0:=⟨[0,1,2,5,6,7,9],[.ptr 0 0,.ptr 1 0,.agg [.int .i64 dd,.int .i64 sp,.str nm,qae L,.int .i64 8],uD,uD,uD,uD],[],137,⟨4,[]::[VS 2 ⟨t0,o0,[],m1,m2,m3,m4,m5,f1,f2,i0⟩,VP 1 3 ⟨t0,o0,[],m1,m2,m3,m4,m5,f1,f2,i0⟩]⟩⟩) Tryz.func10 rfl rfl rfl ?_
  (repeat' (first
   |with_reducible apply qad
   |with_reducible apply qa3
   |(with_reducible apply rE;simp[zS, *,SS.post,qa6,qa2,qat];exact rfl)
   |(with_reducible apply qaf;simp only[qab,qa4])
   |(refine qal mixed qaz (by decide +kernel) (by decide +kernel) rfl ?_;apply qdm;simp[zS,zW,qb4,qbc,qar,Heap.lay,qap, *,SS.post,qa6,qa2,qat];exact rfl)
   |(with_reducible apply qav;refine⟨by repeat first|exact qc6|refine qc7 (by decide +kernel) ?_,?_⟩;simp only[qab,qa4,allPend,Heap.lay,qap])
   |apply qag rfl
   |apply qaj rfl
   |(with_reducible apply qa7;simp[zQ,Tryz.f10])))
  all_goals first|(skip)|(exfalso;omega)
  all_goals exact ends_8 (s:=⟨t0,o0,[],m1,m2,m3,m4,m5,f1,f2,i0⟩) (c1:=26) (c2:=29) (A:=[-1]) ne (by decide) (by simp[zG,SS.post]) (by simp[zG]) (by simp[zG,SS.post]) (by simp[zG]) (by simp[zG,qat]) (by simp[zG,qat])
 ·have aL:=fun b m g fs hb=>qlq (b:=b) (m:=m) g fs hA hb (by omega);have a1:∀(g F:List (Nat × Blk)),(∀e,e∈g->e.1≠28)->(∀e,e∈F->e.1≠28)->qbs PG ⟨30,[(29,.cells [.int .i64 (-1)])::(28,.cells (A.map qat))::g,F,VP 1 3 ⟨t0,o0,A,m1,m2,m3,m4,m5,f1,f2,i0⟩]⟩ 3 (.slc 28 0 A.length (.rest 1)) (.slc 29 0 1 (.ex 1))=some (.slc 30 0 (A.length+1) (.rest 1),⟨31,[(30,.cells ((A++[-1]).map qat))::(29,.cells [.int .i64 (-1)])::g,F,VP 1 3 ⟨t0,o0,A,m1,m2,m3,m4,m5,f1,f2,i0⟩]⟩):=fun g F hg hF=>
   qsl (b:=28) (t:=29) (m:=30) g [F,VP 1 3 ⟨t0,o0,A,m1,m2,m3,m4,m5,f1,f2,i0⟩] hA (by omega) (by omega) hg (fun e he=>by
    rw[qhk (by exact ne)]at he;simp at he;rcases he with he|rfl|rfl
    ·exact hF e he
    ·simp
    ·simp) (-1)
  refine qa1 (s0:=⟨[0,1,2,5,6,7,9],[.ptr 0 0,.ptr 1 0,.agg [.int .i64 dd,.int .i64 sp,.str nm,qae L,.int .i64 8],uD,uD,uD,uD],[],137,⟨4,[]::[VS 2 ⟨t0,o0,A,m1,m2,m3,m4,m5,f1,f2,i0⟩,VP 1 3 ⟨t0,o0,A,m1,m2,m3,m4,m5,f1,f2,i0⟩]⟩⟩) Tryz.func10 rfl rfl rfl ?_
  (repeat' (first
   |with_reducible apply qad
   |with_reducible apply qa3
   |(with_reducible apply rE;simp[zS, *,SS.post,qa6,qa2,qat];exact rfl)
   |(with_reducible apply qaf;simp only[qab,qa4])
   |(refine qal mixed qaz (by decide +kernel) (by decide +kernel) rfl ?_;apply qdm;simp[zS,zW,qb4,qbc,qar,Heap.lay,qap, *,SS.post,qa6,qa2,qat];exact rfl)
   |(with_reducible apply qav;refine⟨by repeat first|exact qc6|refine qc7 (by decide +kernel) ?_,?_⟩;simp only[qab,qa4,allPend,Heap.lay,qap])
   |apply qag rfl
   |apply qaj rfl
   |(with_reducible apply qa7;simp[zQ,Tryz.f10])))
  all_goals first|(skip)|(exfalso;omega)
  all_goals exact ends_8 (s:=⟨t0,o0,A,m1,m2,m3,m4,m5,f1,f2,i0⟩) (c1:=26) (c2:=30) (A:=A++[-1]) ne (by decide) (by simp[zG,SS.post]) (by simp[zG]) (by simp[zG,SS.post]) (by simp[zG]) (by simp[zG,qat]) (by simp[zG,qat])
end
set_option maxHeartbeats 2000000
section
theorem d19_9(hc0:qac 13 T=some (upE e13).g) (hc1:qac 38 T=some (upE e38).g) {s:SS} (ne:s.tree≠[]) (o:Opn) (h:Op19 o 9 s):D19 T o 9 s:=by
 have nS:=h.ne;obtain⟨bi,ok,_⟩:=h;obtain⟨dd,sp,nm,L⟩:=o;have eS:op19 s ⟨dd,sp,nm,L⟩ 9=(qih nm s).1:=rfl;unfold D19;rw[eS]at nS ⊢;have hb:BI 70000 1000000 850 900 900 s:=bi.mono (by omega) (by omega) (by omega) (by omega) (by omega);have hn:nm.length<=1100000:=by have:=ok.nm;simp only at this;omega
 have hn2:nm.length<=100000:=by have:=ok.nm;simp only at this;omega
 have k1:=fun n k j fr (h1:1 < k) (h2:1 < j) (h3:k≠j) (h4:k < n) (h5:j < n) (o:qi2 k j fr)=>upA (rest:=[.str nm]) (v:=.bool (qih nm s).2) (s':=(qih nm s).1) (y:=s) hc0 (k13 (T:=[e13]) rfl ne nm hb hn (n:=2) (k:=1) (fr:=[]) (by omega) (by omega) (by simp)) rfl rfl ne nS ne ⟨h1,h2,h3,h4,h5⟩ o;have k2:=fun n k j fr (h1:1 < k) (h2:1 < j) (h3:k≠j) (h4:k < n) (h5:j < n) (o:qi2 k j fr)=>upB (rest:=[.str nm]) (v:=.bool (qih nm s).2) (s':=(qih nm s).1) (x:=(qih nm s).1) hc1 (k38 (T:=[e38]) rfl ne nm hb hn2 (n:=2) (k:=1) (fr:=[]) (by omega) (by omega) (by simp)) rfl rfl ne nS nS ⟨h1,h2,h3,h4,h5⟩ o;clear hc0 hc1 eS bi hb ok;generalize (qih nm s).1=S1 at *;generalize (qih nm s).2=b at *;unfold qk3;refine qa1 (s0:=⟨[0,1,2,5,6,7,9],[.ptr 0 0,.ptr 1 0,.agg [.int .i64 dd,.int .i64 sp,.str nm,qae L,.int .i64 9],uD,uD,uD,uD],[],137,⟨4,[]::[VS 2 s,VP 1 3 s]⟩⟩) Tryz.func10 rfl rfl rfl ?_
 (repeat' (first
  |with_reducible apply qad
  |with_reducible apply qa3
  |(with_reducible apply rE;simp[zS, *];exact rfl)
  |(with_reducible apply qaf;simp only[qab,qa4])
  |apply qag rfl
  |(apply qaj rfl)))
 all_goals first|(skip)|(exfalso;omega)
 refine qc4 mixed qaz (by decide +kernel) fun B_ hB_=>?_;have hD_:ahead B_ 3 4=true/\ahead B_ 3 9=true/\ahead B_ 4 3=false/\ahead B_ 4 8=false/\ahead B_ 8 4=false/\ahead B_ 8 9=true/\ahead B_ 9 3=false/\ahead B_ 9 8=false:=by rw[hB_];decide +kernel
 apply qhi B_;simp[zS,qbc,qar,qb4,qbh,qan,qbd,qba,Heap.lay,qap,qhh,qhg,qei,qeh,qef,qeg,qew,qel,qdj,qdk,qeq,qep,qen,qeo,qet,qeu,qes,qer,hD_,k1,k2];exact rfl;refine⟨_,rfl,?_,?_⟩;simp[zS,qbh,qan,qc1,qc9,qd2,hD_,k1,k2];try simp[allPend,Heap.lay,qap,qab]
 all_goals (repeat' (first
             |with_reducible apply qad
             |with_reducible apply qa3
             |(with_reducible apply qdf;simp only[qab,qa4])
             |(with_reducible apply rE;simp[zS, *];exact rfl)
             |(with_reducible apply qaf;simp only[qab,qa4])
             |apply qag rfl
             |apply qaj rfl
             |(refine qbe rfl (fun hc=>?_) (fun hc=>?_)<;>(have hd:=hc;(try simp at hd);(try subst hd)))
             |(with_reducible apply qa5;simp only[qab,qa4])
             |(with_reducible apply qak;simp)
             |(with_reducible apply qa7;simp[zQ,Tryz.f10])))
           all_goals first|(skip)|(exfalso;omega)
 all_goals exact qje rfl ⟨rfl,rfl⟩ (by decide) (by decide) nS (by simp)
end
theorem c10{T:List (Entry PG)} (hc0:qIn 35 T e35) (hc1:qIn 36 T e36) (hc2:qIn 37 T e37) (hc3:qac 13 T=some (upE e13).g) (hc4:qac 38 T=some (upE e38).g) (hc5:qac 39 T=some (upE e39).g) (hc6:qac 40 T=some (upE e40).g)
  {s:SS} (ne:s.tree≠[]) (o:Opn) (k:Int) (h:Op19 o k s):D19 T o k s:=by
 by_cases h7:k=7
 ·subst h7;exact d19_7 hc0 hc1 hc2 ne o h
 by_cases h8:k=8
 ·subst h8;exact d19_8 ne o h
 by_cases h9:k=9
 ·subst h9;exact d19_9 hc3 hc4 ne o h
 by_cases h10:k=10
 ·subst h10;exact d19_10 hc5 hc6 ne o h
 ·exact d19_x hc0 ne o h h7 h8 h9 h10
def e10:Entry PG:=mk2 10 (fun o:Opn × Int=>[qk3 o.1 o.2]) (fun o s=>Op19 o.1 o.2 s) (fun _ _=>.bool true) (fun o s=>op19 s o.1 o.2) fun o s ne h=>⟨c10 (T:=[e35,e36,e37,upE e13,upE e38,upE e39,upE e40]) rfl rfl rfl rfl rfl rfl rfl ne o.1 o.2 h,by simp[qa6,qa2,qk3,qae],rfl,h.ne⟩
theorem inj_Op19{x y:Opn × Int} (h:qk3 x.1 x.2=qk3 y.1 y.2):x=y:=by
 unfold qk3 at h;simp only[AV.agg.injEq,jl,AV.int.injEq,AV.str.injEq,yc,jJ]at h;obtain⟨h1,h2,h3,h4,h5⟩:=h;have h4:=qdp h4;obtain⟨⟨_,_,_,_⟩,_⟩:=x;obtain⟨⟨_,_,_,_⟩,_⟩:=y
 simp_all
theorem k10{T:List (Entry PG)} (hT:qIn 10 T e10) {s:SS} (ne:s.tree≠[]) (o:Opn) (i:Int) (h:Op19 o i s) {n k j:Nat} {fr:List (Nat × Blk)} (d:d2J n k j) (of:qi2 k j fr) :
  qb5 (ctx T) (.fn 10) [.ptr 0 0,.ptr 1 0,qk3 o i] ⟨n,[fr,VS k s,VP 1 j s]⟩=some (.bool true,⟨n+2,[fr,VS n (op19 s o i),VP 1 (n+1) (op19 s o i)]⟩):=
 mk2_eq hT (fun x y h=>inj_Op19 (by simpa using h)) (o,i) ne h d of
theorem qz8{C:Ctx} {n:Nat} {r:Option Nat} {c d:Code} {s:St} {Q:Out->St->Prop} {ι:Type} (inv:ι->St) (φ:ι->Prop) (h1:∀x,φ x->WpSr C n r d (inv x) Q) (h2:∀P:St->Prop,(∀s' x,φ x->(∃σ Φ,Fit n σ Φ s' (inv x))->P s')->WpSr C n r c s (qab P Q)):WpSr C n r (.seq c d) s Q:=
 qad (h2 (fun s'=>WpSr C n r d s' Q) fun s' x hx ⟨σ,Φ,f⟩=>.fit σ Φ f (h1 x hx))
theorem s0_bi9:BI 2 200 14 1 0 s0:=by
 refine⟨⟨by decide,by decide,fun i hi=>?_,fun i hi=>?_,fun i hi=>?_,fun i hi=>?_,fun i hi=>?_,fun i hi=>?_⟩,rfl,rfl,by decide,by decide,(fun i hi=>by cases hi),List.Pairwise.nil,by decide,.inl rfl,⟨[1],by decide,fun x hx=>by simpa[s0]using hx⟩,by decide⟩;all_goals
  have hi:i < 2:=hi;rcases(by omega:i=0\/i=1)with rfl|rfl
 all_goals decide
theorem ok6_of{n d a c e:Nat} {s:SS} {ch:Ch} (h:BI n d a c e s) (g:ED s ch) (hn:n<=10000) (hd:d<=100000):okT6 s.tree:=by
 have h0:(0:Int)∈flat ch:=by
  have:=g.op;cases ch with
  |nil=>simp at this
  |cons x r=>obtain⟨o,L⟩:=x;simp at this;simp[this.1]
 refine⟨⟨⟨by have:=h.tb.n1;omega,fun x hx=>?_⟩,List.length_pos_iff.2 h.ne,fun e=>?_⟩,fun y h0 h1=>?_⟩
 ·have:=h.le hn x hx;omega
 ·rw[g.order]at e;rw[e]at h0;cases h0
 ·obtain⟨u,rfl⟩ : ∃u:Nat,y=u:=⟨y.toNat,by omega⟩;have:=h.tb.dl u (by omega);omega
abbrev Op9:=Opn × Int
def qz2(l:List Op9):AV:=.fslc 5 (l.map fun o=>qk3 o.1 o.2)
theorem atOp{l:List Op9} {i:Nat} (h:i < l.length):qaq PG 22 (qz2 l) (.int .i64 (i:Int))=some (.fptr [.int .i64 l[i].1.do18,.int .i64 l[i].1.space,.str l[i].1.name,qae l[i].1.attrs,.int .i64 l[i].2] 0):=by simp[qaq,qz2,qbn h,qge h,qk3]
theorem lenOp(H:Heap) (l:List Op9):qf3 PG H 22 (qz2 l)=some l.length:=by simp[qf3,qz2]
theorem call_new{C:Ctx} {f:FuncId} (h:CallAt C f [.str [100,105,118]] zH (.ptr 0 0) ⟨3,[VS 2 s0]⟩):CallAt C f [.str [100,105,118]] ⟨3,[[],VS 2 s0]⟩ (.ptr 3 0) ⟨6,[[],VS 2 s0,VP 3 5 s0]⟩:=by
 have ne:s0.tree≠[]:=by simp[s0]
 have:=h.framed (H:=⟨3,[[],VS 2 s0]⟩) (H':=⟨6,[[],VS 2 s0,VP 3 5 s0]⟩) (σ:=[]) (args:=[.str [100,105,118]]) (.keep0 rfl) (qau rfl) (by
  have e1:Heap.ents ⟨3,[[],VS 2 s0]⟩=[(0,.cells (nV 2 s0.tree::s0.post)),(2,.cells (qaa (s0.tree.map qa9)))]:=by rw[qdv ne];simp[Heap.ents]
  have e2:Heap.ents ⟨6,[[],VS 2 s0,VP 3 5 s0]⟩=[(0,.cells (nV 2 s0.tree::s0.post)),(2,.cells (qaa (s0.tree.map qa9))),(3,.cells (nV 5 s0.tree::s0.post)),(5,.cells (qaa (s0.tree.map qa9)))]:=by rw[qdv ne,qhk ne];simp[Heap.ents]
  have e3:Heap.ents ⟨3,[VS 2 s0]⟩=[(0,.cells (nV 2 s0.tree::s0.post)),(2,.cells (qaa (s0.tree.map qa9)))]:=by rw[qdv ne];simp[Heap.ents]
  refine⟨by simp,fun _ _=>by rw[e2];simp,fun e he=>?_⟩;have f0:qg4 [] 3 0 0=3:=by simp[qg4,qdt]
  have f2:qg4 [] 3 0 2=5:=by simp[qg4,qdt]
  rw[e2]at he;rw[e1,e3];simp only[jd,jX,yJ]at he;rcases he with rfl|rfl|rfl|rfl
  ·exact .inr ⟨by simp,by simp⟩
  ·exact .inr ⟨by simp,by simp⟩
  ·refine .inl ⟨(0,.cells (nV 2 s0.tree::s0.post)),by simp,?_⟩;simp only[qn6,qii,qc2 _ (qdh s0),qlu,f0,f2]
  ·refine .inl ⟨(2,.cells (qaa (s0.tree.map qa9))),by simp,?_⟩;simp only[qn6,f2,qc2 _ (qbg s0.tree).pure]) (by simp)
 simpa[qlu,qg4,qdt]using this
theorem fit_new:FitH 0 [(2,2),(0,0),(5,3),(3,1)] [] ⟨6,[[],VS 2 s0,VP 3 5 s0]⟩ ⟨4,[[],VS 2 s0,VP 1 3 s0]⟩:=by
 have ne:s0.tree≠[]:=by simp[s0]
 have e:Heap.ents ⟨4,[[],VS 2 s0,VP 1 3 s0]⟩=[(0,.cells (nV 2 s0.tree::s0.post)),(2,.cells (qaa (s0.tree.map qa9))),(1,.cells (nV 3 s0.tree::s0.post)),(3,.cells (qaa (s0.tree.map qa9)))]:=by rw[qdv ne,qhk ne];simp[Heap.ents]
 refine⟨by simp,by simp,by rw[e];simp,by simp,by simp,by simp,fun x hm=>?_,fun x h=>by cases h⟩;rw[e]at hm;simp only[jd,jX,yJ]at hm;rw[qdv ne,qhk ne];rcases hm with rfl|rfl|rfl|rfl
 ·exact⟨0,.cells (nV 2 s0.tree::s0.post),by simp,by simp[zG],by simp only[qkw,qb8];exact⟨by simp[qas,qaw],qau (qdh s0)⟩⟩
 ·exact⟨2,.cells (qaa (s0.tree.map qa9)),by simp,by simp[zG],qau (qbg s0.tree).pure⟩
 ·exact⟨3,.cells (nV 5 s0.tree::s0.post),by simp,by simp[zG],by simp only[qkw,qb8];exact⟨by simp[qas,qaw],qau (qdh s0)⟩⟩
 ·exact⟨5,.cells (qaa (s0.tree.map qa9)),by simp,by simp[zG],qau (qbg s0.tree).pure⟩
section
variable {T:List (Entry PG)} (hS:CA T 7 [.str [100,105,118]] zH (.ptr 0 0) ⟨3,[VS 2 s0]⟩)
 (hN:CA T 8 [.str [100,105,118]] zH (.ptr 0 0) ⟨3,[VS 2 s0]⟩) (hA:qIn 14 T e14) (hD:qIn 10 T e10) (hP:qIn 9 T e9) (hR:qac 13 T=some (upE e13).g) (hT:qIn 11 T e11) (hL:qac 12 T=some e12o.g)
include hS hN hA hD hP hR hT hL
theorem c3(l:List Op9) (nm:Str) (hnm:nm.length<=1100000):CA T 3 [qz2 l,.str nm] zH (.bool true) zH:=by
 have hnew:=hS.perm (H2:=⟨0,[[]]⟩) (H2':=⟨3,[[],VS 2 s0]⟩) rfl rfl (by simp[Heap.ents]) (by simp[Heap.ents]);have hnew2:=call_new hN;clear hS hN;have ka:=fun H=>k14 hA H;have ne0:s0.tree≠[]:=by simp[s0]
 have bN:qex PG .eql 23 (.ptr 0 0) .nilP=some (.bool false):=rfl;have htk:=fun i (h:i < l.length)=>@atOp l i h;have hlk:=fun H=>lenOp H l;have g0:=@vg0;refine qa1 (s0:=⟨[0,1,4,5,6,7,8,9,10,15,16,17],[qz2 l,.str nm,uD,uD,uD,uD,uD,uD,uD,uD,uD,uD],[],77,⟨0,[[]]⟩⟩) Tryz.func3 rfl rfl rfl ?_;apply qR;simp[zS];repeat apply wq
 refine qb0 (qci [⟨7,_,_,_,_,hnew⟩,⟨8,_,_,_,_,hnew2⟩]) ?_;simp[zS,qdz];apply qR;simp[zS,bN];apply qaj rfl;apply qa5;simp;refine qz8 (fun s:SS=>(⟨[0,1,4,5,6,7,8,9,10,15,16,17],[uD,.str nm,uD,.ptr 0 0,uD,uD,uD,uD,uD,uD,uD,uD],[],77,⟨4,[[],VS 2 s,VP 1 3 s]⟩⟩ : St)) (fun s=>BI 5000 10000 14 100 100 s/\∃c,ED s c) ?rest fun P hE=>?_
 case rest=>
  rintro s ⟨hb,c,hc⟩;clear hnew hnew2 htk hlk bN hD hP ne0;have hrun:=(hb.run (by omega) nm).1;obtain⟨c',g1,g2,g3⟩:=hc.run hb (by omega) nm;have o1:=ok6_of hb hc (by omega) (by omega);have o2:=ok6_of hrun g1 (by omega) (by omega);have ne:=hb.ne;have ne2:=hrun.ne;have kT1:=fun n k j fr (y:SS) (h1:1 < k) (o:qi2 k j fr)=>q11 hT (thA (n:=n) (y:=y) ne h1 o) o1;have kL1:=fun n k j fr (y:SS) (h1:1 < k) (o:qi2 k j fr)=>k12o hL o1.o (thA (n:=n) (y:=y) ne h1 o);have kR:=fun n k j fr (h1:1 < k) (h2:1 < j) (h3:k≠j) (h4:k < n) (h5:j < n) (o:qi2 k j fr)=>upA (rest:=[.str nm]) (v:=.bool (qih nm s).2) (s':=(qih nm s).1) (y:=s) hR (k13 (T:=[e13]) rfl ne nm (hb.mono (by omega) (by omega) (by omega) (by omega) (by omega)) hnm (n:=2) (k:=1) (fr:=[]) (by omega) (by omega) (by simp)) rfl rfl ne ne2 ne ⟨h1,h2,h3,h4,h5⟩ o;have kT2:=fun n k j fr (y:SS) (h1:1 < k) (o:qi2 k j fr)=>q11 hT (thA (n:=n) (y:=y) ne2 h1 o) o2;have kL2:=fun n k j fr (y:SS) (h1:1 < k) (o:qi2 k j fr)=>k12o hL o2.o (thA (n:=n) (y:=y) ne2 h1 o);rw[hc.order]at kT1 kL1;rw[g1.order,g2]at kT2;rw[g1.order]at kL2;have l1:=fun H=>qgi (H:=H) (L:=flat c);have l2:=fun H=>qgi (H:=H) (L:=flat c');have hge:((flat c).length:Int)<=((flat c').length:Int):=by omega
  clear hT hL hR hb hc hrun g1 g2 g3 o1 o2 hnm;generalize Txt s.tree (flat c)=W at *;generalize (qih nm s).1=s2 at *;generalize (qih nm s).2=b at *;generalize flat c=L1 at *;generalize flat c'=L2 at *
  (repeat' (first
   |with_reducible apply qad
   |(with_reducible apply rE;simp[zS, *,SS.post];exact rfl)
   |(with_reducible apply qaf;simp only[qab,qa4])
   |(refine qal mixed qaz (by decide +kernel) (by decide +kernel) rfl ?_;apply qdm;simp[zS,zW,qb4,qbc,qar,Heap.lay,qap, *,SS.post];exact rfl)
   |(with_reducible apply qav;refine⟨by repeat first|exact qc6|refine qc7 (by decide +kernel) ?_,?_⟩;simp only[qab,qa4,allPend,Heap.lay,qap])
   |(with_reducible apply qa7;simp[zQ,Tryz.f3])))
  all_goals first|(skip)|(exfalso;omega)
  all_goals exact⟨[],[],by simp[qas,qa2],.keep0 rfl⟩
 apply qR;simp[zS,hlk];apply qa3;refine qb6 (fun x:Nat × SS=>(⟨[0,1,4,5,6,7,8,9,10,15,16,17],[uD,.str nm,uD,.ptr 0 0,.ptr 1 0,uD,uD,uD,uD,qz2 l,.int .i64 (l.length:Int),.int .i64 (x.1:Int)],[],77,⟨4,[[],VS 2 x.2,VP 1 3 x.2]⟩⟩ : St)) (fun x=>x.1<=l.length/\x.1<=40/\BI (2+110 * x.1) (200+60 * x.1) 14 (1+x.1) x.1 x.2/\∃c,ED x.2 c) (fun x=>l.length - x.1) [(2,2),(0,0),(5,3),(3,1)] [] (0,s0) ⟨jx _,by simp,s0_bi9,_,s0_ed⟩ ⟨rfl,rfl,rfl,by simp[qb8,qas,qaw,qa2,qz2],?_⟩ ?_
 ·exact fit_new
 clear ne0 bN hnew hnew2 ka hT hL hR hA;rintro⟨j,s⟩ ⟨hj,hj4,hs,c,hc⟩ B hB;simp only at hj hj4 hs hc hB;have ne:=hs.ne;have fin:=fun(n k j:Nat) (f:List (Nat × Blk)) (x:SS) (ne:x.tree≠[]) (d:1 < k/\1 < j/\k≠j) (o:qi2 k j f)=>fit2 (N:=0) (n:=n) (L:=[[]]) (s:=x) (y:=x) (k':=2) (j':=3) (m':=4) (.inr rfl) d ⟨by omega,by omega,by omega,by omega,by omega⟩ ⟨by omega,by omega,by omega⟩ ne ne o;have hb5:BI 5000 10000 14 100 100 s:=hs.mono (by omega) (by omega) (by omega) (by omega) (by omega);have hE:=fun s' hf=>hE s' s ⟨hb5,c,hc⟩ hf;by_cases hjl:j < l.length
 ·have hcj:((j:Int) < (l.length:Int)):=by omega
  have hix:=htk j hjl;have hjw:=qbb (show j<=1000000000 by omega);clear htk hlk;generalize l[j]=w at *;obtain⟨⟨dd,sp,x,L⟩,dk⟩:=w;simp only at hix;have kP:∀H,qb5 (ctx T) (.fn 9) [.agg [.int .i64 dd,.int .i64 sp,.str x,qae L]] H=some (.bool (qms ⟨dd,sp,x,L⟩),H):=fun H=>k9 hP ⟨dd,sp,x,L⟩ H;have sA:(qae L).single=true:=rfl;have rA:refs 4 (qae L)=[]:=rfl;have rB:refs 5 (qae L)=[]:=rfl;have ob2:zax 31 objs=false:=rfl;by_cases c1:40<=j
  ·have c1':(40:Int)<=(j:Int):=(by omega);clear hB hD hP kP
   exact zL0
  have c1':¬ (40:Int)<=(j:Int):=by omega
  cases hsm:qms ⟨dd,sp,x,L⟩with
  |false=>
   rw[hsm]at kP;clear hB hD hP
   exact zL0
  |true=>
   rw[hsm]at kP;have hok:=small_ok hsm;by_cases c2:40 < nm.length
   ·have c2':(40:Int) < (nm.length:Int):=(by omega);clear hB hD hP
    exact zL0
   have c2':¬ (40:Int) < (nm.length:Int):=(by omega);by_cases c6:dk=6
   ·have hB:=fun s' hf=>hB s' (j+1,s) (by simp only;omega) ⟨by simp only;omega,by simp only;omega,hs.mono (by simp only;omega) (by simp only;omega) (by omega) (by simp only;omega) (by simp only;omega),c,hc⟩ hf;simp only at hB;clear hE hD hP hsm
    exact zL0
   ·have hs2:=hs.op19 (o:=⟨dd,sp,x,L⟩) (k:=dk) hok (by omega) (by omega) (by omega);obtain⟨c',hc'⟩:=hc.op19 hs (by omega) ⟨dd,sp,x,L⟩ dk;have ne2:=hs2.ne;have kD:∀n k j fr (h1:1 < k) (h2:1 < j) (h3:k≠j) (h4:k < n) (h5:j < n) (o:qi2 k j fr),qb5 (ctx T) (.fn 10) [.ptr 0 0,.ptr 1 0,.agg [.int .i64 dd,.int .i64 sp,.str x,qae L,.int .i64 dk]] ⟨n,[fr,VS k s,VP 1 j s]⟩=some (.bool true,⟨n+2,[fr,VS n (op19 s ⟨dd,sp,x,L⟩ dk),VP 1 (n+1) (op19 s ⟨dd,sp,x,L⟩ dk)]⟩):=fun n k j fr h1 h2 h3 h4 h5 o=>k10 hD ne ⟨dd,sp,x,L⟩ dk ⟨hs.mono (by omega) (by omega) (by omega) (by omega) (by omega),hok,c6⟩ ⟨h1,h2,h3,h4,h5⟩ o;have hB:=fun s' hf=>hB s' (j+1,op19 s ⟨dd,sp,x,L⟩ dk) (by simp only;omega) ⟨by simp only;omega,by simp only;omega,hs2.mono (by simp only;omega) (by simp only;omega) (by omega) (by simp only;omega) (by simp only;omega),c',hc'⟩ hf;simp only at hB;clear hE hD hP hsm hs2 hc' hc hs hb5 hok;generalize op19 s ⟨dd,sp,x,L⟩ dk=S1 at *
    (repeat' (first
     |with_reducible apply qad
     |with_reducible apply qa3
     |(with_reducible apply rE;simp[zS, *];exact rfl)
     |(with_reducible apply qaf;simp only[qab,qa4])
     |apply qag rfl
     |apply qaj rfl
     |(with_reducible apply qa5;simp only[qab,qa4])))
    all_goals first|(skip)|(exfalso;omega)
    all_goals exact hB _ ⟨[(5,2),(0,0),(6,3),(1,1)],[],rfl,rfl,rfl,by simp[qb8,qas,qaw,qa2,qz2],fin _ _ _ _ _ ne2 (by decide) (by simp)⟩
 ·have hcj:¬ ((j:Int) < (l.length:Int)):=by omega
  clear hB htk hlk hD hP
  exact zL0
