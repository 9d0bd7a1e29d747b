/- ref12.Place. No condition. -/
import Derived.Test.YtocnpnnplllneaaGreatDoorMO
namespace Go.Proofs.YtocnpnnplllneaaGreatDoor
noncomputable section
set_option linter.unusedSimpArgs false
set_option linter.unusedVariables false
open Go Go.RowKit
abbrev zam:=List (Nat × Nat) × Wk
def stpW(n:Nat) (ks:Nat->List Int):zam->Option zam
 |([],_)=>none
 |((i,j)::p,w)=>match (ks i)[j]? with
  |none=>some (p,outof i w)
  |some k=>if 0<=k/\k < (n:Int)/\w.inn.getD k.toNat 0 < 0 then some ((k.toNat,0)::(i,j+1)::p,into k.toNat w) else some ((i,j+1)::p,w)
inductive ReachW (n:Nat) (ks:Nat->List Int):zam->zam->Prop where
 |refl (c:zam):ReachW n ks c c
 |step {c d e:zam} (h:stpW n ks c=some d) (r:ReachW n ks d e):ReachW n ks c e
theorem ReachW.trans{n:Nat} {ks:Nat->List Int} {c d e:zam} (h:ReachW n ks c d) (r:ReachW n ks d e):ReachW n ks c e:=by
 induction h with
 |refl=>exact r
 |step h _ ih=>exact .step h (ih r)
theorem ReachW.one{n:Nat} {ks:Nat->List Int} {c d e:zam} (r:ReachW n ks c d) (h:stpW n ks d=some e):ReachW n ks c e:=r.trans (.step h (.refl _))
def wkOf(n:Nat) (ks:Nat->List Int):Wk:=if n=0 then w0 0 else vis n ks n 0 (w0 n)
theorem wk_list{n:Nat} {ks:Nat->List Int}:(wkOf n ks).l=qcn n ks:=by
 unfold wkOf qcn;split
 ·simp[w0]
 ·rfl
theorem qhz{l:List Int} {i j:Nat} {x:Int}:(l.set i x).getD j 0=if i=j/\i < l.length then x else l.getD j 0:=by
 simp only[List.getD_eq_getElem?_getD,List.getElem?_set];by_cases h:i=j
 ·subst h;by_cases h2:i < l.length
  ·simp[h2]
  ·simp[h2]
 ·simp[h]
structure WokW (n:Nat) (P:Nat) (w:Wk):Prop where
 li:w.inn.length=n
 lo:w.out.length=n
 c1:1<=w.c
 cu:w.c+2 * (ql7 w.inn:Int)+P<=2 * n
 no:∀i,i < n->w.inn.getD i 0 < 0->w.out.getD i 0 = -1
theorem WokW.into{n P i:Nat} {w:Wk} (h:WokW n P w) (hi:i < n) (hn:w.inn.getD i 0 < 0):WokW n (P+1) (into i w)/\ql7 (Go.Proofs.YtocnpnnplllneaaGreatDoor.into i w).inn+1=ql7 w.inn:=by
 have e:=qmd (I:=w.inn) (c:=w.c) (by rw[h.li];exact hi) hn (by have:=h.c1;omega);have h1:=h.cu;have h2:=h.c1;refine⟨⟨by simp[Go.Proofs.YtocnpnnplllneaaGreatDoor.into,h.li],h.lo,?_,?_,fun j hj hlt=>?_⟩,e⟩
 ·simp only[Go.Proofs.YtocnpnnplllneaaGreatDoor.into];omega
 ·simp only[Go.Proofs.YtocnpnnplllneaaGreatDoor.into];omega
 ·simp only[Go.Proofs.YtocnpnnplllneaaGreatDoor.into,qhz]at hlt;split at hlt
  ·omega
  ·exact h.no j hj hlt
theorem WokW.outof{n P i:Nat} {w:Wk} (h:WokW n (P+1) w) (hi:0<=w.inn.getD i 0):WokW n P (outof i w):=by
 have h1:=h.cu;have h2:=h.c1;refine⟨h.li,by simp[Go.Proofs.YtocnpnnplllneaaGreatDoor.outof,h.lo],by simp only[Go.Proofs.YtocnpnnplllneaaGreatDoor.outof];omega,by simp only[Go.Proofs.YtocnpnnplllneaaGreatDoor.outof];omega,fun j hj hlt=>?_⟩;have hlt':w.inn.getD j 0 < 0:=hlt;simp only[Go.Proofs.YtocnpnnplllneaaGreatDoor.outof,qhz];rw[if_neg]
 ·exact h.no j hj hlt'
 ·rintro⟨rfl,_⟩;omega
set_option maxRecDepth 100000
theorem ReachW.inv{n:Nat} {ks:Nat->List Int} {J:zam->Prop} (hs:∀c d,stpW n ks c=some d->J c->J d) {c d:zam} (h:ReachW n ks c d) (hc:J c):J d:=by
 induction h with
 |refl=>exact hc
 |step h _ ih=>exact ih (hs _ _ h hc)
structure JW (n:Nat) (c:zam):Prop where
 k:WokW n c.1.length c.2
 p:∀e,e∈c.1->e.1 < n
 q:∀e,e∈c.1->0<=c.2.inn.getD e.1 0
 i:∀j,-1<=c.2.inn.getD j 0/\c.2.inn.getD j 0<=2 * n
 o:∀j,-1<=c.2.out.getD j 0/\c.2.out.getD j 0<=2 * n
theorem JW.step{n:Nat} {ks:Nat->List Int} {c d:zam} (h:stpW n ks c=some d) (j:JW n c):JW n d:=by
 obtain⟨p,w⟩:=c;cases p with
 |nil=>cases h
 |cons e p=>
  obtain⟨i,m⟩:=e;have hc:=j.k.cu;have hc1:=j.k.c1;simp only[List.length_cons]at hc;simp only at hc1;simp only[stpW]at h;split at h
  ·simp only[sj]at h;subst h;refine⟨j.k.outof (j.q (i,m) (by simp)),fun e he=>j.p e (by simp[he]),fun e he=>j.q e (by simp[he]),j.i,fun k=>?_⟩;simp only[outof,qhz];split
   ·constructor<;>omega
   ·exact j.o k
  ·rename_i k hk;split at h
   ·rename_i hx;simp only[sj]at h;subst h;have hkn:k.toNat < n:=(by omega);refine⟨by have:=(j.k.into hkn hx.2.2).1;simpa using this,fun e he=>?_,fun e he=>?_,fun l=>?_,j.o⟩
    ·simp only[List.mem_cons]at he;rcases he with rfl|rfl|he
     ·exact hkn
     ·exact j.p (i,m) (by simp)
     ·exact j.p e (by simp[he])
    ·simp only[into,qhz];split
     ·omega
     ·rename_i hne;simp only[List.mem_cons]at he;rcases he with rfl|rfl|he
      ·exact absurd ⟨rfl,by rw[j.k.li];exact hkn⟩ hne
      ·exact j.q (i,m) (by simp)
      ·exact j.q e (by simp[he])
    ·simp only[into,qhz];split
     ·constructor<;>omega
     ·exact j.i l
   ·simp only[sj]at h;subst h;refine⟨j.k,fun e he=>?_,fun e he=>?_,j.i,j.o⟩
    ·simp only[List.mem_cons]at he;rcases he with rfl|he
     ·exact j.p (i,m) (by simp)
     ·exact j.p e (by simp[he])
    ·simp only[List.mem_cons]at he;rcases he with rfl|he
     ·exact j.q (i,m) (by simp)
     ·exact j.q e (by simp[he])
def inA(w:Wk) (a:Int):Int:=w.inn.getD a.toNat 0
def qik(w:Wk) (a:Int):Int:=w.out.getD a.toNat 0
structure J2 (n:Nat) (c:zam):Prop where
 j:JW n c
 a0:∀a,a∈c.2.l->0<=a/\a < (n:Int)/\0<=inA c.2 a/\inA c.2 a < c.2.c
 srt:c.2.l.Pairwise fun a b=>inA c.2 a < inA c.2 b
 all:∀i:Nat,i < n->0<=c.2.inn.getD i 0->(i:Int)∈c.2.l
 pl:∀e,e∈c.1->(e.1:Int)∈c.2.l
 ps:c.1.Pairwise fun x y=>c.2.inn.getD y.1 0 < c.2.inn.getD x.1 0
 cl:∀a,a∈c.2.l->(∃e,e∈c.1/\(e.1:Int)=a)\/(inA c.2 a < qik c.2 a/\qik c.2 a < c.2.c)
 lam:∀a b,a∈c.2.l->b∈c.2.l->inA c.2 a < inA c.2 b->(∃e,e∈c.1/\(e.1:Int)=a)\/qik c.2 a < inA c.2 b\/((∀e,e∈c.1->(e.1:Int)≠b)/\qik c.2 b < qik c.2 a)
theorem qot{w:Wk} {i:Nat} {a:Int} (hi:i < w.inn.length) (ha:0<=a):inA (into i w) a=if (i:Int)=a then w.c else inA w a:=by
 simp only[inA,into,qhz];by_cases h:(i:Int)=a
 ·have:i=a.toNat:=by omega
  simp[h,<- this,hi]
 ·have:¬ i=a.toNat:=by omega
  simp[h,this]
theorem ze2{w:Wk} {i:Nat} {a:Int}:qik (into i w) a=qik w a:=rfl
theorem zf6{w:Wk} {i:Nat} {a:Int}:inA (outof i w) a=inA w a:=rfl
theorem qry{w:Wk} {i:Nat} {a:Int} (hi:i < w.out.length) (ha:0<=a):qik (outof i w) a=if (i:Int)=a then w.c else qik w a:=by
 simp only[qik,outof,qhz];by_cases h:(i:Int)=a
 ·have:i=a.toNat:=by omega
  simp[h,<- this,hi]
 ·have:¬ i=a.toNat:=by omega
  simp[h,this]
theorem J2.step{n:Nat} {ks:Nat->List Int} {c d:zam} (h:stpW n ks c=some d) (j:J2 n c):J2 n d:=by
 have hj:=j.j.step h;obtain⟨p,w⟩:=c;cases p with
 |nil=>cases h
 |cons e p=>
  obtain⟨i,m⟩:=e;have hli:=j.j.k.li;have hlo:=j.j.k.lo;have hc1:=j.j.k.c1;have hin:i < n:=j.j.p (i,m) (by simp);simp only at hli hlo hc1;have hps:=j.ps;simp only[List.pairwise_cons]at hps;simp only[stpW]at h;split at h
  ·simp only[sj]at h;subst h;have hil:=j.pl (i,m) (by simp);simp only at hil;have e1:∀a,inA (outof i w) a=inA w a:=fun a=>rfl;have e2:∀a,0<=a->qik (outof i w) a=if (i:Int)=a then w.c else qik w a:=fun a ha=>qry (by omega) ha;have hci:=(j.a0 _ hil).2.2.2;simp only at hci;refine⟨hj,fun a ha=>?_,j.srt,j.all,fun e he=>j.pl e (by simp[he]),hps.2,fun a ha=>?_,fun a b ha hb hab=>?_⟩
   ·have:=j.a0 a ha;exact⟨this.1,this.2.1,this.2.2.1,by show inA w a < w.c+1;have:=this.2.2.2;simp only at this;omega⟩
   ·have h0:=(j.a0 a ha).1;by_cases hia:(i:Int)=a
    ·right;show inA w a < qik (outof i w) a/\qik (outof i w) a < w.c+1;rw[e2 a h0,if_pos hia,<- hia];exact⟨hci,by omega⟩
    ·rcases j.cl a ha with⟨e,he,hea⟩|hcl
     ·simp only[List.mem_cons]at he;rcases he with rfl|he
      ·exact absurd hea hia
      ·exact .inl ⟨e,he,hea⟩
     ·right;show inA w a < qik (outof i w) a/\qik (outof i w) a < w.c+1;rw[e2 a h0,if_neg hia];have h3:inA w a < qik w a/\qik w a < w.c:=hcl;omega
   ·have ha0:=(j.a0 a ha).1;have hb0:=(j.a0 b hb).1;show (∃e,e∈p/\(e.1:Int)=a)\/qik (outof i w) a < inA w b\/((∀e,e∈p->(e.1:Int)≠b)/\qik (outof i w) b < qik (outof i w) a);rw[e2 a ha0,e2 b hb0];have hab':inA w a < inA w b:=hab;by_cases hia:(i:Int)=a
    ·rw[if_pos hia];have hib:¬ (i:Int)=b:=fun e=>(by rw[<- hia,<- e]at hab';omega);rw[if_neg hib];right;right;have hnb:∀e,e∈p->(e.1:Int)≠b:=fun e he hb'=>(by have h1:=hps.1 e he;have:inA w b=w.inn.getD e.1 0:=(by rw[<- hb'];simp[inA]);have h2:inA w a=w.inn.getD i 0:=(by rw[<- hia];simp[inA]);omega);refine⟨hnb,?_⟩;rcases j.cl b hb with⟨e,he,heb⟩|hcl
     ·simp only[List.mem_cons]at he;rcases he with rfl|he
      ·exact absurd heb hib
      ·exact absurd heb (hnb e he)
     ·exact hcl.2
    ·rw[if_neg hia];rcases j.lam a b ha hb hab with⟨e,he,hea⟩|h1|⟨h1,h2⟩
     ·simp only[List.mem_cons]at he;rcases he with rfl|he
      ·exact absurd hea hia
      ·exact .inl ⟨e,he,hea⟩
     ·exact .inr (.inl h1)
     ·have hib:¬ (i:Int)=b:=h1 (i,m) (by simp);rw[if_neg hib];exact .inr (.inr ⟨fun e he=>h1 e (by simp[he]),h2⟩)
  ·rename_i k hk;split at h
   ·rename_i hx;simp only[sj]at h;subst h;have hkn:k.toNat < n:=(by omega);have hkk:((k.toNat:Nat):Int)=k:=(by omega);have hkl:k ∉ w.l:=fun hm=>(by have:=(j.a0 k hm).2.2.1;simp only[inA]at this;omega);have e1:∀a,0<=a->inA (into k.toNat w) a=if k=a then w.c else inA w a:=fun a ha=>(by rw[qot (by omega) ha,hkk]);have e3:∀a,a∈w.l->inA (into k.toNat w) a=inA w a:=fun a ha=>(by rw[e1 a (j.a0 a ha).1,if_neg (fun(e:k=a)=>hkl (e ▸ ha))]);have ek:inA (into k.toNat w) k=w.c:=(by rw[e1 k hx.1,if_pos rfl]);have hl:(into k.toNat w).l=w.l++[k]:=(by simp[into,hkk]);have e4:∀e,e∈(i,m)::p->(into k.toNat w).inn.getD e.1 0=w.inn.getD e.1 0:=fun e he=>(by have:=e3 _ (j.pl e he);simpa[inA]using this);have hlt:∀a,a∈w.l->inA w a < w.c:=fun a ha=>(j.a0 a ha).2.2.2;refine⟨hj,fun a ha=>?_,?_,fun x hx2 h0=>?_,fun e he=>?_,?_,fun a ha=>?_,fun a b ha hb hab=>?_⟩
    ·simp only[hl,List.mem_append,List.mem_singleton]at ha;rcases ha with ha|rfl
     ·have:=j.a0 a ha;refine⟨this.1,this.2.1,by simp only;rw[e3 a ha];exact this.2.2.1,?_⟩;simp only;rw[e3 a ha];have:=hlt a ha;simp only[into];omega
     ·refine⟨hx.1,hx.2.1,by simp only;rw[ek];omega,?_⟩;simp only;rw[ek];simp only[into];omega
    ·simp only[hl];rw[List.pairwise_append];refine⟨?_,by simp,fun a ha b hb=>?_⟩
     ·refine j.srt.imp_of_mem fun ha hb hab=>?_;rw[e3 _ ha,e3 _ hb];exact hab
     ·simp only[List.mem_singleton]at hb;subst hb;rw[e3 a ha,ek];exact hlt a ha
    ·simp only[hl,List.mem_append,List.mem_singleton];by_cases hxk:x=k.toNat
     ·right;omega
     ·left;refine j.all x hx2 ?_;simp only[into,qhz]at h0;rw[if_neg (by omega)]at h0;exact h0
    ·simp only[hl,List.mem_append,List.mem_singleton];simp only[List.mem_cons]at he;rcases he with rfl|rfl|he
     ·right;simp only;omega
     ·exact .inl (j.pl (i,m) (by simp))
     ·exact .inl (j.pl e (by simp[he]))
    ·simp only[List.pairwise_cons];have key:∀e,e∈(i,m)::p->(into k.toNat w).inn.getD e.1 0 < (into k.toNat w).inn.getD k.toNat 0:=fun e he=>(by rw[e4 e he];have h1:=hlt _ (j.pl e he);have h2:(into k.toNat w).inn.getD k.toNat 0=w.c:=ek;rw[h2];simpa[inA]using h1);refine⟨fun e he=>?_,fun e he=>?_,?_⟩
     ·simp only[List.mem_cons]at he;rcases he with rfl|he
      ·exact key (i,m) (by simp)
      ·exact key e (by simp[he])
     ·have h1:=hps.1 e he;have h2:=e4 e (by simp[he]);have h3:=e4 (i,m) (by simp);simp only at h1 h2 h3 ⊢;rw[h2,h3];exact h1
     ·refine hps.2.imp_of_mem fun {x y} hx hy hxy=>?_;rw[e4 x (by simp[hx]),e4 y (by simp[hy])];exact hxy
    ·simp only[hl,List.mem_append,List.mem_singleton]at ha;rcases ha with ha|rfl
     ·rcases j.cl a ha with⟨e,he,hea⟩|hcl
      ·left;simp only[List.mem_cons]at he;rcases he with rfl|he
       ·exact⟨(i,m+1),by simp,hea⟩
       ·exact⟨e,by simp[he],hea⟩
      ·right;simp only;rw[e3 a ha,ze2];simp only at hcl;simp only[into];omega
     ·exact .inl ⟨(a.toNat,0),by simp,hkk⟩
    ·simp only[hl,List.mem_append,List.mem_singleton]at ha hb;rcases ha with ha|rfl
     ·rcases hb with hb|rfl
      ·simp only at hab ⊢;rw[e3 a ha,e3 b hb]at hab;rw[e3 b hb];rcases j.lam a b ha hb hab with⟨e,he,hea⟩|h1|⟨h1,h2⟩
       ·left;simp only[List.mem_cons]at he;rcases he with rfl|he
        ·exact⟨(i,m+1),by simp,hea⟩
        ·exact⟨e,by simp[he],hea⟩
       ·exact .inr (.inl h1)
       ·refine .inr (.inr ⟨fun e he=>?_,h2⟩);simp only[List.mem_cons]at he;rcases he with rfl|rfl|he
        ·simp only;rw[hkk];exact fun e=>hkl (e ▸ hb)
        ·exact h1 (i,m) (by simp)
        ·exact h1 e (by simp[he])
      ·simp only;rw[ek];rcases j.cl a ha with⟨e,he,hea⟩|hcl
       ·left;simp only[List.mem_cons]at he;rcases he with rfl|he
        ·exact⟨(i,m+1),by simp,hea⟩
        ·exact⟨e,by simp[he],hea⟩
       ·exact .inr (.inl hcl.2)
     ·rcases hb with hb|rfl
      ·simp only at hab;rw[ek,e3 b hb]at hab;have:=hlt b hb;omega
      ·simp only at hab;omega
   ·simp only[sj]at h;subst h;have ex:∀a:Int,(∃e,e∈(i,m)::p/\(e.1:Int)=a)->∃e,e∈(i,m+1)::p/\(e.1:Int)=a:=by
     rintro a ⟨e,he,hea⟩;simp only[List.mem_cons]at he;rcases he with rfl|he
     ·exact⟨(i,m+1),by simp,hea⟩
     ·exact⟨e,by simp[he],hea⟩
    refine⟨hj,j.a0,j.srt,j.all,fun e he=>?_,?_,fun a ha=>?_,fun a b ha hb hab=>?_⟩
    ·simp only[List.mem_cons]at he;rcases he with rfl|he
     ·exact j.pl (i,m) (by simp)
     ·exact j.pl e (by simp[he])
    ·simp only[List.pairwise_cons];exact⟨fun e he=>hps.1 e he,hps.2⟩
    ·rcases j.cl a ha with h1|h1
     ·exact .inl (ex a h1)
     ·exact .inr h1
    ·rcases j.lam a b ha hb hab with h1|h1|⟨h1,h2⟩
     ·exact .inl (ex a h1)
     ·exact .inr (.inl h1)
     ·refine .inr (.inr ⟨fun e he=>?_,h2⟩);simp only[List.mem_cons]at he;rcases he with rfl|he
      ·exact h1 (i,m) (by simp)
      ·exact h1 e (by simp[he])
theorem CallAt.post{C:Ctx} {f:FuncId} {args:List AV} {v v':AV} {H H1 H':Heap} {σ:List (Nat × Nat)} {Φ:List (Nat × List AV)} (h:CallAt C f args H v H1) (fv:qas σ Φ v v') (fh:FitH H.n σ Φ H1 H'):CallAt C f args H v' H':=by
 intro ρ w xs sm hx;have dn:∀{x:Value} {ρ':Place} {w':World},VR ρ' v x->Sim ρ' H1 w'->Step ρ H w ρ' H1 w'->∃ρ'',VR ρ'' v' x/\Sim ρ'' H' w'/\Step ρ H w ρ'' H' w':=fun {x ρ' w'} h1 h2 h3=>by
  have at_low:∀b,b < H.n->(qeb H.n σ Φ ρ' w' h2.below) b=ρ b:=fun b hb=>by show (if b < H.n then ρ' b else _)=_;rw[if_pos hb];exact h3.low b hb
  refine⟨qeb H.n σ Φ ρ' w' h2.below,Fits.run (fh.fits h2) h2 _ (Nat.le_refl _) h1 fv,fh.sim h2 h3.num,⟨⟨fun b l hb=>?_,fun k hk=>?_,?_,?_,?_⟩,h3.size,h3.keeps,fun e he l hl=>?_,fh.num,at_low,fun k hk=>?_⟩⟩
  ·have hlt:b < H.n:=by
    rcases Nat.lt_or_ge b H.n with hq|hq
    ·exact hq
    ·rw[sm.dom b hq]at hb;cases hb
   rw[at_low b hlt];exact hb
  ·obtain⟨g1,g2⟩:=h3.le.fz k hk;exact⟨.inl g1,(h2.below k g1).trans g2⟩
  ·exact h2.os.trans h3.le.os
  ·exact h2.tape.trans h3.le.tape
  ·exact h2.output.trans h3.le.output
  ·obtain⟨c,k,g1,g2,_⟩:=fh.src e he;rw[qet fh g1]at hl;exact h3.rows _ (Heap.get_mem g2) l hl
  ·rcases hk with hk|⟨b,cs,l,m1,m2,rfl⟩
   ·exact h3.cold k hk
   ·obtain⟨cs0,g1,_⟩:=fh.frz _ m1;rcases h3.rows _ (Heap.get_mem g1) l m2 with⟨e,he,l0,q1,q2⟩|hge
    ·exact .inr (.inl ⟨e,he,l0,q1,q2⟩)
    ·exact .inr (.inr hge)
 rcases h ρ w xs sm hx with⟨x,ρ',w',h0,h1,h2,h3⟩|⟨g,ys,h0,h1⟩
 ·obtain⟨ρ'',k1,k2,k3⟩:=dn h1 h2 h3;exact .inl ⟨x,ρ'',w',h0,k1,k2,k3⟩
 ·refine .inr ⟨g,ys,h0,h1.mono ?_⟩;rintro e w' ⟨x,ρ',rfl,m1,m2,m3⟩;obtain⟨ρ'',k1,k2,k3⟩:=dn m1 m2 m3;exact⟨x,ρ'',rfl,k1,k2,k3⟩
theorem qk0{α:Type} {p:α->Bool}:∀(L:List α) (k:Nat),(qbo p L k = -1/\∀a,a∈L->p a=false)\/∃i,∃h:i < L.length,qbo p L k=(k+i:Nat)/\p L[i]=true/\∀a,a∈L.take i->p a=false
 |[],k=>.inl ⟨rfl,fun a ha=>by cases ha⟩
 |x::r,k=>by
  by_cases hx:p x=true
  ·exact .inr ⟨0,by simp,by simp[qbo,hx],by simpa using hx,fun a ha=>by simp at ha⟩
  ·simp only[Bool.not_eq_true]at hx;rcases qk0 r (k+1)with⟨h1,h2⟩|⟨i,h,h1,h2,h3⟩
   ·refine .inl ⟨by rw[qbo,if_neg (by simp[hx]),h1],fun a ha=>?_⟩;rcases List.mem_cons.1 ha with rfl|ha
    ·exact hx
    ·exact h2 a ha
   ·refine .inr ⟨i+1,by simpa using h,by simp[qbo,hx,h1];omega,by simpa using h2,fun a ha=>?_⟩;rw[List.take_succ_cons]at ha;rcases List.mem_cons.1 ha with rfl|ha
    ·exact hx
    ·exact h3 a ha
structure DelOk (L:List Int) (p:Int->Bool) (i j:Nat) (R:List Int):Prop where
 ij:i < j
 jn:j<=L.length
 len:R.length=L.length
 fr:R.take i=(L.take j).filter fun a=>!p a
 bk:R.drop j=L.drop j
theorem DelOk.keep{L R:List Int} {p:Int->Bool} {i j:Nat} (h:DelOk L p i j R) (hj:j < L.length) (hp:p L[j]=false):DelOk L p (i+1) (j+1) (R.set i L[j]):=by
 have hR:j < R.length:=by rw[h.len];exact hj
 have hij:=h.ij;refine⟨by omega,by omega,by simp[h.len],?_,?_⟩
 ·rw[List.take_succ_eq_append_getElem hj,List.filter_append,<- h.fr,List.take_succ_eq_append_getElem (by simp;omega)];simp[hp,List.take_set_of_le]
 ·rw[List.drop_set_of_lt (by omega)];have:=h.bk;rw[List.drop_eq_getElem_cons hR,List.drop_eq_getElem_cons hj]at this;exact(List.cons.inj this).2
theorem DelOk.pass{L R:List Int} {p:Int->Bool} {i j:Nat} (h:DelOk L p i j R) (hj:j < L.length) (hp:p L[j]=true):DelOk L p i (j+1) R:=by
 have hR:j < R.length:=by rw[h.len];exact hj
 have hij:=h.ij;refine⟨by omega,by omega,h.len,?_,?_⟩
 ·rw[List.take_succ_eq_append_getElem hj,List.filter_append,<- h.fr];simp[hp]
 ·have:=h.bk;rw[List.drop_eq_getElem_cons hR,List.drop_eq_getElem_cons hj]at this;exact(List.cons.inj this).2
theorem DelOk.start{L:List Int} {p:Int->Bool} {i:Nat} (hi:i < L.length) (hp:p L[i]=true) (hb:∀a,a∈L.take i->p a=false):DelOk L p i (i+1) L:=by
 refine⟨by omega,by omega,rfl,?_,rfl⟩;rw[List.take_succ_eq_append_getElem hi,List.filter_append];have:(L.take i).filter (fun a=>!p a)=L.take i:=List.filter_eq_self.2 fun a ha=>by simp[hb a ha]
 simp[this,hp]
@[simp]theorem szT157:qce PG 157=some 1:=rfl
@[simp]theorem agT157:qia PG 157=some false:=rfl
@[simp]theorem byT157:qcq PG 157=some 8:=rfl
@[simp]theorem alT157(H:Heap):alV PG H 157=some (.ptr H.n 0,H.new (.cells [.nilF])):=rfl
@[simp]theorem zeT157:qc0 PG 157=some (.nilF):=rfl
attribute [simp] Tryz.underlying157
@[simp 500]theorem rvF157(H:Heap) (cs:List AV) (o:Nat):qaw PG H 157 (.fptr cs o)=qck cs o:=rfl
@[simp 500]theorem rvP157(H:Heap) (b o:Nat):qaw PG H 157 (.ptr b o)=(H.get b).bind fun k=>k.rd.bind fun cs=>qck cs o:=rfl
theorem inj_LI1(x y:List Int) (h:[qbc x]=[qbc y]):x=y:=by simp only[List.cons.injEq]at h;exact qmm h.1
def atP(L:List Int) (i:Int):Int:=qbo (fun k=>decide (k=i)) L 0
def qgp(t:Tr) (i:Int):Int:=if isB t i=true/\isB t (qa1 t i).up=true then atP (qa1 t (qa1 t i).up).kids i else -1
theorem isB_iff{t:Tr} {i:Int}:isB t i=true↔0<=i/\i < (t.length:Int):=by simp[isB]
theorem c30{T:List (Entry PG)} (t:Tr) (i:Int):CA T 30 [qav t,.int .i64 i] zH (.bool (isB t i)) zH:=by
 refine qa0 (s0:=⟨[0,1,2,4],[qav t,.int .i64 i,uD,uD],[],14,⟨0,[[]]⟩⟩) Tryz.func30 rfl rfl rfl ?_;apply ra;simp[zS,qav];by_cases h:0<=i
 ·apply ra;simp[zS,qhl,h];apply qa5;simp[zQ,Tryz.f30];exact qa2 rfl (by simp[isB,h])
 ·apply ra;simp[zS,qhl,h];apply qa5;simp[zQ,Tryz.f30];exact qa2 rfl (by simp[isB,h])
def e30:Entry PG:=mkE 30 [[7],[]] (fun x:Tr × Int=>[qav x.1,.int .i64 x.2]) (fun _=>True) (fun x=>.bool (isB x.1 x.2)) fun x _=>c30 (T:=[]) x.1 x.2
theorem k30{T:List (Entry PG)} (hT:qIn 30 T e30) (t:Tr) (i:Int) (H:Heap):qb6 (ctx T) (.fn 30) [qav t,.int .i64 i] H=some (.bool (isB t i),H):=
 qac hT qtm (t,i) trivial rfl (by simp[zd1])
theorem q30{T:List (Entry PG)} (hT:qIn 30 T e30) {a:AV} {H:Heap} {t:Tr} (ha:qe9 H [7] a=some (qav t)) (i:Int):qb6 (ctx T) (.fn 30) [a,.int .i64 i] H=some (.bool (isB t i),H):=
 qac hT qtm (t,i) trivial rfl (by simp[ha])
theorem c31{T:List (Entry PG)} (hS:qIn 30 T e30) (t:Tr) (ht:t.length<=1000000) (up kid:Int):CA T 31 [qav t,.int .i64 up,.int .i64 kid] zH (.bool (qg6 t up kid)) zH:=by
 have ks:=fun i H=>k30 hS t i H;simp only[qav]at ks;refine qa0 (s0:=⟨[0,1,2,3,6,7],[qav t,.int .i64 up,.int .i64 kid,uD,uD,uD],[],34,⟨0,[[]]⟩⟩) Tryz.func31 rfl rfl rfl ?_;apply ra;simp[zS,qav];apply ra;simp[zS];refine qa7 (qb1 (fun x:Nat × Int=>(⟨[0,1,2,3,6,7],[uD,.int .i64 up,.int .i64 x.2,.ptr 0 0,.bool false,.int .i64 (x.1:Int)],[],34,⟨1,[[(0,.cells [qaa t])]]⟩⟩ : St))
   (fun x=>x.1<=t.length+1/\qg6 t up kid=(isB t up && qhf t up (t.length+1 - x.1) x.2)) (fun x=>t.length+1 - x.1) [(0,0)] [] (0,kid) ⟨by omega,rfl⟩ ⟨rfl,rfl,rfl,by simp[qax,qas,qb2,qab],.id1 (g:=[(0,.cells [qaa t])]) (by simp) (by simp) (by simp[zG,qa9])⟩ ?_)
 rintro⟨i,k⟩ ⟨hi,hx⟩ B hB;simp only at hi hx;by_cases h:i<=t.length
 ·have hc:(i:Int)<=(t.length:Int):=by omega
  have hs:t.length+1 - i=(t.length - i)+1:=by omega
  rw[hs]at hx;have hno:(isB t k=false\/isB t up=false)->qg6 t up kid=false:=fun q=>by
   rw[hx];rcases q with q|q
   ·simp[qhf,q]
   ·simp[q]
  cases h1:isB t k with
  |false=>apply ra;simp[zS,qhl,qav,hc,h,ks,h1];apply qag rfl;apply qar;simp;apply ra;simp[zS];apply qa5;simp[zQ,Tryz.f31];exact qa2 rfl (by rw[hno (.inl h1)])
  |true=>
   cases h0:isB t up with
   |false=>apply ra;simp[zS,qhl,qav,hc,h,ks,h1,h0];apply qag rfl;apply qar;simp;apply ra;simp[zS];apply qa5;simp[zQ,Tryz.f31];exact qa2 rfl (by rw[hno (.inr h0)])
   |true=>
    apply ra;simp[zS,qhl,qav,hc,h,ks,h1,h0];apply qai rfl;apply qa4;simp;repeat apply wq
    apply qa7;by_cases h2:k=up
    ·apply ra;simp[zS,h2];apply qai rfl;apply ra;simp[zS];apply qa5;simp[zQ,Tryz.f31];exact qa2 rfl (by rw[hx];simp[h0,qhf,h1,h2])
    ·have hk:0<=k/\k < (t.length:Int):=(by simpa[isB]using h1);apply ra;simp[zS,h2];apply qag rfl;apply qa4;simp;apply ra;simp[zS,atX hk.1 hk.2,Nd.cs,qb9];apply ra;simp[zS,qbb (show i<=1000000000 by omega)];refine hB _ (i+1,(qa1 t k).up) (by simp only;omega) ⟨by simp only;omega,?_⟩ ⟨[(0,0)],[],rfl,rfl,rfl,by simp[qax,qas,qb2,qab],.id1 (g:=[(0,.cells [qaa t])]) (by simp) (by simp) (by simp[zG,qa9])⟩;simp only;rw[show t.length+1 - (i+1)=t.length - i by omega,hx];simp[h0,qhf,h1,h2]
 ·have hc:¬ (i:Int)<=(t.length:Int):=by omega
  rw[show t.length+1 - i=0 by omega]at hx;apply ra;simp[zS,qhl,qav,hc,h];apply qag rfl;apply qar;simp;apply ra;simp[zS];apply qa5;simp[zQ,Tryz.f31];exact qa2 rfl (by rw[hx];simp[qhf])
def e31:Entry PG:=mkE 31 [[7],[],[]] (fun x:Tr × Int × Int=>[qav x.1,.int .i64 x.2.1,.int .i64 x.2.2]) (fun x=>x.1.length<=1000000) (fun x=>.bool (qg6 x.1 x.2.1 x.2.2)) fun x h=>c31 (T:=[e30]) rfl x.1 h x.2.1 x.2.2
theorem q31{T:List (Entry PG)} (hT:qIn 31 T e31) {a:AV} {H:Heap} {t:Tr} (ha:qe9 H [7] a=some (qav t)) (ht:t.length<=1000000) (up kid:Int):qb6 (ctx T) (.fn 31) [a,.int .i64 up,.int .i64 kid] H=some (.bool (qg6 t up kid),H):=
 qac hT injTII (t,up,kid) ht rfl (by simp[ha])
theorem c45{T:List (Entry PG)} (hS:qIn 30 T e30) (t:Tr) (hk:∀n,n∈t->n.kids.length<=1000000) (i:Int):CA T 45 [qav t,.int .i64 i] zH (.int .i64 (qgp t i)) zH:=by
 have ks:=fun i H=>k30 hS t i H;simp only[qav]at ks;by_cases h1:isB t i=true
 ·obtain⟨i0,i1⟩:=isB_iff.1 h1;have a1:=atX i0 i1;have c5:qck (qa1 t i).cs 5=some (.int .i64 (qa1 t i).up):=rfl;by_cases h2:isB t (qa1 t i).up=true
  ·obtain⟨u0,u1⟩:=isB_iff.1 h2;have a2:=atX u0 u1;have c6:qck (qa1 t (qa1 t i).up).cs 6=some (qbc (qa1 t (qa1 t i).up).kids):=rfl;have hl:=hk _ (qb3 u0 u1);have e:qgp t i=atP (qa1 t (qa1 t i).up).kids i:=(by unfold qgp;rw[if_pos ⟨h1,h2⟩]);rw[e];generalize (qa1 t (qa1 t i).up).kids=K at *;refine qa0 (s0:=⟨[0,1,2,4,5,6],[qav t,.int .i64 i,uD,uD,uD,uD],[],46,⟨0,[[]]⟩⟩) Tryz.func45 rfl rfl rfl ?_;apply ra;simp[zS,qav];repeat apply wq
   refine qc8 mixed qbf (by decide +kernel) fun B_ hB_=>?_;have hD_:ahead B_ 0 2=true/\ahead B_ 0 12=true/\ahead B_ 2 0=false/\ahead B_ 2 5=true/\ahead B_ 2 7=true/\ahead B_ 2 11=true/\ahead B_ 5 2=false/\ahead B_ 5 12=true/\ahead B_ 7 2=false/\ahead B_ 7 12=true/\ahead B_ 11 2=false/\ahead B_ 11 12=true/\ahead B_ 12 0=false/\ahead B_ 12 5=false/\ahead B_ 12 7=false/\ahead B_ 12 11=false:=(by rw[hB_];decide +kernel);apply qi9 B_;simp[zS,qdl,qc6,qc3,qbk,qap,qb4,qaz,Heap.lay,qd9,qi7,qi6,qfa,qf9,qf7,qf8,qfo,qfc,qdv,qdw,qfi,qfh,qff,qfg,qfl,qfm,qfk,qfj,hD_,ks,h1,h2,a1,c5];exact rfl;refine⟨_,rfl,?_,?_⟩;simp[zS,qbk,qap,qc7,qcl,qdy,hD_,ks,h1,h2,a1,c5];simp[qc5,Heap.lay,qd9,qam];apply qag rfl;apply qa4;simp;apply qal;refine qc8 mixed qbf (by decide +kernel) fun B_ hB_=>?_;apply qi9 B_;simp[zS,qdl,qc6,qc3,qbk,qap,qb4,qaz,Heap.lay,qd9,qi7,qi6,qfa,qf9,qf7,qf8,qfo,qfc,qdv,qdw,qfi,qfh,qff,qfg,qfl,qfm,qfk,qfj,a1,a2,c5,c6];exact rfl;refine⟨_,rfl,?_,?_⟩;simp[zS,qbk,qap,qc7,qcl,qdy,a1,a2,c5,c6];simp[qc5,Heap.lay,qd9,qam];apply ra;simp[zS];refine qa7 (qb1 (fun j:Nat=>(⟨[0,1,2,4,5,6],[uD,.int .i64 i,.ptr 0 0,.int .i64 0,qbc K,.int .i64 (j:Int)],[],46,⟨1,[[(0,.cells [qaa t])]]⟩⟩ : St))
    (fun j=>j<=K.length/\atP K i=qbo (fun k=>decide (k=i)) (K.drop j) j) (fun j=>K.length - j) [(0,0)] [] 0 ⟨Nat.zero_le _,rfl⟩ ⟨rfl,rfl,rfl,by simp[qax,qas,qb2,qab,qa9,qbc],.id1 (g:=[(0,.cells [qaa t])]) (by simp) (by simp) (by simp[zG,qa9])⟩ ?_)
   rintro j ⟨hj,hx⟩ B hB;apply ra;simp[zS,ql8];refine qb0 rfl (fun h=>?_) fun h=>?_
   ·simp at h;rw[qh8 h]at hx;apply qa4;simp;repeat apply wq
    apply qa7;by_cases h3:K[j]=i
    ·apply ra;simp[zS,atI h,h3];apply qai rfl;apply ra;simp[zS];apply qa5;simp[zQ,Tryz.f45];exact qa2 rfl (by rw[hx,if_pos (by simp[h3])])
    ·apply ra;simp[zS,atI h,h3];apply qag rfl;apply qa4;simp;apply ra;simp[zS,qbb (show j<=1000000000 by omega)];exact hB _ (j+1) (by omega) ⟨by omega,by rw[hx,if_neg (by simp[h3])]⟩ ⟨[(0,0)],[],rfl,rfl,rfl,by simp[qax,qas,qb2,qab,qa9,qbc],.id1 (g:=[(0,.cells [qaa t])]) (by simp) (by simp) (by simp[zG,qa9])⟩
   ·simp at h;apply qar;simp;apply ra;simp[zS];apply qa5;simp[zQ,Tryz.f45];exact qa2 rfl (by rw[hx,List.drop_eq_nil_of_le h];rfl)
  ·have h2:isB t (qa1 t i).up=false:=(by simpa using h2);refine qa0 (s0:=⟨[0,1,2,4,5,6],[qav t,.int .i64 i,uD,uD,uD,uD],[],46,⟨0,[[]]⟩⟩) Tryz.func45 rfl rfl rfl ?_;apply ra;simp[zS,qav];repeat apply wq
   refine qc8 mixed qbf (by decide +kernel) fun B_ hB_=>?_;have hD_:ahead B_ 0 2=true/\ahead B_ 0 12=true/\ahead B_ 2 0=false/\ahead B_ 2 5=true/\ahead B_ 2 7=true/\ahead B_ 2 11=true/\ahead B_ 5 2=false/\ahead B_ 5 12=true/\ahead B_ 7 2=false/\ahead B_ 7 12=true/\ahead B_ 11 2=false/\ahead B_ 11 12=true/\ahead B_ 12 0=false/\ahead B_ 12 5=false/\ahead B_ 12 7=false/\ahead B_ 12 11=false:=(by rw[hB_];decide +kernel);apply qi9 B_;simp[zS,qdl,qc6,qc3,qbk,qap,qb4,qaz,Heap.lay,qd9,qi7,qi6,qfa,qf9,qf7,qf8,qfo,qfc,qdv,qdw,qfi,qfh,qff,qfg,qfl,qfm,qfk,qfj,hD_,ks,h1,h2,a1,c5];exact rfl;refine⟨_,rfl,?_,?_⟩;simp[zS,qbk,qap,qc7,qcl,qdy,hD_,ks,h1,h2,a1,c5];simp[qc5,Heap.lay,qd9,qam];apply qai rfl;apply ra;simp[zS];apply qa5;simp[zQ,Tryz.f45];exact qa2 rfl (by simp[qgp,h2])
 ·have h1:isB t i=false:=by simpa using h1
  refine qa0 (s0:=⟨[0,1,2,4,5,6],[qav t,.int .i64 i,uD,uD,uD,uD],[],46,⟨0,[[]]⟩⟩) Tryz.func45 rfl rfl rfl ?_;apply ra;simp[zS,qav];repeat apply wq
  refine qc8 mixed qbf (by decide +kernel) fun B_ hB_=>?_;have hD_:ahead B_ 0 2=true/\ahead B_ 0 12=true/\ahead B_ 2 0=false/\ahead B_ 2 5=true/\ahead B_ 2 7=true/\ahead B_ 2 11=true/\ahead B_ 5 2=false/\ahead B_ 5 12=true/\ahead B_ 7 2=false/\ahead B_ 7 12=true/\ahead B_ 11 2=false/\ahead B_ 11 12=true/\ahead B_ 12 0=false/\ahead B_ 12 5=false/\ahead B_ 12 7=false/\ahead B_ 12 11=false:=by rw[hB_];decide +kernel
  apply qi9 B_;simp[zS,qdl,qc6,qc3,qbk,qap,qb4,qaz,Heap.lay,qd9,qi7,qi6,qfa,qf9,qf7,qf8,qfo,qfc,qdv,qdw,qfi,qfh,qff,qfg,qfl,qfm,qfk,qfj,hD_,ks,h1];exact rfl;refine⟨_,rfl,?_,?_⟩;simp[zS,qbk,qap,qc7,qcl,qdy,hD_,ks,h1];simp[qc5,Heap.lay,qd9,qam];apply qai rfl;apply ra;simp[zS];apply qa5;simp[zQ,Tryz.f45];exact qa2 rfl (by simp[qgp,h1])
def e45:Entry PG:=mkE 45 [[7],[]] (fun x:Tr × Int=>[qav x.1,.int .i64 x.2]) (fun x=>∀n,n∈x.1->n.kids.length<=1000000) (fun x=>.int .i64 (qgp x.1 x.2)) fun x h=>c45 (T:=[e30]) rfl x.1 h x.2
theorem q45{T:List (Entry PG)} (hT:qIn 45 T e45) {a:AV} {H:Heap} {t:Tr} (ha:qe9 H [7] a=some (qav t)) (hk:∀n,n∈t->n.kids.length<=1000000) (i:Int):qb6 (ctx T) (.fn 45) [a,.int .i64 i] H=some (.int .i64 (qgp t i),H):=
 qac hT qtm (t,i) hk rfl (by simp[ha])
structure okT (t:Tr):Prop where
 ok:okTr t
 nd:∀n,n∈t->okN n
 kd:∀n,n∈t->∀k,k∈n.kids->0<=k/\k < (t.length:Int)
theorem okT.at_{t:Tr} (h:okT t) {i:Int} (h0:0<=i) (h1:i < (t.length:Int)):okN (qa1 t i):=h.nd _ (qb3 h0 h1)
def bls(s:List Bool):List AV:=s.map AV.bool
theorem qg1(s:List Bool):qa9 (bls s)=true:=by
 unfold bls;induction s with
 |nil=>rfl
 |cons x r ih=>simp only[List.map_cons,qa9,qab,ih];rfl
theorem getB{s:List Bool} {i:Nat} (h:i < s.length):qck (bls s) i=some (.bool s[i]):=by simp[bls,qj0 h]
theorem layB:∀{s:List Bool} {i:Nat},i < s.length->qh7 [.bool true] i (bls s)=some (bls (s.set i true))
 |[],i,h=>absurd h (Nat.not_lt_zero i)
 |x::r,0,h=>rfl
 |x::r,i+1,h=>by show ((qh7 _ i (bls r)).bind fun r'=>some (_::r'))=_;rw[layB (s:=r) (by simpa using h)];rfl
theorem qz6:∀(n:Nat),replL [.bool false] n=bls (List.replicate n false)
 |0=>rfl
 |n+1=>by simp only[replL,qz6 n,List.replicate_succ,bls,List.map_cons];rfl
theorem msBool{n:Nat} (h:n<=1000000):msB PG 45 (.int .i64 (n:Int)) (.int .i64 (n:Int))=some (fun b=>.slc b 0 n (.ex n),.cells (bls (List.replicate n false))):=by
 have h1:idx (n:Int) 17592186044416=some n:=qbv (by omega);have h2:idx (n:Int) (Nat.succ n)=some n:=qbv (by omega);have hz:qc0 PG 4=some (.bool false):=zeT4;have hs:qce PG 4=some 1:=szT4;have hb:qcq PG 4=some 1:=byT4;have h3:qcw n 1=true:=by simp[qcw];omega
 simp only[msB,Tryz.underlying45,Option.bind_some,hs,hb,h1,h2,h3,hz];simp[AV.cells,qz6]
theorem ixB{b n i:Nat} {cap:Cap} (h:i < n):qat PG 45 (.slc b 0 n cap) (.int .i64 (i:Int))=some (.ptr b i):=by simp[qat,qbv h]
theorem qcb{b:Nat} {rs:List Nat} {f:List (Nat × Blk)} {r:List (List (Nat × Blk))} (h:(getF b f).isSome=true):qcy b rs [] (f::r)=f::r:=by obtain⟨k,hk⟩:=Option.isSome_iff_exists.1 h;unfold qcy;rw[hk];rfl
theorem qjk:∀(L:List Nd),allSingle (qa6 (L.map qa3))=true
 |[]=>rfl
 |x::r=>by rw[List.map_cons];show allSingle (x.cs++qa6 (r.map qa3))=true;rw[qdq,qjk r];rfl
theorem WpSr.perm{C:Ctx} {n:Nat} {r:Option Nat} {Q:Out->St->Prop} {c:Code} {ks:List Nat} {vs:List AV} {ts:List (Nat × AV)} {sz:Nat} {H:Heap} (H2:Heap) (hn:H2.n=H.n) (p:H2.ents.Perm H.ents)
  (h:WpSr C n r c ⟨ks,vs,ts,sz,H2⟩ Q):WpSr C n r c ⟨ks,vs,ts,sz,H⟩ Q:=by
 intro b a w hb ha K hK;obtain⟨ρ,g1,g2,g3,g4⟩:=ha;have g1':Since b ρ H w:=g1;have g2':Sim ρ H w:=g2;refine h b a w hb ⟨ρ,?_,g2'.perm hn p,⟨g3.size,g3.val⟩,?_⟩ K hK
 ·exact { fz:=g1.fz,os:=g1.os,tape:=g1.tape,output:=g1.output,size:=g1.size,keeps:=g1.keeps,rows:=fun e he=>g1.rows e (p.mem_iff.1 he),cold:=g1.cold,low:=g1.low,num:=by rw[show (St.mk ks vs ts sz H2).H.n=H2.n from rfl,hn];exact g1'.num }
 ·have g4':Dfr b.w.heap.size ρ H w a.defers b.ds:=g4;obtain⟨rs,h1,h2,h3⟩:=g4';exact⟨rs,h1,h2,fun r hr=>⟨(h3 r hr).ge,(h3 r hr).obj,(h3 r hr).cold,fun e he=>(h3 r hr).apart e (p.mem_iff.1 he)⟩⟩
theorem qrr:∀{l:List AV},allSingle l=true->∀i (h:i < l.length),l[i].single=true
 |[],_,i,h=>absurd h (Nat.not_lt_zero i)
 |v::r,h,i,hi=>by
  unfold allSingle at h;cases hv:v.single with
  |false=>rw[hv]at h;cases h
  |true=>
   rw[hv]at h;cases i with
   |zero=>exact hv
   |succ i=>exact qrr h i (by simpa using hi)
theorem qv5:∀(xs:List Value),qa9 (xs.map AV.val)=true
 |[]=>rfl
 |x::r=>by simp[qa9,qab,qv5 r]
theorem qpj:∀(xs:List Value),allSingle (xs.map AV.val)=true
 |[]=>rfl
 |x::r=>by simp[allSingle,AV.single,qpj r]
theorem qvf{α:Type} {p:Nat->α->Prop}:∀(n:Nat),(∀i,i < n->∃x,p i x)->∃l:List α,l.length=n/\∀i (h:i < l.length),p i l[i]
 |0,_=>⟨[],rfl,fun i h=>absurd h (Nat.not_lt_zero i)⟩
 |n+1,h=>by
  obtain⟨l,hl,hp⟩:=qvf n fun i hi=>h i (by omega);obtain⟨x,hx⟩:=h n (by omega);refine⟨l++[x],by simp[hl],fun i hi=>?_⟩;by_cases hlt:i < l.length
  ·rw[List.getElem_append_left hlt];exact hp i hlt
  ·have:i=l.length:=(by simp at hi;omega);subst this;simp only[List.getElem_append_right (Nat.le_refl _),Nat.sub_self,List.getElem_cons_zero];rw[hl];exact hx
theorem CallAt.anyfront{C:Ctx} {f:FuncId} {args:List AV} {v:AV} {n n' b b':Nat} {P c0 cs:List AV} {g g':List (Nat × Blk)} (hs:allSingle P=true)
  (h:∀pre,qa9 pre=true->allSingle pre=true->pre.length=P.length->CallAt C f args ⟨n,[(b,.cells (pre++c0))::g]⟩ v ⟨n',[(b',.cells (pre++cs))::g']⟩) :
  CallAt C f args ⟨n,[(b,.cells (P++c0))::g]⟩ v ⟨n',[(b',.cells (P++cs))::g']⟩:=by
 intro ρ w xs sm hx;obtain⟨l,hl,hB,hlt,hr⟩:=sm.live (b,.cells (P++c0)) (by simp[Heap.ents]);obtain⟨vs,hvl,hvs⟩:=qvf (p:=fun i x=>w.cell? ⟨l.cb,l.off+i,none⟩=some x/\∀h:i < P.length,VR ρ P[i] x) P.length fun i hi=>by
  obtain⟨x,h1,h2⟩:=hr.2.2 i (by simp only[List.length_append];omega);refine⟨x,h1,fun _=>?_⟩
  rwa [List.getElem_append_left hi]at h2
 have one:∀i (h:i < vs.length),vs[i].oneCell'=true:=fun i hi=>((hvs i hi).2 (by omega)).oneCell (qrr hs i (by omega));obtain⟨pre,hpre⟩ : ∃p,p=vs.map AV.val:=⟨_,rfl⟩;have hpl:pre.length=P.length:=by rw[hpre];simpa using hvl
 have sm1:Sim ρ ⟨n,[(b,.cells (pre++c0))::g]⟩ w:={
  base:=sm.base
  below:=sm.below
  os:=sm.os
  tape:=sm.tape
  output:=sm.output
  dom:=sm.dom
  nodup:=by simpa[Heap.ents]using sm.nodup
  live:=fun e he=>by
   simp only[Heap.ents,List.flatten_cons,List.flatten_nil,List.append_nil,List.mem_cons]at he;rcases he with rfl|he
   ·refine⟨l,hl,hB,hlt,by have:=hr.1;simp only[List.length_append]at this ⊢;omega,hr.2.1,fun i hi=>?_⟩;by_cases hi2:i < P.length
    ·have hi':i < vs.length:=(by omega);refine⟨vs[i],(hvs i hi').1,?_⟩;rw[List.getElem_append_left (by omega)];simp only[hpre,List.getElem_map];exact .val _ (one i hi')
    ·obtain⟨x,h1,h2⟩:=hr.2.2 i (by simp only[List.length_append]at hi ⊢;omega);refine⟨x,h1,?_⟩;rw[List.getElem_append_right (by omega)]at h2;rw[List.getElem_append_right (by omega)];simpa only[hpl]using h2
   ·exact sm.live e (by simp[Heap.ents,he])
  inj:=fun e e' he he' l l' hl hl' hc=>by
   have mk:∀e,e∈Heap.ents ⟨n,[(b,.cells (pre++c0))::g]⟩->∃e2,e2∈Heap.ents ⟨n,[(b,.cells (P++c0))::g]⟩/\e2.1=e.1:=fun e he=>by
    simp only[Heap.ents,List.flatten_cons,List.flatten_nil,List.append_nil,List.mem_cons]at he;rcases he with rfl|he
    ·exact⟨(b,.cells (P++c0)),by simp[Heap.ents],rfl⟩
    ·exact⟨e,by simp[Heap.ents,he],rfl⟩
   obtain⟨e2,h1,h2⟩:=mk e he;obtain⟨e3,h3,h4⟩:=mk e' he';rw[<- h2,<- h4];exact sm.inj e2 e3 h1 h3 l l' (by rw[h2];exact hl) (by rw[h4];exact hl') hc }
 have up:∀{x:Value} {ρ':Place} {w':World},VR ρ' v x->Sim ρ' ⟨n',[(b',.cells (pre++cs))::g']⟩ w'->Step ρ ⟨n,[(b,.cells (pre++c0))::g]⟩ w ρ' ⟨n',[(b',.cells (pre++cs))::g']⟩ w' ->
   Sim ρ' ⟨n',[(b',.cells (P++cs))::g']⟩ w'/\Step ρ ⟨n,[(b,.cells (P++c0))::g]⟩ w ρ' ⟨n',[(b',.cells (P++cs))::g']⟩ w':=by
  intro x ρ' w' hv s1 t1;have mk:∀e,e∈Heap.ents ⟨n',[(b',.cells (P++cs))::g']⟩->∃e2,e2∈Heap.ents ⟨n',[(b',.cells (pre++cs))::g']⟩/\e2.1=e.1:=fun e he=>by
   simp only[Heap.ents,List.flatten_cons,List.flatten_nil,List.append_nil,List.mem_cons]at he;rcases he with rfl|he
   ·exact⟨(b',.cells (pre++cs)),by simp[Heap.ents],rfl⟩
   ·exact⟨e,by simp[Heap.ents,he],rfl⟩
  have mk0:∀e,e∈Heap.ents ⟨n,[(b,.cells (pre++c0))::g]⟩->∃e2,e2∈Heap.ents ⟨n,[(b,.cells (P++c0))::g]⟩/\e2.1=e.1:=fun e he=>by
   simp only[Heap.ents,List.flatten_cons,List.flatten_nil,List.append_nil,List.mem_cons]at he;rcases he with rfl|he
   ·exact⟨(b,.cells (P++c0)),by simp[Heap.ents],rfl⟩
   ·exact⟨e,by simp[Heap.ents,he],rfl⟩
  refine⟨{
   base:=s1.base
   below:=s1.below
   os:=s1.os
   tape:=s1.tape
   output:=s1.output
   dom:=s1.dom
   nodup:=by simpa[Heap.ents]using s1.nodup
   live:=fun e he=>by
    simp only[Heap.ents,List.flatten_cons,List.flatten_nil,List.append_nil,List.mem_cons]at he;rcases he with rfl|he
    ·obtain⟨l1,g1,g2,g3,g4⟩:=s1.live (b',.cells (pre++cs)) (by simp[Heap.ents]);refine⟨l1,g1,g2,g3,?_,g4.2.1,fun i hi=>?_⟩
     ·have:=g4.1;simp only[List.length_append]at this ⊢;omega
     ·obtain⟨y,hy,hvy⟩:=g4.2.2 i (by simp only[List.length_append]at hi ⊢;omega);refine⟨y,hy,?_⟩;by_cases hi2:i < P.length
      ·have hi3:i < vs.length:=(by omega);rw[List.getElem_append_left (by omega)]at hvy;rw[List.getElem_append_left hi2];simp only[hpre,List.getElem_map]at hvy;have:y=vs[i]:=(by cases hvy;rfl);rw[this];exact((hvs i hi3).2 hi2).mono t1.le
      ·rw[List.getElem_append_right (by omega)]at hvy;rw[List.getElem_append_right (by omega)];simpa only[hpl]using hvy
    ·exact s1.live e (by simp[Heap.ents,he])
   inj:=fun e e' he he' l l' hl hl' hc=>by obtain⟨e2,h1,h2⟩:=mk e he;obtain⟨e3,h3,h4⟩:=mk e' he';rw[<- h2,<- h4];exact s1.inj e2 e3 h1 h3 l l' (by rw[h2];exact hl) (by rw[h4];exact hl') hc },{
   le:=t1.le
   size:=t1.size
   keeps:=fun k hk hn=>t1.keeps k hk fun e he l hl=>by obtain⟨e2,h1,h2⟩:=mk0 e he;exact hn e2 h1 l (by rw[h2];exact hl)
   rows:=fun e he l hl=>by
    obtain⟨e2,h1,h2⟩:=mk e he;rcases t1.rows e2 h1 l (by rw[h2];exact hl)with⟨e3,h3,l3,hl3,hc⟩|hge
    ·obtain⟨e4,h4,h5⟩:=mk0 e3 h3;exact .inl ⟨e4,h4,l3,by rw[h5];exact hl3,hc⟩
    ·exact .inr hge
   num:=t1.num
   low:=t1.low
   cold:=fun k hk=>by
    rcases t1.cold k hk with hh|⟨e3,h3,l3,hl3,hc⟩|hh
    ·exact .inl hh
    ·obtain⟨e4,h4,h5⟩:=mk0 e3 h3;exact .inr (.inl ⟨e4,h4,l3,by rw[h5];exact hl3,hc⟩)
    ·exact .inr (.inr hh) }⟩
 rcases h pre (by rw[hpre];exact qv5 vs) (by rw[hpre];exact qpj vs) hpl ρ w xs sm1 hx with⟨x,ρ1,w',h0,h1,h2,h3⟩|⟨q,ys,h0,h1⟩
 ·obtain⟨k1,k2⟩:=up h1 h2 h3;exact .inl ⟨x,ρ1,w',h0,h1,k1,k2⟩
 ·refine .inr ⟨q,ys,h0,h1.mono ?_⟩;rintro e w' ⟨x,ρ1,rfl,m1,m2,m3⟩;obtain⟨k1,k2⟩:=up m1 m2 m3;exact⟨x,ρ1,rfl,m1,k1,k2⟩
def qr9(rec:Int->Nat->List Bool->List Nd × List Bool) (n:Nat):List Int->Nat->List Bool->List Int × List Nd × List Bool
 |[],_,s=>([],[],s)
 |k::r,z,s=>
  if 0<=k/\k < (n:Int)/\s.getD k.toNat true=false then
   let a:=rec k z s
   let b:=qr9 rec n r (z+a.1.length) a.2
   ((z:Int)::b.1,a.1++b.2.1,b.2.2)
  else qr9 rec n r z s
def quk:Nat->Tr->Int->Int->Nat->List Bool->List Nd × List Bool
 |0,_,_,_,_,s=>([],s)
 |f+1,t,i,up,z,s=>
  let r:=qr9 (fun k z' s'=>quk f t k (z:Int) z' s') t.length (qa1 t i).kids (z+1) (s.set i.toNat true)
  ({ qa1 t i with up:=up,kids:=r.1 }::r.2.1,r.2.2)
def qfp(s:List Bool):Nat:=s.count false
theorem qev:∀{s:List Bool} {i:Nat},s.getD i true=false->qfp (s.set i true)+1=qfp s
 |[],i,h=>by simp at h
 |x::r,0,h=>by simp at h;subst h;simp[qfp]
 |x::r,i+1,h=>by have:=qev (s:=r) (i:=i) (by simpa using h);simp only[qfp,List.set_cons_succ,List.count_cons]at this ⊢;omega
theorem qpk{rec:Int->Nat->List Bool->List Nd × List Bool} {n:Nat} (hrec:∀k z s,s.length=n->s.getD k.toNat true=false->(rec k z s).2.length=n/\(rec k z s).1.length+qfp (rec k z s).2<=qfp s):∀(K:List Int) (z:Nat) (s:List Bool),s.length=n ->
  (qr9 rec n K z s).2.2.length=n/\(qr9 rec n K z s).2.1.length+qfp (qr9 rec n K z s).2.2<=qfp s/\(qr9 rec n K z s).1.length<=K.length
 |[],z,s,h=>by simp[qr9,h]
 |k::r,z,s,h=>by
  unfold qr9;split
  next hc=>obtain⟨h1,h2⟩:=hrec k z s h hc.2.2;obtain⟨h3,h4,h5⟩:=qpk hrec r (z+(rec k z s).1.length) (rec k z s).2 h1;simp only[List.length_append,List.length_cons];refine⟨h3,by omega,by omega⟩
  ·obtain⟨h3,h4,h5⟩:=qpk hrec r z s h;simp only[List.length_cons];exact⟨h3,h4,by omega⟩
theorem qv8:∀(f:Nat) (t:Tr) (i up:Int) (z:Nat) (s:List Bool),s.length=t.length->s.getD i.toNat true=false ->
  (quk f t i up z s).2.length=t.length/\(quk f t i up z s).1.length+qfp (quk f t i up z s).2<=qfp s
 |0,t,i,up,z,s,h,_=>by simp[quk,h]
 |f+1,t,i,up,z,s,h,hs=>by have h1:=qev hs;obtain⟨h3,h4,_⟩:=qpk (rec:=fun k z' s'=>quk f t k (z:Int) z' s') (n:=t.length) (fun k z' s' hl hu=>qv8 f t k z z' s' hl hu) (qa1 t i).kids (z+1) (s.set i.toNat true) (by simpa using h);unfold quk;simp only[List.length_cons];exact⟨h3,by omega⟩
def pR(z:Nat) (pre:List AV):Option Unit->AV × List (Nat × Blk)
 |none=>(.nilS,[])
 |some _=>(.slc 0 0 z (.rest 7),[(0,.cells pre)])
def qd2(t:Tr):Tr:=(quk t.length t 0 (-1) 0 (List.replicate t.length false)).1
theorem qgv:∀(n:Nat),qfp (List.replicate n false)=n
 |0=>rfl
 |n+1=>by have:=qgv n;simp only[qfp,List.replicate_succ,List.count_cons]at this ⊢;simp
theorem qoo{t:Tr} (h:qbx t=true):∀n,n∈t->∀k,k∈n.kids->0<=k/\k < (t.length:Int):=by
 intro n hn k hk;obtain⟨i,hi,rfl⟩:=List.getElem_of_mem hn;have hok:qn9 t i=true:=by
  cases hb:qn9 t i with
  |true=>rfl
  |false=>rw[qer hi hb]at h;cases h
 have hnd:qa1 t (i:Int)=t[i]:=qbt hi;simp only[qn9,Bool.and_eq_true,Bool.not_eq_true']at hok;have:=hok.2.2;rw[hnd]at this;have h1:=List.any_eq_false.1 this k hk;simp only[badC,Bool.or_eq_true,decide_eq_true_eq,not_or]at h1;omega
theorem qt7{t:Tr} (h:qbx t=true):t≠[]:=by rintro rfl;simp[qbx]at h
theorem right_ok{t:Tr} (h:qbx t=true) (ht:okTr t) (hn:∀n,n∈t->okN n):okT t:=⟨ht,hn,qoo h⟩
def fits:Nat->Tr->Int->Prop
 |0,_,_=>False
 |f+1,t,i=>∀k,k∈(qa1 t i).kids->(qa1 t k).kind=1->fits f t k
def qei(ks:Nat->List Int):Nat->Nat->List Int
 |0,_=>[]
 |f+1,i=>(i:Int)::(ks i).flatMap fun k=>qei ks f k.toNat
structure TreeK (n:Nat) (ks:Nat->List Int) (par:Int->Int) (dep:Int->Nat):Prop where
 kd:∀i,i < n->∀k,k∈ks i->0<=k/\k < (n:Int)/\par k=(i:Int)/\dep k=dep (i:Int)+1
 nd:∀i,i < n->(ks i).Nodup
def qsj(w:Wk) (x b:Int):Prop:=inA w x < inA w b/\qik w b < qik w x
structure SubT (ks:Nat->List Int) (par:Int->Int) (w:Wk) (S:List Int) (r:Int):Prop where
 top:r∈S/\∀x,x∈S->x≠r->qsj w r x
 up:∀b,b∈S->b≠r->par b∈S/\qsj w (par b) b/\∀x,x∈S->qsj w x b->x=par b\/qsj w x (par b)
 cl:∀x,x∈S->∀k,k∈ks x.toNat->k∈S
 nn:∀x,x∈S->0<=x
theorem SubT.same{ks:Nat->List Int} {par:Int->Int} {w w':Wk} {S:List Int} {r:Int} (h:SubT ks par w S r) (e:∀x,x∈S->inA w' x=inA w x/\qik w' x=qik w x):SubT ks par w' S r where
 top:=⟨h.top.1,fun x hx hn=>by have:=h.top.2 x hx hn;unfold qsj at this ⊢;rw[(e _ h.top.1).1,(e _ h.top.1).2,(e x hx).1,(e x hx).2];exact this⟩
 up:=fun b hb hn=>by
  obtain⟨h1,h2,h3⟩:=h.up b hb hn;refine⟨h1,?_,fun x hx hxe=>?_⟩
  ·unfold qsj at h2 ⊢;rw[(e _ h1).1,(e _ h1).2,(e b hb).1,(e b hb).2];exact h2
  ·have:=h3 x hx (by unfold qsj at hxe ⊢;rw[(e x hx).1,(e x hx).2,(e b hb).1,(e b hb).2]at hxe;exact hxe);rcases this with h4|h4
   ·exact .inl h4
   ·refine .inr ?_;unfold qsj at h4 ⊢;rw[(e x hx).1,(e x hx).2,(e _ h1).1,(e _ h1).2];exact h4
 cl:=h.cl
 nn:=h.nn
structure VisT (n:Nat) (ks:Nat->List Int) (par:Int->Int) (w w':Wk) (S:List Int) (r:Int):Prop where
 l:w'.l=w.l++S
 li:w'.inn.length=n
 lo:w'.out.length=n
 cc:w.c<=w'.c
 oth:∀x,0<=x->x ∉ S->inA w' x=inA w x/\qik w' x=qik w x
 rng:∀x,x∈S->w.c<=inA w' x/\inA w' x < qik w' x/\qik w' x < w'.c
 sub:SubT ks par w' S r
 ng:ql7 w'.inn<=ql7 w.inn
structure VssT (n:Nat) (ks:Nat->List Int) (par:Int->Int) (w w':Wk) (S:Int->List Int) (K:List Int):Prop where
 l:w'.l=w.l++K.flatMap S
 li:w'.inn.length=n
 lo:w'.out.length=n
 cc:w.c<=w'.c
 oth:∀x,0<=x->(∀k,k∈K->x ∉ S k)->inA w' x=inA w x/\qik w' x=qik w x
 rng:∀k,k∈K->∀x,x∈S k->w.c<=inA w' x/\inA w' x < qik w' x/\qik w' x < w'.c
 sub:∀k,k∈K->SubT ks par w' (S k) k
 dis:∀k,k∈K->∀k2,k2∈K->k≠k2->∀x,x∈S k->∀y,y∈S k2->¬ qsj w' x y
 ng:ql7 w'.inn<=ql7 w.inn
def Bel(n:Nat) (par:Int->Int) (dep:Int->Nat) (i x:Int):Prop:=0<=x/\x < (n:Int)/\∃m,dep x=dep i+m/\Nat.repeat par m x=i
theorem qfq{n:Nat} {par:Int->Int} {dep:Int->Nat} {i:Int} (h0:0<=i) (h1:i < (n:Int)):Bel n par dep i i:=⟨h0,h1,0,rfl,rfl⟩
theorem qwy{n:Nat} {ks:Nat->List Int} {par:Int->Int} {dep:Int->Nat} (h:TreeK n ks par dep) {i:Nat} (hi:i < n) {k x:Int} (hk:k∈ks i) (hx:Bel n par dep k x):Bel n par dep i x:=by obtain⟨k0,k1,k2,k3⟩:=h.kd i hi k hk;obtain⟨x0,x1,m,h1,h2⟩:=hx;exact⟨x0,x1,m+1,by omega,by show par (Nat.repeat par m x)=_;rw[h2,k2]⟩
theorem qyj{n:Nat} {ks:Nat->List Int} {par:Int->Int} {dep:Int->Nat} (h:TreeK n ks par dep) {i:Nat} (hi:i < n) {k k2:Int} (hk:k∈ks i) (hk2:k2∈ks i) (hne:k≠k2) {x:Int} (hx:Bel n par dep k x):¬ Bel n par dep k2 x:=by
 rintro⟨_,_,m2,h3,h4⟩;obtain⟨a0,a1,a2,a3⟩:=h.kd i hi k hk;obtain⟨b0,b1,b2,b3⟩:=h.kd i hi k2 hk2;obtain⟨_,_,m,h1,h2⟩:=hx;have:m=m2:=by omega
 subst this;exact hne (h2.symm.trans h4)
theorem que{n:Nat} {ks:Nat->List Int} {par:Int->Int} {dep:Int->Nat} (h:TreeK n ks par dep) {i:Nat} (hi:i < n) {k:Int} (hk:k∈ks i):¬ Bel n par dep k i:=by rintro⟨_,_,m,h1,h2⟩;obtain⟨a0,a1,a2,a3⟩:=h.kd i hi k hk;omega
theorem qpn{n:Nat} {ks:Nat->List Int} {par:Int->Int} {dep:Int->Nat} (h:TreeK n ks par dep):∀(f i:Nat),i < n->∀x,x∈qei ks f i->Bel n par dep i x
 |0,i,hi,x,hx=>by simp[qei]at hx
 |f+1,i,hi,x,hx=>by
  simp only[qei,List.mem_cons,List.mem_flatMap]at hx;rcases hx with rfl|⟨k,hk,hx⟩
  ·exact qfq (by omega) (by omega)
  ·obtain⟨k0,k1,k2,k3⟩:=h.kd i hi k hk;have:=qpn h f k.toNat (by omega) x hx;rw[show ((k.toNat:Nat):Int)=k by omega]at this;exact qwy h hi hk this
theorem zep{n:Nat} {ks:Nat->List Int} {par:Int->Int} {dep:Int->Nat} (ht:TreeK n ks par dep) {f i:Nat} (hi:i < n)
  (hg:∀i w,i < n->w.inn.length=n->w.out.length=n->0<=w.c->(∀x,Bel n par dep i x->inA w x < 0)->ql7 w.inn<=f->VisT n ks par w (vis n ks f i w) (qei ks f i) i) :
  ∀(K:List Int),(∀k,k∈K->k∈ks i)->K.Nodup->∀(w:Wk),w.inn.length=n->w.out.length=n->0<=w.c->(∀k,k∈K->∀x,Bel n par dep k x->inA w x < 0)->ql7 w.inn<=f ->
   VssT n ks par w (kl n (vis n ks f) K w) (fun k=>qei ks f k.toNat) K
 |[],_,_,w,h1,h2,h3,_,_=>{
   l:=by simp[kl]
   li:=h1
   lo:=h2
   cc:=Int.le_refl _
   oth:=fun _ _ _=>⟨rfl,rfl⟩
   rng:=fun k hk=>by cases hk
   sub:=fun k hk=>by cases hk
   dis:=fun k hk=>by cases hk
   ng:=Nat.le_refl _ }
 |k::r,hK,hnd,w,h1,h2,h3,hu,hf=>by
  obtain⟨a0,a1,a2,a3⟩:=ht.kd i hi k (hK k (by simp));rw[List.nodup_cons]at hnd;have e:((k.toNat:Nat):Int)=k:=by omega
  have hk0:=hu k (by simp) k (qfq a0 a1);have hc:0<=k/\k < (n:Int)/\w.inn.getD k.toNat 0 < 0:=⟨a0,a1,hk0⟩;have v:=hg k.toNat w (by omega) h1 h2 h3 (by rw[e];exact hu k (by simp)) hf;rw[e]at v;unfold kl;rw[if_pos hc];obtain⟨w1,hw1⟩ : ∃w1,w1=vis n ks f k.toNat w:=⟨_,rfl⟩;rw[<- hw1]at v ⊢;have hmem:∀k2,k2∈r->k2∈ks i:=fun k2 h=>hK k2 (by simp[h]);have hne:∀k2,k2∈r->k≠k2:=fun k2 h he=>hnd.1 (he ▸ h);have hin:∀x,x∈qei ks f k.toNat->Bel n par dep k x:=fun x hx=>by
   have:=qpn ht f k.toNat (by omega) x hx
   rwa [e]at this
  have hbn:∀k2,k2∈r->∀x,Bel n par dep k2 x->x ∉ qei ks f k.toNat:=fun k2 h x hx hx2=>qyj ht hi (hK k (by simp)) (hmem k2 h) (hne k2 h) (hin x hx2) hx;have hnot:∀k2,k2∈r->∀x,x∈qei ks f k2.toNat->0<=x/\x ∉ qei ks f k.toNat:=fun k2 h x hx=>by obtain⟨b0,b1,_⟩:=ht.kd i hi k2 (hmem k2 h);have:=qpn ht f k2.toNat (by omega) x hx;rw[show ((k2.toNat:Nat):Int)=k2 by omega]at this;exact⟨this.1,hbn k2 h x this⟩
  have v2:=zep ht hi hg r hmem hnd.2 w1 v.li v.lo (by have:=v.cc;omega) (fun k2 h x hx=>by rw[(v.oth x hx.1 (hbn k2 h x hx)).1];exact hu k2 (by simp[h]) x hx) (by have:=v.ng;omega);obtain⟨w',hw'⟩ : ∃w',w'=kl n (vis n ks f) r w1:=⟨_,rfl⟩;rw[<- hw']at v2 ⊢;have keep:∀x,x∈qei ks f k.toNat->inA w' x=inA w1 x/\qik w' x=qik w1 x:=fun x hx=>v2.oth x (v.sub.nn x hx) fun k2 h hx2=>(hnot k2 h x hx2).2 hx;have c1:=v.cc;have c2:=v2.cc;have lowR:∀x,x∈qei ks f k.toNat->w.c<=inA w' x/\inA w' x < qik w' x/\qik w' x < w1.c:=fun x hx=>by rw[(keep x hx).1,(keep x hx).2];exact v.rng x hx
  exact {
   l:=by rw[v2.l,v.l,List.flatMap_cons,List.append_assoc]
   li:=v2.li
   lo:=v2.lo
   cc:=by omega
   oth:=fun x hx hn=>by obtain⟨p1,p2⟩:=v2.oth x hx fun k2 h=>hn k2 (by simp[h]);obtain⟨p3,p4⟩:=v.oth x hx (hn k (by simp));exact⟨p1.trans p3,p2.trans p4⟩
   rng:=fun k2 hk2 x hx=>by
    rcases List.mem_cons.1 hk2 with rfl|hk2
    ·have:=lowR x hx;omega
    ·have:=v2.rng k2 hk2 x hx;omega
   sub:=fun k2 hk2=>by
    rcases List.mem_cons.1 hk2 with rfl|hk2
    ·exact v.sub.same keep
    ·exact v2.sub k2 hk2
   dis:=fun k2 hk2 k3 hk3 hne2 x hx y hy he=>by
    rcases List.mem_cons.1 hk2 with rfl|hk2'<;>rcases List.mem_cons.1 hk3 with rfl|hk3'
    ·exact hne2 rfl
    ·have g1:=lowR x hx;have g2:=v2.rng k3 hk3' y hy;unfold qsj at he;omega
    ·have g1:=lowR y hy;have g2:=v2.rng k2 hk2' x hx;unfold qsj at he;omega
    ·exact v2.dis k2 hk2' k3 hk3' hne2 x hx y hy he
   ng:=by have:=v.ng;have:=v2.ng;omega }
theorem qyq{n:Nat} {ks:Nat->List Int} {par:Int->Int} {dep:Int->Nat} (ht:TreeK n ks par dep):∀(f i:Nat) (w:Wk),i < n->w.inn.length=n->w.out.length=n->0<=w.c->(∀x,Bel n par dep i x->inA w x < 0)->ql7 w.inn<=f->VisT n ks par w (vis n ks f i w) (qei ks f i) i
 |0,i,w,hi,h1,h2,h3,hu,hf=>by have hin:=hu i (qfq (by omega) (by omega));have e:=qmd (I:=w.inn) (i:=i) (c:=0) (by omega) (by simpa[inA]using hin) (by omega);omega
 |f+1,i,w,hi,h1,h2,h3,hu,hf=>by
  have hin:=hu i (qfq (by omega) (by omega));have e:=qmd (I:=w.inn) (i:=i) (c:=w.c) (by omega) (by simpa[inA]using hin) h3;have hki:=fun k hk=>ht.kd i hi k hk;have v:=zep ht hi (fun i w a b c d e g=>qyq ht f i w a b c d e g) (ks i) (fun _ h=>h) (ht.nd i hi) (into i w) (by simp[into,h1]) h2 (by simp[into];omega) (fun k hk x hx=>by have hxi:¬ (i:Int)=x:=fun he=>que ht hi hk (he ▸ hx);rw[qot (by omega) hx.1,if_neg hxi];exact hu x (qwy ht hi hk hx)) (by simp only[into];omega);unfold vis;obtain⟨w1,hw1⟩ : ∃w1,w1=kl n (vis n ks f) (ks i) (into i w):=⟨_,rfl⟩;rw[<- hw1]at v ⊢;have hsub:∀k,k∈ks i->∀x,x∈qei ks f k.toNat->0<=x/\¬ (i:Int)=x:=fun k hk x hx=>by obtain⟨k0,k1,k2,k3⟩:=hki k hk;have:=qpn ht f k.toNat (by omega) x hx;rw[show ((k.toNat:Nat):Int)=k by omega]at this;exact⟨this.1,fun he=>que ht hi hk (he ▸ this)⟩
  have hiK:∀k,k∈ks i->(i:Int) ∉ qei ks f k.toNat:=fun k hk hx=>(hsub k hk _ hx).2 rfl;have ilo:=v.lo;have ili:=v.li;have io:=v.oth i (by omega) hiK;have ii:inA w1 i=w.c:=by rw[io.1,qot (by omega) (by omega),if_pos rfl]
  have cc:=v.cc;simp only[into]at cc;have mI:∀x,inA (outof i w1) x=inA w1 x:=fun x=>zf6;have mO:∀x,0<=x->qik (outof i w1) x=if (i:Int)=x then w1.c else qik w1 x:=fun x hx=>qry (by omega) hx;have mS:∀k,k∈ks i->∀x,x∈qei ks f k.toNat->inA (outof i w1) x=inA w1 x/\qik (outof i w1) x=qik w1 x:=fun k hk x hx=>⟨mI x,by rw[mO x (hsub k hk x hx).1,if_neg (hsub k hk x hx).2]⟩;have eI:∀k,k∈ks i->∀x,x∈qei ks f k.toNat->qsj (outof i w1) i x:=fun k hk x hx=>by have g:=v.rng k hk x hx;simp only[into]at g;unfold qsj;rw[(mS k hk x hx).1,(mS k hk x hx).2,mI,mO i (by omega),if_pos rfl,ii];omega
  have nI:∀x,x∈qei ks (f+1) i->¬ qsj (outof i w1) x i:=fun x hx he=>by
   simp only[qei,List.mem_cons,List.mem_flatMap]at hx;rcases hx with rfl|⟨k,hk,hx⟩
   ·unfold qsj at he;omega
   ·have:=eI k hk x hx;unfold qsj at he this;omega
  exact {
   l:=by simp only[outof];rw[v.l];simp[into,qei]
   li:=ili
   lo:=by simp[outof,ilo]
   cc:=by simp only[outof];omega
   oth:=fun x hx hn=>by simp only[qei,List.mem_cons,List.mem_flatMap,not_or,not_exists,not_and]at hn;obtain⟨n1,n2⟩:=hn;have n1':¬ (i:Int)=x:=fun h=>n1 h.symm;obtain⟨p1,p2⟩:=v.oth x hx n2;rw[mI,mO x hx,if_neg n1',p1,p2,qot (by omega) hx,if_neg n1'];exact⟨rfl,rfl⟩
   rng:=fun x hx=>by
    simp only[qei,List.mem_cons,List.mem_flatMap]at hx;rcases hx with rfl|⟨k,hk,hx⟩
    ·rw[mI,mO i (by omega),if_pos rfl,ii];simp only[outof];omega
    ·have g:=v.rng k hk x hx;simp only[into]at g;rw[(mS k hk x hx).1,(mS k hk x hx).2];simp only[outof];omega
   sub:={
    top:=⟨by simp[qei],fun x hx hn=>by
     simp only[qei,List.mem_cons,List.mem_flatMap]at hx;rcases hx with rfl|⟨k,hk,hx⟩
     ·exact absurd rfl hn
     ·exact eI k hk x hx⟩
    up:=fun b hb hn=>by
     simp only[qei,List.mem_cons,List.mem_flatMap]at hb;rcases hb with rfl|⟨k,hk,hb⟩
     ·exact absurd rfl hn
     ·have sb:=(v.sub k hk).same (mS k hk);obtain⟨k0,k1,k2,k3⟩:=hki k hk;have inx:∀x,x∈qei ks f k.toNat->x∈qei ks (f+1) i:=fun x hx=>(by simp only[qei,List.mem_cons,List.mem_flatMap];exact .inr ⟨k,hk,hx⟩);have sep:∀x,x∈qei ks (f+1) i->qsj (outof i w1) x b->x=(i:Int)\/x∈qei ks f k.toNat:=fun x hx he=>by
       simp only[qei,List.mem_cons,List.mem_flatMap]at hx;rcases hx with rfl|⟨k4,hk4,hx⟩
       ·exact .inl rfl
       ·by_cases hkk:k4=k
        ·subst hkk;exact .inr hx
        ·refine absurd he ?_;have:=v.dis k4 hk4 k hk hkk x hx b hb;unfold qsj at this ⊢;rw[(mS k4 hk4 x hx).1,(mS k4 hk4 x hx).2,(mS k hk b hb).1,(mS k hk b hb).2];exact this
      by_cases hbk:b=k
      ·subst hbk;rw[k2];refine⟨by simp[qei],eI b hk b hb,fun x hx he=>?_⟩;rcases sep x hx he with h|h
       ·exact .inl h
       ·by_cases hxb:x=b
        ·subst hxb;unfold qsj at he;omega
        ·have:=sb.top.2 x h hxb;unfold qsj at this he;omega
      ·obtain⟨u1,u2,u3⟩:=sb.up b hb hbk;refine⟨inx _ u1,u2,fun x hx he=>?_⟩;rcases sep x hx he with rfl|h
       ·exact .inr (eI k hk _ u1)
       ·exact u3 x h he
    cl:=fun x hx k hk=>by
     simp only[qei,List.mem_cons,List.mem_flatMap]at hx ⊢;rcases hx with rfl|⟨k2,hk2,hx⟩
     ·simp only[Int.toNat_natCast]at hk;exact .inr ⟨k,hk,(v.sub k hk).top.1⟩
     ·exact .inr ⟨k2,hk2,(v.sub k2 hk2).cl x hx k hk⟩
    nn:=fun x hx=>by
     simp only[qei,List.mem_cons,List.mem_flatMap]at hx;rcases hx with rfl|⟨k,hk,hx⟩
     ·omega
     ·exact(hsub k hk x hx).1 }
   ng:=by have:=v.ng;simp only[outof,into]at this ⊢;omega }
variable {n:Nat} {ks:Nat->List Int} {par:Int->Int} {dep:Int->Nat}
theorem qys(ht:TreeK n ks par dep) (hn:0 < n):VisT n ks par (w0 n) (wkOf n ks) (qei ks n 0) 0:=by
 have h:=qyq ht n 0 (w0 n) hn (by simp[w0]) (by simp[w0]) (by simp[w0]) (fun x hx=>by
  have h1:x.toNat < n:=by have:=hx.1;have:=hx.2.1;omega
  simp[inA,w0,List.getD_eq_getElem?_getD,h1]) (by simp[w0,qtg])
 have e:wkOf n ks=vis n ks n 0 (w0 n):=by unfold wkOf;rw[if_neg (by omega)]
 rw[e];exact h
theorem qil(ht:TreeK n ks par dep) (hn:0 < n):qcn n ks=qei ks n 0:=by rw[<- wk_list,(qys ht hn).l];simp[w0]
theorem qvi(ht:TreeK n ks par dep) (hn:0 < n):SubT ks par (wkOf n ks) (qcn n ks) 0:=by rw[qil ht hn];exact(qys ht hn).sub
theorem ze4(ht:TreeK n ks par dep) (hn:0 < n) {i:Int} (hi:i∈qcn n ks) {k:Int} (hk:k∈ks i.toNat):k∈qcn n ks:=(qvi ht hn).cl i hi k hk
theorem zbj(ht:TreeK n ks par dep) (hn:0 < n):(0:Int)∈qcn n ks:=(qvi ht hn).top.1
section
variable {t:Tr}
theorem qon(h:qbx t=true) {i:Nat} (hi:i < t.length):qn9 t i=true:=by
 cases hb:qn9 t i with
 |true=>rfl
 |false=>rw[qer hi hb]at h;cases h
theorem qn4(h:qbx t=true) {i:Nat} (hi:i < t.length):qda t (t.length+1) (i:Int)=true:=by
 cases hb:qda t (t.length+1) (i:Int)with
 |true=>rfl
 |false=>rw[qrv hi hb]at h;cases h
theorem qeq(h:qbx t=true) {i:Nat} (hi:i < t.length) {k:Int} (hk:k∈(qa1 t i).kids):0<=k/\k < (t.length:Int)/\(qa1 t k).up=(i:Int)/\qf3 (qa1 t i).kids k=1/\(qa1 t i).kind<=1:=by
 have hok:=qon h hi;simp only[qn9,Bool.and_eq_true,Bool.not_eq_true']at hok;have h1:=List.any_eq_false.1 hok.2.2 k hk;simp only[badC,Bool.or_eq_true,decide_eq_true_eq,not_or]at h1;obtain⟨k0,k1,k2⟩:=h1;have k2:(qa1 t k).up=(i:Int):=Classical.byContradiction k2;have hok2:=qon h (i:=k.toNat) (by omega);have e:((k.toNat:Nat):Int)=k:=by omega
 simp only[qn9,Bool.and_eq_true,Bool.not_eq_true',badB,e,k2]at hok2;have h2:=hok2.2.1;have hi0:(0:Int)<=(i:Int):=by omega
 simp only[hi0,decide_true,Bool.true_and,Bool.or_eq_false_iff,decide_eq_false_iff_not]at h2;refine⟨by omega,by omega,k2,?_,by omega⟩;have:=h2.2;have h3:(qf3 (qa1 t i).kids k:Int)=1:=Classical.byContradiction this;omega
theorem qjq(h:qbx t=true):(qa1 t 0).up = -1/\(qa1 t 0).kind=0:=by simp only[qbx,Bool.and_eq_true,decide_eq_true_eq]at h;exact⟨h.2.2.1,h.2.1⟩
theorem qsy{L:List Int} (h:∀k,k∈L->qf3 L k=1):L.Nodup:=by
 rw[List.nodup_iff_count];intro a;by_cases ha:a∈L
 ·have:=h a ha;unfold qf3 at this;rw[List.count_eq_countP];have e:(fun x:Int=>x == a)=fun x=>decide (x=a):=by funext x;rw[Bool.eq_iff_iff];simp
  rw[e,this];exact Nat.le_refl _
 ·rw[List.count_eq_zero_of_not_mem ha];omega
def qlv(t:Tr):Nat->Int->Nat
 |0,_=>0
 |f+1,i=>if (qa1 t i).up = -1 then 0 else qlv t f (qa1 t i).up+1
theorem qni:∀(f:Nat) (i:Int),qda t f i=true->qlv t f i=qlv t (f+1) i
 |0,i,h=>by simp[qda]at h
 |f+1,i,h=>by
  unfold qda at h;rw[qlv,qlv];by_cases hu:(qa1 t i).up = -1
  ·simp[hu]
  ·simp only[hu,if_false]at h ⊢;rw[qni f _ h]
theorem qdo(h:qbx t=true):TreeK t.length (qbs t) (fun x=>(qa1 t x).up) (qlv t (t.length+1)) where
 kd:=fun i hi k hk=>by
  have hk':k∈(qa1 t i).kids:=by rw[qbt hi,qee hi];exact hk
  obtain⟨k0,k1,k2,_⟩:=qeq h hi hk';refine⟨k0,k1,k2,?_⟩;have hh:=qn4 h (i:=k.toNat) (by omega);rw[show ((k.toNat:Nat):Int)=k by omega]at hh;have hne:¬ (qa1 t k).up = -1:=by omega
  unfold qda at hh;simp only[hne,if_false,k2]at hh;rw[<- qni _ _ hh,qlv,if_neg hne,k2]
 nd:=fun i hi=>by rw[<- qee hi,<- qbt hi];exact qsy fun k hk=>(qeq h hi hk).2.2.2.1
theorem qep(h:qbx t=true):0 < t.length:=List.length_pos_iff.2 (qt7 h)
theorem zfn(h:qbx t=true):∀(f:Nat) (i:Nat),i < t.length->t.length+2<=f+qlv t (t.length+1) (i:Int)->fits f t (i:Int)
 |0,i,hi,hf=>by
  exfalso;have hd:∀(f:Nat) (x:Int),qlv t f x<=f:=by
   intro f;induction f with
   |zero=>intro x;simp[qlv]
   |succ f ih=>intro x;rw[qlv];split;omega;have:=ih (qa1 t x).up;omega
  have:=hd (t.length+1) i;omega
 |f+1,i,hi,hf=>by
  intro k hk _;obtain⟨k0,k1,k2,_⟩:=qeq h hi hk;have hd:=((qdo h).kd i hi k (by rw[<- qee hi,<- qbt hi];exact hk)).2.2.2;have:=zfn h f k.toNat (by omega) (by rw[show ((k.toNat:Nat):Int)=k by omega];omega)
  rwa [show ((k.toNat:Nat):Int)=k by omega]at this
end
section
variable {t:Tr}
theorem at_nd{K:List Int} (hn:K.Nodup) {j:Nat} (hj:j < K.length):atP K K[j]=(j:Int):=by
 have hc:=qk0 (p:=fun y=>decide (y=K[j])) K 0;rw[show qbo (fun y=>decide (y=K[j])) K 0=atP K K[j] from rfl]at hc;rcases hc with⟨h1,h2⟩|⟨q,hq,h1,h2,h3⟩
 ·have:=h2 K[j] (List.getElem_mem hj);simp at this
 ·have he:K[q]=K[j]:=by simpa using h2
  have hq2:q=j:=by
   rcases Nat.lt_trichotomy q j with hlt|hlt|hlt
   ·exact absurd he (List.pairwise_iff_getElem.1 hn q j hq hj hlt)
   ·exact hlt
   ·exact absurd he.symm (List.pairwise_iff_getElem.1 hn j q hj hq hlt)
  rw[h1,hq2];simp
theorem zes(h:qbx t=true) {i:Nat} (hi:i < t.length) (ho:(i:Int)∈qcn t.length (qbs t)) {k:Int} (hk:k∈(qa1 t i).kids):k∈qcn t.length (qbs t)/\k≠0:=by obtain⟨k0,k1,k2,_⟩:=qeq h hi hk;refine⟨ze4 (qdo h) (qep h) ho (by rw[Int.toNat_natCast,<- qee hi,<- qbt hi];exact hk),fun he=>?_⟩;subst he;have:=(qjq h).1;omega
end
section
variable {t:Tr}
def newN(t:Tr) (pos:Int->Int) (x:Int):Nd:={ qa1 t x with up:=pos (qa1 t x).up,kids:=(qa1 t x).kids.map pos }
theorem qm0:∀{s:List Bool},qfp s=0->∀i,s.getD i true=true
 |[],_,i=>by simp
 |x::r,h,0=>by
  cases x with
  |true=>rfl
  |false=>simp[qfp]at h
 |x::r,h,i+1=>by
  have:qfp r=0:=by simp only[qfp,List.count_cons]at h ⊢;omega
  simpa using qm0 this i
theorem qpd{s:List Bool} {i j:Nat} (hi:i < s.length):(s.set i true).getD j true=false↔s.getD j true=false/\j≠i:=by
 simp only[List.getD_eq_getElem?_getD,List.getElem?_set];by_cases h:i=j
 ·subst h;simp[hi]
 ·simp[h,fun e=>h (Eq.symm e)];exact fun _ e=>h e.symm
structure PutR (t:Tr) (pos:Int->Int) (s:List Bool) (S:List Int) (a:List Nd × List Bool):Prop where
 nd:a.1=S.map (newN t pos)
 ln:a.2.length=t.length
 sn:∀x:Nat,a.2.getD x true=false↔s.getD x true=false/\(x:Int) ∉ S
 un:qfp a.2<=qfp s
theorem qv9(h:qbx t=true) {pos:Int->Int} {i:Nat} (hi:i < t.length) {f:Nat} {rec:Int->Nat->List Bool->List Nd × List Bool}
  (hrec:∀k,k∈(qa1 t i).kids->∀(z:Nat) (s:List Bool),s.length=t.length->qfp s<=f->(∀x,Bel t.length (fun x=>(qa1 t x).up) (qlv t (t.length+1)) k x->s.getD x.toNat true=false)->(∀p (hp:p < (qei (qbs t) f k.toNat).length),pos (qei (qbs t) f k.toNat)[p]=(z:Int)+p) ->
   PutR t pos s (qei (qbs t) f k.toNat) (rec k z s)) :
  ∀(K:List Int),(∀k,k∈K->k∈(qa1 t i).kids)->K.Nodup->∀(z:Nat) (s:List Bool),s.length=t.length->qfp s<=f->(∀k,k∈K->∀x,Bel t.length (fun x=>(qa1 t x).up) (qlv t (t.length+1)) k x->s.getD x.toNat true=false) ->
   (∀p (hp:p < (K.flatMap fun k=>qei (qbs t) f k.toNat).length),pos (K.flatMap fun k=>qei (qbs t) f k.toNat)[p]=(z:Int)+p) ->
   (qr9 rec t.length K z s).1=K.map pos/\PutR t pos s (K.flatMap fun k=>qei (qbs t) f k.toNat) (qr9 rec t.length K z s).2
 |[],_,_,z,s,hs,hf,hu,hp=>⟨rfl,{ nd:=rfl,ln:=hs,sn:=fun x=>by simp[qr9],un:=Nat.le_refl _ }⟩
 |k::r,hK,hnd,z,s,hs,hf,hu,hp=>by
  have ht:=qdo h;have hkm:=hK k (by simp);obtain⟨k0,k1,k2,_⟩:=qeq h hi hkm;rw[List.nodup_cons]at hnd;have hks:∀k,k∈(qa1 t i).kids->k∈qbs t i:=fun k hk=>by rw[<- qee hi,<- qbt hi];exact hk
  have hks0:=hu k (by simp) k (qfq k0 k1);have hf1:0 < f:=by
   rcases Nat.eq_zero_or_pos f with rfl|h1
   ·have:=qm0 (s:=s) (by omega) k.toNat;rw[this]at hks0;cases hks0
   ·exact h1
  obtain⟨f',rfl⟩ : ∃f',f=f'+1:=⟨f - 1,by omega⟩;have eN:((k.toNat:Nat):Int)=k:=by omega
  simp only[List.flatMap_cons]at hp ⊢;have ra:=hrec k hkm z s hs hf (hu k (by simp)) (fun p hp1=>by
   have:=hp p (by rw[List.length_append];omega)
   rwa [List.getElem_append_left hp1]at this)
  have hpk:pos k=(z:Int):=by have:=hp 0 (by simp[qei]);simpa[qei,eN]using this
  have hmem:∀k2,k2∈r->k2∈(qa1 t i).kids:=fun k2 hk2=>hK k2 (by simp[hk2]);have hin:∀x,x∈qei (qbs t) (f'+1) k.toNat->Bel t.length (fun x=>(qa1 t x).up) (qlv t (t.length+1)) k x:=fun x hx=>by
   have:=qpn ht (f'+1) k.toNat (by omega) x hx
   rwa [eN]at this
  obtain⟨a,ha⟩ : ∃a,a=rec k z s:=⟨_,rfl⟩;rw[<- ha]at ra;have hal:a.1.length=(qei (qbs t) (f'+1) k.toNat).length:=by rw[ra.nd,List.length_map]
  obtain⟨q1,q2⟩:=qv9 h hi hrec r hmem hnd.2 (z+a.1.length) a.2 ra.ln (by have:=ra.un;omega) (fun k2 hk2 x hx=>by
   rw[ra.sn];refine⟨hu k2 (by simp[hk2]) x hx,fun hx2=>?_⟩;rw[show ((x.toNat:Nat):Int)=x by have:=hx.1;omega]at hx2;exact qyj ht hi (hks k hkm) (hks k2 (hmem k2 hk2)) (fun e=>hnd.1 (e ▸ hk2)) (hin x hx2) hx) (fun p hp1=>by
   have:=hp ((qei (qbs t) (f'+1) k.toNat).length+p) (by rw[List.length_append];exact Nat.add_lt_add_left hp1 _);rw[List.getElem_append_right (by omega)]at this;simp only[Nat.add_sub_cancel_left]at this;rw[this,hal];omega)
  unfold qr9;rw[if_pos ⟨k0,k1,hks0⟩];simp only[<- ha];refine⟨by rw[q1];simp[hpk],{ nd:=?_,ln:=q2.ln,sn:=fun x=>?_,un:=Nat.le_trans q2.un ra.un }⟩
  ·have e1:=q2.nd;show a.1++(qr9 rec t.length r (z+a.1.length) a.2).2.1=_;rw[List.map_append,<- e1,<- ra.nd]
  ·show (qr9 rec t.length r (z+a.1.length) a.2).2.2.getD x true=false↔_;rw[q2.sn x,ra.sn x,List.mem_append,not_or];constructor
   ·rintro⟨⟨a1,a2⟩,a3⟩;exact⟨a1,a2,a3⟩
   ·rintro⟨a1,a2,a3⟩;exact⟨⟨a1,a2⟩,a3⟩
theorem qv7 (h : qbx t = true) {pos : Int -> Int} : ∀ (f i : Nat), i < t.length -> ∀ (z : Nat) (s : List Bool), s.length = t.length -> qfp s <= f -> (∀ x, Bel t.length (fun x => (qa1 t x).up) (qlv t (t.length + 1)) (i : Int) x -> s.getD x.toNat true = false) ->
      (∀p (hp:p < (qei (qbs t) f i).length),pos (qei (qbs t) f i)[p]=(z:Int)+p)->PutR t pos s (qei (qbs t) f i) (quk f t i (pos (qa1 t i).up) z s)
 |0,i,hi,z,s,hs,hf,hu,hp=>by have h1:=hu i (qfq (by omega) (by omega));have:=qm0 (s:=s) (by omega) (i:Int).toNat;rw[this]at h1;cases h1
 |f+1,i,hi,z,s,hs,hf,hu,hp=>by
  have ht:=qdo h;have h1:=hu i (qfq (by omega) (by omega));simp only[Int.toNat_natCast]at h1;have hus:=qev h1;have hkk:(qa1 t i).kids=qbs t i:=by rw[qbt hi,qee hi]
  have hpi:pos (i:Int)=(z:Int):=by have:=hp 0 (by simp[qei]);simpa[qei]using this
  have key:=qv9 h hi (pos:=pos) (f:=f) (rec:=fun k z' s'=>quk f t k (z:Int) z' s') (fun k hk z' s' a b c d=>by
   obtain⟨k0,k1,k2,_⟩:=qeq h hi hk;have eN:((k.toNat:Nat):Int)=k:=(by omega);have:=qv7 h f k.toNat (by omega) z' s' a b (by rw[eN];exact c) d;rw[eN,k2,hpi]at this;exact this) (qa1 t i).kids (fun _ h=>h) (qsy fun k hk=>(qeq h hi hk).2.2.2.1) (z+1) (s.set i true) (by simpa using hs) (by omega) (fun k hk x hx=>by
   have hx0:=hx.1;rw[qpd (by omega)];have hb:=qwy ht hi (by rw[<- hkk];exact hk) hx;refine⟨hu x hb,fun e=>?_⟩;have:x=(i:Int):=(by omega);subst this;exact que ht hi (by rw[<- hkk];exact hk) hx) (fun p hp1=>by
   have:=hp (p+1) (by simp only[qei,List.length_cons];rw[hkk]at hp1;omega);simp only[qei,List.getElem_cons_succ]at this;simp only[hkk];rw[this];omega)
  obtain⟨q1,q2⟩:=key;unfold quk;simp only[Int.toNat_natCast];refine { nd:=?_,ln:=q2.ln,sn:=fun x=>?_,un:=?_ }
  ·simp only[qei,List.map_cons];have e2:=q2.nd;rw[hkk]at e2 q1;rw[<- e2];congr 1
   ·unfold newN;rw[hkk,<- q1]
   ·rw[hkk]
  ·have:=q2.sn x;simp only at this ⊢;rw[this,qpd (by omega),hkk];simp only[qei,List.mem_cons,not_or];constructor
   ·rintro⟨⟨a1,a2⟩,a3⟩;exact⟨a1,by omega,a3⟩
   ·rintro⟨a1,a2,a3⟩;exact⟨⟨a1,by omega⟩,a3⟩
  ·have:=q2.un;simp only at this ⊢;omega
theorem qyt(h:qbx t=true):qd2 t=(qcn t.length (qbs t)).map (newN t (atP (qcn t.length (qbs t)))):=by
 have ht:=qdo h;have hn:=qep h;have ho:=qil ht hn;have hnd:=qpq (n:=t.length) (ks:=qbs t);have hm1:atP (qcn t.length (qbs t)) (-1) = -1:=by
  have hc:=qk0 (p:=fun y=>decide (y=(-1:Int))) (qcn t.length (qbs t)) 0;rw[show qbo (fun y=>decide (y=(-1:Int))) (qcn t.length (qbs t)) 0=atP (qcn t.length (qbs t)) (-1) from rfl]at hc;rcases hc with⟨h1,_⟩|⟨q,hq,h1,h2,_⟩
  ·exact h1
  ·have:=qpr (List.getElem_mem hq);simp at h2;omega
 have key:=qv7 h (pos:=atP (qcn t.length (qbs t))) t.length 0 hn 0 (List.replicate t.length false) (by simp) (by rw[qgv];exact Nat.le_refl _) (fun x hx=>by
  have h1:x.toNat < t.length:=by have:=hx.1;have:=hx.2.1;omega
  simp[List.getD_eq_getElem?_getD,h1]) (fun p hp=>by
  have hp2:p < (qcn t.length (qbs t)).length:=by rw[ho];exact hp
  have:=at_nd hnd hp2;simp only[ho]at this ⊢;rw[this];omega)
 have e0:((0:Nat):Int)=0:=rfl;rw[e0,(qjq h).1,hm1]at key;rw[ho]at key ⊢;exact key.nd
end
section
variable {t:Tr}
theorem zh0{L:List Int} {x:Int} (h:x ∉ L):atP L x = -1:=by
 have hc:=qk0 (p:=fun y=>decide (y=x)) L 0;rw[show qbo (fun y=>decide (y=x)) L 0=atP L x from rfl]at hc;rcases hc with⟨h1,_⟩|⟨q,hq,h1,h2,_⟩
 ·exact h1
 ·simp at h2;exact absurd (h2 ▸ List.getElem_mem hq) h
section
variable {t:Tr}
theorem qwp{α:Type} {p q:α->Bool} (hpq:∀x,p x=true->q x=true):∀{l:List α} {a:α},a∈l->q a=true->p a=false->l.countP p < l.countP q
 |[],a,h,_,_=>by cases h
 |b::l,a,h,hq,hp=>by
  rw[List.countP_cons,List.countP_cons];have hle:=List.countP_mono_left (l:=l) fun x _ h=>hpq x h;rcases List.mem_cons.1 h with rfl|h
  ·rw[hq,hp,if_pos rfl,if_neg (by simp)];omega
  ·have ih:=qwp hpq h hq hp;cases hb:p b with
   |true=>rw[hpq b hb];omega
   |false=>rw[if_neg (by simp)];split<;>omega
theorem qqd:∀(f:Nat) (i:Int),qda t f i=true->qda t (f+1) i=true
 |0,i,h=>by simp[qda]at h
 |f+1,i,h=>by
  rw[qda]at h ⊢;by_cases hu:(qa1 t i).up = -1
  ·simp[hu]
  ·simp only[hu,if_false]at h ⊢;exact qqd f _ h
theorem zf9{f:Nat} {i:Int} (hh:qda t f i=true):∀(k:Nat),qda t (f+k) i=true
 |0=>hh
 |k+1=>qqd _ _ (zf9 hh k)
theorem ups_at(hu:qsv t) {i:Int} (h0:0<=i) (h1:i < (t.length:Int)):(qa1 t i).up = -1\/(0<=(qa1 t i).up/\(qa1 t i).up < (t.length:Int)):=hu _ (qb3 h0 h1)
def cntH(t:Tr) (f:Nat):Nat:=(List.range t.length).countP fun i:Nat=>qda t f (i:Int)
theorem qw6(hu:qsv t):∀f,(∀g i,i < t.length->f<=g->qda t g ((i:Nat):Int)=true->qda t f (i:Int)=true)\/f<=cntH t f
 |0=>.inr (Nat.zero_le _)
 |f+1=>by
  by_cases hs:∀i,i < t.length->qda t (f+1) ((i:Nat):Int)=true->qda t f (i:Int)=true
  ·left;have key:∀k i,i < t.length->qda t (f+k) ((i:Nat):Int)=true->qda t f (i:Int)=true:=by
    intro k;induction k with
    |zero=>intro i hi h;exact h
    |succ k ih=>
     intro i hi h;apply hs i hi;rw[show f+(k+1)=(f+k)+1 by omega,qda]at h;rw[qda];by_cases hup:(qa1 t i).up = -1
     ·simp[hup]
     ·simp only[hup,if_false]at h ⊢;obtain⟨u,hu',e⟩ : ∃u:Nat,u < t.length/\(qa1 t i).up=(u:Int):=(by have:=ups_at hu (i:=(i:Int)) (by omega) (by omega);exact⟨(qa1 t i).up.toNat,by omega,by omega⟩);rw[e]at h ⊢;exact ih u hu' h
   intro g i hi hg h;obtain⟨k,rfl⟩:=Nat.exists_eq_add_of_le hg;exact qqd f _ (key (k+1) i hi (by rw[show f+(k+1)=f+1+k by omega];exact h))
  ·right;obtain⟨i,hs⟩:=Classical.not_forall.1 hs;obtain⟨hi,hs⟩:=Classical.not_imp.1 hs;obtain⟨h1,h2⟩:=Classical.not_imp.1 hs;have hcf:f<=cntH t f:=by
    rcases qw6 hu f with h|h
    ·exact absurd (h (f+1) i hi (by omega) h1) h2
    ·exact h
   have hlt:cntH t f < cntH t (f+1):=qwp (fun x hx=>qqd f _ hx) (a:=i) (by simpa using hi) h1 (by simpa using h2);omega
theorem zf8(hu:qsv t) {g i:Nat} (hi:i < t.length) (h:qda t g (i:Int)=true):qda t t.length (i:Int)=true:=by
 rcases qw6 hu t.length with hs|hs
 ·by_cases hg:t.length<=g
  ·exact hs g i hi hg h
  ·have:=zf9 h (t.length - g);rw[show g+(t.length - g)=t.length by omega]at this;exact this
 ·have h2:(List.range t.length).countP (fun i=>qda t t.length ((i:Nat):Int))=(List.range t.length).length:=by have:=List.countP_le_length (p:=fun i=>qda t t.length ((i:Nat):Int)) (l:=List.range t.length);unfold cntH at hs;simp only[List.length_range]at this ⊢;omega
  rw[List.countP_eq_length]at h2;exact h2 i (by simpa using hi)
theorem held_n(hu:qsv t) {g i:Nat} (hi:i < t.length) (h:qda t g (i:Int)=true):qda t (t.length+1) (i:Int)=true:=qqd _ _ (zf8 hu hi h)
def Hd(t:Tr) (x:Int):Prop:=x = -1\/(0<=x/\x < (t.length:Int)/\∃f,qda t f x=true)
end
def qcs(n:Nd):Nd:={ n with up:=0,kids:=[] }
theorem zak(L:List Nd) (j:Int):qa1 (L.map qcs) j=qcs (qa1 L j):=by
 unfold qa1;simp only[List.getD_eq_getElem?_getD,List.getElem?_map];cases L[j.toNat]? with
 |none=>rfl
 |some n=>rfl
theorem qhu(L:List Nd):qau (L.map qcs)=qcs (qau L):=by
 unfold qau;by_cases h:L=[]
 ·subst h;rfl
 ·rw[if_neg h,if_neg (fun e=>h (List.map_eq_nil_iff.1 e)),zak,List.length_map]
theorem qn7{p q:Nd->Bool} (hp:∀n,p (qcs n)=p n) (hq:∀n,q (qcs n)=q n) (L:List Nd):qvh p q (L.map qcs)=qvh p q L:=by
 have e:qmp p q (L.map qcs)=qmp p q L:=by funext j;unfold qmp;rw[zak,hp,hq]
 unfold qvh;rw[e,List.length_map]
theorem qlf(L:List Nd) (W:Str) (sc:Int):qed (L.map qcs) W sc=qed L W sc:=qn7 (fun _=>rfl) (fun _=>rfl) L
theorem qo0(L:List Nd) (W:Str):qek (L.map qcs) W=qek L W:=qn7 (fun _=>rfl) (fun _=>rfl) L
theorem qvv(L:List Nd):qg5 (L.map qcs)=qg5 L:=qn7 (fun _=>rfl) (fun _=>rfl) L
theorem zbv(L:List Nd):qky (L.map qcs)=qky L:=by unfold qky;rw[List.any_map];rfl
theorem zbu(L:List Nd) (x:Str):qkx (L.map qcs) x=qkx L x:=by unfold qkx;rw[qlf,qlf,qo0,qo0,qvv,zbv,qhu];rfl
theorem qut(L:List Nd):qd7 (L.map qcs)=qd7 L:=by unfold qd7;rw[qlf,qhu];rfl
theorem qvq(L:List Nd) (n:Nd):qny (L.map qcs) (qcs n)=qny L n:=by unfold qny;rw[qut,qhu,show (qcs n).name=n.name from rfl,zbu];rfl
theorem qqu(L:List Nd) (s:Str):qfv (L.map qcs) s=qfv L s:=by unfold qfv;rw[qhu];rfl
theorem may_same{L L':List Nd} {n n':Nd} (h:L.map qcs=L'.map qcs) (hn:qcs n=qcs n'):qny L n=qny L' n':=by rw[<- qvq,h,hn,qvq]
theorem zc6{L L':List Nd} (h:L.map qcs=L'.map qcs) (s:Str):qfv L s=qfv L' s:=by rw[<- qqu,h,qqu]
section
variable {t v:Tr} {pos:Int->Int}
end
section
variable {t:Tr}
theorem dep_lt:∀(f:Nat) (i:Int),qda t f i=true->qlv t f i < f
 |0,i,h=>by simp[qda]at h
 |f+1,i,h=>by
  rw[qda]at h;rw[qlv];by_cases hu:(qa1 t i).up = -1
  ·simp[hu]
  ·simp only[hu,if_false]at h ⊢;have:=dep_lt f _ h;omega
theorem zcw(h:qbx t=true):qsv t:=zcx (qjq h).1 fun j hj=>qon h hj
theorem dep_n(h:qbx t=true) {i:Nat} (hi:i < t.length):qlv t (t.length+1) (i:Int) < t.length:=by have hh:=zf8 (zcw h) hi (qn4 h hi);rw[<- qni _ _ hh];exact dep_lt _ _ hh
theorem qze(h:qbx t=true):∀(f i:Nat),i < t.length->t.length<=f+qlv t (t.length+1) (i:Int)->qei (qbs t) (f+1) i=qei (qbs t) f i
 |0,i,hi,hf=>by have:=dep_n h hi;omega
 |f+1,i,hi,hf=>by
  rw[qei,qei];have e:(qbs t i).flatMap (fun k=>qei (qbs t) (f+1) k.toNat)=(qbs t i).flatMap fun k=>qei (qbs t) f k.toNat:=by unfold List.flatMap;congr 1;refine List.map_congr_left fun k hk=>?_;obtain⟨k0,k1,_,k2⟩:=(qdo h).kd i hi k hk;have eN:((k.toNat:Nat):Int)=k:=(by omega);exact qze h f k.toNat (by omega) (by rw[eN];omega)
  rw[e]
theorem qtb(h:qbx t=true):∀k,qei (qbs t) (t.length+k) 0=qei (qbs t) t.length 0
 |0=>rfl
 |k+1=>by rw[show t.length+(k+1)=(t.length+k)+1 by omega,qze h _ 0 (qep h) (by omega),qtb h k]
structure NewT (t v:Tr) (O:List Int) (pos:Int->Int):Prop where
 len:v.length=O.length
 zero:(0:Int)∈O/\pos 0=0
 neg:pos (-1) = -1
 rng:∀x,x∈O->0<=x/\x < (t.length:Int)
 out:∀x,x ∉ O->pos x = -1
 ps:∀x,x∈O->0<=pos x/\pos x < (v.length:Int)
 inj:∀x y,x∈O->y∈O->pos x=pos y->x=y
 cl:∀x,x∈O->∀k,k∈(qa1 t x).kids->k∈O
 all:∀j:Nat,j < v.length->∃x,x∈O/\pos x=(j:Int)
 nd:∀x,x∈O->qa1 v (pos x)=newN t pos x
 od:O.map pos=(List.range v.length).map fun j=>((j:Nat):Int)
 pre:O=qei (qbs t) t.length 0
theorem qko(h:qbx t=true):NewT t (qd2 t) (qcn t.length (qbs t)) (atP (qcn t.length (qbs t))):=by
 have ht:=qdo h;have hn:=qep h;have ho:=qil ht hn;have hnd:=qpq (n:=t.length) (ks:=qbs t);have hm:∀x,x∈qcn t.length (qbs t)->0<=x/\x < (t.length:Int):=fun x hx=>qpr hx;have hv:=qyt h;have hcl:∀x,x∈qcn t.length (qbs t)->∀k,k∈(qa1 t x).kids->k∈qcn t.length (qbs t):=fun x hx k hk=>by
  obtain⟨x0,x1⟩:=hm x hx;have eN:((x.toNat:Nat):Int)=x:=by omega
  exact(zes h (i:=x.toNat) (by omega) (by rw[eN];exact hx) (by rw[eN];exact hk)).1
 have hz:=zbj ht hn;obtain⟨O,hO⟩ : ∃O,O=qcn t.length (qbs t):=⟨_,rfl⟩;rw[<- hO]at ho hnd hm hv hcl hz ⊢;have hat:∀j (hj:j < O.length),atP O O[j]=(j:Int):=fun j hj=>at_nd hnd hj;have hidx:∀x,x∈O->∃j,∃hj:j < O.length,O[j]=x:=fun x hx=>by obtain⟨j,hj,e⟩:=List.getElem_of_mem hx;exact⟨j,hj,e⟩
 have hl:(qd2 t).length=O.length:=by rw[hv,List.length_map]
 refine { len:=hl,zero:=⟨hz,?_⟩,neg:=zh0 (fun hx=>by have:=(hm _ hx).1;omega),rng:=hm,out:=fun x hx=>zh0 hx,ps:=fun x hx=>?_,inj:=fun x y hx hy e=>?_,cl:=hcl,all:=fun j hj=>?_,nd:=fun x hx=>?_,od:=?_,pre:=ho }
 ·have e:∃r,O=0::r:=by rw[ho];obtain⟨n',hn'⟩ : ∃n',t.length=n'+1:=⟨t.length - 1,by omega⟩;rw[hn',qei];exact⟨_,rfl⟩
  obtain⟨r,e⟩:=e;have:=hat 0 (by rw[e];simp);simp only[e,List.getElem_cons_zero]at this;rw[<- e]at this;exact this
 ·obtain⟨j,hj,rfl⟩:=hidx x hx;rw[hat j hj,hl];omega
 ·obtain⟨j,hj,rfl⟩:=hidx x hx;obtain⟨j2,hj2,rfl⟩:=hidx y hy;rw[hat j hj,hat j2 hj2]at e;have:j=j2:=by omega
  subst this;rfl
 ·rw[hl]at hj;exact⟨O[j],List.getElem_mem hj,hat j hj⟩
 ·obtain⟨j,hj,rfl⟩:=hidx x hx;rw[hat j hj,qbt (by rw[hl];exact hj)];simp only[hv,List.getElem_map]
 ·refine List.ext_getElem (by simp[hl]) fun j h1 h2=>?_;rw[List.getElem_map,List.getElem_map,List.getElem_range];exact hat j (by simpa using h1)
section
variable {v:Tr} {O:List Int} {pos:Int->Int}
theorem zdv(h:qbx t=true) (w:NewT t v O pos) {x:Int} (hx:x∈O):(qa1 v (pos x)).up=pos (qa1 t x).up/\(qa1 v (pos x)).kids=(qa1 t x).kids.map pos/\(qa1 v (pos x)).kind=(qa1 t x).kind:=by rw[w.nd x hx];exact⟨rfl,rfl,rfl⟩
theorem zcy(w:NewT t v O pos) {L:List Int} (hL:∀k,k∈L->k∈O) {x:Int} (hx:x∈O):qf3 (L.map pos) (pos x)=qf3 L x:=by unfold qf3;rw[List.countP_map];refine List.countP_congr fun k hk=>?_;simp only[Function.comp_apply,decide_eq_true_eq];exact⟨fun e=>w.inj _ _ (hL k hk) hx e,fun e=>by rw[e]⟩
theorem qzx(w:NewT t v O pos):∀(f:Nat) (x:Int),x∈O->qda t f x=true->qda v f (pos x)=true
 |0,x,_,h=>by simp[qda]at h
 |f+1,x,hx,h=>by
  rw[qda]at h ⊢;rw[w.nd x hx,show (newN t pos x).up=pos (qa1 t x).up from rfl];by_cases hu:(qa1 t x).up∈O
  ·have hne:¬ (qa1 t x).up = -1:=fun e=>(by have:=(w.rng _ hu).1;omega);have hne2:¬ pos (qa1 t x).up = -1:=fun e=>(by have:=(w.ps _ hu).1;omega);rw[if_neg hne]at h;rw[if_neg hne2];exact qzx w f _ hu h
  ·rw[if_pos (w.out _ hu)]
theorem qjr(h:qbx t=true) (w:NewT t v O pos):qbx v=true:=by
 have hne:v≠[]:=fun e=>by have:=w.len;have h0:=List.length_pos_of_mem w.zero.1;rw[e]at this;simp only[List.length_nil]at this;omega
 have h0:=w.nd 0 w.zero.1;rw[w.zero.2]at h0;have hk0:(qa1 v 0).kind=0:=by rw[h0];exact(qjq h).2
 have hu0:(qa1 v 0).up = -1:=by rw[h0];show pos (qa1 t 0).up = -1;rw[(qjq h).1];exact w.neg
 have hok:∀j,j < v.length->qn9 v j=true:=fun j hj=>by
  obtain⟨x,hx,hxj⟩:=w.all j hj;obtain⟨x0,x1⟩:=w.rng x hx;obtain⟨i,rfl⟩ : ∃i:Nat,x=(i:Int):=⟨x.toNat,by omega⟩;have hi:i < t.length:=by omega
  obtain⟨n1,n2,n3⟩:=zdv h w hx;have hok:=qon h hi;simp only[qn9,Bool.and_eq_true,Bool.not_eq_true']at hok ⊢;have hups:pos (qa1 t i).up = -1\/((qa1 t i).up∈O/\0<=pos (qa1 t i).up/\pos (qa1 t i).up < (v.length:Int)):=by
   by_cases hm:(qa1 t i).up∈O
   ·exact .inr ⟨hm,w.ps _ hm⟩
   ·exact .inl (w.out _ hm)
  rw[hxj]at n1 n2 n3;refine⟨?_,?_,?_⟩
  ·unfold zcl;rw[n1,n3];by_cases hz:i=0
   ·subst hz;have:j=0:=(by have:=w.zero.2;have e0:((0:Nat):Int)=0:=rfl;rw[e0]at hxj;omega);subst this;simp
   ·have ha:=hok.1;have hp:0 < i:=(by omega);simp only[zcl,hp,decide_true,Bool.true_and,Bool.or_eq_false_iff,decide_eq_false_iff_not]at ha;simp only[Bool.and_eq_false_iff,Bool.or_eq_false_iff,decide_eq_false_iff_not];exact .inr ⟨ha.1,ha.2.1,by omega,by omega⟩
  ·unfold badB;rw[n1];rcases hups with hu|⟨hu,hu0,hu1⟩
   ·simp[hu]
   ·obtain⟨p1,p2,p3⟩:=zdv h w hu;have hb:=hok.2.1;have hup0:=(w.rng _ hu).1;simp only[badB,hup0,decide_true,Bool.true_and,Bool.or_eq_false_iff,decide_eq_false_iff_not]at hb;rw[p2,p3,<- hxj,zcy w (fun k hk=>w.cl _ hu k hk) hx];simp only[hu0,decide_true,Bool.true_and,Bool.or_eq_false_iff,decide_eq_false_iff_not];exact hb
  ·rw[n2,List.any_eq_false];intro k' hk';obtain⟨k,hk,rfl⟩:=List.mem_map.1 hk';have hkO:=w.cl _ hx k hk;obtain⟨p1,p2⟩:=w.ps k hkO;obtain⟨q1,_,_⟩:=zdv h w hkO;obtain⟨_,_,k2,_⟩:=qeq h hi hk;simp only[badC,q1,k2,hxj,Bool.or_eq_true,decide_eq_true_eq,not_or];exact⟨by omega,by omega,fun e=>e rfl⟩
 have hups:=zcx hu0 hok;refine qru hne hk0 hu0 hok fun j hj=>?_;obtain⟨x,hx,hxj⟩:=w.all j hj;obtain⟨x0,x1⟩:=w.rng x hx;have hh:=qn4 h (i:=x.toNat) (by omega);rw[show ((x.toNat:Nat):Int)=x by omega]at hh;have:=qzx w _ x hx hh;rw[hxj]at this;exact held_n hups hj this
theorem zdu(w:NewT t v O pos):∀(f i:Nat),(i:Int)∈O->qei (qbs v) f (pos i).toNat=(qei (qbs t) f i).map pos
 |0,_,_=>rfl
 |f+1,i,hi=>by
  obtain⟨p0,p1⟩:=w.ps _ hi;obtain⟨x0,x1⟩:=w.rng _ hi;have ek:qbs v (pos i).toNat=(qbs t i).map pos:=by have a1:=qee (t:=v) (i:=(pos i).toNat) (by omega);have a2:=qee (t:=t) (i:=i) (by omega);rw[<- a1,<- a2,<- qbt,<- qbt,show (((pos i).toNat:Nat):Int)=pos i by omega,w.nd _ hi];rfl
  rw[qei,qei,ek,List.map_cons,show (((pos i).toNat:Nat):Int)=pos i by omega,List.flatMap_map,List.map_flatMap];congr 1;unfold List.flatMap;congr 1;refine List.map_congr_left fun k hk=>?_;have hk':k∈(qa1 t i).kids:=by rw[qbt (by omega),qee (by omega)];exact hk
  have hkO:=w.cl _ hi k hk';have eN:((k.toNat:Nat):Int)=k:=by have:=(w.rng _ hkO).1;omega
  have:=zdu w f k.toNat (by rw[eN];exact hkO)
  rwa [eN]at this
theorem ze3(h:qbx t=true) (w:NewT t v O pos):qcn v.length (qbs v)=(List.range v.length).map fun j=>((j:Nat):Int):=by
 have hr:=qjr h w;have hv:=qdo hr;rw[qil hv (qep hr)];have hle:v.length<=t.length:=by rw[w.len,w.pre,<- qil (qdo h) (qep h)];exact qps
 obtain⟨d,hd⟩:=Nat.exists_eq_add_of_le hle;have e1:=qtb hr d;rw[<- hd]at e1;rw[<- e1];have e2:=zdu w t.length 0 (by have:=w.zero.1;exact this);have e0:((0:Nat):Int)=0:=rfl;rw[e0,w.zero.2]at e2;rw[show (0:Int).toNat=0 from rfl]at e2;rw[e2,<- w.pre,w.od]
end
end
theorem ins_at{T:List (Entry PG)} (L:List Int) (x:Int) (hl:L.length<=1000000) {b vb n:Nat} {g:List (Nat × Blk)} {fs:List (List (Nat × Blk))} (hbv:vb≠b) (hg:∀e,e∈g++fs.flatten->e.1≠b/\e.1≠vb) :
  CA T 127 [qcx b 1 (L.map qb9),.int .i64 (L.length:Int),.slc vb 0 1 (.ex 1)] ⟨n,((vb,.cells [.int .i64 x])::(qdd b (L.map qb9)++g))::fs⟩ (.slc n 0 (L.length+1) (.rest 1)) ⟨n+1,((n,.cells (qa6 ((L++[x]).map qb9)))::(vb,.cells [.int .i64 x])::g)::fs⟩:=by
 have hp:qa9 (qa6 ((L++[x]).map qb9))=true:=(qip _).pure;have hp0:qa9 (qa6 (L.map qb9))=true:=(qip _).pure;have px:qa9 [AV.int .i64 x]=true:=by simp[qa9,qab]
 have fh:FitH 0 [(b,0),(vb,1)] [] ⟨n,((vb,.cells [.int .i64 x])::(qdd b (L.map qb9)++g))::fs⟩ ⟨2,[qdd 0 (L.map qb9)++[(1,.cells [.int .i64 x])]]⟩:=by
  refine⟨by simp[Ne.symm hbv],by simp,?_,?_,fun x hx h=>absurd h (Nat.not_lt_zero _),Nat.zero_le _,?_,fun x h=>by cases h⟩
  ·cases L<;>simp[Heap.ents,qdd]
  ·intro y hy;simp at hy;rcases hy with rfl|rfl<;>simp
  ·intro e he;have h1:∃b' k,(b',1)∈[(b,0),(vb,1)]/\Heap.get ⟨n,((vb,.cells [.int .i64 x])::(qdd b (L.map qb9)++g))::fs⟩ b'=some k/\qi1 [(b,0),(vb,1)] [] k (.cells [.int .i64 x]):=⟨vb,.cells [.int .i64 x],by simp,by simp[zG],by show qax _ _ _ _;exact qak px⟩;cases L with
   |nil=>simp only[Heap.ents,List.map_nil,qdd,List.nil_append,List.flatten_cons,List.flatten_nil,List.append_nil,List.mem_singleton]at he;subst he;exact h1
   |cons y r=>
    simp only[Heap.ents,List.map_cons,qdd,List.cons_append,List.nil_append,List.flatten_cons,List.flatten_nil,List.append_nil,List.mem_cons,List.not_mem_nil,or_false]at he;rcases he with rfl|rfl
    ·exact⟨b,.cells (qa6 ((y::r).map qb9)),by simp,by simp[zG,qdd,qao hbv],by show qax _ _ _ _;exact qak hp0⟩
    ·exact h1
 have hf:qax [(b,0),(vb,1)] [] [qcx b 1 (L.map qb9),.int .i64 (L.length:Int),.slc vb 0 1 (.ex 1)] [qcx 0 1 (L.map qb9),.int .i64 (L.length:Int),.slc 1 0 1 (.ex 1)]:=by cases L<;>simp[qax,qas,qb2,qcx,qab,Ne.symm hbv]
 have out:OutH [(b,0),(vb,1)] ⟨n,((vb,.cells [.int .i64 x])::(qdd b (L.map qb9)++g))::fs⟩ ⟨2,[qdd 0 (L.map qb9)++[(1,.cells [.int .i64 x])]]⟩ ⟨3,[[(2,.cells (qa6 ((L++[x]).map qb9))),(1,.cells [.int .i64 x])]]⟩ ⟨n+1,((n,.cells (qa6 ((L++[x]).map qb9)))::(vb,.cells [.int .i64 x])::g)::fs⟩:=by
  refine⟨rfl,fun nd lt=>?_,fun e he=>?_⟩
  ·simp only[Heap.ents,List.flatten_cons,List.cons_append,List.map_cons,List.nodup_cons,List.mem_cons,not_or]at nd ⊢;have hsub:((g++fs.flatten).map (·.1)).Sublist ((qdd b (L.map qb9)++g++fs.flatten).map (·.1)):=(by rw[List.append_assoc];exact(List.sublist_append_right _ _).map _);refine⟨⟨?_,fun hx=>?_⟩,fun hx=>nd.1 (hsub.subset hx),nd.2.sublist hsub⟩
   ·have:=lt (vb,.cells [.int .i64 x]) (by simp[Heap.ents]);simp only at this;omega
   ·obtain⟨e,he,hx⟩:=List.mem_map.1 hx;have:=lt e (by
     simp only[Heap.ents,List.flatten_cons,List.cons_append,List.mem_cons,List.mem_append]at he ⊢;rcases he with he|he
     ·exact .inr (.inl (.inr he))
     ·exact .inr (.inr he))
    simp only at this;omega
  ·simp only[Heap.ents,List.flatten_cons,List.cons_append,List.mem_cons]at he;rcases he with rfl|rfl|he
   ·refine .inl ⟨(2,.cells (qa6 ((L++[x]).map qb9))),by simp[Heap.ents],?_⟩;simp only[qn0,qcd _ hp,qje,qf1];simp
   ·refine .inl ⟨(1,.cells [.int .i64 x]),by simp[Heap.ents],?_⟩;simp only[qn0,qcd _ px,qje,qf1];simp
   ·refine .inr ⟨?_,fun y hy=>?_⟩
    ·simp only[Heap.ents,List.flatten_cons,List.cons_append,List.mem_cons,List.mem_append]at he ⊢;rcases he with he|he
     ·exact .inr (.inl (.inr he))
     ·exact .inr (.inr he)
    ·obtain⟨h1,h2⟩:=hg e he;simp only[List.mem_cons,List.not_mem_nil,or_false]at hy;rcases hy with rfl|rfl
     ·exact h1.symm
     ·exact h2.symm
 have:=(c127 (T:=T) L x hl).framed fh hf out (by show 2<=3;omega);simpa[qja,qje,qf1]using this
theorem get_kids{t:Tr} {i:Nat} (h:i < t.length):qck (qa6 (t.map qa3)) (i * 7+6)=some (qbc (qa1 t i).kids):=by
 have hl:(qa6 ((t.take i).map qa3)).length=i * 7:=by rw[(qbg _).len];simp;omega
 have e1:qa6 (t.map qa3)=(qa6 ((t.take i).map qa3)++[qb9 (qa1 t i).kind,qb9 (qa1 t i).space,.str (qa1 t i).name,qaf (qa1 t i).attrs,.str (qa1 t i).data,qb9 (qa1 t i).up])++(qbc (qa1 t i).kids::qa6 ((t.drop (i+1)).map qa3)):=by
  conv=>lhs;rw[qdn h]
  simp[qbj,qa6,Nd.cs]
 have l6:(qa6 ((t.take i).map qa3)++[qb9 (qa1 t i).kind,qb9 (qa1 t i).space,.str (qa1 t i).name,qaf (qa1 t i).attrs,.str (qa1 t i).data,qb9 (qa1 t i).up]).length=i * 7+6:=by rw[List.length_append,hl];rfl
 rw[e1,qe0 (by rw[List.length_append,l6];simp),List.getElem_append_right (by omega)];simp only[l6,Nat.sub_self,List.getElem_cons_zero]
theorem own_heap{n:Nat} {f:List (Nat × Blk)} {fs:List (List (Nat × Blk))} (es:List AV):qtc ⟨n,f::fs⟩ es=⟨n+(if es=[] then 0 else 1),(qdd n es++f)::fs⟩:=by cases es<;>simp[qtc,qdd,Heap.new,pushF]
theorem prom_any{b c:Nat} {row:List AV} {f F:List (Nat × Blk)} {k0:Blk} (hcb:c≠b) (hf:getF b f=none) (hF:getF b F=some k0) (hr:qa9 row=true) :
  qcy b [c] [] [(c,.cells row)::f,F]=[f,(c,.cells row)::F]:=by
 have hcp:Nat.beq c b=false:=qao hcb;have r1:qgs 100000 [c] ((c,.cells row)::f) []=([(c,.cells row)],f):=by have hk:qr7 (.cells row)=[]:=qe3 4 _ hr;show qgs (Nat.succ (Nat.succ 99998)) [c] ((c,.cells row)::f) []=_;unfold qgs;simp only[getF,Nat.beq_refl,hk,List.nil_append,killF];unfold qgs;rfl
 have e1:qph [((c,.cells row):Nat × Blk)]++[c]=[c]:=by have hk:qr7 (.cells row)=[]:=qe3 4 _ hr;simp[qph,hk]
 have n1:getF b ((c,Blk.cells row)::f)=none:=by simp[getF,hcp,hf]
 unfold qcy;rw[n1];simp only[r1,e1];unfold qcy;simp[hF]
theorem zap{m N n pb k c u:Nat} {pre post R:List AV} {g f:List (Nat × Blk)} {t:Tr} (h:Eok m pb pre k 7 (t.map qa3) post g) (hu:u < t.length) (hc:m<=c) (hf:∀j,j < m->getF j f=none) (hR:qa9 R=true) :
  writeVar PG ⟨N,[(c,.cells R)::f,VE pb pre k 7 (t.map qa3) post g]⟩ 30 (.ptr k (u * 7+6)) (.slc c 0 n (.rest 1)) =
   some ⟨N,[f,(c,.cells R)::(pb,.cells (pre++qcx k 7 (t.map qa3)::post))::(k,.cells (qhx t u (.slc c 0 n (.rest 1))))::g]⟩:=by
 have hne:t.map qa3≠[]:=by intro e;have:=congrArg List.length e;simp at this;subst this;simp at hu
 have hck:c≠k:=by have:=h.lk.1;omega
 have hk:getF k f=none:=hf k h.lk.1;have hk1:getF k ((c,Blk.cells R)::f)=none:=by simp[getF,qao hck,hk]
 have hg:Heap.get ⟨N,[(c,.cells R)::f,VE pb pre k 7 (t.map qa3) post g]⟩ k=some (.cells (qa6 (t.map qa3))):=by simp only[Heap.get,getFs];rw[hk1,qx1 h hne]
 have pr:=prom_any (f:=f) hck hk (qx1 h hne) hR;have hs:Heap.set ⟨N,[f,(c,.cells R)::VE pb pre k 7 (t.map qa3) post g]⟩ k (.cells (qhx t u (.slc c 0 n (.rest 1))))=some ⟨N,[f,(c,.cells R)::(pb,.cells (pre++qcx k 7 (t.map qa3)::post))::(k,.cells (qhx t u (.slc c 0 n (.rest 1))))::g]⟩:=by simp only[Heap.set,setFs];rw[qjp hk];unfold VE;rw[qbn hne];simp[setF,h.k_p,qao hck]
 have hr:Heap.ready ⟨N,[(c,.cells R)::f,VE pb pre k 7 (t.map qa3) post g]⟩ k [.slc c 0 n (.rest 1)]=⟨N,[f,(c,.cells R)::VE pb pre k 7 (t.map qa3) post g]⟩:=by unfold Heap.ready;simp[refs,pr]
 unfold writeVar;simp[AV.cells,allSingle,AV.single,writeCells,hg,Blk.wt,qzr hu,hr,hs,Blk.re]
theorem c88{T:List (Entry PG)} (hP:qIn 154 T e154) (hS:qIn 124 T e124) (hH:qIn 125 T e125) (hC:qIn 128 T e128)
  {m pb k:Nat} {pre post:List AV} {g:List (Nat × Blk)} {t:Tr} (h:Eok m pb pre k 7 (t.map qa3) post g) (ht:t.length<=1000000) {u i a:Nat} (hu:u < t.length) (hi:i < t.length) (h0:i≠0) (hh:qg6 t (i:Int) (u:Int)=false) (hup:(qa1 t (i:Int)).up = -1) (hk:(qa1 t (u:Int)).kids.length<=a) (ha:a<=1000000) :
  CA T 88 [.ptr pb pre.length,.int .i64 (u:Int),.int .i64 (a:Int),.int .i64 (i:Int)] ⟨m,[VE pb pre k 7 (t.map qa3) post g]⟩ (.tup []) ⟨m,[VE pb pre k 7 ((qey (qb8 t u ((qa1 t (u:Int)).kids++[(i:Int)])) i (u:Int)).map qa3) post g]⟩:=by
 have hne:t≠[]:=by intro e;subst e;simp at hi
 have hne':t.map qa3≠[]:=by simpa using hne
 have hbi:isB t (i:Int)=true:=by simp[isB,hi]
 have hbu:isB t (u:Int)=true:=by simp[isB,hu]
 have nf:∀j,j < m->getF j ([]:List (Nat × Blk))=none:=fun _ _=>rfl;have rdT:=fun n=>(qeh (n:=n) h nf).1;have rdN:=fun n=>(qeh (n:=n) h nf).2;have hkg:∀n,Heap.get ⟨n,[[],VE pb pre k 7 (t.map qa3) post g]⟩ k=some (.cells (qa6 (t.map qa3))):=fun n=>by simp only[Heap.get,getFs];rw[nf k h.lk.1,qx1 h hne']
 have ksi:=fun n=>q124 hS (qe2 hne (hkg n)) (i:Int);have ksu:=fun n=>q124 hS (qe2 hne (hkg n)) (u:Int);have kh:=fun n=>q125 hH (qe2 hne (hkg n)) ht (i:Int) (u:Int);rw[hbi]at ksi;rw[hbu]at ksu;rw[hh]at kh;have hcut:=c126 hP hS h hi h0 hup;have ix:qat PG 22 (qcx k 7 (t.map qa3)) (.int .i64 (u:Int))=some (.ptr k (u * 7)):=by rw[qbd hne'];simp[qat,qbv hu]
 have hcut':CA T 126 [.ptr pb pre.length,.int .i64 (i:Int)] ⟨m,[[],VE pb pre k 7 (t.map qa3) post g]⟩ (.tup []) ⟨m,[[],VE pb pre k 7 (t.map qa3) post g]⟩:=hcut.perm rfl rfl (by simp[Heap.ents]) (by simp[Heap.ents]);obtain⟨K,hK⟩ : ∃K,K=(qa1 t (u:Int)).kids:=⟨_,rfl⟩;rw[<- hK]at hk;have rdK:∀(n:Nat) (f:List (Nat × Blk)),(∀j,j < m->getF j f=none)->qaw PG ⟨n,[f,VE pb pre k 7 (t.map qa3) post g]⟩ 30 (.ptr k (u * 7+6))=some (qbc K):=fun n f hf=>by
  have hg:Heap.get ⟨n,[f,VE pb pre k 7 (t.map qa3) post g]⟩ k=some (.cells (qa6 (t.map qa3))):=by simp only[Heap.get,getFs];rw[hf k h.lk.1,qx1 h hne']
  simp[hg,get_kids hu,hK]
 have rdK0:=fun n=>rdK n [] nf;have rdK1:=fun n=>rdK n (qdd (m+20) (K.map qb9)) fun j hj=>by
  cases K with
  |nil=>rfl
  |cons y r=>simp[qdd,getF,qao (show m+20≠j by omega)]
 have kcl:=k128 hC (L:=K) (by omega) ⟨m+20,[[],VE pb pre k 7 (t.map qa3) post g]⟩;rw[own_heap]at kcl;simp only[List.append_nil]at kcl;have lK:∀H,qf6 PG H 30 (qbc K)=some K.length:=fun H=>by simp[qf6,qbc]
 refine qa0 (s0:=⟨[0,1,2,3,8],[.ptr pb pre.length,.int .i64 (u:Int),.int .i64 (a:Int),.int .i64 (i:Int),uD],[],71,⟨m,[]::[VE pb pre k 7 (t.map qa3) post g]⟩⟩) Tryz.func88 rfl rfl rfl ?_;apply ra;simp[zS,rdT,ksi,ksu,kh,h0];apply qag rfl;apply qa4;simp;repeat apply wq
 refine qah (qbh [⟨126,_,_,_,_,hcut'⟩]) ?_;simp[zS,qcc];apply ra;simp[zS,rdN,ix];have mx:qs2 false (.int .i64 (a:Int)) [.int .i64 0]=some (.int .i64 (a:Int)):=by simp[qs2]
 have mn:qs2 true (.int .i64 (a:Int)) [.int .i64 (K.length:Int)]=some (.int .i64 (K.length:Int)):=by simp[qs2];omega
 have hins:=ins_at (T:=T) K (i:Int) (by omega) (b:=m+20) (vb:=m+15) (n:=m+20+(if K.map qb9=[] then 0 else 1)) (g:=[]) (fs:=[VE pb pre k 7 (t.map qa3) post g]) (by omega) (fun e he=>by
  have hne2:qdd k (t.map qa3)=[(k,.cells (qa6 (t.map qa3)))]:=qbn hne';simp only[List.nil_append,List.flatten_cons,List.flatten_nil,List.append_nil,VE,hne2,List.cons_append,List.mem_cons]at he;have l1:=h.lp;have l2:=h.lk.1;rcases he with rfl|rfl|he
  ·simp only;omega
  ·simp only;omega
  ·have:=h.lg e he;omega)
 simp only[List.append_nil]at hins;generalize hd:(if K.map qb9=[] then 0 else 1)=d at kcl hins;have pR:qa9 (qa6 (K.map qb9++[qb9 (i:Int)]))=true:=by
  have:=(qip (K++[(i:Int)])).pure
  rwa [List.map_append]at this
 have hw:=zap (N:=m+20+d+1) (n:=K.length+1) (c:=m+20+d) (f:=[(m+15,.cells [.int .i64 (i:Int)])]) h hu (by omega) (fun j hj=>by simp[getF,qao (show m+15≠j by omega)]) pR;repeat apply wq
 refine qc8 mixed (qbh [⟨127,_,_,_,_,hins⟩]) (by decide +kernel) fun B_ hB_=>?_;have hD_:ahead B_ 4 5=true/\ahead B_ 4 16=true/\ahead B_ 4 19=true/\ahead B_ 5 4=false/\ahead B_ 5 11=false/\ahead B_ 5 12=false/\ahead B_ 11 5=false/\ahead B_ 11 16=true/\ahead B_ 11 19=true/\ahead B_ 12 5=false/\ahead B_ 12 16=true/\ahead B_ 12 19=true/\ahead B_ 15 5=false/\ahead B_ 15 16=true/\ahead B_ 15 19=true/\ahead B_ 16 4=false/\ahead B_ 16 11=false/\ahead B_ 16 12=false/\ahead B_ 19 4=false/\ahead B_ 19 11=false/\ahead B_ 19 12=false:=by rw[hB_];decide +kernel
 apply qi9 B_;simp[zS,qdl,qc6,qc3,qbk,qap,qb4,qaz,Heap.lay,qd9,qi7,qi6,qfa,qf9,qf7,qf8,qfo,qfc,qdv,qdw,qfi,qfh,qff,qfg,qfl,qfm,qfk,qfj,hD_,hw,qcc,rdK0,rdK1,kcl,lK,mx,mn];exact rfl;refine⟨_,rfl,?_,?_⟩;simp[zS,qbk,qap,qc7,qcl,qdy,hD_,hw,qcc,rdK0,rdK1,kcl,lK,mx,mn];simp[qc5,Heap.lay,qd9,qam];have eR:qa6 (K.map qb9++[qb9 (i:Int)])=(K++[(i:Int)]).map qb9:=by
  have:=qov (K++[(i:Int)])
  rwa [List.map_append]at this ⊢
 have len1:(K++[(i:Int)]).length=K.length+1:=by simp
 have hl1:=h.lk.1;have hl0:=h.lp;have hkp:=h.k_p;have hes':(qb8 t u (K++[(i:Int)])).map qa3≠[]:=by simp[qb8]
 have lenS:((qb8 t u (K++[(i:Int)])).map qa3).length=(t.map qa3).length:=by simp[qcv hu]
 have b1:Nat.beq (m+15) pb=false:=qao (by omega);have b2:Nat.beq (m+20+d) pb=false:=qao (by omega);have b3:Nat.beq (m+15) k=false:=qao (by omega);have b4:Nat.beq (m+20+d) k=false:=qao (by omega);have b5:Nat.beq (m+15) (m+20+d)=false:=qao (by omega);have fk:=fit_K (m':=m) (c:=m+20+d) (es':=(qb8 t u (K++[(i:Int)])).map qa3) (cs0:=qhx t u (.slc (m+20+d) 0 (K.length+1) (.rest 1))) (K:=(K++[(i:Int)]).map qb9)
  (H:=⟨m+20+d+1,[[(m+15,.cells [.int .i64 (i:Int)])],(m+20+d,.cells (qa6 (K.map qb9++[qb9 (i:Int)])))::(pb,.cells (pre++qcx k 7 (t.map qa3)::post))::(k,.cells (qhx t u (.slc (m+20+d) 0 (K.length+1) (.rest 1))))::g]⟩)
  h (Nat.le_refl m) (by omega) hes' (by
   rw[qbd hes',lenS,<- qbd hne'];simp[zG,b1,b2]) (fun σ=>by
   have:=fit_kids (t:=t) (i:=u) (c:=m+20+d) (K:=K++[(i:Int)]) σ
   rwa [len1]at this) (by simp[zG,b3,b4,hkp]) (by simp[zG,b5,<- eR]) (by
   have:=(qip (K++[(i:Int)])).pure
   rwa [qov]at this) (fun e he=>by
   have:=h.lg e he;have nd:=h.nd;rw[List.nodup_cons]at nd;have e1:pb≠e.1:=fun x=>nd.1 (List.mem_map.2 ⟨e,he,x.symm⟩);have e2:k≠e.1:=fun x=>h.lk.2 (by rw[x];exact List.mem_cons_of_mem _ (List.mem_map.2 ⟨e,he,rfl⟩));simp[zG,qao (show m+15≠e.1 by omega),qao (show m+20+d≠e.1 by omega),qao e1,qao e2,qmq nd.2 he])
 refine .fit (idn m) [(m+20+d,(K++[(i:Int)]).map qb9)] (s':=(⟨[0,1,2,3,8],[.ptr pb pre.length,.int .i64 (u:Int),.int .i64 (a:Int),.int .i64 (i:Int),uD],[],71,⟨m,[[],VE pb pre k 7 ((qb8 t u (K++[(i:Int)])).map qa3) post g]⟩⟩ : St)) ⟨rfl,rfl,rfl,by simp[qax,qas,qc1 h.lp,qab],fk⟩ ?_;have h':=h.mono (Nat.le_refl m) (qbg (qb8 t u (K++[(i:Int)])));have hi':i < (qb8 t u (K++[(i:Int)])).length:=by rw[qcv hu];exact hi
 have rdN':=fun n=>(qeh (n:=n) h' nf).2;have ix':qat PG 22 (qcx k 7 ((qb8 t u (K++[(i:Int)])).map qa3)) (.int .i64 (i:Int))=some (.ptr k (i * 7)):=by rw[qbd hes'];simp[qat,qbv hi']
 have hw':=fun n=>qly (n:=n) h' hi' (u:Int) nf;have hes2:(qey (qb8 t u (K++[(i:Int)])) i (u:Int)).map qa3≠[]:=by simp[qey]
 have h2:=h'.mono (Nat.le_refl m) (qbg (qey (qb8 t u (K++[(i:Int)])) i (u:Int)));have hfit:=fit_W (H:=⟨m,[[],VE pb pre k 7 ((qey (qb8 t u (K++[(i:Int)])) i (u:Int)).map qa3) post g]⟩) h2 (Nat.le_refl m) hes2 (qbg _) (by
  simp only[Heap.get,getFs];rw[nf pb h.lp,VE_p]) (by
  simp only[Heap.get,getFs];rw[nf k h.lk.1,qx1 h2 hes2]) (fun e he=>by have nd:=h.nd;rw[List.nodup_cons]at nd;have e1:pb≠e.1:=fun x=>nd.1 (List.mem_map.2 ⟨e,he,x.symm⟩);have e2:k≠e.1:=fun x=>h.lk.2 (by rw[x];exact List.mem_cons_of_mem _ (List.mem_map.2 ⟨e,he,rfl⟩));simp[Heap.get,getFs,VE,qbn hes2,getF,qao e1,qao e2,qmq nd.2 he])
 apply ra;simp[zS,rdN',ix',hw'];rw[<- hK];refine⟨_,rfl,_,_,?_,hfit⟩;simp[oneOr,qas,qax]
theorem qqb{t:Tr} {x:Int} (hup:∀i:Int,isB t i=true->i < x->(qa1 t i).up < x):∀(n:Nat) (kid:Int),kid < x->qhf t x n kid=false
 |0,kid,_=>rfl
 |n+1,kid,h=>by
  unfold qhf;cases hb:isB t kid with
  |false=>simp
  |true=>have h1:¬ kid=x:=(by omega);simp only[if_true,if_neg h1];exact qqb hup n _ (hup kid hb h)
theorem qqc{t:Tr} {x kid:Int} (hup:∀i:Int,isB t i=true->i < x->(qa1 t i).up < x) (h:kid < x):qg6 t x kid=false:=by unfold qg6;rw[qqb hup _ _ h,Bool.and_false]
section
variable {m n pb k sz:Nat} {pre post es:List AV} {g f:List (Nat × Blk)}
theorem Eok.extra(h:Eok m pb pre k sz es post g) {m' q:Nat} {b:Blk} (hq:m<=q) (hm:q < m') (hb:SelfB m' b):Eok m' pb pre k sz es post (g++[(q,b)]) where
 lp:=by have:=h.lp;omega
 lk:=⟨by have:=h.lk.1;omega,fun hx=>by
  simp only[List.map_append,List.map_cons,List.map_nil]at hx;rw[<- List.cons_append,List.mem_append]at hx;rcases hx with hx|hx
  ·exact h.lk.2 hx
  ·simp only[List.mem_singleton]at hx;have:=h.lk.1;omega⟩
 lg:=fun e he=>by
  rcases List.mem_append.1 he with he|he
  ·have:=h.lg e he;omega
  ·simp only[List.mem_singleton]at he;subst he;exact hm
 nd:=by
  simp only[List.map_append,List.map_cons,List.map_nil];rw[<- List.cons_append,List.nodup_append];refine⟨h.nd,by simp,fun a ha b hb=>?_⟩;simp only[List.mem_singleton]at hb;subst hb;rcases List.mem_cons.1 ha with rfl|ha
  ·have:=h.lp;omega
  ·obtain⟨e,he,rfl⟩:=List.mem_map.1 ha;have:=h.lg e he;omega
 sg:=fun e he=>by
  rcases List.mem_append.1 he with he|he
  ·exact(h.sg e he).mono (by omega)
  ·simp only[List.mem_singleton]at he;subst he;exact hb
 sp:=fun σ hσ=>h.sp σ fun i hi=>hσ i (by omega)
 sq:=fun σ hσ=>h.sq σ fun i hi=>hσ i (by omega)
 el:=h.el
theorem rd_nodes(hf:getF pb f=none) :
  qaw PG ⟨n,[f,VE pb pre k 7 es post g]⟩ 24 (.ptr pb pre.length)=some (.agg [qcx k 7 es])/\qaw PG ⟨n,[f,VE pb pre k 7 es post g]⟩ 22 (.ptr pb pre.length)=some (qcx k 7 es):=by
 have hgv:Heap.get ⟨n,[f,VE pb pre k 7 es post g]⟩ pb=some (.cells (pre++qcx k 7 es::post)):=by simp only[Heap.get,getFs];rw[hf,VE_p]
 have gx:qck (pre++qcx k 7 es::post) pre.length=some (qcx k 7 es):=by rw[qe0 (by simp),List.getElem_append_right (by omega)];simp
 have sx:qex pre.length 1 (pre++qcx k 7 es::post)=some [qcx k 7 es]:=by simp[qex,qew]
 constructor
 ·simp[qaw,hgv,gx,sx,readCells,Blk.rd]
 ·simp[hgv,gx]
theorem qnq{e:Nat × Blk}:(⟨n,[[e],VE pb pre k sz es post g]⟩ : Heap).ents.Perm (⟨n,[VE pb pre k sz es post (g++[e])]⟩ : Heap).ents:=by simp only[Heap.ents,List.flatten_cons,List.flatten_nil,List.append_nil,VE];have:∀l:List (Nat × Blk),([e]++l).Perm (l++[e]):=fun l=>List.perm_append_comm;refine(this _).trans ?_;simp
end
def qf5(t:Tr) (u:Nat) (nd:Nd):Tr:=qey (qb8 (t++[fresh nd]) u ((qa1 t (u:Int)).kids++[(t.length:Int)])) t.length (u:Int)
structure UpOk (t:Tr):Prop where
 up:∀n,n∈t->n.up < (t.length:Int)
 kids:∀n,n∈t->n.kids.length<=t.length
theorem qkn{t:Tr} {nd:Nd} {u:Nat} (hu:u < t.length):qa1 (t++[nd]) (u:Int)=qa1 t (u:Int):=by rw[qbt (by simp;omega),qbt hu,List.getElem_append_left hu]
theorem qs1{t:Tr} {nd:Nd}:qa1 (t++[nd]) (t.length:Int)=nd:=by rw[qbt (by simp)];simp
