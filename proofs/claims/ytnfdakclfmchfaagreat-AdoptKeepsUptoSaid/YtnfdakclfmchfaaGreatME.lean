/- E on terms: what a piece of code comes to, step by step. No condition. -/
import Derived.Test.YtnfdakclfmchfaaGreatMB
import Derived.RangeFuncLeaves
import Derived.RangeFuncRecord
import Derived.LoopNIn
import Derived.Scope
import Derived.WalkKit
import Derived.ProofKit
import Derived.OpenShut
import Derived.Carry
import Derived.ChangeSame
namespace Go.Proofs.YtnfdakclfmchfaaGreat
noncomputable section
set_option linter.unusedSimpArgs false
set_option linter.unusedVariables false
open Go Go.RowKit
theorem jh:type_of% @List.append_nil:=@List.append_nil
theorem jo:type_of% @if_pos:=@if_pos
theorem ju:type_of% @List.take_of_length_le:=@List.take_of_length_le
theorem j2:type_of% @List.mem_singleton:=@List.mem_singleton
theorem j4:type_of% @List.nodup_append:=@List.nodup_append
theorem j9:type_of% @List.mem_append_left:=@List.mem_append_left
theorem jD:type_of% @List.length_map:=@List.length_map
theorem jK:type_of% @List.nodup_nil:=@List.nodup_nil
theorem jP:type_of% @List.map_nil:=@List.map_nil
theorem jV:type_of% @List.mem_append_right:=@List.mem_append_right
theorem jZ:type_of% @List.mem_of_mem_drop:=@List.mem_of_mem_drop
theorem yd:type_of% @List.length_nil:=@List.length_nil
theorem yf:type_of% @List.mem_of_mem_take:=@List.mem_of_mem_take
theorem yr:type_of% @decide_false:=@decide_false
theorem yu:type_of% @World.putObj_heap_other:=@World.putObj_heap_other
theorem yx:type_of% @List.take_length:=@List.take_length
theorem yB:type_of% @Option.some.inj:=@Option.some.inj
theorem yG:type_of% @List.getElem_of_mem:=@List.getElem_of_mem
theorem yP:type_of% @List.length_drop:=@List.length_drop
theorem yR:type_of% @Decidable.byContradiction:=@Decidable.byContradiction
theorem yW:type_of% @Nat.le_of_lt:=@Nat.le_of_lt
theorem yX:type_of% @List.drop_left:=@List.drop_left
theorem Jh:type_of% @not_or:=@not_or
theorem Jq:type_of% @World.putObj_size:=@World.putObj_size
def orOf(acc:Array Nat) (l:List Edge) (s:Nat):Nat:=l.foldl (fun s e=>if Region.binds .any e then s ||| 2 ^ e.on ||| acc.getD e.on 0 else s) s
theorem qwu{acc:Array Nat} {j:Nat}:∀{l:List Edge} {s:Nat},(orOf acc l s).testBit j=true ->
  s.testBit j=true\/∃e,e∈l/\Region.binds .any e=true/\(e.on=j\/(acc.getD e.on 0).testBit j=true)
 |[],s,h=>.inl h
 |e::r,s,h=>by
  simp only[orOf,yi]at h;rcases qwu (l:=r) h with h|⟨e',he',hb,hj⟩
  ·by_cases hb:Region.binds .any e=true
   ·rw[jo hb,Nat.testBit_or,Nat.testBit_or,Nat.testBit_two_pow]at h;simp only[Bool.or_eq_true,yk]at h;rcases h with(h|h)|h
    ·exact .inl h
    ·exact .inr ⟨e,j8,hb,.inl h⟩
    ·exact .inr ⟨e,j8,hb,.inr h⟩
   ·rw[jm hb]at h;exact .inl h
  ·exact .inr ⟨e',ji _ he',hb,hj⟩
def befL(l:List Oper) (acc:Array Nat):Array Nat:=l.foldl (fun acc o=>acc.push (orOf acc o.after.toList 0)) acc
theorem befL_eq(ops:Array Oper):Region.before ops=befL ops.toList #[]:=by unfold Region.before befL orOf;rw[<- Array.foldl_toList];congr 1;funext acc o;rw[<- Array.foldl_toList]
theorem quf:∀(l:List Oper) (acc:Array Nat),(befL l acc).size=acc.size+l.length/\(∀i,i < acc.size->(befL l acc).getD i 0=acc.getD i 0) /\
  ∀i (h:i < l.length),∃acc':Array Nat,acc'.size=acc.size+i/\(∀k,k < acc'.size->acc'.getD k 0=(befL l acc).getD k 0)/\(befL l acc).getD (acc.size+i) 0=orOf acc' l[i].after.toList 0
 |[],acc=>⟨rfl,fun _ _=>rfl,fun i h=>absurd h (j3 i)⟩
 |o::r,acc=>by
  obtain⟨h1,h2,h3⟩:=quf r (acc.push (orOf acc o.after.toList 0));have e:befL (o::r) acc=befL r (acc.push (orOf acc o.after.toList 0)):=rfl;rw[e];have hlow:∀i,i < acc.size->(befL r (acc.push (orOf acc o.after.toList 0))).getD i 0=acc.getD i 0:=fun i hi=>by rw[h2 i (by simp;omega)];simp only[Array.getD_eq_getD_getElem?,Array.getElem?_push];rw[jm (by omega)]
  refine⟨by rw[h1];simp;omega,hlow,fun i hi=>?_⟩;cases i with
  |zero=>refine⟨acc,rfl,fun k hk=>(hlow k hk).symm,?_⟩;rw[yD,h2 _ (by simp)];simp[Array.getD_eq_getD_getElem?]
  |succ i=>obtain⟨acc',g1,g2,g3⟩:=h3 i (by simpa using hi);refine⟨acc',by rw[g1];simp;omega,g2,?_⟩;have:acc.size+(i+1)=(acc.push (orOf acc o.after.toList 0)).size+i:=(by simp;omega);rw[this,g3];rfl
theorem qyy{ops:Array Oper} {i j:Nat} (h:ahead (Region.before ops) j i=true) :
  ∃o,ops[i]? = some o/\∃e,e∈o.after/\Region.binds .any e=true/\(e.on=j\/(e.on < i/\ahead (Region.before ops) j e.on=true)):=by
 unfold ahead at h;rw[befL_eq]at h ⊢;obtain⟨h1,_,h3⟩:=quf ops.toList #[];have hi:i < ops.size:=by
  rcases jF i ops.size with hh|hh
  ·exact hh
  ·have:(befL ops.toList #[]).getD i 0=0:=(by rw[Array.getD_eq_getD_getElem?,Array.getElem?_eq_none (by rw[h1];simpa using hh)];rfl);rw[this]at h;simp at h
 obtain⟨acc',g1,g2,g3⟩:=h3 i (by simpa using hi);simp only[List.size_toArray,yd,jS]at g1 g3;rw[g3]at h;rcases qwu h with h|⟨e,he,hb,hj⟩
 ·simp at h
 ·refine⟨ops[i],by simp[hi],e,by simpa using he,hb,?_⟩;rcases hj with hj|hj
  ·exact .inl hj
  ·right;have hlt:e.on < acc'.size:=by
    rcases jF e.on acc'.size with hh|hh
    ·exact hh
    ·rw[Array.getD_eq_getD_getElem?,Array.getElem?_eq_none hh]at hj;simp at hj
   refine⟨by omega,?_⟩;unfold ahead;rw[<- g2 _ hlt];exact hj
def qqq(ops:Array Oper) (D:Nat->Prop):Prop:=∀j,D j->∀o,ops[j]? = some o->∀e,e∈o.after->Region.binds .any e=true->D e.on
def qkt(ops:Array Oper) (D:Nat->Prop) (i:Nat):Prop:=∀o,ops[i]? = some o->∀e,e∈o.after->Region.binds .any e=true->D e.on
theorem qit{ops:Array Oper} {D:Nat->Prop} (hD:qqq ops D):∀{i j:Nat},qkt ops D i->ahead (Region.before ops) j i=true->D j:=by
 intro i;induction i using Nat.strongRecOn with
 |_ i ih=>
  intro j hc h;obtain⟨o,ho,e,he,hb,hj⟩:=qyy h;have hon:=hc o ho e he hb;rcases hj with rfl|⟨hlt,hj⟩
  ·exact hon
  ·exact ih e.on hlt (hD e.on hon) hj
theorem qi3{i:Nat}:∀{l:List Edge},qjf i l=true->∀e,e∈l->Region.binds .any e=true->e.on < i
 |[],_,e,he,_=>by cases he
 |x::r,h,e,he,hb=>by
  unfold qjf at h;split at h
  ·rename_i hx;rcases jd.1 he with rfl|he
   ·rw[hx]at hb;cases hb
   ·exact qi3 h e he hb
  ·split at h
   ·rename_i hlt;rcases jd.1 he with rfl|he
    ·exact by simpa using hlt
    ·exact qi3 h e he hb
   ·cases h
theorem qn4:∀{l:List Oper} {i:Nat},qsm i l=true->∀j (h:j < l.length),∀e,e∈l[j].after->Region.binds .any e=true->e.on < i+j
 |[],_,_,j,hj,_,_,_=>absurd hj (j3 j)
 |o::r,i,h,j,hj,e,he,hb=>by
  unfold qsm at h;split at h
  ·rename_i hx;cases j with
   |zero=>exact qi3 hx e (by simpa using he) hb
   |succ j=>have:=qn4 h j (by simpa using hj) e he hb;omega
  ·cases h
def qhn(ops:Array Oper) (i:Nat):Prop:=∃o,ops[i]? = some o/\qb4 o.op=.acts
theorem acting_spec:∀{l:List Oper} {i j:Nat},j∈qhj i l↔∃k,∃h:k < l.length,j=i+k/\qb4 l[k].op=.acts
 |[],i,j=>by simp[qhj]
 |o::r,i,j=>by
  have tl:j∈qhj (Nat.succ i) r↔∃k,∃h:k+1 < (o::r).length,j=i+(k+1)/\qb4 ((o::r)[k+1]).op=.acts:=by
   rw[acting_spec];constructor
   ·rintro⟨k,hk,rfl,hc⟩;exact⟨k,by simpa using hk,by omega,hc⟩
   ·rintro⟨k,hk,rfl,hc⟩;exact⟨k,by simpa using hk,by omega,hc⟩
  constructor
  ·intro h;unfold qhj at h;split at h
   ·rename_i hc;rcases jd.1 h with rfl|h
    ·exact⟨0,by simp,rfl,hc⟩
    ·obtain⟨k,hk,h1,h2⟩:=tl.1 h;exact⟨k+1,hk,h1,h2⟩
   ·obtain⟨k,hk,h1,h2⟩:=tl.1 h;exact⟨k+1,hk,h1,h2⟩
  ·rintro⟨k,hk,h1,h2⟩;unfold qhj;cases k with
   |zero=>simp only[jH]at h2;simp only[h2];exact jd.2 (.inl h1)
   |succ k=>
    have:=tl.2 ⟨k,hk,h1,h2⟩;split
    ·exact ji _ this
    ·exact this
theorem zcs{l:List Oper} {i j:Nat} (h:j∈qhj i l):i<=j:=by obtain⟨k,_,rfl,_⟩:=acting_spec.1 h;omega
theorem mem_acting{ops:Array Oper} {i:Nat}:i∈qhj 0 ops.toList↔qhn ops i:=by
 rw[acting_spec];constructor
 ·rintro⟨k,hk,rfl,hc⟩;have hk':k < ops.size:=by simpa using hk
  exact⟨ops[k],by simp[hk'],by simpa using hc⟩
 ·rintro⟨o,ho,hc⟩;obtain⟨hi,rfl⟩:=Array.getElem?_eq_some_iff.1 ho;exact⟨i,by simpa using hi,by simp,by simpa using hc⟩
def Fol(ops:Array Oper) (j i:Nat):Prop:=∀D,qqq ops D->qkt ops D i->D j
theorem Fol.of_ahead{ops:Array Oper} {j i:Nat} (h:ahead (Region.before ops) j i=true):Fol ops j i:=fun _ hD hc=>qit hD hc h
theorem Fol.trans{ops:Array Oper} {j k i:Nat} (h:Fol ops j k) (g:Fol ops k i):Fol ops j i:=fun D hD hc=>h D hD (hD k (g D hD hc))
theorem qn2{ops:Array Oper}:∀{r:List Nat} {i:Nat},qjh (Region.before ops) (i::r)=true->∀j,j∈r->Fol ops i j
 |[],_,_,_,h=>by cases h
 |k::r,i,h,j,hj=>by
  unfold qjh at h;simp only at h;split at h
  ·rename_i hx;rcases jd.1 hj with rfl|hj
   ·exact .of_ahead hx
   ·exact Fol.trans (.of_ahead hx) (qn2 h j hj)
  ·cases h
theorem qua{ops:Array Oper} {r:List Nat} {i:Nat} (h:qjh (Region.before ops) (i::r)=true):qjh (Region.before ops) r=true:=by
 unfold qjh at h;cases r with
 |nil=>rfl
 |cons k r=>
  simp only at h;split at h
  ·exact h
  ·cases h
theorem qks{ops:Array Oper}:∀{l:List Oper} {k:Nat},qjh (Region.before ops) (qhj k l)=true->∀i j,i∈qhj k l->j∈qhj k l->i < j->Fol ops i j
 |[],_,_,i,j,hi,_,_=>by simp[qhj]at hi
 |o::r,k,h,i,j,hi,hj,hlt=>by
  unfold qhj at h hi hj;split at h
  ·rename_i hc;simp only[hc]at hi hj;rcases jd.1 hi with rfl|hi
   ·rcases jd.1 hj with rfl|hj
    ·omega
    ·exact qn2 h j hj
   ·rcases jd.1 hj with rfl|hj
    ·have:=zcs hi;omega
    ·exact qks (qua h) i j hi hj hlt
  ·rename_i hc;split at hi
   next hc'=>exact absurd hc' hc
   ·split at hj
    next hc'=>exact absurd hc' hc
    ·exact qks h i j hi hj hlt
theorem memN_spec{n:Nat}:∀{l:List Nat},memN n l=true↔n∈l
 |[]=>by simp[memN]
 |m::r=>by
  unfold memN;split
  next h=>simp[Nat.eq_of_beq_eq_true h]
  ·rename_i h;rw[memN_spec,jd];constructor
   ·exact .inr
   ·rintro(rfl|h')
    ·simp at h
    ·exact h'
theorem qk5{bef:Array Nat} {i:Nat} {ts:List Nat}:∀{l:List Oper} {j:Nat},qfw bef i ts j l=true->∀k (h:k < l.length) t,l[k].dst=some t->t∈ts ->
  i=j+k\/(i < j+k/\ahead bef i (j+k)=true)\/(j+k < i/\ahead bef (j+k) i=true)
 |[],_,_,k,hk,_,_,_=>absurd hk (j3 k)
 |p::r,j,h,k,hk,t,hd,ht=>by
  have tl:qfw bef i ts (Nat.succ j) r=true:=by
   unfold qfw at h;split at h
   ·exact h
   ·split at h
    ·exact h
    ·split at h
     ·exact h
     ·cases h
  cases k with
  |succ k=>have:=qk5 tl k (by simpa using hk) t hd ht;have e:Nat.succ j+k=j+(k+1):=(by omega);rw[e]at this;exact this
  |zero=>
   simp only[jH]at hd;unfold qfw at h;simp only[hd,memN_spec.2 ht]at h;split at h
   ·rename_i hx;split at hx
    next hij=>exact .inl (Nat.eq_of_beq_eq_true hij)
    ·rename_i hij;split at hx
     next hlt=>exact .inr (.inl ⟨by simpa using hlt,hx⟩)
     ·rename_i hlt;have h1:i≠j:=fun e=>by subst e;simp at hij
      have h2 : ¬ i < j := fun e => by have : Nat.blt i j = true := by simpa using e
                                       rw[this]at hlt;cases hlt
      exact .inr (.inr ⟨by omega,hx⟩)
   ·cases h
theorem qmr{bef:Array Nat} {ops:Array Oper}:∀{l:List Oper} {i:Nat},qqv bef ops i l=true->∀k (h:k < l.length),qfw bef (i+k) (l[k].dst.toList++qfk ops l[k]) 0 ops.toList=true
 |[],_,_,k,hk=>absurd hk (j3 k)
 |o::r,i,h,k,hk=>by
  unfold qqv at h;split at h
  ·rename_i hx;cases k with
   |zero=>exact hx
   |succ k=>have:=qmr h k (by simpa using hk);have e:Nat.succ i+k=i+(k+1):=(by omega);rw[e]at this;exact this
  ·cases h
structure Drawn (ops:Array Oper):Prop where
 temps:∀i o,ops[i]? = some o->∀j p t,ops[j]? = some p->p.dst=some t->t∈o.dst.toList++qfk ops o ->
  i=j\/(i < j/\ahead (Region.before ops) i j=true)\/(j < i/\ahead (Region.before ops) j i=true)
 back:∀i o,ops[i]? = some o->∀e,e∈o.after->Region.binds .any e=true->e.on < i
 chain:∀i j,qhn ops i->qhn ops j->i < j->Fol ops i j
theorem qvn{ops:Array Oper} (h:qqk ops=true):Drawn ops:=by
 unfold qqk at h;split at h
 ·rename_i hc;split at h
  ·rename_i ht;refine⟨fun i o ho j p t hp hd hm=>?_,fun i o ho e he hb=>?_,fun i j hi hj hlt=>qks hc i j (mem_acting.2 hi) (mem_acting.2 hj) hlt⟩
   ·obtain⟨hi,rfl⟩:=Array.getElem?_eq_some_iff.1 ho;obtain⟨hj,rfl⟩:=Array.getElem?_eq_some_iff.1 hp;have h1:=qmr ht i (by simpa using hi);have h2:=qk5 h1 j (by simpa using hj) t (by simpa using hd) (by simpa using hm);simpa using h2
   ·obtain⟨hi,rfl⟩:=Array.getElem?_eq_some_iff.1 ho;have:=qn4 h i (by simpa using hi) e (by simpa using he) hb;omega
  ·cases h
 ·cases h
theorem Drawn.lt{ops:Array Oper} (d:Drawn ops) {j i:Nat} (h:ahead (Region.before ops) j i=true):j < i:=
 qit (D:=fun k=>k < i) (fun k hk o ho e he hb=>Nat.lt_trans (d.back k o ho e he hb) hk) (fun o ho e he hb=>d.back i o ho e he hb) h
@[simp]theorem St.wH_eq(s:St) (H:Heap):s.wH H=⟨s.ks,s.vs,s.ts,s.sz,H⟩:=rfl
@[simp]theorem St.wT_eq(s:St):s.wT=⟨s.ks,s.vs,[],s.sz,s.H⟩:=rfl
theorem St.put_spec{s s':St} {d:Option Tmp} {v:AV} (h:s.put d v=some s') :
  (∀t,s'.get t=if d=some t then some v else s.get t)/\s'.sz=s.sz/\s'.H=s.H/\∀t,d=some t->t < s.sz:=by
 cases d with
 |none=>simp only[St.put,sj]at h;subst h;exact⟨fun t=>by simp,rfl,rfl,fun t ht=>by cases ht⟩
 |some t=>
  obtain⟨h1,h2,h3,_,h5⟩:=St.set_get h;refine⟨fun u=>?_,h2,h3,fun u hu=>by cases hu;exact h1⟩;rw[h5];by_cases hu:u=t
  ·simp[hu]
  ·rw[jm hu,jm (fun e=>hu (by cases e;rfl))]
inductive How (C:Ctx) (call:qck) (ops:Array Oper) (base i:Nat) (o:Oper) (d d':DrawSt) (v:AV):Prop
 |skip (hg:qar ops d.s o=some false) (hv:v=.tup []) (hc:qb4 o.op≠.acts) (hH:d'.s.H=d.s.H) (hp:d'.ps=d.ps) (hh:d'.hs=d.hs) (hr:d'.rs=d.rs)
 |skipActs (hg:qar ops d.s o=some false) (hv:v=.tup []) (hc:qb4 o.op=.acts) (hH:d'.s.H=d.s.H.lay (qbd (Region.before ops) i d.ps))
   (hp:d'.ps=qba (Region.before ops) i d.ps) (hh:d'.hs=(i,d'.s.H)::d.hs) (hr:d'.rs=d.rs)
 |alloc (hg:qar ops d.s o=some true) (hc:qb4 o.op=.allocs) (k:(Nat->AV) × Blk) (hk:qbc C o d.s=some k) (hv:v=k.1 (base+i)) (hH:d'.s.H=d.s.H)
   (hp:d'.ps=⟨i,base+i,k.2⟩::d.ps) (hh:d'.hs=d.hs) (hr:d'.rs=d.rs)
 |act (hg:qar ops d.s o=some true) (hc:qb4 o.op=.acts) (he:qah C call o { d.s with H:=d.s.H.lay (qbd (Region.before ops) i d.ps) }=some (v,d'.s.H))
   (hp:d'.ps=qba (Region.before ops) i d.ps) (hh:d'.hs=(i,d'.s.H)::d.hs) (hr:d'.rs=d.rs)
 |read (hg:qar ops d.s o=some true) (hc:qb4 o.op=.reads) (he:qah C call o d.s=some (v,d.s.H)) (hH:d'.s.H=d.s.H) (hp:d'.ps=d.ps) (hh:d'.hs=d.hs)
   (hr:d'.rs=⟨i,o,d.s,v⟩::d.rs)
 |pure (hg:qar ops d.s o=some true) (hc:qb4 o.op=.pure) (he:qah C call o d.s=some (v,d.s.H)) (hH:d'.s.H=d.s.H) (hp:d'.ps=d.ps) (hh:d'.hs=d.hs)
   (hr:d'.rs=d.rs)
theorem qxv{C:Ctx} {call:qck} {ops:Array Oper} {base i:Nat} {o:Oper} {d d':DrawSt} (h:qi7 C call ops (Region.before ops) base i o d=some d') :
  ∃v,How C call ops base i o d d' v/\(∀t,d'.s.get t=if o.dst=some t then some v else d.s.get t)/\d'.s.sz=d.s.sz/\∀t,o.dst=some t->t < d.s.sz:=by
 unfold qi7 at h;obtain⟨g,hg,h⟩:=obs h;cases g with
 |false=>
  obtain⟨s',hs,h⟩:=obs h;obtain⟨h1,h2,h3,h4⟩:=St.put_spec hs;cases hc:qb4 o.op<;>simp only[hc,sj]at h<;>subst h
  case acts=>exact⟨_,.skipActs hg rfl hc (by simp[h3]) rfl rfl rfl,h1,h2,h4⟩
  all_goals exact⟨_,.skip hg rfl (by rw[hc];intro e;cases e) h3 rfl rfl rfl,h1,h2,h4⟩
 |true=>
  cases hc:qb4 o.op<;>simp only[hc]at h
  case allocs=>
   obtain⟨k,hk,h⟩:=obs h;obtain⟨s',hs,h⟩:=obs h;obtain⟨h1,h2,h3,h4⟩:=St.put_spec hs;simp only[sj]at h;subst h;exact⟨_,.alloc hg hc k hk rfl h3 rfl rfl rfl,h1,h2,h4⟩
  case acts=>
   obtain⟨⟨v,H'⟩,hv,h⟩:=obs h;obtain⟨s',hs,h⟩:=obs h;obtain⟨h1,h2,h3,h4⟩:=St.put_spec hs;simp only[sj]at h;subst h;refine⟨v,.act hg hc (by show qah C call o (d.s.wH _)=_;rw[hv];simp only[St.wH_eq]at h3;rw[h3]) rfl rfl rfl,h1,h2,h4⟩
  case reads=>
   obtain⟨⟨v,H'⟩,hv,h⟩:=obs h;obtain⟨s',hs,h⟩:=obs h;obtain⟨h1,h2,h3,h4⟩:=St.put_spec hs;simp only[sj]at h;subst h;have:=qh0 hc hv;subst this;exact⟨v,.read hg hc hv h3 rfl rfl rfl,h1,h2,h4⟩
  case pure=>
   obtain⟨⟨v,H'⟩,hv,h⟩:=obs h;obtain⟨s',hs,h⟩:=obs h;obtain⟨h1,h2,h3,h4⟩:=St.put_spec hs;simp only[sj]at h;subst h;have:=(qhw hc hv).1;subst this;exact⟨v,.pure hg hc hv h3 rfl rfl rfl,h1,h2,h4⟩
structure Run (C:Ctx) (call:qck) (ops:Array Oper) (base:Nat) (R:Nat->DrawSt) (V:Nat->AV):Prop where
 how:∀i o,ops[i]? = some o->How C call ops base i o (R i) (R (i+1)) (V i)
 get:∀i o,ops[i]? = some o->∀t,(R (i+1)).s.get t=if o.dst=some t then some (V i) else (R i).s.get t
 sz:∀i o,ops[i]? = some o->(R (i+1)).s.sz=(R i).s.sz
 lt:∀i o,ops[i]? = some o->∀t,o.dst=some t->t < (R i).s.sz
 ps0:(R 0).ps=[]
 hs0:(R 0).hs=[]
 same:∀x,x∈(R ops.size).rs->qc9 C call (Region.before ops) x (R 0).s.H (R ops.size).hs=true
theorem qqj{C:Ctx} {call:qck} {ops:Array Oper} {base:Nat}:∀{l:List Oper} {i:Nat} {d d':DrawSt},qlm C call ops (Region.before ops) base i l d=some d' ->
  ∃R:Nat->DrawSt,R 0=d/\R l.length=d'/\∀j (h:j < l.length),qi7 C call ops (Region.before ops) base (i+j) l[j] (R j)=some (R (j+1))
 |[],i,d,d',h=>by simp only[qlm,sj]at h;subst h;exact⟨fun _=>d,rfl,rfl,fun j h=>absurd h (j3 j)⟩
 |o::r,i,d,d',h=>by
  obtain⟨d1,h1,h2⟩:=obs h;obtain⟨R,r0,r1,r2⟩:=qqj h2;refine⟨fun j=>match j with | 0=>d|j+1=>R j,rfl,r1,fun j hj=>?_⟩;cases j with
  |zero=>simp only[yD,jH,jS];rw[r0];exact h1
  |succ j=>have:=r2 j (by simpa using hj);have e:Nat.succ i+j=i+(j+1):=(by omega);rw[e]at this;exact this
theorem ql3{C:Ctx} {call:qck} {bef:Array Nat} {H0:Heap} {hs:List (Nat × Heap)}:∀{rs:List Rec},qc1 C call bef H0 hs rs=true->∀x,x∈rs->qc9 C call bef x H0 hs=true
 |[],_,_,h=>by cases h
 |y::r,h,x,hx=>by
  unfold qc1 at h;split at h
  ·rename_i hy;rcases jd.1 hx with rfl|hx
   ·exact hy
   ·exact ql3 h x hx
  ·cases h
theorem qu5{C:Ctx} {call:qck} {ops:Array Oper} {s s':St} (h:qjt C call ops s=some s') :
  Drawn ops/\∃R V,Run C call ops s.H.n R V/\(R 0).s=qbh (qan ops.toList s) ops.size/\s'={ (R ops.size).s with H:=(R ops.size).s.H.lay (allPend (R ops.size).ps) }:=by
 unfold qjt at h;split at h
 ·cases h
 ·rename_i hd;refine⟨qvn hd,?_⟩;obtain⟨d,hr,h⟩:=obs h;split at h
  ·rename_i hsame;simp only[sj]at h;obtain⟨R,r0,r1,r2⟩:=qqj hr;have r1':R ops.size=d:=(by simpa using r1);have all:∀i,∃v,∀o,ops[i]? = some o->How C call ops s.H.n i o (R i) (R (i+1)) v/\(∀t,(R (i+1)).s.get t=if o.dst=some t then some v else (R i).s.get t) /\
     (R (i+1)).s.sz=(R i).s.sz/\∀t,o.dst=some t->t < (R i).s.sz:=fun i=>by
    rcases jF i ops.size with hi|hi
    ·have h1:=r2 i (by simpa using hi);rw[jS]at h1;obtain⟨v,h2⟩:=qxv h1;refine⟨v,fun o ho=>?_⟩;obtain⟨_,rfl⟩:=Array.getElem?_eq_some_iff.1 ho;simpa using h2
    ·exact⟨.undef,fun o ho=>by rw[Array.getElem?_eq_none hi]at ho;cases ho⟩
   refine⟨R,fun i=>(all i).choose,⟨fun i o ho=>((all i).choose_spec o ho).1,fun i o ho=>((all i).choose_spec o ho).2.1,fun i o ho=>((all i).choose_spec o ho).2.2.1,
    fun i o ho=>((all i).choose_spec o ho).2.2.2,by rw[r0],by rw[r0],?_⟩,by rw[r0],by rw[r1',<- h];rfl⟩
   rw[r1',r0];exact ql3 hsame
  ·cases h
def qpr(ops:Array Oper) (j:Nat):Option Tmp:=(ops[j]?).bind (·.dst)
def Cur(ops:Array Oper) (R:Nat->DrawSt) (V:Nat->AV) (D:Nat->Prop) (t:Nat) (v:AV):Prop:=
 (∃j,D j/\qpr ops j=some t/\(∀k,D k->qpr ops k=some t->k<=j)/\V j=v)\/((∀k,D k->qpr ops k≠some t)/\(R 0).s.get t=some v)
def CurH(ops:Array Oper) (R:Nat->DrawSt) (D:Nat->Prop) (H:Heap):Prop:=
 (∃j,D j/\qhn ops j/\(∀k,D k->qhn ops k->k<=j)/\H=(R (j+1)).s.H)\/((∀k,D k->¬ qhn ops k)/\H=(R 0).s.H)
theorem CurH.one{ops:Array Oper} {R:Nat->DrawSt} {D:Nat->Prop} {H H':Heap} (h:CurH ops R D H) (h':CurH ops R D H'):H=H':=by
 rcases h with⟨j,h1,h2,h3,h4⟩|⟨h1,h2⟩<;>rcases h' with⟨j',g1,g2,g3,g4⟩|⟨g1,g2⟩
 ·have:=h3 j' g1 g2;have:=g3 j h1 h2;have e:j=j':=by omega
  subst e;rw[h4,g4]
 ·exact absurd h2 (g1 j h1)
 ·exact absurd g2 (h1 j' g1)
 ·rw[h2,g2]
def AllocAt(C:Ctx) (ops:Array Oper) (R:Nat->DrawSt) (A:Nat) (k:Blk):Prop:=
 ∃o p,ops[A]? = some o/\qb4 o.op=.allocs/\qar ops (R A).s o=some true/\qbc C o (R A).s=some p/\k=p.2
theorem mem_wanted{bef:Array Nat} {i:Nat} {e:Nat × Blk}:∀{l:List Pend},e∈qbd bef i l↔∃p,p∈l/\ahead bef p.i i=true/\e=(p.b,p.k)
 |[]=>by simp[qbd]
 |p::r=>by
  unfold qbd;split
  ·rename_i h;rw[jd,mem_wanted];constructor
   ·rintro(rfl|⟨q,hq,h1,h2⟩)
    ·exact⟨p,j8,h,rfl⟩
    ·exact⟨q,ji _ hq,h1,h2⟩
   ·rintro⟨q,hq,h1,h2⟩;rcases jd.1 hq with rfl|hq
    ·exact .inl h2
    ·exact .inr ⟨q,hq,h1,h2⟩
  ·rename_i h;rw[mem_wanted];constructor
   ·rintro⟨q,hq,h1,h2⟩;exact⟨q,ji _ hq,h1,h2⟩
   ·rintro⟨q,hq,h1,h2⟩;rcases jd.1 hq with rfl|hq
    ·rw[h]at h1;cases h1
    ·exact⟨q,hq,h1,h2⟩
theorem mem_unwanted{bef:Array Nat} {i:Nat} {p:Pend}:∀{l:List Pend},p∈qba bef i l↔p∈l/\ahead bef p.i i=false
 |[]=>by simp[qba]
 |q::r=>by
  unfold qba;split
  ·rename_i h;rw[mem_unwanted,jd];constructor
   ·rintro⟨h1,h2⟩;exact⟨.inr h1,h2⟩
   ·rintro⟨h1,h2⟩;rcases h1 with rfl|h1
    ·rw[h]at h2;cases h2
    ·exact⟨h1,h2⟩
  ·rename_i h;rw[jd,mem_unwanted,jd];constructor
   ·rintro(rfl|⟨h1,h2⟩)
    ·exact⟨.inl rfl,h⟩
    ·exact⟨.inr h1,h2⟩
   ·rintro⟨rfl|h1,h2⟩
    ·exact .inl rfl
    ·exact .inr ⟨h1,h2⟩
theorem qhp(bef:Array Nat) (i:Nat):∀(l:List Pend),(qba bef i l).Sublist l
 |[]=>ym _
 |q::r=>by
  unfold qba;split
  ·exact(qhp bef i r).trans (yA _ _)
  ·exact(qhp bef i r).cons_cons _
theorem qly(bef:Array Nat) (i:Nat):∀(l:List Pend),((qbd bef i l).map (·.1)).Sublist (l.map (·.b))
 |[]=>ym _
 |q::r=>by
  unfold qbd;split
  ·simp only[List.map_cons];exact(qly bef i r).cons_cons _
  ·simp only[List.map_cons];exact(qly bef i r).trans (yA _ _)
theorem mem_allPend{e:Nat × Blk}:∀{l:List Pend},e∈allPend l↔∃p,p∈l/\e=(p.b,p.k)
 |[]=>by simp[allPend]
 |p::r=>by
  simp only[allPend,jd,mem_allPend];constructor
  ·rintro(rfl|⟨q,hq,h⟩)
   ·exact⟨p,.inl rfl,rfl⟩
   ·exact⟨q,.inr hq,h⟩
  ·rintro⟨q,rfl|hq,h⟩
   ·exact .inl h
   ·exact .inr ⟨q,hq,h⟩
theorem qpd:∀(l:List Pend),(allPend l).map (·.1)=l.map (·.b)
 |[]=>rfl
 |p::r=>by simp[allPend,qpd r]
section
variable {C:Ctx} {call:qck} {ops:Array Oper} {base:Nat} {R:Nat->DrawSt} {V:Nat->AV}
theorem Run.get_at(run:Run C call ops base R V):∀i,i<=ops.size->∀t v,(R i).s.get t=some v->Cur ops R V (fun j=>j < i) t v
 |0,_,t,v,h=>.inr ⟨fun k hk=>absurd hk (j3 k),h⟩
 |i+1,hi,t,v,h=>by
  have ho:ops[i]? = some ops[i]:=by simp[show i < ops.size by omega]
  have hd:qpr ops i=ops[i].dst:=by simp[qpr,ho]
  rw[run.get i _ ho]at h;split at h
  next hdt=>simp only[sj]at h;exact .inl ⟨i,jT i,by rw[hd,hdt],fun k hk _=>Nat.le_of_lt_succ hk,h⟩
  ·rename_i hdt;have hne:∀k,k < i+1->qpr ops k=some t->k < i:=fun k hk hkd=>by
    rcases jF k i with h|h
    ·exact h
    ·have:k=i:=(by omega);subst this;rw[hd]at hkd;exact absurd hkd hdt
   rcases run.get_at i (by omega) t v h with⟨j,h1,h2,h3,h4⟩|⟨h1,h2⟩
   ·exact .inl ⟨j,by omega,h2,fun k hk hkd=>h3 k (hne k hk hkd) hkd,h4⟩
   ·exact .inr ⟨fun k hk hkd=>h1 k (hne k hk hkd) hkd,h2⟩
theorem Run.sz_at(run:Run C call ops base R V):∀i,i<=ops.size->(R i).s.sz=(R 0).s.sz
 |0,_=>rfl
 |i+1,hi=>by
  have ho:ops[i]? = some ops[i]:=by simp[show i < ops.size by omega]
  rw[run.sz i _ ho,run.sz_at i (by omega)]
theorem How.quiet{i:Nat} {o:Oper} {d d':DrawSt} {v:AV} (h:How C call ops base i o d d' v) (hc:qb4 o.op≠.acts):d'.s.H=d.s.H/\d'.hs=d.hs:=by
 cases h with
 |skip _ _ _ hH _ hh=>exact⟨hH,hh⟩
 |skipActs _ _ hc'=>exact absurd hc' hc
 |alloc _ _ _ _ _ hH _ hh=>exact⟨hH,hh⟩
 |act _ hc'=>exact absurd hc' hc
 |read _ _ _ hH _ hh=>exact⟨hH,hh⟩
 |pure _ _ _ hH _ hh=>exact⟨hH,hh⟩
theorem How.loud{i:Nat} {o:Oper} {d d':DrawSt} {v:AV} (h:How C call ops base i o d d' v) (hc:qb4 o.op=.acts):d'.ps=qba (Region.before ops) i d.ps/\d'.hs=(i,d'.s.H)::d.hs:=by
 cases h with
 |skip _ _ hc'=>exact absurd hc hc'
 |skipActs _ _ _ _ hp hh=>exact⟨hp,hh⟩
 |act _ _ _ hp hh=>exact⟨hp,hh⟩
 |alloc _ hc'=>rw[hc]at hc';cases hc'
 |read _ hc'=>rw[hc]at hc';cases hc'
 |pure _ hc'=>rw[hc]at hc';cases hc'
theorem Run.heap_at(run:Run C call ops base R V):∀i,i<=ops.size->CurH ops R (fun j=>j < i) (R i).s.H
 |0,_=>.inr ⟨fun k hk=>absurd hk (j3 k),rfl⟩
 |i+1,hi=>by
  have ho:ops[i]? = some ops[i]:=by simp[show i < ops.size by omega]
  by_cases hc:qb4 ops[i].op=.acts
  ·exact .inl ⟨i,jT i,⟨_,ho,hc⟩,fun k hk _=>Nat.le_of_lt_succ hk,rfl⟩
  ·have hne:∀k,k < i+1->qhn ops k->k < i:=fun k hk hka=>by
    rcases jF k i with h|h
    ·exact h
    ·have:k=i:=(by omega);subst this;obtain⟨o,ho',hc'⟩:=hka;rw[ho]at ho';cases ho';exact absurd hc' hc
   rw[((run.how i _ ho).quiet hc).1];rcases run.heap_at i (by omega)with⟨j,h1,h2,h3,h4⟩|⟨h1,h2⟩
   ·exact .inl ⟨j,by omega,h2,fun k hk hka=>h3 k (hne k hk hka) hka,h4⟩
   ·exact .inr ⟨fun k hk hka=>h1 k (hne k hk hka) hka,h2⟩
theorem Run.ps_at(run:Run C call ops base R V):∀i,i<=ops.size->((R i).ps.map (·.b)).Nodup /\
  ∀p,p∈(R i).ps->p.i < i/\p.b=base+p.i/\AllocAt C ops R p.i p.k/\∀j,qhn ops j->p.i < j->j < i->ahead (Region.before ops) p.i j=false
 |0,_=>by rw[run.ps0];exact⟨jK,fun p hp=>by cases hp⟩
 |i+1,hi=>by
  have ho:ops[i]? = some ops[i]:=by simp[show i < ops.size by omega]
  obtain⟨hn,ih⟩:=run.ps_at i (by omega);have notAct:qb4 ops[i].op≠.acts->¬ qhn ops i:=fun hc ⟨o,ho',hc'⟩=>by rw[ho]at ho';cases ho';exact hc hc'
  have old:(∀p,p∈(R i).ps->¬ qhn ops i\/ahead (Region.before ops) p.i i=false)->∀p,p∈(R i).ps->p.i < i+1/\p.b=base+p.i/\AllocAt C ops R p.i p.k /\
    ∀j,qhn ops j->p.i < j->j < i+1->ahead (Region.before ops) p.i j=false:=fun hx p hp=>by
   obtain⟨h1,h2,h3,h4⟩:=ih p hp;refine⟨by omega,h2,h3,fun j hj hlt hj1=>?_⟩;rcases jF j i with h|h
   ·exact h4 j hj hlt h
   ·have:j=i:=(by omega);subst this;rcases hx p hp with hx|hx
    ·exact absurd hj hx
    ·exact hx
  have quiet:qb4 ops[i].op≠.acts->(R (i+1)).ps=(R i).ps->((R (i+1)).ps.map (·.b)).Nodup /\
    ∀p,p∈(R (i+1)).ps->p.i < i+1/\p.b=base+p.i/\AllocAt C ops R p.i p.k/\∀j,qhn ops j->p.i < j->j < i+1->ahead (Region.before ops) p.i j=false:=fun hc hp=>by
   rw[hp];exact And.intro hn (old fun p _=>.inl (notAct hc))
  have how:=run.how i _ ho;cases how with
  |skip _ _ hc _ hp=>exact quiet hc hp
  |read _ hc _ _ hp=>exact quiet (by rw[hc];intro e;cases e) hp
  |pure _ hc _ _ hp=>exact quiet (by rw[hc];intro e;cases e) hp
  |skipActs _ _ _ _ hp=>
   rw[hp];refine⟨((qhp _ i _).map _).nodup hn,fun p hm=>?_⟩;obtain⟨h1,h2⟩:=mem_unwanted.1 hm;obtain⟨h3,h4,h5,h6⟩:=ih p h1;refine⟨by omega,h4,h5,fun j hj hlt hj1=>?_⟩;rcases jF j i with h|h
   ·exact h6 j hj hlt h
   ·have:j=i:=(by omega);subst this;exact h2
  |act _ _ _ hp=>
   rw[hp];refine⟨((qhp _ i _).map _).nodup hn,fun p hm=>?_⟩;obtain⟨h1,h2⟩:=mem_unwanted.1 hm;obtain⟨h3,h4,h5,h6⟩:=ih p h1;refine⟨by omega,h4,h5,fun j hj hlt hj1=>?_⟩;rcases jF j i with h|h
   ·exact h6 j hj hlt h
   ·have:j=i:=(by omega);subst this;exact h2
  |alloc hg hc k hk _ _ hp=>
   have hna:¬ qhn ops i:=notAct (by rw[hc];intro e;cases e);rw[hp];refine⟨?_,fun p hm=>?_⟩
   ·rw[List.map_cons,jp];refine⟨fun hm=>?_,hn⟩;obtain⟨p,hpm,he⟩:=jw.1 hm;obtain⟨h1,h2,_⟩:=ih p hpm;simp only at he;omega
   ·rcases jd.1 hm with rfl|hm
    ·exact⟨jT i,rfl,⟨_,k,ho,hc,hg,hk,rfl⟩,fun j _ h1 h2=>by simp only at h1;omega⟩
    ·exact old (fun p _=>.inl hna) p hm
theorem Run.rs_at(run:Run C call ops base R V) {x:Rec} {i:Nat} (h:x∈(R i).rs):∀n,i+n<=ops.size->x∈(R (i+n)).rs
 |0,_=>h
 |n+1,hn=>by
  have ho:ops[i+n]? = some ops[i+n]:=by simp[show i+n < ops.size by omega]
  have ih:=run.rs_at h n (by omega);have how:=run.how (i+n) _ ho;have e:i+(n+1)=i+n+1:=rfl;rw[e];cases how with
  |skip _ _ _ _ _ _ hr=>rw[hr];exact ih
  |skipActs _ _ _ _ _ _ hr=>rw[hr];exact ih
  |alloc _ _ _ _ _ _ _ _ hr=>rw[hr];exact ih
  |act _ _ _ _ _ hr=>rw[hr];exact ih
  |read _ _ _ _ _ _ hr=>rw[hr];exact ji _ ih
  |pure _ _ _ _ _ _ hr=>rw[hr];exact ih
theorem Run.same_at(run:Run C call ops base R V) {D:Nat->Prop} (hD:qqq ops D) {x:Rec} (hx:¬ D x.i) (hc:qkt ops D x.i) {H:Heap} (hH:CurH ops R D H) :
  ∀i,i<=ops.size->(∀j,D j->qhn ops j->j < i)->qc9 C call (Region.before ops) x (R 0).s.H (R i).hs=true->qd2 C call x H=true
 |0,_,hlt,h=>by
  rw[run.hs0]at h;rcases hH with⟨j,h1,h2,_,_⟩|⟨_,rfl⟩
  ·exact absurd (hlt j h1 h2) (j3 j)
  ·exact h
 |i+1,hi,hlt,h=>by
  have ho:ops[i]? = some ops[i]:=by simp[show i < ops.size by omega]
  by_cases hca:qb4 ops[i].op=.acts
  ·rw[((run.how i _ ho).loud hca).2]at h;unfold qc9 at h;have later:¬ D i->∀j,D j->qhn ops j->j < i:=fun hn j hj hja=>by
    have:=hlt j hj hja;rcases jF j i with h|h
    ·exact h
    ·have e:j=i:=(by omega);subst e;exact absurd hj hn
   by_cases hDi:D i
   ·have hHi:H=(R (i+1)).s.H:=hH.one (.inl ⟨i,hDi,⟨_,ho,hca⟩,fun k hk hka=>Nat.le_of_lt_succ (hlt k hk hka),rfl⟩);split at h
    next ha=>exact absurd (qit hD (hD i hDi) ha) hx
    ·split at h
     ·cases h
     next hs=>rw[hHi];exact hs
   ·split at h
    ·exact run.same_at hD hx hc hH i (by omega) (later hDi) h
    ·split at h
     ·cases h
     ·split at h
      next ha=>exact absurd (qit hD hc ha) hDi
      ·exact run.same_at hD hx hc hH i (by omega) (later hDi) h
  ·rw[((run.how i _ ho).quiet hca).2]at h;refine run.same_at hD hx hc hH i (by omega) (fun j hj hja=>?_) h;have:=hlt j hj hja;rcases jF j i with h|h
   ·exact h
   ·have e:j=i:=(by omega);subst e;obtain⟨o,ho',hc'⟩:=hja;rw[ho]at ho';cases ho';exact absurd hc' hca
end
def only (s:St) (ts:List Nat) (H:Heap):St:={ ks:=[],vs:=[],ts:=ts.filterMap fun t=>(s.get t).map fun v=>(t,v),sz:=s.sz,H:=H }
theorem qok{s:St} {t:Nat}:∀{ts:List Nat},look t (ts.filterMap fun t=>(s.get t).map fun v=>(t,v))=if t∈ts then s.get t else none
 |[]=>by simp[qhv,qmw]
 |u::r=>by
  rw[List.filterMap_cons];cases hu:s.get u with
  |none=>
   simp only[Option.map_none];rw[qok];by_cases htu:t=u
   ·subst htu;by_cases hr:t∈r<;>simp[hr,hu]
   ·by_cases hr:t∈r<;>simp[hr,htu]
  |some v=>
   simp only[yt,qhv];split
   next hb=>have:u=t:=Nat.eq_of_beq_eq_true hb;subst this;simp[hu]
   next hb=>have htu:t≠u:=fun e=>(by subst e;simp at hb);rw[qok];by_cases hr:t∈r<;>simp[hr,htu]
theorem qnh{s:St} {ts:List Nat} {H:Heap} {t:Nat}:(only s ts H).get t=if t∈ts then s.get t else none:=by simp only[St.get,only,qjb];exact qok
theorem qtv{ops:Array Oper} {s s':St} {o:Oper} (h:∀t,t∈qfk ops o->s.get t=s'.get t):qar ops s o=qar ops s' o:=by
 unfold qar;unfold qfk at h;cases hg:o.guard with
 |none=>rfl
 |some x=>
  obtain⟨j,want⟩:=x;simp only[hg]at h ⊢;cases hp:ops[j]? with
  |none=>rfl
  |some p=>
   simp only[hp,jc]at h ⊢;cases hd:p.dst with
   |none=>rfl
   |some t=>simp only[hd,jc]at h ⊢;rw[h t (by simp)]
theorem qqn{ops:Array Oper} {o:Oper} {t:Nat} (h:Asks o.op t):t∈qfk ops o:=by unfold qfk;exact j9 _ (List.mem_filterMap.2 ⟨.tmp t,h,rfl⟩)
theorem qlc(H:Heap) (L:List (Nat × Blk)):(H.lay L).ents=L++H.ents:=by
 cases L with
 |nil=>rfl
 |cons x r=>exact qq8 _ _
theorem lay_n(H:Heap) (L:List (Nat × Blk)):(H.lay L).n=H.n:=by cases L<;>rfl
theorem qmz:∀(l:List Oper) (s:St),(qan l s).H.n=s.H.n
 |[],_=>rfl
 |o::r,s=>by
  simp only[qan];rw[qmz r];unfold qc0;have kill:∀b,(s.H.kill b).n=s.H.n:=fun b=>by unfold Heap.kill;split<;>rfl
  repeat' split
  all_goals first|exact kill _|rfl
section
theorem qk7{ρ:Place} {w:World} {a:Act}:∀{l:List Oper} {s:St},Sim ρ s.H w->EnvR ρ s a ->
  Sim ρ (qan l s).H w/\Step ρ s.H w ρ (qan l s).H w/\EnvR ρ (qan l s) a
 |[],s,sm,e=>⟨sm,.refl _ _ _,e⟩
 |o::r,s,sm,e=>by obtain⟨h1,h2,h3⟩:=qp0 sm e o;obtain⟨g1,g2,g3⟩:=qk7 (l:=r) h1 h3;exact⟨g1,h2.trans g2,g3⟩
structure Hid (w0:World) (ρ:Place) (H:Heap) (w:World) (b:Nat) (k:Blk) (l:Loc):Prop where
 at_:ρ b=some l
 new:w0.heap.size<=l.cb
 in_:l.cb < w.heap.size
 blk:BlkR ρ w l k
 off:∀e,e∈H.ents->∀l',ρ e.1=some l'->l'.cb≠l.cb
 free:¬ ρ.B l.cb
theorem Sim.lay{w0 w:World} {ρ:Place} {H:Heap} (s:Sim ρ H w) {L:List (Nat × Blk)} (hn:(L.map (·.1)).Nodup)
  (hid:∀e,e∈L->∃l,Hid w0 ρ H w e.1 e.2 l)
  (hap:∀e e',e∈L->e'∈L->∀l l',ρ e.1=some l->ρ e'.1=some l'->l.cb=l'.cb->e.1=e'.1):Sim ρ (H.lay L) w where
 base:=s.base
 below:=s.below
 os:=s.os
 tape:=s.tape
 output:=s.output
 dom:=fun b hb=>s.dom b (by rw[lay_n]at hb;exact hb)
 nodup:=by rw[qlc,j5,j4];refine⟨hn,s.nodup,fun a ha b hb hab=>?_⟩;obtain⟨e,he,rfl⟩:=jw.1 ha;obtain⟨e',he',rfl⟩:=jw.1 hb;obtain⟨l,hl⟩:=hid e he;exact hl.off e' he' l (by rw[<- hab];exact hl.at_) rfl
 live:=fun e he=>by
  rw[qlc]at he;rcases je.1 he with he|he
  ·obtain⟨l,hl⟩:=hid e he;exact⟨l,hl.at_,hl.free,hl.in_,hl.blk⟩
  ·exact s.live e he
 inj:=fun e e' he he' l l' hl hl' hc=>by
  rw[qlc]at he he';rcases je.1 he with he|he<;>rcases je.1 he' with he'|he'
  ·exact hap e e' he he' l l' hl hl' hc
  ·obtain⟨m,hm⟩:=hid e he;have:=hm.at_;rw[hl]at this;cases this;exact absurd hc.symm (hm.off e' he' l' hl')
  ·obtain⟨m,hm⟩:=hid e' he';have:=hm.at_;rw[hl']at this;cases this;exact absurd hc (hm.off e he l hl)
  ·exact s.inj e e' he he' l l' hl hl' hc
theorem Step.lay{w0 w:World} {ρ0 ρ:Place} {H0 H:Heap} (s:Step ρ0 H0 w0 ρ H w) {L:List (Nat × Blk)} (hid:∀e,e∈L->∃l,Hid w0 ρ H w e.1 e.2 l):Step ρ0 H0 w0 ρ (H.lay L) w where
 le:=s.le
 size:=s.size
 keeps:=s.keeps
 num:=by rw[lay_n];exact s.num
 low:=s.low
 cold:=s.cold
 rows:=fun e he l hl=>by
  rw[qlc]at he;rcases je.1 he with he|he
  ·obtain⟨m,hm⟩:=hid e he;have:=hm.at_;rw[hl]at this;cases this;exact .inr hm.new
  ·exact s.rows e he l hl
structure Inv (C:Ctx) (ops:Array Oper) (base:Nat) (R:Nat->DrawSt) (V:Nat->AV) (ρ0:Place) (H0:Heap) (w0:World) (ds:List Deferred)
  (D:Nat->Prop) (ρ:Place) (a:Act) (w:World) (H:Heap):Prop where
 inside:∀j,D j->j < ops.size
 closed:qqq ops D
 size:(R 0).s.sz=a.tmps.size
 slots:∀t v,Cur ops R V D t v->VR ρ v (a.tmps.getD t undef)
 heap:CurH ops R D H
 sim:Sim ρ H w
 step:Step ρ0 H0 w0 ρ H w
 num:base+ops.size<=H.n
 undone:∀A,¬ D A->A < ops.size->ρ (base+A)=none
 pend:∀A k,D A->AllocAt C ops R A k->(∀j,D j->qhn ops j->ahead (Region.before ops) A j=false)->∃l,Hid w0 ρ H w (base+A) k l
 apart:∀A A' k k',D A->D A'->AllocAt C ops R A k->AllocAt C ops R A' k'->(∀j,D j->qhn ops j->ahead (Region.before ops) A j=false) ->
  (∀j,D j->qhn ops j->ahead (Region.before ops) A' j=false)->∀l l',ρ (base+A)=some l->ρ (base+A')=some l'->l.cb=l'.cb->A=A'
 defers:a.defers=ds
section
variable {C:Ctx} {call:qck} {ops:Array Oper} {base:Nat} {R:Nat->DrawSt} {V:Nat->AV} {ρ0:Place} {H0:Heap} {w0:World} {ds:List Deferred}
variable {D:Nat->Prop} {ρ:Place} {a:Act} {w:World} {H:Heap} {i:Nat} {o:Oper}
theorem AllocAt.one{A:Nat} {k k':Blk} (h:AllocAt C ops R A k) (h':AllocAt C ops R A k'):k=k':=by obtain⟨o,p,h1,_,_,h4,h5⟩:=h;obtain⟨o',p',g1,_,_,g4,g5⟩:=h';rw[h1]at g1;cases g1;rw[h4]at g4;cases g4;rw[h5,g5]
theorem AllocAt.notActs{A:Nat} {k:Blk} (h:AllocAt C ops R A k):¬ qhn ops A:=by obtain⟨o,p,h1,h2,_⟩:=h;rintro⟨o',g1,g2⟩;rw[h1]at g1;cases g1;rw[h2]at g2;cases g2
theorem Inv.writers(dr:Drawn ops) (inv:Inv C ops base R V ρ0 H0 w0 ds D ρ a w H) (ho:ops[i]? = some o) (hn:¬ D i) (hc:qkt ops D i) {t:Nat} (ht:t∈o.dst.toList++qfk ops o) {k:Nat}
  (hk:qpr ops k=some t):(D k->k < i)/\(k < i->D k):=by
 obtain⟨p,hp,hd⟩:=obs hk;rcases dr.temps i o ho k p t hp hd ht with h|⟨h,ha⟩|⟨h,ha⟩
 ·subst h;exact⟨fun hD=>absurd hD hn,fun h=>absurd h (Jr _)⟩
 ·exact⟨fun hD=>absurd (qit inv.closed (inv.closed k hD) ha) hn,fun h'=>by omega⟩
 ·exact⟨fun _=>h,fun _=>qit inv.closed hc ha⟩
theorem Inv.asked(run:Run C call ops base R V) (dr:Drawn ops) (inv:Inv C ops base R V ρ0 H0 w0 ds D ρ a w H) (ho:ops[i]? = some o) (hn:¬ D i) (hc:qkt ops D i) {t:Nat}
  (ht:t∈o.dst.toList++qfk ops o) {v:AV} (hv:(R i).s.get t=some v):VR ρ v (a.tmps.getD t undef):=by
 have hi:=(Array.getElem?_eq_some_iff.1 ho).1;refine inv.slots t v ?_;have wr:=fun k (hk:qpr ops k=some t)=>inv.writers dr ho hn hc ht hk;rcases run.get_at i (yW hi) t v hv with⟨j,h1,h2,h3,h4⟩|⟨h1,h2⟩
 ·exact .inl ⟨j,(wr j h2).2 h1,h2,fun k hk hkd=>h3 k ((wr k hkd).1 hk) hkd,h4⟩
 ·exact .inr ⟨fun k hk hkd=>h1 k ((wr k hkd).1 hk) hkd,h2⟩
theorem Inv.env(run:Run C call ops base R V) (dr:Drawn ops) (inv:Inv C ops base R V ρ0 H0 w0 ds D ρ a w H) (ho:ops[i]? = some o) (hn:¬ D i) (hc:qkt ops D i) (H1:Heap) :
  EnvR ρ (only (R i).s (qfk ops o) H1) a:=by
 have hi:=(Array.getElem?_eq_some_iff.1 ho).1;refine⟨?_,fun t v hv=>?_⟩
 ·show (R i).s.sz=_;rw[run.sz_at i (yW hi)];exact inv.size
 ·rw[qnh]at hv;split at hv
  next ht=>exact inv.asked run dr ho hn hc (jV _ ht) hv
  ·cases hv
theorem Inv.actsBefore(dr:Drawn ops) (inv:Inv C ops base R V ρ0 H0 w0 ds D ρ a w H) (hn:¬ D i) (hc:qkt ops D i) (hi:qhn ops i) {k:Nat} (hk:qhn ops k):(D k->k < i)/\(k < i->D k):=by
 refine⟨fun hD=>?_,fun h=>dr.chain k i hk hi h D inv.closed hc⟩;rcases Nat.lt_trichotomy k i with h|h|h
 ·exact h
 ·subst h;exact absurd hD hn
 ·exact absurd (dr.chain i k hi hk h D inv.closed (inv.closed k hD)) hn
theorem Inv.heapIs(run:Run C call ops base R V) (dr:Drawn ops) (inv:Inv C ops base R V ρ0 H0 w0 ds D ρ a w H) (hn:¬ D i) (hc:qkt ops D i) (hi:qhn ops i):H=(R i).s.H:=by
 have hlt:i < ops.size:=by obtain⟨o,ho,_⟩:=hi;exact(Array.getElem?_eq_some_iff.1 ho).1
 have ab:=fun k (hk:qhn ops k)=>inv.actsBefore dr hn hc hi hk;refine inv.heap.one ?_;rcases run.heap_at i (yW hlt)with⟨j,h1,h2,h3,h4⟩|⟨h1,h2⟩
 ·exact .inl ⟨j,(ab j h2).2 h1,h2,fun k hk hka=>h3 k ((ab k hka).1 hk) hka,h4⟩
 ·exact .inr ⟨fun k hk hka=>h1 k ((ab k hka).1 hk) hka,h2⟩
theorem Inv.wanted(run:Run C call ops base R V) (dr:Drawn ops) (inv:Inv C ops base R V ρ0 H0 w0 ds D ρ a w H) (hn:¬ D i) (hc:qkt ops D i) (hi:qhn ops i) :
  ∀e,e∈qbd (Region.before ops) i (R i).ps->∃A,e.1=base+A/\D A/\ahead (Region.before ops) A i=true/\AllocAt C ops R A e.2/\(∀j,D j->qhn ops j->ahead (Region.before ops) A j=false):=by
 intro e he;have hlt:i < ops.size:=by obtain⟨o,ho,_⟩:=hi;exact(Array.getElem?_eq_some_iff.1 ho).1
 obtain⟨p,hp,ha,rfl⟩:=mem_wanted.1 he;obtain⟨h1,h2,h3,h4⟩:=(run.ps_at i (yW hlt)).2 p hp;refine⟨p.i,h2,qit inv.closed hc ha,ha,h3,fun j hj hja=>?_⟩;have hji:=(inv.actsBefore dr hn hc hi hja).1 hj;cases hx:ahead (Region.before ops) p.i j with
 |false=>rfl
 |true=>rw[h4 j hja (dr.lt hx) hji]at hx;cases hx
def qvw(D:Nat->Prop) (i:Nat):Nat->Prop:=fun j=>j=i\/D j
theorem Inv.closed1(inv:Inv C ops base R V ρ0 H0 w0 ds D ρ a w H) (hc:qkt ops D i):qqq ops (qvw D i):=by
 rintro j (rfl|hj) o ho e he hb
 ·exact .inr (hc o ho e he hb)
 ·exact .inr (inv.closed j hj o ho e he hb)
theorem Inv.slots1(run:Run C call ops base R V) (dr:Drawn ops) (inv:Inv C ops base R V ρ0 H0 w0 ds D ρ a w H) (ho:ops[i]? = some o) (hn:¬ D i) (hc:qkt ops D i) {ρ':Place} {x:Value}
  (hle:ρ.le ρ') (hx:VR ρ' (V i) x):∀t v,Cur ops R V (qvw D i) t v->VR ρ' v ((a.put o.dst x).tmps.getD t undef):=by
 have hi:=(Array.getElem?_eq_some_iff.1 ho).1;have hd:qpr ops i=o.dst:=by simp[qpr,ho]
 intro t v hcur;by_cases hdt:o.dst=some t
 ·have hlt:t < a.tmps.size:=by rw[<- inv.size,<- run.sz_at i (yW hi)];exact run.lt i o ho t hdt
  have hval:v=V i:=by
   rcases hcur with⟨j,hj,h2,h3,h4⟩|⟨h1,_⟩
   ·have hij:=h3 i (.inl rfl) (by rw[hd,hdt]);rcases hj with rfl|hj
    ·exact h4.symm
    ·have:=(inv.writers dr ho hn hc (t:=t) (by simp[hdt]) h2).1 hj;omega
   ·exact absurd (by rw[hd,hdt]) (h1 i (.inl rfl))
  subst hval;have:(a.put o.dst x).tmps.getD t undef=x:=by simp[Act.put,hdt,Array.getD_eq_getD_getElem?,hlt]
  rw[this];exact hx
 ·have hsame:(a.put o.dst x).tmps.getD t undef=a.tmps.getD t undef:=by
   cases hdd:o.dst with
   |none=>rfl
   |some u=>have:u≠t:=fun e=>hdt (by rw[hdd,e]);simp[Act.put,Array.getD_eq_getD_getElem?,this]
  rw[hsame];refine(inv.slots t v ?_).mono hle;rcases hcur with⟨j,hj,h2,h3,h4⟩|⟨h1,h2⟩
  ·rcases hj with rfl|hj
   ·rw[hd]at h2;exact absurd h2 hdt
   ·exact .inl ⟨j,hj,h2,fun k hk hkd=>h3 k (.inr hk) hkd,h4⟩
  ·exact .inr ⟨fun k hk=>h1 k (.inr hk),h2⟩
theorem qwo(a:Act) (d:Option Tmp) (x:Value):(a.put d x).tmps.size=a.tmps.size:=by cases d<;>simp[Act.put]
theorem qq7(a:Act) (d:Option Tmp) (x:Value):(a.put d x).defers=a.defers:=by cases d<;>rfl
theorem Inv.turn(run:Run C call ops base R V) (dr:Drawn ops) (inv:Inv C ops base R V ρ0 H0 w0 ds D ρ a w H) (ho:ops[i]? = some o) (hn:¬ D i) (hc:qkt ops D i)
  (hna:∀k,¬ AllocAt C ops R i k) {L:List (Nat × Blk)}
  (hL:∀e,e∈L->∃A,e.1=base+A/\D A/\(qhn ops i/\ahead (Region.before ops) A i=true)/\AllocAt C ops R A e.2/\(∀j,D j->qhn ops j->ahead (Region.before ops) A j=false))
  {ρ':Place} {x:Value} {w':World} {H':Heap} (hx:VR ρ' (V i) x) (sm:Sim ρ' H' w') (st0:Step ρ0 H0 w0 ρ (H.lay L) w) (st:Step ρ (H.lay L) w ρ' H' w') (hcur:CurH ops R (qvw D i) H') :
  Inv C ops base R V ρ0 H0 w0 ds (qvw D i) ρ' (a.put o.dst x) w' H':=by
 have hi:=(Array.getElem?_eq_some_iff.1 ho).1;have hnum:base+ops.size<=(H.lay L).n:=by rw[lay_n];exact inv.num
 have low:∀A,A < ops.size->ρ' (base+A)=ρ (base+A):=fun A hA=>st.low _ (by omega);have was:∀A k,qvw D i A->AllocAt C ops R A k->(∀j,qvw D i j->qhn ops j->ahead (Region.before ops) A j=false) ->
   D A/\(∀j,D j->qhn ops j->ahead (Region.before ops) A j=false)/\∀e,e∈L->e.1≠base+A:=by
  intro A k hA hk hu;have hDA:D A:=by
   rcases hA with rfl|hA
   ·exact absurd hk (hna k)
   ·exact hA
  refine⟨hDA,fun j hj=>hu j (.inr hj),fun e he heq=>?_⟩;obtain⟨A',h1,_,⟨h3,h4⟩,_⟩:=hL e he;have:A'=A:=by omega
  subst this;rw[hu i (.inl rfl) h3]at h4;cases h4
 refine⟨?_,inv.closed1 hc,by rw[qwo];exact inv.size,inv.slots1 run dr ho hn hc st.le hx,hcur,sm,st0.trans st,j6 hnum st.num,?_,?_,?_,by rw[qq7];exact inv.defers⟩
 ·rintro j (rfl|hj)
  ·exact hi
  ·exact inv.inside j hj
 ·intro A hA hlt;rw[low A hlt];exact inv.undone A (fun h=>hA (.inr h)) hlt
 ·intro A k hA hk hu;obtain⟨h1,h2,h3⟩:=was A k hA hk hu;obtain⟨l,hl⟩:=inv.pend A k h1 hk h2;have hAs:A < ops.size:=inv.inside A h1;have hoff:∀e,e∈(H.lay L).ents->∀l',ρ e.1=some l'->l'.cb≠l.cb:=by
   intro e he l' hl';rw[qlc]at he;rcases je.1 he with he|he
   ·obtain⟨A',g1,g2,g3,g4,g5⟩:=hL e he;intro hcb;have:=inv.apart A' A e.2 k g2 h1 g4 hk g5 h2 l' l (by rw[<- g1];exact hl') hl.at_ hcb;exact h3 e he (by rw[g1,this])
   ·exact hl.off e he l' hl'
  have hrow:w'.heap[l.cb]? = w.heap[l.cb]?:=st.keeps l.cb hl.in_ hoff;refine⟨l,by rw[low A hAs];exact hl.at_,hl.new,jI hl.in_ st.size,(hl.blk.same hrow).mono st.le,fun e he l' hl' hcb=>?_,fun hB=>?_⟩
  ·rcases st.rows e he l' hl' with⟨e0,he0,l0,hl0,hcb0⟩|hge
   ·exact hoff e0 he0 l0 hl0 (by rw[hcb0,hcb])
   ·have:=hl.in_;omega
  ·rcases st.cold _ hB with h|⟨e0,he0,l0,hl0,hcb0⟩|hge
   ·exact hl.free h
   ·exact hoff e0 he0 l0 hl0 hcb0
   ·have:=hl.in_;omega
 ·intro A A' k k' hA hA' hk hk' hu hu' l l' hl hl' hcb;obtain⟨h1,h2,_⟩:=was A k hA hk hu;obtain⟨g1,g2,_⟩:=was A' k' hA' hk' hu';rw[low A (inv.inside A h1)]at hl;rw[low A' (inv.inside A' g1)]at hl';exact inv.apart A A' k k' h1 g1 hk hk' h2 g2 l l' hl hl' hcb
theorem Inv.heapStays(inv:Inv C ops base R V ρ0 H0 w0 ds D ρ a w H) (hna:¬ qhn ops i):CurH ops R (qvw D i) H:=by
 rcases inv.heap with⟨j,h1,h2,h3,h4⟩|⟨h1,h2⟩
 ·refine .inl ⟨j,.inr h1,h2,fun k hk hka=>?_,h4⟩;rcases hk with rfl|hk
  ·exact absurd hka hna
  ·exact h3 k hk hka
 ·refine .inr ⟨fun k hk hka=>?_,h2⟩;rcases hk with rfl|hk
  ·exact hna hka
  ·exact h1 k hk hka
theorem Inv.heapTurns(dr:Drawn ops) (inv:Inv C ops base R V ρ0 H0 w0 ds D ρ a w H) (hn:¬ D i) (hc:qkt ops D i) (hi:qhn ops i):CurH ops R (qvw D i) (R (i+1)).s.H:=by
 refine .inl ⟨i,.inl rfl,hi,fun k hk hka=>?_,rfl⟩;rcases hk with rfl|hk
 ·exact ja _
 ·exact yW ((inv.actsBefore dr hn hc hi hka).1 hk)
theorem Inv.allocs(run:Run C call ops base R V) (dr:Drawn ops) (hbase:H0.n=base) (inv:Inv C ops base R V ρ0 H0 w0 ds D ρ a w H) (ho:ops[i]? = some o) (hn:¬ D i) (hc:qkt ops D i)
  {k:(Nat->AV) × Blk} (hk:AllocAt C ops R i k.2) {ob:Obj} {fin:Nat} {x:Value} (hx:VR (ρ.upd (base+i) ⟨w.heap.size,0,fin⟩) (V i) x)
  (hb:BlkR (ρ.upd (base+i) ⟨w.heap.size,0,fin⟩) (w.alloc ob) ⟨w.heap.size,0,fin⟩ k.2) :
  Inv C ops base R V ρ0 H0 w0 ds (qvw D i) (ρ.upd (base+i) ⟨w.heap.size,0,fin⟩) (a.put o.dst x) (w.alloc ob) H:=by
 have hi:=(Array.getElem?_eq_some_iff.1 ho).1;have hnone:ρ (base+i)=none:=inv.undone i hn hi;have hle:ρ.le (ρ.upd (base+i) ⟨w.heap.size,0,fin⟩):=Place.le_upd hnone;have hcell:∀k,k < w.heap.size->(w.alloc ob).heap[k]? = w.heap[k]?:=fun k hk=>Below.heap_alloc w ob k hk;have hsize:(w.alloc ob).heap.size=w.heap.size+1:=by simp
 have hne:∀e,e∈H.ents->e.1≠base+i:=fun e hm hx=>by obtain⟨l,hl,_⟩:=inv.sim.live e hm;rw[hx,hnone]at hl;cases hl
 have hDi:∀A,qvw D i A->A≠i->D A:=fun A hA h=>hA.resolve_left h;have hAcur:∀A l,(ρ.upd (base+i) ⟨w.heap.size,0,fin⟩) (base+A)=some l->A=i/\l=⟨w.heap.size,0,fin⟩\/A≠i/\ρ (base+A)=some l:=fun A l h=>by
  by_cases hA:A=i
  ·subst hA;rw[Place.upd_same]at h;cases h;exact .inl ⟨rfl,rfl⟩
  ·rw[Place.upd_other (by omega)]at h;exact .inr ⟨hA,h⟩
 refine⟨?_,inv.closed1 hc,by rw[qwo];exact inv.size,inv.slots1 run dr ho hn hc hle hx,inv.heapStays hk.notActs,?_,?_,inv.num,?_,?_,?_,by rw[qq7];exact inv.defers⟩
 ·rintro j (rfl|hj)
  ·exact hi
  ·exact inv.inside j hj
 ·refine⟨fun k hk=>by rw[hsize];exact Nat.lt_succ_of_lt (inv.sim.base k hk),fun k hk=>?_,inv.sim.os,inv.sim.tape,inv.sim.output,fun b hb=>?_,inv.sim.nodup,fun e he=>?_,fun e e' he he' l l' hl hl' hcb=>?_⟩
  ·rw[hcell k (inv.sim.base k hk)];exact inv.sim.below k hk
  ·have:=inv.num;rw[Place.upd_other (by omega)];exact inv.sim.dom b hb
  ·obtain⟨l,h1,h2,h3,h4⟩:=inv.sim.live e he;exact⟨l,hle _ _ h1,h2,by omega,(h4.same (hcell _ h3)).mono hle⟩
  ·rw[Place.upd_other (hne e he)]at hl;rw[Place.upd_other (hne e' he')]at hl';exact inv.sim.inj e e' he he' l l' hl hl' hcb
 ·have st:=inv.step;refine⟨Place.le_trans st.le hle,by have:=st.size;omega,fun k hk hnk=>?_,fun e he l hl=>?_,st.num,fun b hb=>?_,st.cold⟩
  ·rw[hcell k (jI hk st.size)];exact st.keeps k hk hnk
  ·rw[Place.upd_other (hne e he)]at hl;exact st.rows e he l hl
  ·rw[Place.upd_other (by omega)];exact st.low b hb
 ·intro A hA hlt;have hAi:A≠i:=fun e=>hA (.inl e);rw[Place.upd_other (by omega)];exact inv.undone A (fun h=>hA (.inr h)) hlt
 ·intro A k' hA hk' hu;by_cases hAi:A=i
  ·subst hAi;have:=hk.one hk';subst this;refine⟨_,Place.upd_same,inv.step.size,by simp,hb,fun e he l' hl'=>?_,fun hB=>absurd (inv.sim.base _ hB) (Jr _)⟩;rw[Place.upd_other (hne e he)]at hl';obtain⟨m,h1,_,h3,_⟩:=inv.sim.live e he;rw[hl']at h1;cases h1;show l'.cb≠w.heap.size;omega
  ·obtain⟨l,hl⟩:=inv.pend A k' (hDi A hA hAi) hk' fun j hj=>hu j (.inr hj);refine⟨l,hle _ _ hl.at_,hl.new,by have:=hl.in_;omega,(hl.blk.same (hcell _ hl.in_)).mono hle,fun e he l' hl'=>?_,hl.free⟩;rw[Place.upd_other (hne e he)]at hl';exact hl.off e he l' hl'
 ·intro A A' k1 k2 hA hA' h1 h2 hu hu' l l' hl hl' hcb;rcases hAcur A l hl with⟨rfl,rfl⟩|⟨hAi,hl2⟩<;>rcases hAcur A' l' hl' with⟨rfl,rfl⟩|⟨hAi',hl2'⟩
  ·rfl
  ·obtain⟨m,hm⟩:=inv.pend A' k2 (hDi A' hA' hAi') h2 fun j hj=>hu' j (.inr hj);have:=hm.at_;rw[hl2']at this;cases this;have:=hm.in_;simp only at hcb;omega
  ·obtain⟨m,hm⟩:=inv.pend A k1 (hDi A hA hAi) h1 fun j hj=>hu j (.inr hj);have:=hm.at_;rw[hl2]at this;cases this;have:=hm.in_;simp only at hcb;omega
  ·exact inv.apart A A' k1 k2 (hDi A hA hAi) (hDi A' hA' hAi') h1 h2 (fun j hj=>hu j (.inr hj)) (fun j hj=>hu' j (.inr hj)) l l' hl2 hl2' hcb
end
end
section
variable {C:Ctx} {call:qck} {ops:Array Oper} {base:Nat} {R:Nat->DrawSt} {V:Nat->AV} {ρ0:Place} {H0:Heap} {w0:World} {ds:List Deferred}
variable {D:Nat->Prop} {ρ:Place} {a:Act} {w:World} {H:Heap} {i:Nat} {o:Oper}
theorem Inv.ready(hC:CallOK C call) (run:Run C call ops base R V) (dr:Drawn ops) (hbase:H0.n=base)
  (inv:Inv C ops base R V ρ0 H0 w0 ds D ρ a w H) (ho:ops[i]? = some o) (hn:¬ D i) (hc:qkt ops D i) {r:Option Nat} {K:Act->World->Prop} {Q:Exit->Act->World->Prop}
  (hK:∀ρ' a' w' H',Inv C ops base R V ρ0 H0 w0 ds (qvw D i) ρ' a' w' H'->K a' w'):wpOpIn (fen r) 0 C.P ops Q i K a w:=by
 have hi:=(Array.getElem?_eq_some_iff.1 ho).1;have hguard:∀H1,qar ops (only (R i).s (qfk ops o) H1) o=qar ops (R i).s o:=fun H1=>qtv fun t ht=>by rw[qnh,jo ht]
 have hval:∀H1,qah C call o (only (R i).s (qfk ops o) H1)=qah C call o { (R i).s with H:=H1 }:=fun H1=>
  qs9 rfl fun t ht=>by rw[qnh,jo (qqn ht)];rfl
 have tup:∀ρ',VR ρ' (.tup []) undef:=fun ρ'=>.tup [] #[] rfl (fun i h=>absurd h (j3 i));have laid:qhn ops i->Sim ρ (H.lay (qbd (Region.before ops) i (R i).ps)) w/\Step ρ0 H0 w0 ρ (H.lay (qbd (Region.before ops) i (R i).ps)) w:=fun hact=>by
  have hw:=inv.wanted run dr hn hc hact;have hid:∀e,e∈qbd (Region.before ops) i (R i).ps->∃l,Hid w0 ρ H w e.1 e.2 l:=fun e he=>by obtain⟨A,h1,h2,_,h4,h5⟩:=hw e he;rw[h1];exact inv.pend A e.2 h2 h4 h5
  refine⟨inv.sim.lay ((qly _ i _).nodup (run.ps_at i (yW hi)).1) hid fun e e' he he' l l' hl hl' hcb=>?_,inv.step.lay hid⟩;obtain⟨A,h1,h2,_,h4,h5⟩:=hw e he;obtain⟨A',g1,g2,_,g4,g5⟩:=hw e' he';rw[h1]at hl;rw[g1]at hl';rw[h1,g1,inv.apart A A' e.2 e'.2 h2 g2 h4 g4 h5 g5 l l' hl hl' hcb]
 have wants:qhn ops i->∀e,e∈qbd (Region.before ops) i (R i).ps->∃A,e.1=base+A/\D A/\(qhn ops i/\ahead (Region.before ops) A i=true)/\AllocAt C ops R A e.2/\(∀j,D j->qhn ops j->ahead (Region.before ops) A j=false):=
  fun hact e he=>let ⟨A,h1,h2,h3,h4,h5⟩:=inv.wanted run dr hn hc hact e he;⟨A,h1,h2,⟨hact,h3⟩,h4,h5⟩
 have env:=fun H1=>inv.env run dr ho hn hc H1;unfold wpOpIn;simp only[ho];have go:∀(L:List (Nat × Blk)) (H':Heap),qar ops (R i).s o=some true->(∀k,¬ AllocAt C ops R i k) ->
   (∀e,e∈L->∃A,e.1=base+A/\D A/\(qhn ops i/\ahead (Region.before ops) A i=true)/\AllocAt C ops R A e.2/\(∀j,D j->qhn ops j->ahead (Region.before ops) A j=false)) ->
   Sim ρ (H.lay L) w->Step ρ0 H0 w0 ρ (H.lay L) w->qah C call o { (R i).s with H:=H.lay L }=some (V i,H')->CurH ops R (qvw D i) H' ->
   (if Region.wanted o (yielded ops a.tmps)=true then o.wpIn (fen r) 0 C.P a w K Q else (∀f,o.about C.P w a.eval=some f->(fen r).fn f)/\K (a.put o.dst undef) w):=by
  intro L H' hg hna hL sm st he hcur;rw[qlg (env H) ((hguard H).trans hg)];simp only[jQ];refine zaq hC ((hval (H.lay L)).trans he) sm (env _) fun x ρ' w' h1 h2 h3=>hK ρ' _ w' H' ?_;exact inv.turn run dr ho hn hc hna hL h1 h2 st h3 hcur
 have skip:∀(L:List (Nat × Blk)),qar ops (R i).s o=some false->V i=.tup [] ->
   (∀e,e∈L->∃A,e.1=base+A/\D A/\(qhn ops i/\ahead (Region.before ops) A i=true)/\AllocAt C ops R A e.2/\(∀j,D j->qhn ops j->ahead (Region.before ops) A j=false)) ->
   Sim ρ (H.lay L) w->Step ρ0 H0 w0 ρ (H.lay L) w->CurH ops R (qvw D i) (H.lay L) ->
   (if Region.wanted o (yielded ops a.tmps)=true then o.wpIn (fen r) 0 C.P a w K Q else (∀f,o.about C.P w a.eval=some f->(fen r).fn f)/\K (a.put o.dst undef) w):=by
  intro L hg hv hL sm st hcur;rw[qlg (env H) ((hguard H).trans hg)];simp only[jz,jM];refine⟨fun f _=>qxi r f,hK ρ _ w (H.lay L) (inv.turn run dr ho hn hc (fun k hk=>?_) hL (by rw[hv];exact tup ρ) sm st (.refl _ _ _) hcur)⟩;obtain⟨o',p,g1,_,g3,_⟩:=hk;rw[ho]at g1;cases g1;rw[hg]at g3;cases g3
 have nil:∀e,e∈([]:List (Nat × Blk))->∃A,e.1=base+A/\D A/\(qhn ops i/\ahead (Region.before ops) A i=true)/\AllocAt C ops R A e.2/\(∀j,D j->qhn ops j->ahead (Region.before ops) A j=false):=fun e he=>by cases he
 have notAct:qb4 o.op≠.acts->¬ qhn ops i:=fun h ⟨o',g1,g2⟩=>by rw[ho]at g1;cases g1;exact h g2
 have notAlloc:qb4 o.op≠.allocs->∀k,¬ AllocAt C ops R i k:=fun h k ⟨o',p,g1,g2,_⟩=>by rw[ho]at g1;cases g1;exact h g2
 cases run.how i o ho with
 |skip hg hv hcl hH hp hh hr=>exact skip [] hg hv nil inv.sim inv.step (inv.heapStays (notAct hcl))
 |skipActs hg hv hcl hH hp hh hr=>have hact:qhn ops i:=⟨o,ho,hcl⟩;refine skip _ hg hv (wants hact) (laid hact).1 (laid hact).2 ?_;have h1:=inv.heapIs run dr hn hc hact;rw[h1,<- hH];exact inv.heapTurns dr hn hc hact
 |alloc hg hcl k hk hv hH hp hh hr=>
  have hAt:AllocAt C ops R i k.2:=⟨o,k,ho,hcl,hg,hk,rfl⟩;rw[qlg (env H) ((hguard H).trans hg)];simp only[jQ];have hk':qbc C o (only (R i).s (qfk ops o) H)=some k:=(qoi fun t ht=>by rw[qnh,jo (qqn ht)]).trans hk;obtain⟨ob,fin,x,h1,h2⟩:=qtk (C:=C) (s:=only (R i).s (qfk ops o) H) inv.sim (env H) hk';obtain⟨h3,h4⟩:=h2 (base+i) (inv.undone i hn hi);have hsome:∃q,qah C call o (only (R i).s (qfk ops o) H)=some q:=by unfold qah;cases hop:o.op<;>simp[qb4,hop]at hcl<;>simp only[hk',jc];all_goals first|exact⟨_,rfl⟩|(split at hcl<;>(try simp at hcl)<;>split at hcl<;>simp at hcl)
  obtain⟨q,hq⟩:=hsome;refine⟨fun f _=>qxi r f,?_⟩;rw[qq5 hq,h1];exact hK _ _ _ H (inv.allocs run dr hbase ho hn hc hAt (by rw[hv];exact h3) h4)
 |act hg hcl he hp hh hr=>have hact:qhn ops i:=⟨o,ho,hcl⟩;have h1:=inv.heapIs run dr hn hc hact;refine go _ (R (i+1)).s.H hg (notAlloc (by rw[hcl];intro e;cases e)) (wants hact) (laid hact).1 (laid hact).2 ?_ (inv.heapTurns dr hn hc hact);rw[h1];exact he
 |read hg hcl he hH hp hh hr=>
  have hna:=notAct (by rw[hcl];intro e;cases e);refine go [] H hg (notAlloc (by rw[hcl];intro e;cases e)) nil inv.sim inv.step ?_ (inv.heapStays hna);have hrec:({ i:=i,o:=o,s:=(R i).s,v:=V i }:Rec)∈(R ops.size).rs:=by have:=run.rs_at (x:={ i:=i,o:=o,s:=(R i).s,v:=V i }) (i:=i+1) (by rw[hr];exact j8) (ops.size - (i+1)) (by omega);have e:i+1+(ops.size - (i+1))=ops.size:=(by omega);rw[e]at this;exact this
  have hs:=run.same_at inv.closed (x:={ i:=i,o:=o,s:=(R i).s,v:=V i }) hn hc inv.heap ops.size (ja _) (fun j hj _=>inv.inside j hj) (run.same _ hrec);unfold qd2 at hs;simp only at hs;show qah C call o { (R i).s with H:=H }=_;cases hy:qah C call o { (R i).s with H:=H } with
  |none=>rw[hy]at hs;cases hs
  |some y=>rw[hy]at hs;obtain⟨v,H1⟩:=y;simp only[yk]at hs;subst hs;have:=qh0 hcl hy;simp only at this;rw[this]
 |pure hg hcl he hH hp hh hr=>have hna:=notAct (by rw[hcl];intro e;cases e);exact go [] H hg (notAlloc (by rw[hcl];intro e;cases e)) nil inv.sim inv.step ((qhw hcl he).2 H) (inv.heapStays hna)
theorem count_set{l:Array Bool} {i:Nat} (hi:i < l.size) (h:l.getD i true=false):(l.setIfInBounds i true).toList.count false+1=l.toList.count false:=by
 have hl:l[i]=false:=by simpa[Array.getD,hi]using h
 have h1:i < l.toList.length:=by simpa using hi
 rw[Array.toList_setIfInBounds,List.count_set h1];have h2:l.toList[i]=false:=by simpa using hl
 have hlen:l.toList.length=l.size:=by simp
 have hpos:0 < l.toList.count false:=List.count_pos_iff.2 (by rw[<- h2];exact jA h1);have e1:(l.toList[i] == false)=true:=by rw[h2];rfl
 rw[jo e1];simp only[Bool.true_eq_false,beq_iff_eq,jM];omega
theorem draw_any(hC:CallOK C call) (run:Run C call ops base R V) (dr:Drawn ops) (hbase:H0.n=base) {r:Option Nat} {Q:Exit->Act->World->Prop}
  (hk:∀ρ' a' w' H' D,(∀j,j < ops.size->D j)->Inv C ops base R V ρ0 H0 w0 ds D ρ' a' w' H'->Q .normal a' w') :
  ∀(fuel:Nat) (listed:Array Bool) (ρ:Place) (a:Act) (w:World) (H:Heap),listed.size=ops.size->listed.toList.count false<=fuel ->
   Inv C ops base R V ρ0 H0 w0 ds (fun j=>listed.getD j false=true) ρ a w H->wpAnyIn (fen r) 0 C.P .any ops Q fuel listed a w:=by
 have fin:∀(listed:Array Bool) ρ a w H,listed.size=ops.size->Region.ready .any ops listed=[]->Inv C ops base R V ρ0 H0 w0 ds (fun j=>listed.getD j false=true) ρ a w H->Q .normal a w:=by
  intro listed ρ a w H hs hr inv;refine hk ρ a w H _ (fun j hj=>?_) inv;induction j using Nat.strongRecOn with
  |_ j ih=>
   cases hl:listed.getD j false with
   |true=>rfl
   |false=>have hjs:j < listed.size:=(by omega);have hmem:j∈Region.ready .any ops listed:=mem_ready.2 ⟨by simpa[Array.getD,hjs]using hl,ops[j],by simp[hj],fun e he hb=>by have hlt:=dr.back j ops[j] (by simp[hj]) e he hb;exact ih e.on hlt (by omega)⟩;rw[hr]at hmem;cases hmem
 intro fuel;induction fuel with
 |zero=>
  intro listed ρ a w H hs hcnt inv;have hr:Region.ready .any ops listed=[]:=by rw[List.eq_nil_iff_forall_not_mem];intro j hj;obtain⟨h1,o,ho,_⟩:=mem_ready.1 hj;have hjs:j < listed.size:=(by rw[hs];exact(Array.getElem?_eq_some_iff.1 ho).1);have hl:listed.toList[j]'(by simpa using hjs)=false:=(by simpa[Array.getD,hjs]using h1);have:0 < listed.toList.count false:=List.count_pos_iff.2 (by rw[<- hl];exact jA _);omega
  exact⟨hr,fin listed ρ a w H hs hr inv⟩
 |succ fuel ih=>
  intro listed ρ a w H hs hcnt inv;refine⟨fun hr=>fin listed ρ a w H hs hr inv,fun i hi=>?_⟩;obtain⟨h1,o,ho,h3⟩:=mem_ready.1 hi;have hio:i < ops.size:=(Array.getElem?_eq_some_iff.1 ho).1;have his:i < listed.size:=by rw[hs];exact hio
  have hn:¬ listed.getD i false=true:=by have:listed[i]=false:=(by simpa[Array.getD,his]using h1);simp[Array.getD,his,this]
  refine inv.ready hC run dr hbase ho hn (fun o' ho' e he hb=>by rw[ho]at ho';cases ho';exact h3 e he hb) fun ρ' a' w' H' inv'=>?_;refine ih (listed.setIfInBounds i true) ρ' a' w' H' (by simp[hs]) (by have:=count_set his h1;omega) ?_;have:(fun j=>(listed.setIfInBounds i true).getD j false=true)=qvw (fun j=>listed.getD j false=true) i:=by
   funext j;apply propext;unfold qvw;simp only[Array.getD_eq_getD_getElem?,Array.getElem?_setIfInBounds];by_cases hj:i=j
   ·subst hj;simp[his]
   ·rw[jm hj];constructor
    ·exact .inr
    ·rintro(h|h)
     ·exact absurd h.symm hj
     ·exact h
  rw[this];exact inv'
theorem zc3(hC:CallOK C call) {id:Nat} {s s':St} {r:Option Nat} {Q:Exit->Act->World->Prop} (hm:C.P.follows .mixedOrders=true)
  (h:qjt C call ops s=some s') (sm:Sim ρ s.H w) (e:EnvR ρ s a)
  (hk:∀a' w' ρ',Sim ρ' s'.H w'->Step ρ s.H w ρ' s'.H w'->EnvR ρ' s' a'->a'.defers=a.defers->Q .normal a' w'):(Code.region id ops true).wpIn (fen r) 0 C.P Q a w:=by
 obtain⟨dr,R,V,run,h0,h1⟩:=qu5 h;refine wpIn_region_any hm ?_;obtain⟨g1,g2,g3⟩:=qk7 (l:=ops.toList) sm e;have hn0:(qan ops.toList s).H.n=s.H.n:=qmz _ _;have hR0:(R 0).s.H=⟨s.H.n+ops.size,(qan ops.toList s).H.fs⟩:=by rw[h0];simp[qbh,hn0]
 have sm0:Sim ρ (R 0).s.H w:=by rw[hR0];exact g1.of_sub (fun _ h=>h) (by rw[hn0];exact Nat.le_add_right _ _) g1.nodup
 have st0:Step ρ s.H w ρ (R 0).s.H w:=by rw[hR0];exact g2.trans (.of_sub (fun _ h=>h) (by rw[hn0];exact Nat.le_add_right _ _))
 have e0:EnvR ρ (R 0).s a:=by rw[h0];exact⟨g3.size,g3.val⟩
 have nobody:∀j,¬ (Array.replicate ops.size false).getD j false=true:=fun j=>by rw[Array.getD_eq_getD_getElem?,Array.getElem?_replicate];split<;>simp
 have hw:({ w with drawn:=w.drawn+1 }:World)=w.drew:=rfl;have inv:Inv C ops s.H.n R V ρ s.H w a.defers (fun j=>(Array.replicate ops.size false).getD j false=true) ρ a w.drew (R 0).s.H:=
  ⟨fun j hj=>absurd hj (nobody j),fun j hj=>absurd hj (nobody j),e0.size,fun t v hc=>by
   rcases hc with⟨j,hj,_⟩|⟨_,hv⟩
   ·exact absurd hj (nobody j)
   ·exact e0.val t v hv,
   .inr ⟨fun k hk=>absurd hk (nobody k),rfl⟩,sm0.drew,st0.trans (Step.drew _ _ _),by rw[hR0];exact ja _,fun A _ _=>sm.dom _ (Nat.le_add_right _ _),fun A k hA=>absurd hA (nobody A),
   fun A A' k k' hA=>absurd hA (nobody A),rfl⟩
 rw[hw];refine draw_any hC run dr rfl (fun ρ' a' w' H' D hD inv=>?_) ops.size _ ρ a w.drew _ (by simp) (by simp) inv;have hall:∀j,D j↔j < ops.size:=fun j=>⟨inv.inside j,hD j⟩;have hDeq:D=fun j=>j < ops.size:=funext fun j=>propext (hall j);subst hDeq;have hH:H'=(R ops.size).s.H:=inv.heap.one (run.heap_at ops.size (ja _));obtain⟨hnd,hps⟩:=run.ps_at ops.size (ja _);have hun:∀p,p∈(R ops.size).ps->∀j,j < ops.size->qhn ops j->ahead (Region.before ops) p.i j=false:=fun p hp j hj hja=>by
  cases hx:ahead (Region.before ops) p.i j with
  |false=>rfl
  |true=>rw[(hps p hp).2.2.2 j hja (dr.lt hx) hj]at hx;cases hx
 have hid:∀x,x∈allPend (R ops.size).ps->∃l,Hid w ρ' H' w' x.1 x.2 l:=fun x hx=>by obtain⟨p,hp,rfl⟩:=mem_allPend.1 hx;obtain⟨q1,q2,q3,_⟩:=hps p hp;simp only;rw[q2];exact inv.pend p.i p.k q1 q3 (hun p hp)
 have smE:=inv.sim.lay (L:=allPend (R ops.size).ps) (by rw[qpd];exact hnd) hid fun x x' hx hx' l l' hl hl' hcb=>by obtain⟨p,hp,rfl⟩:=mem_allPend.1 hx;obtain⟨p',hp',rfl⟩:=mem_allPend.1 hx';obtain⟨q1,q2,q3,_⟩:=hps p hp;obtain⟨q1',q2',q3',_⟩:=hps p' hp';simp only at hl hl' ⊢;rw[q2]at hl ⊢;rw[q2']at hl' ⊢;rw[inv.apart p.i p'.i p.k p'.k q1 q1' q3 q3' (hun p hp) (hun p' hp') l l' hl hl' hcb]
 have stE:=inv.step.lay hid;rw[hH]at smE stE;subst h1;refine hk a' w' ρ' smE stE ⟨?_,fun t v hv=>?_⟩ inv.defers
 ·show (R ops.size).s.sz=_;rw[run.sz_at ops.size (ja _)];exact inv.size
 ·exact inv.slots t v (run.get_at ops.size (ja _) t v hv)
end
def Out.exit_:Out->Exit
 |.normal=>.normal
 |.exit id=>.exit id
 |.goto l=>.goto l
 |.ret=>.ret
section
variable {F:Fence} {n:Nat} {P:Program} {Q:Exit->Act->World->Prop} {a:Act} {w:World}
def LoopGoes(F:Fence) (n:Nat) (P:Program) (c:Code) (Q:Exit->Act->World->Prop) (a:Act) (w:World):Prop:=
 ∀(b:Frame) (k:List Item) (cs:List Frame),b.roundOf=F.round->F.fn b.fn->F.room (cs.length+1+n) ->
  ∃e a' w',Q e a' w'/\ArrivesIn (Machine.fenced P F) P (lone (b.atR a (.code c::.inLoop c::k)) cs w) b k cs e a' w'
theorem LoopGoes.wp{c:Code} (h:LoopGoes F n P c Q a w):(Code.loop c).wpIn F n P Q a w:=by intro b k cs hro hb hr;obtain⟨e,a',w',hq,harr⟩:=h b k cs hro hb hr;exact⟨e,a',w',hq,.of_steps (.one (fenced_calm hb hr rfl) stepR_loop) harr⟩
theorem LoopGoes.round{c:Code} (h:c.wpIn F n P (Exit.then (LoopGoes F n P c Q) Q) a w):LoopGoes F n P c Q a w:=by
 intro b k cs hro hb hr;obtain⟨e,a₁,w₁,hq,harr⟩:=h b (.inLoop c::k) cs hro hb hr;cases e with
 |normal=>obtain⟨e₂,a₂,w₂,hq₂,harr₂⟩:=hq b k cs hro hb hr;exact⟨e₂,a₂,w₂,hq₂,.of_steps (StepsIn.trans harr (.one (fenced_calm hb hr rfl) stepR_inLoop)) harr₂⟩
 |exit id=>exact⟨_,a₁,w₁,hq,.pass (x:=.inLoop c) rfl (fun _ _=>.inl (by simp)) harr⟩
 |goto l=>exact⟨_,a₁,w₁,hq,.pass (x:=.inLoop c) rfl (fun _ _=>.inl (by simp)) harr⟩
 |ret=>exact⟨_,a₁,w₁,hq,.pass (x:=.inLoop c) rfl (fun _ _=>.inl (by simp)) harr⟩
 |panic ch=>exact⟨_,a₁,w₁,hq,.pass (x:=.inLoop c) rfl (fun _ _=>.inl (by simp)) harr⟩
 |outgrown=>exact⟨_,a₁,w₁,hq,.pass (x:=.inLoop c) rfl (fun _ _=>.inl (by simp)) harr⟩
theorem quw{b:Frame} {k:List Item} {cs:List Frame} {c:Code}:step P (lone (b.atR a (.code (.scope c)::k)) cs w)=.next (lone (b.atR a (.code c::.inScope c::k)) cs w):=
 step_lone_go (by simp[stepG,stepG.exec,Frame.atR])
theorem qqy{b:Frame} {k:List Item} {cs:List Frame} {c:Code}:step P (lone (b.atR a (.inScope c::k)) cs w)=.next (lone (b.atR a k) cs w):=
 step_lone_go (by simp[stepG,stepG.exec,Frame.atR])
def ScopeGoes(F:Fence) (n:Nat) (P:Program) (body:Code) (Q:Exit->Act->World->Prop) (c:Code) (a:Act) (w:World):Prop:=
 ∀(b:Frame) (k:List Item) (cs:List Frame),b.roundOf=F.round->F.fn b.fn->F.room (cs.length+1+n) ->
  ∃e a' w',Q e a' w'/\ArrivesIn (Machine.fenced P F) P (lone (b.atR a (.code c::.inScope body::k)) cs w) b k cs e a' w'
def Exit.inScope(F:Fence) (n:Nat) (P:Program) (body:Code) (Q:Exit->Act->World->Prop):Exit->Act->World->Prop
 |.goto l,a,w=>match findLabel body l with
  |some rest=>ScopeGoes F n P body Q rest a w
  |none=>Q (.goto l) a w
 |e,a,w=>Q e a w
theorem ScopeGoes.wp{c:Code} (h:ScopeGoes F n P c Q c a w):(Code.scope c).wpIn F n P Q a w:=by intro b k cs hro hb hr;obtain⟨e,a',w',hq,harr⟩:=h b k cs hro hb hr;exact⟨e,a',w',hq,.of_steps (.one (fenced_calm hb hr rfl) quw) harr⟩
theorem ScopeGoes.pass{body c:Code} (h:c.wpIn F n P (Exit.inScope F n P body Q) a w):ScopeGoes F n P body Q c a w:=by
 intro b k cs hro hb hr;obtain⟨e,a₁,w₁,hq,harr⟩:=h b (.inScope body::k) cs hro hb hr;cases e with
 |normal=>exact⟨.normal,a₁,w₁,hq,StepsIn.trans harr (.one (fenced_calm hb hr rfl) qqy)⟩
 |exit id=>
  have hx:exitTo id (.inScope body::k)=exitTo id k:=by simp[exitTo]
  exact⟨.exit id,a₁,w₁,hq,fun k' hk=>harr.1 k' (by rw[hx];exact hk),fun hr' hk=>let ⟨k₁,h1,h2⟩:=harr.2 hr' (by rw[hx];exact hk);⟨k₁,h1,h2⟩⟩
 |goto l=>
  cases hf:findLabel body l with
  |some rest=>simp only[Exit.inScope,hf]at hq;have hg:gotoIn l (.inScope body::k)=some (.code rest::.inScope body::k):=(by simp[gotoIn,hf]);obtain⟨e₂,a₂,w₂,hq₂,harr₂⟩:=hq b k cs hro hb hr;exact⟨e₂,a₂,w₂,hq₂,.of_steps (harr.1 _ hg) harr₂⟩
  |none=>simp only[Exit.inScope,hf]at hq;have hg:gotoIn l (.inScope body::k)=gotoIn l k:=(by simp[gotoIn,hf]);exact⟨.goto l,a₁,w₁,hq,fun k' hk=>harr.1 k' (by rw[hg];exact hk),fun hr' hk=>let ⟨k₁,h1,h2⟩:=harr.2 hr' (by rw[hg];exact hk);⟨k₁,h1,h2⟩⟩
 |ret=>exact⟨_,a₁,w₁,hq,harr⟩
 |panic ch=>exact⟨_,a₁,w₁,hq,harr⟩
 |outgrown=>exact⟨_,a₁,w₁,hq,harr⟩
end
section
structure Mk (n0:Nat) (ρ:Place) (H:Heap) (w:World) (r:Nat):Prop where
 ge:n0<=r
 obj:w.heap[r]? = some (.deferred (some []))
 cold:¬ ρ.B r
 apart:∀e,e∈H.ents->∀l,ρ e.1=some l->l.cb≠r
theorem Mk.lt{n0:Nat} {ρ:Place} {H:Heap} {w:World} {r:Nat} (m:Mk n0 ρ H w r):r < w.heap.size:=(Array.getElem?_eq_some_iff.1 m.obj).1
theorem Mk.step{n0:Nat} {ρ ρ':Place} {H H':Heap} {w w':World} {r:Nat} (m:Mk n0 ρ H w r) (t:Step ρ H w ρ' H' w'):Mk n0 ρ' H' w' r where
 ge:=m.ge
 obj:=by rw[t.keeps r m.lt (fun e he l hl=>m.apart e he l hl)];exact m.obj
 cold:=fun hr=>by
  rcases t.cold r hr with h|⟨e,he,l,hl,hlr⟩|h
  ·exact m.cold h
  ·exact m.apart e he l hl hlr
  ·have:=m.lt;omega
 apart:=fun e he l hl=>by
  rcases t.rows e he l hl with⟨e0,he0,l0,hl0,hcb⟩|hge
  ·rw[<- hcb];exact m.apart e0 he0 l0 hl0
  ·have:=m.lt;omega
def mkD(r:Nat):Deferred:={ target:=.collected r,args:=#[] }
def Dfr(n0:Nat) (ρ:Place) (H:Heap) (w:World) (new old:List Deferred):Prop:=∃rs:List Nat,new=rs.map mkD++old/\rs.Nodup/\∀r,r∈rs->Mk n0 ρ H w r
theorem Dfr.of_eq{n0:Nat} {ρ:Place} {H:Heap} {w:World} {new old:List Deferred} (h:new=old):Dfr n0 ρ H w new old:=⟨[],by simp[h],jK,fun r hr=>by cases hr⟩
theorem Dfr.step{n0:Nat} {ρ ρ':Place} {H H':Heap} {w w':World} {new old:List Deferred} (h:Dfr n0 ρ H w new old) (t:Step ρ H w ρ' H' w'):Dfr n0 ρ' H' w' new old:=
 let ⟨rs,h1,h2,h3⟩:=h;⟨rs,h1,h2,fun r hr=>(h3 r hr).step t⟩
theorem Dfr.then{n0:Nat} {ρ1 ρ2:Place} {H1 H2:Heap} {w1 w2:World} {a0 a1 a2:List Deferred} (h:Dfr n0 ρ1 H1 w1 a1 a0) (hn:n0<=w1.heap.size) (t:Step ρ1 H1 w1 ρ2 H2 w2) (k:Dfr w1.heap.size ρ2 H2 w2 a2 a1):Dfr n0 ρ2 H2 w2 a2 a0:=by
 obtain⟨rs,rfl,h2,h3⟩:=h;obtain⟨ss,rfl,k2,k3⟩:=k;refine⟨ss++rs,by simp,j4.2 ⟨k2,h2,fun a ha b hb e=>?_⟩,fun r hr=>?_⟩
 ·have:=(k3 a ha).ge;have:=(h3 b hb).lt;omega
 ·rcases je.1 hr with hr|hr
  ·exact⟨j6 hn (k3 r hr).ge,(k3 r hr).obj,(k3 r hr).cold,(k3 r hr).apart⟩
  ·exact(h3 r hr).step t
theorem Sim.poke{ρ:Place} {H:Heap} {w:World} (s:Sim ρ H w) {k:Nat} (o:Obj) (hB:¬ ρ.B k) (ha:∀e,e∈H.ents->∀l,ρ e.1=some l->l.cb≠k):Sim ρ H (w.putObj k o) where
 base:=fun j hj=>by rw[Jq];exact s.base j hj
 below:=fun j hj=>by rw[yu (show j≠k from fun e=>hB (e ▸ hj))];exact s.below j hj
 os:=s.os
 tape:=s.tape
 output:=s.output
 dom:=s.dom
 nodup:=s.nodup
 live:=fun e he=>by obtain⟨l,h1,h2,h3,h4⟩:=s.live e he;exact⟨l,h1,h2,by rw[Jq];exact h3,h4.same (yu (ha e he l h1))⟩
 inj:=s.inj
theorem Step.poke{ρ ρ':Place} {H H':Heap} {w w':World} (t:Step ρ H w ρ' H' w') {k:Nat} (o:Obj) (hk:w.heap.size<=k):Step ρ H w ρ' H' (w'.putObj k o) where
 le:=t.le
 size:=by rw[Jq];exact t.size
 keeps:=fun j hj hn=>by rw[yu (by omega)];exact t.keeps j hj hn
 rows:=t.rows
 num:=t.num
 low:=t.low
 cold:=t.cold
theorem Sim.extra{ρ:Place} {H:Heap} {w:World} (s:Sim ρ H w) (o:Obj):Sim ρ H (w.alloc o)/\Step ρ H w ρ H (w.alloc o):=by
 have hcell:∀k,k < w.heap.size->(w.alloc o).heap[k]? = w.heap[k]?:=fun k hk=>Below.heap_alloc w o k hk;refine⟨⟨fun k hk=>?_,fun k hk=>?_,s.os,s.tape,s.output,s.dom,s.nodup,fun e he=>?_,s.inj⟩,⟨Place.le_refl _,by simp,fun k hk _=>hcell k hk,fun e he l hl=>.inl ⟨e,he,l,hl,rfl⟩,ja _,fun _ _=>rfl,fun k hk=>.inl hk⟩⟩
 ·have:=s.base k hk;simp;omega
 ·rw[hcell k (s.base k hk)];exact s.below k hk
 ·obtain⟨l,h1,h2,h3,h4⟩:=s.live e he;exact⟨l,h1,h2,by simp;omega,h4.same (hcell _ h3)⟩
theorem qmy{P:Program} {fn:Func} {tmps:Array Value} {R:Ending->World->Prop} {n0:Nat} {ρ0 ρ:Place} {H0 H:Heap} {w0:World} (hn0:w0.heap.size<=n0):∀(rs:List Nat) (w:World),rs.Nodup->(∀r,r∈rs->Mk n0 ρ H w r)->Sim ρ H w->Step ρ0 H0 w0 ρ H w ->
  (∀w',Sim ρ H w'->Step ρ0 H0 w0 ρ H w'->∃v,(results fn tmps).run P w'=.ok v w'/\R (.returned v) w')->LeavesInM Fence.wide 0 P fn tmps R (rs.map mkD) .returning w
 |[],w,_,_,s,t,h=>h w s t
 |r::rs,w,nd,hm,s,t,h=>by have m:=hm r j8;rw[jp]at nd;refine⟨by simp,.inl ⟨r,w.putObj r (.deferred none),rfl,run_takeDeferred m.obj,?_⟩⟩;refine qmy hn0 rs _ nd.2 (fun q hq=>?_) (s.poke _ m.cold m.apart) (t.poke _ (j6 hn0 m.ge)) h;have mq:=hm q (ji _ hq);exact⟨mq.ge,by rw[yu (show q≠r from fun e=>nd.1 (e ▸ hq))];exact mq.obj,mq.cold,mq.apart⟩
def Goes(C:Ctx) (r:Option Nat) (c:Code) (Q:Exit->Act->World->Prop) (a:Act) (w:World):Prop:=match c with
 |.loop b=>LoopGoes (fen r) 0 C.P b Q a w
 |c=>c.wpIn (fen r) 0 C.P Q a w
theorem Goes.wp{C:Ctx} {r:Option Nat} {c:Code} {Q:Exit->Act->World->Prop} {a:Act} {w:World} (h:Goes C r c Q a w):c.wpIn (fen r) 0 C.P Q a w:=by cases c<;>first|exact LoopGoes.wp h|exact h
def qls(C:Ctx) (r:Option Nat) (ih:qpg):Prop:=∀c s x s',ih c s=some (x,s')->∀ρ a w Q,Sim ρ s.H w->EnvR ρ s a ->
 (∀a' w' ρ',Sim ρ' s'.H w'->Step ρ s.H w ρ' s'.H w'->EnvR ρ' s' a'->Dfr w.heap.size ρ' s'.H w' a'.defers a.defers->Q x.exit_ a' w')->Goes C r c Q a w
theorem qwg{C:Ctx} {r:Option Nat} {ih:qpg} (hI:qls C r ih) (body:Code):∀(n:Nat) (c:Code) (s:St) (x:Out) (s':St),qlk ih body n c s=some (x,s') ->
  ∀ρ a w Q,Sim ρ s.H w->EnvR ρ s a ->
  (∀a' w' ρ',Sim ρ' s'.H w'->Step ρ s.H w ρ' s'.H w'->EnvR ρ' s' a'->Dfr w.heap.size ρ' s'.H w' a'.defers a.defers->Q x.exit_ a' w')->ScopeGoes (fen r) 0 C.P body Q c a w
 |0,c,s,x,s',h=>by simp[qlk]at h
 |n+1,c,s,x,s',h=>by
  intro ρ a w Q sm e hk;obtain⟨⟨y,s1⟩,h1,h2⟩:=obs h;refine ScopeGoes.pass (hI c s y s1 h1 ρ a w _ sm e fun a1 w1 ρ1 g1 g2 g3 g4=>?_).wp;cases y with
  |goto l=>
   simp only at h2;show Exit.inScope _ _ _ _ _ (.goto l) a1 w1;unfold Exit.inScope;simp only;cases hf:findLabel body l with
   |some rest=>simp only[hf]at h2;simp only;exact qwg hI body n rest s1 x s' h2 ρ1 a1 w1 Q g1 g3 fun a2 w2 ρ2 k1 k2 k3 k4=>hk a2 w2 ρ2 k1 (g2.trans k2) k3 (g4.then g2.size k2 k4)
   |none=>simp only[hf,sj,jg]at h2;obtain⟨rfl,rfl⟩:=h2;exact hk a1 w1 ρ1 g1 g2 g3 g4
  |normal|exit _|ret=>
   simp only[sj,jg]at h2;obtain⟨rfl,rfl⟩:=h2;exact hk a1 w1 ρ1 g1 g2 g3 g4
theorem qyq{C:Ctx} {f:FuncId} (h:qsd C f=true) (xs:Array Value) (w:World):(callFunc f xs).run C.P w=.ok (.enter f xs) w:=by
 unfold qsd at h;split at h
 ·rename_i fn hfn;split at h
  ·cases h
  ·rename_i hname
   have hname' : ¬ fn.name = "runtime.NumGoroutine" := fun e => by rw [e] at hname; simp at hname
   obtain⟨body,hb⟩:=Option.isSome_iff_exists.1 h;simp[callFunc,hfn,hname',hb]
 ·cases h
theorem qwn{C:Ctx} {call:qck} (hC:CallOK C call) {g:Operand} {ps:Array Tmp} {assign body:Code} {s:St} {x:Out} {s':St} (h:qig C call g ps assign body s=some (x,s')) :
  ∀ρ a w Q,Sim ρ s.H w->EnvR ρ s a ->
  (∀a' w' ρ',Sim ρ' s'.H w'->Step ρ s.H w ρ' s'.H w'->EnvR ρ' s' a'->Dfr w.heap.size ρ' s'.H w' a'.defers a.defers->Q x.exit_ a' w')->Goes C none (.rangeFunc g ps assign body) Q a w:=by
 intro ρ a w Q sm e hk;unfold qig at h;replace h:=obs h;obtain⟨gv,hg,h⟩:=h;split at h
 ·rename_i f first cap
  split at h
  ·simp at h
  ·rename_i hent;have henter:=qyq hent;replace h:=obs h;obtain⟨⟨v,H2⟩,hcall,h⟩:=h;replace h:=obs h;obtain⟨k,hk2,h⟩:=h;simp only at hk2 h;split at h
   ·rename_i st pend ks vs ts sz ps2 as2 bd2;show (Code.rangeFunc g ps assign body).wpIn Fence.wide 0 C.P Q a w;refine wpIn_rangeFunc fun fn _=>?_;obtain⟨first',cap',hfe,hfi,hca⟩:=(qbk e hg).args;obtain⟨sx,tx⟩:=sm.extra (.deferred (some []));obtain⟨lp,hlp⟩ : ∃lp:Loop,lp={ state:=.ready,pending:=none,fn:=fn,tmps:=a.tmps,params:=ps,assign:=assign,body:=body,defers:=w.heap.size }:=⟨_,rfl⟩;have hln:(w.alloc (.deferred (some []))).heap.size=w.heap.size+1:=(by simp);have hlh:((w.alloc (.deferred (some []))).alloc (.loop lp)).heap[w.heap.size+1]? = some (.loop lp):=(by rw[<- hln];exact World.alloc_heap_new _ _);obtain⟨sn,tn⟩:=sx.new (.loop lp) 0 (.loop .ready none s.ks s.vs s.ts s.sz ps.toList assign body) (by
     refine⟨lp,?_,by rw[hlp],by rw[hlp],by rw[hlp],by rw[hlp],by rw[hlp],by rw[hlp];exact e.size.symm,fun t v hv=>?_⟩
     ·rw[hln];exact hlh
     ·rw[hlp];exact(e.val t v hv).mono (Place.le_upd (sm.dom _ (ja _))))
    rw[hln]at sn tn;obtain⟨ρ1,hρ1⟩ : ∃ρ1,ρ1=ρ.upd s.H.n ⟨w.heap.size+1,0,0⟩:=⟨_,rfl⟩;rw[<- hρ1]at sn tn;have hb1:ρ1 s.H.n=some ⟨w.heap.size+1,0,0⟩:=(by rw[hρ1];exact Place.upd_same);have all1:Step ρ s.H w ρ1 (s.H.new (.loop .ready none s.ks s.vs s.ts s.sz ps.toList assign body)) ((w.alloc (.deferred (some []))).alloc (.loop lp)):=tx.trans tn;have hargs:VRs ρ1 (first++[.yld s.H.n]++cap) (first'.toList++[Value.func (.yield (w.heap.size+1)) #[] #[]]++cap'.toList):=
     ((hfi.mono all1.le).append (.cons (.yld _ _ hb1) .nil)).append (hca.mono all1.le)
    have henterL:(Instr.enterLoop fn a.tmps ps assign body none).run C.P w=.ok (w.heap.size+1,[mkD w.heap.size]) ((w.alloc (.deferred (some []))).alloc (.loop lp)):=(by have:=run_enterLoop_outer (P:=C.P) (w:=w) fn a.tmps ps assign body;rw[<- hlp]at this;exact this);have mk1:Mk w.heap.size ρ1 (s.H.new (.loop .ready none s.ks s.vs s.ts s.sz ps.toList assign body)) ((w.alloc (.deferred (some []))).alloc (.loop lp)) w.heap.size:=by
     refine⟨ja _,?_,fun hB=>?_,fun q hq l hl hcb=>?_⟩
     ·rw[Below.heap_alloc _ _ _ (by simp)];exact World.alloc_heap_new _ _
     ·rw[hρ1]at hB;exact absurd (sm.base _ hB) (Jr _)
     ·rw[Heap.new_ents]at hq;rcases jd.1 hq with rfl|hq
      ·simp only at hl;rw[hb1]at hl;cases hl;simp at hcb
      ·obtain⟨l0,hl0,_,hlt0,_⟩:=sm.live q hq;rw[all1.le _ _ hl0]at hl;cases hl;omega
    generalize (w.alloc (.deferred (some []))).alloc (.loop lp)=W1 at *;refine⟨w.heap.size+1,[mkD w.heap.size],W1,{ target:=.fn (.func f) cap',args:=first' ++ #[Value.func (.yield (w.heap.size+1)) #[] #[]] },W1,f,(first'.toList++[Value.func (.yield (w.heap.size+1)) #[] #[]]++cap'.toList).toArray,W1,
     henterL,?_,fun _ _=>trivial,?_,fun hd=>(by cases hd),?_⟩
    ·have e2 : #[Operand.const (Value.func (.yield (w.heap.size+1)) #[] #[])].map a.eval = #[Value.func (.yield (w.heap.size+1)) #[] #[]]:=(by simp[Act.eval]);simp only[resolve,rangeCall,Deferred.ofValue,hfe,e2];rfl
    ·simp only[invoke];have e1:(first'.toList++[Value.func (.yield (w.heap.size+1)) #[] #[]]++cap'.toList).toArray=first' ++ #[Value.func (.yield (w.heap.size+1)) #[] #[]]++cap':=(by apply Array.ext';simp);rw[e1];exact henter _ _
    ·rcases hC.fn f _ _ v H2 hcall ρ1 _ _ sn hargs with⟨x1,ρ',w',h1,_⟩|⟨g',ys,h1,h2⟩
     ·rw[henter]at h1;cases h1
     ·rw[henter]at h1;cases h1;refine CallsIn.mono h2 ?_;rintro e' w3 ⟨x1,ρ2,rfl,_,s2,t2⟩;have hb2:ρ2 s.H.n=some ⟨w.heap.size+1,0,0⟩:=(by rw[t2.low _ (jT _)];exact hb1);obtain⟨l2,hl2,hcold,_,r,hrh,hrs,hrp,_⟩:=s2.block hk2;rw[hb2]at hl2;cases hl2;obtain⟨sd,td⟩:=s2.dropped s.H.n;have hap:∀e,e∈(H2.drop s.H.n).ents->∀l,ρ2 e.1=some l->l.cb≠w.heap.size+1:=fun q hq l hl hcb=>(by have hp:H2.ents.Perm ((s.H.n,_)::(H2.drop s.H.n).ents):=qkl hk2;have hd:(((s.H.n,_)::(H2.drop s.H.n).ents).map (·.1)).Nodup:=(hp.map _).nodup_iff.1 s2.nodup;rw[List.map_cons,jp]at hd;have:=s2.inj _ _ (hp.mem_iff.2 (ji _ hq)) (Heap.get_mem hk2) l _ hl hb2 hcb;exact hd.1 (jw.2 ⟨q,hq,this⟩));have s4:=sd.poke (k:=w.heap.size+1) (.loop { r with state:=.exhausted }) hcold hap;have t3:Step ρ s.H w ρ2 (H2.drop s.H.n) w3:=(all1.trans t2).trans td;have t4:=t3.poke (k:=w.heap.size+1) (.loop { r with state:=.exhausted }) (Nat.le_succ _);have hnb:r.state≠.busy:=(by intro hb;rw[hrs]at hb;subst hb;simp at h);have hend:=run_endLoop (P:=C.P) hrh hnb;have mk3:=(mk1.step t2).step td;have dfr:Dfr w.heap.size ρ2 (H2.drop s.H.n) (w3.putObj (w.heap.size+1) (.loop { r with state:=.exhausted })) (mkD w.heap.size::a.defers) a.defers:=
       ⟨[w.heap.size],rfl,by simp,fun q hq=>by simp only[j2]at hq;subst hq;exact⟨mk3.ge,by rw[yu (by omega)];exact mk3.obj,mk3.cold,mk3.apart⟩⟩
      generalize w3.putObj (w.heap.size+1) (.loop { r with state:=.exhausted })=w4 at *;have env:∀H',EnvR ρ2 { s with H:=H' } { a with defers:=mkD w.heap.size::a.defers }:=fun H'=>⟨e.size,fun t v hv=>(e.val t v hv).mono t4.le⟩;refine⟨r.pending,w4,hend,?_⟩;rw[hrp];split at h
      ·split at h
       ·simp only[sj,jg]at h;obtain⟨rfl,rfl⟩:=h;exact hk _ _ ρ2 s4 t4 (env _) dfr
       ·simp at h
      ·replace h:=obs h;obtain⟨c,rfl,h⟩:=h;replace h:=obs h;obtain⟨y,hy,h⟩:=h;simp only[sj,jg]at h;obtain⟨rfl,rfl⟩:=h;have fin:=hk _ _ ρ2 s4 t4 (env _) dfr;unfold qv9 at hy;split at hy<;>simp only[sj,reduceCtorEq]at hy<;>subst hy
       ·exact wpIn_ret fin
       ·exact wpIn_exit fin
       ·exact wpIn_goto fin
      ·simp at h
   ·simp at h
 ·simp at h
theorem qzq{C:Ctx} {call:qck} {r:Option Nat} {rf:Bool} {ih:qpg} (hm:C.P.follows .mixedOrders=true) (hC:CallOK C call) (hI:qls C r ih) (hr:rf=true->r=none):qls C r (qh1 C call rf ih):=by
 intro c s x s' h ρ a w Q sm e hk;cases c with
 |skip=>simp only[qh1,sj,jg]at h;obtain⟨rfl,rfl⟩:=h;exact wpIn_skip (hk a w ρ sm (.refl _ _ _) e (.of_eq rfl))
 |label l=>simp only[qh1,sj,jg]at h;obtain⟨rfl,rfl⟩:=h;exact wpIn_label (hk a w ρ sm (.refl _ _ _) e (.of_eq rfl))
 |exit id=>simp only[qh1,sj,jg]at h;obtain⟨rfl,rfl⟩:=h;exact wpIn_exit (hk a w ρ sm (.refl _ _ _) e (.of_eq rfl))
 |goto l=>simp only[qh1,sj,jg]at h;obtain⟨rfl,rfl⟩:=h;exact wpIn_goto (hk a w ρ sm (.refl _ _ _) e (.of_eq rfl))
 |ret=>simp only[qh1,sj,jg]at h;obtain⟨rfl,rfl⟩:=h;exact wpIn_ret (hk a w ρ sm (.refl _ _ _) e (.of_eq rfl))
 |region id ops draw=>
  have sm':Sim ρ ({ s with ts:=[] }:St).H w:=sm;cases draw with
  |false=>obtain⟨s1,h1,h2⟩:=obs h;simp only[sj,jg]at h2;obtain⟨rfl,rfl⟩:=h2;apply wpIn_region;have:=zao hC (ops:=ops) (r:=r) (Q:=Q) (l:=ops.toList) (i:=0) (fun j=>by simp) h1 sm' e.fresh (fun a' w' ρ' k1 k2 k3 k4=>hk a' w' ρ' k1 k2 k3 (.of_eq k4));rw[List.range_eq_range'];simpa using this
  |true=>obtain⟨s1,h1,h2⟩:=obs h;simp only[sj,jg]at h2;obtain⟨rfl,rfl⟩:=h2;exact zc3 hC hm h1 sm' e.fresh (fun a' w' ρ' k1 k2 k3 k4=>hk a' w' ρ' k1 k2 k3 (.of_eq k4))
 |seq c d=>
  obtain⟨⟨y,s1⟩,h1,h2⟩:=obs h;refine wpIn_seq (hI c s y s1 h1 ρ a w _ sm e fun a1 w1 ρ1 g1 g2 g3 g4=>?_).wp;cases y with
  |normal=>exact(hI d s1 x s' h2 ρ1 a1 w1 Q g1 g3 fun a2 w2 ρ2 k1 k2 k3 k4=>hk a2 w2 ρ2 k1 (g2.trans k2) k3 (g4.then g2.size k2 k4)).wp
  |exit _|goto _|ret=>
   simp only[sj,jg]at h2;obtain⟨rfl,rfl⟩:=h2;exact hk a1 w1 ρ1 g1 g2 g3 g4
 |cond c x1 x2=>
  obtain⟨v,hv,h⟩:=obs h;have hvr:=qbk e hv;split at h
  ·rename_i t;have hce:a.eval c=.bool t:=(by cases hq:a.eval c<;>rw[hq]at hvr<;>cases hvr;rfl);cases t with
   |true=>exact wpIn_cond_true hce (hI x1 s x s' h ρ a w Q sm e hk).wp
   |false=>exact wpIn_cond_false hce (hI x2 s x s' h ρ a w Q sm e hk).wp
  ·simp at h
 |block id b=>
  obtain⟨⟨y,s1⟩,h1,h2⟩:=obs h;refine wpIn_block (hI b s y s1 h1 ρ a w _ sm e fun a1 w1 ρ1 g1 g2 g3 g4=>?_).wp;cases y with
  |exit k=>
   show Exit.inBlock id Q (.exit k) a1 w1;simp only at h2;unfold Exit.inBlock;simp only;split at h2
   next hb=>have hkid:k=id:=Nat.eq_of_beq_eq_true hb;simp only[sj,jg]at h2;obtain⟨rfl,rfl⟩:=h2;rw[jo hkid];exact hk a1 w1 ρ1 g1 g2 g3 g4
   next hb=>have hkid:k≠id:=fun e=>(by subst e;simp at hb);simp only[sj,jg]at h2;obtain⟨rfl,rfl⟩:=h2;rw[jm hkid];exact hk a1 w1 ρ1 g1 g2 g3 g4
  |normal|goto _|ret=>
   simp only[sj,jg]at h2;obtain⟨rfl,rfl⟩:=h2;exact hk a1 w1 ρ1 g1 g2 g3 g4
 |loop b=>
  obtain⟨⟨y,s1⟩,h1,h2⟩:=obs h;refine LoopGoes.round (hI b s y s1 h1 ρ a w _ sm e fun a1 w1 ρ1 g1 g2 g3 g4=>?_).wp;cases y with
  |normal=>exact hI (.loop b) s1 x s' h2 ρ1 a1 w1 Q g1 g3 fun a2 w2 ρ2 k1 k2 k3 k4=>hk a2 w2 ρ2 k1 (g2.trans k2) k3 (g4.then g2.size k2 k4)
  |exit _|goto _|ret=>
   simp only[sj,jg]at h2;obtain⟨rfl,rfl⟩:=h2;exact hk a1 w1 ρ1 g1 g2 g3 g4
 |scope b=>exact ScopeGoes.wp (qwg hI b _ b s x s' h ρ a w Q sm e hk)
 |rangeFunc g ps assign body=>
  cases rf with
  |false=>simp[qh1]at h
  |true=>cases hr rfl;exact qwn hC h ρ a w Q sm e hk
 |refuse _=>simp[qh1]at h
def za6(tmps:Array Value):ResultVar->Sem Value
 |.tmp t=>pure (tmps.getD t undef)
 |.cell a t=>do loadVar t (<- asAddr (tmps.getD a undef))
theorem qy4(fn:Func) (tmps:Array Value):results fn tmps=(do let vs <- fn.results.mapM (za6 tmps);pure (if h:vs.size=1 then vs[0] else .tuple vs)):=by unfold results;congr 1
theorem qv2{P:Program} {H:Heap} {t:TypeId} {p v:AV} {ρ:Place} {x:Value} (h:qb2 P H t p=some v) (hp:VR ρ p x):∃ad,x=.pointer (some ad):=by
 obtain⟨ag,_,h⟩:=obs h;obtain⟨n,_,h⟩:=obs h;cases hp
 case ptr=>exact⟨_,rfl⟩
 case fptr=>exact⟨_,rfl⟩
 all_goals (cases ag<;>simp at h)
theorem zar{s:St} {a:Act} {C:Ctx} {ρ:Place} {w:World} (sm:Sim ρ s.H w) (e:EnvR ρ s a):∀{rs:List ResultVar} {vs:List AV},retVal C s rs=some vs ->
  ∃xs:List Value,(rs.mapM (za6 a.tmps)).run C.P w=.ok xs w/\VRs ρ vs xs
 |[],vs,h=>by simp only[retVal,sj]at h;subst h;exact⟨[],by simp,.nil⟩
 |x::r,vs,h=>by
  obtain⟨v,hv,h'⟩:=obs h;obtain⟨us,hu,h'⟩:=obs h';simp only[sj]at h';subst h';obtain⟨xs,h1,h2⟩:=zar sm e hu;have one:∃y,(za6 a.tmps x).run C.P w=.ok y w/\VR ρ v y:=by
   cases x with
   |tmp t=>exact⟨a.tmps.getD t undef,by simp only[za6];rfl,e.val t v hv⟩
   |cell c t=>obtain⟨p,hp,hv⟩:=obs hv;obtain⟨y,g1,g2⟩:=qo9 sm hv (e.val c p hp);obtain⟨ad,had⟩:=qv2 hv (e.val c p hp);refine⟨y,?_,g2⟩;rw[had]at g1;simp only[za6];rw[had];simpa[Instr.loadAt,Instr.sureAddr,asAddr]using g1
  obtain⟨y,g1,g2⟩:=one;refine⟨y::xs,?_,.cons g2 h2⟩;rw[List.mapM_cons];simp[g1,h1]
theorem VRs.oneOr{ρ:Place} {vs:List AV} {xs:List Value} (h:VRs ρ vs xs):VR ρ (oneOr vs) (if h:xs.toArray.size=1 then xs.toArray[0] else .tuple xs.toArray):=by
 have tup:VR ρ (.tup vs) (.tuple xs.toArray):=.tup vs xs.toArray (by simpa using h.1) fun i h1 h2=>by simpa using h.2 i h1 (by simpa using h2)
 rcases vs with _|⟨v,_|⟨u,r⟩⟩
 ·have:xs=[]:=by cases xs with|nil=>rfl|cons _ _=>have:=h.1;simp at this
  subst this;simpa[Proofs.YtnfdakclfmchfaaGreat.oneOr]using tup
 ·rcases xs with _|⟨x,_|⟨y,r⟩⟩
  ·have:=h.1;simp at this
  ·simpa[Proofs.YtnfdakclfmchfaaGreat.oneOr]using h.head
  ·have:=h.1;simp at this
 ·rcases xs with _|⟨x,_|⟨y,r'⟩⟩
  ·have:=h.1;simp at this
  ·have:=h.1;simp at this
  ·simpa[Proofs.YtnfdakclfmchfaaGreat.oneOr]using tup
theorem qo6{s:St} {a:Act} {C:Ctx} {ρ:Place} {w:World} (sm:Sim ρ s.H w) (e:EnvR ρ s a) {fn:Func} {vs:List AV} (h:retVal C s fn.results.toList=some vs) :
  ∃x,(results fn a.tmps).run C.P w=.ok x w/\VR ρ (oneOr vs) x:=by
 obtain⟨xs,h1,h2⟩:=zar sm e h;refine⟨_,?_,h2.oneOr⟩;rw[qy4,Array.mapM_eq_mapM_toList];simp[h1]
theorem qja{t:Nat} {v:AV}:∀{ks:List Nat},qgl t ks (qpx ks)=some v->v=.undef
 |[],h=>by simp[qe3,qjb]at h
 |k::r,h=>by
  rw[qe3]at h;simp only[qpx]at h;split at h
  ·simp only[sj]at h;exact h.symm
  ·exact qja h
theorem qkh{ρ:Place}:∀{args:List AV} {xs:List Value} {i:Nat} {s s':St} {a:Act},qr6 s i args=some s'->EnvR ρ s a->VRs ρ args xs ->
  (∀j (h:j < xs.length),a.tmps.getD (i+j) undef=xs[j])->EnvR ρ s' a/\s'.H=s.H
 |[],xs,i,s,s',a,h,e,_,_=>by simp only[qr6,sj]at h;subst h;exact⟨e,rfl⟩
 |v::r,[],i,s,s',a,_,_,hr,_=>by have:=hr.1;simp at this
 |v::r,x::xs,i,s,s',a,h,e,hr,hx=>by
  obtain⟨s1,h1,h2⟩:=obs h;obtain⟨hlt,hsz,hH,_,hget⟩:=St.set_get h1;have e1:EnvR ρ s1 a:=by
   refine⟨by rw[hsz];exact e.size,fun t u hu=>?_⟩;rw[hget]at hu;split at hu
   next ht=>simp only[sj]at hu;subst ht;subst hu;have:=hx 0 (by simp);simp only[yD,jH]at this;rw[this];exact hr.head
   ·exact e.val t u hu
  obtain⟨g1,g2⟩:=qkh (i:=Nat.succ i) h2 e1 hr.tail fun j hj=>by have:=hx (j+1) (by simpa using hj);have e:Nat.succ i+j=i+(j+1):=(by omega);rw[e];simpa using this
  exact⟨g1,by rw[g2,hH]⟩
def quo(C:Ctx):Prop:=∀f g,C.summ f=some g->∀args H v H',g args H=some (v,H')->CallAt C f args H v H'
theorem fn_calls{C:Ctx} {ih ihR:qpg} (hI:qls C none ih) {f:FuncId} {args:List AV} {H H':Heap} {v:AV} (hs:C.summ f=none) (h:qqi C ih ihR (.fn f) args H=some (v,H')) {ρ:Place} {w:World} {xs:List Value}
  (sm:Sim ρ H w) (hx:VRs ρ args xs):(callFunc f xs.toArray).run C.P w=.ok (.enter f xs.toArray) w/\CallsIn Fence.wide 0 C.P f xs.toArray w (qvx ρ H w v H'):=by
 unfold qqi at h;simp only[hs]at h;obtain⟨fn,hfn,h⟩:=obs h;split at h
 ·simp at h
 ·rename_i hname;obtain⟨body,hb,h⟩:=obs h;obtain⟨s,hs0,h⟩:=obs h;obtain⟨⟨y,s1⟩,h1,h2⟩:=obs h;refine⟨?_,?_⟩
  ·have hname' : ¬ fn.name = "runtime.NumGoroutine" := fun e => by rw [e] at hname; simp at hname
   simp[callFunc,hfn,hname',hb]
  ·refine callsIn_of_wp_marks hfn hb trivial ?_;obtain⟨o1,o2⟩:=sm.opened;have hlen:xs.length=args.length:=hx.1;have env0:EnvR ρ { ks:=C.keep f,vs:=qpx (C.keep f),ts:=[],sz:=args.length+(fn.ntmps - args.length),H:=⟨H.n,[]::H.fs⟩ }
     { tmps:=xs.toArray++Array.replicate (fn.ntmps - xs.toArray.size) undef,defers:=[] }:=by
    refine⟨by simp[hlen],fun t u hu=>?_⟩;simp only[St.get]at hu;split at hu
    next hl=>have:=qja hl;simp only[sj]at hu;subst hu;subst this;exact .undef _
    ·simp[qhv,qmw]at hu
   obtain⟨e1,hH1⟩:=qkh (i:=0) hs0 env0 hx fun j hj=>(by simp only[jS,Array.getD_eq_getD_getElem?];rw[Array.getElem?_append_left (by simpa using hj)];simp[hj]);have hH:s.H=⟨H.n,[]::H.fs⟩:=hH1;refine(hI body s y s1 h1 ρ _ w _ (by rw[hH];exact o1) e1 fun a' w' ρ' g1 g2 g3 g4=>?_).wp;rw[hH]at g2;have fin:∀vs,retVal C s1 fn.results.toList=some vs->oneOr vs=v->qte (oneOr vs) s1.H=H' ->
     LeavesInM Fence.wide 0 C.P fn a'.tmps (qvx ρ H w v H') a'.defers .returning w':=by
    intro vs hvs hv hpop;obtain⟨rs,hrs,hnd,hmk⟩:=g4;rw[hrs,jh];refine qmy (ρ0:=ρ) (H0:=⟨H.n,[]::H.fs⟩) (w0:=w) (ja _) rs w' hnd hmk g1 g2 fun w2 q1 q2=>?_;obtain⟨x,k1,k2⟩:=qo6 q1 g3 hvs;obtain⟨p1,p2⟩:=q1.pop (oneOr vs);rw[hpop]at p1 p2;exact⟨x,k1,x,ρ',rfl,hv ▸ k2,p1,(o2.trans q2).trans p2⟩
   cases y with
   |normal=>obtain⟨vs,hvs,h3⟩:=obs h2;simp only[sj,jg]at h3;exact fin vs hvs h3.1 h3.2
   |ret=>obtain⟨vs,hvs,h3⟩:=obs h2;simp only[sj,jg]at h3;exact fin vs hvs h3.1 h3.2
   |exit _|goto _=>simp at h2
theorem qp1(f:Array Value->Tmp × Value->Array Value) (hf:f=fun tmps p=>tmps.setIfInBounds p.1 p.2) {ρ:Place} {n:Nat}:∀{ps:List Nat} {vs:List AV} {xs:List Value} {s s':St} {tm:Array Value},qta s ps vs=some s'->VRs ρ vs xs->∀(e:EnvR ρ s { tmps:=tm,defers:=[] }),
  ps.length=xs.length/\s'.H=s.H/\EnvR ρ s' { tmps:=(ps.zip xs).foldl f tm,defers:=[] }
 |[],[],xs,s,s',tm,h,hv,e=>by
  simp only[qta,sj]at h;subst h;have:xs=[]:=by cases xs with|nil=>rfl|cons _ _=>have:=hv.1;simp at this
  subst this;exact⟨rfl,rfl,e⟩
 |p::ps,v::vs,xs,s,s',tm,h,hv,e=>by
  cases xs with
  |nil=>have:=hv.1;simp at this
  |cons x xs=>
   obtain⟨s1,h1,h2⟩:=obs h;have e1:=e.set h1 hv.head;obtain⟨g1,g2,g3⟩:=qp1 f hf (n:=n) h2 hv.tail e1;refine⟨by simp[g1],?_,?_⟩
   ·rw[g2];exact(St.set_get h1).2.2.1
   ·simp only[List.zip_cons_cons,yi];have:f tm (p,x)=tm.setIfInBounds p x:=(by rw[hf]);rw[this];exact g3
 |[],_::_,_,_,_,_,h,_,_=>by simp[qta]at h
 |_::_,[],_,_,_,_,h,_,_=>by simp[qta]at h
theorem Sim.turnLoop{ρ:Place} {H H1:Heap} {w:World} (s:Sim ρ H w) {b:Nat} {l:Loc} {st st':LoopState} {pend pend':Option Code} {ks:List Nat} {vs:List AV} {ts:List (Nat × AV)} {sz:Nat} {ps:List Nat} {as' bd:Code} {r:Loop}
  (hg:H.get b=some (.loop st pend ks vs ts sz ps as' bd)) (hl:ρ b=some l) (hr:w.heap[l.cb]? = some (.loop r)) (hset:H.set b (.loop st' pend' ks vs ts sz ps as' bd)=some H1) :
  Sim ρ H1 (w.putObj l.cb (.loop { r with state:=st',pending:=pend' }))/\Step ρ H w ρ H1 (w.putObj l.cb (.loop { r with state:=st',pending:=pend' })):=by
 obtain⟨l',hl',_,hlt,r',hr',q1,q2,q3,q4,q5,q6,q7⟩:=s.block hg;rw[hl]at hl';cases hl';rw[hr]at hr';cases hr';obtain⟨hn,hd,hk',⟨k0,hk0⟩,hs⟩:=qnd (vs:=[]) hset s.nodup;exact s.turned hk0 hl hn hd hk' hs Jq (fun j hj=>yu hj) rfl rfl rfl ⟨_,World.putObj_heap_same hlt,rfl,rfl,q3,q4,q5,q6,q7⟩
theorem yield_ok{C:Ctx} {ih:qpg} (hI:∀l,qls C (some l) ih) {b:Nat} {args:List AV} {H H':Heap} {v:AV} (h:qp7 ih b args H=some (v,H')):qi5 C b args H v H':=by
 intro ρ w xs l sm hx hl;unfold qp7 at h;replace h:=obs h;obtain⟨k,hk,h⟩:=h;split at h
 ·rename_i st pend ks vs ts sz ps assign body;split at h
  ·replace h:=obs h;obtain⟨s1,hs1,h⟩:=h;replace h:=obs h;obtain⟨⟨x1,s2⟩,h1,h⟩:=h;obtain⟨l',hl',_,hlt,r,hr,q1,q2,q3,q4,q5,q6,q7⟩:=sm.block hk;rw[hl]at hl';cases hl';obtain⟨o1,o2⟩:=sm.opened;have env0:EnvR ρ ⟨ks,vs,ts,sz,⟨H.n,[]::H.fs⟩⟩ { tmps:=r.tmps,defers:=[] }:=⟨q6.symm,q7⟩;obtain⟨f1,f2,f3⟩:=qp1 (fun tmps p=>tmps.setIfInBounds p.1 p.2) rfl (n:=0) hs1 hx env0;have f2:s1.H=⟨H.n,[]::H.fs⟩:=f2;have hps:xs.toArray.size=r.params.size:=(by rw[<- q3]at f1;simpa using f1.symm);refine⟨r.fn,_,r.assign,r.body,run_yield hr hps,?_⟩;have hz:(r.params.zip xs.toArray).foldl (fun tmps (x:Tmp × Value)=>match x with|(t,a)=>tmps.setIfInBounds t a) r.tmps=(ps.zip xs).foldl (fun tmps p=>tmps.setIfInBounds p.1 p.2) r.tmps:=(by rw[<- Array.foldl_toList,Array.toList_zip,q3]);rw[hz,q4,q5];refine roundIn_of_wpIn trivial ?_;refine(hI l.cb assign s1 x1 s2 h1 ρ _ w _ (by rw[f2];exact o1) f3 fun a1 w1 ρ1 g1 g2 g3 g4=>?_).wp;rw[f2]at g2;simp only at h;split at h
   ·replace h:=obs h;obtain⟨k1,hk1,h⟩:=h;split at h
    ·rename_i st1 pend1 ks1 vs1 ts1 sz1 ps1 as1 bd1;split at h
     ·replace h:=obs h;obtain⟨H1,hset1,h⟩:=h;replace h:=obs h;obtain⟨⟨x3,s3⟩,h3,h⟩:=h;replace h:=obs h;obtain⟨k2,hk2,h⟩:=h;simp only at hk2 h;split at h
      ·rename_i st2 pend2 ks2 vs2 ts2 sz2 ps2 as2 bd2;replace h:=obs h;obtain⟨H2,hset2,h⟩:=h;simp only[sj,jg]at h;obtain⟨rfl,rfl⟩:=h;have hl1:ρ1 b=some l:=g2.le _ _ hl;obtain⟨l1,hl1',_,hlt1,r1,hr1,u1,u2,_⟩:=g1.block hk1;rw[hl1]at hl1';cases hl1';refine⟨w1.putObj l.cb (.loop { r1 with state:=.busy }),run_beginRound hr1 u1,?_⟩;have hset1':s2.H.set b (.loop .busy r1.pending ks1 vs1 ts1 sz1 ps1 as1 bd1)=some H1:=(by rw[u2];exact hset1);obtain⟨s4,t4⟩:=g1.turnLoop hk1 hl1 hr1 hset1';refine(hI l.cb body { s2 with H:=H1 } x3 s3 h3 ρ1 a1 _ _ s4 (g3.heap H1) fun a2 w2 ρ2 m1 m2 m3 m4=>?_).wp;have hl2:ρ2 b=some l:=m2.le _ _ hl1;obtain⟨l2,hl2',_,hlt2,r2,hr2,_⟩:=m1.block hk2;rw[hl2]at hl2';cases hl2';have fin:∀(jump:Option Code) (H2:Heap) (st':LoopState),st'=(if jump.isNone then .ready else .done)->s3.H.set b (.loop st' jump ks2 vs2 ts2 sz2 ps2 as2 bd2)=some H2 ->
         ∃v w',(Instr.endRound l.cb jump).run C.P w2=.ok v w'/\qvx ρ H w (.bool jump.isNone) (qte (.bool true) H2) (.returned v) w':=by
        intro jump H2 st' hst' hset;obtain⟨s5,t5⟩:=m1.turnLoop hk2 hl2 hr2 hset;obtain⟨s6,t6⟩:=s5.pop (.bool true);refine⟨_,_,run_endRound jump hr2,.bool jump.isNone,ρ2,rfl,.bool _,?_,?_⟩
        ·rw[<- hst'];exact s6
        ·rw[<- hst'];exact((((o2.trans g2).trans t4).trans m2).trans t5).trans t6
       cases x3 with
       |normal=>exact fin none H2 _ rfl hset2
       |ret=>exact fin (some .ret) H2 _ rfl hset2
       |exit id=>exact fin (some (.exit id)) H2 _ rfl hset2
       |goto q=>exact fin (some (.goto q)) H2 _ rfl hset2
      ·simp at h
     ·simp at h
    ·simp at h
   ·simp at h
  ·simp at h
 ·simp at h
theorem fn_ok{C:Ctx} {ih ihR:qpg} (hS:quo C) (hI:qls C none ih) (hR:∀l,qls C (some l) ihR):CallOK C (qqi C ih ihR) where
 fn:=by
  intro f args H v H' h;cases hs:C.summ f with
  |some g=>unfold qqi at h;simp only[hs]at h;exact hS f g hs args H v H' h
  |none=>exact fun ρ w xs sm hx=>.inr ⟨f,xs.toArray,fn_calls hI hs h sm hx⟩
 yl:=fun b args H v H' h=>yield_ok hR h
theorem qvk{C:Ctx} (hm:C.P.follows .mixedOrders=true) (hS:quo C):∀n,qls C none (qsa C n true)/\∀l,qls C (some l) (qsa C n false)
 |0=>⟨fun c s x s' h=>by simp[qsa]at h,fun l c s x s' h=>by simp[qsa]at h⟩
 |n+1=>
  have⟨h1,h2⟩:=qvk hm hS n
  ⟨qzq (rf:=true) hm (fn_ok hS h1 h2) h1 (fun _=>rfl),fun l=>qzq (rf:=false) hm (fn_ok hS h1 h2) (h2 l) (fun h=>by cases h)⟩
theorem zcg{C:Ctx} (hm:C.P.follows .mixedOrders=true) (hS:quo C) (n:Nat):CallOK C (qvq C n):=fn_ok hS (qvk hm hS n).1 (qvk hm hS n).2
def qb5(C:Ctx):qck:=fun c args H=>match c with
 |.fn f=>match C.summ f with
  |some g=>g args H
  |none=>none
 |.yl _=>none
theorem callL_ok{C:Ctx} (hS:quo C):CallOK C (qb5 C) where
 fn:=by
  intro f args H v H' h;unfold qb5 at h;split at h
  ·rename_i g hs;split at h
   next g' hs'=>cases hs;exact hS _ g' hs' args H v H' h
   ·cases h
  ·cases h
 yl:=fun b args H v H' h=>by cases h
end
structure GlobsIn (W:World):Prop where
 gl:∀g,g∈globs->∃m,W.cell? ⟨g,0,none⟩=some (.int .i64 m)
theorem cell_lt{W:World} {g:Nat} {v:Value} (hm:W.cell? ⟨g,0,none⟩=some v):g < W.heap.size:=by apply yR;intro hn;have:W.heap[g]? = none:=Array.getElem?_eq_none (Nat.le_of_not_lt hn);simp[World.cell?,this]at hm
def start(W:World) (hg:GlobsIn W):Place:=⟨fun _=>none,W,fun k=>k < W.heap.size,fun g h=>⟨let ⟨_,hm⟩:=hg.gl g h;cell_lt hm,hg.gl g h⟩⟩
variable {W:World} {hg:GlobsIn W}
theorem qzw(W:World) (hg:GlobsIn W):Sim (start W hg) ⟨0,[]⟩ W where
 base:=fun _ h=>h
 below:=fun _ _=>rfl
 os:=rfl
 tape:=rfl
 output:=rfl
 dom:=fun _ _=>rfl
 nodup:=jK
 live:=fun e he=>by cases he
 inj:=fun e e' he=>by cases he
theorem Step.grown{ρ:Place} {H:Heap} {w:World} (s:Sim ρ H w) (t:Step (start W hg) ⟨0,[]⟩ W ρ H w):Below W.heap.size W w:=
 ⟨s.os.trans t.le.os,s.tape.trans t.le.tape,s.output.trans t.le.output,t.size,fun k hk=>t.keeps k hk fun e he=>by cases he⟩
section
variable {H:Type} {enc:TypeId × Value->H} {P:Program}
theorem qqt{ts:List TypeId} (hl:laidOutB P=true) (hr:∀t,t∈ts->P.readableRec t=true/\t < P.types.size) {W W':World} {sp:Nat->Bool} {vs:List Value} {ds:List (DataW H)} {ps:List MemPlace}
  (h:DataW.TrodAll enc P W 0 (fun _=>true) true ts vs ds ps) (hb:Below W.heap.size W W') (hlt:∀x,x∈ps->x.block < W.heap.size) (hsp:∀x,x∈ps->sp x.block=true) :
  DataW.TrodAll enc P W' 0 sp true ts vs ds ps:=by
 induction ts generalizing vs ds ps with
 |nil=>cases vs<;>cases ds<;>first|exact h|exact h.elim
 |cons t ts ih=>
  cases vs with
  |nil=>exact h.elim
  |cons v vs=>
   cases ds with
   |nil=>exact h.elim
   |cons d ds=>obtain⟨p,q,h1,h2,rfl⟩:=h;refine⟨p,q,WideElems.Trod_stays hl (hr t j8).1 (hr t j8).2 h1 (fun x hx=>hb.same (hlt x (by simp[hx]))) (fun x hx=>hsp x (by simp[hx])),?_,rfl⟩;exact ih (fun t ht=>hr t (ji _ ht)) h2 (fun x hx=>hlt x (by simp[hx])) (fun x hx=>hsp x (by simp[hx]))
theorem law_post{f:Func} {s:ChangeSpec} {apart fresh handsOn again:Bool} {W W':World} {args:Array Value} {ds gs:List (DataW H)} {before:List MemPlace} {tb:TypeId}
  (hl:laidOutB P=true) (hr:∀t,t∈f.params.toList->P.readableRec t=true/\t < P.types.size) (hb:P.underlying tb=some .bool) (hres:f.resultTypes = #[tb]) (hvars:s.vars=[])
  (hfn:(s.fn H (ds++gs)).results=[.lit (.bool true)]/\(s.fn H (ds++gs)).args=ds/\(s.fn H (ds++gs)).vars=[])
  (hW:DataW.Whole enc P f.params.toList s.vars apart W args.toList ds gs before) (hg:Below W.heap.size W W'):s.post enc P f apart fresh handsOn again W args (.bool true) W':=by
 have hlt:=hW.lt;have hW':=hW;obtain⟨p,q,h1,h2,rfl,hz,hn⟩:=hW';rw[hvars]at h2;have hq:q=[]:=by
  cases gs with
  |nil=>exact h2
  |cons g gs=>exact h2.elim
 subst hq;rw[jh]at hlt hz hn hW;have hres1:(Value.bool true).resultList f.resultTypes.size=[.bool true]:=by rw[hres];rfl
 have tr:∀(b:Nat) (sp:Nat->Bool) (hd:Bool),DataW.TrodAll enc P W' b sp hd f.resultTypes.toList ((Value.bool true).resultList f.resultTypes.size) (s.fn H (ds++gs)).results []:=fun b sp hd=>by rw[hres1,hres,hfn.1];exact⟨[],[],⟨1,by simp[DataW.trod,Value.cells,hb]⟩,rfl,rfl⟩
 have ta:∀sp:Nat->Bool,(∀x,x∈p->sp x.block=true)->DataW.TrodAll enc P W' 0 sp true f.params.toList args.toList (s.fn H (ds++gs)).args p:=fun sp hsp=>by rw[hfn.2.1];exact qqt hl hr h1 hg hlt hsp
 have tv:∀sp:Nat->Bool,DataW.TrodVars enc P W' sp s.vars (s.fn H (ds++gs)).vars []:=fun sp=>by rw[hvars,hfn.2.2];rfl
 refine⟨ds,gs,p,[],p,[],hW,tr _ _ _,ta _ (fun x hx=>by simpa using hlt x hx),tv _,World.keptBut_mono (fun x hx=>hx.elim) (hg.frame fun _=>False),fun _=>?_⟩;refine⟨?_,_,_,([]++p)++[],⟨[]++p,[],ChangeShapes.trodAll_append (ta _ fun _ _=>rfl) (tr _ _ _),tv _,rfl,?_,?_⟩,?_⟩
 ·rw[hres1];intro j t r hj hr';rw[hres]at hj;cases j with
  |zero=>simp at hj hr';subst hj;subst hr';simp[Value.okWide,hb,Cell.okWide,Cell.ok]
  |succ j=>simp at hj
 ·intro b off hp;have hp':MemPlace.cell b off∈p:=by simpa using hp
  have hlt':b < W.heap.size:=hlt _ hp';have:=hz b off hp';simp only[World.frozen?]at this ⊢;rw[hg.block b hlt'];exact this
 ·intro ha;have:=hn ha;simpa using this
 ·intro x hx _;simpa using hx
end
def qhy(ag:Bool) (as:List AV):Option AV:=match ag with
 |true=>some (.agg as)
 |false=>match as with
  |[a]=>match a.single with
   |true=>some a
   |false=>none
  |_=>none
def litA:Lit->Option AV
 |.bool b=>some (.bool b)
 |.int k n=>some (.int k n)
 |.string s=>some (.str s)
 |_=>none
def qgm(n:Nat):List AV->Bool
 |[]=>true
 |a::r=>match Nat.beq a.cells.length n with
  |true=>qgm n r
  |false=>false
def qqb{α β:Type} (f:α->Option β):List α->Option (List β)
 |[]=>some []
 |x::r=>(f x).bind fun y=>(qqb f r).bind fun ys=>some (y::ys)
theorem qoj{α β:Type} {f:α->Option β}:∀{l:List α} {r:List β},qqb f l=some r->r.length=l.length/\∀i (h:i < l.length) (h':i < r.length),f l[i]=some r[i]
 |[],r,h=>by simp only[qqb,sj]at h;subst h;exact⟨rfl,fun i h=>absurd h (j3 i)⟩
 |x::l,r,h=>by
  obtain⟨y,hy,h⟩:=obs h;obtain⟨ys,hys,h⟩:=obs h;simp only[sj]at h;subst h;obtain⟨h1,h2⟩:=qoj hys;refine⟨by simp[h1],fun i hi hi'=>?_⟩;cases i with
  |zero=>exact hy
  |succ i=>exact h2 i (by simpa using hi) (by simpa using hi')
def qoc{H:Type} (f:TypeId->DataW H->Option (List AV)) (P:Program):Nat->List Field->List (DataW H)->Option (List AV)
 |_,[],ds=>match ds with
  |[]=>some []
  |_::_=>none
 |o,x::fs,ds=>match ds with
  |[]=>none
  |d::ds=>match Nat.beq x.offset o with
   |false=>none
   |true=>(f x.type d).bind fun as=>match Nat.beq as.length (P.cellsOf x.type)with
    |false=>none
    |true=>(qoc f P (o+P.cellsOf x.type) fs ds).bind fun r=>some (as++r)
def qg6{H:Type} (P:Program):Nat->TypeId->DataW H->Option (List AV)
 |0,_,_=>none
 |Nat.succ n,t,d=>(P.underlying t).bind fun u=>match u,d with
  |.bool,.lit l=>(litA l).bind fun a=>some [a]
  |.int _,.lit l=>(litA l).bind fun a=>some [a]
  |.string,.lit l=>(litA l).bind fun a=>some [a]
  |.slice e,.nil=>some [.fslc (P.cellsOf e) []]
  |.slice e,.slice elems _=>match elems with
   |[]=>some [.fslc (P.cellsOf e) []]
   |_::_=>(qh4 P e).bind fun ag=>(qqb (fun d=>(qg6 P n e d).bind (qhy ag)) elems).bind fun es=>match qgm (P.cellsOf e) es with
    |true=>match Nat.ble 1 (P.cellsOf e)with
     |true=>some [.fslc (P.cellsOf e) es]
     |false=>none
    |false=>none
  |.struct fs,.agg parts=>(qoc (qg6 P n) P 0 fs.toList parts).bind fun as=>match Nat.beq as.length (P.cellsOf t)with
   |true=>some as
   |false=>none
  |_,_=>none
def argA{H:Type} (P:Program) (n:Nat) (t:TypeId) (d:DataW H):Option AV:=(qh4 P t).bind fun ag=>(qg6 P n t d).bind (qhy ag)
section
variable {W:World} {hg:GlobsIn W} {ρ:Place} {H:Type} {enc:TypeId × Value->H} {P:Program}
theorem qnw{ag:Bool} {as:List AV} {a:AV} (h:qhy ag as=some a):a.cells=as:=by
 cases ag with
 |true=>simp only[qhy,sj]at h;subst h;rfl
 |false=>
  unfold qhy at h;simp only at h;split at h
  ·rename_i b;split at h
   next hs=>simp only[sj]at h;subst h;cases b<;>first|rfl|simp[AV.single]at hs
   ·cases h
  ·cases h
theorem qjl{n:Nat}:∀{l:List AV},qgm n l=true->∀i (h:i < l.length),l[i].cells.length=n
 |[],_,i,hi=>absurd hi (j3 i)
 |a::r,h,i,hi=>by
  unfold qgm at h;split at h
  ·rename_i hb;cases i with
   |zero=>exact Nat.eq_of_beq_eq_true hb
   |succ i=>exact qjl h i (by simpa using hi)
  ·cases h
theorem qmo{w:World} {base:Nat} {a:Addr} {n:Nat} {cs:List Value} (h:w.cells? base a n=some cs):cs.length=n/\∀i (h':i < cs.length),w.cell? (a.add i)=some cs[i]:=by
 unfold World.cells? at h;split at h
 ·have key:∀(l:List Nat) (cs:List Value),l.mapM (fun i=>w.cell? (a.add i))=some cs->cs.length=l.length/\∀i (h1:i < l.length) (h2:i < cs.length),w.cell? (a.add l[i])=some cs[i]:=by
   intro l;induction l with
   |nil=>intro cs h;simp at h;subst h;exact⟨rfl,fun i h=>absurd h (j3 i)⟩
   |cons x l ih=>
    intro cs h;rw[List.mapM_cons]at h;obtain⟨y,hy,h⟩:=obs h;obtain⟨ys,hys,h⟩:=obs h;obtain rfl:y::ys=cs:=(by simpa using h);obtain⟨h1,h2⟩:=ih ys hys;refine⟨by simp[h1],fun i a b=>?_⟩;cases i with
    |zero=>exact hy
    |succ i=>exact h2 i (by simpa using a) (by simpa using b)
  obtain⟨h1,h2⟩:=key _ _ h;refine⟨by simpa using h1,fun i hi=>?_⟩;have:=h2 i (by rw[<- h1];exact hi) hi;simpa using this
 ·cases h
theorem qyu{w:World} {a:Addr} {v:Value} (h:w.cell? a=some v):a.spot=none/\a.block < w.heap.size:=by
 unfold World.cell? at h;split at h
 ·rename_i c t fr hh;split at h
  ·cases h
  ·rename_i hs;exact⟨by cases hsp:a.spot with
    |none=>rfl
    |some _=>rw[hsp]at hs;simp at hs,(Array.getElem?_eq_some_iff.1 hh).1⟩
 ·cases h
theorem qns{a:Addr} (h:a.spot=none) (k:Nat):a.add k=⟨a.block,a.off+k,none⟩:=by
 cases a;simp only at h;subst h;unfold Addr.add;split
 next hk=>simp[hk]
 ·rfl
theorem qmn{base:Nat} {sp:Nat->Bool} {held:Bool}:∀{n:Nat} {fuel:Nat} {t:TypeId} {cs:List Value} {x:DataW H × List MemPlace} {as:List AV},
  DataW.trod enc P W base sp held fuel t cs=some x->qg6 P n t x.1=some as->VRs (start W hg) as cs
 |0,_,_,_,_,_,_,h=>by simp[qg6]at h
 |n+1,fuel,t,cs,x,as,htr,h=>by
  obtain⟨u,hu,h⟩:=obs h;have one:∀{a:AV} {v:Value},VR (start W hg) a v->VRs (start W hg) [a] [v]:=fun h=>.cons h .nil;cases u with
  |bool=>
   cases fuel with
   |zero=>simp[DataW.trod]at htr
   |succ m=>unfold DataW.trod at htr;rw[hu]at htr;split at htr<;>simp_all;obtain⟨rfl⟩:=htr;obtain⟨a,ha,rfl⟩:=h;exact one (.bool _)
  |int k=>
   cases fuel with
   |zero=>simp[DataW.trod]at htr
   |succ m=>unfold DataW.trod at htr;rw[hu]at htr;split at htr<;>simp_all;obtain⟨⟨rfl,_⟩,rfl⟩:=htr;obtain⟨a,ha,rfl⟩:=h;exact one (.int _ _)
  |string=>
   cases fuel with
   |zero=>simp[DataW.trod]at htr
   |succ m=>unfold DataW.trod at htr;rw[hu]at htr;split at htr<;>simp_all;obtain⟨_,rfl⟩:=htr;obtain⟨a,ha,rfl⟩:=h;rename_i sb _;have hb:(⟨sb.data.toList.toArray⟩ : ByteArray)=sb:=(by cases sb;simp);have:=VR.str (ρ:=start W hg) sb.data.toList;rw[hb]at this;exact one this
  |slice e=>
   rcases DataW.trod_slice hu htr with⟨rfl,rfl⟩|⟨a,len,cap,elems,rest,m,rfl,rfl,rfl,hb,hl,hc,hlen,hel,_⟩
   ·simp only[sj]at h;subst h;exact one (.fnil _)
   ·simp only at h;split at h
    next hnil=>simp only[sj]at h;subst h;have:len=0:=(by rw[<- hlen];simpa using hnil);subst this;exact one (.fnone _ a cap)
    ·rename_i hcons;obtain⟨ag,hag,h⟩:=obs h;obtain⟨es,hes,h⟩:=obs h;split at h
     ·rename_i hsz;split at h
      ·rename_i hpos;simp only[sj]at h;subst h;obtain⟨g1,g2⟩:=qoj hes;have hel':es.length=len:=(by rw[g1];simpa using hlen);have hpos':1<=P.cellsOf e:=jG hpos;have hes':=qjl hsz;have each:∀i (hi:i < es.length),∃ci:List Value,W.cells? base (a.add (i * P.cellsOf e)) (P.cellsOf e)=some ci/\VRs (start W hg) es[i].cells ci:=(by intro i hi;have hil:i < len:=(by omega);have hie:i < elems.length:=(by omega);have h1:=hel i hil;rw[List.getElem?_eq_getElem hie]at h1;obtain⟨ci,hci,hti⟩:=obs h1;have h2:=g2 i (by simpa using hie) hi;obtain⟨as',ha',hw'⟩:=obs h2;rw[qnw hw'];exact⟨ci,hci,qmn hti (by simpa using ha')⟩);have hne:0 < es.length:=by
        cases elems with
        |nil=>simp at hcons
        |cons _ _=>simp at g1;omega
       obtain⟨c0,hc0,hv0⟩:=each 0 hne;obtain⟨l0,cell0⟩:=qmo hc0;obtain⟨hspot,hblk⟩:=qyu (cell0 0 (by omega));have hspot':a.spot=none:=(by simpa[Addr.add]using hspot);have hblk':a.block < W.heap.size:=(by simpa[Addr.add]using hblk);have ha:a=⟨a.block,a.off,none⟩:=(by cases a;simp at hspot';simp[hspot']);have key:VR (start W hg) (.fslc (P.cellsOf e) es) (.slice (some ⟨a.block,a.off,none⟩) es.length cap):=by
        refine .fslc (P.cellsOf e) es a.block a.off cap (fun i j=>(W.cell? ⟨a.block,a.off+i * P.cellsOf e+j,none⟩).getD undef) hblk' (by omega) hes' (fun i hi j hj=>?_) (fun i hi j hj=>?_)
        ·obtain⟨ci,hci,hvi⟩:=each i hi;obtain⟨li,celli⟩:=qmo hci;have:=celli j (by omega);have e1:(a.add (i * P.cellsOf e)).add j=⟨a.block,a.off+i * P.cellsOf e+j,none⟩:=(by rw[qns hspot',qns rfl]);rw[e1]at this;show W.cell? _=_;rw[this];rfl
        ·obtain⟨ci,hci,hvi⟩:=each i hi;obtain⟨li,celli⟩:=qmo hci;have hj':j < ci.length:=(by rw[hvi.1];exact hj);have:=celli j hj';have e1:(a.add (i * P.cellsOf e)).add j=⟨a.block,a.off+i * P.cellsOf e+j,none⟩:=(by rw[qns hspot',qns rfl]);rw[e1]at this;rw[this];exact(hvi.2 j hj hj')
       rw[hel',<- ha]at key;exact one key
      ·cases h
     ·cases h
  |struct fs=>
   obtain⟨xs,m,rfl,rfl,hlen,hxs,hf⟩:=DataW.trod_struct hu htr;simp only at h;have key:∀(l:List Field) (o k:Nat) (as:List AV),(∀i (hi:i < l.length),fs[k+i]? = some l[i])->k+l.length=fs.size->qoc (qg6 P n) P o l ((xs.map (·.1)).drop k)=some as ->
     ∃len,as.length=len/\(o+len<=cs.length\/len=0)/\VRs (start W hg) as ((cs.drop o).take len):=by
    intro l;induction l with
    |nil=>
     intro o k as _ _ h;unfold qoc at h;split at h
     ·simp only[sj]at h;subst h;exact⟨0,rfl,.inr rfl,by simpa using VRs.nil⟩
     ·cases h
    |cons y l ih=>
     intro o k as hfs hk h;have hy:fs[k]? = some y:=hfs 0 (Nat.zero_lt_succ _);have hkx:k < xs.length:=(by rw[hxs];simp at hk;omega);have hdrop:(xs.map (·.1)).drop k=xs[k].1::(xs.map (·.1)).drop (k+1):=(by rw[List.drop_eq_getElem_cons (by simpa using hkx)];simp);rw[hdrop]at h;unfold qoc at h;simp only at h;split at h
     ·cases h
     ·rename_i hoff;obtain⟨as1,h1,h⟩:=obs h;split at h
      ·cases h
      next hl1=>obtain⟨r,hr,h⟩:=obs h;simp only[sj]at h;subst h;have hoff':y.offset=o:=Nat.eq_of_beq_eq_true hoff;have hl1':as1.length=P.cellsOf y.type:=Nat.eq_of_beq_eq_true hl1;have ht:=hf k y hy;rw[List.getElem?_eq_getElem hkx,hoff']at ht;have hv1:=qmn ht h1;obtain⟨len,q1,q2,q3⟩:=ih (o+P.cellsOf y.type) (k+1) r (fun i hi=>by have:=hfs (i+1) (by simpa using hi);simpa[Nat.add_assoc,Nat.add_comm 1 i]using this) (by simp at hk;omega) hr;have hsize:((cs.drop o).take (P.cellsOf y.type)).length=P.cellsOf y.type:=(by rw[hv1.1,hl1']);have hle:o+P.cellsOf y.type<=cs.length\/P.cellsOf y.type=0:=(by rw[jL,yP]at hsize;omega);refine⟨P.cellsOf y.type+len,by simp[hl1',q1],by omega,?_⟩;have hsplit:(cs.drop o).take (P.cellsOf y.type+len)=(cs.drop o).take (P.cellsOf y.type)++(cs.drop (o+P.cellsOf y.type)).take len:=(by rw[List.take_add,List.drop_drop]);rw[hsplit];exact hv1.append q3
   obtain⟨as',has,h⟩:=obs h;split at h
   next htot=>simp only[sj]at h;subst h;have htot':as'.length=P.cellsOf t:=Nat.eq_of_beq_eq_true htot;obtain⟨len,q1,q2,q3⟩:=key fs.toList 0 0 as' (fun i hi=>by simp at hi ⊢) (by simp) (by simpa using has);have hle:len=cs.length:=(by omega);simpa[hle]using q3
   ·cases h
  |_=>simp at h
theorem argA_run{n:Nat} {r:Reach} {b0:Nat} {base:Nat} {sp:Nat->Bool} {held:Bool} {t:TypeId} {v:Value} {d:DataW H} {ps:List MemPlace} {a:AV} (ht:DataW.Trod enc P W base sp held t v d ps) (hok:Value.okWide P W r b0 t v) (h:argA P n t d=some a):VR (start W hg) a v:=by
 obtain⟨fuel,hf⟩:=ht;obtain⟨ag,hag,h⟩:=obs h;obtain⟨as,has,h⟩:=obs h;have hv:=qmn (hg:=hg) hf has;obtain⟨u,hu,hag⟩:=obs hag;have agg:∀cs:Array Value,v=.agg cs->ag=true->VR (start W hg) a v:=by rintro cs rfl rfl;simp only[qhy,sj]at h;subst h;exact .agg as cs (by simpa[Value.cells]using hv.1) fun i h1 h2=>hv.2 i h1 (by simpa[Value.cells]using h2)
 have cell:ag=false->Cell.okWide P W r b0 t v->VR (start W hg) a v:=by
  rintro rfl hc;have hcs:v.cells = #[v]:=by
   cases v with
   |agg cs=>simp only[Cell.okWide,Cell.ok]at hc;revert hc;cases P.underlying t with
    |none=>exact fun h=>h.elim
    |some u=>cases u<;>exact fun h=>h.elim
   |_=>rfl
  unfold qhy at h;simp only at h;split at h
  ·split at h
   ·simp only[sj]at h;subst h;rw[hcs]at hv;exact hv.head
   ·cases h
  ·cases h
 unfold Value.okWide at hok;rw[hu]at hok;cases u with
 |struct fs=>obtain⟨cs,h1,_⟩:=hok;simp only[sj]at hag;exact agg cs h1 hag.symm
 |array k e=>obtain⟨cs,h1,_⟩:=hok;simp only[sj]at hag;exact agg cs h1 hag.symm
 |_=>simp only[sj]at hag;exact cell hag.symm hok
end
@[simp]theorem lookK_hit{t:Nat} {ks:List Nat} {v:AV} {vs:List AV}:qgl t (t::ks) (v::vs)=some v:=by simp[qe3,qjb]
@[simp]theorem lookK_miss{t k:Nat} (h:k≠t) {ks:List Nat} {v:AV} {vs:List AV}:qgl t (k::ks) (v::vs)=qgl t ks vs:=by simp[qe3,qax h]
@[simp]theorem lookK_nil{t:Nat} {vs:List AV}:qgl t [] vs=none:=rfl
@[simp]theorem look_hit{t:Nat} {v:AV} {r:List (Nat × AV)}:look t ((t,v)::r)=some v:=by simp[qhv,qmw]
@[simp]theorem look_miss{t k:Nat} (h:k≠t) {v:AV} {r:List (Nat × AV)}:look t ((k,v)::r)=look t r:=by simp[qhv,qax h]
@[simp]theorem look_nil{t:Nat}:look t []=none:=rfl
@[simp]theorem putK_hit{t:Nat} {ks:List Nat} {x v:AV} {vs:List AV}:qup t v (t::ks) (x::vs)=some (v::vs):=by simp[qtc,putK_n]
@[simp]theorem putK_miss{t k:Nat} (h:k≠t) {ks:List Nat} {x v:AV} {vs:List AV}:qup t v (k::ks) (x::vs)=(qup t v ks vs).bind fun r=>some (x::r):=by simp[qtc,qax h]
@[simp]theorem putK_nil{t:Nat} {v:AV} {vs:List AV}:qup t v [] vs=none:=rfl
@[simp]theorem St_get_mk{ks:List Nat} {vs:List AV} {ts:List (Nat × AV)} {sz t:Nat} {H:Heap}:St.get ⟨ks,vs,ts,sz,H⟩ t=match qgl t ks vs with
  |some v=>some v
  |none=>look t ts:=rfl
@[simp]theorem St_set_mk{ks:List Nat} {vs:List AV} {ts:List (Nat × AV)} {sz t:Nat} {H:Heap} {v:AV} (h:t < sz):St.set ⟨ks,vs,ts,sz,H⟩ t v=match qup t v ks vs with
  |some vs=>some ⟨ks,vs,ts,sz,H⟩
  |none=>some ⟨ks,vs,(t,v)::ts,sz,H⟩:=by
 have:Nat.blt t sz=true:=by simpa using h
 unfold St.set;simp only[this];cases qup t v ks vs<;>rfl
@[simp]theorem St_put_some{s:St} {t:Nat} {v:AV}:s.put (some t) v=s.set t v:=rfl
@[simp]theorem St_put_none{s:St} {v:AV}:s.put none v=some s:=rfl
@[simp]theorem opnd_tmp{s:St} {t:Nat}:qc5 s (.tmp t)=s.get t:=rfl
@[simp]theorem opnd_const{s:St} {v:Value}:qc5 s (.const v)=some (ofV v):=rfl
@[simp]theorem opnd_func{s:St} {f:FuncId}:qc5 s (.func f)=some (.func (.func f) [] []):=rfl
@[simp]theorem opnds_nil{s:St}:qfy s []=some []:=rfl
theorem qyb{s:St} {x:Operand} {r:List Operand}:qfy s (x::r)=(qc5 s x).bind fun v=>(qfy s r).bind fun vs=>some (v::vs):=rfl
section
variable {C:Ctx} {s:St}
@[simp]theorem evalOps_nil{call:qck} {ops:Array Oper}:qfn C call ops [] s=some s:=rfl
theorem qu4{call:qck} {ops:Array Oper} {o:Oper} {r:List Oper}:qfn C call ops (o::r) s=(qeb C call ops o (qc0 s o)).bind fun s=>qfn C call ops r s:=rfl
end
def qab(K:St->Prop) (Q:Out->St->Prop):Out->St->Prop
 |.normal,s=>K s
 |x,s=>Q x s
def qa4(id:Nat) (Q:Out->St->Prop):Out->St->Prop
 |.exit k,s=>if k=id then Q .normal s else Q (.exit k) s
 |x,s=>Q x s
section
variable {C:Ctx} {s:St} {Q:Out->St->Prop}
@[simp]theorem thenQ_normal{K:St->Prop} {s:St}:qab K Q .normal s=K s:=rfl
@[simp]theorem thenQ_exit{K:St->Prop} {s:St} {k:Nat}:qab K Q (.exit k) s=Q (.exit k) s:=rfl
@[simp]theorem thenQ_goto{K:St->Prop} {s:St} {k:Nat}:qab K Q (.goto k) s=Q (.goto k) s:=rfl
@[simp]theorem thenQ_ret{K:St->Prop} {s:St}:qab K Q .ret s=Q .ret s:=rfl
@[simp]theorem blockQ_normal{id:Nat} {s:St}:qa4 id Q .normal s=Q .normal s:=rfl
@[simp]theorem qvt{id k:Nat} {s:St}:qa4 id Q (.exit k) s=if k=id then Q .normal s else Q (.exit k) s:=rfl
@[simp]theorem blockQ_goto{id k:Nat} {s:St}:qa4 id Q (.goto k) s=Q (.goto k) s:=rfl
@[simp]theorem blockQ_ret{id:Nat} {s:St}:qa4 id Q .ret s=Q .ret s:=rfl
def vH(H:Heap):Option AV->Option (AV × Heap)
 |some v=>some (v,H)
 |none=>none
def b2{α:Type} (f:AV->AV->Option α):Option AV->Option AV->Option α
 |some x,some y=>f x y
 |_,_=>none
def b3{α:Type} (f:AV->AV->AV->Option α):Option AV->Option AV->Option AV->Option α
 |some x,some y,some z=>f x y z
 |_,_,_=>none
def b1{α:Type} (f:AV->Option α):Option AV->Option α
 |some x=>f x
 |none=>none
def stV:Option Heap->Option (AV × Heap)
 |some H=>some (.undef,H)
 |none=>none
def clrV:Option Heap->Option (AV × Heap)
 |some H=>some (.tup [],H)
 |none=>none
def qn7(H:Heap):Option AV->Option AV->Option AV->Option (AV × Heap)
 |some (.bool true),a,_=>vH H a
 |some (.bool false),_,b=>vH H b
 |_,_,_=>none
def mkF(fn:Go.Fn) (H:Heap):Option (List AV)->Option (List AV)->Option (AV × Heap)
 |some a,some b=>some (.func fn a b,H)
 |_,_=>none
def slV(P:Program) (H:Heap) (t:TypeId):Option AV->Option (Option AV)->Option (Option AV)->Option (Option AV)->Option AV
 |some x,some lo,some hi,some mx=>qcq P H t x lo hi mx
 |_,_,_,_=>none
def faV(P:Program) (t:TypeId) (i:Nat):Option AV->Option AV
 |some x=>qb1 P t x i
 |none=>none
def fdV(P:Program) (t:TypeId) (i:Nat):Option AV->Option AV
 |some x=>qbu P t x i
 |none=>none
def luV(P:Program) (H:Heap) (t:TypeId) (ok:Bool):Option AV->Option AV->Option AV
 |some m,some k=>qj9 P H t m k ok
 |_,_=>none
def exV(i:Nat):Option AV->Option AV
 |some (.tup vs)=>qcb vs i
 |_=>none
def ncV(H:Heap):Option AV->Option (AV × Heap)
 |some (.ptr b o)=>some (.ptr b o,H)
 |some (.fptr cs o)=>some (.fptr cs o,H)
 |some (.func (.func f) a b)=>some (.func (.func f) a b,H)
 |some (.func (.yield f) a b)=>some (.func (.yield f) a b,H)
 |some (.yld b)=>some (.yld b,H)
 |_=>none
def bltV(P:Program) (H:Heap) (b:Builtin) (ts:Array TypeId):Option (List AV)->Option (AV × Heap)
 |some args=>qcl P H b ts args
 |none=>none
def clV(call:qck) (H:Heap):Option AV->Option (List AV)->Option (AV × Heap)
 |some (.func (.func f) first cap),some args=>call (.fn f) (first++args++cap) H
 |some (.yld b),some args=>call (.yl b) args H
 |_,_=>none
def alV(P:Program) (H:Heap) (t:TypeId):Option (AV × Heap):=(qby P t).bind fun z=>(qcj P t).bind fun n=>match Nat.beq z.cells.length n with
  |true=>some (.ptr H.n 0,H.new (.cells z.cells))
  |false=>none
def rgV(H:Heap):Option TypeDesc->Option AV->Option (AV × Heap)
 |some .string,some (.str l)=>some (.ptr H.n 0,H.new (.iter l 0))
 |_,_=>none
def nxV(H:Heap) (isS:Bool):Option AV->Option (AV × Heap)
 |some (.ptr b 0)=>match isS with
  |true=>qtj H b
  |false=>none
 |_=>none
def boxV(H:Heap):Option AV->Option (AV × Heap)
 |some x=>match allSingle x.cells with
  |true=>some (.ptr H.n 0,H.new (.cells x.cells))
  |false=>none
 |none=>none
def bsW(P:Program) (H:Heap) (d:Option Tmp) (t:TypeId) (len:Nat):Option (List AV)->Option (AV × Heap)
 |some cs=>some (.slc H.n 0 len (.ex len),H.new (qyz P t d cs))
 |none=>none
def bsV(P:Program) (H:Heap) (d:Option Tmp) (t:TypeId) (len:Nat):Option (List (Nat × AV))->Option (AV × Heap)
 |some ps=>bsW P H d t len (sliceParts P t len ps)
 |none=>none
def bldV(P:Program) (t:TypeId):Option (List (Nat × AV))->Option AV
 |some ps=>qe6 P t ps
 |none=>none
def consO{α:Type}:Option α->Option (List α)->Option (List α)
 |some x,some r=>some (x::r)
 |_,_=>none
def consP(i:Nat):Option AV->Option (List (Nat × AV))->Option (List (Nat × AV))
 |some x,some r=>some ((i,x)::r)
 |_,_=>none
def qy9(s:St) (d:Option Tmp):Option (AV × Heap)->Option St
 |some (v,H)=>St.put { s with H:=H } d v
 |none=>none
def gd2(w:Bool):Option AV->Option Bool
 |some (.bool b)=>some (b == w)
 |some (.tup [])=>some false
 |_=>none
def gd1(s:St) (w:Bool):Option Oper->Option Bool
 |some p=>match p.dst with
  |some t=>gd2 w (s.get t)
  |none=>none
 |none=>none
def qk1(C:Ctx) (call:qck) (s:St) (o:Oper):Option Bool->Option St
 |some true=>qy9 s o.dst (qah C call o s)
 |some false=>s.put o.dst (.tup [])
 |none=>none
def qj1(C:Ctx) (call:qck) (ops:Array Oper):Option St->List Oper->Option St
 |some s,l=>qfn C call ops l s
 |none,_=>none
def lnV(H:Heap):Option Nat->Option (AV × Heap)
 |some n=>some (.int .i64 n,H)
 |none=>none
def apV(P:Program) (H:Heap) (s x:AV):Option TypeDesc->Option TypeDesc->Option (AV × Heap)
 |some (.slice e),some (.slice _)=>qbs P H e s x
 |some (.slice e),some .string=>qbs P H e s x
 |some (.slice e),some (.int _)=>qyj P H e s x
 |_,_=>none
def frV(s:St):Option AV->St
 |some (.ptr b 0)=>match s.H.get b with
  |some (.cells [_])=>s
  |_=>{ s with H:=s.H.kill b }
 |_=>s
@[simp]theorem qgd(cs:List AV):(Blk.cells cs).rd=some cs:=rfl
@[simp]theorem rd_buf(t:TypeId) (fz:Nat) (cs:List AV):(Blk.buf t fz cs).rd=some cs:=rfl
@[simp]theorem rd_map(es:List (AV × AV)):(Blk.map es).rd=none:=rfl
@[simp]theorem wt_cells(o:Nat) (cs:List AV):(Blk.cells cs).wt o=some cs:=rfl
@[simp]theorem wt_map(o:Nat) (es:List (AV × AV)):(Blk.map es).wt o=none:=rfl
@[simp]theorem re_cells(cs cs':List AV):(Blk.cells cs).re cs'=.cells cs':=rfl
@[simp]theorem re_buf(t:TypeId) (fz:Nat) (cs cs':List AV):(Blk.buf t fz cs).re cs'=.buf t fz cs':=rfl
@[simp]theorem qqf(cs cs':List AV) (e:TypeId) (o:Nat):goOn (.cells cs) e o cs'=some (.cells cs'):=rfl
section
variable {C:Ctx} {call:qck} {ops:Array Oper} {s:St} {P:Program} {H H':Heap} {d:Option Tmp} {ty:TypeId} {pos:String} {af:Array Edge} {g:Option (Nat × Bool)} {t u:TypeId} {a b c x y z v w:AV} {f fo l m k:Operand} {n i j:Nat}
@[simp]theorem vH_some:vH H (some v)=some (v,H):=rfl
@[simp]theorem zcn{α:Type} {f:AV->Option α}:b1 f (some x)=f x:=rfl
@[simp]theorem qsi{α:Type} {f:AV->AV->Option α}:b2 f (some x) (some y)=f x y:=rfl
@[simp]theorem zcm{α:Type} {f:AV->AV->AV->Option α}:b3 f (some x) (some y) (some z)=f x y z:=rfl
@[simp]theorem stV_some:stV (some H)=some (.undef,H):=rfl
@[simp]theorem clrV_some:clrV (some H)=some (.tup [],H):=rfl
@[simp]theorem pickV_t{p q:Option AV}:qn7 H (some (.bool true)) p q=vH H p:=rfl
@[simp]theorem pickV_f{p q:Option AV}:qn7 H (some (.bool false)) p q=vH H q:=rfl
@[simp]theorem mkF_some{fn:Go.Fn} {p q:List AV}:mkF fn H (some p) (some q)=some (.func fn p q,H):=rfl
@[simp]theorem slV_some{lo hi mx:Option AV}:slV P H t (some x) (some lo) (some hi) (some mx)=qcq P H t x lo hi mx:=rfl
@[simp]theorem faV_some:faV P t i (some x)=qb1 P t x i:=rfl
@[simp]theorem fdV_some:fdV P t i (some x)=qbu P t x i:=rfl
@[simp]theorem luV_some{ok:Bool}:luV P H t ok (some x) (some y)=qj9 P H t x y ok:=rfl
@[simp]theorem exV_some{vs:List AV}:exV i (some (.tup vs))=qcb vs i:=rfl
@[simp]theorem ncV_ptr{o:Nat}:ncV H (some (.ptr n o))=some (.ptr n o,H):=rfl
@[simp]theorem ncV_fptr{cs:List AV} {o:Nat}:ncV H (some (.fptr cs o))=some (.fptr cs o,H):=rfl
@[simp]theorem ncV_func{f:FuncId} {p q:List AV}:ncV H (some (.func (.func f) p q))=some (.func (.func f) p q,H):=rfl
@[simp]theorem bltV_some{bu:Builtin} {ts:Array TypeId} {args:List AV}:bltV P H bu ts (some args)=qcl P H bu ts args:=rfl
@[simp]theorem clV_some{f:FuncId} {first cap args:List AV}:clV call H (some (.func (.func f) first cap)) (some args)=call (.fn f) (first++args++cap) H:=rfl
@[simp]theorem clV_yld{b:Nat} {args:List AV}:clV call H (some (.yld b)) (some args)=call (.yl b) args H:=rfl
@[simp]theorem boxV_some:boxV H (some x)=match allSingle x.cells with
  |true=>some (.ptr H.n 0,H.new (.cells x.cells))
  |false=>none:=rfl
@[simp]theorem bsW_some{cs:List AV} {d:Option Tmp}:bsW P H d t n (some cs)=some (.slc H.n 0 n (.ex n),H.new (qyz P t d cs)):=rfl
@[simp]theorem memP_nil{d:Nat}:memP n d []=false:=by simp only[memP]
@[simp]theorem memP_cons{d:Nat} {m:Nat × Nat} {r:List (Nat × Nat)}:memP n d (m::r)=((m.1 == n && m.2 == d) || memP n d r):=by
 have e:∀a b:Nat,Nat.beq a b=(a == b):=fun a b=>by
  cases h:Nat.beq a b
  ·cases h2:(a == b)
   ·rfl
   ·rw[eq_of_beq h2,jC]at h;cases h
  ·rw[Nat.eq_of_beq_eq_true h];simp
 show (match Nat.beq m.1 n && Nat.beq m.2 d with|true=>true|false=>memP n d r)=_;rw[e,e];cases (m.1 == n && m.2 == d)<;>rfl
@[simp]theorem memB{d:Nat}:memP n d bufs=memP n d [(38,59),(38,15)]:=by simp only[bufs]
@[simp]theorem rowB_none{cs:List AV}:qyz P t none cs=.cells cs:=rfl
@[simp]theorem rowB_no{cs:List AV} {d:Nat} (h:memP t d bufs=false):qyz P t (some d) cs=.cells cs:=by unfold qyz;simp only[h]
@[simp]theorem bsV_some{ps:List (Nat × AV)} {d:Option Tmp}:bsV P H d t n (some ps)=bsW P H d t n (sliceParts P t n ps):=rfl
@[simp]theorem zcl{ps:List (Nat × AV)}:bldV P t (some ps)=qe6 P t ps:=rfl
@[simp]theorem consO_some{α:Type} {x:α} {r:List α}:consO (some x) (some r)=some (x::r):=rfl
@[simp]theorem consP_some{r:List (Nat × AV)}:consP i (some x) (some r)=some ((i,x)::r):=rfl
@[simp]theorem putV_some:qy9 s d (some (v,H))=St.put { s with H:=H } d v:=rfl
@[simp]theorem gd2_bool{w p:Bool}:gd2 w (some (.bool p))=some (p == w):=rfl
@[simp]theorem gd2_tup{w:Bool}:gd2 w (some (.tup []))=some false:=rfl
@[simp]theorem gd1_some{w:Bool} {op:Op}:gd1 s w (some ⟨some t,op,ty,pos,af,g⟩)=gd2 w (s.get t):=rfl
@[simp]theorem gate_t{o:Oper}:qk1 C call s o (some true)=qy9 s o.dst (qah C call o s):=rfl
@[simp]theorem gate_f{o:Oper}:qk1 C call s o (some false)=s.put o.dst (.tup []):=rfl
@[simp]theorem thenOps_some{l:List Oper}:qj1 C call ops (some s) l=qfn C call ops l s:=rfl
@[simp]theorem lnV_some:lnV H (some n)=some (.int .i64 n,H):=rfl
@[simp]theorem apV_ss{e e':TypeId}:apV P H x y (some (.slice e)) (some (.slice e'))=qbs P H e x y:=rfl
@[simp]theorem apV_gr{e:TypeId} {k:IntKind}:apV P H x y (some (.slice e)) (some (.int k))=qyj P H e x y:=rfl
@[simp]theorem apV_st{e:TypeId}:apV P H x y (some (.slice e)) (some .string)=qbs P H e x y:=rfl
@[simp]theorem frV_ptr:frV s (some (.ptr n 0))=match s.H.get n with
  |some (.cells [_])=>s
  |_=>{ s with H:=s.H.kill n }:=rfl
@[simp]theorem frV_undef:frV s (some .undef)=s:=rfl
@[simp]theorem frV_none:frV s none=s:=rfl
@[simp]theorem opnds_c{r:List Operand}:qfy s (l::r)=consO (qc5 s l) (qfy s r):=by rw[qyb];cases qc5 s l<;>cases qfy s r<;>rfl
@[simp]theorem opndP_n:qi1 s []=some []:=rfl
@[simp]theorem opndP_c{r:List (Nat × Operand)}:qi1 s ((i,l)::r)=consP i (qc5 s l) (qi1 s r):=by
 show ((qc5 s l).bind fun v=>(qi1 s r).bind fun vs=>some ((i,v)::vs))=_;cases qc5 s l with
 |none=>rfl
 |some v=>cases qi1 s r<;>rfl
@[simp]theorem opndO_n:qhd s none=some none:=rfl
theorem opndO_s:qhd s (some l)=(qc5 s l).map some:=by show ((qc5 s l).bind fun v=>some (some v))=_;cases qc5 s l<;>rfl
@[simp]theorem ops_n:qfn C call ops [] s=some s:=rfl
@[simp]theorem ops_c{o:Oper} {r:List Oper}:qfn C call ops (o::r) s=qj1 C call ops (qeb C call ops o (qc0 s o)) r:=by rw[qu4];cases qeb C call ops o (qc0 s o)<;>rfl
@[simp]theorem evo_n{op:Op}:qeb C call ops ⟨d,op,ty,pos,af,none⟩ s=qy9 s d (qah C call ⟨d,op,ty,pos,af,none⟩ s):=by unfold qeb qar;simp only[jc];cases qah C call ⟨d,op,ty,pos,af,none⟩ s<;>rfl
@[simp]theorem evo_g{op:Op} {wt:Bool}:qeb C call ops ⟨d,op,ty,pos,af,some (j,wt)⟩ s=qk1 C call s ⟨d,op,ty,pos,af,some (j,wt)⟩ (gd1 s wt ops[j]?):=by
 unfold qeb qar;simp only;cases ops[j]? with
 |none=>rfl
 |some p=>
  simp only[jc,gd1];cases p.dst with
  |none=>rfl
  |some t=>
   simp only[jc];cases s.get t with
   |none=>rfl
   |some v=>
    have key:∀gg:Option Bool,(gg.bind fun g=>match g with
     |true=>(qah C call ⟨d,op,ty,pos,af,some (j,wt)⟩ s).bind fun r=>St.put { s with H:=r.2 } d r.1
     |false=>s.put d (.tup []))=qk1 C call s ⟨d,op,ty,pos,af,some (j,wt)⟩ gg:=fun gg=>by
     cases gg with
     |none=>rfl
     |some q=>
      cases q with
      |false=>rfl
      |true=>simp only[jc,gate_t];cases qah C call ⟨d,op,ty,pos,af,some (j,wt)⟩ s<;>rfl
    simp only[jc];rw[<- key (gd2 wt (some v))];cases v<;>try rfl
    rename_i l;cases l<;>rfl
@[simp]theorem fr_move:qc0 s ⟨d,.move l,ty,pos,af,g⟩=s:=rfl
@[simp]theorem fr_assign:qc0 s ⟨d,.assign l,ty,pos,af,g⟩=s:=rfl
@[simp]theorem fr_pick:qc0 s ⟨d,.pick l m k,ty,pos,af,g⟩=s:=rfl
@[simp]theorem fr_buildSlice{ps:Array (Nat × Operand)}:qc0 s ⟨d,.buildSlice t n ps,ty,pos,af,g⟩=s:=rfl
@[simp]theorem fr_makeMap{ro:Option Operand}:qc0 s ⟨d,.makeMap t ro,ty,pos,af,g⟩=s:=rfl
@[simp]theorem fr_build{ps:Array (Nat × Operand)}:qc0 s ⟨d,.build t ps,ty,pos,af,g⟩=s:=rfl
@[simp]theorem fr_load:qc0 s ⟨d,.load t l,ty,pos,af,g⟩=s:=rfl
@[simp]theorem fr_store:qc0 s ⟨d,.store t l m,ty,pos,af,g⟩=s:=rfl
@[simp]theorem fr_nilCheck:qc0 s ⟨d,.nilCheck l,ty,pos,af,g⟩=s:=rfl
@[simp]theorem fr_binOp{bo:BinOp}:qc0 s ⟨d,.binOp bo t l m u,ty,pos,af,g⟩=s:=rfl
@[simp]theorem fr_unOp{uo:UnOp}:qc0 s ⟨d,.unOp uo t l,ty,pos,af,g⟩=s:=rfl
@[simp]theorem fr_convert:qc0 s ⟨d,.convert t u l,ty,pos,af,g⟩=s:=rfl
@[simp]theorem fr_makeFunc{fn:Go.Fn} {p q:Array Operand}:qc0 s ⟨d,.makeFunc fn p q,ty,pos,af,g⟩=s:=rfl
@[simp]theorem fr_makeSlice:qc0 s ⟨d,.makeSlice t l m,ty,pos,af,g⟩=s:=rfl
@[simp]theorem fr_slice{lo hi mx:Option Operand}:qc0 s ⟨d,.slice t l lo hi mx,ty,pos,af,g⟩=s:=rfl
@[simp]theorem fr_fieldAddr:qc0 s ⟨d,.fieldAddr t l i,ty,pos,af,g⟩=s:=rfl
@[simp]theorem fr_field:qc0 s ⟨d,.field t l i,ty,pos,af,g⟩=s:=rfl
@[simp]theorem fr_indexAddr:qc0 s ⟨d,.indexAddr t l m,ty,pos,af,g⟩=s:=rfl
@[simp]theorem fr_index:qc0 s ⟨d,.index t l m,ty,pos,af,g⟩=s:=rfl
@[simp]theorem fr_lookup{ok:Bool}:qc0 s ⟨d,.lookup t l m ok,ty,pos,af,g⟩=s:=rfl
@[simp]theorem fr_mapUpdate:qc0 s ⟨d,.mapUpdate t l m k,ty,pos,af,g⟩=s:=rfl
@[simp]theorem fr_insert:qc0 s ⟨d,.insert t l m k,ty,pos,af,g⟩=s:=rfl
@[simp]theorem fr_extract:qc0 s ⟨d,.extract l i,ty,pos,af,g⟩=s:=rfl
@[simp]theorem fr_call{cc:Call}:qc0 s ⟨d,.call cc,ty,pos,af,g⟩=s:=rfl
@[simp]theorem fr_alloc:qc0 s ⟨some n,.alloc t,ty,pos,af,g⟩=frV s (s.get n):=by
 unfold qc0;simp only;cases s.get n with
 |none=>rfl
 |some v=>cases v<;>rfl
@[simp]theorem fr_box:qc0 s ⟨some n,.box t l,ty,pos,af,g⟩=frV s (s.get n):=by
 unfold qc0;simp only;cases s.get n with
 |none=>rfl
 |some v=>cases v<;>rfl
@[simp]theorem ev_move:qah C call ⟨d,.move l,ty,pos,af,g⟩ s=vH s.H (qc5 s l):=by unfold qah;simp only;cases qc5 s l<;>rfl
@[simp]theorem ev_assign:qah C call ⟨d,.assign l,ty,pos,af,g⟩ s=vH s.H (qc5 s l):=by unfold qah;simp only;cases qc5 s l<;>rfl
@[simp]theorem ev_pick:qah C call ⟨d,.pick l m k,ty,pos,af,g⟩ s=qn7 s.H (qc5 s l) (qc5 s m) (qc5 s k):=by
 unfold qah;simp only;cases qc5 s l with
 |none=>rfl
 |some v=>
  cases v<;>try rfl
  rename_i q;cases q
  ·cases qc5 s k<;>rfl
  ·cases qc5 s m<;>rfl
@[simp]theorem ev_alloc:qah C call ⟨d,.alloc t,ty,pos,af,g⟩ s=alV C.P s.H t:=by
 unfold qah qbc alV;simp only;cases qby C.P t with
 |none=>rfl
 |some z=>cases qcj C.P t with
  |none=>rfl
  |some n=>simp only[jc];cases Nat.beq z.cells.length n<;>rfl
@[simp]theorem ev_box:qah C call ⟨d,.box t l,ty,pos,af,g⟩ s=boxV s.H (qc5 s l):=by
 unfold qah qbc boxV;simp only;cases qc5 s l with
 |none=>rfl
 |some v=>simp only[jc];cases allSingle v.cells<;>rfl
@[simp]theorem ev_bs{ps:Array (Nat × Operand)}:qah C call ⟨d,.buildSlice t n ps,ty,pos,af,g⟩ s=bsV C.P s.H d t n (qi1 s ps.toList):=by
 unfold qah qbc;simp only;cases qi1 s ps.toList with
 |none=>rfl
 |some q=>simp only[jc,bsV_some];cases sliceParts C.P t n q<;>rfl
@[simp]theorem ev_mm:qah C call ⟨d,.makeMap t none,ty,pos,af,g⟩ s=some (.map s.H.n,s.H.new (.map [])):=rfl
@[simp]theorem ev_bld{ps:Array (Nat × Operand)}:qah C call ⟨d,.build t ps,ty,pos,af,g⟩ s=vH s.H (bldV C.P t (qi1 s ps.toList)):=by
 unfold qah;simp only;cases qi1 s ps.toList with
 |none=>rfl
 |some q=>simp only[jc,zcl];cases qe6 C.P t q<;>rfl
@[simp]theorem ev_load:qah C call ⟨d,.load t l,ty,pos,af,g⟩ s=vH s.H (b1 (qb2 C.P s.H t) (qc5 s l)):=by
 unfold qah;simp only;cases qc5 s l with
 |none=>rfl
 |some v=>simp only[jc,zcn];cases qb2 C.P s.H t v<;>rfl
@[simp]theorem ev_store:qah C call ⟨d,.store t l m,ty,pos,af,g⟩ s=stV (b2 (writeVar C.P s.H t) (qc5 s l) (qc5 s m)):=by
 unfold qah;simp only;cases qc5 s l with
 |none=>rfl
 |some v=>cases qc5 s m with
  |none=>rfl
  |some v2=>simp only[jc,qsi];cases writeVar C.P s.H t v v2<;>rfl
@[simp]theorem ev_nc:qah C call ⟨d,.nilCheck l,ty,pos,af,g⟩ s=ncV s.H (qc5 s l):=by
 unfold qah;simp only;cases qc5 s l with
 |none=>rfl
 | some v => cases v <;> try rfl
             rename_i fn _ _;cases fn<;>rfl
@[simp]theorem ev_bin{op:BinOp} {e:TypeId}:qah C call ⟨d,.binOp op t l m e,ty,pos,af,g⟩ s=vH s.H (b2 (qex C.P op t) (qc5 s l) (qc5 s m)):=by
 unfold qah;simp only;cases qc5 s l with
 |none=>rfl
 |some v=>cases qc5 s m with
  |none=>rfl
  |some v2=>simp only[jc,qsi];cases qex C.P op t v v2<;>rfl
@[simp]theorem ev_un{op:UnOp}:qah C call ⟨d,.unOp op t l,ty,pos,af,g⟩ s=vH s.H (b1 (unA op) (qc5 s l)):=by
 unfold qah;simp only;cases qc5 s l with
 |none=>rfl
 |some v=>simp only[jc,zcn];cases unA op v<;>rfl
@[simp]theorem ev_conv:qah C call ⟨d,.convert t u l,ty,pos,af,g⟩ s=b1 (zca C.P s.H t u) (qc5 s l):=by unfold qah;simp only;cases qc5 s l<;>rfl
@[simp]theorem ev_mf{fn:Go.Fn} {p q:Array Operand}:qah C call ⟨d,.makeFunc fn p q,ty,pos,af,g⟩ s=mkF fn s.H (qfy s p.toList) (qfy s q.toList):=by unfold qah;simp only;cases qfy s p.toList<;>cases qfy s q.toList<;>rfl
@[simp]theorem ev_ms:qah C call ⟨d,.makeSlice t l m,ty,pos,af,g⟩ s=b2 (qic C.P s.H t) (qc5 s l) (qc5 s m):=by
 unfold qah qbc qic;simp only;cases qc5 s l with
 |none=>rfl
 |some x=>cases qc5 s m with
  |none=>rfl
  |some y=>rfl
@[simp]theorem ev_slice{lo hi mx:Option Operand}:qah C call ⟨d,.slice t l lo hi mx,ty,pos,af,g⟩ s=vH s.H (slV C.P s.H t (qc5 s l) (qhd s lo) (qhd s hi) (qhd s mx)):=by
 unfold qah;simp only;cases qc5 s l with
 |none=>rfl
 |some v=>cases qhd s lo with
  |none=>rfl
  |some p=>cases qhd s hi with
   |none=>rfl
   |some q=>cases qhd s mx with
    |none=>rfl
    |some r=>simp only[jc,slV_some];cases qcq C.P s.H t v p q r<;>rfl
@[simp]theorem ev_range:qah C call ⟨d,.range t l,ty,pos,af,g⟩ s=rgV s.H (C.P.underlying t) (qc5 s l):=by
 unfold qah;simp only;cases qc5 s l with
 |none=>cases C.P.underlying t with
  |none=>rfl
  |some d=>cases d<;>rfl
 |some x=>cases C.P.underlying t with
  |none=>rfl
  |some d=>cases d<;>cases x<;>rfl
@[simp]theorem ev_next{isS:Bool}:qah C call ⟨d,.next l isS,ty,pos,af,g⟩ s=nxV s.H isS (qc5 s l):=by
 unfold qah;simp only;cases qc5 s l with
 |none=>rfl
 |some x=>cases x<;>cases isS<;>first|rfl|(rename_i b o;cases o<;>rfl)
@[simp]theorem ev_fa:qah C call ⟨d,.fieldAddr t l i,ty,pos,af,g⟩ s=vH s.H (faV C.P t i (qc5 s l)):=by
 unfold qah;simp only;cases qc5 s l with
 |none=>rfl
 |some v=>simp only[jc,faV_some];cases qb1 C.P t v i<;>rfl
@[simp]theorem ev_fd:qah C call ⟨d,.field t l i,ty,pos,af,g⟩ s=vH s.H (fdV C.P t i (qc5 s l)):=by
 unfold qah;simp only;cases qc5 s l with
 |none=>rfl
 |some v=>simp only[jc,fdV_some];cases qbu C.P t v i<;>rfl
@[simp]theorem ev_ia:qah C call ⟨d,.indexAddr t l m,ty,pos,af,g⟩ s=vH s.H (b2 (qaq C.P t) (qc5 s l) (qc5 s m)):=by
 unfold qah;simp only;cases qc5 s l with
 |none=>rfl
 |some v=>cases qc5 s m with
  |none=>rfl
  |some v2=>simp only[jc,qsi];cases qaq C.P t v v2<;>rfl
@[simp]theorem ev_ix:qah C call ⟨d,.index t l m,ty,pos,af,g⟩ s=vH s.H (b2 (qov C.P t) (qc5 s l) (qc5 s m)):=by
 unfold qah;simp only;cases qc5 s l with
 |none=>rfl
 |some v=>cases qc5 s m with
  |none=>rfl
  |some v2=>simp only[jc,qsi];cases qov C.P t v v2<;>rfl
@[simp]theorem ev_lu{ok:Bool}:qah C call ⟨d,.lookup t l m ok,ty,pos,af,g⟩ s=vH s.H (luV C.P s.H t ok (qc5 s l) (qc5 s m)):=by
 unfold qah;simp only;cases qc5 s l with
 |none=>rfl
 |some v=>cases qc5 s m with
  |none=>rfl
  |some v2=>simp only[jc,luV_some];cases qj9 C.P s.H t v v2 ok<;>rfl
@[simp]theorem ev_mu:qah C call ⟨d,.mapUpdate t l m k,ty,pos,af,g⟩ s=stV (b3 (qj8 C.P s.H t) (qc5 s l) (qc5 s m) (qc5 s k)):=by
 unfold qah;simp only;cases qc5 s l with
 |none=>rfl
 |some v=>cases qc5 s m with
  |none=>rfl
  |some v2=>cases qc5 s k with
   |none=>rfl
   |some v3=>simp only[jc,zcm];cases qj8 C.P s.H t v v2 v3<;>rfl
@[simp]theorem ev_in:qah C call ⟨d,.insert t l m k,ty,pos,af,g⟩ s=stV (b3 (qj8 C.P s.H t) (qc5 s l) (qc5 s m) (qc5 s k)):=by
 unfold qah;simp only;cases qc5 s l with
 |none=>rfl
 |some v=>cases qc5 s m with
  |none=>rfl
  |some v2=>cases qc5 s k with
   |none=>rfl
   |some v3=>simp only[jc,zcm];cases qj8 C.P s.H t v v2 v3<;>rfl
@[simp]theorem ev_ex:qah C call ⟨d,.extract l i,ty,pos,af,g⟩ s=vH s.H (exV i (qc5 s l)):=by
 unfold qah;simp only;cases qc5 s l with
 |none=>rfl
 | some v => cases v <;> try rfl
             rename_i vs;simp only[jc,exV_some];cases qcb vs i<;>rfl
@[simp]theorem ev_blt{bu:Builtin} {args:Array Operand} {ts:Array TypeId}:qah C call ⟨d,.call ⟨.builtin bu,args,ts⟩,ty,pos,af,g⟩ s=bltV C.P s.H bu ts (qfy s args.toList):=by unfold qah;simp only;cases qfy s args.toList<;>rfl
@[simp]theorem ev_cl{args:Array Operand} {ts:Array TypeId}:qah C call ⟨d,.call ⟨.value fo,args,ts⟩,ty,pos,af,g⟩ s=clV call s.H (qc5 s fo) (qfy s args.toList):=by
 unfold qah;simp only;cases qfy s args.toList with
 |none=>cases qc5 s fo with
  |none=>rfl
  | some v => cases v <;> try rfl
              rename_i fn _ _;cases fn<;>rfl
 |some q=>cases qc5 s fo with
  |none=>rfl
  | some v => cases v <;> try rfl
              rename_i fn _ _;cases fn<;>rfl
@[simp]theorem blt_len:qcl P H .len #[t] [x]=lnV H (qf3 P H t x):=by simp only[qcl,List.getElem?_toArray,List.getElem?_cons_zero,jc];cases qf3 P H t x<;>rfl
@[simp]theorem blt_append:qcl P H .append #[t,u] [x,y]=apV P H x y (P.underlying t) (P.underlying u):=by
 simp only[qcl,List.getElem?_toArray,List.getElem?_cons_zero,List.getElem?_cons_succ,jc];cases P.underlying t with
 |none=>rfl
 |some dd=>
  cases dd<;>try (cases P.underlying u<;>rfl)
  simp only[jc];cases P.underlying u with
  |none=>rfl
  |some ud=>cases ud<;>rfl
@[simp]theorem blt_clear:qcl P H .clear #[t] [x]=clrV (qql P H t x):=by simp only[qcl,List.getElem?_toArray,List.getElem?_cons_zero,jc];cases qql P H t x<;>rfl
@[simp]theorem blt_delete:qcl P H .delete #[t,u] [x,y]=clrV (qmj P H t x y):=by simp only[qcl,List.getElem?_toArray,List.getElem?_cons_zero,jc];cases qmj P H t x y<;>rfl
@[simp]theorem blt_max{ts:Array TypeId} {r:List AV}:qcl P H .max ts (x::r)=vH H (qkv false x r):=by show (qkv false x r).bind _=_;cases qkv false x r<;>rfl
@[simp]theorem blt_min{ts:Array TypeId} {r:List AV}:qcl P H .min ts (x::r)=vH H (qkv true x r):=by show (qkv true x r).bind _=_;cases qkv true x r<;>rfl
end
mutual
def qa2:AV->Bool
 |.ptr _ _=>false
 |.slc _ _ _ _=>false
 |.map _=>false
 |.yld _=>false
 |.func _ a c=>qa6 a && qa6 c
 |.agg cs=>qa6 cs
 |.tup cs=>qa6 cs
 |_=>true
def qa6:List AV->Bool
 |[]=>true
 |a::r=>qa2 a && qa6 r
end
mutual
def qg8:AV->Bool
 |.bool _ | .int _ _ | .str _ | .nilP | .nilS | .zslc | .nilM | .nilF=>true
 |.fslc _ es=>match es with
  |[]=>true
  |_::_=>false
 |.agg cs=>qj4 cs
 |.tup cs=>qj4 cs
 |_=>false
def qj4:List AV->Bool
 |[]=>true
 |a::r=>qg8 a && qj4 r
end
theorem qff:∀{l:List AV},qa6 l=true->∀i (h:i < l.length),qa2 l[i]=true
 |[],_,i,hi=>absurd hi (j3 i)
 |a::r,h,i,hi=>by
  simp only[qa6,jf]at h;cases i with
  |zero=>exact h.1
  |succ i=>exact qff h.2 i (by simpa using hi)
theorem qil:∀{l:List AV},qj4 l=true->∀i (h:i < l.length),qg8 l[i]=true
 |[],_,i,hi=>absurd hi (j3 i)
 |a::r,h,i,hi=>by
  simp only[qj4,jf]at h;cases i with
  |zero=>exact h.1
  |succ i=>exact qil h.2 i (by simpa using hi)
@[simp]theorem qdr{a b:List AV}:qa6 (a++b)=(qa6 a && qa6 b):=by
 induction a with
 |nil=>simp[qa6]
 |cons x r ih=>simp[qa6,ih,Bool.and_assoc]
theorem qwq{l:List AV} (h:∀v,v∈l->qa2 v=true):qa6 l=true:=by
 induction l with
 |nil=>rfl
 |cons x r ih=>simp only[qa6,jf];exact⟨h x (by simp),ih fun v hv=>h v (by simp[hv])⟩
theorem VR.pure{ρ:Place} {v:AV} {x:Value} (r:VR ρ v x):qa2 v=true->VR ρ.bare v x:=by
 induction r with
 |undef x=>exact fun _=>.undef x
 |bool b=>exact fun _=>.bool b
 |int k n=>exact fun _=>.int k n
 |str s=>exact fun _=>.str s
 |nilP=>exact fun _=>.nilP
 |ptr b o l e=>exact fun h=>by simp[qa2]at h
 |fptr cs o cb off vs hB hc hv ih=>exact fun _=>.fptr cs o cb off vs hB hc hv
 |nilS=>exact fun _=>.nilS
 |eslc a c=>exact fun _=>.eslc a c
 |zslcN=>exact fun _=>.zslcN
 |zslcE a=>exact fun _=>.zslcE a
 |slcE b o len c l e hc=>exact fun h=>by simp[qa2]at h
 |slcR b o len sz c l e hc hf=>exact fun h=>by simp[qa2]at h
 |fslc sz es cb off cap vs hB hcap hz hc hv ih=>exact fun _=>.fslc sz es cb off cap vs hB hcap hz hc hv
 |xslc sz es cb off vs hB hz hc hv ih=>exact fun _=>.xslc sz es cb off vs hB hz hc hv
 |fnil sz=>exact fun _=>.fnil sz
 |fnone sz a c=>exact fun _=>.fnone sz a c
 |nilM=>exact fun _=>.nilM
 |map b l e=>exact fun h=>by simp[qa2]at h
 |nilF=>exact fun _=>.nilF
 |func fn a c a' c' ha hc hav hcv iha ihc=>intro h;simp only[qa2,jf]at h;exact .func fn a c a' c' ha hc (fun i h1 h2=>iha i h1 h2 (qff h.1 i h1)) (fun i h1 h2=>ihc i h1 h2 (qff h.2 i h1))
 |agg cs vs hl hv ih=>exact fun h=>.agg cs vs hl fun i h1 h2=>ih i h1 h2 (qff (by simpa[qa2]using h) i h1)
 |tup cs vs hl hv ih=>exact fun h=>.tup cs vs hl fun i h1 h2=>ih i h1 h2 (qff (by simpa[qa2]using h) i h1)
 |yld b l e=>exact fun h=>by simp[qa2]at h
 |val v e=>exact fun _=>.val v e
theorem VR.scalar{ρ ρ':Place} {v:AV} {x:Value} (r:VR ρ v x):qg8 v=true->VR ρ' v x:=by
 induction r with
 |bool b=>exact fun _=>.bool b
 |int k n=>exact fun _=>.int k n
 |str s=>exact fun _=>.str s
 |nilP=>exact fun _=>.nilP
 |nilS=>exact fun _=>.nilS
 |zslcN=>exact fun _=>.zslcN
 |zslcE a=>exact fun _=>.zslcE a
 |nilM=>exact fun _=>.nilM
 |nilF=>exact fun _=>.nilF
 |fnil sz=>exact fun _=>.fnil sz
 |fnone sz a c=>exact fun _=>.fnone sz a c
 |fslc sz es cb off cap vs hB hcap hz hc hv ih=>
  cases es with
  |nil=>exact fun _=>.fnone sz _ cap
  |cons _ _=>exact fun h=>by simp[qg8]at h
 |agg cs vs hl hv ih=>exact fun h=>.agg cs vs hl fun i h1 h2=>ih i h1 h2 (qil (by simpa[qg8]using h) i h1)
 |tup cs vs hl hv ih=>exact fun h=>.tup cs vs hl fun i h1 h2=>ih i h1 h2 (qil (by simpa[qg8]using h) i h1)
 |_=>exact fun h=>by simp[qg8]at h
theorem VRs.pure{ρ:Place} {vs:List AV} {xs:List Value} (r:VRs ρ vs xs) (h:qa6 vs=true):VRs ρ.bare vs xs:=⟨r.1,fun i h1 h2=>(r.2 i h1 h2).pure (qff h i h1)⟩
def qaw(b:Nat):List (Nat × Nat)->Option Nat
 |[]=>none
 |x::r=>if x.1=b then some x.2 else qaw b r
def qdt(b:Nat):List (Nat × Nat)->Option Nat
 |[]=>none
 |x::r=>if x.2=b then some x.1 else qdt b r
def qcp(b:Nat):List (Nat × List AV)->Option (List AV)
 |[]=>none
 |x::r=>if x.1=b then some x.2 else qcp b r
mutual
def qas(σ:List (Nat × Nat)) (Φ:List (Nat × List AV)):AV->AV->Prop
 |.ptr b o,v'=>match v' with
  |.undef=>True
  |.ptr b' o'=>qaw b σ=some b'/\o'=o
  |.fptr cs o'=>qcp b Φ=some cs/\o'=o
  |_=>False
 |.slc b o len cap,v'=>match v' with
  |.undef=>True
  |.slc b' o' len' cap'=>qaw b σ=some b'/\o'=o/\len'=len/\cap'=cap
  |.fslc sz es=>(∃cs,qcp b Φ=some cs/\qfe o (len * sz) cs=some (qaa es)/\es.length=len/\qgm sz es=true)\/(len=0/\es=[])
  |.zslc=>len=0/\cap=.ex 0
  |_=>False
 |.map b,v'=>match v' with
  |.undef=>True
  |.map b'=>qaw b σ=some b'
  |_=>False
 |.nilP,v'=>match v' with
  |.undef=>True
  |.nilP=>True
  |_=>False
 |.yld b,v'=>match v' with
  |.undef=>True
  |.yld b'=>qaw b σ=some b'
  |_=>False
 |.nilS,v'=>match v' with
  |.undef=>True
  |.nilS=>True
  |.zslc=>True
  |.fslc _ es=>es=[]
  |_=>False
 |.zslc,v'=>match v' with
  |.undef=>True
  |.zslc=>True
  |.fslc _ es=>es=[]
  |_=>False
 |.eslc,v'=>match v' with
  |.undef=>True
  |.eslc=>True
  |.fslc _ es=>es=[]
  |_=>False
 |.func fn a c,v'=>match v' with
  |.undef=>True
  |.func fn' a' c'=>(fn'=fn/\qb8 σ Φ a a'/\qb8 σ Φ c c')\/(fn'=fn/\a'=a/\c'=c/\qa6 a=true/\qa6 c=true)
  |_=>False
 |.agg cs,v'=>match v' with
  |.undef=>True
  |.agg cs'=>qb8 σ Φ cs cs'\/(cs'=cs/\qa6 cs=true)
  |_=>False
 |.tup cs,v'=>match v' with
  |.undef=>True
  |.tup cs'=>qb8 σ Φ cs cs'\/(cs'=cs/\qa6 cs=true)
  |_=>False
 |v,v'=>v'=.undef\/(v'=v/\qa2 v=true)
def qb8(σ:List (Nat × Nat)) (Φ:List (Nat × List AV)):List AV->List AV->Prop
 |[],l'=>l'=[]
 |a::r,l'=>match l' with
  |[]=>False
  |a'::r'=>qas σ Φ a a'/\qb8 σ Φ r r'
end
theorem qd7{σ:List (Nat × Nat)} {Φ:List (Nat × List AV)}:∀{l l':List AV},qb8 σ Φ l l'->l'.length=l.length/\∀i (h:i < l.length) (h':i < l'.length),qas σ Φ l[i] l'[i]
 |[],l',h=>by simp only[qb8]at h;subst h;exact⟨rfl,fun i h=>absurd h (j3 i)⟩
 |a::r,[],h=>by simp[qb8]at h
 |a::r,a'::r',h=>by
  simp only[qb8]at h;obtain⟨h1,h2⟩:=qd7 h.2;refine⟨by simp[h1],fun i a b=>?_⟩;cases i with
  |zero=>exact h.1
  |succ i=>exact h2 i (by simpa using a) (by simpa using b)
theorem qbo{σ:List (Nat × Nat)} {Φ:List (Nat × List AV)} {v:AV} (h:qa2 v=true):qas σ Φ v v:=by cases v<;>simp_all [qas,qa2]
theorem qau{σ:List (Nat × Nat)} {Φ:List (Nat × List AV)}:∀{l:List AV},qa6 l=true->qb8 σ Φ l l
 |[],_=>by simp[qb8]
 |a::r,h=>by simp only[qa6,jf]at h;simp only[qb8];exact⟨qbo h.1,qau h.2⟩
theorem qdx{l:List AV} {i:Nat} (h:i < l.length):SizeOf.sizeOf l[i] < SizeOf.sizeOf l:=List.sizeOf_lt_of_mem (jA h)
theorem qt2{v:AV} {j:Nat} (h:j < v.cells.length):SizeOf.sizeOf v.cells[j]<=SizeOf.sizeOf v:=by
 cases v
 case agg cs=>
  have h':j < cs.length:=h;have:=qdx h';simp[AV.cells];omega
 all_goals (have:j=0:=by simp[AV.cells]at h;omega);subst this;exact ja _
theorem zbr{sz:Nat} {es:List AV} (hz:∀i (h:i < es.length),es[i].cells.length=sz) (i j:Nat) (hi:i < es.length) (hj:j < es[i].cells.length) :
  ∃h:i * sz+j < (qaa es).length,(qaa es)[i * sz+j]=es[i].cells[j]:=by
 induction es generalizing i with
 |nil=>exact absurd hi (j3 i)
 |cons e r ih=>
  have hz0:e.cells.length=sz:=hz 0 (by simp);cases i with
  |zero=>have hj':j < e.cells.length:=hj;refine⟨by simp only[qaa,js];omega,?_⟩;simp only[qaa,Nat.zero_mul,jS,jH];exact yb hj'
  |succ i=>obtain⟨h1,h2⟩:=ih (fun k hk=>hz (k+1) (by simpa using hk)) i (by simpa using hi) hj;have e1:(i+1) * sz+j=e.cells.length+(i * sz+j):=(by rw[Nat.add_mul,hz0];omega);refine⟨by simp only[qaa,js];omega,?_⟩;simp only[qaa,yZ,e1];rw[jB (by omega)];simpa using h2
section
variable {σ:List (Nat × Nat)} {Φ:List (Nat × List AV)} {ρ ρ':Place} {H:Heap} {w:World}
structure Fits (σ:List (Nat × Nat)) (Φ:List (Nat × List AV)) (ρ ρ':Place) (H:Heap) (w:World):Prop where
 le:ρ.bare.le ρ'
 now:∀k,ρ'.B k->w.heap[k]? = ρ'.W.heap[k]?
 ren:∀b b',qaw b σ=some b'->∀l,ρ b=some l->ρ' b'=some l
 frz:∀b cs',qcp b Φ=some cs'->∃cs l,H.get b=some (.cells cs)/\ρ b=some l/\ρ'.B l.cb/\qb8 σ Φ cs cs'/\qa6 cs'=true
theorem Fits.slc(f:Fits σ Φ ρ ρ' H w) (sm:Sim ρ H w) (n:Nat) (ih:∀{v v':AV} {x:Value},SizeOf.sizeOf v'<=n->VR ρ v x->qas σ Φ v v'->VR ρ' v' x) {b o len c sz:Nat} {es:List AV} {l:Loc} (hn:SizeOf.sizeOf (AV.fslc sz es)<=n+1) (hl:ρ b=some l) (hc:len<=c)
  (hf:∃cs,qcp b Φ=some cs/\qfe o (len * sz) cs=some (qaa es)/\es.length=len/\qgm sz es=true):VR ρ' (.fslc sz es) (.slice (some ⟨l.cb,l.off+o,none⟩) len c):=by
 obtain⟨cs',h1,h2,h3,h4⟩:=hf;obtain⟨cs,l',g1,g2,g3,g4,g5⟩:=f.frz _ _ h1;rw[hl]at g2;cases g2;obtain⟨l',hl',_,hlt,hr⟩:=sm.block g1;rw[hl]at hl';cases hl';obtain⟨k1,k2⟩:=qd7 g4;have hz:=qjl h4;obtain⟨e1,e2⟩:=qkz h2;subst h3;have key:∀i (hi:i < es.length) j (hj:j < es[i].cells.length),∃(q:o+(i * sz+j) < cs'.length),cs'[o+(i * sz+j)]=es[i].cells[j]:=by
  intro i hi j hj;obtain⟨p1,p2⟩:=zbr hz i j hi hj;have e3:(qaa es)[i * sz+j]? = some es[i].cells[j]:=by rw[List.getElem?_eq_getElem p1,p2]
  rw[e2,List.getElem?_take]at e3;split at e3
  ·rw[List.getElem?_drop]at e3;obtain⟨q1,q2⟩:=List.getElem?_eq_some_iff.1 e3;exact⟨q1,q2⟩
  ·cases e3
 refine .fslc sz es l.cb (l.off+o) c (fun i j=>(ρ'.W.cell? ⟨l.cb,l.off+o+i * sz+j,none⟩).getD undef) g3 hc hz (fun i hi j hj=>?_) fun i hi j hj=>?_
 ·obtain⟨q1,q2⟩:=key i hi j (by rw[hz i hi];exact hj);obtain⟨y,hy,hyv⟩:=hr.2.2 (o+(i * sz+j)) (by omega);have hw:ρ'.W.cell? ⟨l.cb,l.off+o+i * sz+j,none⟩=some y:=by rw[<- hy];simp only[World.cell?,f.now _ g3];congr 1;simp only[<- Nat.add_assoc]
  rw[hw];rfl
 ·obtain⟨q1,q2⟩:=key i hi j hj;obtain⟨y,hy,hyv⟩:=hr.2.2 (o+(i * sz+j)) (by omega);have hw:ρ'.W.cell? ⟨l.cb,l.off+o+i * sz+j,none⟩=some y:=by rw[<- hy];simp only[World.cell?,f.now _ g3];congr 1;simp only[<- Nat.add_assoc]
  rw[hw];have hs:=qt2 hj;have hs2:=qdx hi;have:=ih (v':=es[i].cells[j]) (by simp at hn;omega) hyv (by rw[<- q2];exact k2 _ (by omega) q1);refine this.pure ?_;rw[<- q2];exact qff g5 _ q1
theorem Fits.run(f:Fits σ Φ ρ ρ' H w) (sm:Sim ρ H w):∀(n:Nat) {v v':AV} {x:Value},SizeOf.sizeOf v'<=n->VR ρ v x->qas σ Φ v v'->VR ρ' v' x
 |0,v,v',x,hn,_,_=>by cases v'<;>simp at hn
 |n+1,v,v',x,hn,hv,hf=>by
  have pure_:∀{u:AV},VR ρ u x->qa2 u=true->VR ρ' u x:=fun h1 h2=>(h1.pure h2).mono f.le;by_cases hu:v'=.undef
  ·subst hu;exact .undef x
  cases hv with
  |ptr b o l hl=>
   cases v'<;>simp only[qas]at hf<;>try exact hf.elim
   ·exact absurd rfl hu
   ·obtain⟨h1,rfl⟩:=hf;exact .ptr _ _ l (f.ren _ _ h1 l hl)
   ·rename_i cs' o';obtain⟨h1,rfl⟩:=hf;obtain⟨cs,l',g1,g2,g3,g4,g5⟩:=f.frz _ _ h1;rw[hl]at g2;cases g2;obtain⟨l',hl',_,hlt,hr⟩:=sm.block g1;rw[hl]at hl';cases hl';obtain⟨k1,k2⟩:=qd7 g4;refine .fptr cs' o' l.cb l.off (fun i=>(ρ'.W.cell? ⟨l.cb,l.off+i,none⟩).getD undef) g3 (fun i hi=>?_) fun i hi=>?_;all_goals
     obtain⟨y,hy,hyv⟩:=hr.2.2 i (by omega);have hw:ρ'.W.cell? ⟨l.cb,l.off+i,none⟩=some y:=(by rw[<- hy];simp only[World.cell?,f.now _ g3]);rw[hw]
    ·rfl
    ·have hs:=qdx hi;have:=Fits.run f sm n (v':=cs'[i]) (by simp at hn;omega) hyv (k2 i (by omega) hi);exact this.pure (qff g5 i hi)
  |slcE b o len c l hl hc=>
   cases v'<;>simp only[qas]at hf<;>try exact hf.elim
   ·exact absurd rfl hu
   ·obtain⟨rfl,h2⟩:=hf;simp only[Cap.ex.injEq]at h2;subst h2;exact .zslcE _
   ·obtain⟨h1,rfl,rfl,rfl⟩:=hf;exact .slcE _ _ _ c l (f.ren _ _ h1 l hl) hc
   ·rcases hf with hf|⟨rfl,rfl⟩
    ·exact Fits.slc f sm n (Fits.run f sm n) hn hl hc hf
    ·exact .fnone _ _ _
  |slcR b o len sz c l hl hc hfin=>
   cases v'<;>simp only[qas]at hf<;>try exact hf.elim
   ·exact absurd rfl hu
   ·exact absurd hf.2 (by simp)
   ·obtain⟨h1,rfl,rfl,rfl⟩:=hf;exact .slcR _ _ _ _ c l (f.ren _ _ h1 l hl) hc hfin
   ·rcases hf with hf|⟨rfl,rfl⟩
    ·exact Fits.slc f sm n (Fits.run f sm n) hn hl hc hf
    ·exact .fnone _ _ _
  |zslcN=>
   cases v'<;>simp only[qas]at hf<;>try exact hf.elim
   ·exact absurd rfl hu
   ·exact .zslcN
   ·subst hf;exact .fnil _
  |zslcE a=>
   cases v'<;>simp only[qas]at hf<;>try exact hf.elim
   ·exact absurd rfl hu
   ·exact .zslcE a
   ·subst hf;exact .fnone _ _ _
  |map b l hl=>
   cases v'<;>simp only[qas]at hf<;>try exact hf.elim
   ·exact absurd rfl hu
   ·exact .map _ l (f.ren _ _ hf l hl)
  |nilP=>
   cases v'<;>simp only[qas]at hf<;>try exact hf.elim
   ·exact absurd rfl hu
   ·exact .nilP
  |yld b l hl=>
   cases v'<;>simp only[qas]at hf<;>try exact hf.elim
   ·exact absurd rfl hu
   ·exact .yld _ l (f.ren _ _ hf l hl)
  |nilS=>
   cases v'<;>simp only[qas]at hf<;>try exact hf.elim
   ·exact absurd rfl hu
   ·exact .nilS
   ·exact .zslcN
   ·subst hf;exact .fnil _
  |eslc a c=>
   cases v'<;>simp only[qas]at hf<;>try exact hf.elim
   ·exact absurd rfl hu
   ·exact .eslc _ _
   ·subst hf;exact .fnone _ _ _
  |func fn a c a' c' ha hc hav hcv=>
   cases v'<;>simp only[qas]at hf<;>try exact hf.elim
   ·exact absurd rfl hu
   ·rename_i fn' b d;rcases hf with⟨rfl,h1,h2⟩|⟨rfl,rfl,rfl,h1,h2⟩
    ·obtain⟨k1,k2⟩:=qd7 h1;obtain⟨m1,m2⟩:=qd7 h2;refine .func _ b d a' c' (by omega) (by omega) (fun i g g'=>?_) (fun i g g'=>?_)
     ·have:=qdx g;exact Fits.run f sm n (by simp at hn;omega) (hav i (by omega) g') (k2 i (by omega) g)
     ·have:=qdx g;exact Fits.run f sm n (by simp at hn;omega) (hcv i (by omega) g') (m2 i (by omega) g)
    ·exact pure_ (.func _ _ _ a' c' ha hc hav hcv) (by simp[qa2,h1,h2])
  |agg cs vs hl hv=>
   cases v'<;>simp only[qas]at hf<;>try exact hf.elim
   ·exact absurd rfl hu
   ·rename_i ds;rcases hf with h1|⟨rfl,h1⟩
    ·obtain⟨k1,k2⟩:=qd7 h1;refine .agg ds vs (by omega) fun i g g'=>?_;have:=qdx g;exact Fits.run f sm n (by simp at hn;omega) (hv i (by omega) g') (k2 i (by omega) g)
    ·exact pure_ (.agg _ vs hl hv) (by simp[qa2,h1])
  |tup cs vs hl hv=>
   cases v'<;>simp only[qas]at hf<;>try exact hf.elim
   ·exact absurd rfl hu
   ·rename_i ds;rcases hf with h1|⟨rfl,h1⟩
    ·obtain⟨k1,k2⟩:=qd7 h1;refine .tup ds vs (by omega) fun i g g'=>?_;have:=qdx g;exact Fits.run f sm n (by simp at hn;omega) (hv i (by omega) g') (k2 i (by omega) g)
    ·exact pure_ (.tup _ vs hl hv) (by simp[qa2,h1])
  |_=>
   simp only[qas]at hf;rcases hf with hf|⟨rfl,hp⟩
   ·exact absurd hf hu
   ·exact pure_ (by constructor<;>assumption) hp
end
structure Base where
 n:Nat
 FP:Nat->Prop
 ρ:Place
 w:World
 ds:List Deferred
structure Since (b:Base) (ρ:Place) (H:Heap) (w:World):Prop where
 fz:∀k,b.ρ.B k->ρ.B k/\ρ.W.heap[k]? = b.ρ.W.heap[k]?
 os:ρ.W.os=b.ρ.W.os
 tape:ρ.W.tape=b.ρ.W.tape
 output:ρ.W.output=b.ρ.W.output
 size:b.w.heap.size<=w.heap.size
 keeps:∀k,k < b.w.heap.size->¬ b.FP k->w.heap[k]? = b.w.heap[k]?
 rows:∀e,e∈H.ents->∀l,ρ e.1=some l->b.FP l.cb\/b.w.heap.size<=l.cb
 cold:∀k,ρ.B k->b.ρ.B k\/b.FP k\/b.w.heap.size<=k
 low:∀k,k < b.n->ρ k=b.ρ k
 num:b.n<=H.n
theorem Since.step{b:Base} {ρ ρ':Place} {H H':Heap} {w w':World} (h:Since b ρ H w) (t:Step ρ H w ρ' H' w'):Since b ρ' H' w' where
 fz:=fun k hk=>let ⟨h1,h2⟩:=h.fz k hk;let ⟨t1,t2⟩:=t.le.fz k h1;⟨t1,t2.trans h2⟩
 os:=t.le.os.trans h.os
 tape:=t.le.tape.trans h.tape
 output:=t.le.output.trans h.output
 size:=j6 h.size t.size
 keeps:=fun k hk hf=>by
  rw[t.keeps k (jI hk h.size) (fun e he l hl hlk=>?_),h.keeps k hk hf];rcases h.rows e he l hl with h1|h1
  ·exact hf (hlk ▸ h1)
  ·omega
 rows:=fun e he l hl=>by
  rcases t.rows e he l hl with⟨e0,he0,l0,hl0,hcb⟩|hge
  ·rw[<- hcb];exact h.rows e0 he0 l0 hl0
  ·exact .inr (j6 h.size hge)
 cold:=fun k hk=>by
  rcases t.cold k hk with h1|⟨e,he,l,hl,hlk⟩|hge
  ·exact h.cold k h1
  ·rw[<- hlk];exact .inr (h.rows e he l hl)
  ·exact .inr (.inr (j6 h.size hge))
 low:=fun k hk=>(t.low k (jI hk h.num)).trans (h.low k hk)
 num:=j6 h.num t.num
def At(b:Base) (s:St) (a:Act) (w:World):Prop:=∃ρ,Since b ρ s.H w/\Sim ρ s.H w/\EnvR ρ s a/\Dfr b.w.heap.size ρ s.H w a.defers b.ds
theorem qtm{b b':Nat}:∀{σ:List (Nat × Nat)},qaw b σ=some b'->(b,b')∈σ
 |[],h=>by simp[qaw]at h
 |x::r,h=>by
  unfold qaw at h;split at h
  next hx=>simp only[sj]at h;subst hx;subst h;exact j8
  ·exact ji _ (qtm h)
theorem qol{b b':Nat}:∀{σ:List (Nat × Nat)},qdt b' σ=some b->(b,b')∈σ
 |[],h=>by simp[qdt]at h
 |x::r,h=>by
  unfold qdt at h;split at h
  next hx=>simp only[sj]at h;subst hx;subst h;exact j8
  ·exact ji _ (qol h)
theorem qri{b b':Nat}:∀{σ:List (Nat × Nat)},(σ.map (·.2)).Nodup->(b,b')∈σ->qdt b' σ=some b
 |[],_,h=>by cases h
 |x::r,hn,h=>by
  rw[List.map_cons,jp]at hn;unfold qdt;rcases jd.1 h with rfl|h
  ·simp
  ·have:x.2≠b':=fun hx=>hn.1 (jw.2 ⟨_,h,hx.symm⟩);rw[jm this];exact qri hn.2 h
theorem zah{b x y:Nat}:∀{σ:List (Nat × Nat)},(σ.map (·.1)).Nodup->(b,x)∈σ->(b,y)∈σ->x=y
 |[],_,h,_=>by cases h
 |z::r,hn,h,h'=>by
  rw[List.map_cons,jp]at hn;rcases jd.1 h with h1|h1<;>rcases jd.1 h' with h2|h2
  ·rw[<- h1]at h2;cases h2;rfl
  ·exact absurd (jw.2 ⟨_,h2,by rw[<- h1]⟩) hn.1
  ·exact absurd (jw.2 ⟨_,h1,by rw[<- h2]⟩) hn.1
  ·exact zah hn.2 h1 h2
theorem qon{b:Nat} {cs:List AV}:∀{Φ:List (Nat × List AV)},qcp b Φ=some cs->(b,cs)∈Φ
 |[],h=>by simp[qcp]at h
 |x::r,h=>by
  unfold qcp at h;split at h
  next hx=>simp only[sj]at h;subst hx;subst h;exact j8
  ·exact ji _ (qon h)
def qkw(σ:List (Nat × Nat)) (Φ:List (Nat × List AV)):Blk->Blk->Prop
 |.cells cs,.cells cs'=>qb8 σ Φ cs cs'
 |.map es,.map es'=>qb8 σ Φ (es.map (·.1)) (es'.map (·.1))/\qb8 σ Φ (es.map (·.2)) (es'.map (·.2))
 |.buf t fz cs,.buf t' fz' cs'=>t'=t/\fz<=fz'/\fz'<=cs'.length/\qb8 σ Φ cs cs'
 |.iter s p,.iter s' p'=>s'=s/\p'=p
 |.loop st pend ks vs ts sz ps a b,.loop st' pend' ks' vs' ts' sz' ps' a' b'=>st'=st/\pend'=pend/\ks'=ks/\qb8 σ Φ vs vs'/\ts'=[]/\sz'=sz/\ps'=ps/\a'=a/\b'=b
 |_,_=>False
structure FitH (n:Nat) (σ:List (Nat × Nat)) (Φ:List (Nat × List AV)) (H H':Heap):Prop where
 nd1:(σ.map (·.1)++Φ.map (·.1)).Nodup
 nd2:(σ.map (·.2)).Nodup
 nd3:(H'.ents.map (·.1)).Nodup
 lt:∀x,x∈σ->x.2 < H'.n
 idn:∀x,x∈σ->x.2 < n->x.1=x.2
 num:n<=H'.n
 src:∀e,e∈H'.ents->∃b k,(b,e.1)∈σ/\H.get b=some k/\qkw σ Φ k e.2
 frz:∀x,x∈Φ->∃cs,H.get x.1=some (.cells cs)/\qb8 σ Φ cs x.2/\qa6 x.2=true
theorem FitH.nothing{H:Heap}:FitH 0 [] [] H ⟨0,[[]]⟩ where
 nd1:=jK
 nd2:=jK
 nd3:=jK
 lt:=fun x h=>by cases h
 idn:=fun x h=>by cases h
 num:=ja _
 src:=fun e he=>by simp[Heap.ents]at he
 frz:=fun x h=>by cases h
section
variable {n:Nat} {σ:List (Nat × Nat)} {Φ:List (Nat × List AV)} {ρ:Place} {H H':Heap} {w:World}
def qbw(n:Nat) (σ:List (Nat × Nat)) (Φ:List (Nat × List AV)) (ρ:Place) (w:World) (hw:∀k,ρ.B k->w.heap[k]? = ρ.W.heap[k]?):Place:=
 ⟨fun b=>if b < n then ρ b else (qdt b σ).bind ρ.at_,w,fun k=>ρ.B k\/∃b cs l,(b,cs)∈Φ/\ρ b=some l/\l.cb=k,
  fun g hg=>⟨.inl (ρ.gl g hg).1,let ⟨m,hm⟩:=(ρ.gl g hg).2;⟨m,by rw[World.cell?,hw g (ρ.gl g hg).1];exact hm⟩⟩⟩
theorem FitH.fits(f:FitH n σ Φ H H') (sm:Sim ρ H w):Fits σ Φ ρ (qbw n σ Φ ρ w sm.below) H w where
 le:=⟨fun _ _ h=>by simp[Place.bare]at h,fun k hk=>⟨.inl hk,sm.below k hk⟩,sm.os,sm.tape,sm.output⟩
 now:=fun _ _=>rfl
 ren:=fun b b' h l hl=>by
  have hm:=qtm h;show (if b' < n then ρ b' else (qdt b' σ).bind ρ.at_)=some l;split
  next hlt=>have:=f.idn _ hm hlt;simp only at this;subst this;exact hl
  ·rw[qri f.nd2 hm];exact hl
 frz:=fun b cs' h=>by obtain⟨cs,h1,h2,h3⟩:=f.frz _ (qon h);obtain⟨l,hl,_⟩:=sm.block h1;exact⟨cs,l,h1,hl,.inr ⟨b,cs',l,qon h,hl,rfl⟩,h2,h3⟩
theorem qek{hw:∀k,ρ.B k->w.heap[k]? = ρ.W.heap[k]?} (f:FitH n σ Φ H H') {b b':Nat} (h:(b,b')∈σ):(qbw n σ Φ ρ w hw) b'=ρ b:=by
 show (if b' < n then ρ b' else (qdt b' σ).bind ρ.at_)=ρ b;split
 next hlt=>have:=f.idn _ h hlt;simp only at this;rw[this]
 ·rw[qri f.nd2 h];rfl
theorem qom{t:Nat}:∀{ks:List Nat} {vs vs':List AV} {v:AV},qb8 σ Φ vs vs'->qgl t ks vs'=some v->∃u,qgl t ks vs=some u/\qas σ Φ u v
 |[],_,_,_,_,h=>by simp[qe3,qjb]at h
 |k::ks,[],vs',v,hf,h=>by simp only[qb8]at hf;subst hf;simp[qe3,qjb]at h
 |k::ks,a::r,[],v,hf,h=>by simp[qb8]at hf
 |k::ks,a::r,a'::r',v,hf,h=>by
  simp only[qb8]at hf;rw[qe3]at h ⊢;simp only at h ⊢;split at h
  next hb=>simp only[sj]at h;subst h;exact⟨a,by simp[hb],hf.1⟩
  next hb=>obtain⟨u,h1,h2⟩:=qom hf.2 h;exact⟨u,by simp[hb,h1],h2⟩
theorem FitH.sim(f:FitH n σ Φ H H') (sm:Sim ρ H w) (hn:n<=H.n):Sim (qbw n σ Φ ρ w sm.below) H' w where
 base:=fun k hk=>by
  rcases hk with hk|⟨b,cs,l,h1,h2,rfl⟩
  ·exact sm.base k hk
  ·obtain⟨cs0,g1,_⟩:=f.frz _ h1;obtain⟨l',hl',_,hlt,_⟩:=sm.block g1;simp only at hl';rw[h2]at hl';cases hl';exact hlt
 below:=fun _ _=>rfl
 os:=rfl
 tape:=rfl
 output:=rfl
 dom:=fun b hb=>by
  show (if b < n then ρ b else (qdt b σ).bind ρ.at_)=none;have:=f.num;rw[jm (by omega)];cases h:qdt b σ with
  |none=>rfl
  |some c=>have:=f.lt _ (qol h);simp only at this;omega
 nodup:=f.nd3
 live:=fun e he=>by
  obtain⟨b,k,h1,h2,h3⟩:=f.src e he;obtain⟨l,g1,g2,g3,g4⟩:=sm.block h2;refine⟨l,by rw[qek f h1];exact g1,?_,g3,?_⟩
  ·rintro(h|⟨b2,cs,l2,m1,m2,m3⟩)
   ·exact g2 h
   ·obtain⟨cs0,q1,_⟩:=f.frz _ m1;have:=sm.inj _ _ (Heap.get_mem h2) (Heap.get_mem q1) l l2 g1 m2 m3.symm;simp only at this;have hd:=(j4.1 f.nd1).2.2 b (jw.2 ⟨_,h1,rfl⟩) b2 (jw.2 ⟨_,m1,rfl⟩);exact hd this
  ·have run:=fun {v v':AV} {x:Value}=>Fits.run (f.fits sm) sm (SizeOf.sizeOf v') (v:=v) (v':=v') (x:=x) (ja _);have cellsF:∀{cs cs':List AV},qb8 σ Φ cs cs'->(∀i (h:i < cs.length),∃x,w.cell? ⟨l.cb,l.off+i,none⟩=some x/\VR ρ cs[i] x)->cs'.length=cs.length /\
     ∀i (h:i < cs'.length),∃x,w.cell? ⟨l.cb,l.off+i,none⟩=some x/\VR (qbw n σ Φ ρ w sm.below) cs'[i] x:=fun {cs cs'} h3 hv=>by
    obtain⟨k1,k2⟩:=qd7 h3;exact⟨k1,fun i hi=>let ⟨x,hx,hxv⟩:=hv i (by omega);⟨x,hx,run hxv (k2 i (by omega) hi)⟩⟩
   generalize he2:e.2=k' at h3 ⊢;cases k<;>cases k'<;>simp only[qkw]at h3
   ·obtain⟨k1,k2⟩:=cellsF h3 g4.2.2;exact⟨by rw[k1];exact g4.1,g4.2.1,k2⟩
   next es es'=>obtain⟨ents,clock,q1,q2,q3⟩:=g4;obtain⟨k1,k2⟩:=qd7 h3.1;obtain⟨m1,m2⟩:=qd7 h3.2;simp only[jD]at k1;refine⟨ents,clock,q1,by omega,fun i a b=>?_⟩;have r1:=k2 i (by simpa using(by omega:i < es.length)) (by simpa using a);have r2:=m2 i (by simpa using(by omega:i < es.length)) (by simpa using a);simp only[Jb]at r1 r2;exact⟨run (q3 i (by omega) b).1 r1,run (q3 i (by omega) b).2 r2⟩
   ·obtain⟨rfl,h4,h5,h3⟩:=h3;obtain⟨k1,k2⟩:=cellsF h3 g4.1.2.2;obtain⟨c,lo,hi,q1,q2⟩:=g4.2.2.2;exact⟨⟨by rw[k1];exact g4.1.1,g4.1.2.1,k2⟩,g4.2.1,h5,c,lo,hi,q1,q2.imp id fun h=>j6 h h4⟩
   ·obtain⟨rfl,rfl⟩:=h3;exact g4
   ·obtain⟨rfl,rfl,rfl,h3,rfl,rfl,rfl,rfl,rfl⟩:=h3;obtain⟨r,q1,q2,q3,q4,q5,q6,q7,q8⟩:=g4;refine⟨r,q1,q2,q3,q4,q5,q6,q7,fun t v hv=>?_⟩;split at hv
    next u hu=>simp only[sj]at hv;subst hv;obtain⟨x,p1,p2⟩:=qom h3 hu;exact run (q8 t x (by simp[p1])) p2
    ·simp[qhv,qmw]at hv
 inj:=fun e e' he he' l l' hl hl' hc=>by obtain⟨b,k,h1,h2,_⟩:=f.src e he;obtain⟨b',k',h1',h2',_⟩:=f.src e' he';rw[qek f h1]at hl;rw[qek f h1']at hl';have:=sm.inj _ _ (Heap.get_mem h2) (Heap.get_mem h2') l l' hl hl' hc;simp only at this;subst this;exact zah (j4.1 f.nd1).1 h1 h1'
theorem FitH.since{b:Base} (f:FitH b.n σ Φ H H') (sm:Sim ρ H w) (h:Since b ρ H w):Since b (qbw b.n σ Φ ρ w sm.below) H' w where
 fz:=fun k hk=>let ⟨h1,h2⟩:=h.fz k hk;⟨.inl h1,(sm.below k h1).trans h2⟩
 os:=sm.os.trans h.os
 tape:=sm.tape.trans h.tape
 output:=sm.output.trans h.output
 size:=h.size
 keeps:=h.keeps
 rows:=fun e he l hl=>by obtain⟨c,k,h1,h2,_⟩:=f.src e he;rw[qek f h1]at hl;exact h.rows _ (Heap.get_mem h2) l hl
 cold:=fun k hk=>by
  rcases hk with hk|⟨c,cs,l,h1,h2,rfl⟩
  ·exact h.cold k hk
  ·obtain⟨cs0,g1,_⟩:=f.frz _ h1;exact .inr (h.rows _ (Heap.get_mem g1) l h2)
 low:=fun k hk=>by show (if k < b.n then ρ k else _)=_;rw[jo hk];exact h.low k hk
 num:=f.num
end
def Fit(n:Nat) (σ:List (Nat × Nat)) (Φ:List (Nat × List AV)) (s s':St):Prop:=s'.ks=s.ks/\s'.sz=s.sz/\s'.ts=[]/\qb8 σ Φ s.vs s'.vs/\FitH n σ Φ s.H s'.H
theorem FitH.mark{n n0 r:Nat} {σ:List (Nat × Nat)} {Φ:List (Nat × List AV)} {ρ:Place} {H H':Heap} {w:World} (f:FitH n σ Φ H H') (sm:Sim ρ H w) (m:Mk n0 ρ H w r):Mk n0 (qbw n σ Φ ρ w sm.below) H' w r where
 ge:=m.ge
 obj:=m.obj
 cold:=by
  rintro(h|⟨b,cs,l,h1,h2,rfl⟩)
  ·exact m.cold h
  ·obtain⟨cs0,g1,_⟩:=f.frz _ h1;exact m.apart _ (Heap.get_mem g1) l h2 rfl
 apart:=fun e he l hl=>by obtain⟨b,k,h1,h2,_⟩:=f.src e he;rw[qek f h1]at hl;exact m.apart _ (Heap.get_mem h2) l hl
theorem At.fit{b:Base} {s s':St} {a:Act} {w:World} {σ:List (Nat × Nat)} {Φ:List (Nat × List AV)} (h:At b s a w) (f:Fit b.n σ Φ s s'):At b s' a w:=by
 obtain⟨ρ,h1,h2,h3,h4⟩:=h;obtain⟨f1,f2,f3,f4,f5⟩:=f;refine⟨_,f5.since h2 h1,f5.sim h2 h1.num,⟨by rw[f2];exact h3.size,fun t v hv=>?_⟩,let ⟨rs,q1,q2,q3⟩:=h4;⟨rs,q1,q2,fun r hr=>f5.mark h2 (q3 r hr)⟩⟩;simp only[St.get,f3,f1,qhv]at hv;split at hv
 next u hu=>simp only[sj]at hv;subst hv;obtain⟨x,g1,g2⟩:=qom f4 hu;exact Fits.run (f5.fits h2) h2 _ (ja _) (h3.val t x (by simp[St.get,g1])) g2
 ·cases hv
def WpSr(C:Ctx) (n:Nat) (r:Option Nat) (c:Code) (s:St) (Q:Out->St->Prop):Prop:=∀b a w,b.n=n->At b s a w->∀K:Exit->Act->World->Prop,
 (∀x s' a' w',Q x s'->At b s' a' w'->K x.exit_ a' w')->Goes C r c K a w
section
abbrev WpS(C:Ctx) (n:Nat) (c:Code) (s:St) (Q:Out->St->Prop):Prop:=WpSr C n none c s Q
variable {C:Ctx} {n:Nat} {r:Option Nat} {s:St} {Q:Out->St->Prop}
theorem At.fresh{b:Base} {a:Act} {w:World} (h:At b s a w):At b { s with ts:=[] } a w:=let ⟨ρ,h1,h2,h3,h4⟩:=h;⟨ρ,h1,h2,h3.fresh,h4⟩
theorem qa5(h:Q .normal s):WpSr C n r .skip s Q:=fun _ a w _ ha _ hK=>wpIn_skip (hK .normal s a w h ha)
theorem qdf{l:Nat} (h:Q .normal s):WpSr C n r (.label l) s Q:=fun _ a w _ ha _ hK=>wpIn_label (hK .normal s a w h ha)
theorem qak{id:Nat} (h:Q (.exit id) s):WpSr C n r (.exit id) s Q:=fun _ a w _ ha _ hK=>wpIn_exit (hK (.exit id) s a w h ha)
theorem wps_goto{l:Nat} (h:Q (.goto l) s):WpSr C n r (.goto l) s Q:=fun _ a w _ ha _ hK=>wpIn_goto (hK (.goto l) s a w h ha)
theorem qa7(h:Q .ret s):WpSr C n r .ret s Q:=fun _ a w _ ha _ hK=>wpIn_ret (hK .ret s a w h ha)
theorem qb0{call:qck} {id:Nat} {ops:Array Oper} (hC:CallOK C call) (h:∃s',qfn C call ops ops.toList { s with ts:=[] }=some s'/\Q .normal s'):WpSr C n r (.region id ops false) s Q:=by
 intro b a w hb ha K hK;obtain⟨s',h1,h2⟩:=h;obtain⟨ρ,g1,g2,g3,g4⟩:=ha;apply wpIn_region;have:=zao hC (ops:=ops) (r:=r) (Q:=K) (l:=ops.toList) (i:=0) (s:={ s with ts:=[] }) (a:=a) (ρ:=ρ) (w:=w) (fun j=>by simp) h1 g2 g3.fresh
  fun a' w' ρ' k1 k2 k3 k4=>hK .normal s' a' w' h2 ⟨ρ',g1.step k2,k1,k3,k4 ▸ g4.step k2⟩
 rw[List.range_eq_range'];simpa using this
theorem wps_draw{call:qck} {id:Nat} {ops:Array Oper} (hm:C.P.follows .mixedOrders=true) (hC:CallOK C call) (h:∃s',qjt C call ops { s with ts:=[] }=some s'/\Q .normal s'):WpSr C n r (.region id ops true) s Q:=by intro b a w hb ha K hK;obtain⟨s',h1,h2⟩:=h;obtain⟨ρ,g1,g2,g3,g4⟩:=ha;have g2':Sim ρ ({ s with ts:=[] }:St).H w:=g2;exact zc3 hC hm h1 g2' g3.fresh fun a' w' ρ' k1 k2 k3 k4=>hK .normal s' a' w' h2 ⟨ρ',g1.step k2,k1,k3,k4 ▸ g4.step k2⟩
theorem qc4{call:qck} {id:Nat} {ops:Array Oper} (hm:C.P.follows .mixedOrders=true) (hC:CallOK C call) (hd:qqk ops=true)
  (h:∀B:Array Nat,B=Region.before ops->∃d,qlm C call ops B s.H.n 0 ops.toList ⟨qbh (qan ops.toList { s with ts:=[] }) ops.size,[],[],[]⟩=some d /\
  qc1 C call B (qbh (qan ops.toList { s with ts:=[] }) ops.size).H d.hs d.rs=true/\Q .normal { d.s with H:=d.s.H.lay (allPend d.ps) }):WpSr C n r (.region id ops true) s Q:=by
 obtain⟨d,h1,h2,h3⟩:=h _ rfl;refine wps_draw hm hC ⟨{ d.s with H:=d.s.H.lay (allPend d.ps) },?_,h3⟩;unfold qjt;simp only[hd,h1,jc,h2,St.wH_eq]
theorem qad{c d:Code} (h:WpSr C n r c s (qab (fun s=>WpSr C n r d s Q) Q)):WpSr C n r (.seq c d) s Q:=by
 intro b a w hb ha K hK;refine wpIn_seq (h b a w hb ha _ fun x s' a' w' hq ha'=>?_).wp;cases x with
 |normal=>exact(hq b a' w' hb ha' K fun x s2 a2 w2 q1 q2=>hK x s2 a2 w2 q1 q2).wp
 |exit k=>exact hK _ s' a' w' hq ha'
 |goto k=>exact hK _ s' a' w' hq ha'
 |ret=>exact hK _ s' a' w' hq ha'
theorem qbe{c:Operand} {x y:Code} {t:Bool} (hc:qc5 s c=some (.bool t)) (h1:t=true->WpSr C n r x s Q) (h2:t=false->WpSr C n r y s Q):WpSr C n r (.cond c x y) s Q:=by
 intro b a w hb ha K hK;obtain⟨ρ,g1,g2,g3,g4⟩:=ha;have hvr:=qbk g3 hc;have hce:a.eval c=.bool t:=by cases hq:a.eval c<;>rw[hq]at hvr<;>cases hvr;rfl
 cases t with
 |true=>exact wpIn_cond_true hce (h1 rfl b a w hb ⟨ρ,g1,g2,g3,g4⟩ K hK).wp
 |false=>exact wpIn_cond_false hce (h2 rfl b a w hb ⟨ρ,g1,g2,g3,g4⟩ K hK).wp
theorem qag{c:Operand} {x y:Code} (hc:qc5 s c=some (.bool true)) (h:WpSr C n r x s Q):WpSr C n r (.cond c x y) s Q:=qbe hc (fun _=>h) fun h=>by cases h
theorem qaj{c:Operand} {x y:Code} (hc:qc5 s c=some (.bool false)) (h:WpSr C n r y s Q):WpSr C n r (.cond c x y) s Q:=qbe hc (fun h=>by cases h) fun _=>h
theorem wq{c d:Code} (h:WpSr C n r c s (qab (fun s=>WpSr C n r d s Q) Q)):WpSr C n r (.seq c d) s Q:=qad h
theorem qa3{id:Nat} {c:Code} (h:WpSr C n r c s (qa4 id Q)):WpSr C n r (.block id c) s Q:=by
 intro b a w hb ha K hK;refine wpIn_block (h b a w hb ha _ fun x s' a' w' hq ha'=>?_).wp;cases x with
 |exit k=>
  show Exit.inBlock id K (.exit k) a' w';unfold Exit.inBlock;simp only;rw[qvt]at hq;split at hq
  next hk=>rw[jo hk];exact hK .normal s' a' w' hq ha'
  next hk=>rw[jm hk];exact hK (.exit k) s' a' w' hq ha'
 |normal=>exact hK _ s' a' w' hq ha'
 |goto k=>exact hK _ s' a' w' hq ha'
 |ret=>exact hK _ s' a' w' hq ha'
theorem WpSr.mono{c:Code} {Q':Out->St->Prop} (h:WpSr C n r c s Q) (hq:∀x s',Q x s'->Q' x s'):WpSr C n r c s Q':=
 fun b a w hb ha K hK=>h b a w hb ha K fun x s' a' w' h1 h2=>hK x s' a' w' (hq x s' h1) h2
theorem qkk{t:Nat} {u v:AV}:∀{ks:List Nat} {pre post:List AV} {x:AV},qgl t ks (pre++v::post)=some x->qgl t ks (pre++u::post)=some x\/(x=v/\qgl t ks (pre++u::post)=some u/\ks.getD pre.length 0=t)
 |[],_,_,_,h=>by simp[qe3,qjb]at h
 |q::ks,[],post,x,h=>by
  simp only[jv]at h ⊢;rw[qe3]at h ⊢;simp only at h ⊢;split at h
  next hb=>simp only[sj]at h;exact .inr ⟨h.symm,by simp[hb],by simpa using Nat.eq_of_beq_eq_true hb⟩
  next hb=>exact .inl (by simp[hb,h])
 |q::ks,p::pre,post,x,h=>by
  simp only[List.cons_append]at h ⊢;rw[qe3]at h ⊢;simp only at h ⊢;split at h
  next hb=>exact .inl (by simp[hb,h])
  ·rename_i hb;rcases qkk (u:=u) h with h1|⟨h1,h2,h3⟩
   ·exact .inl (by simp[hb,h1])
   ·exact .inr ⟨h1,by simp[hb,h2],by simpa using h3⟩
theorem qsu{ks:List Nat} {pre post:List AV} {sz z:Nat} {H:Heap} {c:Code} (h1:WpSr C n r c ⟨ks,pre++.nilS::post,[],z,H⟩ Q) (h2:WpSr C n r c ⟨ks,pre++.eslc::post,[],z,H⟩ Q) :
  WpSr C n r c ⟨ks,pre++.fslc sz []::post,[],z,H⟩ Q:=by
 intro b a w hb ha K hK;obtain⟨ρ,g1,g2,g3,g4⟩:=ha;have get:∀{vs:List AV} {t:Nat},St.get ⟨ks,vs,[],z,H⟩ t=qgl t ks vs:=fun {vs t}=>by simp only[St.get,qhv];cases qgl t ks vs<;>rfl
 by_cases hn:a.tmps.getD (ks.getD pre.length 0) undef=.slice none 0 0
 ·refine h1 b a w hb ⟨ρ,g1,g2,⟨g3.size,fun t v hv=>?_⟩,g4⟩ K hK;rw[get]at hv;rcases qkk (u:=.fslc sz []) hv with h|⟨rfl,h,ht⟩
  ·exact g3.val t v (by rw[get];exact h)
  ·rw[<- ht,hn];exact .nilS
 ·refine h2 b a w hb ⟨ρ,g1,g2,⟨g3.size,fun t v hv=>?_⟩,g4⟩ K hK;rw[get]at hv;rcases qkk (u:=.fslc sz []) hv with h|⟨rfl,h,ht⟩
  ·exact g3.val t v (by rw[get];exact h)
  ·have hv2:=g3.val t _ (by rw[get];exact h);rw[ht]at hn;revert hn hv2;generalize a.tmps.getD t undef=x;intro hn hv2;cases hv2 with
   |fslc _ _ cb off cap vs=>exact .eslc _ _
   |fnil=>exact absurd rfl hn
   |fnone=>exact .eslc _ _
theorem WpSr.fit{c:Code} {s':St} (σ:List (Nat × Nat)) (Φ:List (Nat × List AV)) (f:Fit n σ Φ s s') (h:WpSr C n r c s' Q):WpSr C n r c s Q:=
 fun b a w hb ha K hK=>h b a w hb (ha.fit (hb ▸ f)) K hK
theorem qz9{C:Ctx} {n:Nat} {r:Option Nat} {c d:Code} {s:St} {Q:Out->St->Prop} (s0:St) (h1:WpSr C n r d s0 Q) (h2:(∀s',(∃σ Φ,Fit n σ Φ s' s0)->WpSr C n r d s' Q)->WpSr C n r c s (qab (fun s=>WpSr C n r d s Q) Q)):WpSr C n r (.seq c d) s Q:=
 qad (h2 fun _ ⟨σ,Φ,f⟩=>.fit σ Φ f h1)
theorem wps_loop{ι:Type} (inv:ι->St) (φ:ι->Prop) (m:ι->Nat) {c:Code} (step:∀x,φ x->∀B:St->Prop,(∀s' y,m y < m x->φ y->(∃σ Φ,Fit n σ Φ s' (inv y))->B s')->WpSr C n r c (inv x) (qab B Q)) :
  ∀x,φ x->WpSr C n r (.loop c) (inv x) Q:=by
 have key:∀k x,m x=k->φ x->WpSr C n r (.loop c) (inv x) Q:=by
  intro k;induction k using Nat.strongRecOn with
  |_ k ih=>
   intro x hm hx b a w hb ha K hK;refine LoopGoes.round (step x hx (fun s'=>∃y,m y < m x/\φ y/\∃σ Φ,Fit n σ Φ s' (inv y)) (fun s' y h1 h2 h3=>⟨y,h1,h2,h3⟩) b a w hb ha _ fun o s' a' w' hq ha'=>?_).wp;cases o with
   |normal=>obtain⟨y,hy,hφ,σ,Φ,hf⟩:=hq;exact ih (m y) (by omega) y rfl hφ b a' w' hb (ha'.fit (hb ▸ hf)) K fun x s2 a2 w2 q1 q2=>hK x s2 a2 w2 q1 q2
   |exit k=>exact hK _ s' a' w' hq ha'
   |goto k=>exact hK _ s' a' w' hq ha'
   |ret=>exact hK _ s' a' w' hq ha'
 exact fun x hx=>key _ x rfl hx
theorem qb6{ι:Type} (inv:ι->St) (φ:ι->Prop) (m:ι->Nat) (σ:List (Nat × Nat)) (Φ:List (Nat × List AV)) (x:ι) (hx:φ x) {c:Code} (hf:Fit n σ Φ s (inv x))
  (step:∀x,φ x->∀B:St->Prop,(∀s' y,m y < m x->φ y->(∃σ Φ,Fit n σ Φ s' (inv y))->B s')->WpSr C n r c (inv x) (qab B Q)):WpSr C n r (.loop c) s Q:=
 .fit σ Φ hf (wps_loop inv φ m step x hx)
def gotoQ(body:Code) (R:Code->St->Prop) (Q:Out->St->Prop):Out->St->Prop
 |.goto l,s=>match findLabel body l with
  |some rest=>R rest s
  |none=>Q (.goto l) s
 |x,s=>Q x s
theorem qz6{ι:Type} (at_:ι->Code) (inv:ι->St) (φ:ι->Prop) (m:ι->Nat) {body:Code} (x:ι) (hx:φ x) (h0:at_ x=body)
  (step:∀x,φ x->∀B:Code->St->Prop,(∀s' y,m y < m x->φ y->(∃σ Φ,Fit n σ Φ s' (inv y))->B (at_ y) s')->WpSr C n r (at_ x) (inv x) (gotoQ body B Q)):WpSr C n r (.scope body) (inv x) Q:=by
 have key:∀k x,m x=k->φ x->∀b a w,b.n=n->At b (inv x) a w->∀K:Exit->Act->World->Prop,
   (∀x s' a' w',Q x s'->At b s' a' w'->K x.exit_ a' w')->ScopeGoes (fen r) 0 C.P body K (at_ x) a w:=by
  intro k;induction k using Nat.strongRecOn with
  |_ k ih=>
   intro x hm hx b a w hb ha K hK;refine ScopeGoes.pass (step x hx (fun rest s'=>∃y,m y < m x/\φ y/\rest=at_ y/\∃σ Φ,Fit n σ Φ s' (inv y)) (fun s' y h1 h2 h3=>⟨y,h1,h2,rfl,h3⟩) b a w hb ha _ fun o s' a' w' hq ha'=>?_).wp;cases o with
   |goto l=>
    show Exit.inScope _ _ _ _ _ (.goto l) a' w';unfold Exit.inScope;simp only[gotoQ]at hq ⊢;cases hf:findLabel body l with
    |some rest=>simp only[hf]at hq ⊢;obtain⟨y,hy,hφ,rfl,σ,Φ,hft⟩:=hq;exact ih (m y) (by omega) y rfl hφ b a' w' hb (ha'.fit (hb ▸ hft)) K fun x s2 a2 w2 q1 q2=>hK x s2 a2 w2 q1 q2
    |none=>simp only[hf]at hq ⊢;exact hK _ s' a' w' hq ha'
   |normal=>exact hK _ s' a' w' hq ha'
   |exit k=>exact hK _ s' a' w' hq ha'
   |ret=>exact hK _ s' a' w' hq ha'
 intro b a w hb ha K hK;subst h0;exact ScopeGoes.wp (key _ x rfl hx b a w hb ha K hK)
end
section
variable {C:Ctx}
theorem qla{ρ ρ':Place} {H:Heap} {w:World} (sm:Sim ρ H w) (low:∀k,k < H.n->ρ' k=ρ k):∀b l,ρ b=some l->ρ' b=some l:=fun b l h=>by
 rcases jF b H.n with hb|hb
 ·rw[low b hb];exact h
 ·rw[sm.dom b hb]at h;cases h
theorem Since.poke{b:Base} {ρ:Place} {H:Heap} {w:World} (h:Since b ρ H w) {k:Nat} (o:Obj) (hk:b.w.heap.size<=k):Since b ρ H (w.putObj k o) where
 fz:=h.fz
 os:=h.os
 tape:=h.tape
 output:=h.output
 size:=by rw[Jq];exact h.size
 keeps:=fun j hj hn=>by rw[yu (by omega)];exact h.keeps j hj hn
 rows:=h.rows
 cold:=h.cold
 low:=h.low
 num:=h.num
theorem qmx{P:Program} {fn:Func} {tmps:Array Value} {R:Ending->World->Prop} {b:Base} {ρ:Place} {H:Heap}:∀(rs:List Nat) (w:World),rs.Nodup->(∀r,r∈rs->Mk b.w.heap.size ρ H w r)->Sim ρ H w->Since b ρ H w ->
  (∀w',Sim ρ H w'->Since b ρ H w'->∃v,(results fn tmps).run P w'=.ok v w'/\R (.returned v) w')->LeavesInM Fence.wide 0 P fn tmps R (rs.map mkD) .returning w
 |[],w,_,_,s,t,h=>h w s t
 |r::rs,w,nd,hm,s,t,h=>by have m:=hm r j8;rw[jp]at nd;refine⟨by simp,.inl ⟨r,w.putObj r (.deferred none),rfl,run_takeDeferred m.obj,?_⟩⟩;refine qmx rs _ nd.2 (fun q hq=>?_) (s.poke _ m.cold m.apart) (t.poke _ m.ge) h;have mq:=hm q (ji _ hq);exact⟨mq.ge,by rw[yu (show q≠r from fun e=>nd.1 (e ▸ hq))];exact mq.obj,mq.cold,mq.apart⟩
theorem qa1 {f : FuncId} {fn : Func} {body : Code} {args : List AV} {H H' : Heap} {v : AV} {s0 : St} (hf : C.P.funcs[f]? = some fn) (hname : (fn.name == "runtime.NumGoroutine") = false)
  (hb:fn.body=some body) (he:enterF C f fn args H=some s0)
  (h:WpS C H.n body s0 fun x s=>(x=.normal\/x=.ret)/\∃vs,retVal C s fn.results.toList=some vs/\∃σ Φ,qas σ Φ (oneOr vs) v/\FitH H.n σ Φ s.H H'):CallAt C f args H v H':=by
 intro ρ w xs sm hx;refine .inr ⟨f,xs.toArray,?_,?_⟩
 ·have hname' : ¬ fn.name = "runtime.NumGoroutine" := fun e => by rw [e] at hname; simp at hname
  simp[callFunc,hf,hname',hb]
 ·refine callsIn_of_wp_marks hf hb trivial ?_;obtain⟨o1,o2⟩:=sm.opened;have hlen:xs.length=args.length:=hx.1;have env0:EnvR ρ { ks:=C.keep f,vs:=qpx (C.keep f),ts:=[],sz:=args.length+(fn.ntmps - args.length),H:=⟨H.n,[]::H.fs⟩ }
    { tmps:=xs.toArray++Array.replicate (fn.ntmps - xs.toArray.size) undef,defers:=[] }:=by
   refine⟨by simp[hlen],fun t u hu=>?_⟩;simp only[St.get]at hu;split at hu
   next hl=>have:=qja hl;simp only[sj]at hu;subst hu;subst this;exact .undef _
   ·simp[qhv,qmw]at hu
  obtain⟨e1,hH1⟩:=qkh (i:=0) he env0 hx fun j hj=>by simp only[jS,Array.getD_eq_getD_getElem?];rw[Array.getElem?_append_left (by simpa using hj)];simp[hj]
  have hH:s0.H=⟨H.n,[]::H.fs⟩:=hH1
  let b:Base:=⟨H.n,fun k=>∃e,e∈H.ents/\∃l,ρ e.1=some l/\l.cb=k,ρ,w,[]⟩
  have since0:Since b ρ s0.H w:=by rw[hH];exact⟨fun k hk=>⟨hk,rfl⟩,rfl,rfl,rfl,ja _,fun _ _ _=>rfl,fun e he l hl=>.inl ⟨e,he,l,hl,rfl⟩,fun k hk=>.inl hk,fun _ _=>rfl,ja _⟩
  refine(h b _ w rfl ⟨ρ,since0,by rw[hH];exact o1,e1,.of_eq rfl⟩ _ fun x s a' w' hq ha'=>?_).wp;obtain⟨hx1,vs,hvs,σ,Φ,hfv,hfh⟩:=hq;obtain⟨ρ1,k1,k2,k3,rs,hrs,hnd,hmk⟩:=ha';have fin:LeavesInM Fence.wide 0 C.P fn a'.tmps (qvx ρ H w v H') a'.defers .returning w':=by
   have hrs:a'.defers=rs.map mkD:=(by rw[hrs];exact jh _);rw[hrs];refine qmx (b:=b) rs w' hnd hmk k2 k1 fun w' k2 k1=>?_;obtain⟨y,r1,r2⟩:=qo6 k2 k3 hvs;have run:=Fits.run (hfh.fits k2) k2 _ (ja _) r2 hfv;have sim2:=hfh.sim k2 k1.num;have sin2:=FitH.since (b:=b) hfh k2 k1;refine⟨y,r1,y,_,rfl,run,sim2,?_⟩;exact⟨⟨qla sm sin2.low,sin2.fz,sin2.os,sin2.tape,sin2.output⟩,sin2.size,fun k hk hn=>sin2.keeps k hk fun⟨e,he,l,hl,hlk⟩=>hn e he l hl hlk,
    fun e he l hl=>sin2.rows e he l hl,sin2.num,sin2.low,sin2.cold⟩
  rcases hx1 with rfl|rfl
  ·exact fin
  ·exact fin
theorem qz7{n:Nat} {s:St} {Q:Out->St->Prop} {call:qck} {g:Operand} {ps:Array Tmp} {assign body:Code} (hC:CallOK C call) (h:∃x s',qig C call g ps assign body s=some (x,s')/\Q x s'):WpS C n (.rangeFunc g ps assign body) s Q:=by intro b a w hb ha K hK;obtain⟨x,s',h1,h2⟩:=h;obtain⟨ρ,g1,g2,g3,g4⟩:=ha;exact qwn hC h1 ρ a w K g2 g3 fun a' w' ρ' k1 k2 k3 k4=>hK x s' a' w' h2 ⟨ρ',g1.step k2,k1,k3,g4.then g1.size k2 k4⟩
theorem qsr{b:Nat} {args:List AV} {H H':Heap} {v:AV} {pend:Option Code} {ks:List Nat} {vs:List AV} {ts:List (Nat × AV)} {sz:Nat} {ps:List Nat} {assign body:Code} {s1:St}
  (hg:H.get b=some (.loop .ready pend ks vs ts sz ps assign body)) (hp:qta ⟨ks,vs,ts,sz,⟨H.n,[]::H.fs⟩⟩ ps args=some s1)
  (h:∀l,WpSr C H.n (some l) assign s1 fun x s=>x=.normal/\∃pend ks vs ts sz ps as' bd H1,s.H.get b=some (.loop .ready pend ks vs ts sz ps as' bd)/\s.H.set b (.loop .busy pend ks vs ts sz ps as' bd)=some H1 /\
   WpSr C H.n (some l) body { s with H:=H1 } fun x s=>∃st pend ks vs ts sz ps as' bd H2,s.H.get b=some (.loop st pend ks vs ts sz ps as' bd)/\s.H.set b (.loop (qid x).2.1 (qid x).2.2 ks vs ts sz ps as' bd)=some H2 /\
    v=.bool (qid x).1/\∃σ Φ,FitH H.n σ Φ H2 H'):qi5 C b args H v H':=by
 intro ρ w xs l sm hx hl;obtain⟨l',hl',_,hlt,r,hr,q1,q2,q3,q4,q5,q6,q7⟩:=sm.block hg;rw[hl]at hl';cases hl';obtain⟨o1,o2⟩:=sm.opened;have env0:EnvR ρ ⟨ks,vs,ts,sz,⟨H.n,[]::H.fs⟩⟩ { tmps:=r.tmps,defers:=[] }:=⟨q6.symm,q7⟩;obtain⟨f1,f2,f3⟩:=qp1 (fun tmps p=>tmps.setIfInBounds p.1 p.2) rfl (n:=0) hp hx env0;have f2:s1.H=⟨H.n,[]::H.fs⟩:=f2;have hps:xs.toArray.size=r.params.size:=by rw[<- q3]at f1;simpa using f1.symm
 refine⟨r.fn,_,r.assign,r.body,run_yield hr hps,?_⟩;have hz:(r.params.zip xs.toArray).foldl (fun tmps (x:Tmp × Value)=>match x with|(t,a)=>tmps.setIfInBounds t a) r.tmps=(ps.zip xs).foldl (fun tmps p=>tmps.setIfInBounds p.1 p.2) r.tmps:=by rw[<- Array.foldl_toList,Array.toList_zip,q3]
 rw[hz,q4,q5];refine roundIn_of_wpIn trivial ?_
 let b0:Base:=⟨H.n,fun k=>∃e,e∈H.ents/\∃l,ρ e.1=some l/\l.cb=k,ρ,w,[]⟩
 have since0:Since b0 ρ s1.H w:=by rw[f2];exact⟨fun k hk=>⟨hk,rfl⟩,rfl,rfl,rfl,ja _,fun _ _ _=>rfl,fun e he l hl=>.inl ⟨e,he,l,hl,rfl⟩,fun k hk=>.inl hk,fun _ _=>rfl,ja _⟩
 refine(h l.cb b0 _ w rfl ⟨ρ,since0,by rw[f2];exact o1,f3,.of_eq rfl⟩ _ fun x s a1 w1 hq ha1=>?_).wp;obtain⟨rfl,pend1,ks1,vs1,ts1,sz1,ps1,as1,bd1,H1,hk1,hset1,hw⟩:=hq;obtain⟨ρ1,k1,k2,k3,k4⟩:=ha1;obtain⟨l1,hl1,_,hlt1,r1,hr1,u1,u2,_⟩:=k2.block hk1;have hbn:b < H.n:=by
  rcases jF b H.n with hh|hh
  ·exact hh
  ·rw[sm.dom b hh]at hl;cases hl
 have hl1':ρ1 b=some l:=by rw[k1.low b hbn];exact hl
 rw[hl1']at hl1;cases hl1;refine⟨w1.putObj l.cb (.loop { r1 with state:=.busy }),run_beginRound hr1 u1,?_⟩;have hset1':s.H.set b (.loop .busy r1.pending ks1 vs1 ts1 sz1 ps1 as1 bd1)=some H1:=by rw[u2];exact hset1
 obtain⟨s4,t4⟩:=k2.turnLoop hk1 hl1' hr1 hset1';refine(hw b0 a1 _ rfl ⟨ρ1,k1.step t4,s4,k3.heap H1,k4.step t4⟩ _ fun x3 s3 a2 w2 hq2 ha2=>?_).wp;obtain⟨st2,pend2,ks2,vs2,ts2,sz2,ps2,as2,bd2,H2,hk2,hset2,hv,σ,Φ,hfh⟩:=hq2;obtain⟨ρ2,m1,m2,m3,m4⟩:=ha2;have hl2':ρ2 b=some l:=by rw[m1.low b hbn];exact hl
 obtain⟨l2,hl2,_,hlt2,r2,hr2,_⟩:=m2.block hk2;rw[hl2']at hl2;cases hl2;have fin:∀(jump:Option Code) (st':LoopState),st'=(if jump.isNone then .ready else .done)->s3.H.set b (.loop st' jump ks2 vs2 ts2 sz2 ps2 as2 bd2)=some H2->v=.bool jump.isNone ->
   ∃v' w',(Instr.endRound l.cb jump).run C.P w2=.ok v' w'/\qvx ρ H w v H' (.returned v') w':=by
  intro jump st' hst' hset hv;obtain⟨s5,t5⟩:=m2.turnLoop hk2 hl2' hr2 hset;rw[hst']at s5 t5;have m5:=m1.step t5;have sim2:=hfh.sim s5 m5.num;have sin2:=FitH.since (b:=b0) hfh s5 m5;refine⟨_,_,run_endRound jump hr2,.bool jump.isNone,_,rfl,by rw[hv];exact .bool _,sim2,?_⟩;exact⟨⟨qla sm sin2.low,sin2.fz,sin2.os,sin2.tape,sin2.output⟩,sin2.size,fun k hk hn=>sin2.keeps k hk fun⟨e,he,l,hl,hlk⟩=>hn e he l hl hlk,
   fun e he l hl=>sin2.rows e he l hl,sin2.num,sin2.low,sin2.cold⟩
 cases x3 with
 |normal=>exact fin none _ rfl hset2 hv
 |ret=>exact fin (some .ret) _ rfl hset2 hv
 |exit id=>exact fin (some (.exit id)) _ rfl hset2 hv
 |goto q=>exact fin (some (.goto q)) _ rfl hset2 hv
end
theorem FitH.empty{H:Heap}:FitH 0 [] [] H ⟨0,[]⟩ where
 nd1:=jK
 nd2:=jK
 nd3:=jK
 lt:=fun x h=>by cases h
 idn:=fun x h=>by cases h
 num:=ja _
 src:=fun e he=>by simp[Heap.ents]at he
 frz:=fun x h=>by cases h
theorem FitH.froze{H:Heap} {Φ:List (Nat × List AV)} (nd:(Φ.map (·.1)).Nodup) (frz:∀x,x∈Φ->∃cs,H.get x.1=some (.cells cs)/\qb8 [] Φ cs x.2/\qa6 x.2=true):FitH 0 [] Φ H ⟨0,[]⟩ where
 nd1:=by simpa using nd
 nd2:=jK
 nd3:=jK
 lt:=fun x h=>by cases h
 idn:=fun x h=>by cases h
 num:=ja _
 src:=fun e he=>by simp[Heap.ents]at he
 frz:=frz
section
variable {C:Ctx} {f:FuncId} {args args':List AV} {v:AV}
theorem Sim.bare{ρ:Place} {H:Heap} {w:World} (s:Sim ρ H w):Sim ρ.bare ⟨0,[]⟩ w where
 base:=s.base
 below:=s.below
 os:=s.os
 tape:=s.tape
 output:=s.output
 dom:=fun _ _=>rfl
 nodup:=jK
 live:=fun e he=>by cases he
 inj:=fun e e' he=>by cases he
theorem CallAt.lift(h:CallAt C f args ⟨0,[]⟩ v ⟨0,[]⟩) (hp:qa6 args=true) (H:Heap):CallAt C f args H v H:=by
 intro ρ w xs sm hx;have up:∀{x:Value} {ρ':Place} {w':World},VR ρ' v x->Sim ρ' ⟨0,[]⟩ w'->Step ρ.bare ⟨0,[]⟩ w ρ' ⟨0,[]⟩ w'->∃ρ'',VR ρ'' v x/\Sim ρ'' H w'/\Step ρ H w ρ'' H w':=by
  intro x ρ' w' h1 h2 h3;have hle:ρ.le { ρ' with at_:=ρ.at_ }:=⟨fun _ _ h=>h,h3.le.fz,h3.le.os,h3.le.tape,h3.le.output⟩;have hkeep:∀k,k < w.heap.size->w'.heap[k]? = w.heap[k]?:=fun k hk=>h3.keeps k hk fun e he=>by cases he
  have hbl:ρ'.le { ρ' with at_:=ρ.at_ }:=⟨fun b l hb=>(by have hd:=h2.dom b (jx _);rw[hd]at hb;cases hb),fun _ hk=>⟨hk,rfl⟩,rfl,rfl,rfl⟩;refine⟨{ ρ' with at_:=ρ.at_ },h1.mono hbl,⟨h2.base,h2.below,h2.os,h2.tape,h2.output,sm.dom,sm.nodup,fun e he=>?_,sm.inj⟩,
   ⟨hle,h3.size,fun k hk _=>hkeep k hk,fun e he l hl=>.inl ⟨e,he,l,hl,rfl⟩,ja _,fun _ _=>rfl,fun k hk=>?_⟩⟩
  ·obtain⟨l,g1,g2,g3,g4⟩:=sm.live e he;refine⟨l,g1,fun hB=>?_,jI g3 h3.size,(g4.same (hkeep _ g3)).mono hle⟩;rcases h3.cold _ hB with h|⟨e,he,_⟩|h
   ·exact g2 h
   ·cases he
   ·omega
  ·rcases h3.cold _ hk with h|⟨e,he,_⟩|h
   ·exact .inl h
   ·cases he
   ·exact .inr (.inr h)
 rcases h ρ.bare w xs sm.bare (hx.pure hp)with⟨x,ρ',w',h0,h1,h2,h3⟩|⟨g,ys,h0,h1⟩
 ·obtain⟨ρ'',k1,k2,k3⟩:=up h1 h2 h3;exact .inl ⟨x,ρ'',w',h0,k1,k2,k3⟩
 ·refine .inr ⟨g,ys,h0,h1.mono ?_⟩;rintro e w' ⟨x,ρ',rfl,m1,m2,m3⟩;obtain⟨ρ'',k1,k2,k3⟩:=up m1 m2 m3;exact⟨x,ρ'',rfl,k1,k2,k3⟩
theorem CallAt.borrow(h:CallAt C f args' ⟨0,[]⟩ v ⟨0,[]⟩) (hs:qg8 v=true) {H:Heap} {Φ:List (Nat × List AV)} (hH:(H.ents.map (·.1)).Nodup->FitH 0 [] Φ H ⟨0,[]⟩) (hf:qb8 [] Φ args args'):CallAt C f args H v H:=by
 intro ρ w xs sm hx;have fh:=hH sm.nodup;have hx':VRs (qbw 0 [] Φ ρ w sm.below) args' xs:=by obtain⟨k1,k2⟩:=qd7 hf;refine⟨by rw[hx.1,k1],fun i h1 h2=>?_⟩;exact Fits.run (fh.fits sm) sm _ (ja _) (hx.2 i (by omega) h2) (k2 i (by omega) h1)
 have up:∀{x:Value} {ρ':Place} {w':World},VR ρ' v x->Sim ρ' ⟨0,[]⟩ w'->Step (qbw 0 [] Φ ρ w sm.below) ⟨0,[]⟩ w ρ' ⟨0,[]⟩ w'->VR ρ v x/\Sim ρ H w'/\Step ρ H w ρ H w':=by
  intro x ρ' w' h1 h2 h3;have hkeep:∀k,k < w.heap.size->w'.heap[k]? = w.heap[k]?:=fun k hk=>h3.keeps k hk fun e he=>by cases he
  refine⟨h1.scalar hs,⟨fun k hk=>jI (sm.base k hk) h3.size,fun k hk=>(hkeep k (sm.base k hk)).trans (sm.below k hk),?_,?_,?_,sm.dom,sm.nodup,fun e he=>?_,sm.inj⟩,
   ⟨Place.le_refl _,h3.size,fun k hk _=>hkeep k hk,fun e he l hl=>.inl ⟨e,he,l,hl,rfl⟩,ja _,fun _ _=>rfl,fun k hk=>.inl hk⟩⟩
  ·exact(h2.os.trans h3.le.os).trans sm.os
  ·exact(h2.tape.trans h3.le.tape).trans sm.tape
  ·exact(h2.output.trans h3.le.output).trans sm.output
  ·obtain⟨l,g1,g2,g3,g4⟩:=sm.live e he;exact⟨l,g1,g2,jI g3 h3.size,g4.same (hkeep _ g3)⟩
 rcases h _ w xs (fh.sim sm (jx _)) hx' with⟨x,ρ',w',h0,h1,h2,h3⟩|⟨g,ys,h0,h1⟩
 ·obtain⟨k1,k2,k3⟩:=up h1 h2 h3;exact .inl ⟨x,ρ,w',h0,k1,k2,k3⟩
 ·refine .inr ⟨g,ys,h0,h1.mono ?_⟩;rintro e w' ⟨x,ρ',rfl,m1,m2,m3⟩;obtain⟨k1,k2,k3⟩:=up m1 m2 m3;exact⟨x,ρ,rfl,k1,k2,k3⟩
end
def chunk(sz:Nat):Nat->List AV->List AV
 |0,_=>[]
 |Nat.succ n,cs=>(if sz=1 then cs.headD .undef else .agg (cs.take sz))::chunk sz n (cs.drop sz)
def qiy(H:Heap) (sz:Nat):AV->Option AV
 |.slc b o len _=>match H.get b with
  |some (.cells cs)=>if qa6 cs=true then match qfe o (len * sz) cs with
   |some r=>if qgm sz (chunk sz len r)=true/\qaa (chunk sz len r)=r/\(chunk sz len r).length=len then some (.fslc sz (chunk sz len r)) else none
   |none=>none
   else none
  |_=>none
 |.ptr b o=>match H.get b with
  |some (.cells cs)=>if qa6 cs=true then some (.fptr cs o) else none
  |_=>none
 |.nilS=>if sz=0 then some .nilS else some (.fslc sz [])
 |.zslc=>if sz=0 then some .zslc else some (.fslc sz [])
 |.eslc=>if sz=0 then some .eslc else some (.fslc sz [])
 |v=>if qa2 v=true then some v else none
def qk9(H:Heap):List Nat->List AV->Option (List AV)
 |_,[]=>some []
 |ss,a::r=>(qiy H (ss.headD 0) a).bind fun a'=>(qk9 H ss.tail r).bind fun r'=>some (a'::r')
def okV:AV->Bool
 |.nilS | .zslc | .eslc=>false
 |.agg cs=>qa6 cs && cs.all fun c=>match c with
  |.nilS | .zslc | .eslc=>false
  |_=>true
 |v=>qa2 v
theorem okV_pure{v:AV} (h:okV v=true):qa2 v=true:=by cases v<;>simp_all [okV,qa2]
def qco(H:Heap) (ss:List Nat) (v:AV):Option AV:=if okV v=true then some v else match v with
 |.agg cs=>(qk9 H ss cs).bind fun cs'=>some (.agg cs')
 |.func fn a c=>(qk9 H [] a).bind fun a'=>(qk9 H [] c).bind fun c'=>some (.func fn a' c')
 |v=>qiy H (ss.headD 0) v
def qbl(H:Heap):List (List Nat)->List AV->Option (List AV)
 |_,[]=>some []
 |ss,a::r=>(qco H (ss.headD []) a).bind fun a'=>(qbl H ss.tail r).bind fun r'=>some (a'::r')
def qe7:List (Nat × Blk)->List (Nat × List AV)
 |[]=>[]
 |e::r=>match e.2 with
  |.cells cs=>if qa6 cs=true then (e.1,cs)::qe7 r else qe7 r
  |_=>qe7 r
theorem qej:∀{l:List (Nat × Blk)} {x:Nat × List AV},x∈qe7 l->(x.1,.cells x.2)∈l/\qa6 x.2=true
 |[],x,h=>by cases h
 |e::r,x,h=>by
  unfold qe7 at h;split at h
  ·rename_i cs hcs;split at h
   ·rename_i hp;rcases jd.1 h with rfl|h
    ·exact⟨by rw[<- hcs];exact j8,hp⟩
    ·exact⟨ji _ (qej h).1,(qej h).2⟩
   ·exact⟨ji _ (qej h).1,(qej h).2⟩
  ·exact⟨ji _ (qej h).1,(qej h).2⟩
theorem qht:∀(l:List (Nat × Blk)),((qe7 l).map (·.1)).Sublist (l.map (·.1))
 |[]=>by simp[qe7]
 |e::r=>by
  unfold qe7;split
  ·split
   ·simpa using qht r
   ·simpa using(qht r).trans (yA _ _)
  ·simpa using(qht r).trans (yA _ _)
theorem qfx:∀{l:List (Nat × Blk)} {b:Nat} {cs:List AV},(l.map (·.1)).Nodup->(b,.cells cs)∈l->qa6 cs=true->qcp b (qe7 l)=some cs
 |[],_,_,_,h,_=>by cases h
 |e::r,b,cs,hn,h,hp=>by
  rw[List.map_cons,jp]at hn;unfold qe7;rcases jd.1 h with rfl|h
  ·simp only[hp,jQ,qcp]
  ·have hne:e.1≠b:=fun hx=>hn.1 (jw.2 ⟨_,h,hx.symm⟩);split
   ·split
    ·simp only[qcp,jm hne];exact qfx hn.2 h hp
    ·exact qfx hn.2 h hp
   ·exact qfx hn.2 h hp
theorem qqg:∀{fs:List (List (Nat × Blk))} {b:Nat} {k:Blk},(fs.flatten.map (·.1)).Nodup->(b,k)∈fs.flatten->getFs b fs=some k
 |fs,b,k,hn,h=>by
  have key:∀(f:List (Nat × Blk)),(b,k)∈f->(f.map (·.1)).Nodup->getF b f=some k:=by
   intro f;induction f with
   |nil=>intro h;cases h
   |cons e r ih=>
    intro h hn;rw[List.map_cons,jp]at hn;unfold getF;rcases jd.1 h with rfl|h
    ·simp
    ·have hne:e.1≠b:=fun hx=>hn.1 (jw.2 ⟨_,h,hx.symm⟩);rw[qax hne];exact ih h hn.2
  have miss:∀(f:List (Nat × Blk)),b ∉ f.map (·.1)->getF b f=none:=by
   intro f;induction f with
   |nil=>intro _;rfl
   |cons e r ih=>intro h;simp only[List.map_cons,jd,Jh]at h;unfold getF;rw[qax (fun hx=>h.1 hx.symm)];exact ih h.2
  induction fs with
  |nil=>cases h
  |cons f r ih=>
   simp only[jq,j5]at hn h;obtain⟨n1,n2,n3⟩:=j4.1 hn;unfold getFs;rcases je.1 h with h|h
   ·rw[key f h n1]
   ·have hm:b ∉ f.map (·.1):=fun hx=>n3 b hx b (jw.2 ⟨_,h,rfl⟩) rfl;rw[miss f hm];exact ih n2 h
section
variable {H:Heap}
theorem qob(hn:(H.ents.map (·.1)).Nodup):FitH 0 [] (qe7 H.ents) H ⟨0,[]⟩:=
 .froze ((qht H.ents).nodup hn) fun x hx=>by obtain⟨h1,h2⟩:=qej hx;exact⟨x.2,qqg hn h1,qau h2,h2⟩
theorem qsx(hn:(H.ents.map (·.1)).Nodup) {sz:Nat} {v v':AV} (h:qiy H sz v=some v'):qas [] (qe7 H.ents) v v':=by
 cases v
 case slc b o len cap=>
  unfold qiy at h;simp only at h;split at h
  ·rename_i cs hg;split at h
   ·rename_i hp;split at h
    ·rename_i r hr;split at h
     next hc=>simp only[sj]at h;subst h;simp only[qas];exact .inl ⟨cs,qfx hn (Heap.get_mem hg) hp,by rw[hc.2.1];exact hr,hc.2.2,hc.1⟩
     ·cases h
    ·cases h
   ·cases h
  ·cases h
 case ptr b o=>
  unfold qiy at h;simp only at h;split at h
  ·rename_i cs hg;split at h
   next hp=>simp only[sj]at h;subst h;simp only[qas];exact⟨qfx hn (Heap.get_mem hg) hp,trivial⟩
   ·cases h
  ·cases h
 case nilS=>
  unfold qiy at h;simp only at h;split at h<;>(simp only[sj]at h;subst h;simp[qas])
 case zslc=>
  unfold qiy at h;simp only at h;split at h<;>(simp only[sj]at h;subst h;simp[qas])
 case eslc=>
  unfold qiy at h;simp only at h;split at h<;>(simp only[sj]at h;subst h;simp[qas])
 all_goals
  unfold qiy at h;simp only at h;split at h
  next hp=>simp only[sj]at h;subst h;exact qbo hp
  ·cases h
theorem qky(hn:(H.ents.map (·.1)).Nodup):∀{ss:List Nat} {l l':List AV},qk9 H ss l=some l'->qb8 [] (qe7 H.ents) l l'
 |ss,[],l',h=>by simp only[qk9,sj]at h;subst h;simp[qb8]
 |ss,a::r,l',h=>by obtain⟨a',h1,h⟩:=obs h;obtain⟨r',h2,h⟩:=obs h;simp only[sj]at h;subst h;simp only[qb8];exact⟨qsx hn h1,qky hn h2⟩
theorem qzi(hn:(H.ents.map (·.1)).Nodup) {ss:List Nat} {v v':AV} (h:qco H ss v=some v'):qas [] (qe7 H.ents) v v':=by
 unfold qco at h;split at h
 next hp=>simp only[sj]at h;subst h;exact qbo (okV_pure hp)
 ·split at h
  ·obtain⟨cs',h1,h⟩:=obs h;simp only[sj]at h;subst h;simp only[qas];exact .inl (qky hn h1)
  ·obtain⟨a',h1,h⟩:=obs h;obtain⟨c',h2,h⟩:=obs h;simp only[sj]at h;subst h;simp only[qas];exact .inl ⟨trivial,qky hn h1,qky hn h2⟩
  ·exact qsx hn h
theorem qgf(hn:(H.ents.map (·.1)).Nodup):∀{ss:List (List Nat)} {l l':List AV},qbl H ss l=some l'->qb8 [] (qe7 H.ents) l l'
 |ss,[],l',h=>by simp only[qbl,sj]at h;subst h;simp[qb8]
 |ss,a::r,l',h=>by obtain⟨a',h1,h⟩:=obs h;obtain⟨r',h2,h⟩:=obs h;simp only[sj]at h;subst h;simp only[qb8];exact⟨qzi hn h1,qgf hn h2⟩
end
theorem CallAt.norm{C:Ctx} {f:FuncId} {args args':List AV} {H H':Heap} {v:AV} (h:CallAt C f args' H v H') (hf:qb8 [] [] args args'):CallAt C f args H v H':=by intro ρ w xs sm hx;have ft:Fits [] [] ρ ρ H w:=⟨ρ.bare_le,sm.below,fun _ _ h=>(by cases h),fun _ _ h=>(by cases h)⟩;obtain⟨k1,k2⟩:=qd7 hf;exact h ρ w xs sm ⟨by rw[hx.1,k1],fun i h1 h2=>Fits.run ft sm _ (ja _) (hx.2 i (by omega) h2) (k2 i (by omega) h1)⟩
def qkb(ss:List (List Nat)) (pf:List AV->Option AV):List AV->Heap->Option (AV × Heap):=fun args H=>
 if qa6 args=true then (qbl ⟨0,[]⟩ ss args).bind fun args'=>(pf args').bind fun v=>some (v,H)
 else (qbl H ss args).bind fun args'=>(pf args').bind fun v=>if qg8 v=true then some (v,H) else none
theorem qxu{C:Ctx} {f:FuncId} {pf:List AV->Option AV} (h:∀args v,pf args=some v->CallAt C f args ⟨0,[]⟩ v ⟨0,[]⟩) (ss:List (List Nat)) :
  ∀args H v H',qkb ss pf args H=some (v,H')->CallAt C f args H v H':=by
 intro args H v H' hv ρ w xs sm hx;unfold qkb at hv;split at hv
 next hp=>obtain⟨args',ha,hv⟩:=obs hv;obtain⟨u,hu,hv⟩:=obs hv;simp only[sj,jg]at hv;obtain⟨rfl,rfl⟩:=hv;have hf:=qgf (H:=⟨0,[]⟩) jK ha;exact((h _ _ hu).norm hf).lift hp H ρ w xs sm hx
 ·obtain⟨args',ha,hv⟩:=obs hv;obtain⟨u,hu,hv⟩:=obs hv;split at hv
  next hs=>simp only[sj,jg]at hv;obtain⟨rfl,rfl⟩:=hv;exact(h _ _ hu).borrow hs (fun hn=>qob hn) (qgf sm.nodup ha) ρ w xs sm hx
  ·cases hv
open Classical in
def pfOf{α:Type} (enc:α->List AV) (pre:α->Prop) (post:α->AV):List AV->Option AV:=fun args=>
 if h:∃x,args=enc x/\pre x then some (post h.choose) else none
theorem zaf{α:Type} {enc:α->List AV} {pre:α->Prop} {post:α->AV} (inj:∀x y,enc x=enc y->x=y) {x:α} (hx:pre x):pfOf enc pre post (enc x)=some (post x):=by unfold pfOf;have h:∃y,enc x=enc y/\pre y:=⟨x,rfl,hx⟩;rw[dif_pos h,<- inj _ _ h.choose_spec.1]
theorem pfOf_ok{α:Type} {enc:α->List AV} {pre:α->Prop} {post:α->AV} {C:Ctx} {f:FuncId} (h:∀x,pre x->CallAt C f (enc x) ⟨0,[]⟩ (post x) ⟨0,[]⟩) :
  ∀args v,pfOf enc pre post args=some v->CallAt C f args ⟨0,[]⟩ v ⟨0,[]⟩:=by
 intro args v hv;unfold pfOf at hv;split at hv
 ·rename_i hx;simp only[sj]at hv;subst hv;have hs:=hx.choose_spec;have:=h _ hs.2
  rwa [<- hs.1]at this
 ·cases hv
structure Entry (P:Program) where
 f:FuncId
 g:List AV->Heap->Option (AV × Heap)
 ok:∀args H v H',g args H=some (v,H')->CallAt ⟨P,fun _=>[],fun _=>none⟩ f args H v H'
def qac{P:Program} (f:FuncId):List (Entry P)->Option (List AV->Heap->Option (AV × Heap))
 |[]=>none
 |e::r=>match Nat.beq e.f f with
  |true=>some e.g
  |false=>qac f r
def mkC(P:Program) (keep:FuncId->List Nat) (T:List (Entry P)):Ctx:={ P:=P,keep:=keep,summ:=fun f=>qac f T }
theorem qxh{P:Program} {f:FuncId} {g:List AV->Heap->Option (AV × Heap)}:∀{T:List (Entry P)},qac f T=some g->∀args H v H',g args H=some (v,H')->CallAt ⟨P,fun _=>[],fun _=>none⟩ f args H v H'
 |[],h=>by cases h
 |e::r,h=>by
  unfold qac at h;split at h
  next hb=>simp only[sj]at h;subst h;rw[<- Nat.eq_of_beq_eq_true hb];exact e.ok
  ·exact qxh h
theorem zav(P:Program) (keep:FuncId->List Nat) (T:List (Entry P)):quo (mkC P keep T):=fun _ _ h=>qxh h
theorem mkC_call(P:Program) (keep:FuncId->List Nat) (T:List (Entry P)) (hm:P.follows .mixedOrders=true):CallOK (mkC P keep T) (qb5 (mkC P keep T)):=callL_ok (zav P keep T)
structure Fact (C:Ctx) where
 f:FuncId
 args:List AV
 H:Heap
 v:AV
 H':Heap
 ok:CallAt C f args H v H'
open Classical in
def qdz{C:Ctx}:List (Fact C)->qck->qck
 |[],call,c,args,H=>call c args H
 |x::r,call,c,args,H=>if c=.fn x.f/\args=x.args/\H=x.H then some (x.v,x.H') else qdz r call c args H
theorem qnr{C:Ctx} {call:qck} (hc:CallOK C call):∀(l:List (Fact C)),CallOK C (qdz l call)
 |[]=>hc
 |x::r=>{
  fn:=fun f args H v H' h=>by
   unfold qdz at h;split at h
   next hx=>obtain⟨hf,rfl,rfl⟩:=hx;simp only[sj,jg]at h;obtain⟨rfl,rfl⟩:=h;cases hf;exact x.ok
   ·exact(qnr hc r).fn f args H v H' h
  yl:=fun b args H v H' h=>by
   unfold qdz at h;split at h
   next hx=>cases hx.1
   ·exact(qnr hc r).yl b args H v H' h }
attribute [simp] qbo qau
@[simp]theorem fitV_undef{σ:List (Nat × Nat)} {Φ:List (Nat × List AV)} {v:AV}:qas σ Φ v .undef:=by cases v<;>simp[qas]
theorem qfd{α:Type}:∀(l:List α),qey l.length l=some l
 |[]=>rfl
 |x::r=>by simp[qey,qfd r]
@[simp]theorem zcd(cs:List AV):AV.cells (.agg cs)=cs:=rfl
@[simp]theorem cells_str(s:List UInt8):AV.cells (.str s)=[.str s]:=rfl
@[simp]theorem cells_int(k:IntKind) (n:Int):AV.cells (.int k n)=[.int k n]:=rfl
@[simp]theorem cells_bool(b:Bool):AV.cells (.bool b)=[.bool b]:=rfl
@[simp]theorem cells_ptr(b o:Nat):AV.cells (.ptr b o)=[.ptr b o]:=rfl
@[simp]theorem cells_fptr(cs:List AV) (o:Nat):AV.cells (.fptr cs o)=[.fptr cs o]:=rfl
@[simp]theorem cells_slc(b o n:Nat) (c:Cap):AV.cells (.slc b o n c)=[.slc b o n c]:=rfl
@[simp]theorem cells_fslc(n:Nat) (es:List AV):AV.cells (.fslc n es)=[.fslc n es]:=rfl
@[simp]theorem cells_nilS  : AV.cells (.nilS)=[.nilS]:=rfl
@[simp]theorem cells_nilP  : AV.cells (.nilP)=[.nilP]:=rfl
@[simp]theorem cells_nilM  : AV.cells (.nilM)=[.nilM]:=rfl
@[simp]theorem cells_map(b:Nat):AV.cells (.map b)=[.map b]:=rfl
@[simp]theorem cells_func(f:Go.Fn) (a c:List AV):AV.cells (.func f a c)=[.func f a c]:=rfl
@[simp]theorem cells_nilF  : AV.cells (.nilF)=[.nilF]:=rfl
section
variable {α:Type} {x y:α} {r vs:List α} {i o n:Nat}
@[simp]theorem getL_c0:qcb (x::r) 0=some x:=rfl
@[simp]theorem getL_cS:qcb (x::r) (i+1)=qcb r i:=rfl
@[simp]theorem getL_nil:qcb ([]:List α) i=none:=rfl
@[simp]theorem takeL_0:qey 0 r=some []:=by unfold qey;rfl
@[simp]theorem takeL_cS:qey (n+1) (x::r)=(qey n r).bind fun r'=>some (x::r'):=rfl
@[simp]theorem overL_n:qin [] r=some r:=by unfold qin;rfl
@[simp]theorem overL_c:qin (y::vs) (x::r)=(qin vs r).bind fun r'=>some (y::r'):=rfl
@[simp]theorem layL_0:qiz vs 0 (x::r)=qin vs (x::r):=rfl
@[simp]theorem layL_n0:qiz vs 0 []=qin vs []:=rfl
@[simp]theorem layL_cS:qiz vs (o+1) (x::r)=(qiz vs o r).bind fun r'=>some (x::r'):=rfl
@[simp]theorem subL_0:qfe 0 n (x::r)=qey n (x::r):=rfl
@[simp]theorem subL_cS:qfe (o+1) n (x::r)=qfe o n r:=rfl
@[simp]theorem subL_nn:qfe o 0 r=some []:=by unfold qfe;simp
end
theorem qpz{H H':Heap} {sz:Nat} {v:AV} (h:qa2 v=true):qiy H sz v=qiy H' sz v:=by cases v<;>first|rfl|simp[qa2]at h
theorem qjn{H H':Heap}:∀{ss:List Nat} {l:List AV},qa6 l=true->qk9 H ss l=qk9 H' ss l
 |_,[],_=>rfl
 |ss,a::r,h=>by simp only[qa6,jf]at h;simp only[qk9,qpz (H':=H') h.1,qjn (H':=H') h.2]
theorem qxt{H H':Heap} {ss:List Nat} {v:AV} (h:qa2 v=true):qco H ss v=qco H' ss v:=by
 unfold qco;split
 ·rfl
 ·rename_i hno;clear hno;cases v
  case agg cs=>simp only[qjn (H':=H') (show qa6 cs=true from h)]
  case func fn a c=>
   simp only[qa2,jf]at h;simp only[qjn (H':=H') h.1,qjn (H':=H') h.2]
  all_goals exact qpz h
theorem qpy{H H':Heap}:∀{ss:List (List Nat)} {l:List AV},qa6 l=true->qbl H ss l=qbl H' ss l
 |_,[],_=>rfl
 |ss,a::r,h=>by simp only[qa6,jf]at h;simp only[qbl,qxt (H':=H') h.1,qpy (H':=H') h.2]
section
variable {P:Program} {α:Type}
def mkE(f:FuncId) (ss:List (List Nat)) (enc:α->List AV) (pre:α->Prop) (post:α->AV) (h:∀x,pre x->CallAt ⟨P,fun _=>[],fun _=>none⟩ f (enc x) ⟨0,[]⟩ (post x) ⟨0,[]⟩):Entry P:=
 ⟨f,qkb ss (pfOf enc pre post),qxu (pfOf_ok h) ss⟩
theorem qf8{C:Ctx} {f:FuncId} {g:List AV->Heap->Option (AV × Heap)} (h:C.summ f=some g) (args:List AV) (H:Heap):qb5 C (.fn f) args H=g args H:=by unfold qb5;simp only[h]
variable {keep:FuncId->List Nat} {T:List (Entry P)} {f:FuncId} {ss:List (List Nat)} {enc:α->List AV} {pre:α->Prop} {post:α->AV} {h:∀x,pre x->CallAt ⟨P,fun _=>[],fun _=>none⟩ f (enc x) ⟨0,[]⟩ (post x) ⟨0,[]⟩}
theorem qds(hT:qac f T=some (mkE f ss enc pre post h).g) (inj:∀x y,enc x=enc y->x=y) (x:α) (hx:pre x) {args:List AV} (hp:qa6 args=true) (ht:qbl ⟨0,[]⟩ ss args=some (enc x)) (H:Heap):qb5 (mkC P keep T) (.fn f) args H=some (post x,H):=by rw[qf8 (g:=(mkE f ss enc pre post h).g) hT];show qkb ss (pfOf enc pre post) args H=_;unfold qkb;rw[jo hp,ht];simp only[jc,zaf inj hx]
theorem mkE_thaw(hT:qac f T=some (mkE f ss enc pre post h).g) (inj:∀x y,enc x=enc y->x=y) (x:α) (hx:pre x) (hs:qg8 (post x)=true) {args:List AV} {H:Heap} (hp:qa6 args=false) (ht:qbl H ss args=some (enc x)) :
  qb5 (mkC P keep T) (.fn f) args H=some (post x,H):=by
 rw[qf8 (g:=(mkE f ss enc pre post h).g) hT];show qkb ss (pfOf enc pre post) args H=_;unfold qkb;rw[hp,jm (by simp),ht];simp only[jc,zaf inj hx,hs,jQ]
theorem qb9(hT:qac f T=some (mkE f ss enc pre post h).g) (inj:∀x y,enc x=enc y->x=y) (x:α) (hx:pre x) (hs:qg8 (post x)=true) {args:List AV} {H:Heap} (ht:qbl H ss args=some (enc x)) :
  qb5 (mkC P keep T) (.fn f) args H=some (post x,H):=by
 cases hp:qa6 args with
 |true=>exact qds hT inj x hx hp (by rw[<- ht];exact qpy hp) H
 |false=>exact mkE_thaw hT inj x hx hs hp ht
end
section
variable {H:Heap} {ss:List Nat}
@[simp]theorem thawL_nil{ss:List (List Nat)}:qbl H ss []=some []:=by unfold qbl;rfl
@[simp]theorem thawL_cons{ss:List (List Nat)} {a:AV} {r:List AV}:qbl H ss (a::r)=(qco H (ss.headD []) a).bind fun a'=>(qbl H ss.tail r).bind fun r'=>some (a'::r'):=by
 conv=>lhs;unfold qbl
theorem qam{v:AV} (h:okV v=true):qco H ss v=some v:=by unfold qco;rw[jo h]
@[simp]theorem thawA_str(s:List UInt8):qco H ss (.str s)=some (.str s):=qam rfl
@[simp]theorem thawA_int(k:IntKind) (n:Int):qco H ss (.int k n)=some (.int k n):=qam rfl
@[simp]theorem thawA_bool(b:Bool):qco H ss (.bool b)=some (.bool b):=qam rfl
@[simp]theorem thawA_fslc(n:Nat) (es:List AV):qco H ss (.fslc n es)=some (.fslc n es):=qam rfl
theorem qqm{sz:Nat} (h1:1 < sz):∀{es:List AV},(∀e,e∈es->∃cs,e=.agg cs/\cs.length=sz)->chunk sz es.length (qaa es)=es
 |[],_=>rfl
 |e::r,h=>by
  obtain⟨cs,rfl,hc⟩:=h e (by simp);have hne:¬ sz=1:=by omega
  simp only[jE,chunk,qaa,zcd,hne,jM];rw[List.take_append_of_le_length (by omega),ju (by omega),List.drop_append_of_le_length (by omega),List.drop_of_length_le (by omega),jv,qqm h1 fun e he=>h e (by simp[he])]
theorem qu9:∀{es:List AV},(∀e,e∈es->e.cells=[e])->chunk 1 es.length (qaa es)=es
 |[],_=>rfl
 |e::r,h=>by have h0:=h e (by simp);simp only[jE,chunk,qaa,h0,jQ,List.cons_append,jv,List.headD_cons,List.drop_succ_cons,yq];rw[qu9 fun e he=>h e (by simp[he])]
theorem qjv{sz:Nat}:∀{es:List AV},(∀e,e∈es->e.cells.length=sz)->qgm sz es=true
 |[],_=>rfl
 |e::r,h=>by unfold qgm;rw[h e (by simp),jC];exact qjv fun e he=>h e (by simp[he])
theorem qs2{sz:Nat}:∀{es:List AV},(∀e,e∈es->e.cells.length=sz)->(qaa es).length=es.length * sz
 |[],_=>by simp[qaa]
 |e::r,h=>by have ih:=qs2 (es:=r) fun e he=>h e (ji _ he);simp only[qaa,js,jE,h e (by simp),ih];rw[Nat.add_mul];omega
theorem qp2:∀{es:List AV},(∀e,e∈es->qa6 e.cells=true)->qa6 (qaa es)=true
 |[],_=>rfl
 |e::r,h=>by have ih:=qp2 (es:=r) fun e he=>h e (ji _ he);simp only[qaa,qdr,h e (by simp),ih,Jd]
structure Elems (sz:Nat) (es:List AV):Prop where
 sz0:sz≠0
 all:∀e,e∈es->e.cells.length=sz/\qa6 e.cells=true/\(sz=1->e.cells=[e])/\(sz≠1->∃cs,e=.agg cs)
theorem Elems.chunk{sz:Nat} {es:List AV} (h:Elems sz es):Proofs.YtnfdakclfmchfaaGreat.chunk sz es.length (qaa es)=es:=by
 by_cases h1:sz=1
 ·subst h1;exact qu9 fun e he=>(h.all e he).2.2.1 rfl
 ·have:=h.sz0;refine qqm (by omega) fun e he=>?_;obtain⟨cs,rfl⟩:=(h.all e he).2.2.2 h1;exact⟨cs,rfl,(h.all _ he).1⟩
theorem qsw{sz:Nat} {r:List Nat} {b:Nat} {cap:Cap} {es:List AV} (he:Elems sz es) (h:H.get b=some (.cells (qaa es))):qco H (sz::r) (.slc b 0 es.length cap)=some (.fslc sz es):=by
 have hl:=qs2 fun e h=>(he.all e h).1;have hp:=qp2 fun e h=>(he.all e h).2.1;have hz:=qjv fun e h=>(he.all e h).1;have hs:qfe 0 (es.length * sz) (qaa es)=some (qaa es):=by unfold qfe;rw[yq,<- hl,qfd]
 unfold qco;rw[jm (by simp[okV,qa2])];simp only[qiy,List.headD_cons,h,hp,jQ,hs,he.chunk,hz,and_self]
end
theorem CallAt.thaw{C:Ctx} {f:FuncId} {args args':List AV} {v:AV} (h:CallAt C f args' ⟨0,[]⟩ v ⟨0,[]⟩) (hs:qg8 v=true) (ss:List (List Nat)) {H:Heap} (ht:qbl H ss args=some args'):CallAt C f args H v H:=
 fun ρ w xs sm hx=>h.borrow hs (fun hn=>qob hn) (qgf sm.nodup ht) ρ w xs sm hx
theorem qai{H:Heap} {u v:AV} (hp:qa2 u=true) (h:u=v):∃σ Φ,qas σ Φ u v/\FitH 0 σ Φ H ⟨0,[]⟩:=⟨[],[],by rw[<- h];exact qbo hp,FitH.empty⟩
theorem qbn{i n:Nat} (h:i < n):idx (i:Int) n=some i:=by
 have:Nat.blt i n=true:=by simpa using h
 show (match Nat.blt i n with|true=>some i|false=>none)=_;rw[this]
theorem qge{α β:Type} {f:α->β}:∀{l:List α} {i:Nat} (h:i < l.length),qcb (l.map f) i=some (f l[i])
 |[],i,h=>absurd h (j3 i)
 |x::r,0,_=>rfl
 |x::r,i+1,h=>by have:=qge (f:=f) (l:=r) (i:=i) (by simpa using h);simpa[qcb]using this
theorem qf5{α:Type}:∀{l:List α} {i:Nat} (h:i < l.length),qcb l i=some l[i]
 |[],i,h=>absurd h (j3 i)
 |x::r,0,_=>rfl
 |x::r,i+1,h=>by have:=qf5 (l:=r) (i:=i) (by simpa using h);simpa[qcb]using this
theorem qbi{n:Int} (h1 : -1000000000000<=n) (h2:n<=1000000000000):wr .i64 n=some n:=by have:zbs n=true:=fits64_iff.2 (by omega);simp[wr,this]
theorem qbb{i:Nat} (h:i<=1000000000):wr .i64 ((i:Int)+1)=some ((i+1:Nat):Int):=by rw[qbi (by omega) (by omega)];simp
theorem qka{α:Type}:∀{n:Nat} {l:List α},n<=l.length->qey n l=some (l.take n)
 |0,_,_=>rfl
 |n+1,[],h=>by simp at h
 |n+1,x::r,h=>by simp[qey,qka (n:=n) (l:=r) (by simpa using h)]
theorem qm4{α:Type} {o n:Nat} {l:List α} (h:o+n<=l.length):qfe o n l=some ((l.drop o).take n):=by unfold qfe;exact qka (by simp;omega)
section
variable {P:Program} {t:TypeId} {k:IntKind} {a b:Int} {x y:List UInt8}
@[simp]theorem bin_add:qex P .add t (.int k a) (.int k b)=(wr k (a+b)).bind fun n=>some (.int k n):=by simp[qex,qot]
@[simp]theorem bin_sub:qex P .sub t (.int k a) (.int k b)=(wr k (a - b)).bind fun n=>some (.int k n):=by simp[qex,qot]
@[simp]theorem bin_lss:qex P .lss t (.int k a) (.int k b)=some (.bool (decide (a < b))):=by simp[qex,qot]
@[simp]theorem bin_leq:qex P .leq t (.int k a) (.int k b)=some (.bool (decide (a<=b))):=by simp[qex,qot]
@[simp]theorem bin_gtr:qex P .gtr t (.int k a) (.int k b)=some (.bool (decide (b < a))):=by simp[qex,qot]
@[simp]theorem bin_geq:qex P .geq t (.int k a) (.int k b)=some (.bool (decide (b<=a))):=by simp[qex,qot]
@[simp]theorem bin_eql:qex P .eql t (.int k a) (.int k b)=some (.bool (decide (a=b))):=by simp only[qex,qot,jQ];congr 2
@[simp]theorem bin_neq:qex P .neq t (.int k a) (.int k b)=some (.bool (!decide (a=b))):=by simp only[qex,qot,jQ,bne];congr 3
@[simp]theorem un_not{c:Bool}:unA .not (.bool c)=some (.bool !c):=rfl
@[simp]theorem bin_seql:qex P .eql t (.str x) (.str y)=some (.bool (decide (x=y))):=by simp[qex,qqx,qln]
@[simp]theorem bin_sneq:qex P .neq t (.str x) (.str y)=some (.bool (!decide (x=y))):=by simp[qex,qqx,qln]
end
set_option maxRecDepth 100000
theorem zN:type_of% (And.intro @ofV.eq_1 (And.intro @ofV.eq_2 (And.intro @ofV1.eq_1 (And.intro @ofV1.eq_2 (And.intro @ofV1.eq_3 (And.intro @ofV1.eq_4 (And.intro @ofV1.eq_5 (And.intro @ofV1.eq_6 (And.intro @ofV1.eq_7 (And.intro @ofV1.eq_8 ((((And.intro @writeVar.eq_1 (And.intro @writeVar.eq_2 (And.intro @writeCells.eq_1 (And.intro @readCells.eq_1 (And.intro @allSingle.eq_1 (And.intro @allSingle.eq_2 (And.intro @AV.single.eq_1 (And.intro @AV.single.eq_2 (And.intro @AV.single.eq_3 (And.intro @AV.single.eq_4 (And.intro @getFs.eq_1 (And.intro @getFs.eq_2 (And.intro @getF.eq_1 (And.intro @getF.eq_2 (And.intro @setFs.eq_1 (And.intro @setFs.eq_2 (And.intro @setF.eq_1 (And.intro @setF.eq_2 (And.intro @Heap.get.eq_1 (And.intro @Heap.set.eq_1 (And.intro @Heap.new.eq_1 (And.intro @Heap.kill.eq_1 (And.intro @killF.eq_1 (And.intro @killF.eq_2 (And.intro @pushF.eq_1 (And.intro @pushF.eq_2 (And.intro @sliceParts.eq_1 (And.intro @fillA.eq_1 (And.intro @fillA.eq_2 (And.intro @replL.eq_1 (@replL.eq_2)))))))))))))))))))))))))))))))))))))))))))):=And.intro @ofV.eq_1 (And.intro @ofV.eq_2 (And.intro @ofV1.eq_1 (And.intro @ofV1.eq_2 (And.intro @ofV1.eq_3 (And.intro @ofV1.eq_4 (And.intro @ofV1.eq_5 (And.intro @ofV1.eq_6 (And.intro @ofV1.eq_7 (And.intro @ofV1.eq_8 ((((And.intro @writeVar.eq_1 (And.intro @writeVar.eq_2 (And.intro @writeCells.eq_1 (And.intro @readCells.eq_1 (And.intro @allSingle.eq_1 (And.intro @allSingle.eq_2 (And.intro @AV.single.eq_1 (And.intro @AV.single.eq_2 (And.intro @AV.single.eq_3 (And.intro @AV.single.eq_4 (And.intro @getFs.eq_1 (And.intro @getFs.eq_2 (And.intro @getF.eq_1 (And.intro @getF.eq_2 (And.intro @setFs.eq_1 (And.intro @setFs.eq_2 (And.intro @setF.eq_1 (And.intro @setF.eq_2 (And.intro @Heap.get.eq_1 (And.intro @Heap.set.eq_1 (And.intro @Heap.new.eq_1 (And.intro @Heap.kill.eq_1 (And.intro @killF.eq_1 (And.intro @killF.eq_2 (And.intro @pushF.eq_1 (And.intro @pushF.eq_2 (And.intro @sliceParts.eq_1 (And.intro @fillA.eq_1 (And.intro @fillA.eq_2 (And.intro @replL.eq_1 (@replL.eq_2)))))))))))))))))))))))))))))))))))))))))))
theorem zR:type_of% (And.intro @refs.eq_1 (And.intro @refs.eq_2 (And.intro @refs.eq_3 (And.intro @refs.eq_4 (And.intro @refs.eq_5 (And.intro @refs.eq_6 (And.intro @refs.eq_7 (And.intro @refs.eq_8 (And.intro @refs.eq_9 (((@Heap.ready.eq_1)))))))))))):=And.intro @refs.eq_1 (And.intro @refs.eq_2 (And.intro @refs.eq_3 (And.intro @refs.eq_4 (And.intro @refs.eq_5 (And.intro @refs.eq_6 (And.intro @refs.eq_7 (And.intro @refs.eq_8 (And.intro @refs.eq_9 (((@Heap.ready.eq_1)))))))))))
theorem zS:type_of% (And.intro zN zR):=And.intro zN zR
theorem zQ:type_of% (And.intro @retVal.eq_1 (And.intro @retVal.eq_2 (And.intro @retVal.eq_3 (And.intro @oneOr.eq_1 @oneOr.eq_2)))):=And.intro @retVal.eq_1 (And.intro @retVal.eq_2 (And.intro @retVal.eq_3 (And.intro @oneOr.eq_1 @oneOr.eq_2)))
theorem zG:type_of% (And.intro @getFs.eq_1 (And.intro @getFs.eq_2 (And.intro @getF.eq_1 (And.intro @getF.eq_2 @Heap.get.eq_1)))):=And.intro @getFs.eq_1 (And.intro @getFs.eq_2 (And.intro @getF.eq_1 (And.intro @getF.eq_2 @Heap.get.eq_1)))
theorem ql0{α:Type} {a b c:List α} {o n:Nat} (h1:a.length=o) (h2:b.length=n):qfe o n (a++b++c)=some b:=by subst h1;subst h2;unfold qfe;rw[List.append_assoc,yX,qka (by simp),List.take_left]
theorem qtf{α:Type}:∀{b b' c:List α},b.length=b'.length->qin b' (b++c)=some (b'++c)
 |[],[],c,_=>rfl
 |x::b,y::b',c,h=>by simp only[qin,List.cons_append];rw[qtf (by simpa using h)];rfl
 |[],_::_,_,h=>by simp at h
 |_::_,[],_,h=>by simp at h
theorem qfz{α:Type} {b b' c:List α} (h:b.length=b'.length):∀{a:List α},qiz b' a.length (a++b++c)=some (a++b'++c)
 |[]=>by simpa[qiz]using qtf h
 |x::a=>by simp only[jE,qiz,List.cons_append];rw[qfz h];rfl
theorem qbv(a b:List AV):qaa (a++b)=qaa a++qaa b:=by
 induction a with
 |nil=>rfl
 |cons x r ih=>simp[qaa,ih]
theorem qym{es:List AV} {i:Nat} (h:i < es.length):qaa es=qaa (es.take i)++es[i].cells++qaa (es.drop (i+1)):=by
 have e:es=es.take i++(es[i]::es.drop (i+1)):=by rw[<- List.drop_eq_getElem_cons h,List.take_append_drop]
 conv=>lhs;rw[e]
 rw[qbv,qaa,List.append_assoc]
theorem Elems.take{sz:Nat} {es:List AV} (h:Elems sz es) (i:Nat):Elems sz (es.take i):=⟨h.sz0,fun e he=>h.all e (yf he)⟩
theorem Elems.drop{sz:Nat} {es:List AV} (h:Elems sz es) (i:Nat):Elems sz (es.drop i):=⟨h.sz0,fun e he=>h.all e (jZ he)⟩
theorem Elems.len{sz:Nat} {es:List AV} (h:Elems sz es):(qaa es).length=es.length * sz:=qs2 fun e he=>(h.all e he).1
theorem Elems.pure{sz:Nat} {es:List AV} (h:Elems sz es):qa6 (qaa es)=true:=qp2 fun e he=>(h.all e he).2.1
theorem Elems.size{sz:Nat} {es:List AV} (h:Elems sz es):qgm sz es=true:=qjv fun e he=>(h.all e he).1
theorem Elems.append{sz:Nat} {a b:List AV} (h:Elems sz a) (k:Elems sz b):Elems sz (a++b):=⟨h.sz0,fun e he=>(je.1 he).elim (h.all e) (k.all e)⟩
theorem lay_at{sz:Nat} {es:List AV} (h:Elems sz es) {i:Nat} (hi:i < es.length) {e:AV} (he:e.cells.length=sz):qiz e.cells (i * sz) (qaa es)=some (qaa (es.set i e)):=by
 rw[qym hi];have h1:(qaa (es.take i)).length=i * sz:=by rw[(h.take i).len,jL,yC (by omega)]
 have h2:es[i].cells.length=e.cells.length:=by rw[he];exact(h.all _ (jA hi)).1
 rw[<- h1,qfz h2,List.set_eq_take_append_cons_drop,jo hi,qbv,qaa,List.append_assoc]
theorem qfj{a b:List AV}:allSingle (a++b)=(allSingle a && allSingle b):=by
 induction a with
 |nil=>simp[allSingle]
 |cons x r ih=>cases h:x.single<;>simp[allSingle,h,ih]
theorem lay_end{sz:Nat} {es:List AV} (h:Elems sz es) {i:Nat} (hi:i<=es.length) {l:List AV} (hl:l.length=(es.length - i) * sz):qiz l (i * sz) (qaa es)=some (qaa (es.take i)++l):=by
 have e:qaa es=qaa (es.take i)++qaa (es.drop i)++[]:=by rw[jh,<- qbv,List.take_append_drop]
 have h1:(qaa (es.take i)).length=i * sz:=by rw[(h.take i).len,jL,yC hi]
 rw[e,<- h1,qfz (by rw[(h.drop i).len,hl,yP]),jh]
theorem qt8{z:List AV}:∀(n:Nat),(replL z n).length=n * z.length
 |0=>by simp[replL]
 |n+1=>by simp only[replL,js,qt8 n];rw[Nat.add_mul];omega
theorem qnz{sz:Nat} {es:List AV} (h:Elems sz es) {k:Nat} (hk:k<=es.length):qfe 0 (k * sz) (qaa es)=some (qaa (es.take k)):=by
 have e:qaa es=[]++qaa (es.take k)++qaa (es.drop k):=by rw[jv,<- qbv,List.take_append_drop]
 rw[e];exact ql0 rfl (by rw[(h.take k).len,jL,yC hk])
theorem Elems.map{α:Type} {f:α->AV} {sz:Nat} (h0:sz≠0) (h:∀x,(f x).cells.length=sz/\qa6 (f x).cells=true/\(sz=1->(f x).cells=[f x])/\(sz≠1->∃cs,f x=.agg cs)) (l:List α):Elems sz (l.map f):=
 ⟨h0,fun e he=>by obtain⟨x,_,rfl⟩:=jw.1 he;exact h x⟩
def qce(b sz:Nat) (es:List AV):AV:=match es with
 |[]=>.zslc
 |_::_=>.slc b 0 es.length (.rest sz)
def qcg(b:Nat) (es:List AV):List (Nat × Blk):=match es with
 |[]=>[]
 |_::_=>[(b,.cells (qaa es))]
def qki(H:Heap) (es:List AV):Heap:=match es with
 |[]=>H
 |_::_=>H.new (.cells (qaa es))
theorem zai{b:Nat} {es:List AV} {f g:List (Nat × Blk)} {n:Nat} {fs:List (List (Nat × Blk))} (h:∀e,e∈f++g->e.1≠b) (h2:∀e,e∈fs.flatten->e.1≠b):Heap.drop ⟨n,(f++(qcg b es++g))::fs⟩ b=⟨n,(f++g)::fs⟩:=by
 have miss:∀(l:List (Nat × Blk)),(∀e,e∈l->e.1≠b)->getF b l=none:=by
  intro l;induction l with
  |nil=>intro _;rfl
  |cons e r ih=>intro h;unfold getF;rw[qax (h e (by simp))];exact ih fun x hx=>h x (by simp[hx])
 have stay:∀(l:List (Nat × Blk)),(∀e,e∈l->e.1≠b)->killF b l=l:=by
  intro l;induction l with
  |nil=>intro _;rfl
  |cons e r ih=>intro h;unfold killF;rw[qax (h e (by simp))];simp only;rw[ih fun x hx=>h x (by simp[hx])]
 have stayF:∀(l:List (List (Nat × Blk))),(∀e,e∈l.flatten->e.1≠b)->qg0 b l=l:=by
  intro l;induction l with
  |nil=>intro _;rfl
  |cons f r ih=>intro h;unfold qg0;rw[miss f fun e he=>h e (by simp[he])];simp only;rw[ih fun e he=>h e (by rw[jq];exact jV _ he)]
 unfold Heap.drop;simp only;congr 1;cases es with
 |nil=>simp only[qcg,jv];rw[stayF];intro e he;rw[jq]at he;exact(je.1 he).elim (h e) (h2 e)
 |cons x r=>
  have hit:∀(l:List (Nat × Blk)),(∀e,e∈l->e.1≠b)->∀k,getF b (l++((b,k)::g))=some k/\killF b (l++((b,k)::g))=l++g:=by
   intro l;induction l with
   |nil=>intro _ k;simp[getF,killF]
   |cons e r ih=>intro h k;obtain⟨i1,i2⟩:=ih (fun x hx=>h x (by simp[hx])) k;simp only[List.cons_append];unfold getF killF;rw[qax (h e (by simp))];exact⟨i1,by simp[i2]⟩
  obtain⟨i1,i2⟩:=hit f (fun e he=>h e (j9 _ he)) (.cells (qaa (x::r)));simp only[qcg,List.cons_append,jv];unfold qg0;rw[i1];simp only[i2]
theorem qbr{b sz:Nat} {es:List AV} (h:es≠[]):qce b sz es=.slc b 0 es.length (.rest sz):=by cases es<;>first|exact absurd rfl h|rfl
theorem qd4{b:Nat} {es:List AV} (h:es≠[]):qcg b es=[(b,.cells (qaa es))]:=by cases es<;>first|exact absurd rfl h|rfl
theorem qia{P:Program} {H:Heap} {elem:TypeId} {b sz by_ n:Nat} {es cs:List AV} {x z:AV} (hsz:qcj P elem=some sz) (hby:qch P elem=some by_) (hz:qby P elem=some z) (hzl:z.cells.length=sz) (h0:sz≠0) (hb0:by_≠0)
  (hx:qd5 x=some (n+1)) (hc:qbj H sz (n+1) x=some cs) (hcl:cs.length=(n+1) * sz) (hcs:allSingle cs=true) (he:Elems sz es) (hroom:(es.length+(n+1)) * by_<=17592186044416)
  (hb:es≠[]->H.get b=some (.cells (qaa es))) (hd:es=[]->H.drop b=H)
  (hrow:∀cs,qpj P elem cs=.cells cs):qbs P H elem (qce b sz es) x=some (.slc H.n 0 (es.length+(n+1)) (.rest sz),(H.drop b).new (.cells (qaa es++cs))):=by
 have c0:(Nat.beq sz 0 || !(Nat.beq z.cells.length sz && Nat.blt 0 by_))=false:=by
  have h1:Nat.beq sz 0=false:=qax h0;have h2:Nat.blt 0 by_=true:=by simp;omega
  rw[h1,hzl,jC,h2];rfl
 have hr:qdg (es.length+(n+1)) by_=true:=by unfold qdg;rw[jW];exact hroom
 have hcb:Nat.beq cs.length ((n+1) * sz)=true:=by rw[hcl];exact jC _
 unfold qbs;simp only[hsz,hby,hz,hx,jc,c0];cases es with
 |nil=>simp only[qce];simp only[yd,jS]at hr;simp only[hr,hc,jc,hcb,hd rfl,qaa,jv,yd,jS,hrow]
 |cons e r=>
  have hg:=hb (by simp);have hl:(qaa (e::r)).length=(e::r).length * sz:=he.len;simp only[qce,hc,jc,hr,hcs];have h1:Nat.beq sz sz=true:=jC _;have hk:qbx H b=some ((e::r).length * sz):=by unfold qbx;simp only[hg,jc,qgd,hl]
  have h2:Nat.ble (0+((e::r).length+(n+1)) * sz) ((e::r).length * sz)=false:=by rw[<- Bool.not_eq_true,jW,Nat.add_mul];have:0 < (n+1) * sz:=Nat.mul_pos (by omega) (by omega);omega
  have h3:Nat.beq (0+(e::r).length * sz) ((e::r).length * sz)=true:=by rw[jS];exact jC _
  have h4:readCells H b 0 ((e::r).length * sz)=some (qaa (e::r)):=by unfold readCells;simp only[hg,jc,qgd];unfold qfe;rw[yq,<- hl,qfd]
  simp only[h1,hk,jc,h2,h3,hcb,h4,hg,qqf]
theorem qf0{P:Program} {elem:TypeId} {b sz by_ t m:Nat} {es cs:List AV} {z:AV} {g:List (Nat × Blk)} {fs:List (List (Nat × Blk))} (hsz:qcj P elem=some sz) (hby:qch P elem=some by_) (hz:qby P elem=some z) (hzl:z.cells.length=sz)
  (h0:sz≠0) (hb0:by_≠0) (hcl:cs.length=sz) (hcs:allSingle cs=true) (he:Elems sz es) (hroom:(es.length+1) * by_<=17592186044416) (htb:t≠b) (hg:∀e,e∈g->e.1≠b) (hfs:∀e,e∈fs.flatten->e.1≠b) (hrow:∀cs,qpj P elem cs=.cells cs:=by intro cs;rfl) :
  qbs P ⟨m,((t,.cells cs)::(qcg b es++g))::fs⟩ elem (qce b sz es) (.slc t 0 1 (.ex 1))=some (.slc m 0 (es.length+1) (.rest sz),⟨m+1,((m,.cells (qaa es++cs))::(t,.cells cs)::g)::fs⟩):=by
 have hd:=zai (b:=b) (es:=es) (f:=[(t,.cells cs)]) (g:=g) (n:=m) (fs:=fs) (fun e he=>by
  rcases je.1 he with he|he
  ·simp at he;subst he;exact htb
  ·exact hg e he) hfs
 simp only[List.cons_append,jv]at hd;have hsub:qfe 0 sz cs=some cs:=by have:=qfd cs;rw[hcl]at this;unfold qfe;rw[yq];exact this
 have:=qia (P:=P) (H:=⟨m,((t,.cells cs)::(qcg b es++g))::fs⟩) (elem:=elem) (b:=b) (n:=0) (es:=es) (x:=.slc t 0 1 (.ex 1)) (cs:=cs) hsz hby hz hzl h0 hb0 rfl
  (by simp[qbj,readCells,Heap.get,getFs,getF,hsub]) (by simpa using hcl) hcs he (by simpa using hroom)
  (fun hne=>by rw[qd4 hne];simp[Heap.get,getFs,getF,qax htb]) (fun hes=>by subst hes;simpa[qcg]using hd) hrow
 rw[hd]at this;simpa[Heap.new,pushF]using this
theorem CallAt.new{C:Ctx} {f:FuncId} {args:List AV} {len:Nat} {cap:Cap} {cs:List AV} (h:CallAt C f args ⟨0,[]⟩ (.slc 0 0 len cap) ⟨1,[[(0,.cells cs)]]⟩) (hp:qa6 args=true) (hc:qa6 cs=true) (H:Heap) :
  CallAt C f args H (.slc H.n 0 len cap) (H.new (.cells cs)):=by
 intro ρ w xs sm hx;have up:∀{x:Value} {ρ':Place} {w':World},VR ρ' (.slc 0 0 len cap) x->Sim ρ' ⟨1,[[(0,.cells cs)]]⟩ w'->Step ρ.bare ⟨0,[]⟩ w ρ' ⟨1,[[(0,.cells cs)]]⟩ w' ->
   ∃ρ'',VR ρ'' (.slc H.n 0 len cap) x/\Sim ρ'' (H.new (.cells cs)) w'/\Step ρ H w ρ'' (H.new (.cells cs)) w':=by
  intro x ρ' w' h1 h2 h3;obtain⟨l,l1,l2,l3,l4⟩:=h2.live (0,.cells cs) (by simp[Heap.ents]);simp only at l1;have hrow:w.heap.size<=l.cb:=by
   rcases h3.rows (0,.cells cs) (by simp[Heap.ents]) l l1 with⟨e,he,_⟩|h
   ·cases he
   ·exact h
  have hkeep:∀k,k < w.heap.size->w'.heap[k]? = w.heap[k]?:=fun k hk=>h3.keeps k hk fun e he=>by cases he
  have hle:ρ.le { ρ' with at_:=fun b=>if b=H.n then some l else ρ b }:=⟨fun b m hb=>by show (if b=H.n then some l else ρ b)=some m;rw[jm (fun e=>by subst e;rw[sm.dom _ (ja _)]at hb;cases hb)];exact hb,h3.le.fz,h3.le.os,h3.le.tape,h3.le.output⟩;have hat:(({ ρ' with at_:=fun b=>if b=H.n then some l else ρ b }:Place)) H.n=some l:=jo rfl;have hother:∀b,b≠H.n->(({ ρ' with at_:=fun b=>if b=H.n then some l else ρ b }:Place)) b=ρ b:=fun b hb=>jm hb;have hid:∀e,e∈H.ents->e.1≠H.n:=fun e he=>by have:=sm.id_lt he;omega
  refine⟨{ ρ' with at_:=fun b=>if b=H.n then some l else ρ b },?_,⟨h2.base,h2.below,h2.os,h2.tape,h2.output,fun b hb=>?_,?_,fun e he=>?_,fun e e' he he' m m' hm hm' hcb=>?_⟩,
   ⟨hle,h3.size,fun k hk _=>hkeep k hk,fun e he m hm=>?_,Nat.le_succ _,fun b hb=>hother b (by omega),fun k hk=>?_⟩⟩
  ·cases h1 with
   |slcE b o len' c l' hl' hcap=>rw[l1]at hl';cases hl';exact .slcE _ _ _ c l hat hcap
   |slcR b o len' sz c l' hl' hcap hfin=>rw[l1]at hl';cases hl';exact .slcR _ _ _ _ c l hat hcap hfin
  ·have hb':H.n+1<=b:=hb;rw[hother b (by omega)];exact sm.dom b (by omega)
  ·rw[Heap.new_ents,List.map_cons,jp];exact⟨fun hm=>by obtain⟨e,he,hx⟩:=jw.1 hm;exact hid e he hx,sm.nodup⟩
  ·rw[Heap.new_ents]at he;rcases jd.1 he with rfl|he
   ·refine⟨l,hat,l2,l3,l4.1,l4.2.1,fun i hi=>?_⟩;obtain⟨y,hy,hv⟩:=l4.2.2 i hi;have hbl:ρ'.bare.le { ρ' with at_:=fun b=>if b=H.n then some l else ρ b }:=⟨fun _ _ h=>(by simp[Place.bare]at h),fun _ hk=>⟨hk,rfl⟩,rfl,rfl,rfl⟩;exact⟨y,hy,(hv.pure (qff hc i hi)).mono hbl⟩
   ·obtain⟨m,g1,g2,g3,g4⟩:=sm.live e he;refine⟨m,by rw[hother _ (hid e he)];exact g1,fun hB=>?_,jI g3 h3.size,(g4.same (hkeep _ g3)).mono hle⟩;rcases h3.cold _ hB with h|⟨e,he,_⟩|h
    ·exact g2 h
    ·cases he
    ·omega
  ·rw[Heap.new_ents]at he he';rcases jd.1 he with rfl|he<;>rcases jd.1 he' with rfl|he'
   ·rfl
   ·rw[hat]at hm;cases hm;rw[hother _ (hid e' he')]at hm';obtain⟨q,g1,_,g3,_⟩:=sm.live e' he';rw[hm']at g1;cases g1;omega
   ·rw[hat]at hm';cases hm';rw[hother _ (hid e he)]at hm;obtain⟨q,g1,_,g3,_⟩:=sm.live e he;rw[hm]at g1;cases g1;omega
   ·rw[hother _ (hid e he)]at hm;rw[hother _ (hid e' he')]at hm';exact sm.inj e e' he he' m m' hm hm' hcb
  ·rw[Heap.new_ents]at he;rcases jd.1 he with rfl|he
   ·rw[hat]at hm;cases hm;exact .inr hrow
   ·rw[hother _ (hid e he)]at hm;exact .inl ⟨e,he,m,hm,rfl⟩
  ·rcases h3.cold _ hk with h|⟨e,he,_⟩|h
   ·exact .inl h
   ·cases he
   ·exact .inr (.inr h)
 rcases h ρ.bare w xs sm.bare (hx.pure hp)with⟨x,ρ',w',h0,h1,h2,h3⟩|⟨g,ys,h0,h1⟩
 ·obtain⟨ρ'',k1,k2,k3⟩:=up h1 h2 h3;exact .inl ⟨x,ρ'',w',h0,k1,k2,k3⟩
 ·refine .inr ⟨g,ys,h0,h1.mono ?_⟩;rintro e w' ⟨x,ρ',rfl,m1,m2,m3⟩;obtain⟨ρ'',k1,k2,k3⟩:=up m1 m2 m3;exact⟨x,ρ'',rfl,k1,k2,k3⟩
theorem CallAt.own{C:Ctx} {f:FuncId} {args:List AV} {sz:Nat} {es:List AV} (he:Elems sz es) (h:CallAt C f args ⟨0,[]⟩ (qce 0 sz es) ⟨1,[qcg 0 es]⟩) (hp:qa6 args=true) (H:Heap) :
  CallAt C f args H (qce H.n sz es) (qki H es):=by
 cases es with
 |nil=>
  have h':CallAt C f args ⟨0,[]⟩ .zslc ⟨0,[]⟩:=by
   intro ρ w xs sm hx;have dn:∀{x:Value} {ρ':Place} {w':World},VR ρ' .zslc x->Sim ρ' ⟨1,[[]]⟩ w'->Step ρ ⟨0,[]⟩ w ρ' ⟨1,[[]]⟩ w'->∃ρ'',VR ρ'' .zslc x/\Sim ρ'' ⟨0,[]⟩ w'/\Step ρ ⟨0,[]⟩ w ρ'' ⟨0,[]⟩ w':=fun {x ρ' w'} h1 h2 h3=>(by have hd:∀b,ρ b=none:=fun b=>sm.dom b (jx _);refine⟨ρ'.bare,h1.pure rfl,h2.bare,⟨⟨fun b l hb=>(by rw[hd b]at hb;cases hb),h3.le.fz,h3.le.os,h3.le.tape,h3.le.output⟩,h3.size,h3.keeps,fun e he=>(by cases he),ja _,fun b hb=>absurd hb (j3 b),h3.cold⟩⟩);rcases h ρ w xs sm hx with⟨x,ρ',w',h0,h1,h2,h3⟩|⟨g,ys,h0,h1⟩
   ·obtain⟨ρ'',k1,k2,k3⟩:=dn h1 h2 h3;exact .inl ⟨x,ρ'',w',h0,k1,k2,k3⟩
   ·refine .inr ⟨g,ys,h0,h1.mono ?_⟩;rintro e w' ⟨x,ρ',rfl,m1,m2,m3⟩;obtain⟨ρ'',k1,k2,k3⟩:=dn m1 m2 m3;exact⟨x,ρ'',rfl,k1,k2,k3⟩
  exact h'.lift hp H
 |cons e r=>exact CallAt.new h hp he.pure H
theorem FitH.keep1{H:Heap} {b:Nat} {cs:List AV} (h:H.get b=some (.cells cs)) (hp:qa6 cs=true) {fs:List (List (Nat × Blk))} (hfs:fs.flatten=[(0,.cells cs)]):FitH 0 [(b,0)] [] H ⟨1,fs⟩ where
 nd1:=by simp
 nd2:=by simp
 nd3:=by simp[Heap.ents,hfs]
 lt:=fun x hx=>by simp at hx;subst hx;exact Nat.zero_lt_one
 idn:=fun x hx h=>absurd h (j3 _)
 num:=jx _
 src:=fun e he=>by have he':e∈fs.flatten:=he;rw[hfs]at he';simp at he';subst he';exact⟨b,.cells cs,by simp,h,qau hp⟩
 frz:=fun x hx=>by cases hx
theorem FitH.keep0{H:Heap} {m:Nat} {fs:List (List (Nat × Blk))} (hfs:fs.flatten=[]):FitH 0 [] [] H ⟨m,fs⟩ where
 nd1:=jK
 nd2:=jK
 nd3:=by simp[Heap.ents,hfs]
 lt:=fun x h=>by cases h
 idn:=fun x h=>by cases h
 num:=jx _
 src:=fun e he=>by have he':e∈fs.flatten:=he;rw[hfs]at he';cases he'
 frz:=fun x h=>by cases h
theorem FitH.same{n:Nat} {σ:List (Nat × Nat)} {H H':Heap} (hσ:∀x,x∈σ->x.1=x.2) (nd:(σ.map (·.1)).Nodup) (lt:∀x,x∈σ->x.2 < H'.n) (num:n<=H'.n) (nd3:(H'.ents.map (·.1)).Nodup)
  (src:∀e,e∈H'.ents->(e.1,e.1)∈σ/\H.get e.1=some e.2/\qkw σ [] e.2 e.2):FitH n σ [] H H' where
 nd1:=by simpa using nd
 nd2:=by have:σ.map (·.2)=σ.map (·.1):=List.map_congr_left fun x hx=>(hσ x hx).symm;rw[this];exact nd
 nd3:=nd3
 lt:=lt
 idn:=fun x hx _=>hσ x hx
 num:=num
 src:=fun e he=>⟨e.1,e.2,(src e he).1,(src e he).2.1,(src e he).2.2⟩
 frz:=fun x h=>by cases h
def qsp(b m sz:Nat) (es:List AV):AV:=match es with
 |[]=>.slc b 0 0 (.ex 0)
 |_::_=>.slc m 0 es.length (.rest sz)
theorem qcn{σ:List (Nat × Nat)} {Φ:List (Nat × List AV)} {b b' sz:Nat} {es:List AV} (h:qaw b σ=some b'):qas σ Φ (qce b sz es) (qce b' sz es):=by cases es<;>simp[qce,qas,h]
theorem ends_own{H:Heap} {b sz len:Nat} {es:List AV} (he:Elems sz es) (hne:es≠[]) (hl:es.length=len) (hb:H.get b=some (.cells (qaa es))):∃σ Φ,qas σ Φ (.slc b 0 len (.rest sz)) (qce 0 sz es)/\FitH 0 σ Φ H ⟨1,[qcg 0 es]⟩:=by subst hl;refine⟨[(b,0)],[],?_,.keep1 hb he.pure (by simp[qd4 hne])⟩;rw[qbr hne];simp[qas,qaw]
theorem qu6{H:Heap} {u:AV} {sz:Nat} (h:u=.nilS\/u=.zslc\/∃b,u=.slc b 0 0 (.ex 0)):∃σ Φ,qas σ Φ u (qce 0 sz [])/\FitH 0 σ Φ H ⟨1,[qcg 0 []]⟩:=by refine⟨[],[],?_,.keep0 (by simp[qcg])⟩;rcases h with rfl|rfl|⟨b,rfl⟩<;>simp[qce,qas]
open Classical in
def ownG{α:Type} (ss:List (List Nat)) (enc:α->List AV) (pre:α->Prop) (sz:Nat) (els:α->List AV):List AV->Heap->Option (AV × Heap):=fun args H=>
 if h:qa6 args=true/\∃x,qbl ⟨0,[]⟩ ss args=some (enc x)/\pre x then some (qce H.n sz (els h.2.choose),qki H (els h.2.choose)) else none
def mkOwn{P:Program} {α:Type} (f:FuncId) (ss:List (List Nat)) (enc:α->List AV) (pre:α->Prop) (sz:Nat) (els:α->List AV) (he:∀x,Elems sz (els x))
  (h:∀x,pre x->CallAt ⟨P,fun _=>[],fun _=>none⟩ f (enc x) ⟨0,[]⟩ (qce 0 sz (els x)) ⟨1,[qcg 0 (els x)]⟩):Entry P:=
 ⟨f,ownG ss enc pre sz els,fun args H v H' hv=>by
  unfold ownG at hv;split at hv
  next hx=>obtain⟨hp,hx2⟩:=hx;simp only[sj,jg]at hv;obtain⟨rfl,rfl⟩:=hv;have hs:=hx2.choose_spec;have hf:=qgf (H:=⟨0,[]⟩) jK hs.1;exact((h _ hs.2).norm hf).own (he _) hp H
  ·cases hv⟩
theorem mkOwn_eq{P:Program} {keep:FuncId->List Nat} {T:List (Entry P)} {α:Type} {f:FuncId} {ss:List (List Nat)} {enc:α->List AV} {pre:α->Prop} {sz:Nat} {els:α->List AV} {he:∀x,Elems sz (els x)}
  {h:∀x,pre x->CallAt ⟨P,fun _=>[],fun _=>none⟩ f (enc x) ⟨0,[]⟩ (qce 0 sz (els x)) ⟨1,[qcg 0 (els x)]⟩} (hT:qac f T=some (mkOwn f ss enc pre sz els he h).g) (inj:∀x y,enc x=enc y->x=y) (x:α) (hx:pre x)
  {args:List AV} (hp:qa6 args=true) (ht:qbl ⟨0,[]⟩ ss args=some (enc x)) (H:Heap):qb5 (mkC P keep T) (.fn f) args H=some (qce H.n sz (els x),qki H (els x)):=by
 rw[qf8 (g:=(mkOwn f ss enc pre sz els he h).g) hT];show ownG ss enc pre sz els args H=_;unfold ownG;have hex:qa6 args=true/\∃y,qbl ⟨0,[]⟩ ss args=some (enc y)/\pre y:=⟨hp,x,ht,hx⟩;rw[dif_pos hex];have e:enc x=enc hex.2.choose:=yB (ht.symm.trans hex.2.choose_spec.1);rw[<- inj _ _ e]
theorem qw4{H:Heap} {sz n:Nat} {es:List AV} (h:es.length=n):qd5 (.fslc sz es)=some n/\qbj H sz n (.fslc sz es)=some (qaa es):=by subst h;refine⟨rfl,?_⟩;simp only[qbj,jC,yx]
theorem app_lit{P:Program} {H:Heap} {elem:TypeId} {b sz by_ n:Nat} {cs:List AV} {x z:AV} (hsz:qcj P elem=some sz) (hby:qch P elem=some by_) (hz:qby P elem=some z) (hzl:z.cells.length=sz) (h0:sz≠0) (hb0:by_≠0)
  (hx:qd5 x=some (n+1)) (hc:qbj H sz (n+1) x=some cs) (hcl:cs.length=(n+1) * sz) (hcs:allSingle cs=true) (hroom:(n+1) * by_<=17592186044416) (hb:H.get b=some (.cells [])) (hrow:∀cs,qpj P elem cs=.cells cs) :
  qbs P H elem (.slc b 0 0 (.ex 0)) x=some (.slc H.n 0 (n+1) (.rest sz),H.new (.cells cs)):=by
 have c0:(Nat.beq sz 0 || !(Nat.beq z.cells.length sz && Nat.blt 0 by_))=false:=by
  have h1:Nat.beq sz 0=false:=qax h0;have h2:Nat.blt 0 by_=true:=by simp;omega
  rw[h1,hzl,jC,h2];rfl
 have hr:qdg (0+(n+1)) by_=true:=by unfold qdg;rw[jW,jS];exact hroom
 have hcb:Nat.beq cs.length ((n+1) * sz)=true:=by rw[hcl];exact jC _
 have h2:Nat.ble (0+(n+1)) 0=false:=by rw[<- Bool.not_eq_true,jW];omega
 unfold qbs;simp only[hsz,hby,hz,hx,jc,c0,hc,hr,hcs,h2,hcb,hrow];simp[readCells,hb,qfe,qey]
theorem qh3{P:Program} {elem:TypeId} {b m sz by_:Nat} {es:List AV} {z:AV} {g:List (Nat × Blk)} {fs:List (List (Nat × Blk))} (hsz:qcj P elem=some sz) (hby:qch P elem=some by_) (hz:qby P elem=some z) (hzl:z.cells.length=sz) (h0:sz≠0) (hb0:by_≠0)
  (he:Elems sz es) (hcs:allSingle (qaa es)=true) (hroom:es.length * by_<=17592186044416) (hrow:∀cs,qpj P elem cs=.cells cs:=by intro cs;rfl) :
  qbs P ⟨m,((b,.cells [])::g)::fs⟩ elem (.slc b 0 0 (.ex 0)) (.fslc sz es)=some (qsp b m sz es,qki ⟨m,((b,.cells [])::g)::fs⟩ es):=by
 cases es with
 |nil=>
  have c0:(Nat.beq sz 0 || !(Nat.beq z.cells.length sz && Nat.blt 0 by_))=false:=by have h1:Nat.beq sz 0=false:=qax h0;have h2:Nat.blt 0 by_=true:=(by simp;omega);rw[h1,hzl,jC,h2];rfl
  unfold qbs;simp only[hsz,hby,hz,jc,qd5,yd,c0,qbj,jC,List.take_nil,qaa];simp[qdg,allSingle,writeCells,Heap.get,getFs,getF,qiz,qin,Heap.ready,Heap.set,setFs,setF,qsp,qki]
 |cons e r=>have:=app_lit (P:=P) (H:=⟨m,((b,.cells [])::g)::fs⟩) (elem:=elem) (b:=b) (n:=r.length) (x:=.fslc sz (e::r)) (cs:=qaa (e::r)) hsz hby hz hzl h0 hb0 (qw4 (H:=⟨0,[]⟩) (es:=e::r) (n:=r.length+1) (by simp)).1 (qw4 (es:=e::r) (n:=r.length+1) (by simp)).2 he.len hcs hroom (by simp[Heap.get,getFs,getF]) hrow;rw[this];rfl
theorem qm7{b:Nat} {es:List AV} {g:List (Nat × Blk)} (h:es≠[]):getF b (qcg b es++g)=some (.cells (qaa es)):=by rw[qd4 h];show getF b ((b,_)::g)=_;unfold getF;rw[jC]
theorem FitH.grown{H:Heap} {b sz:Nat} {es:List AV} (he:Elems sz es) (hne:es≠[]) (h:H.get b=some (.cells (qaa es))):FitH 0 [(b,0)] [] H ⟨1,[qcg 0 es]⟩:=.keep1 h he.pure (by simp[qd4 hne])
section
variable {P:Program} {H:Heap} {t elem:TypeId} {b sz len i:Nat} {cs:List AV}
theorem qq2(hu:P.underlying t=some (.slice elem)) (hs:qcj P elem=some sz) (h0:sz≠0) (hb:H.get b=some (.cells cs)) (hc:cs.length=len * sz) (hi:i < len) :
  qcq P H t (.slc b 0 len (.rest sz)) (some (.int .i64 (i:Int))) none none=some (.slc b (i * sz) (len - i) (.rest sz)):=by
 have hk:qbx H b=some (len * sz):=by unfold qbx;simp only[hb,jc,qgd,hc]
 have h1:Nat.ble (len * sz) (i * sz)=false:=by rw[<- Bool.not_eq_true,jW];have:=Nat.mul_lt_mul_of_pos_right hi (show 0 < sz by omega);omega
 unfold qcq;simp only[qqe,hu,jc,hs,qgs,hk,jC,qdc,yK];have h2:idx (i:Int) (Nat.succ len)=some i:=qbn (by omega);simp only[h2,jc,h1,jS]
theorem qr0(hu:P.underlying t=some (.slice elem)) (hs:qcj P elem=some sz) (h0:sz≠0) (hb:H.get b=some (.cells cs)) (hc:cs.length=len * sz) (hi:i<=len) (hl:0 < len) :
  qcq P H t (.slc b 0 len (.rest sz)) none (some (.int .i64 (i:Int))) none=some (.slc b 0 i (.rest sz)):=by
 have hk:qbx H b=some (len * sz):=by unfold qbx;simp only[hb,jc,qgd,hc]
 have h1:Nat.ble (len * sz) (0 * sz)=false:=by rw[<- Bool.not_eq_true,jW];have:=Nat.mul_pos hl (show 0 < sz by omega);omega
 have hd:len * sz / sz=len:=Nat.mul_div_cancel _ (by omega);unfold qcq;simp only[qqe,hu,jc,hs,qgs,hk,jC,qdc,yK,hd];have h2:idx (i:Int) (Nat.succ len)=some i:=qbn (by omega);rw[Nat.zero_mul]at h1;simp only[h2,jc,Nat.zero_mul,h1,jS,yK]
end
theorem CallAt.freeze{C:Ctx} {f:FuncId} {args:List AV} {v v':AV} {H1:Heap} {Φ:List (Nat × List AV)} (h:CallAt C f args ⟨0,[]⟩ v H1) (fv:qas [] Φ v v') (fh:FitH 0 [] Φ H1 ⟨0,[]⟩):CallAt C f args ⟨0,[]⟩ v' ⟨0,[]⟩:=by
 intro ρ w xs sm hx;have dn:∀{x:Value} {ρ':Place} {w':World},VR ρ' v x->Sim ρ' H1 w'->Step ρ ⟨0,[]⟩ w ρ' H1 w'->∃ρ'',VR ρ'' v' x/\Sim ρ'' ⟨0,[]⟩ w'/\Step ρ ⟨0,[]⟩ w ρ'' ⟨0,[]⟩ w':=fun {x ρ' w'} h1 h2 h3=>by
  have hd:∀b,ρ b=none:=fun b=>sm.dom b (jx _);refine⟨qbw 0 [] Φ ρ' w' h2.below,Fits.run (fh.fits h2) h2 _ (ja _) h1 fv,fh.sim h2 (jx _),⟨⟨fun b l hb=>(by rw[hd b]at hb;cases hb),fun k hk=>?_,?_,?_,?_⟩,h3.size,h3.keeps,fun e he=>(by cases he),ja _,fun b hb=>absurd hb (j3 b),fun k hk=>?_⟩⟩
  ·obtain⟨g1,g2⟩:=h3.le.fz k hk;exact⟨.inl g1,(h2.below k g1).trans g2⟩
  ·exact h2.os.trans h3.le.os
  ·exact h2.tape.trans h3.le.tape
  ·exact h2.output.trans h3.le.output
  ·rcases hk with hk|⟨b,cs,l,m1,m2,rfl⟩
   ·exact h3.cold k hk
   ·obtain⟨cs0,g1,_⟩:=fh.frz _ m1;rcases h3.rows _ (Heap.get_mem g1) l m2 with⟨e,he,_⟩|h
    ·cases he
    ·exact .inr (.inr h)
 rcases h ρ w xs sm hx with⟨x,ρ',w',h0,h1,h2,h3⟩|⟨g,ys,h0,h1⟩
 ·obtain⟨ρ'',k1,k2,k3⟩:=dn h1 h2 h3;exact .inl ⟨x,ρ'',w',h0,k1,k2,k3⟩
 ·refine .inr ⟨g,ys,h0,h1.mono ?_⟩;rintro e w' ⟨x,ρ',rfl,m1,m2,m3⟩;obtain⟨ρ'',k1,k2,k3⟩:=dn m1 m2 m3;exact⟨x,ρ'',rfl,k1,k2,k3⟩
theorem CallAt.froze{C:Ctx} {f:FuncId} {args:List AV} {sz:Nat} {es:List AV} (he:Elems sz es) (h:CallAt C f args ⟨0,[]⟩ (qce 0 sz es) ⟨1,[qcg 0 es]⟩):CallAt C f args ⟨0,[]⟩ (.fslc sz es) ⟨0,[]⟩:=by
 cases es with
 |nil=>exact h.freeze (Φ:=[]) (by simp[qce,qas]) FitH.empty
 |cons e r=>
  refine h.freeze (Φ:=[(0,qaa (e::r))]) ?_ (.froze (by simp) fun x hx=>?_)
  ·simp only[qce,qas];refine .inl ⟨qaa (e::r),by simp[qcp],?_,trivial,he.size⟩;unfold qfe;rw[yq,<- he.len,qfd]
  ·simp at hx;subst hx;exact⟨qaa (e::r),by simp[qcg,Heap.get,getFs,getF],qau he.pure,he.pure⟩
theorem qh7{H:Heap} {b sz len:Nat} {cap:Cap} {es fr:List AV} (he:Elems sz es) (hb:H.get b=some (.cells (qaa es))) (hl:len<=es.length) (hf:fr=es.take len):∃σ Φ,qas σ Φ (.slc b 0 len cap) (.fslc sz fr)/\FitH 0 σ Φ H ⟨0,[]⟩:=by
 subst hf;refine⟨[],[(b,qaa es)],?_,.froze (by simp) fun x hx=>?_⟩
 ·simp only[qas];exact .inl ⟨qaa es,by simp[qcp],qnz he hl,by simp;omega,(he.take len).size⟩
 ·simp only[j2]at hx;subst hx;exact⟨qaa es,hb,qau he.pure,he.pure⟩
theorem zc0{H:Heap} {sz:Nat} {es:List AV} (h:es=[]):∃σ Φ,qas σ Φ .zslc (.fslc sz es)/\FitH 0 σ Φ H ⟨0,[]⟩:=⟨[],[],by subst h;simp[qas],FitH.empty⟩
section
variable {κ ν:Type} [DecidableEq κ]
def qko(a:κ):List (κ × ν)->Option ν
 |[]=>none
 |p::r=>if p.1=a then some p.2 else qko a r
def qt4(a:κ) (v:ν):List (κ × ν)->List (κ × ν)
 |[]=>[(a,v)]
 |p::r=>if p.1=a then (a,v)::r else p::qt4 a v r
def qur(a:κ):List (κ × ν)->List (κ × ν)
 |[]=>[]
 |p::r=>if p.1=a then r else p::qur a r
def qn8(a:κ):List (κ × ν)->Option Nat
 |[]=>none
 |p::r=>if p.1=a then some 0 else (qn8 a r).map (· + 1)
structure MapT (P:Program) (t:TypeId) (ek:κ->AV) (ev:ν->AV) where
 tk:TypeId
 te:TypeId
 kd:TypeDesc
 hu:P.underlying t=some (.map tk te)
 hk:P.underlying tk=some kd
 eq:∀a b,qtq P tk kd (ek a) (ek b)=some (decide (a=b))
 pure:∀a v,[ek a,ev v].flatMap (refs 6)=[]
def qde(ek:κ->AV) (ev:ν->AV) (M:List (κ × ν)):List (AV × AV):=M.map fun p=>(ek p.1,ev p.2)
variable {P:Program} {t:TypeId} {ek:κ->AV} {ev:ν->AV}
theorem MapT.pos(m:MapT P t ek ev) (a:κ):∀(M:List (κ × ν)) (i:Nat),posA P m.tk m.kd (ek a) i (qde ek ev M)=some ((qn8 a M).map (i + ·))
 |[],i=>rfl
 |p::r,i=>by
  simp only[qde,List.map_cons,posA,m.eq,jc,qn8];by_cases h:p.1=a
  ·have h':a=p.1:=h.symm;simp[h]
  ·have h':¬ a=p.1:=fun e=>h e.symm;simp only[h',yr,h,jM];have:=MapT.pos m a r (i+1);rw[qde]at this;rw[this];cases qn8 a r with
   |none=>rfl
   |some j=>simp;omega
theorem MapT.ok(m:MapT P t ek ev) (a:κ):qtp P m.tk m.kd (ek a)=some ():=by simp[qtp,m.eq]
theorem qrt{a:κ}:∀{M:List (κ × ν)} {i:Nat},qn8 a M=some i->∃h:i < M.length,M[i].1=a/\qko a M=some M[i].2
 |[],_,h=>by cases h
 |p::r,i,h=>by
  unfold qn8 at h;unfold qko;split at h
  next hp=>simp only[sj]at h;subst h;exact⟨by simp,hp,by simp[hp]⟩
  ·rename_i hp;cases hj:qn8 a r with
   |none=>simp[hj]at h
   |some j=>simp only[hj,yt,sj]at h;subst h;obtain⟨h1,h2,h3⟩:=qrt hj;exact⟨by simpa using h1,by simpa using h2,by simp[hp,h3]⟩
theorem qtu{a:κ}:∀{M:List (κ × ν)},qn8 a M=none->qko a M=none
 |[],_=>rfl
 |p::r,h=>by
  unfold qn8 at h;unfold qko;split at h
  ·cases h
  ·rename_i hp;cases hj:qn8 a r with
   |none=>simp[hp,qtu hj]
   |some j=>simp[hj]at h
theorem MapT.find(m:MapT P t ek ev) (a:κ) (M:List (κ × ν)):findA P m.tk m.kd (ek a) (qde ek ev M)=some ((qko a M).map ev):=by
 unfold findA;rw[m.pos];simp only[jc];cases h:qn8 a M with
 |none=>simp[qtu h]
 |some i=>
  obtain⟨h1,h2,h3⟩:=qrt h;simp only[yt,jS,h3];have hl:i < (qde ek ev M).length:=by simpa[qde]using h1
  rw[qf5 hl];simp[qde]
theorem qwd{a:κ} {v:ν}:∀{M:List (κ × ν)} {i:Nat},qn8 a M=some i->setL (ek a,ev v) (qde ek ev M) i=some (qde ek ev (qt4 a v M))
 |[],_,h=>by cases h
 |p::r,i,h=>by
  unfold qn8 at h;unfold qt4;split at h
  next hp=>simp only[sj]at h;subst h;simp[hp,qde,setL]
  ·rename_i hp;cases hj:qn8 a r with
   |none=>simp[hj]at h
   |some j=>simp only[hj,yt,sj]at h;subst h;have:=qwd (v:=v) hj;rw[qde]at this;simp[hp,qde,setL,this]
theorem qwc{a:κ} {v:ν}:∀{M:List (κ × ν)},qn8 a M=none->qt4 a v M=M++[(a,v)]
 |[],_=>rfl
 |p::r,h=>by
  unfold qn8 at h;unfold qt4;split at h
  ·cases h
  ·rename_i hp;cases hj:qn8 a r with
   |none=>simp[hp,qwc hj]
   |some j=>simp[hj]at h
theorem MapT.upd(m:MapT P t ek ev) (a:κ) (v:ν) (M:List (κ × ν)):updA P m.tk m.kd (ek a) (ev v) (qde ek ev M)=some (qde ek ev (qt4 a v M)):=by
 unfold updA;rw[m.pos];simp only[jc];cases h:qn8 a M with
 |none=>simp[qwc h,qde]
 |some i=>
  obtain⟨h1,h2,_⟩:=qrt h;simp only[yt,jS];have hl:i < (qde ek ev M).length:=by simpa[qde]using h1
  rw[qf5 hl];have he:(qde ek ev M)[i].1=ek a:=by simp[qde,h2]
  simp only[jc,he,yz];exact qwd h
theorem qxn{a:κ}:∀{M:List (κ × ν)} {i:Nat},qn8 a M=some i->(qde ek ev M).eraseIdx i=qde ek ev (qur a M)
 |[],_,h=>by cases h
 |p::r,i,h=>by
  unfold qn8 at h;unfold qur;split at h
  next hp=>simp only[sj]at h;subst h;simp[hp,qde]
  ·rename_i hp;cases hj:qn8 a r with
   |none=>simp[hj]at h
   |some j=>simp only[hj,yt,sj]at h;subst h;have:=qxn hj;rw[qde]at this;simp[hp,qde,this]
theorem qu7{a:κ}:∀{M:List (κ × ν)},qn8 a M=none->qur a M=M
 |[],_=>rfl
 |p::r,h=>by
  unfold qn8 at h;unfold qur;split at h
  ·cases h
  ·rename_i hp;cases hj:qn8 a r with
   |none=>simp[hp,qu7 hj]
   |some j=>simp[hj]at h
theorem MapT.del(m:MapT P t ek ev) (a:κ) (M:List (κ × ν)):delA P m.tk m.kd (ek a) (qde ek ev M)=some (qde ek ev (qur a M)):=by
 unfold delA;rw[m.pos];simp only[jc];cases h:qn8 a M with
 |none=>simp[qu7 h]
 |some i=>simp[qxn h]
variable {H:Heap} {b:Nat} {M:List (κ × ν)}
theorem MapT.look(m:MapT P t ek ev) {z:AV} (hz:qby P m.te=some z) (hb:H.get b=some (.map (qde ek ev M))) (a:κ):qj9 P H t (.map b) (ek a) false=some (((qko a M).map ev).getD z):=by unfold qj9;simp only[m.hu,m.hk,jc,m.ok,hb,m.find];cases qko a M<;>simp[hz]
theorem MapT.update(m:MapT P t ek ev) (hb:H.get b=some (.map (qde ek ev M))) (a:κ) (v:ν):qj8 P H t (.map b) (ek a) (ev v)=H.set b (.map (qde ek ev (qt4 a v M))):=by
 unfold qj8;simp only[m.hu,m.hk,jc,m.ok,hb,m.upd];have:H.ready b [ek a,ev v]=H:=by unfold Heap.ready;rw[m.pure]
 rw[this]
theorem MapT.delete(m:MapT P t ek ev) (hb:H.get b=some (.map (qde ek ev M))) (a:κ):qmj P H t (.map b) (ek a)=H.set b (.map (qde ek ev (qur a M))):=by unfold qmj;simp only[m.hu,m.hk,jc,m.ok,hb,m.del]
theorem MapT.len(m:MapT P t ek ev) (hb:H.get b=some (.map (qde ek ev M))):qf3 P H t (.map b)=some M.length:=by unfold qf3;simp only[m.hu,jc,hb];simp[qde]
theorem qrz{a c:κ} {v:ν}:∀{M:List (κ × ν)},qko c (qt4 a v M)=if a=c then some v else qko c M
 |[]=>by simp only[qt4,qko]
 |p::r=>by
  unfold qt4;by_cases h:p.1=a
  ·simp only[h,jQ,qko];by_cases hc:a=c
   ·simp[hc]
   ·simp[hc]
  ·simp only[h,jM,qko,qrz (M:=r)];by_cases hc:a=c
   ·subst hc;simp[h]
   ·simp[hc]
theorem qs0{a c:κ}:∀{M:List (κ × ν)},(M.map (·.1)).Nodup->qko c (qur a M)=if a=c then none else qko c M
 |[],_=>by simp[qur,qko]
 |p::r,hn=>by
  rw[List.map_cons,jp]at hn;have hno:∀{x:κ} {l:List (κ × ν)},x ∉ l.map (·.1)->qko x l=none:=fun {x l}=>by
   induction l with
   |nil=>intro _;rfl
   |cons q l ih=>intro h;simp only[List.map_cons,jd,Jh]at h;have hq:¬ q.1=x:=fun e=>h.1 e.symm;simp only[qko,hq,jM];exact ih h.2
  unfold qur;by_cases h:p.1=a
  ·simp only[h,jQ,qko];by_cases hc:a=c
   ·subst hc;simp[hno (h ▸ hn.1)]
   ·simp[hc]
  ·simp only[h,jM,qko,qs0 hn.2];by_cases hc:a=c
   ·subst hc;simp[h]
   ·simp[hc]
theorem mem_keys{a:κ}:∀{M:List (κ × ν)},a∈M.map (·.1)↔(qko a M).isSome=true
 |[]=>by simp[qko]
 |p::r=>by
  simp only[List.map_cons,jd,qko,mem_keys (M:=r)];by_cases h:p.1=a
  ·simp[h]
  ·have h':¬ a=p.1:=fun e=>h e.symm;simp[h,h']
theorem qzy{a:κ} {v:ν} {M:List (κ × ν)} (h:(M.map (·.1)).Nodup):((qt4 a v M).map (·.1)).Nodup:=by
 induction M with
 |nil=>simp[qt4]
 |cons p r ih=>
  rw[List.map_cons,jp]at h;unfold qt4;split
  next hp=>rw[List.map_cons,jp];exact⟨by rw[<- hp];exact h.1,h.2⟩
  ·rename_i hp;rw[List.map_cons,jp];refine⟨fun hm=>?_,ih h.2⟩;rw[mem_keys,qrz]at hm;split at hm
   next he=>exact hp he.symm
   ·exact h.1 (mem_keys.2 hm)
theorem zc5{a:κ} {M:List (κ × ν)} (h:(M.map (·.1)).Nodup):((qur a M).map (·.1)).Nodup:=by
 induction M with
 |nil=>simp[qur]
 |cons p r ih=>
  rw[List.map_cons,jp]at h;unfold qur;split
  ·exact h.2
  ·rename_i hp;rw[List.map_cons,jp];refine⟨fun hm=>?_,ih h.2⟩;rw[mem_keys,qs0 h.2]at hm;split at hm
   ·cases hm
   ·exact h.1 (mem_keys.2 hm)
end
def okFs(ok:TypeId->Bool) (P:Program):Nat->List Field->Option Nat
 |o,[]=>some o
 |o,f::r=>match Nat.beq f.offset o && ok f.type with
  |true=>okFs ok P (o+P.cellsOf f.type) r
  |false=>none
def qz1(P:Program):Nat->TypeId->Bool
 |0,_=>false
 |Nat.succ n,t=>match P.underlying t with
  |some .bool=>Nat.beq (P.cellsOf t) 1
  |some (.int _)=>Nat.beq (P.cellsOf t) 1
  |some .string=>Nat.beq (P.cellsOf t) 1
  |some (.slice e)=>Nat.beq (P.cellsOf t) 1 && Nat.ble 1 (P.cellsOf e) && (qh4 P e).isSome && qz1 P n e && (match qh4 P e with
   |some false=>Nat.beq (P.cellsOf e) 1
   |_=>true)
  |some (.struct fs)=>match okFs (qz1 P n) P 0 fs.toList with
   |some k=>Nat.beq k (P.cellsOf t)
   |none=>false
  |_=>false
inductive Parts (S:TypeId->List AV->Prop):List Field->List AV->Prop
 |nil:Parts S [] []
 |cons (f:Field) (r:List Field) (a b:List AV) (h:S f.type a) (k:Parts S r b):Parts S (f::r) (a++b)
def qda(P:Program):Nat->TypeId->List AV->Prop
 |0,_,_=>False
 |Nat.succ n,t,as=>match P.underlying t with
  |some .bool=>∃b,as=[.bool b]
  |some (.int k)=>∃i,as=[.int k i]/\(Lit.int k i).wf=true
  |some .string=>∃s:List UInt8,as=[.str s]/\s.length<=maxLen
  |some (.slice e)=>∃es,as=[.fslc (P.cellsOf e) es]/\es.length<=maxLen/\∀x,x∈es->∃ag cs,qh4 P e=some ag/\qhy ag cs=some x/\qda P n e cs
  |some (.struct fs)=>Parts (qda P n) fs.toList as
  |_=>False
section
variable {W:World} {H:Type} {enc:TypeId × Value->H} {P:Program} {base:Nat} {sp:Nat->Bool} {held:Bool}
theorem qj2:∀{n:Nat} {t:TypeId} {as:List AV},qz1 P n t=true->qda P n t as->as.length=P.cellsOf t/\allSingle as=true
 |0,_,_,h,_=>by simp[qz1]at h
 |n+1,t,as,h,hs=>by
  unfold qz1 at h;unfold qda at hs;split at h
  next hu=>rw[hu]at hs;obtain⟨b,rfl⟩:=hs;exact⟨(Nat.eq_of_beq_eq_true h).symm,rfl⟩
  next hu=>rw[hu]at hs;obtain⟨b,rfl,_⟩:=hs;exact⟨(Nat.eq_of_beq_eq_true h).symm,rfl⟩
  next hu=>rw[hu]at hs;obtain⟨b,rfl,_⟩:=hs;exact⟨(Nat.eq_of_beq_eq_true h).symm,rfl⟩
  next hu=>rw[hu]at hs;obtain⟨es,rfl,_⟩:=hs;simp only[jf]at h;exact⟨(Nat.eq_of_beq_eq_true h.1.1.1.1).symm,rfl⟩
  ·rename_i fs hu;rw[hu]at hs;have key:∀(l:List Field) (o:Nat) (as:List AV) (k:Nat),okFs (qz1 P n) P o l=some k->Parts (qda P n) l as->o+as.length=k/\allSingle as=true:=by
    intro l;induction l with
    |nil=>intro o as k h1 h2;cases h2;simp only[okFs,sj]at h1;exact⟨by simpa using h1,rfl⟩
    |cons f r ih=>
     intro o as k h1 h2;cases h2 with
     |cons _ _ a b ha hb=>
      unfold okFs at h1;split at h1
      next hc=>simp only[jf]at hc;obtain⟨l1,l2⟩:=qj2 hc.2 ha;obtain⟨m1,m2⟩:=ih _ _ _ h1 hb;exact⟨by rw[js];omega,by rw[qfj,l2,m2];rfl⟩
      ·cases h1
   split at h
   next k hk=>obtain⟨h1,h2⟩:=key _ _ _ _ hk hs;exact⟨by rw[<- Nat.eq_of_beq_eq_true h];omega,h2⟩
   ·cases h
  ·cases h
theorem qo2:∀{n:Nat} {fuel:Nat} {t:TypeId} {cs:List Value} {x:DataW H × List MemPlace},qz1 P n t=true->DataW.trod enc P W base sp held fuel t cs=some x->∃as,qg6 P n t x.1=some as/\qda P n t as
 |0,_,_,_,_,h,_=>by simp[qz1]at h
 |n+1,fuel,t,cs,x,h,htr=>by
  have hfu:∃m,fuel=m+1:=by
   cases fuel with
   |zero=>simp[DataW.trod]at htr
   |succ m=>exact⟨m,rfl⟩
  obtain⟨m,rfl⟩:=hfu;have h':=h;unfold qz1 at h;split at h
  next hu=>unfold DataW.trod at htr;rw[hu]at htr;split at htr<;>simp_all;obtain⟨rfl⟩:=htr;exact⟨_,by simp[qg6,hu,litA];rfl,by simp[qda,hu]⟩
  next k hu=>unfold DataW.trod at htr;rw[hu]at htr;split at htr<;>simp_all;obtain⟨⟨rfl,hw⟩,rfl⟩:=htr;exact⟨_,by simp[qg6,hu,litA];rfl,by simp[qda,hu,hw]⟩
  next hu=>unfold DataW.trod at htr;rw[hu]at htr;split at htr<;>simp_all;obtain⟨hw,rfl⟩:=htr;refine⟨_,by simp[qg6,hu,litA];rfl,?_⟩;simp only[qda,hu];refine⟨_,rfl,?_⟩;have e:∀s:ByteArray,s.data.toList.length=s.size:=fun s=>(by rw[Array.length_toList];rfl);rw[e];exact hw
  ·rename_i e hu;simp only[jf]at h;obtain⟨⟨⟨⟨_,h1⟩,h2⟩,h3⟩,h4⟩:=h;obtain⟨ag,hag⟩:=Option.isSome_iff_exists.1 h2;rw[hag]at h4;rcases DataW.trod_slice hu htr with⟨rfl,rfl⟩|⟨a,len,cap,elems,rest,m',hm,rfl,rfl,hb,hl,hc,hlen,hel,_⟩
   ·refine⟨_,by simp only[qg6,hu,jc];rfl,?_⟩;simp only[qda,hu];exact⟨[],rfl,jx _,fun x hx=>by cases hx⟩
   ·-- each element
    have each:∀y,y∈elems->∃as a,qg6 P n e y.1=some as/\qda P n e as/\qhy ag as=some a:=by
     intro y hy;obtain⟨i,hi,rfl⟩:=yG hy;have hi':=hel i (by omega);rw[List.getElem?_eq_getElem hi]at hi';obtain⟨ci,_,hti⟩:=obs hi';obtain⟨as,q1,q2⟩:=qo2 h3 hti;obtain⟨l1,l2⟩:=qj2 h3 q2;refine⟨as,?_⟩;cases ag with
     |true=>exact⟨_,q1,q2,rfl⟩
     |false=>
      have h5:=Nat.eq_of_beq_eq_true h4;rw[h5]at l1
      match as,l1,l2 with
      |[a],_,l2=>
       refine⟨a,q1,q2,?_⟩;have hs:a.single=true:=by
        cases hx:a.single with
        |true=>rfl
        |false=>simp[allSingle,hx]at l2
       simp only[qhy,hs]
    have all:∀l:List (DataW H × List MemPlace),(∀y,y∈l->∃as a,qg6 P n e y.1=some as/\qda P n e as/\qhy ag as=some a) ->
      ∃es,qqb (fun d=>(qg6 P n e d).bind (qhy ag)) (l.map (·.1))=some es/\es.length=l.length/\∀x,x∈es->∃ag cs,qh4 P e=some ag/\qhy ag cs=some x/\qda P n e cs:=by
     intro l;induction l with
     |nil=>intro _;exact⟨[],rfl,rfl,fun x hx=>by cases hx⟩
     |cons y r ih=>
      intro hy;obtain⟨as,a,q1,q2,q3⟩:=hy y (by simp);obtain⟨es,r1,r2,r3⟩:=ih fun z hz=>hy z (by simp[hz]);refine⟨a::es,by simp[qqb,q1,q3,r1],by simp[r2],fun x hx=>?_⟩;rcases jd.1 hx with rfl|hx
      ·exact⟨ag,as,hag,q3,q2⟩
      ·exact r3 x hx
    obtain⟨es,r1,r2,r3⟩:=all elems each;have hlenes:es.length<=maxLen:=(by omega);cases elems with
    |nil=>refine⟨_,by simp only[qg6,hu,jc,jP];rfl,?_⟩;simp only[qda,hu];exact⟨[],rfl,jx _,fun x hx=>by cases hx⟩
    |cons y r=>
     have hsz:qgm (P.cellsOf e) es=true:=qjv fun x hx=>(by obtain⟨ag',cs',k1,k2,k3⟩:=r3 x hx;rw[qnw k2];exact(qj2 h3 k3).1);refine⟨[.fslc (P.cellsOf e) es],?_,?_⟩
     ·simp only[qg6,hu,jc,List.map_cons,hag];simp only[List.map_cons]at r1;simp only[r1,jc,hsz,h1]
     ·simp only[qda,hu];exact⟨es,rfl,hlenes,r3⟩
  ·rename_i fs hu;unfold DataW.trod at htr;rw[hu]at htr;have hst:(if cs.length=P.cellsOf t then (fs.toList.mapM fun f=>DataW.trod enc P W base sp held m f.type ((cs.drop f.offset).take (P.cellsOf f.type))).map fun xs=>(DataW.agg (xs.map (·.1)),xs.flatMap (·.2)) else none)=some x:=(by split at htr<;>simp_all);split at hst
   ·obtain⟨xs,hxs,rfl⟩:=Option.map_eq_some_iff.1 hst;have key:∀(l:List Field) (o k:Nat) (xs:List (DataW H × List MemPlace)),okFs (qz1 P n) P o l=some k->l.mapM (fun f=>DataW.trod enc P W base sp held m f.type ((cs.drop f.offset).take (P.cellsOf f.type)))=some xs ->
      ∃as,qoc (qg6 P n) P o l (xs.map (·.1))=some as/\Parts (qda P n) l as/\o+as.length=k:=by
     intro l;induction l with
     |nil=>intro o k xs h1 h2;simp at h2;subst h2;simp only[okFs,sj]at h1;exact⟨[],rfl,.nil,by simpa using h1⟩
     |cons f r ih=>
      intro o k xs h1 h2;rw[List.mapM_cons]at h2;obtain⟨y,hy,h2⟩:=obs h2;obtain⟨ys,hys,h2⟩:=obs h2;obtain rfl:y::ys=xs:=(by simpa using h2);unfold okFs at h1;split at h1
      next hc=>simp only[jf]at hc;obtain⟨as,q1,q2⟩:=qo2 hc.2 hy;obtain⟨bs,r1,r2,r3⟩:=ih _ _ _ h1 hys;obtain⟨l1,_⟩:=qj2 hc.2 q2;have hb:Nat.beq as.length (P.cellsOf f.type)=true:=(by rw[l1];exact jC _);refine⟨as++bs,?_,.cons f r as bs q2 r2,by rw[js];omega⟩;simp only[List.map_cons,qoc,hc.1,q1,jc,hb,r1]
      ·cases h1
    split at h
    next k hk=>obtain⟨as,q1,q2,q3⟩:=key _ _ _ _ hk hxs;have hb:Nat.beq as.length (P.cellsOf t)=true:=(by rw[<- Nat.eq_of_beq_eq_true h,<- q3,jS];exact jC _);refine⟨as,?_,by simp only[qda,hu];exact q2⟩;simp only[qg6,hu,jc,q1,hb]
    ·cases h
   ·cases hst
  ·cases h
end
open Classical in
def qsb(C:Ctx) (call:qck) (ops:Array Oper) (H0:Heap):List Oper->St->Option St
 |[],s=>some s
 |o::r,s=>(qeb C call ops o s).bind fun s1=>if s1.H=H0 then qsb C call ops H0 r s1 else none
def qhu:List Oper->Bool
 |[]=>true
 |o::r=>match qb4 o.op with
  |.allocs=>false
  |_=>qhu r
section
variable {C:Ctx} {call:qck} {ops:Array Oper} {H0:Heap}
theorem qll{s:St}:qsb C call ops H0 [] s=some s:=rfl
open Classical in
theorem qqh{o:Oper} {r:List Oper} {s:St}:qsb C call ops H0 (o::r) s=(qeb C call ops o s).bind fun s1=>if s1.H=H0 then qsb C call ops H0 r s1 else none:=rfl
open Classical in
def qqu(C:Ctx) (call:qck) (ops:Array Oper) (H0:Heap):Option St->List Oper->Option St
 |some s,l=>if s.H=H0 then qsb C call ops H0 l s else none
 |none,_=>none
theorem qvl{o:Oper} {r:List Oper} {s:St}:qsb C call ops H0 (o::r) s=qqu C call ops H0 (qeb C call ops o s) r:=by rw[qqh];cases qeb C call ops o s<;>rfl
theorem qm2{s:St} {l:List Oper} (h:s.H=H0):qqu C call ops H0 (some s) l=qsb C call ops H0 l s:=by simp only[qqu,h,jQ]
structure InvK (C:Ctx) (call:qck) (H0:Heap) (d:DrawSt) (s:St):Prop where
 s_:d.s=s
 H_:s.H=H0
 ps:d.ps=[]
 hs:∀h,h∈d.hs->h.2=H0
 rs:∀x,x∈d.rs->∃y,qah C call x.o { x.s with H:=H0 }=some y/\y.1=x.v
theorem step_K{bef:Array Nat} {base i:Nat} {o:Oper} {s s1:St} {d:DrawSt} (hn:qb4 o.op≠.allocs) (h:qeb C call ops o s=some s1) (hH:s1.H=H0) (k:InvK C call H0 d s):∃d',qi7 C call ops bef base i o d=some d'/\InvK C call H0 d' s1:=by
 obtain⟨ds,ps,hs,rs⟩:=d;obtain⟨rfl,k2,rfl,k4,k5⟩:=k;simp only at k2 k4 k5 h;obtain⟨g,hg,h⟩:=obs h;unfold qi7;simp only[hg,jc];cases g with
 |false=>
  simp only at h ⊢;rw[h];simp only[jc,qbd,qba,Heap.lay];cases hc:qb4 o.op with
  |acts=>exact⟨_,rfl,rfl,hH,rfl,fun x hx=>by
    rcases jd.1 hx with rfl|hx
    ·exact hH
    ·exact k4 x hx,k5⟩
  |pure=>exact⟨_,rfl,rfl,hH,rfl,k4,k5⟩
  |reads=>exact⟨_,rfl,rfl,hH,rfl,k4,k5⟩
  |allocs=>exact absurd hc hn
 |true=>
  simp only at h ⊢;obtain⟨⟨v,Hv⟩,hv,hp⟩:=obs h;simp only at hp;cases hc:qb4 o.op with
  |acts=>
   simp only[qbd,qba,Heap.lay];have e:qah C call o (ds.wH ds.H)=some (v,Hv):=hv;have hp':St.put (ds.wH Hv) o.dst v=some s1:=hp;simp only[e,jc,hp'];exact⟨_,rfl,rfl,hH,rfl,fun x hx=>by
    rcases jd.1 hx with rfl|hx
    ·exact hH
    ·exact k4 x hx,k5⟩
  |pure=>obtain⟨e,_⟩:=qhw hc hv;subst e;have hp':ds.put o.dst v=some s1:=hp;simp only[hv,jc,hp'];exact⟨_,rfl,rfl,hH,rfl,k4,k5⟩
  |reads=>
   have e:=qh0 hc hv;subst e;have hp':ds.put o.dst v=some s1:=hp;simp only[hv,jc,hp'];refine⟨_,rfl,rfl,hH,rfl,k4,fun x hx=>?_⟩;rcases jd.1 hx with rfl|hx
   ·simp only;rw[<- k2];exact⟨_,hv,rfl⟩
   ·exact k5 x hx
  |allocs=>exact absurd hc hn
theorem zby{bef:Array Nat} {base:Nat}:∀{l:List Oper} {i:Nat} {s s':St} {d:DrawSt},qhu l=true->qsb C call ops H0 l s=some s'->InvK C call H0 d s->∃d',qlm C call ops bef base i l d=some d'/\InvK C call H0 d' s'
 |[],i,s,s',d,_,h,k=>by rw[qll,sj]at h;subst h;exact⟨d,rfl,k⟩
 |o::r,i,s,s',d,hn,h,k=>by
  have hno:qb4 o.op≠.allocs/\qhu r=true:=by unfold qhu at hn;cases hc:qb4 o.op<;>simp[hc]at hn ⊢<;>exact hn
  rw[qqh]at h;obtain⟨s1,h1,h2⟩:=obs h;split at h2
  next hH=>obtain⟨d1,q1,q2⟩:=step_K (bef:=bef) (base:=base) (i:=i) hno.1 h1 hH k;obtain⟨d2,r1,r2⟩:=zby (bef:=bef) (base:=base) (i:=i+1) hno.2 h2 q2;exact⟨d2,by simp only[qlm,q1,jc];exact r1,r2⟩
  ·cases h2
theorem zbq:∀{l:List Oper} {s:St},qhu l=true->qan l s=s
 |[],s,_=>rfl
 |o::r,s,hn=>by
  have hno:qb4 o.op≠.allocs/\qhu r=true:=by unfold qhu at hn;cases hc:qb4 o.op<;>simp[hc]at hn ⊢<;>exact hn
  have:qc0 s o=s:=by unfold qc0;cases hop:o.op<;>first|rfl|(exfalso;exact hno.1 (by rw[hop];rfl))
  simp only[qan,this];exact zbq hno.2
theorem za1{bef:Array Nat} {x:Rec} (hx:∃y,qah C call x.o { x.s with H:=H0 }=some y/\y.1=x.v):∀{hs:List (Nat × Heap)},(∀h,h∈hs->h.2=H0)->qc9 C call bef x H0 hs=true
 |[],_=>by obtain⟨y,h1,h2⟩:=hx;simp only[qc9,qd2,h1,h2,yz]
 |h::r,hh=>by
  obtain⟨y,h1,h2⟩:=hx;have e:=hh h (by simp);have ih:=za1 (bef:=bef) ⟨y,h1,h2⟩ (hs:=r) fun z hz=>hh z (by simp[hz]);have hs:qd2 C call x h.2=true:=by rw[e];simp only[qd2,h1,h2,yz]
  unfold qc9;rw[hs,ih];cases ahead bef x.i h.1<;>cases ahead bef h.1 x.i<;>rfl
theorem za0{bef:Array Nat} {hs:List (Nat × Heap)} (hh:∀h,h∈hs->h.2=H0):∀{rs:List Rec},(∀x,x∈rs->∃y,qah C call x.o { x.s with H:=H0 }=some y/\y.1=x.v)->qc1 C call bef H0 hs rs=true
 |[],_=>rfl
 |x::r,h=>by unfold qc1;rw[za1 (h x (by simp)) hh];exact za0 hh fun y hy=>h y (by simp[hy])
theorem qza{n:Nat} {s:St} {Q:Out->St->Prop} {id:Nat} (hm:C.P.follows .mixedOrders=true) (hC:CallOK C call) (hd:qqk ops=true) (hn:qhu ops.toList=true)
  (h:∃s',qsb C call ops ⟨s.H.n+ops.size,s.H.fs⟩ ops.toList { s with ts:=[],H:=⟨s.H.n+ops.size,s.H.fs⟩ }=some s'/\Q .normal s'):WpS C n (.region id ops true) s Q:=by
 obtain⟨s',h1,h2⟩:=h;refine qc4 hm hC hd fun B hB=>?_;have hr:qbh (qan ops.toList { s with ts:=[] }) ops.size={ s with ts:=[],H:=⟨s.H.n+ops.size,s.H.fs⟩ }:=by rw[zbq hn];rfl
 rw[hr];obtain⟨d,q1,q2⟩:=zby (bef:=B) (base:=s.H.n) (i:=0) (d:=⟨{ s with ts:=[],H:=⟨s.H.n+ops.size,s.H.fs⟩ },[],[],[]⟩) hn h1 ⟨rfl,rfl,rfl,fun h hh=>(by cases hh),fun x hx=>(by cases hx)⟩;refine⟨d,q1,za0 q2.hs q2.rs,?_⟩;rw[q2.ps,q2.s_];exact h2
end
theorem zb1 {C : Ctx} {f : FuncId} {fn : Func} {body : Code} {args : Array Value} {as : List AV} {W : World} {hg : GlobsIn W} (hf : C.P.funcs[f]? = some fn) (hname : (fn.name == "runtime.NumGoroutine") = false) (hb : fn.body = some body)
  (h:CallAt C f as ⟨0,[]⟩ (.bool true) ⟨0,[]⟩) (hx:VRs (start W hg) as args.toList):Calls C.P f args W fun e w'=>e=.returned (.bool true)/\Below W.heap.size W w':=by
 have hname' : ¬ fn.name = "runtime.NumGoroutine" := fun e => by rw [e] at hname; simp at hname
 have hrun:(callFunc f args).run C.P W=.ok (.enter f args) W:=by simp[callFunc,hf,hname',hb]
 rcases h (start W hg) W args.toList (qzw W hg) hx with⟨x,ρ',w',h0,_⟩|⟨g,ys,h0,h1⟩
 ·rw[Je,hrun]at h0;cases h0
 ·rw[Je,hrun]at h0;cases h0;refine(h1.calls fun k=>room_wide k).mono ?_;rintro e w' ⟨x,ρ',rfl,k1,k2,k3⟩;have hx':x=.bool true:=by cases k1;rfl
  subst hx';exact⟨rfl,Step.grown k2 k3⟩
section
variable {H:Type} {enc:TypeId × Value->H} {P:Program} {W:World} {hg:GlobsIn W}
theorem zcp{n:Nat} {r:Reach} {b0 base:Nat} {sp:Nat->Bool} {held:Bool} {t:TypeId} {v:Value} {d:DataW H} {ps:List MemPlace} (hok:qz1 P n t=true) {ag:Bool} (hag:qh4 P t=some ag) (ha:ag=false->P.cellsOf t=1)
  (ht:DataW.Trod enc P W base sp held t v d ps) (hv:Value.okWide P W r b0 t v):∃as a,qda P n t as/\qhy ag as=some a/\VR (start W hg) a v:=by
 have ht':=ht;obtain⟨fuel,hf⟩:=ht;obtain⟨as,h1,h2⟩:=qo2 hok hf;obtain⟨l1,l2⟩:=qj2 hok h2;have hw:∃a,qhy ag as=some a:=by
  cases ag with
  |true=>exact⟨_,rfl⟩
  |false=>
   rw[ha rfl]at l1
   match as,l1,l2 with
   |[a],_,l2=>
    have hs:a.single=true:=by
     cases hx:a.single with
     |true=>rfl
     |false=>simp[allSingle,hx]at l2
    exact⟨a,by simp only[qhy,hs]⟩
 obtain⟨a,hw⟩:=hw;have harg:argA P n t d=some a:=by unfold argA;simp only[hag,jc,h1];exact hw
 exact⟨as,a,h2,hw,argA_run ht' hv harg⟩
end
mutual
def qlu(τ:Nat->Nat):AV->AV
 |.ptr b o=>.ptr (τ b) o
 |.slc b o len cap=>.slc (τ b) o len cap
 |.map b=>.map (τ b)
 |.yld b=>.yld (τ b)
 |.func fn a c=>.func fn (qii τ a) (qii τ c)
 |.agg cs=>.agg (qii τ cs)
 |.tup cs=>.tup (qii τ cs)
 |v=>v
def qii(τ:Nat->Nat):List AV->List AV
 |[]=>[]
 |v::r=>qlu τ v::qii τ r
end
theorem qcz(τ:Nat->Nat):∀(l:List AV),(qii τ l).length=l.length
 |[]=>rfl
 |v::r=>by simp[qii,qcz τ r]
theorem qjq(τ:Nat->Nat):∀(l:List AV) (i:Nat) (h:i < (qii τ l).length) (h':i < l.length),(qii τ l)[i]=qlu τ l[i]
 |[],i,h,_=>absurd h (j3 i)
 |v::r,0,_,_=>rfl
 |v::r,i+1,h,h'=>by simpa[qii]using qjq τ r i (by simpa[qii]using h) (by simpa using h')
mutual
theorem qhb(τ:Nat->Nat):∀{v:AV},qa2 v=true->qlu τ v=v
 |.func fn a c,h=>by simp only[qa2,jf]at h;simp only[qlu,qc2 τ h.1,qc2 τ h.2]
 |.agg cs,h=>by simp only[qlu,qc2 τ (show qa6 cs=true from h)]
 |.tup cs,h=>by simp only[qlu,qc2 τ (show qa6 cs=true from h)]
 |.ptr _ _,h=>by simp[qa2]at h
 |.slc _ _ _ _,h=>by simp[qa2]at h
 |.map _,h=>by simp[qa2]at h
 |.yld _,h=>by simp[qa2]at h
 |.undef,_=>rfl
 |.bool _,_=>rfl
 |.int _ _,_=>rfl
 |.str _,_=>rfl
 |.nilP,_=>rfl
 |.fptr _ _,_=>rfl
 |.nilS,_=>rfl
 |.eslc,_=>rfl
 |.zslc,_=>rfl
 |.fslc _ _,_=>rfl
 |.xslc _ _,_=>rfl
 |.nilM,_=>rfl
 |.nilF,_=>rfl
 |.val _,_=>rfl
theorem qc2(τ:Nat->Nat):∀{l:List AV},qa6 l=true->qii τ l=l
 |[],_=>rfl
 |v::r,h=>by simp only[qa6,jf]at h;simp only[qii,qhb τ h.1,qc2 τ h.2]
end
theorem VR.ren{τ:Nat->Nat} {ρ ρ':Place} {v:AV} {x:Value} (r:VR ρ v x):(∀b l,ρ b=some l->ρ' (τ b)=some l)->ρ'.bare=ρ.bare->VR ρ' (qlu τ v) x:=by
 induction r generalizing ρ' with
 |undef x=>exact fun _ _=>.undef x
 |bool b=>exact fun _ _=>.bool b
 |int k n=>exact fun _ _=>.int k n
 |str s=>exact fun _ _=>.str s
 |nilP=>exact fun _ _=>.nilP
 |ptr b o l e=>exact fun h _=>.ptr _ o l (h b l e)
 |fptr cs o cb off vs hB hc hv ih=>intro _ hb;have hW:=jR Place.W hb;have hBB:=jR Place.B hb;simp only[Place.bare]at hW hBB;exact .fptr cs o cb off vs (by rw[hBB];exact hB) (fun i hi=>by rw[hW];exact hc i hi) fun i hi=>by rw[hb];exact hv i hi
 |nilS=>exact fun _ _=>.nilS
 |eslc a c=>exact fun _ _=>.eslc a c
 |zslcN=>exact fun _ _=>.zslcN
 |zslcE a=>exact fun _ _=>.zslcE a
 |slcE b o len c l e hc=>exact fun h _=>.slcE _ o len c l (h b l e) hc
 |slcR b o len sz c l e hc hf=>exact fun h _=>.slcR _ o len sz c l (h b l e) hc hf
 |fslc sz es cb off cap vs hB hcap hz hc hv ih=>intro _ hb;have hW:=jR Place.W hb;have hBB:=jR Place.B hb;simp only[Place.bare]at hW hBB;exact .fslc sz es cb off cap vs (by rw[hBB];exact hB) hcap hz (fun i hi j hj=>by rw[hW];exact hc i hi j hj) fun i hi j hj=>by rw[hb];exact hv i hi j hj
 |xslc sz es cb off vs hB hz hc hv ih=>intro _ hb;have hW:=jR Place.W hb;have hBB:=jR Place.B hb;simp only[Place.bare]at hW hBB;exact .xslc sz es cb off vs (by rw[hBB];exact hB) hz (fun i hi j hj=>by rw[hW];exact hc i hi j hj) fun i hi j hj=>by rw[hb];exact hv i hi j hj
 |fnil sz=>exact fun _ _=>.fnil sz
 |fnone sz a c=>exact fun _ _=>.fnone sz a c
 |nilM=>exact fun _ _=>.nilM
 |map b l e=>exact fun h _=>.map _ l (h b l e)
 |nilF=>exact fun _ _=>.nilF
 |func fn a c a' c' ha hc hav hcv iha ihc=>
  intro h hb;exact .func fn _ _ a' c' (by rw[qcz];exact ha) (by rw[qcz];exact hc)
   (fun i h1 h2=>by rw[qjq τ a i h1 (by rw[<- qcz τ];exact h1)];exact iha i _ h2 h hb)
   (fun i h1 h2=>by rw[qjq τ c i h1 (by rw[<- qcz τ];exact h1)];exact ihc i _ h2 h hb)
 |agg cs vs hl hv ih=>exact fun h hb=>.agg _ vs (by rw[qcz];exact hl) fun i h1 h2=>by rw[qjq τ cs i h1 (by rw[<- qcz τ];exact h1)];exact ih i _ h2 h hb
 |tup cs vs hl hv ih=>exact fun h hb=>.tup _ vs (by rw[qcz];exact hl) fun i h1 h2=>by rw[qjq τ cs i h1 (by rw[<- qcz τ];exact h1)];exact ih i _ h2 h hb
 |yld b l e=>exact fun h _=>.yld _ l (h b l e)
 |val v e=>exact fun _ _=>.val v e
def renT(τ:Nat->Nat):List (Nat × AV)->List (Nat × AV)
 |[]=>[]
 |x::r=>(x.1,qlu τ x.2)::renT τ r
def renM(τ:Nat->Nat):List (AV × AV)->List (AV × AV)
 |[]=>[]
 |x::r=>(qlu τ x.1,qlu τ x.2)::renM τ r
def qn6(τ:Nat->Nat):Blk->Blk
 |.cells cs=>.cells (qii τ cs)
 |.map es=>.map (renM τ es)
 |.buf t fz cs=>.buf t fz (qii τ cs)
 |.iter s p=>.iter s p
 |.loop st pend ks vs ts sz ps a b=>.loop st pend ks (qii τ vs) (renT τ ts) sz ps a b
theorem qkf(τ:Nat->Nat):∀(l:List (AV × AV)),(renM τ l).length=l.length
 |[]=>rfl
 |v::r=>by simp[renM,qkf τ r]
theorem qwj(τ:Nat->Nat):∀(l:List (AV × AV)) (i:Nat) (h:i < (renM τ l).length) (h':i < l.length),(renM τ l)[i]=(qlu τ l[i].1,qlu τ l[i].2)
 |[],i,h,_=>absurd h (j3 i)
 |v::r,0,_,_=>rfl
 |v::r,i+1,h,h'=>by simpa[renM]using qwj τ r i (by simpa[renM]using h) (by simpa using h')
theorem qww(τ:Nat->Nat) {t:Nat}:∀{ts:List (Nat × AV)} {v:AV},look t (renT τ ts)=some v->∃u,look t ts=some u/\v=qlu τ u
 |[],v,h=>by simp[renT,qmw]at h
 |x::r,v,h=>by
  unfold renT at h;rw[qhv]at h;rw[qhv];split at h
  next hb=>simp only[sj]at h;exact⟨x.2,by simp[hb],h.symm⟩
  next hb=>obtain⟨u,h1,h2⟩:=qww τ h;exact⟨u,by simp[hb,h1],h2⟩
theorem qtn(τ:Nat->Nat) {t:Nat}:∀{ks:List Nat} {vs:List AV},qgl t ks (qii τ vs)=(qgl t ks vs).map (qlu τ)
 |[],vs=>by simp[qe3,qjb]
 |k::ks,[]=>by simp[qii,qe3]
 |k::ks,v::r=>by
  unfold qii;rw[qe3,qe3];simp only;split
  ·rfl
  ·exact qtn τ
theorem BlkR.ren{τ:Nat->Nat} {ρ ρ':Place} {w:World} {l:Loc} {k:Blk} (r:BlkR ρ w l k) (h:∀b l,ρ b=some l->ρ' (τ b)=some l) (hb:ρ'.bare=ρ.bare):BlkR ρ' w l (qn6 τ k):=by
 have cells:∀{cs:List AV},(∀i (h:i < cs.length),∃x,w.cell? ⟨l.cb,l.off+i,none⟩=some x/\VR ρ cs[i] x)->∀i (h:i < (qii τ cs).length),∃x,w.cell? ⟨l.cb,l.off+i,none⟩=some x/\VR ρ' (qii τ cs)[i] x:=fun {cs} hv i hi=>by
  have hi':i < cs.length:=by rw[<- qcz τ];exact hi
  obtain⟨x,hx,hxv⟩:=hv i hi';exact⟨x,hx,by rw[qjq τ cs i hi hi'];exact hxv.ren h hb⟩
 cases k with
 |cells cs=>exact⟨by rw[qcz];exact r.1,r.2.1,cells r.2.2⟩
 |map es=>
  obtain⟨ents,clock,h1,h2,h3⟩:=r;refine⟨ents,clock,h1,by rw[qkf];exact h2,fun i a b=>?_⟩;have ha:i < es.length:=by rw[<- qkf τ];exact a
  rw[qwj τ es i a ha];exact⟨(h3 i ha b).1.ren h hb,(h3 i ha b).2.ren h hb⟩
 |buf t fz cs=>exact⟨⟨by rw[qcz];exact r.1.1,r.1.2.1,cells r.1.2.2⟩,r.2.1,by rw[qcz];exact r.2.2.1,r.2.2.2⟩
 |iter s p=>exact r
 |loop st pend ks vs ts sz ps a b=>
  obtain⟨q,h1,h2,h3,h4,h5,h6,h7,h8⟩:=r;refine⟨q,h1,h2,h3,h4,h5,h6,h7,fun t v hv=>?_⟩;rw[qtn]at hv;cases hk:qgl t ks vs with
  |some u=>simp only[hk,yt,sj]at hv;subst hv;exact(h8 t u (by simp[hk])).ren h hb
  |none=>simp only[hk,Option.map_none]at hv;obtain⟨u,g1,g2⟩:=qww τ hv;subst g2;exact(h8 t u (by simp[hk,g1])).ren h hb
def qg4(σ:List (Nat × Nat)) (N m:Nat) (b:Nat):Nat:=match qdt b σ with
 |some x=>x
 |none=>N+(b - m)
structure OutH (σ:List (Nat × Nat)) (H Hs Hs' H':Heap):Prop where
 num:H'.n=H.n+(Hs'.n - Hs.n)
 nodup:(H.ents.map (·.1)).Nodup->(∀e,e∈H.ents->e.1 < H.n)->(H'.ents.map (·.1)).Nodup
 src:∀e,e∈H'.ents->(∃e',e'∈Hs'.ents/\e=(qg4 σ H.n Hs.n e'.1,qn6 (qg4 σ H.n Hs.n) e'.2))\/(e∈H.ents/\∀x,x∈σ->x.1≠e.1)
theorem CallAt.framed{C:Ctx} {f:FuncId} {args args':List AV} {v':AV} {H Hs Hs' H':Heap} {σ:List (Nat × Nat)} (h:CallAt C f args' Hs v' Hs') (fh:FitH 0 σ [] H Hs) (hf:qb8 σ [] args args') (out:OutH σ H Hs Hs' H') (hmn:Hs.n<=Hs'.n) :
  CallAt C f args H (qlu (qg4 σ H.n Hs.n) v') H':=by
 intro ρ w xs sm hx;obtain⟨ρs,hρs⟩ : ∃ρs,ρs=qbw 0 σ [] ρ w sm.below:=⟨_,rfl⟩;have sms:Sim ρs Hs w:=by rw[hρs];exact fh.sim sm (jx _)
 have hxs:VRs ρs args' xs:=by obtain⟨k1,k2⟩:=qd7 hf;rw[hρs];refine⟨by rw[hx.1,k1],fun i h1 h2=>?_⟩;exact Fits.run (fh.fits sm) sm _ (ja _) (hx.2 i (by omega) h2) (k2 i (by omega) h1)
 have hB:∀k,ρs.B k->ρ.B k:=fun k hk=>by
  rw[hρs]at hk;rcases hk with hk|⟨b,cs,l,h1,_⟩
  ·exact hk
  ·cases h1
 have hB':∀k,ρ.B k->ρs.B k:=fun k hk=>by rw[hρs];exact .inl hk
 have hat:∀b,ρs b=(qdt b σ).bind ρ.at_:=fun b=>by subst hρs;simp only[qbw,j3,jM]
 have hsW:ρs.W=w:=by rw[hρs];rfl
 have hrowS:∀e,e∈Hs.ents->∀l,ρs e.1=some l->∃e0,e0∈H.ents/\ρ e0.1=some l/\(e0.1,e.1)∈σ:=fun e he l hl=>by obtain⟨b,k,h1,h2,_⟩:=fh.src e he;rw[hρs,qek fh h1]at hl;exact⟨(b,k),Heap.get_mem h2,hl,h1⟩
 have up:∀{x:Value} {ρ1:Place} {w':World},VR ρ1 v' x->Sim ρ1 Hs' w'->Step ρs Hs w ρ1 Hs' w'->∃ρ',VR ρ' (qlu (qg4 σ H.n Hs.n) v') x/\Sim ρ' H' w'/\Step ρ H w ρ' H' w':=by
  intro x ρ1 w' hv s1 t1;obtain⟨ρ',hρ'⟩ : ∃ρ':Place,ρ'={ ρ1 with at_:=fun b=>if b < H.n then ρ b else if b < H.n+(Hs'.n - Hs.n) then ρ1 (b - H.n+Hs.n) else none }:=⟨_,rfl⟩;have hlow:∀b,b < H.n->ρ' b=ρ b:=fun b hb=>by rw[hρ'];show (if b < H.n then ρ b else _)=_;rw[jo hb]
  have hW':ρ'.W=ρ1.W:=by rw[hρ']
  have hB1:ρ'.B=ρ1.B:=by rw[hρ']
  have hbare:ρ'.bare=ρ1.bare:=by rw[hρ'];rfl
  have key:∀b l,ρ1 b=some l->ρ' (qg4 σ H.n Hs.n b)=some l:=fun b l hl=>by
   have hbn:b < Hs'.n:=by
    rcases jF b Hs'.n with hh|hh
    ·exact hh
    ·rw[s1.dom b hh]at hl;cases hl
   rcases jF b Hs.n with hh|hh
   ·rw[t1.low b hh,hat]at hl;obtain⟨y,hy,hyl⟩:=obs hl;unfold qg4;rw[hy];have hyn:y < H.n:=by
     rcases jF y H.n with hq|hq
     ·exact hq
     ·rw[sm.dom y hq]at hyl;cases hyl
    rw[hlow y hyn];exact hyl
   ·have hno:qdt b σ=none:=by
     cases hq:qdt b σ with
     |none=>rfl
     |some y=>have:=fh.lt _ (qol hq);simp only at this;omega
    unfold qg4;rw[hno,hρ'];show (if H.n+(b - Hs.n) < H.n then _ else if H.n+(b - Hs.n) < H.n+(Hs'.n - Hs.n) then ρ1 (H.n+(b - Hs.n) - H.n+Hs.n) else none)=_;rw[jm (by omega),jo (by omega),show H.n+(b - Hs.n) - H.n+Hs.n=b by omega];exact hl
  have hle:ρ.le ρ':=by
   refine⟨fun b l hl=>?_,fun k hk=>?_,?_,?_,?_⟩
   ·have hbn:b < H.n:=by
     rcases jF b H.n with hq|hq
     ·exact hq
     ·rw[sm.dom b hq]at hl;cases hl
    rw[hlow b hbn];exact hl
   ·obtain⟨g1,g2⟩:=t1.le.fz k (hB' k hk);refine⟨by rw[hB1];exact g1,?_⟩;rw[hW',g2,hsW];exact sm.below k hk
   ·rw[hW',t1.le.os,hsW];exact sm.os
   ·rw[hW',t1.le.tape,hsW];exact sm.tape
   ·rw[hW',t1.le.output,hsW];exact sm.output
  have other:∀e,e∈H.ents->(∀y,y∈σ->y.1≠e.1)->∀l,ρ e.1=some l->∀e',e'∈Hs.ents->∀l',ρs e'.1=some l'->l'.cb≠l.cb:=fun e he hn l hl e' he' l' hl' hcb=>by obtain⟨e0,h1,h2,h3⟩:=hrowS e' he' l' hl';have:=sm.inj _ _ h1 he l' l h2 hl hcb;exact hn _ h3 this
  refine⟨ρ',hv.ren key hbare,⟨?_,?_,?_,?_,?_,?_,?_,?_,?_⟩,⟨hle,t1.size,?_,?_,?_,?_,?_⟩⟩
  ·rw[hB1];exact s1.base
  ·rw[hB1,hW'];exact s1.below
  ·rw[hW'];exact s1.os
  ·rw[hW'];exact s1.tape
  ·rw[hW'];exact s1.output
  ·intro b hb;rw[out.num]at hb;rw[hρ'];show (if b < H.n then ρ b else if b < H.n+(Hs'.n - Hs.n) then _ else none)=none;rw[jm (by omega),jm (by omega)]
  ·exact out.nodup sm.nodup fun e he=>sm.id_lt he
  ·intro e he;rcases out.src e he with⟨e',he',rfl⟩|⟨he',hn⟩
   ·obtain⟨l,g1,g2,g3,g4⟩:=s1.live e' he';exact⟨l,key _ l g1,by rw[hB1];exact g2,g3,g4.ren key hbare⟩
   ·obtain⟨l,g1,g2,g3,g4⟩:=sm.live e he';refine⟨l,hle.at_ _ _ g1,fun hB2=>?_,jI g3 t1.size,(g4.same (t1.keeps _ g3 fun e2 he2 l2 hl2=>other e he' hn l g1 e2 he2 l2 hl2)).mono hle⟩;rw[hB1]at hB2;rcases t1.cold _ hB2 with hh|⟨e2,he2,l2,hl2,hcb⟩|hh
    ·exact g2 (hB _ hh)
    ·exact other e he' hn l g1 e2 he2 l2 hl2 hcb
    ·omega
  ·intro e e2 he he2 l l2 hl hl2 hcb;have side:∀a,a∈Hs'.ents->∀la,ρ' (qg4 σ H.n Hs.n a.1)=some la->ρ1 a.1=some la:=fun a ha la hla=>(by obtain⟨l0,g1,_⟩:=s1.live a ha;rw[key _ l0 g1]at hla;cases hla;exact g1);have mixed:∀a,a∈Hs'.ents->∀q,q∈H.ents->(∀y,y∈σ->y.1≠q.1)->∀la lq,ρ1 a.1=some la->ρ q.1=some lq->la.cb≠lq.cb:=fun a ha q hq hn la lq hla hlq hc=>by
    rcases t1.rows a ha la hla with⟨e0,he0,l0,hl0,hc0⟩|hge
    ·exact other q hq hn lq hlq e0 he0 l0 hl0 (hc0.trans hc)
    ·obtain⟨l3,g1,_,g3,_⟩:=sm.live q hq;rw[hlq]at g1;cases g1;omega
   rcases out.src e he with⟨a,ha,rfl⟩|⟨ha,hn⟩<;>rcases out.src e2 he2 with⟨a2,ha2,rfl⟩|⟨ha2,hn2⟩
   ·have:=s1.inj a a2 ha ha2 l l2 (side a ha l hl) (side a2 ha2 l2 hl2) hcb;simp only[this]
   ·have hq:ρ e2.1=some l2:=(by rw[<- hlow _ (sm.id_lt ha2)];exact hl2);exact absurd hcb (mixed a ha e2 ha2 hn2 l l2 (side a ha l hl) hq)
   ·have hq:ρ e.1=some l:=(by rw[<- hlow _ (sm.id_lt ha)];exact hl);exact absurd hcb.symm (mixed a2 ha2 e ha hn l2 l (side a2 ha2 l2 hl2) hq)
   ·have hq:ρ e.1=some l:=(by rw[<- hlow _ (sm.id_lt ha)];exact hl);have hq2:ρ e2.1=some l2:=(by rw[<- hlow _ (sm.id_lt ha2)];exact hl2);exact sm.inj e e2 ha ha2 l l2 hq hq2 hcb
  ·intro k hk hn;refine t1.keeps k hk fun e he l hl=>?_;obtain⟨e0,h1,h2,_⟩:=hrowS e he l hl;exact hn e0 h1 l h2
  ·intro e he l hl;rcases out.src e he with⟨a,ha,rfl⟩|⟨ha,hn⟩
   ·obtain⟨l0,g1,_⟩:=s1.live a ha;have e1:=key _ l0 g1;simp only at hl;rw[e1]at hl;cases hl;rcases t1.rows a ha _ g1 with⟨e0,he0,l1,hl1,hc0⟩|hge
    ·obtain⟨e3,h1,h2,_⟩:=hrowS e0 he0 l1 hl1;exact .inl ⟨e3,h1,l1,h2,hc0⟩
    ·exact .inr hge
   ·have hq:ρ e.1=some l:=(by rw[<- hlow _ (sm.id_lt ha)];exact hl);exact .inl ⟨e,ha,l,hq,rfl⟩
  ·rw[out.num];omega
  ·exact hlow
  ·intro k hk;rw[hB1]at hk;rcases t1.cold k hk with hh|⟨e,he,l,hl,hlk⟩|hh
   ·exact .inl (hB _ hh)
   ·obtain⟨e0,h1,h2,_⟩:=hrowS e he l hl;exact .inr (.inl ⟨e0,h1,l,h2,hlk⟩)
   ·exact .inr (.inr hh)
 rcases h ρs w xs sms hxs with⟨x,ρ1,w',h0,h1,h2,h3⟩|⟨g,ys,h0,h1⟩
 ·obtain⟨ρ',k1,k2,k3⟩:=up h1 h2 h3;exact .inl ⟨x,ρ',w',h0,k1,k2,k3⟩
 ·refine .inr ⟨g,ys,h0,h1.mono ?_⟩;rintro e w' ⟨x,ρ1,rfl,m1,m2,m3⟩;obtain⟨ρ',k1,k2,k3⟩:=up m1 m2 m3;exact⟨x,ρ',rfl,k1,k2,k3⟩
