/- place.Elem. No condition. -/
import Derived.Test.YtnfdakclfmchfaaGreatMK
namespace Go.Proofs.YtnfdakclfmchfaaGreat
noncomputable section
set_option linter.unusedSimpArgs false
set_option linter.unusedVariables false
open Go Go.RowKit
set_option maxRecDepth 100000
theorem yj:type_of% @Option.getD_none:=@Option.getD_none
theorem yH:type_of% @List.filter_sublist:=@List.filter_sublist
theorem yM:type_of% @List.pairwise_append:=@List.pairwise_append
theorem yQ:type_of% @List.all_eq_true:=@List.all_eq_true
theorem yY:type_of% @Bool.false_and:=@Bool.false_and
theorem Jl:type_of% @Option.isNone_some:=@Option.isNone_some
theorem Jm:type_of% @Option.isNone_none:=@Option.isNone_none
variable {T:List (Entry Tryz.prog)}
section
variable {C:Ctx} {call:qck} {ops:Array Oper} {s:St} {o:Oper} {l:List Oper} {P:St->Prop}
theorem qpn{E R:Option St} (h:E=R) (k:∃s',R=some s'/\P s'):∃s',E=some s'/\P s':=by subst h;exact k
theorem qaf(h:P s):∃s',some s=some s'/\P s':=⟨s,rfl,h⟩
theorem qdd{b:Bool} (h1:b=true->∃s',qj1 C call ops (qk1 C call s o (some true)) l=some s'/\P s') (h2:b=false->∃s',qj1 C call ops (qk1 C call s o (some false)) l=some s'/\P s') :
  ∃s',qj1 C call ops (qk1 C call s o (some b)) l=some s'/\P s':=by
 cases b with
 |true=>exact h1 rfl
 |false=>exact h2 rfl
theorem qjs{H:Heap} {d:Option Tmp} {p q:Option AV} {b:Bool} (h1:b=true->∃s',qj1 C call ops (qy9 s d (qn7 H (some (.bool true)) p q)) l=some s'/\P s') (h2:b=false->∃s',qj1 C call ops (qy9 s d (qn7 H (some (.bool false)) p q)) l=some s'/\P s') :
  ∃s',qj1 C call ops (qy9 s d (qn7 H (some (.bool b)) p q)) l=some s'/\P s':=by
 cases b with
 |true=>exact h1 rfl
 |false=>exact h2 rfl
theorem rE{n:Nat} {r:Option Nat} {id:Nat} {ops:Array Oper} {s:St} {Q:Out->St->Prop} {R:Option St} (h:qfn (ctx T) (qb5 (ctx T)) ops ops.toList { s with ts:=[] }=R) (k:∃s1,R=some s1/\Q .normal s1):WpSr (ctx T) n r (.region id ops false) s Q:=qb0 qaz (qpn h k)
end
theorem ascB{W:Str} (h:W.all (fun c=>decide (c.toNat < 128))=true):qd9 W:=trivial
section
variable (n:Nd)
@[simp]theorem nd_cells:(qa9 n).cells=n.cs:=rfl
@[simp]theorem nd_len:n.cs.length=7:=rfl
@[simp]theorem nd_single:allSingle n.cs=true:=rfl
@[simp]theorem nd_over{a b c d e f g:AV}:qin n.cs [a,b,c,d,e,f,g]=some n.cs:=rfl
@[simp]theorem nd_lay{a b c d e f g:AV}:qiz n.cs 0 [a,b,c,d,e,f,g]=some n.cs:=rfl
@[simp]theorem nd_over'{m:Nd}:qin n.cs m.cs=some n.cs:=rfl
@[simp]theorem nd_lay'{m:Nd}:qiz n.cs 0 m.cs=some n.cs:=rfl
@[simp]theorem nd_refs:n.cs.flatMap (refs 6)=[]:=qe2 6 _ (pure_cs n)
@[simp]theorem nd_take:qey 7 n.cs=some n.cs:=rfl
@[simp]theorem nd_sub:qfe 0 7 n.cs=some n.cs:=rfl
theorem zau:AV.agg n.cs=qa9 n:=rfl
@[simp]theorem nd_f0:qbu PG 65 (qa9 n) 0=some (.int .i64 n.kind):=rfl
@[simp]theorem nd_f1:qbu PG 65 (qa9 n) 1=some (.int .i64 n.space):=rfl
@[simp]theorem nd_f2:qbu PG 65 (qa9 n) 2=some (.str n.name):=rfl
@[simp]theorem nd_f3:qbu PG 65 (qa9 n) 3=some (qae n.attrs):=rfl
@[simp]theorem nd_f4:qbu PG 65 (qa9 n) 4=some (.str n.data):=rfl
@[simp]theorem nd_f5:qbu PG 65 (qa9 n) 5=some (.int .i64 n.up):=rfl
@[simp]theorem nd_f6:qbu PG 65 (qa9 n) 6=some (qa8 n.kids):=rfl
end
structure QA where
 C:Ctx
 call:qck
 ops:Array Oper
 base:Nat
abbrev QR:=St × List Pend × Option Nat
open Classical in
def chg(c:Option Nat) (i:Nat) (H' H:Heap):Option Nat:=if H'=H then c else some (c.getD i)
theorem chg_same{c:Option Nat} {i:Nat} {H:Heap}:chg c i H H=c:=by simp[chg]
def evQ(A:QA):Nat->List Oper->St->List Pend->Option Nat->Option QR
 |_,[],s,ps,c=>some (s,ps,c)
 |i,o::r,s,ps,c=>match qb4 o.op with
  |.allocs=>(qar A.ops s o).bind fun g=>match g with
   |true=>(qbc A.C o s).bind fun k=>(s.put o.dst (k.1 (A.base+i))).bind fun s'=>evQ A (i+1) r s' (⟨i,A.base+i,k.2⟩::ps) c
   |false=>(s.put o.dst (.tup [])).bind fun s'=>evQ A (i+1) r s' ps c
  |.acts=>(qeb A.C A.call A.ops o (s.wH (s.H.lay (allPend ps)))).bind fun s'=>evQ A (i+1) r s' [] (chg c i s'.H s.H)
  |_=>(qeb A.C A.call A.ops o s).bind fun s'=>evQ A (i+1) r s' ps c
section
variable {A:QA} {i:Nat} {o:Oper} {r:List Oper} {s s':St} {ps:List Pend} {c:Option Nat} {H:Heap}
def nxQ(A:QA) (i:Nat) (r:List Oper) (ps:List Pend) (c:Option Nat):Option St->Option QR
 |none=>none
 |some s'=>evQ A (i+1) r s' ps c
def nxX(A:QA) (i:Nat) (r:List Oper) (c:Option Nat) (H:Heap):Option St->Option QR
 |none=>none
 |some s'=>evQ A (i+1) r s' [] (chg c i s'.H H)
def laQ(A:QA) (i:Nat) (o:Oper) (r:List Oper) (s:St) (ps:List Pend) (c:Option Nat):Option ((Nat->AV) × Blk)->Option QR
 |none=>none
 |some k=>nxQ A i r (⟨i,A.base+i,k.2⟩::ps) c (s.put o.dst (k.1 (A.base+i)))
def alQ(A:QA) (i:Nat) (o:Oper) (r:List Oper) (s:St) (ps:List Pend) (c:Option Nat):Option Bool->Option QR
 |none=>none
 |some true=>laQ A i o r s ps c (qbc A.C o s)
 |some false=>nxQ A i r ps c (s.put o.dst (.tup []))
def stQ(A:QA) (i:Nat) (o:Oper) (r:List Oper) (s:St) (ps:List Pend) (c:Option Nat):Cls->Option QR
 |.allocs=>alQ A i o r s ps c (qar A.ops s o)
 |.acts=>nxX A i r c s.H (qeb A.C A.call A.ops o (s.wH (s.H.lay (allPend ps))))
 |.reads=>nxQ A i r ps c (qeb A.C A.call A.ops o s)
 |.pure=>nxQ A i r ps c (qeb A.C A.call A.ops o s)
theorem evQ_n:evQ A i [] s ps c=some (s,ps,c):=rfl
theorem evQ_c:evQ A i (o::r) s ps c=stQ A i o r s ps c (qb4 o.op):=by
 unfold evQ;cases qb4 o.op with
 |pure=>simp only[stQ];cases qeb A.C A.call A.ops o s<;>rfl
 |reads=>simp only[stQ];cases qeb A.C A.call A.ops o s<;>rfl
 |acts=>simp only[stQ];cases qeb A.C A.call A.ops o (s.wH (s.H.lay (allPend ps)))<;>rfl
 |allocs=>
  simp only[stQ];cases qar A.ops s o with
  |none=>rfl
  |some g=>cases g with
   |false=>simp only[alQ,jc];cases s.put o.dst (.tup [])<;>rfl
   |true=>
    simp only[alQ,jc];cases qbc A.C o s with
    |none=>rfl
    |some k=>simp only[laQ,jc];cases s.put o.dst (k.1 (A.base+i))<;>rfl
theorem stQ_p:stQ A i o r s ps c .pure=nxQ A i r ps c (qeb A.C A.call A.ops o s):=rfl
theorem stQ_r:stQ A i o r s ps c .reads=nxQ A i r ps c (qeb A.C A.call A.ops o s):=rfl
theorem stQ_a:stQ A i o r s ps c .acts=nxX A i r c s.H (qeb A.C A.call A.ops o (s.wH (s.H.lay (allPend ps)))):=rfl
theorem stQ_l:stQ A i o r s ps c .allocs=alQ A i o r s ps c (qar A.ops s o):=rfl
theorem alQ_t:alQ A i o r s ps c (some true)=laQ A i o r s ps c (qbc A.C o s):=rfl
theorem alQ_f:alQ A i o r s ps c (some false)=nxQ A i r ps c (s.put o.dst (.tup [])):=rfl
theorem laQ_s{k:(Nat->AV) × Blk}:laQ A i o r s ps c (some k)=nxQ A i r (⟨i,A.base+i,k.2⟩::ps) c (s.put o.dst (k.1 (A.base+i))):=rfl
theorem nxQ_s:nxQ A i r ps c (some s')=evQ A (i+1) r s' ps c:=rfl
theorem nxX_s:nxX A i r c H (some s')=evQ A (i+1) r s' [] (chg c i s'.H H):=rfl
theorem zW:type_of% (And.intro @evQ_n (And.intro @evQ_c (And.intro @stQ_p (And.intro @stQ_r (And.intro @stQ_a (And.intro @stQ_l (And.intro @alQ_t (And.intro @alQ_f (And.intro @laQ_s (And.intro @nxQ_s (And.intro @nxX_s (And.intro @chg_same (And.intro @allPend.eq_1 @allPend.eq_2))))))))))))):=
 And.intro @evQ_n (And.intro @evQ_c (And.intro @stQ_p (And.intro @stQ_r (And.intro @stQ_a (And.intro @stQ_l (And.intro @alQ_t (And.intro @alQ_f (And.intro @laQ_s (And.intro @nxQ_s (And.intro @nxX_s (And.intro @chg_same (And.intro @allPend.eq_1 @allPend.eq_2))))))))))))
end
def isR:Cls->Bool
 |.reads=>true
 |_=>false
def isX:Cls->Bool
 |.acts=>true
 |_=>false
def isL:Cls->Bool
 |.allocs=>true
 |_=>false
def qn9(ops:Array Oper) (i:Nat):Cls:=match ops[i]? with
 |some o=>qb4 o.op
 |none=>.pure
def qo5(bef:Array Nat) (ops:Array Oper) (p:Nat):Bool:=(List.range ops.size).all fun j=>!(Nat.ble p j && isX (qn9 ops j)) || (List.range ops.size).all fun i=>!isR (qn9 ops i) ||
 match Nat.blt i j with
 |true=>ahead bef i j
 |false=>ahead bef j i && !ahead bef i j
def qrl(bef:Array Nat) (ops:Array Oper):Bool:=(List.range ops.size).all fun a=>!isL (qn9 ops a) || (List.range ops.size).all fun j=>!(Nat.blt a j && isX (qn9 ops j)) || ahead bef a j
def okC(ops:Array Oper):Option Nat->Bool
 |none=>true
 |some p=>qo5 (Region.before ops) ops p
theorem qc7{ops:Array Oper} {c:Option Nat} {i:Nat} {H' H:Heap} (h:qo5 (Region.before ops) ops i=true) (h2:okC ops c=true):okC ops (chg c i H' H)=true:=by
 unfold chg;split
 ·exact h2
 ·cases c with
  |none=>exact h
  |some p=>exact h2
theorem qc6{ops:Array Oper}:okC ops none=true:=rfl
section
variable {C:Ctx} {call:qck} {ops:Array Oper} {bef:Array Nat} {H0:Heap}
theorem seq_at{p i j:Nat} {oi oj:Oper} (h:qo5 bef ops p=true) (hp:p<=j) (hj:ops[j]? = some oj) (hx:qb4 oj.op=.acts) (hi:ops[i]? = some oi) (hr:qb4 oi.op=.reads):(i < j->ahead bef i j=true)/\(j<=i->ahead bef j i=true/\ahead bef i j=false):=by
 unfold qo5 at h;rw[yQ]at h;have lj:j < ops.size:=by rcases jF j ops.size with q|q;exact q;rw[Array.getElem?_eq_none q]at hj;cases hj
 have li:i < ops.size:=by rcases jF i ops.size with q|q;exact q;rw[Array.getElem?_eq_none q]at hi;cases hi
 have h1:=h j (List.mem_range.2 lj);have b1:Nat.ble p j=true:=by rw[jW];exact hp
 have e1:isX (qn9 ops j)=true:=by unfold qn9;rw[hj];simp only;rw[hx];rfl
 have e2:isR (qn9 ops i)=true:=by unfold qn9;rw[hi];simp only;rw[hr];rfl
 rw[b1,e1]at h1;simp only[Jd,Jc,Bool.false_or]at h1;rw[yQ]at h1;have h2:=h1 i (List.mem_range.2 li);rw[e2]at h2;simp only[Jc,Bool.false_or]at h2;constructor
 ·intro hlt;have:Nat.blt i j=true:=by simp;omega
  rw[this]at h2;exact h2
 ·intro hle;have:Nat.blt i j=false:=by rw[<- Bool.not_eq_true];simp;omega
  rw[this]at h2;simp only[jf,yn]at h2;exact h2
theorem layF_at{a j:Nat} {oa oj:Oper} (h:qrl bef ops=true) (hlt:a < j) (ha:ops[a]? = some oa) (hl:qb4 oa.op=.allocs) (hj:ops[j]? = some oj) (hx:qb4 oj.op=.acts):ahead bef a j=true:=by
 unfold qrl at h;rw[yQ]at h;have lj:j < ops.size:=by rcases jF j ops.size with q|q;exact q;rw[Array.getElem?_eq_none q]at hj;cases hj
 have la:a < ops.size:=by omega
 have h1:=h a (List.mem_range.2 la);have e1:isX (qn9 ops j)=true:=by unfold qn9;rw[hj];simp only;rw[hx];rfl
 have e2:isL (qn9 ops a)=true:=by unfold qn9;rw[ha];simp only;rw[hl];rfl
 have b1:Nat.blt a j=true:=by simp;omega
 rw[e2]at h1;simp only[Jc,Bool.false_or]at h1;rw[yQ]at h1;have h2:=h1 j (List.mem_range.2 lj);rw[b1,e1]at h2;simpa using h2
theorem qvz{j:Nat}:∀{ps:List Pend},(∀p,p∈ps->ahead bef p.i j=true)->qbd bef j ps=allPend ps/\qba bef j ps=[]
 |[],_=>⟨rfl,rfl⟩
 |p::r,h=>by
  obtain⟨h1,h2⟩:=qvz (ps:=r) fun q hq=>h q (by simp[hq]);have hp:=h p (by simp);constructor
  ·unfold qbd;rw[hp,h1];rfl
  ·unfold qba;rw[hp];exact h2
structure InvQ (C:Ctx) (call:qck) (ops:Array Oper) (bef:Array Nat) (H0:Heap) (d:DrawSt) (s:St) (ps:List Pend) (c:Option Nat) (i:Nat):Prop where
 s_:d.s=s
 ps_:d.ps=ps
 pi:∀p,p∈ps->p.i < i/\∃o,ops[p.i]? = some o/\qb4 o.op=.allocs
 hi:∀h,h∈d.hs->h.1 < i/\∃o,ops[h.1]? = some o/\qb4 o.op=.acts
 rs:∀x,x∈d.rs->x.i < i/\(∃o,ops[x.i]? = some o/\qb4 o.op=.reads)/\qc9 C call bef x H0 d.hs=true
 no:c=none->s.H=H0/\(∀h,h∈d.hs->h.2=H0)/\∀x,x∈d.rs->qd2 C call x H0=true
 so:∀p,c=some p->∃h r,d.hs=h::r/\h.2=s.H/\p<=h.1
theorem put_w{s:St} {d:Option Tmp} {v:AV} {H:Heap}:St.put (s.wH H) d v=(St.put s d v).bind fun s1=>some (s1.wH H):=by
 obtain⟨ks,vs,ts,sz,H1⟩:=s;cases d with
 |none=>rfl
 |some t=>
  simp only[St.put,St.set,St.wH];cases Nat.blt t sz with
  |false=>rfl
  |true=>simp only;cases qup t v ks vs<;>rfl
theorem qoa{s s':St} {d:Option Tmp} {v:AV} (h:St.put s d v=some s'):s'.H=s.H:=by
 obtain⟨ks,vs,ts,sz,H1⟩:=s;cases d with
 |none=>simp only[St.put,sj]at h;subst h;rfl
 |some t=>
  simp only[St.put,St.set]at h;cases hb:Nat.blt t sz with
  |false=>rw[hb]at h;cases h
  |true=>rw[hb]at h;simp only at h;cases hp:qup t v ks vs<;>rw[hp]at h<;>simp only[sj]at h<;>subst h<;>rfl
theorem guard_w{s:St} {o:Oper} {H:Heap}:qar ops (s.wH H) o=qar ops s o:=rfl
theorem qxw:∀{l:List Oper} {i base:Nat} {s s':St} {ps ps':List Pend} {p:Nat} {c':Option Nat},evQ ⟨C,call,ops,base⟩ i l s ps (some p)=some (s',ps',c')->c'=some p
 |[],i,base,s,s',ps,ps',p,c',h=>by rw[evQ_n]at h;simp only[sj,jg]at h;exact h.2.2.symm
 |o::r,i,base,s,s',ps,ps',p,c',h=>by
  have hc:∀H' H,chg (some p) i H' H=some p:=fun H' H=>by unfold chg;split<;>rfl
  unfold evQ at h;split at h
  ·obtain⟨g,_,h⟩:=obs h;cases g with
   |true=>obtain⟨k,_,h⟩:=obs h;obtain⟨s1,_,h⟩:=obs h;exact qxw h
   |false=>obtain⟨s1,_,h⟩:=obs h;exact qxw h
  ·obtain⟨s1,_,h⟩:=obs h;rw[hc]at h;exact qxw h
  ·obtain⟨s1,_,h⟩:=obs h;exact qxw h
theorem evQ_D{base:Nat} (hl:qrl bef ops=true):∀{l:List Oper} {i:Nat} {s s':St} {ps ps':List Pend} {c c':Option Nat} {d:DrawSt},ops.toList.drop i=l->evQ ⟨C,call,ops,base⟩ i l s ps c=some (s',ps',c') ->
  (∀p,c'=some p->qo5 bef ops p=true)->InvQ C call ops bef H0 d s ps c i->∃d',qlm C call ops bef base i l d=some d'/\InvQ C call ops bef H0 d' s' ps' c' (i+l.length)
 |[],i,s,s',ps,ps',c,c',d,_,h,_,k=>by rw[evQ_n]at h;simp only[sj,jg]at h;obtain⟨rfl,rfl,rfl⟩:=h;exact⟨d,rfl,k⟩
 |o::r,i,s,s',ps,ps',c,c',d,hd,h,hok,k=>by
  have hi:i < ops.toList.length:=by
   rcases jF i ops.toList.length with q|q
   ·exact q
   ·rw[ya q]at hd;cases hd
  rw[List.drop_eq_getElem_cons hi,jl]at hd;have ho:ops[i]? = some o:=by rw[<- hd.1];have:i < ops.size:=(by simpa using hi);simp[this]
  have hwant:=qvz (bef:=bef) (j:=i) (ps:=ps);have go:∀{d1:DrawSt} {s1:St} {ps1:List Pend} {c1:Option Nat},qi7 C call ops bef base i o d=some d1->evQ ⟨C,call,ops,base⟩ (i+1) r s1 ps1 c1=some (s',ps',c')->InvQ C call ops bef H0 d1 s1 ps1 c1 (i+1) ->
    ∃d',qlm C call ops bef base i (o::r) d=some d'/\InvQ C call ops bef H0 d' s' ps' c' (i+(o::r).length):=fun {d1 s1 ps1 c1} q1 q2 q3=>by
   obtain⟨d2,r1,r2⟩:=evQ_D hl hd.2 q2 hok q3;refine⟨d2,by simp only[qlm,q1,jc];exact r1,?_⟩;rw[jE,show i+(r.length+1)=i+1+r.length by omega];exact r2
  obtain⟨ds,dps,hs,rs⟩:=d;obtain⟨rfl,rfl,k3,k4,k5,k6,k7⟩:=k;simp only at k3 k4 k5 k6 k7 hwant;have calm:∀{s1:St},s1.H=ds.H->InvQ C call ops bef H0 ⟨s1,dps,hs,rs⟩ s1 dps c (i+1):=fun {s1} e=>⟨rfl,rfl,fun p hp=>⟨by have:=(k3 p hp).1;omega,(k3 p hp).2⟩,fun x hx=>⟨by have:=(k4 x hx).1;omega,(k4 x hx).2⟩,
   fun x hx=>⟨by have:=(k5 x hx).1;omega,(k5 x hx).2⟩,fun hc=>by rw[e];exact k6 hc,fun p hp=>by rw[e];exact k7 p hp⟩
  unfold evQ at h;cases hc:qb4 o.op with
  |allocs=>
   simp only[hc]at h;obtain⟨g,hg,h⟩:=obs h;cases g with
   |false=>obtain⟨s1,h1,h⟩:=obs h;exact go (by unfold qi7;simp only[hg,jc,h1,hc]) h (calm (qoa h1))
   |true=>
    obtain⟨b,hb,h⟩:=obs h;obtain⟨s1,h1,h⟩:=obs h;refine go (by unfold qi7;simp only[hg,jc,hc,hb,h1];rfl) h ?_;have e:=calm (qoa h1);exact⟨rfl,rfl,fun p hp=>by
     rcases jd.1 hp with rfl|hp
     ·exact⟨jT _,o,ho,hc⟩
     ·exact e.pi p hp,e.hi,e.rs,e.no,e.so⟩
  |acts=>
   simp only[hc]at h;obtain⟨s1,h1,h⟩:=obs h;obtain⟨w1,w2⟩:=hwant fun p hp=>(by obtain⟨q1,oa,q2,q3⟩:=k3 p hp;exact layF_at hl q1 q2 q3 ho hc);have hst:qi7 C call ops bef base i o ⟨ds,dps,hs,rs⟩=some ⟨s1,[],(i,s1.H)::hs,rs⟩:=by
    obtain⟨g,hg,h1⟩:=obs h1;rw[guard_w]at hg;unfold qi7;simp only[hg,jc,hc,w1,w2];cases g with
    |false=>simp only at h1 ⊢;rw[put_w]at h1;obtain⟨s2,e1,e2⟩:=obs h1;simp only[sj]at e2;rw[e1];simp only[jc];have hH:=qoa e1;subst e2;rw[hH];rfl
    |true=>simp only at h1 ⊢;obtain⟨v,e1,e2⟩:=obs h1;rw[e1];simp only[jc];have e2:St.put (ds.wH v.2) o.dst v.1=some s1:=e2;rw[e2];rfl
   refine go hst h ⟨rfl,rfl,fun p hp=>(by cases hp),fun x hx=>?_,fun x hx=>?_,fun hn=>?_,fun p hp=>?_⟩
   ·rcases jd.1 hx with rfl|hx
    ·exact⟨jT _,o,ho,hc⟩
    ·exact⟨by have:=(k4 x hx).1;omega,(k4 x hx).2⟩
   ·obtain⟨q1,⟨oi,q2,q2'⟩,q3⟩:=k5 x hx;refine⟨by omega,⟨oi,q2,q2'⟩,?_⟩;unfold qc9;cases ha:ahead bef x.i i with
    |true=>exact q3
    |false=>
     simp only;cases hcg:chg c i s1.H ds.H with
     |some p=>
      rw[hcg]at h;have hp:=hok p (qxw h);have hpi:p<=i:=by
       unfold chg at hcg;split at hcg
       ·obtain⟨hh,rr,m1,m2,m3⟩:=k7 p hcg;have:=(k4 hh (by rw[m1];simp)).1;omega
       ·cases c with
        |none=>simp only[yj,sj]at hcg;omega
        |some p'=>simp only[yg,sj]at hcg;obtain⟨hh,rr,m1,m2,m3⟩:=k7 p' rfl;have:=(k4 hh (by rw[m1];simp)).1;omega
      have:=(seq_at hp hpi ho hc q2 q2').1 q1;rw[ha]at this;cases this
     |none=>
      unfold chg at hcg;split at hcg
      ·rename_i hH;obtain⟨m1,m2,m3⟩:=k6 hcg;rw[hH,m1,m3 x hx];simp only;cases ahead bef i x.i with
       |true=>rfl
       |false=>exact q3
      ·cases hcg
   ·unfold chg at hn;split at hn
    ·rename_i hH;obtain⟨m1,m2,m3⟩:=k6 hn;refine⟨by rw[hH,m1],fun z hz=>?_,m3⟩;rcases jd.1 hz with rfl|hz
     ·show s1.H=H0;rw[hH,m1]
     ·exact m2 z hz
    ·cases hn
   ·refine⟨(i,s1.H),hs,rfl,rfl,?_⟩;unfold chg at hp;split at hp
    ·obtain⟨hh,rr,m1,m2,m3⟩:=k7 p hp;have:=(k4 hh (by rw[m1];simp)).1;show p<=i;omega
    ·cases c with
     |none=>simp only[yj,sj]at hp;show p<=i;omega
     |some p'=>simp only[yg,sj]at hp;obtain⟨hh,rr,m1,m2,m3⟩:=k7 p' rfl;have:=(k4 hh (by rw[m1];simp)).1;show p<=i;omega
  |pure=>
   simp only[hc]at h;obtain⟨s1,h1,h⟩:=obs h;obtain⟨g,hg,h1⟩:=obs h1;cases g with
   |false=>exact go (by unfold qi7;simp only[hg,jc];simp only at h1;rw[h1];simp only[jc,hc]) h (calm (qoa h1))
   |true=>simp only at h1;obtain⟨⟨v,Hv⟩,hv,hp⟩:=obs h1;obtain⟨e,_⟩:=qhw hc hv;subst e;have hp':ds.put o.dst v=some s1:=hp;exact go (by unfold qi7;simp only[hg,jc,hc,hv,hp']) h (calm (qoa hp'))
  |reads=>
   simp only[hc]at h;obtain⟨s1,h1,h⟩:=obs h;obtain⟨g,hg,h1⟩:=obs h1;cases g with
   |false=>exact go (by unfold qi7;simp only[hg,jc];simp only at h1;rw[h1];simp only[jc,hc]) h (calm (qoa h1))
   |true=>
    simp only at h1;obtain⟨⟨v,Hv⟩,hv,hp⟩:=obs h1;have e:=qh0 hc hv;subst e;have hp':ds.put o.dst v=some s1:=hp;have e:=calm (qoa hp');have here:qd2 C call ⟨i,o,ds,v⟩ ds.H=true:=(by unfold qd2;have:qah C call o { ds with H:=ds.H }=some (v,ds.H):=hv;simp only[this,yz]);refine go (d1:=⟨s1,dps,hs,⟨i,o,ds,v⟩::rs⟩) (by unfold qi7;simp only[hg,jc,hc,hv,hp']) h ⟨rfl,rfl,e.pi,e.hi,fun x hx=>?_,fun hn=>⟨(e.no hn).1,(e.no hn).2.1,fun x hx=>?_⟩,e.so⟩
    ·rcases jd.1 hx with rfl|hx
     ·refine⟨jT _,⟨o,ho,hc⟩,?_⟩;cases hcc:c with
      |none=>obtain⟨m1,m2,m3⟩:=k6 hcc;exact za1 (H0:=H0) ⟨(v,ds.H),by rw[<- m1];exact hv,rfl⟩ m2
      |some p=>obtain⟨hh,rr,m1,m2,m3⟩:=k7 p hcc;rw[m1];subst hcc;have hp:=hok p (qxw h);obtain⟨q1,oj,q2,q3⟩:=k4 hh (by rw[m1];simp);obtain⟨u1,u2⟩:=(seq_at hp m3 q2 q3 ho hc).2 (by omega);unfold qc9;simp only[u1,u2,m2,here]
     ·exact e.rs x hx
    ·rcases jd.1 hx with rfl|hx
     ·rw[<- (k6 hn).1];exact here
     ·exact(e.no hn).2.2 x hx
theorem qzz{hs:List (Nat × Heap)}:∀{rs:List Rec},(∀x,x∈rs->qc9 C call bef x H0 hs=true)->qc1 C call bef H0 hs rs=true
 |[],_=>rfl
 |x::r,h=>by unfold qc1;rw[h x (by simp)];exact qzz fun y hy=>h y (by simp[hy])
end
section
variable {C:Ctx} {call:qck} {ops:Array Oper} {n:Nat} {s:St} {Q:Out->St->Prop} {id:Nat}
theorem qal(hm:C.P.follows .mixedOrders=true) (hC:CallOK C call) (hd:qqk ops=true) (hl:qrl (Region.before ops) ops=true) (hf:qan ops.toList { s with ts:=[] }={ s with ts:=[] })
  (h:∃y:QR,evQ ⟨C,call,ops,s.H.n⟩ 0 ops.toList { s with ts:=[],H:=⟨s.H.n+ops.size,s.H.fs⟩ } [] none=some y/\okC ops y.2.2=true/\Q .normal { y.1 with H:=y.1.H.lay (allPend y.2.1) }):WpS C n (.region id ops true) s Q:=by
 obtain⟨⟨s',ps,c⟩,h1,h2,h3⟩:=h;refine qc4 hm hC hd fun B hB=>?_;subst hB;have hr:qbh (qan ops.toList { s with ts:=[] }) ops.size={ s with ts:=[],H:=⟨s.H.n+ops.size,s.H.fs⟩ }:=by rw[hf];rfl
 rw[hr];obtain⟨d,q1,q2⟩:=evQ_D (H0:=⟨s.H.n+ops.size,s.H.fs⟩) (d:=⟨{ s with ts:=[],H:=⟨s.H.n+ops.size,s.H.fs⟩ },[],[],[]⟩) hl rfl h1 (fun p hp=>by subst hp;exact h2)
  ⟨rfl,rfl,fun p hp=>(by cases hp),fun x hx=>(by cases hx),fun x hx=>(by cases hx),fun _=>⟨rfl,fun x hx=>(by cases hx),fun x hx=>(by cases hx)⟩,fun p hp=>(by cases hp)⟩
 refine⟨d,q1,qzz fun x hx=>(q2.rs x hx).2.2,?_⟩;rw[q2.ps_,q2.s_];exact h3
end
section
variable {P:QR->Prop} {ops:Array Oper} {A:QA} {i:Nat} {r:List Oper} {ps:List Pend} {c:Option Nat} {C:Ctx} {call:qck} {s:St} {o:Oper}
theorem qdm{E R:Option QR} (h:E=R) (k:∃y,R=some y/\P y):∃y,E=some y/\P y:=by subst h;exact k
theorem qav{y:QR} (k:P y):∃y',some y=some y'/\P y':=⟨y,rfl,k⟩
theorem qfm{b:Bool} (h1:b=true->∃y,nxQ A i r ps c (qk1 C call s o (some true))=some y/\P y) (h2:b=false->∃y,nxQ A i r ps c (qk1 C call s o (some false))=some y/\P y):∃y,nxQ A i r ps c (qk1 C call s o (some b))=some y/\P y:=by
 cases b with
 |true=>exact h1 rfl
 |false=>exact h2 rfl
theorem qvc{b:Bool} {H:Heap} (h1:b=true->∃y,nxX A i r c H (qk1 C call s o (some true))=some y/\P y) (h2:b=false->∃y,nxX A i r c H (qk1 C call s o (some false))=some y/\P y):∃y,nxX A i r c H (qk1 C call s o (some b))=some y/\P y:=by
 cases b with
 |true=>exact h1 rfl
 |false=>exact h2 rfl
theorem qim{H:Heap} {d:Option Tmp} {p q:Option AV} {b:Bool} (h1:b=true->∃y,nxQ A i r ps c (qy9 s d (qn7 H (some (.bool true)) p q))=some y/\P y) (h2:b=false->∃y,nxQ A i r ps c (qy9 s d (qn7 H (some (.bool false)) p q))=some y/\P y) :
  ∃y,nxQ A i r ps c (qy9 s d (qn7 H (some (.bool b)) p q))=some y/\P y:=by
 cases b with
 |true=>exact h1 rfl
 |false=>exact h2 rfl
end
@[simp]theorem szT23:qcj PG 23=some 1:=rfl
@[simp]theorem agT23:qh4 PG 23=some false:=rfl
@[simp]theorem byT23:qch PG 23=some 8:=rfl
@[simp]theorem alT23(H:Heap):alV PG H 23=some (.ptr H.n 0,H.new (.cells [.nilP])):=rfl
@[simp]theorem zeT23:qby PG 23=some (.nilP):=rfl
attribute [simp] Tryz.underlying23
@[simp 500]theorem rvF23(H:Heap) (cs:List AV) (o:Nat):qb2 PG H 23 (.fptr cs o)=qcb cs o:=rfl
@[simp 500]theorem rvP23(H:Heap) (b o:Nat):qb2 PG H 23 (.ptr b o)=(H.get b).bind fun k=>k.rd.bind fun cs=>qcb cs o:=rfl
@[simp]theorem szT40:qcj PG 40=some 11:=rfl
@[simp]theorem agT40:qh4 PG 40=some true:=rfl
@[simp]theorem byT40:qch PG 40=some 136:=rfl
@[simp]theorem alT40(H:Heap):alV PG H 40=some (.ptr H.n 0,H.new (.cells [.nilS,.nilS,.nilS,.int .i64 0,.int .i64 0,.int .i64 0,.int .i64 0,.int .i64 0,.bool false,.bool false,.str []])):=rfl
@[simp]theorem zeT40:qby PG 40=some (.agg [.nilS,.nilS,.nilS,.int .i64 0,.int .i64 0,.int .i64 0,.int .i64 0,.int .i64 0,.bool false,.bool false,.str []]):=rfl
attribute [simp] Tryz.underlying40
@[simp 500]theorem rvF40(H:Heap) (cs:List AV) (o:Nat):qb2 PG H 40 (.fptr cs o)=(qfe o 11 cs).bind fun cs=>some (.agg cs):=rfl
@[simp 500]theorem rvP40(H:Heap) (b o:Nat):qb2 PG H 40 (.ptr b o)=(readCells H b o 11).bind fun cs=>some (.agg cs):=rfl
@[simp]theorem fa40_0(x:AV):qb1 PG 40 x 0=(match x with | .ptr b o=>some (.ptr b (o+0)) | .fptr cs o=>some (.fptr cs (o+0))|_=>none):=rfl
@[simp]theorem fd40_0(cs:List AV):qbu PG 40 (.agg cs) 0=(qfe 0 1 cs).bind fun r=>some (.agg r):=rfl
@[simp]theorem fa40_1(x:AV):qb1 PG 40 x 1=(match x with | .ptr b o=>some (.ptr b (o+1)) | .fptr cs o=>some (.fptr cs (o+1))|_=>none):=rfl
@[simp]theorem fd40_1(cs:List AV):qbu PG 40 (.agg cs) 1=qcb cs 1:=rfl
@[simp]theorem fa40_2(x:AV):qb1 PG 40 x 2=(match x with | .ptr b o=>some (.ptr b (o+2)) | .fptr cs o=>some (.fptr cs (o+2))|_=>none):=rfl
@[simp]theorem fd40_2(cs:List AV):qbu PG 40 (.agg cs) 2=qcb cs 2:=rfl
@[simp]theorem fa40_3(x:AV):qb1 PG 40 x 3=(match x with | .ptr b o=>some (.ptr b (o+3)) | .fptr cs o=>some (.fptr cs (o+3))|_=>none):=rfl
@[simp]theorem fd40_3(cs:List AV):qbu PG 40 (.agg cs) 3=qcb cs 3:=rfl
@[simp]theorem fa40_4(x:AV):qb1 PG 40 x 4=(match x with | .ptr b o=>some (.ptr b (o+4)) | .fptr cs o=>some (.fptr cs (o+4))|_=>none):=rfl
@[simp]theorem fd40_4(cs:List AV):qbu PG 40 (.agg cs) 4=qcb cs 4:=rfl
@[simp]theorem fa40_5(x:AV):qb1 PG 40 x 5=(match x with | .ptr b o=>some (.ptr b (o+5)) | .fptr cs o=>some (.fptr cs (o+5))|_=>none):=rfl
@[simp]theorem fd40_5(cs:List AV):qbu PG 40 (.agg cs) 5=qcb cs 5:=rfl
@[simp]theorem fa40_6(x:AV):qb1 PG 40 x 6=(match x with | .ptr b o=>some (.ptr b (o+6)) | .fptr cs o=>some (.fptr cs (o+6))|_=>none):=rfl
@[simp]theorem fd40_6(cs:List AV):qbu PG 40 (.agg cs) 6=qcb cs 6:=rfl
@[simp]theorem fa40_7(x:AV):qb1 PG 40 x 7=(match x with | .ptr b o=>some (.ptr b (o+7)) | .fptr cs o=>some (.fptr cs (o+7))|_=>none):=rfl
@[simp]theorem fd40_7(cs:List AV):qbu PG 40 (.agg cs) 7=qcb cs 7:=rfl
@[simp]theorem fa40_8(x:AV):qb1 PG 40 x 8=(match x with | .ptr b o=>some (.ptr b (o+8)) | .fptr cs o=>some (.fptr cs (o+8))|_=>none):=rfl
@[simp]theorem fd40_8(cs:List AV):qbu PG 40 (.agg cs) 8=qcb cs 8:=rfl
@[simp]theorem fa40_9(x:AV):qb1 PG 40 x 9=(match x with | .ptr b o=>some (.ptr b (o+9)) | .fptr cs o=>some (.fptr cs (o+9))|_=>none):=rfl
@[simp]theorem fd40_9(cs:List AV):qbu PG 40 (.agg cs) 9=qcb cs 9:=rfl
@[simp]theorem fa40_10(x:AV):qb1 PG 40 x 10=(match x with | .ptr b o=>some (.ptr b (o+10)) | .fptr cs o=>some (.fptr cs (o+10))|_=>none):=rfl
@[simp]theorem fd40_10(cs:List AV):qbu PG 40 (.agg cs) 10=qcb cs 10:=rfl
@[simp]theorem szT48:qcj PG 48=some 5:=rfl
@[simp]theorem agT48:qh4 PG 48=some true:=rfl
@[simp]theorem byT48:qch PG 48=some 72:=rfl
@[simp]theorem alT48(H:Heap):alV PG H 48=some (.ptr H.n 0,H.new (.cells [.int .i64 0,.str [],.nilS,.bool false,.str []])):=rfl
@[simp]theorem zeT48:qby PG 48=some (.agg [.int .i64 0,.str [],.nilS,.bool false,.str []]):=rfl
attribute [simp] Tryz.underlying48
@[simp 500]theorem rvF48(H:Heap) (cs:List AV) (o:Nat):qb2 PG H 48 (.fptr cs o)=(qfe o 5 cs).bind fun cs=>some (.agg cs):=rfl
@[simp 500]theorem rvP48(H:Heap) (b o:Nat):qb2 PG H 48 (.ptr b o)=(readCells H b o 5).bind fun cs=>some (.agg cs):=rfl
@[simp]theorem fa48_0(x:AV):qb1 PG 48 x 0=(match x with | .ptr b o=>some (.ptr b (o+0)) | .fptr cs o=>some (.fptr cs (o+0))|_=>none):=rfl
@[simp]theorem fd48_0(cs:List AV):qbu PG 48 (.agg cs) 0=qcb cs 0:=rfl
@[simp]theorem fa48_1(x:AV):qb1 PG 48 x 1=(match x with | .ptr b o=>some (.ptr b (o+1)) | .fptr cs o=>some (.fptr cs (o+1))|_=>none):=rfl
@[simp]theorem fd48_1(cs:List AV):qbu PG 48 (.agg cs) 1=qcb cs 1:=rfl
@[simp]theorem fa48_2(x:AV):qb1 PG 48 x 2=(match x with | .ptr b o=>some (.ptr b (o+2)) | .fptr cs o=>some (.fptr cs (o+2))|_=>none):=rfl
@[simp]theorem fd48_2(cs:List AV):qbu PG 48 (.agg cs) 2=qcb cs 2:=rfl
@[simp]theorem fa48_3(x:AV):qb1 PG 48 x 3=(match x with | .ptr b o=>some (.ptr b (o+3)) | .fptr cs o=>some (.fptr cs (o+3))|_=>none):=rfl
@[simp]theorem fd48_3(cs:List AV):qbu PG 48 (.agg cs) 3=qcb cs 3:=rfl
@[simp]theorem fa48_4(x:AV):qb1 PG 48 x 4=(match x with | .ptr b o=>some (.ptr b (o+4)) | .fptr cs o=>some (.fptr cs (o+4))|_=>none):=rfl
@[simp]theorem fd48_4(cs:List AV):qbu PG 48 (.agg cs) 4=qcb cs 4:=rfl
@[simp]theorem szT50:qcj PG 50=some 1:=rfl
@[simp]theorem agT50:qh4 PG 50=some false:=rfl
@[simp]theorem byT50:qch PG 50=some 8:=rfl
@[simp]theorem alT50(H:Heap):alV PG H 50=some (.ptr H.n 0,H.new (.cells [.nilP])):=rfl
@[simp]theorem zeT50:qby PG 50=some (.nilP):=rfl
attribute [simp] Tryz.underlying50
@[simp 500]theorem rvF50(H:Heap) (cs:List AV) (o:Nat):qb2 PG H 50 (.fptr cs o)=qcb cs o:=rfl
@[simp 500]theorem rvP50(H:Heap) (b o:Nat):qb2 PG H 50 (.ptr b o)=(H.get b).bind fun k=>k.rd.bind fun cs=>qcb cs o:=rfl
section
variable {s s':SS} {n k:Nat} {f:List (Nat × Blk)}
theorem vset{t:Tr} (hs:s.tree=t) (hne:t≠[]) (o a:List Int) (m1 m2 m3 m4 m5:Int) (b1 b2:Bool) (i:Str) :
  setF 0 (.cells [nV k t,qa8 o,qa8 a,.int .i64 m1,.int .i64 m2,.int .i64 m3,.int .i64 m4,.int .i64 m5,.bool b1,.bool b2,.str i]) (VS k s)=some (VS k ⟨t,o,a,m1,m2,m3,m4,m5,b1,b2,i⟩):=by
 subst hs;rw[qdv hne,qdv (by exact hne)];rfl
theorem qc8{v v':AV} (e:v=v') (es:s=s') (hv:qa2 v'=true) (k0:0 < k) (hne:s'.tree≠[]) (hf0:getF 0 f=none) (hfk:getF k f=none):∃σ Φ,qas σ Φ v v'/\FitH 2 σ Φ ⟨n,[f,VS k s]⟩ ⟨3,[VS 2 s']⟩:=
 by subst e;subst es;exact⟨_,[],qbo hv,fitS ⟨by omega,by omega,by omega⟩ (by omega) k0 hne hf0 hfk⟩
end
@[simp]theorem clA(L:List At1):(qae L).cells=[qae L]:=rfl
@[simp]theorem sgA(L:List At1):(qae L).single=true:=rfl
@[simp]theorem sgI(L:List Int):(AV.fslc 1 (L.map qat)).single=true:=rfl
@[simp]theorem rfA(L:List At1) (n:Nat):refs n (qae L)=[]:=ql4 _ _ (by simp)
@[simp]theorem rfI(L:List Int) (n:Nat):refs n (AV.fslc 1 (L.map qat))=[]:=ql4 _ _ (by simp)
def whV(t:Tr) (i:Int):AV:=.tup [.int .i64 i,.int .i64 ((qa0 t i).kids.length:Int)]
@[simp]theorem pure_whV(t:Tr) (i:Int):qa2 (whV t i)=true:=by simp[whV,qa2,qa6]
theorem c162{s:SS} (ne:s.tree≠[]) (x:Int) (h0:0<=x) (h1:x < (s.tree.length:Int)):SC T 162 [.int .i64 x] s (whV s.tree x) (s):=by
 have g0:=@vg0;have v0:=@vset;obtain⟨u,e⟩ : ∃u:Nat,x=(u:Int):=⟨x.toNat,by omega⟩;have hu:u < s.tree.length:=by omega
 have gk:=vgk (k:=1) (s:=s) (by omega) ne;have ix:=ixN (k:=1) hu;have gN:=getN (c:=6) hu (by omega);have lI:∀H,qf3 PG H 38 (qa8 (qa0 s.tree (u:Int)).kids)=some (qa0 s.tree (u:Int)).kids.length:=fun H=>qgi;refine qa1 (s0:=⟨[0,1,4,5],[.ptr 0 0,.int .i64 x,uD,uD],[],17,⟨2,[]::[VS 1 s]⟩⟩) Tryz.func162 rfl rfl rfl ?_
 (repeat' (first
  |with_reducible apply qad
  |(with_reducible apply rE;simp[zS, *,SS.post,gk,ix,gN,lI,Nd.cs];exact rfl)
  |(refine qza mixed qaz (by decide +kernel) (by decide +kernel) ?_;apply qpn;simp[zS,qvl,qll,qm2, *,SS.post,gk,ix,gN,lI,Nd.cs];exact rfl)
  |(with_reducible apply qaf;simp only[qab,qa4])
  |(with_reducible apply qa7;simp[zQ,Tryz.f162])))
 all_goals first|((try simp[zQ,Tryz.f162]);exact qc8 (by subst e;rfl) (by first|rfl|(simp[*];done)) (by simp[qa2,qa6]) (by decide) (ne) rfl rfl)|(exfalso;omega)
theorem inj_162(x y:Int) (h:(fun z:Int=>([.int .i64 z]:List AV)) x=(fun z:Int=>([.int .i64 z]:List AV)) y):x=y:=by simp only[jl,jJ]at h;exact AV.int.inj h |>.2
def e162:Entry PG:=mkS 162 [[]] (fun z:Int=>[.int .i64 z]) (fun z s=>(0<=z)/\(z < (s.tree.length:Int))) (fun z s=>whV s.tree z) (fun z s=>s) fun z s ne h=>⟨c162 (T:=[])  ne z h.1 h.2,by simp[qa6,qa2],by simp[qa2,qa6],ne⟩
theorem k162(hT:qIn 162 T e162) {s:SS} (ne:s.tree≠[]) (x:Int) (h0:0<=x) (h1:x < (s.tree.length:Int)) {n k:Nat} {fr:List (Nat × Blk)} (k0:0 < k) (kn:k < n) (of:qg5 k fr):qb5 (ctx T) (.fn 162) [.ptr 0 0,.int .i64 x] ⟨n,[fr,VS k s]⟩=some (whV s.tree x,⟨n+1,[fr,VS n (s)]⟩):=
 qcr hT inj_162 (x) ne ⟨h0,h1⟩ (by simp[qa6,qa2]) (by simp[qbl,qam]) k0 kn of
def whP(t:Tr) (i:Int):Int:=if isB t i=true then i else 0
theorem qut{t:Tr} (hne:t≠[]) (i:Int):∃u:Nat,whP t i=(u:Int)/\u < t.length:=by
 unfold whP;split
 next h=>obtain⟨h1,h2⟩:=isB_iff.1 h;exact⟨i.toNat,by omega,by omega⟩
 ·exact⟨0,rfl,by have:=List.length_pos_iff.2 hne;omega⟩
theorem c137(hc0:qIn 162 T e162) {s:SS} (ne:s.tree≠[]) (i:Int) (hf:s.foster=false):SC T 137 [.int .i64 i] s (whV s.tree (whP s.tree i)) (s):=by
 have kc0:=@k162 T hc0;have g0:=@vg0;have v0:=@vset;have ln:=fun H k=>lenN' (k:=k) (t:=s.tree) H;have hp:=List.length_pos_iff.2 ne;have hx:∀x,whV s.tree x=.tup [.int .i64 x,.int .i64 ((qa0 s.tree x).kids.length:Int)]:=fun _=>rfl;have hw:whP s.tree i=if 0<=i/\i < (s.tree.length:Int) then i else 0:=by unfold whP isB;simp only[jf,yk]
 refine qa1 (s0:=⟨[0,1,4,5],[.ptr 0 0,.int .i64 i,uD,uD],[],45,⟨2,[]::[VS 1 s]⟩⟩) Tryz.func137 rfl rfl rfl ?_
 (repeat' (first
  |with_reducible apply qad
  |with_reducible apply qa3
  |(with_reducible apply rE;simp[zS, *,SS.post,ln];exact rfl)
  |(with_reducible apply qaf;simp only[qab,qa4])
  |(with_reducible refine qdd (fun hc=>?_) (fun hc=>?_)<;>(have hd:=hc;(try simp at hd);(try subst hd);apply qpn;simp[zS, *,SS.post,ln];exact rfl))
  |(with_reducible refine qjs (fun hc=>?_) (fun hc=>?_)<;>(have hd:=hc;(try simp at hd);(try subst hd);apply qpn;simp[zS, *,SS.post,ln];exact rfl))
  |apply qag rfl
  |apply qaj rfl
  |(refine qbe rfl (fun hc=>?_) (fun hc=>?_)<;>(have hd:=hc;(try simp at hd);(try subst hd)))
  |(with_reducible apply qa5;simp only[qab,qa4])
  |(with_reducible apply qa7;simp[zQ,Tryz.f137])))
 all_goals first|((try simp[zQ,Tryz.f137]);exact qc8 (by(simp only[hw,hx];split<;>first|rfl|(exfalso;omega))) (by first|rfl|(simp[*];done)) (by simp[qa2,qa6]) (by decide) (ne) rfl rfl)|(exfalso;omega)
def e137:Entry PG:=mkS 137 [[]] (fun z:Int=>[.int .i64 z]) (fun z s=>(s.foster=false)) (fun z s=>whV s.tree (whP s.tree z)) (fun z s=>s) fun z s ne h=>⟨c137 (T:=[e162]) rfl ne z h,by simp[qa6,qa2],by simp[qa2,qa6],ne⟩
theorem k137(hT:qIn 137 T e137) {s:SS} (ne:s.tree≠[]) (i:Int) (hf:s.foster=false) {n k:Nat} {fr:List (Nat × Blk)} (k0:0 < k) (kn:k < n) (of:qg5 k fr):qb5 (ctx T) (.fn 137) [.ptr 0 0,.int .i64 i] ⟨n,[fr,VS k s]⟩=some (whV s.tree (whP s.tree i),⟨n+1,[fr,VS n (s)]⟩):=
 qcr hT inj_162 (i) ne hf (by simp[qa6,qa2]) (by simp[qbl,qam]) k0 kn of
def qed(t:Tr) (nd:Nd):Tr:=t++[fresh nd]
@[simp]theorem qev(t:Tr) (nd:Nd):qed t nd≠[]:=by simp[qed]
theorem qfl{t:Tr} (hne:t≠[]) (up at_ kid:Int):qgh t up at_ kid≠[]:=by
 unfold qgh;split
 ·simp[setUp]
 ·exact hne
theorem c25S(hc0:qIn 87 T e87) {s:SS} (ne:s.tree≠[]) (nd:Nd) (hl:s.tree.length+1<=1000000) (ha:nd.attrs.length<=1000000):SC T 25 [qa9 nd] s (.int .i64 (s.tree.length:Int)) ({ s with tree:=qed s.tree nd }):=by have kc0:=@k87 T hc0;have g0:=@vg0;have v0:=@vset;exact c25 (T:=T) hc0 (ok_S s (k:=1) (m:=2) (by omega) (by omega)) hl nd ha
theorem zbf(x y:Nd) (h:(fun z:Nd=>([qa9 z]:List AV)) x=(fun z:Nd=>([qa9 z]:List AV)) y):x=y:=by simp only[jl,jJ]at h;exact qgk h
def e25S:Entry PG:=mkS 25 [[0,0,0,2,0,0,1]] (fun z:Nd=>[qa9 z]) (fun z s=>(s.tree.length+1<=1000000)/\(z.attrs.length<=1000000)) (fun z s=>.int .i64 (s.tree.length:Int)) (fun z s=>{ s with tree:=qed s.tree z }) fun z s ne h=>⟨c25S (T:=[e87]) rfl ne z h.1 h.2,by simp[qa6,qa2],by simp[qa2,qa6],qev _ _⟩
theorem k25S(hT:qac 25 T=some e25S.g) {s:SS} (ne:s.tree≠[]) (nd:Nd) (hl:s.tree.length+1<=1000000) (ha:nd.attrs.length<=1000000) {n k:Nat} {fr:List (Nat × Blk)} (k0:0 < k) (kn:k < n) (of:qg5 k fr):qb5 (ctx T) (.fn 25) [.ptr 0 0,qa9 nd] ⟨n,[fr,VS k s]⟩=some (.int .i64 (s.tree.length:Int),⟨n+1,[fr,VS n ({ s with tree:=qed s.tree nd })]⟩):=
 qcr hT zbf (nd) ne ⟨hl,ha⟩ (by simp[qa6,qa2]) (by simp[qbl,qam]) k0 kn of
theorem c26S(hc0:qac 173 T=some e173G.g) (hc1:qIn 88 T e88) (hc2:qIn 89 T e89) (hc3:qIn 78 T e78) {s:SS} (ne:s.tree≠[]) (up:Int) (at_:Int) (kid:Int) (ht:s.tree.length<=1000000) (hk:qcf s.tree 999999):SC T 26 [.int .i64 up,.int .i64 at_,.int .i64 kid] s (.tup []) ({ s with tree:=qgh s.tree up at_ kid }):=by have g0:=@vg0;have v0:=@vset;exact SC.of (c26G (T:=T) hc0 hc1 hc2 hc3 (ok_S s (k:=1) (m:=2) (by omega) (by omega)) ne ht hk up at_ kid) rfl (qfl ne _ _ _)
theorem inj_26S(x y:Int × Int × Int) (h:(fun z:Int × Int × Int=>([.int .i64 z.1,.int .i64 z.2.1,.int .i64 z.2.2]:List AV)) x=(fun z:Int × Int × Int=>([.int .i64 z.1,.int .i64 z.2.1,.int .i64 z.2.2]:List AV)) y):x=y:=by obtain⟨x0,x1,x2⟩:=x;obtain⟨y0,y1,y2⟩:=y;simp only[jl,jJ]at h;obtain⟨h0,h1,h2⟩:=h;have g0:x0=y0:=AV.int.inj h0 |>.2;have g1:x1=y1:=AV.int.inj h1 |>.2;have g2:x2=y2:=AV.int.inj h2 |>.2;subst g0 g1 g2;rfl
def e26S:Entry PG:=mkS 26 [[],[],[]] (fun z:Int × Int × Int=>[.int .i64 z.1,.int .i64 z.2.1,.int .i64 z.2.2]) (fun z s=>(s.tree.length<=1000000)/\(qcf s.tree 999999)) (fun z s=>.tup []) (fun z s=>{ s with tree:=qgh s.tree z.1 z.2.1 z.2.2 }) fun z s ne h=>⟨c26S (T:=[e173G,e88,e89,e78]) rfl rfl rfl rfl ne z.1 z.2.1 z.2.2 h.1 h.2,by simp[qa6,qa2],by simp[qa2,qa6],qfl ne _ _ _⟩
theorem k26S(hT:qac 26 T=some e26S.g) {s:SS} (ne:s.tree≠[]) (up:Int) (at_:Int) (kid:Int) (ht:s.tree.length<=1000000) (hk:qcf s.tree 999999) {n k:Nat} {fr:List (Nat × Blk)} (k0:0 < k) (kn:k < n) (of:qg5 k fr):qb5 (ctx T) (.fn 26) [.ptr 0 0,.int .i64 up,.int .i64 at_,.int .i64 kid] ⟨n,[fr,VS k s]⟩=some (.tup [],⟨n+1,[fr,VS n ({ s with tree:=qgh s.tree up at_ kid })]⟩):=
 qcr hT inj_26S (up,at_,kid) ne ⟨ht,hk⟩ (by simp[qa6,qa2]) (by simp[qbl,qam]) k0 kn of
theorem qqd{t:Tr} {b:Nat} (h:qcf t b) (nd:Nd):qcf (qed t nd) b:=fun n hn=>by
 rcases je.1 hn with hn|hn
 ·exact h n hn
 ·simp at hn;subst hn;simp[fresh]
structure SOk (s:SS):Prop where
 ln:s.tree.length<=99999
 kd:qcf s.tree 100000
 op:s.opn.length<=100000
def qm8(t:Tr) (up at_:Int) (nd:Nd):Tr:=qgh (qed t nd) up at_ t.length
@[simp]theorem qdi(t:Tr) (up at_:Int) (nd:Nd):qm8 t up at_ nd≠[]:=qfl (qev _ _) _ _ _
theorem c144(hc0:qac 25 T=some e25S.g) (hc1:qac 26 T=some e26S.g) {s:SS} (ne:s.tree≠[]) (up:Int) (at_:Int) (nd:Nd) (ok:SOk s) (ha:nd.attrs.length<=1000000):SC T 144 [.int .i64 up,.int .i64 at_,qa9 nd] s (.int .i64 (s.tree.length:Int)) ({ s with tree:=qm8 s.tree up at_ nd }):=by
 have kc0:=@k25S T hc0;have kc1:=@k26S T hc1;have g0:=@vg0;have v0:=@vset;have hl:=ok.ln;simp only[qa9]at kc0;have hl1:s.tree.length+1<=1000000:=by omega
 have hl2:(qed s.tree nd).length<=1000000:=by simp[qed];omega
 have hk2:qcf (qed s.tree nd) 999999:=qqd (fun n hn=>j6 (ok.kd n hn) (by omega)) nd;refine qa1 (s0:=⟨[0,1,2,3,7,8,9],[.ptr 0 0,.int .i64 up,.int .i64 at_,qa9 nd,uD,uD,uD],[],23,⟨2,[]::[VS 1 s]⟩⟩) Tryz.func144 rfl rfl rfl ?_
 (repeat' (first
  |with_reducible apply qad
  |(with_reducible apply rE;simp[zS, *,SS.post,qa9];exact rfl)
  |(with_reducible apply qaf;simp only[qab,qa4])
  |(refine qal mixed qaz (by decide +kernel) (by decide +kernel) rfl ?_;apply qdm;simp[zS,zW,qb4,qbc,qar,Heap.lay,qap, *,SS.post,qa9];exact rfl)
  |(with_reducible apply qav;refine⟨by repeat first|exact qc6|refine qc7 (by decide +kernel) ?_,?_⟩;simp only[qab,qa4,allPend,Heap.lay,qap])
  |(with_reducible apply qa7;simp[zQ,Tryz.f144])))
 all_goals first|((try simp[zQ,Tryz.f144]);exact qc8 (by rfl) (by first|rfl|(simp[*];done)) (by simp[qa2,qa6]) (by decide) (qdi _ _ _ _) rfl rfl)|(exfalso;omega)
theorem zbg(x y:Int × Int × Nd) (h:(fun z:Int × Int × Nd=>([.int .i64 z.1,.int .i64 z.2.1,qa9 z.2.2]:List AV)) x=(fun z:Int × Int × Nd=>([.int .i64 z.1,.int .i64 z.2.1,qa9 z.2.2]:List AV)) y):x=y:=by obtain⟨x0,x1,x2⟩:=x;obtain⟨y0,y1,y2⟩:=y;simp only[jl,jJ]at h;obtain⟨h0,h1,h2⟩:=h;have g0:x0=y0:=AV.int.inj h0 |>.2;have g1:x1=y1:=AV.int.inj h1 |>.2;have g2:x2=y2:=qgk h2;subst g0 g1 g2;rfl
def e144:Entry PG:=mkS 144 [[],[],[0,0,0,2,0,0,1]] (fun z:Int × Int × Nd=>[.int .i64 z.1,.int .i64 z.2.1,qa9 z.2.2]) (fun z s=>(SOk s)/\(z.2.2.attrs.length<=1000000)) (fun z s=>.int .i64 (s.tree.length:Int)) (fun z s=>{ s with tree:=qm8 s.tree z.1 z.2.1 z.2.2 }) fun z s ne h=>⟨c144 (T:=[e25S,e26S]) rfl rfl ne z.1 z.2.1 z.2.2 h.1 h.2,by simp[qa6,qa2],by simp[qa2,qa6],qdi _ _ _ _⟩
structure Tk where
 kind:Int
 name:Str
 attrs:List At1
 self:Bool
 data:Str
def Tk.cs(t:Tk):List AV:=[.int .i64 t.kind,.str t.name,qae t.attrs,.bool t.self,.str t.data]
def qlx(t:Tk):AV:=.agg t.cs
theorem inj_tcs{a b:Tk} (h:a.cs=b.cs):a=b:=by
 simp only[Tk.cs,jl,AV.int.injEq,AV.str.injEq,AV.bool.injEq,yc,jJ]at h;obtain⟨h1,h2,h3,h4,h5⟩:=h;have h3:=qdp h3;cases a;cases b
 simp_all
theorem qx3{a b:Tk} (h:qlx a=qlx b):a=b:=inj_tcs (AV.agg.inj h)
@[simp]theorem pure_tcs(t:Tk):qa6 t.cs=true:=by simp[Tk.cs,qa6,qa2]
@[simp]theorem pure_aTok(t:Tk):qa2 (qlx t)=true:=by simp[qlx,qa2]
@[simp]theorem ok_fptr(cs:List AV) (o:Nat):okV (.fptr cs o)=true:=by simp[okV,qa2]
@[simp]theorem ok_aTok(t:Tk):okV (qlx t)=true:=by simp[qlx,okV,Tk.cs,qa6,qa2,qae]
def elT(t:Tr) (top sp:Int) (nm:Str) (L:List At1):Tr:=qm8 t (whP t top) ((qa0 t (whP t top)).kids.length:Int) ⟨1,sp,nm,L,[],0,[]⟩
def elS(s:SS) (sp:Int) (nm:Str) (L:List At1):SS:={ s with tree:=elT s.tree (qdw s.opn) sp nm L,opn:=s.opn++[(s.tree.length:Int)] }
theorem putL(hT:qIn 144 T e144) {s:SS} (ne:s.tree≠[]) (up at_:Int) (nd:Nd) (hu:nd.up=0) (hk:nd.kids=[]) (ok:SOk s) (ha:nd.attrs.length<=1000000) {n k:Nat} {fr:List (Nat × Blk)} (k0:0 < k) (kn:k < n) (of:qg5 k fr) :
  qb5 (ctx T) (.fn 144) [.ptr 0 0,.int .i64 up,.int .i64 at_,.agg [.int .i64 nd.kind,.int .i64 nd.space,.str nd.name,qae nd.attrs,.str nd.data,.int .i64 0,.nilS]] ⟨n,[fr,VS k s]⟩=some (.int .i64 (s.tree.length:Int),⟨n+1,[fr,VS n { s with tree:=qm8 s.tree up at_ nd }]⟩):=
 qcr hT zbg (up,at_,nd) ne ⟨ok,ha⟩ (by simp[qa6,qa2]) (by cases nd;simp only at hu hk;subst hu hk;simp[qbl,qco,qk9,qiy,okV,qa9,Nd.cs,qat,qae,qa8,qa2,qa6]) k0 kn of
def xV(L:List Int):AV:=match L with
 |[]=>.zslc
 |_::_=>.xslc 1 (L.map qat)
@[simp]theorem ql6(L:List Int):qa6 (L.map qat)=true:=by have:=(qca L).pure;rw[qbf]at this;exact this
theorem qe8(L:List Int):qaa (L.map qat)=L.map qat:=qbf L
theorem sl_x(H:Heap) (L:List Int):qcq PG H 38 (qa8 L) none (some (.int .i64 (L.length:Int))) (some (.int .i64 (L.length:Int)))=some (xV L):=by
 have h1:∀q,idx (L.length:Int) (q+L.length+1)=some L.length:=fun q=>qbn (by omega);have h1:idx (L.length:Int) (Nat.succ L.length)=some L.length:=qbn (by omega);cases L with
 |nil=>rfl
 |cons x r=>
  generalize hL:x::r=L at *;have hp:L.length≠0:=by rw[<- hL];simp
  have e:xV L=.xslc 1 (L.map qat):=by rw[<- hL];rfl
  rw[e];obtain⟨m,hm⟩ : ∃m,L.length=m+1:=⟨L.length - 1,by omega⟩;have ht:(L.map qat).take (m+1)=L.map qat:=ju (by simp[hm]);simp only[qcq,qqe,Tryz.underlying38,qhz,jc,jC,qdc,qa8,jD,h1];simp only[hm,ht]
theorem ap_x(H:Heap) (L:List Int) (b:Nat) (i:Int) (hl:L.length<=1000000) (hb:H.get b=some (.cells [.int .i64 i])):qbs PG H 3 (xV L) (.slc b 0 1 (.ex 1))=some (.slc H.n 0 (L.length+1) (.rest 1),H.new (.cells ((L++[i]).map qat))):=by
 have hr:qdg (L.length+1) 8=true:=by unfold qdg;rw[jW];omega
 have hx:qbj H 1 1 (.slc b 0 1 (.ex 1))=some [.int .i64 i]:=by simp[qbj,readCells,hb,Blk.rd]
 have ho:qbj H 1 L.length (.fslc 1 (L.map qat))=some (L.map qat):=by simp[qbj,qe8,ju]
 have c0:(Nat.beq 1 0 || !(Nat.beq 1 1 && Nat.blt 0 8))=false:=rfl;have hrow:∀cs,qpj PG 3 cs=.cells cs:=fun _=>rfl;cases L with
 |nil=>simp only[qbs,xV,qhz,qk2,qjw,jc,qd5,hx];rfl
 |cons x r=>
  generalize hL:x::r=L at *;have e:xV L=.xslc 1 (L.map qat):=by rw[<- hL];rfl
  have hb2:Nat.beq ([(.int .i64 i:AV)].length) (1 * 1)=true:=rfl;have hb3:Nat.beq (L.map qat).length (L.length * 1)=true:=by simp
  rw[e];simp only[qbs,qhz,qk2,qjw,jc,qd5,jD,hx,ho,AV.cells,yo,c0,hr,hb2,hb3,Jd,hrow,j5,List.map_cons,jP,qat];simp
theorem qr5{n b:Nat} {cs:List AV} {g:List (Nat × Blk)} (hc:qa6 cs=true):qgv (Nat.succ (Nat.succ n)) [b] ((b,.cells cs)::g) []=([(b,.cells cs)],g):=by
 have e:getF b ((b,Blk.cells cs)::g)=some (.cells cs):=by unfold getF;simp only[jC]
 have hr:qv1 (.cells cs)=[]:=by simp only[qv1];exact qe2 _ _ hc
 have hk:killF b ((b,Blk.cells cs)::g)=g:=by unfold killF;simp only[jC]
 unfold qgv;simp only[e,hr,hk,jv];unfold qgv;rfl
theorem prom_S{s:SS} {k c:Nat} {cs:List AV} {g:List (Nat × Blk)} (hc:qa6 cs=true) (ne:s.tree≠[]) (h0:getF 0 ((c,.cells cs)::g)=none):qd3 0 [c] [] [(c,.cells cs)::g,VS k s]=[g,(c,.cells cs)::VS k s]:=by have h1:=qr5 (n:=99998) (b:=c) (g:=g) hc;have h2:qgv 100000 [c] ((c,.cells cs)::g) []=([(c,.cells cs)],g):=h1;unfold qd3;simp only[h0,h2];unfold qd3;simp only[vg0 ne,jh,List.cons_append,jv]
theorem setR{s:SS} {k:Nat} (ne:s.tree≠[]) (X:Blk):setF 0 X (VS k s)=some [(0,X),(k,.cells (qaa (s.tree.map qa9)))]:=by rw[qdv ne];rfl
theorem qp5{σ:List (Nat × Nat)} {Φ:List (Nat × List AV)} {c:Nat} {L:List Int} (h:qcp c Φ=some (L.map qat)):qas σ Φ (.slc c 0 L.length (.rest 1)) (qa8 L):=by
 simp only[qas,qa8];refine .inl ⟨L.map qat,h,?_,by simp,?_⟩
 ·rw[qe8];have:=ql0 (a:=[]) (b:=L.map qat) (c:=[]) rfl rfl;simpa using this
 ·exact(qca L).size
theorem qvm{v v':AV} {s':SS} {H:Heap} {k c:Nat} (e:v=v') (hv:qa2 v'=true) (ne:s'.tree≠[]) (kc:0 < k/\0 < c/\k≠c) (h0:H.get 0=some (.cells (nV k s'.tree::.slc c 0 s'.opn.length (.rest 1)::s'.post.tail))) (hk:H.get k=some (.cells (qaa (s'.tree.map qa9)))) (hc:H.get c=some (.cells (s'.opn.map qat))) :
  ∃σ Φ,qas σ Φ v v'/\FitH 2 σ Φ H ⟨3,[VS 2 s']⟩:=
 ⟨[(k,2),(0,0)],[(c,s'.opn.map qat)],by subst e;exact qbo hv,fitSG ⟨by omega,by omega,by simp⟩ (by omega) kc.1 ne h0 hk (by simp only[qb8,SS.post,List.tail_cons];refine⟨by simp[qas,qaw],qp5 (by simp[qcp]),?_⟩;have:=qdh s';simp only[SS.post,qa6,jf]at this;simp[qb8,qas,qa2]) (by simp;omega) (fun x hx=>by simp at hx;subst hx;exact⟨hc,ql6 _⟩)⟩
theorem c53(hc0:qIn 44 T e44) (hc1:qIn 137 T e137) (hc2:qIn 144 T e144) {s:SS} (ne:s.tree≠[]) (t:Tk) (sp:Int) (hf:s.foster=false) (ok:SOk s) (ha:t.attrs.length<=1000000):SC T 53 [qlx t,.int .i64 sp] s (.int .i64 (s.tree.length:Int)) (elS s sp t.name t.attrs):=by
 have kc0:=@k44 T hc0;have kc1:=@k137 T hc1;have g0:=@vg0;have v0:=@vset;have bld:qe6 PG 65 [(0,.int .i64 1),(1,.int .i64 sp),(2,.str t.name),(3,qae t.attrs)]=some (.agg [.int .i64 1,.int .i64 sp,.str t.name,qae t.attrs,.str [],.int .i64 0,.nilS]):=rfl;have rS:=@prom_S;have sR:=@setR;clear v0;have lI:=fun H=>qgi (H:=H) (L:=s.opn);have sX:=fun H=>sl_x H s.opn;have aX:=fun H b i=>ap_x H s.opn b i (by have:=ok.op;omega);have kT:=fun H=>kc0 (L:=s.opn) (by have:=ok.op;omega) H;have kP:=fun up at_ n k fr=>@putL T hc2 s ne up at_ ⟨1,sp,t.name,t.attrs,[],0,[]⟩ rfl rfl ok ha n k fr;have ec:t.cs=[.int .i64 t.kind,.str t.name,qae t.attrs,.bool t.self,.str t.data]:=rfl;refine qa1 (s0:=⟨[0,1,2,4,6,7,8,9],[.ptr 0 0,qlx t,.int .i64 sp,uD,uD,uD,uD,uD],[],52,⟨2,[]::[VS 1 s]⟩⟩) Tryz.func53 rfl rfl rfl ?_
 exact zL1
theorem inj_53(x y:Tk × Int) (h:(fun z:Tk × Int=>([qlx z.1,.int .i64 z.2]:List AV)) x=(fun z:Tk × Int=>([qlx z.1,.int .i64 z.2]:List AV)) y):x=y:=by obtain⟨x0,x1⟩:=x;obtain⟨y0,y1⟩:=y;simp only[jl,jJ]at h;obtain⟨h0,h1⟩:=h;have g0:x0=y0:=qx3 h0;have g1:x1=y1:=AV.int.inj h1 |>.2;subst g0 g1;rfl
def e53:Entry PG:=mkS 53 [[0,0,2,0,0],[]] (fun z:Tk × Int=>[qlx z.1,.int .i64 z.2]) (fun z s=>(s.foster=false)/\(SOk s)/\(z.1.attrs.length<=1000000)) (fun z s=>.int .i64 (s.tree.length:Int)) (fun z s=>elS s z.2 z.1.name z.1.attrs) fun z s ne h=>⟨c53 (T:=[e44,e137,e144]) rfl rfl rfl ne z.1 z.2 h.1 h.2.1 h.2.2,by simp[qa6,qa2],by simp[qa2,qa6],qdi _ _ _ _⟩
theorem k53(hT:qIn 53 T e53) {s:SS} (ne:s.tree≠[]) (t:Tk) (sp:Int) (hf:s.foster=false) (ok:SOk s) (ha:t.attrs.length<=1000000) {n k:Nat} {fr:List (Nat × Blk)} (k0:0 < k) (kn:k < n) (of:qg5 k fr):qb5 (ctx T) (.fn 53) [.ptr 0 0,qlx t,.int .i64 sp] ⟨n,[fr,VS k s]⟩=some (.int .i64 (s.tree.length:Int),⟨n+1,[fr,VS n (elS s sp t.name t.attrs)]⟩):=
 qcr hT inj_53 (t,sp) ne ⟨hf,ok,ha⟩ (by simp[qa6,qa2]) (by simp[qbl,qam]) k0 kn of
def Place.wat(ρ:Place) (a:Nat->Option Loc):Place:={ ρ with at_:=a }
theorem CallAt.lendF{C:Ctx} {f:FuncId} {args args':List AV} {len:Nat} {cap:Cap} {cs:List AV} {v:AV} (h:CallAt C f args' ⟨0,[]⟩ (.slc 0 0 len cap) ⟨1,[[(0,.cells cs)]]⟩) (hs:qj4 cs=true) (hp:qa6 cs=true)
  (hv:qas [] [(0,cs)] (.slc 0 0 len cap) v) {H:Heap} {Φ:List (Nat × List AV)} (hH:(H.ents.map (·.1)).Nodup->FitH 0 [] Φ H ⟨0,[]⟩) (hf:qb8 [] Φ args args'):CallAt C f args H v H:=by
 intro ρ w xs sm hx;have fh:=hH sm.nodup;have hx':VRs (qbw 0 [] Φ ρ w sm.below) args' xs:=by obtain⟨k1,k2⟩:=qd7 hf;refine⟨by rw[hx.1,k1],fun i h1 h2=>?_⟩;exact Fits.run (fh.fits sm) sm _ (ja _) (hx.2 i (by omega) h2) (k2 i (by omega) h1)
 have up:∀{x:Value} {ρ':Place} {w':World},VR ρ' (.slc 0 0 len cap) x->Sim ρ' ⟨1,[[(0,.cells cs)]]⟩ w'->Step (qbw 0 [] Φ ρ w sm.below) ⟨0,[]⟩ w ρ' ⟨1,[[(0,.cells cs)]]⟩ w' ->
   ∃ρ2,VR ρ2 v x/\Sim ρ2 H w'/\Step ρ H w ρ2 H w':=by
  intro x ρ' w' h1 h2 h3;obtain⟨l,l1,l2,l3,l4⟩:=h2.live (0,.cells cs) (by simp[Heap.ents]);simp only at l1;have hrow:w.heap.size<=l.cb:=by
   rcases h3.rows (0,.cells cs) (by simp[Heap.ents]) l l1 with⟨e,he,_⟩|h
   ·cases he
   ·exact h
  have hkeep:∀k,k < w.heap.size->w'.heap[k]? = w.heap[k]?:=fun k hk=>h3.keeps k hk fun e he=>by cases he
  have hw:∀k,ρ.B k->w'.heap[k]? = ρ.W.heap[k]?:=fun k hk=>(hkeep k (sm.base k hk)).trans (sm.below k hk);have hB:∀k,(qbw 0 [] [] ρ w' hw).B k->ρ.B k:=fun k hk=>by
   rcases hk with hk|⟨b,c,l,hm,_⟩
   ·exact hk
   ·cases hm
  have hat:((qbw 0 [] [] ρ w' hw).upd 0 l) 0=some l:=Place.upd_same;have sme:Sim ((qbw 0 [] [] ρ w' hw).upd 0 l) ⟨1,[[(0,.cells cs)]]⟩ w':=by
   refine⟨fun k hk=>jI (sm.base k (hB k hk)) h3.size,fun k hk=>rfl,rfl,rfl,rfl,fun b hb=>?_,by simp[Heap.ents],fun e he=>?_,fun e e' he he' m m' _ _ _=>?_⟩
   ·have hb:1<=b:=hb;rw[Place.upd_other (by omega)];rfl
   ·simp[Heap.ents]at he;subst he;refine⟨l,hat,fun hk=>?_,l3,l4.1,l4.2.1,fun i hi=>?_⟩
    ·have:=sm.base _ (hB _ hk);omega
    ·obtain⟨y,hy,hv⟩:=l4.2.2 i hi;exact⟨y,hy,hv.scalar (qil hs i hi)⟩
   ·simp[Heap.ents]at he he';rw[he,he']
  have vre:VR ((qbw 0 [] [] ρ w' hw).upd 0 l) (.slc 0 0 len cap) x:=by
   cases h1 with
   |slcE b o len' c l' hl' hcap=>rw[l1]at hl';cases hl';exact .slcE _ _ _ c l hat hcap
   |slcR b o len' sz c l' hl' hcap hfin=>rw[l1]at hl';cases hl';exact .slcR _ _ _ _ c l hat hcap hfin
  have fe:FitH 0 [] [(0,cs)] ⟨1,[[(0,.cells cs)]]⟩ ⟨0,[]⟩:={
   nd1:=by simp
   nd2:=jK
   nd3:=jK
   lt:=fun x h=>by cases h
   idn:=fun x h=>by cases h
   num:=ja _
   src:=fun e he=>by simp[Heap.ents]at he
   frz:=fun x hx=>by simp at hx;subst hx;exact⟨cs,by simp[Heap.get,getFs,getF],qau hp,hp⟩ }
  have vr2:=Fits.run (fe.fits sme) sme _ (ja _) vre hv;have hB2:∀k,(qbw 0 [] [(0,cs)] ((qbw 0 [] [] ρ w' hw).upd 0 l) w' sme.below).B k->ρ.B k\/k=l.cb:=fun k hk=>by
   rcases hk with hk|⟨b,c,m,hm,hl,rfl⟩
   ·exact .inl (hB k hk)
   ·simp at hm;obtain⟨rfl,_⟩:=hm;rw[hat]at hl;cases hl;exact .inr rfl
  have hle:ρ.le ((qbw 0 [] [(0,cs)] ((qbw 0 [] [] ρ w' hw).upd 0 l) w' sme.below).wat ρ.at_):=
   ⟨fun _ _ h=>h,fun k hk=>⟨.inl (.inl hk),hw k hk⟩,(h2.os.trans h3.le.os).trans sm.os,(h2.tape.trans h3.le.tape).trans sm.tape,(h2.output.trans h3.le.output).trans sm.output⟩
  have vr3:VR ((qbw 0 [] [(0,cs)] ((qbw 0 [] [] ρ w' hw).upd 0 l) w' sme.below).wat ρ.at_) v x:=by have hl2:(qbw 0 [] [(0,cs)] ((qbw 0 [] [] ρ w' hw).upd 0 l) w' sme.below).le ((qbw 0 [] [(0,cs)] ((qbw 0 [] [] ρ w' hw).upd 0 l) w' sme.below).wat ρ.at_):=⟨fun b m hb=>by simp[qbw,qdt]at hb,fun _ hk=>⟨hk,rfl⟩,rfl,rfl,rfl⟩;exact vr2.mono hl2
  refine⟨((qbw 0 [] [(0,cs)] ((qbw 0 [] [] ρ w' hw).upd 0 l) w' sme.below).wat ρ.at_),vr3,⟨fun k hk=>?_,fun k hk=>rfl,rfl,rfl,rfl,sm.dom,sm.nodup,fun e he=>?_,sm.inj⟩,⟨hle,h3.size,fun k hk _=>hkeep k hk,fun e he l hl=>.inl ⟨e,he,l,hl,rfl⟩,ja _,fun _ _=>rfl,fun k hk=>?_⟩⟩
  ·rcases hB2 k hk with hk|rfl
   ·exact jI (sm.base k hk) h3.size
   ·exact l3
  ·obtain⟨m,g1,g2,g3,g4⟩:=sm.live e he;refine⟨m,g1,fun hk=>?_,jI g3 h3.size,(g4.same (hkeep _ g3)).mono hle⟩;rcases hB2 _ hk with hk|hk
   ·exact g2 hk
   ·omega
  ·rcases hB2 k hk with hk|rfl
   ·exact .inl hk
   ·exact .inr (.inr hrow)
 rcases h _ w xs (fh.sim sm (jx _)) hx' with⟨x,ρ',w',h0,h1,h2,h3⟩|⟨g,ys,h0,h1⟩
 ·obtain⟨ρ2,k1,k2,k3⟩:=up h1 h2 h3;exact .inl ⟨x,ρ2,w',h0,k1,k2,k3⟩
 ·refine .inr ⟨g,ys,h0,h1.mono ?_⟩;rintro e w' ⟨x,ρ',rfl,m1,m2,m3⟩;obtain⟨ρ2,k1,k2,k3⟩:=up m1 m2 m3;exact⟨x,ρ2,rfl,k1,k2,k3⟩
theorem scI:∀L:List Int,qj4 (L.map qat)=true
 |[]=>rfl
 |x::r=>by simp only[List.map_cons,qj4,scI r,qat,qg8,Jd]
theorem qib{k:Nat} {L:List Int} (h:L≠[]):qce k 1 (L.map qat)=.slc k 0 L.length (.rest 1)/\qcg k (L.map qat)=[(k,.cells (L.map qat))]:=by
 have h':L.map qat≠[]:=by simpa using h
 rw[qbr h',qd4 h',qe8];simp
theorem CallAt.lendI{C:Ctx} {f:FuncId} {args args':List AV} {L:List Int} (h:CallAt C f args' zH (qce 0 1 (L.map qat)) ⟨1,[qcg 0 (L.map qat)]⟩) {H:Heap} {Φ:List (Nat × List AV)} (hH:(H.ents.map (·.1)).Nodup->FitH 0 [] Φ H zH) (hf:qb8 [] Φ args args'):CallAt C f args H (qa8 L) H:=by
 cases L with
 |nil=>have h':CallAt C f args' zH (qa8 []) zH:=h.post (σ:=[]) (Φ:=[]) (by simp[qce,qas,qa8]) (.keep0 rfl);exact h'.borrow rfl hH hf
 |cons x r=>obtain⟨e1,e2⟩:=qib (k:=0) (L:=x::r) (by simp);rw[e1,e2]at h;exact h.lendF (scI _) (ql6 _) (qp5 (by simp[qcp])) hH hf
section
variable {α:Type} (f:FuncId) (ss:List (List Nat)) (enc:α->List AV) (pre:α->Prop) (L:α->List Int)
open Classical in
def lenG(args:List AV) (H:Heap):Option (AV × Heap):=if h:∃x,qbl H ss args=some (enc x)/\pre x then some (qa8 (L h.choose),H) else none
def mkL(h:∀x,pre x->CallAt ⟨PG,fun _=>[],fun _=>none⟩ f (enc x) zH (qce 0 1 ((L x).map qat)) ⟨1,[qcg 0 ((L x).map qat)]⟩):Entry PG:=
 ⟨f,lenG ss enc pre L,fun args H v H' hv=>by
  unfold lenG at hv;split at hv
  next hx=>simp only[sj,jg]at hv;obtain⟨rfl,rfl⟩:=hv;intro ρ w xs sm hxs;exact(h _ hx.choose_spec.2).lendI (fun hn=>qob hn) (qgf sm.nodup hx.choose_spec.1) ρ w xs sm hxs
  ·cases hv⟩
variable {f ss enc pre L}
theorem qj7{h:∀x,pre x->CallAt ⟨PG,fun _=>[],fun _=>none⟩ f (enc x) zH (qce 0 1 ((L x).map qat)) ⟨1,[qcg 0 ((L x).map qat)]⟩} {T:List (Entry PG)} (hT:qac f T=some (mkL f ss enc pre L h).g) (inj:∀x y,enc x=enc y->x=y) (x:α) (hx:pre x) {args:List AV} {H:Heap} (ht:qbl H ss args=some (enc x)) :
  qb5 (ctx T) (.fn f) args H=some (qa8 (L x),H):=by
 rw[qf8 (C:=ctx T) (g:=(mkL f ss enc pre L h).g) hT];show lenG ss enc pre L _ _=_;unfold lenG;have hex:∃y,qbl H ss args=some (enc y)/\pre y:=⟨x,ht,hx⟩;rw[dif_pos hex,inj _ _ (yB (hex.choose_spec.1.symm.trans ht))]
end
def qlw{X:Type} (goes:X->Int->Bool) (nx:X->Int->X):X->List Int->List Int × X
 |x,[]=>([],x)
 |x,i::r=>match r with
  |[]=>([i],x)
  |_::_=>if goes x i=true then qlw goes nx (nx x i) r else (i::r,nx x i)
theorem zc7(hC:qIn 78 T e78) {X:Type} {m:Nat} {rows:X->List (Nat × Blk)} {fn:FuncId} {cap:List AV} {goes:X->Int->Bool} {nx:X->Int->X}
  (rk:∀x,((rows x).map (·.1)).Nodup/\∀e,e∈rows x->e.1 < m/\∃cs,e.2=.cells cs/\qa6 cs=true) (L:List Int) (hl:L.length<=1000000) (hcap:qb8 (idn m) [] cap cap)
  (hF:∀x i,i∈L->CA T fn (.int .i64 i::cap) ⟨m,[[],rows x]⟩ (.bool (goes x i)) ⟨m,[[],rows (nx x i)]⟩) (x:X) :
  CA T 186 [qa8 L,.func (.func fn) [] cap] ⟨m,[rows x]⟩ (qce m 1 ((qlw goes nx x L.reverse).1.reverse.map qat)) ⟨m+1,[qcg m ((qlw goes nx x L.reverse).1.reverse.map qat)++rows (qlw goes nx x L.reverse).2]⟩:=by
 have lnL:=fun H=>qgi (H:=H) (L:=L);have hcf:qas (idn m) [] (.func (.func fn) [] cap) (.func (.func fn) [] cap):=by simp only[qas];exact .inl ⟨trivial,by simp[qb8],hcap⟩
 have fitR:∀y n',FitH m (idn m) [] ⟨n',[[],rows y]⟩ ⟨m,[[],rows y]⟩:=fun y n'=>qkr (ja m) (by simpa[Heap.ents]using(rk y).1) (fun e he=>by
  have he:e∈rows y:=by simpa[Heap.ents]using he
  obtain⟨h1,cs,h2,h3⟩:=(rk y).2 e he;exact⟨h1,by rw[h2];exact qh9 h3,by simp only[zG];rw[qlh (rk y).1 he]⟩) (ja m)
 obtain⟨R,hR⟩ : ∃R,R=qlw goes nx x L.reverse:=⟨_,rfl⟩;rw[<- hR];have tail:∀(q:Nat) (y:X),q<=L.length->R=((L.take q).reverse,y)->∀n',FitH m (idn (m+1)) [] ⟨n',[qcg m (R.1.reverse.map qat),rows y]⟩ ⟨m+1,[qcg m (R.1.reverse.map qat)++rows R.2]⟩:=fun q y hq hRq n'=>by
  have ey:R.2=y:=by rw[hRq]
  rw[ey];generalize R.1.reverse=M;refine qkr (Nat.le_succ m) ?_ (fun e he=>?_) (ja _)
  ·simp only[Heap.ents,jq,j7,jh,j5];rw[j4];refine⟨by cases M<;>simp[qcg],(rk y).1,fun a ha b hb=>?_⟩;obtain⟨e,he,rfl⟩:=jw.1 hb;have:=((rk y).2 e he).1;cases M with
   |nil=>simp[qcg]at ha
   |cons z r=>simp[qcg]at ha;omega
  ·simp only[Heap.ents,jq,j7,jh,je]at he;rcases he with he|he
   ·cases M with
    |nil=>simp[qcg]at he
    |cons z r=>simp only[List.map_cons,qcg,j2]at he;subst he;exact⟨jT m,qh9 (by rw[<- List.map_cons,qe8];exact ql6 _),by simp[zG,qcg]⟩
   ·obtain⟨h1,cs,h2,h3⟩:=(rk y).2 e he;refine⟨by omega,by rw[h2];exact qh9 h3,?_⟩;have:getF e.1 (qcg m (M.map qat))=none:=by
     cases M with
     |nil=>rfl
     |cons z r=>simp[qcg,getF,qax (show m≠e.1 by omega)]
    simp only[Heap.get,getFs,this];rw[qlh (rk y).1 he]
 obtain⟨M,hM⟩ : ∃M,M=R.1.reverse:=⟨_,rfl⟩;rw[<- hM]at tail ⊢;refine qa1 (s0:=⟨[0,1,4,5],[qa8 L,.func (.func fn) [] cap,uD,uD],[],25,⟨m,[]::[rows x]⟩⟩) Tryz.func186 rfl rfl rfl ?_;apply qR;simp[zS,lnL];apply qR;simp[zS,lnL];repeat apply wq
 refine qa3 (qb6 (fun q:Nat × X=>(⟨[0,1,4,5],[qa8 L,.func (.func fn) [] cap,.nilS,.int .i64 (q.1:Int)],[],25,⟨m,[[],rows q.2]⟩⟩ : St)) (fun q=>q.1<=L.length/\qlw goes nx q.2 (L.take q.1).reverse=R) (fun q=>q.1) (idn m) [] (L.length,x) ⟨ja _,by simp[hR]⟩ ⟨rfl,rfl,rfl,by simp[qb8,qas,hcap,qa2,qa6],fitR _ _⟩ ?_);rintro⟨q,y⟩ ⟨hq,hx⟩ B hB;simp only at hq hx;have hslc:∀H,qcq PG H 38 (qa8 L) none (some (.int .i64 (q:Int))) none=some (.fslc 1 ((L.take q).map qat)):=fun H=>by have h1:idx (q:Int) (Nat.succ L.length)=some q:=qbn (by omega);simp[qcq,qqe,qdc,qa8,h1,List.map_take]
 have kcl:=fun H=>k78 hC (L:=L.take q) (by simp;omega) H;simp only[List.map_take,qa8]at kcl;rcases jF q 2 with h2|h2
 ·have hgt:¬ ((1:Int) < (q:Int)):=by omega
  have hRq:R=((L.take q).reverse,y):=by
   rw[<- hx]
   match q,h2 with
   |0,_=>simp[qlw]
   |1,_=>
    cases L with
    |nil=>simp[qlw]
    |cons z r=>simp[qlw]
  apply qR;simp[zS,hgt];apply qaj rfl;apply qak;simp;apply qR;simp[zS,hslc,kcl,qod];apply qa7;have eM:M=L.take q:=by rw[hM,hRq];simp
  simp[zQ,Tryz.f186];rw[<- List.map_take,<- eM];exact⟨_,_,qcn (qcm (jT m)),tail q y hq hRq _⟩
 ·obtain⟨k,hk0⟩ : ∃k,q=k+1:=⟨q - 1,by omega⟩;have hk:k < L.length:=by omega
  have hgt:((1:Int) < (q:Int)):=by omega
  have hw:wr .i64 ((q:Int) - 1)=some (k:Int):=by rw[hk0];exact qi0 (by omega)
  have hat:=atI (L:=L) (i:=k) hk;have hf:=hF y L[k] (jA hk);have e1:(L.take q).reverse=L[k]::(L.take k).reverse:=by rw[hk0,jj hk];simp
  have hne:(L.take k).reverse≠[]:=by intro e;have:=jR List.length e;simp only[List.length_reverse,jL,yd]at this;omega
  have hx2:(if goes y L[k]=true then qlw goes nx (nx y L[k]) (L.take k).reverse else ((L.take q).reverse,nx y L[k]))=R:=by
   rw[<- hx,e1];generalize (L.take k).reverse=Z at *;cases Z with
   |nil=>exact absurd rfl hne
   |cons z r=>rfl
  generalize L[k]=i at *;clear e1 hne hx;cases hg:goes y i with
  |false=>
   rw[hg]at hf hx2;simp only[jz,jM]at hx2;repeat apply wq
   refine qb0 (qci [⟨fn,_,_,_,_,hf⟩]) ?_;simp[zS,qdz,hgt,hw,hat];apply qaj rfl;apply qak;simp;apply qR;simp[zS,hslc,kcl,qod];apply qa7;have eM:M=L.take q:=(by rw[hM,<- hx2];simp);simp[zQ,Tryz.f186];rw[<- List.map_take,<- eM];exact⟨_,_,qcn (qcm (jT m)),tail q _ hq hx2.symm _⟩
  |true=>
   rw[hg]at hf hx2;simp only[jQ]at hx2;repeat apply wq
   refine qb0 (qci [⟨fn,_,_,_,_,hf⟩]) ?_;simp[zS,qdz,hgt,hw,hat];apply qag rfl;apply qa5;simp;apply qa3;apply qR;simp[zS,hw];exact hB _ (k,nx y i) (by simp only;omega) ⟨by simp only;omega,hx2⟩ ⟨idn m,[],rfl,rfl,rfl,by simp[qb8,qas,hcap,qa2,qa6],fitR _ _⟩
structure FactR (C:Ctx) where
 b:Nat
 args:List AV
 H:Heap
 v:AV
 H':Heap
 ok:qi5 C b args H v H'
open Classical in
def qvp{C:Ctx}:List (FactR C)->qck->qck
 |[],call,c,args,H=>call c args H
 |x::r,call,c,args,H=>if c=.yl x.b/\args=x.args/\H=x.H then some (x.v,x.H') else qvp r call c args H
theorem qsf{C:Ctx} {call:qck} (hc:CallOK C call):∀(l:List (FactR C)),CallOK C (qvp l call)
 |[]=>hc
 |x::r=>{
  fn:=fun f args H v H' h=>by
   unfold qvp at h;split at h
   next hx=>cases hx.1
   ·exact(qsf hc r).fn f args H v H' h
  yl:=fun b args H v H' h=>by
   unfold qvp at h;split at h
   next hx=>obtain⟨hf,rfl,rfl⟩:=hx;simp only[sj,jg]at h;obtain⟨rfl,rfl⟩:=h;cases hf;exact x.ok
   ·exact(qsf hc r).yl b args H v H' h }
theorem zch(l:List (FactR (ctx T))):CallOK (ctx T) (qvp l (qb5 (ctx T))):=qsf qaz l
theorem qub{C:Ctx} {b:Nat} {args:List AV} {H H':Heap} {v:AV} {ok:qi5 C b args H v H'} {r:List (FactR C)} {call:qck}:qvp (⟨b,args,H,v,H',ok⟩::r) call (.yl b) args H=some (v,H'):=by simp[qvp]
section
variable {C:Ctx} {call:qck} {ops:Array Oper} {H0:Heap} {s:St} {o:Oper} {l:List Oper} {P:St->Prop}
theorem qvd{b:Bool} (h1:b=true->∃s',qqu C call ops H0 (qk1 C call s o (some true)) l=some s'/\P s') (h2:b=false->∃s',qqu C call ops H0 (qk1 C call s o (some false)) l=some s'/\P s') :
  ∃s',qqu C call ops H0 (qk1 C call s o (some b)) l=some s'/\P s':=by
 cases b with
 |true=>exact h1 rfl
 |false=>exact h2 rfl
theorem qv3{H:Heap} {d:Option Tmp} {p q:Option AV} {b:Bool} (h1:b=true->∃s',qqu C call ops H0 (qy9 s d (qn7 H (some (.bool true)) p q)) l=some s'/\P s') (h2:b=false->∃s',qqu C call ops H0 (qy9 s d (qn7 H (some (.bool false)) p q)) l=some s'/\P s') :
  ∃s',qqu C call ops H0 (qy9 s d (qn7 H (some (.bool b)) p q)) l=some s'/\P s':=by
 cases b with
 |true=>exact h1 rfl
 |false=>exact h2 rfl
end
theorem qcu{b k:Nat} {x:Blk} (h:k≠b):getF b [(k,x)]=none:=by unfold getF;rw[qax h];rfl
open Classical in
def za5:Code->Option (Code × Code)
 |.rangeFunc _ _ a b=>some (a,b)
 |.seq a b=>match za5 a with
  |some x=>some x
  |none=>za5 b
 |.block _ b=>za5 b
 |.loop b=>za5 b
 |.cond _ a b=>match za5 a with
  |some x=>some x
  |none=>za5 b
 |_=>none
def rgA(o:Option Code):Code:=match o.bind za5 with
 |some x=>x.1
 |none=>.skip
def rgB(o:Option Code):Code:=match o.bind za5 with
 |some x=>x.2
 |none=>.skip
def za3(b:Nat) (R:List (Nat × Blk)):Prop:=(R.map (·.1)).Nodup/\∀e,e∈R->e.1 < b/\∃cs,e.2=.cells cs/\qa6 cs=true
structure RgK where
 ks:List Nat
 vs:List AV
 sz:Nat
 ps:List Nat
 as':Code
 bd:Code
def RgK.blk(K:RgK) (st:LoopState) (pend:Option Code) (ts:List (Nat × AV)):Blk:=.loop st pend K.ks K.vs ts K.sz K.ps K.as' K.bd
def RgK.rows{ρ:Type} (K:RgK) (b:Nat) (R:Option ρ->List (Nat × Blk)):Option ρ->List (Nat × Blk)
 |none=>(b,K.blk .ready none [])::R none
 |some r=>(b,K.blk .done (some .ret) [])::R (some r)
structure RgK.Ok {ρ:Type} (K:RgK) (b:Nat) (R:Option ρ->List (Nat × Blk)):Prop where
 vs:∀σ,Idl b σ->qb8 σ [] K.vs K.vs
 rows:∀c,za3 b (R c)
section
variable {ρ:Type} {K:RgK} {b:Nat} {R:Option ρ->List (Nat × Blk)}
theorem RgK.Ok.self(h:K.Ok b R) (st:LoopState) (pend:Option Code) (ts:List (Nat × AV)):∀σ,Idl (b+1) σ->qkw σ [] (K.blk st pend ts) (K.blk st pend []):=fun σ hσ=>
 ⟨rfl,rfl,rfl,h.vs σ fun i hi=>hσ i (by omega),rfl,rfl,rfl,rfl,rfl⟩
theorem RgK.Ok.fit(h:K.Ok b R) {N m:Nat} {st:LoopState} {pend:Option Code} {ts:List (Nat × AV)} {c:Option ρ} {H:Heap} (hN:N<=b+1) (hm:b+1<=m) (hb:H.get b=some (K.blk st pend ts)) (hr:∀e,e∈R c->H.get e.1=some e.2)
  {fs:List (List (Nat × Blk))} (hfs:fs.flatten=(b,K.blk st pend [])::R c):FitH N (idn (b+1)) [] H ⟨m,fs⟩ where
 nd1:=by simpa using qie (b+1)
 nd2:=qkm (b+1)
 nd3:=by simp only[Heap.ents,hfs,List.map_cons,jp];refine⟨fun hx=>?_,(h.rows c).1⟩;obtain⟨e,he,hx⟩:=jw.1 hx;have:=((h.rows c).2 e he).1;omega
 lt:=fun x hx=>by
  obtain⟨i,hi,rfl⟩:=jw.1 hx;have:i < b+1:=by simpa using hi
  show i < m;omega
 idn:=fun x hx hlt=>by obtain⟨i,hi,rfl⟩:=jw.1 hx;rfl
 num:=by show N<=m;omega
 src:=fun e he=>by
  simp only[Heap.ents,hfs,jd]at he;rcases he with rfl|he
  ·exact⟨b,_,qe4 (jT b),hb,h.self _ _ _ _ (qmf (b+1))⟩
  ·obtain⟨h1,cs,h2,h3⟩:=(h.rows c).2 e he;refine⟨e.1,e.2,qe4 (by omega),hr e he,?_⟩;rw[h2];exact qau h3
 frz:=fun x h=>by cases h
def qm6(go:Nat->Option ρ):Nat->Option ρ
 |0=>none
 |j+1=>match go j with
  |some r=>some r
  |none=>qm6 go j
def quq:Option ρ->Out
 |none=>.normal
 |some _=>.ret
theorem za4(h:K.Ok b R) {args:List AV} {g:Option ρ} {s1:St} (hp:qta ⟨K.ks,K.vs,[],K.sz,⟨b+1,[[],[],(b,K.blk .ready none [])::R none]⟩⟩ K.ps args=some s1)
  (hw:∀l,WpSr (ctx T) (b+1) (some l) K.as' s1 fun x s=>x=.normal/\∃m f,s.H=⟨m,[f,[],(b,K.blk .ready none [])::R none]⟩/\getF b f=none /\
   ∀B,B=K.blk .busy none []->WpSr (ctx T) (b+1) (some l) K.bd { s with H:=⟨m,[f,[],(b,B)::R none]⟩ } fun x s'=>∃m' f',(∀i,i < b+1->getF i f'=none)/\s'.H=⟨m',[f',[],(b,B)::R g]⟩/\x=quq g) :
  qi5 (ctx T) b args ⟨b+1,[[],(b,K.blk .ready none [])::R none]⟩ (.bool g.isNone) ⟨b+1,[[],K.rows b R g]⟩:=by
 refine qsr (pend:=none) (ks:=K.ks) (vs:=K.vs) (ts:=[]) (sz:=K.sz) (ps:=K.ps) (assign:=K.as') (body:=K.bd) (by simp[zG,RgK.blk]) hp fun l=>?_;refine(hw l).mono fun x s hs=>?_;obtain⟨rfl,m,f,hH,hf,hb⟩:=hs;refine⟨rfl,none,K.ks,K.vs,[],K.sz,K.ps,K.as',K.bd,⟨m,[f,[],(b,K.blk .busy none [])::R none]⟩,?_,?_,(hb _ rfl).mono fun x s' hs'=>?_⟩
 ·rw[hH];simp[zG,hf,RgK.blk]
 ·rw[hH];have hn:setF b (K.blk .busy none []) f=none:=qke hf;unfold RgK.blk at hn;simp[Heap.set,setFs,setF,hn,RgK.blk]
 ·obtain⟨m',f',hf',hH',rfl⟩:=hs';have hfb:=hf' b (jT b);have hn:∀k,setF b k f'=none:=fun k=>qke hfb;refine⟨.busy,none,K.ks,K.vs,[],K.sz,K.ps,K.as',K.bd,⟨m',[f',[],(b,K.blk (qid (quq g)).2.1 (qid (quq g)).2.2 [])::R g]⟩,?_,?_,?_,idn (b+1),[],?_⟩
  ·rw[hH'];simp[zG,hfb,RgK.blk]
  ·rw[hH'];simp[Heap.set,setFs,setF,hn,RgK.blk]
  ·cases g<;>rfl
  ·have hg:∀e,e∈R g->Heap.get ⟨m',[f',[],(b,K.blk (qid (quq g)).2.1 (qid (quq g)).2.2 [])::R g]⟩ e.1=some e.2:=fun e he=>(by have h1:=((h.rows g).2 e he).1;have h2:Nat.beq b e.1=false:=qax (by omega);simp only[Heap.get,getFs,hf' e.1 (by omega),getF,h2];rw[qlh (h.rows g).1 he]);refine h.fit (c:=g) (st:=(qid (quq g)).2.1) (pend:=(qid (quq g)).2.2) (ts:=[]) (ja _) (ja _) (by simp[zG,hfb]) hg ?_;cases g<;>simp[RgK.rows,quq,qid]
end
def qyv(L:List Int):AV:=.func (.func 188) [] [.fptr [qa8 L] 0]
theorem qtd(L:List Int):qa2 (qyv L)=true:=by simp[qyv,qa2,qa6]
theorem c130(L:List Int):CA T 130 [qa8 L] zH (qyv L) zH:=by refine qa1 (s0:=⟨[0,1,2],[qa8 L,uD,uD],[],4,⟨0,[[]]⟩⟩) Tryz.func130 rfl rfl rfl ?_;apply qR;simp[zS];apply qR;simp[zS];apply qa7;simp[zQ,Tryz.f130];refine⟨[],[(0,[qa8 L])],by simp[qyv,qas,qb8,qcp],.froze (by simp) fun x hx=>?_⟩;rw[j2]at hx;subst hx;exact⟨[qa8 L],by simp[zG],qau (by simp[qa6]),by simp[qa6]⟩
def e130:Entry PG:=mkE 130 [[1]] (fun L:List Int=>[qa8 L]) (fun _=>True) qyv fun L _=>c130 (T:=[]) L
theorem k130(hT:qIn 130 T e130) (L:List Int) (H:Heap):qb5 (ctx T) (.fn 130) [qa8 L] H=some (qyv L,H):=
 qds hT (fun x y h=>by simp only[jl,jJ]at h;exact qdu h) L trivial (by simp[qa6]) (by simp[qbl]) H
section
variable {ρ:Type} {K:RgK} {b:Nat} {R:Option ρ->List (Nat × Blk)}
theorem qyw(h:K.Ok b R) (L:List Int) (hl:L.length<=1000000) (go:Nat->Option ρ) (hy:∀j (hj:j < L.length),qi5 (ctx T) b [.int .i64 (j:Int),.int .i64 L[j]] ⟨b+1,[[],(b,K.blk .ready none [])::R none]⟩ (.bool (go j).isNone) ⟨b+1,[[],K.rows b R (go j)]⟩) :
  CA T 188 [.yld b,.fptr [qa8 L] 0] ⟨b+1,[(b,K.blk .ready none [])::R none]⟩ (.tup []) ⟨b+1,[K.rows b R (qm6 go L.length)]⟩:=by
 obtain⟨w,hw⟩ : ∃w:Int,w=(L.length:Int) - 1:=⟨_,rfl⟩;have hws:wr .i64 ((L.length:Int) - 1)=some w:=by rw[hw];exact qbi (by omega) (by omega)
 have lb:qaw b (idn (b+1))=some b:=qcm (jT b);have gb:∀{c:Option ρ} {n:Nat},∀e,e∈R c->Heap.get ⟨n,[[],K.rows b R c]⟩ e.1=some e.2:=fun {c n} e he=>by
  have h1:=((h.rows c).2 e he).1;have h2:Nat.beq b e.1=false:=qax (by omega);cases c with
  |none=>simp only[zG,RgK.rows,h2];rw[qlh (h.rows _).1 he]
  |some r=>simp only[zG,RgK.rows,h2];rw[qlh (h.rows _).1 he]
 have lnL:∀H,qf3 PG H 38 (qa8 L)=some L.length:=fun H=>qgi;refine qa1 (s0:=⟨[0,1,3],[.yld b,.fptr [qa8 L] 0,uD],[],19,⟨b+1,[]::[(b,K.blk .ready none [])::R none]⟩⟩) Tryz.func188 rfl rfl rfl ?_;apply qR;simp[zS,lnL,hws];refine qa3 (qb6 (fun x:Nat × Int=>(⟨[0,1,3],[.yld b,.fptr [qa8 L] 0,.int .i64 x.2],[],19,⟨b+1,[[],(b,K.blk .ready none [])::R none]⟩⟩ : St))
  (fun x=>x.1<=L.length/\x.2=(x.1:Int) - 1/\qm6 go L.length=qm6 go x.1) (fun x=>x.1) (idn (b+1)) [] (L.length,w) ⟨ja _,hw,rfl⟩
  ⟨rfl,rfl,rfl,by simp[qb8,qas,qa2,qa6,lb],h.fit (c:=none) (st:=.ready) (pend:=none) (ts:=[]) (ja _) (ja _) (by simp[zG,RgK.rows]) (gb (c:=none)) (by simp)⟩ ?_)
 rintro⟨j,v⟩ ⟨hj,hv,hx⟩ B hB;simp only at hj hv hx;cases j with
 |zero=>
  have hn:¬ 0<=v:=by omega
  apply qR;simp[zS,hn];apply qaj rfl;apply qak;simp;refine⟨[],rfl,idn (b+1),[],by simp[oneOr,qas,qb8],?_⟩;rw[hx];exact h.fit (c:=none) (st:=.ready) (pend:=none) (ts:=[]) (ja _) (ja _) (by simp[zG,RgK.rows]) (gb (c:=none)) (by simp[qm6,RgK.rows])
 |succ q=>
  have hvq:v=(q:Int):=by omega
  subst hvq;have hq:q < L.length:=by omega
  have hyq:=hy q hq;have hix:qaq PG 38 (qa8 L) (.int .i64 (q:Int))=some (.fptr [.int .i64 L[q]] 0):=atIx hq;have hn:(0:Int)<=(q:Int):=by omega
  have hs1:wr .i64 ((q:Int) - 1)=some ((q:Int) - 1):=qbi (by omega) (by omega);simp only[qm6]at hx;generalize L[q]=x at *;apply qR;simp[zS,hn];apply qag rfl;apply qa5;simp;repeat apply wq
  apply qa3;obtain⟨g,hg⟩ : ∃g,go q=g:=⟨_,rfl⟩;rw[hg]at hx hyq;cases g with
  |some r=>
   simp only[Jl]at hyq;repeat apply wq
   refine qb0 (zch [⟨b,_,_,_,_,hyq⟩]) ?_;simp[zS,hix,zau,qat,qub];apply qag rfl;apply qa7;simp;refine⟨[],rfl,idn (b+1),[],by simp[oneOr,qas,qb8],?_⟩;rw[hx];exact h.fit (c:=some r) (st:=.done) (pend:=some .ret) (ts:=[]) (ja _) (ja _) (by simp[zG,RgK.rows]) (gb (c:=some r)) (by simp[RgK.rows])
  |none=>
   simp only[Jm]at hyq;repeat apply wq
   refine qb0 (zch [⟨b,_,_,_,_,hyq⟩]) ?_;simp[zS,hix,zau,qat,qub];apply qaj rfl;apply qa5;simp;apply qR;simp[zS,hs1];exact hB _ (q,(q:Int) - 1) (by simp) ⟨by simp only;omega,rfl,hx⟩ ⟨idn (b+1),[],rfl,rfl,rfl,by simp[qb8,qas,qa2,qa6,lb],h.fit (c:=none) (st:=.ready) (pend:=none) (ts:=[]) (ja _) (ja _) (by simp[zG,RgK.rows]) (gb (c:=none)) (by simp)⟩
theorem qvu(h:K.Ok b R) (L:List Int) {ts:List (Nat × AV)} {g:Operand} {ps:Array Nat} (hps:ps.toList=K.ps) (ho:qc5 ⟨K.ks,K.vs,ts,K.sz,⟨b,[R none]⟩⟩ g=some (qyv L)) {r:Option ρ} {call:qck}
  (hc:call (.fn 188) [.yld b,.fptr [qa8 L] 0] ⟨b+1,[(b,K.blk .ready none ts)::R none]⟩=some (.tup [],⟨b+1,[K.rows b R r]⟩)) :
  qig (ctx T) call g ps K.as' K.bd ⟨K.ks,K.vs,ts,K.sz,⟨b,[R none]⟩⟩=some (quq r,⟨K.ks,K.vs,ts,K.sz,⟨b+1,[R r]⟩⟩):=by
 have hent:qsd (ctx T) 188=true:=by kernel_rfl
 unfold qig;rw[ho];simp only[jc,hent,qyv,hps];have e:call (.fn 188) ([]++[.yld b]++[.fptr [qa8 L] 0]) (Heap.new ⟨b,[R none]⟩ (.loop .ready none K.ks K.vs ts K.sz K.ps K.as' K.bd))=some (.tup [],⟨b+1,[K.rows b R r]⟩):=hc;rw[e];cases r with
 |none=>simp[zG,RgK.rows,RgK.blk,quq,St.wH,Heap.drop,qg0,killF]
 |some r=>simp[zG,RgK.rows,RgK.blk,quq,St.wH,Heap.drop,qg0,killF,qv9]
theorem qsv(h:K.Ok b R) (L:List Int) (hl:L.length<=1000000) (go:Nat->Option ρ) (hy:∀j (hj:j < L.length),qi5 (ctx T) b [.int .i64 (j:Int),.int .i64 L[j]] ⟨b+1,[[],(b,K.blk .ready none [])::R none]⟩ (.bool (go j).isNone) ⟨b+1,[[],K.rows b R (go j)]⟩)
  {ts:List (Nat × AV)} {g:Operand} {ps:Array Nat} (hps:ps.toList=K.ps) (ho:qc5 ⟨K.ks,K.vs,ts,K.sz,⟨b,[R none]⟩⟩ g=some (qyv L)) {n:Nat} {Q:Out->St->Prop} (hq:Q (quq (qm6 go L.length)) ⟨K.ks,K.vs,ts,K.sz,⟨b+1,[R (qm6 go L.length)]⟩⟩) :
  WpS (ctx T) n (.rangeFunc g ps K.as' K.bd) ⟨K.ks,K.vs,ts,K.sz,⟨b,[R none]⟩⟩ Q:=by
 have lb:qaw b (idn (b+1))=some b:=qcm (jT b);have hcall:CA T 188 [.yld b,.fptr [qa8 L] 0] ⟨b+1,[(b,K.blk .ready none ts)::R none]⟩ (.tup []) ⟨b+1,[K.rows b R (qm6 go L.length)]⟩:=
  (qyw h L hl go hy).drop (σ:=idn (b+1)) (Φ:=[]) (fun _=>h.fit (c:=none) (st:=.ready) (pend:=none) (ts:=ts) (ja _) (ja _) (by simp[zG]) (fun e he=>by have h1:=((h.rows none).2 e he).1;have h2:Nat.beq b e.1=false:=qax (by omega);simp only[zG,h2];rw[qlh (h.rows _).1 he]) (by simp)) (by simp[qb8,qas,qa2,qa6,lb])
 exact qz7 (qci [⟨188,_,_,_,_,hcall⟩]) ⟨_,_,qvu (T:=T) h L hps ho (r:=qm6 go L.length) (by simp[qdz]),hq⟩
end
abbrev lsSvg:Str:= lsB1
abbrev zaz:Str:= lsB3
abbrev qtl:Str:= lsB5
abbrev ql9:Str:= lsB7
abbrev zay:Str:= lsB2
def qdl(sp:Int) (x:Str):Bool:=if sp=1 then inW lsSvg x else if sp=2 then decide (x=[97,110,110,111,116,97,116,105,111,110,45,120,109,108]) || inW zaz x else decide (sp=0) && inW qtl x
def qgn(sc sp:Int) (x:Str):Bool:=
 if sc=3 then decide (sp=0) && inW zay x
 else if sc=0\/sc=1\/sc=2 then
  if sp=0 then (if x=[111,108]\/x=[117,108] then decide (sc=1) else if x=[98,117,116,116,111,110] then decide (sc=2) else inW ql9 x) else qdl sp x
 else !decide (sc=4) || !decide (sp=0) || (!decide (x=[111,112,116,103,114,111,117,112]) && !decide (x=[111,112,116,105,111,110]))
def qf4(sp:Int) (x:Str):Bool:=decide (sp=0) && decide (x=[100,100]\/x=[100,116]\/x=[108,105]\/x=[111,112,116,103,114,111,117,112]\/x=[111,112,116,105,111,110]\/x=[112]\/x=[114,98]\/x=[114,112]\/x=[114,116]\/x=[114,116,99])
theorem c79(hc0:qac 133 T=some e133a.g) (sp:Int) (x:Str) (hx:x.length<=1000000000):CA T 79 [.int .i64 sp,.str x] zH (.bool (qdl sp x)) zH:=by
 have kw0:=fun(x:Str) (hx:x.length<=1000000000) (H:Heap)=>qv8 (W:= lsB1) (x:=x) hc0 (ascB (by decide)) (by decide) hx H;have kw1:=fun(x:Str) (hx:x.length<=1000000000) (H:Heap)=>qv8 (W:= lsB3) (x:=x) hc0 (ascB (by decide)) (by decide) hx H;have kw2:=fun(x:Str) (hx:x.length<=1000000000) (H:Heap)=>qv8 (W:= lsB5) (x:=x) hc0 (ascB (by decide)) (by decide) hx H;refine qa1 (s0:=⟨[0,1,4,5],[.int .i64 sp,.str x,uD,uD],[],24,⟨0,[[]]⟩⟩) Tryz.func79 rfl rfl rfl ?_
 exact zL0
theorem inj_79(x y:Int × Str) (h:(fun z:Int × Str=>([.int .i64 z.1,.str z.2]:List AV)) x=(fun z:Int × Str=>([.int .i64 z.1,.str z.2]:List AV)) y):x=y:=by obtain⟨x0,x1⟩:=x;obtain⟨y0,y1⟩:=y;simp only[jl,jJ]at h;obtain⟨h0,h1⟩:=h;have g0:x0=y0:=AV.int.inj h0 |>.2;have g1:x1=y1:=AV.str.inj h1;subst g0 g1;rfl
def e79:Entry PG:=mkE 79 [[],[]] (fun z:Int × Str=>[.int .i64 z.1,.str z.2]) (fun z=>(z.2.length<=1000000000)) (fun z=>.bool (qdl z.1 z.2)) fun z h=>c79 (T:=[e133a]) rfl z.1 z.2 h
theorem k79(hT:qIn 79 T e79) (sp:Int) (x:Str) (hx:x.length<=1000000000) (H:Heap):qb5 (ctx T) (.fn 79) [.int .i64 sp,.str x] H=some (.bool (qdl sp x),H):=
 qb9 hT inj_79 (sp,x) hx rfl (by simp[qam])
theorem c51(hc0:qac 133 T=some e133a.g) (hc1:qIn 79 T e79) (sc:Int) (sp:Int) (x:Str) (hx:x.length<=1000000000):CA T 51 [.int .i64 sc,.int .i64 sp,.str x] zH (.bool (qgn sc sp x)) zH:=by
 have kw0:=fun(x:Str) (hx:x.length<=1000000000) (H:Heap)=>qv8 (W:= lsB2) (x:=x) hc0 (ascB (by decide)) (by decide) hx H;have kw1:=fun(x:Str) (hx:x.length<=1000000000) (H:Heap)=>qv8 (W:= lsB7) (x:=x) hc0 (ascB (by decide)) (by decide) hx H;have kc1:=@k79 T hc1;refine qa1 (s0:=⟨[0,1,2,6,7,10,32,41,42],[.int .i64 sc,.int .i64 sp,.str x,uD,uD,uD,uD,uD,uD],[],53,⟨0,[[]]⟩⟩) Tryz.func51 rfl rfl rfl ?_
 exact zL0
theorem inj_51(x y:Int × Int × Str) (h:(fun z:Int × Int × Str=>([.int .i64 z.1,.int .i64 z.2.1,.str z.2.2]:List AV)) x=(fun z:Int × Int × Str=>([.int .i64 z.1,.int .i64 z.2.1,.str z.2.2]:List AV)) y):x=y:=by obtain⟨x0,x1,x2⟩:=x;obtain⟨y0,y1,y2⟩:=y;simp only[jl,jJ]at h;obtain⟨h0,h1,h2⟩:=h;have g0:x0=y0:=AV.int.inj h0 |>.2;have g1:x1=y1:=AV.int.inj h1 |>.2;have g2:x2=y2:=AV.str.inj h2;subst g0 g1 g2;rfl
def e51:Entry PG:=mkE 51 [[],[],[]] (fun z:Int × Int × Str=>[.int .i64 z.1,.int .i64 z.2.1,.str z.2.2]) (fun z=>(z.2.2.length<=1000000000)) (fun z=>.bool (qgn z.1 z.2.1 z.2.2)) fun z h=>c51 (T:=[e133a,e79]) rfl rfl z.1 z.2.1 z.2.2 h
theorem k51(hT:qIn 51 T e51) (sc:Int) (sp:Int) (x:Str) (hx:x.length<=1000000000) (H:Heap):qb5 (ctx T) (.fn 51) [.int .i64 sc,.int .i64 sp,.str x] H=some (.bool (qgn sc sp x),H):=
 qb9 hT inj_51 (sc,sp,x) hx rfl (by simp[qam])
theorem c203(sp:Int) (x:Str):CA T 203 [.int .i64 sp,.str x] zH (.bool (qf4 sp x)) zH:=by
 refine qa1 (s0:=⟨[0,1,4,5,6],[.int .i64 sp,.str x,uD,uD,uD],[],19,⟨0,[[]]⟩⟩) Tryz.func203 rfl rfl rfl ?_
 exact zL0
def e203:Entry PG:=mkE 203 [[],[]] (fun z:Int × Str=>[.int .i64 z.1,.str z.2]) (fun z=>True) (fun z=>.bool (qf4 z.1 z.2)) fun z h=>c203 (T:=[])  z.1 z.2 
theorem k203(hT:qIn 203 T e203) (sp:Int) (x:Str) (H:Heap):qb5 (ctx T) (.fn 203) [.int .i64 sp,.str x] H=some (.bool (qf4 sp x),H):=
 qb9 hT inj_79 (sp,x) trivial rfl (by simp[qam])
theorem sp_math:qcw lsB6=[97,110,110,111,116,97,116,105,111,110,45,120,109,108]::qcw zaz:=by decide +kernel
theorem in_math(x:Str):inW lsB6 x=(decide (x=[97,110,110,111,116,97,116,105,111,110,45,120,109,108]) || inW zaz x):=by unfold inW;rw[sp_math];simp[jd,Bool.decide_or]
theorem sp_list:qcw [111,108,32,117,108]=[[111,108],[117,108]]:=by decide +kernel
theorem qzu:qcw [98,117,116,116,111,110]=[[98,117,116,116,111,110]]:=by decide +kernel
theorem sp_opts:qcw lsB4=[[111,112,116,103,114,111,117,112],[111,112,116,105,111,110]]:=by decide +kernel
theorem sp_imp:qcw lsB0=[[100,100],[100,116],[108,105],[111,112,116,103,114,111,117,112],[111,112,116,105,111,110],[112],[114,98],[114,112],[114,116],[114,116,99]]:=by decide +kernel
theorem in_list(x:Str):inW [111,108,32,117,108] x=decide (x=[111,108]\/x=[117,108]):=by unfold inW;rw[sp_list];simp
theorem zbi(x:Str):inW [98,117,116,116,111,110] x=decide (x=[98,117,116,116,111,110]):=by unfold inW;rw[qzu];simp
theorem in_opts(x:Str):inW lsB4 x=decide (x=[111,112,116,103,114,111,117,112]\/x=[111,112,116,105,111,110]):=by unfold inW;rw[sp_opts];simp
theorem in_imp(x:Str):inW lsB0 x=decide (x=[100,100]\/x=[100,116]\/x=[108,105]\/x=[111,112,116,103,114,111,117,112]\/x=[111,112,116,105,111,110]\/x=[112]\/x=[114,98]\/x=[114,112]\/x=[114,116]\/x=[114,116,99]):=by unfold inW;rw[sp_imp];simp
def qg2(sp:Int) (x:Str):Bool:=decide (sp=2) && inW lsB6 x || decide (sp=1) && inW lsSvg x
theorem c161(hc0:qIn 71 T e71) (sp:Int) (x:Str):CA T 161 [.int .i64 sp,.str x] zH (.bool (qg2 sp x)) zH:=by
 have kw0:=fun(x:Str) (H:Heap)=>k71 hc0 (w:= lsB6) x (by decide) H;have kw1:=fun(x:Str) (H:Heap)=>k71 hc0 (w:= lsB1) x (by decide) H;refine qa1 (s0:=⟨[0,1,4],[.int .i64 sp,.str x,uD],[],19,⟨0,[[]]⟩⟩) Tryz.func161 rfl rfl rfl ?_
 exact zL0
def e161:Entry PG:=mkE 161 [[],[]] (fun z:Int × Str=>[.int .i64 z.1,.str z.2]) (fun z=>True) (fun z=>.bool (qg2 z.1 z.2)) fun z h=>c161 (T:=[e71]) rfl z.1 z.2 
theorem k161(hT:qIn 161 T e161) (sp:Int) (x:Str) (H:Heap):qb5 (ctx T) (.fn 161) [.int .i64 sp,.str x] H=some (.bool (qg2 sp x),H):=
 qb9 hT inj_79 (sp,x) trivial rfl (by simp[qam])
theorem qq1(sp:Int) (x:Str):(qg2 sp x || decide (sp=0) && inW qtl x)=qdl sp x:=by
 unfold qg2 qdl;rw[in_math];by_cases h1:sp=1
 ·subst h1;simp
 ·by_cases h2:sp=2
  ·subst h2;simp
  ·simp[h1,h2]
theorem c83(hc0:qIn 161 T e161) (hc1:qIn 152 T e152) (sp:Int) (x:Str):CA T 83 [.int .i64 sp,.str x] zH (.bool (qdl sp x)) zH:=by
 have kc0:=@k161 T hc0;have kw0:=fun(s:Int) (x:Str) (H:Heap)=>k152 hc1 s x (W:= lsB5) (by decide) H;refine qa1 (s0:=⟨[0,1,4],[.int .i64 sp,.str x,uD],[],13,⟨0,[[]]⟩⟩) Tryz.func83 rfl rfl rfl ?_
 exact zL0
def e83:Entry PG:=mkE 83 [[],[]] (fun z:Int × Str=>[.int .i64 z.1,.str z.2]) (fun z=>True) (fun z=>.bool (qdl z.1 z.2)) fun z h=>c83 (T:=[e161,e152]) rfl rfl z.1 z.2 
theorem k83(hT:qIn 83 T e83) (sp:Int) (x:Str) (H:Heap):qb5 (ctx T) (.fn 83) [.int .i64 sp,.str x] H=some (.bool (qdl sp x),H):=
 qb9 hT inj_79 (sp,x) trivial rfl (by simp[qam])
theorem c204(hc0:qIn 152 T e152) (sp:Int) (x:Str):CA T 204 [.int .i64 sp,.str x] zH (.bool (qf4 sp x)) zH:=by
 have kw0:=fun(s:Int) (x:Str) (H:Heap)=>k152 hc0 s x (W:= lsB0) (by decide) H;refine qa1 (s0:=⟨[0,1,4],[.int .i64 sp,.str x,uD],[],8,⟨0,[[]]⟩⟩) Tryz.func204 rfl rfl rfl ?_
 exact zL0
def e204:Entry PG:=mkE 204 [[],[]] (fun z:Int × Str=>[.int .i64 z.1,.str z.2]) (fun z=>True) (fun z=>.bool (qf4 z.1 z.2)) fun z h=>c204 (T:=[e152]) rfl z.1 z.2 
theorem k204(hT:qIn 204 T e204) (sp:Int) (x:Str) (H:Heap):qb5 (ctx T) (.fn 204) [.int .i64 sp,.str x] H=some (.bool (qf4 sp x),H):=
 qb9 hT inj_79 (sp,x) trivial rfl (by simp[qam])
theorem qu0(x:Str):qg2 0 x=false:=rfl
theorem qzp(sp:Int) (x:Str):(qg2 sp x || decide (sp=0) && inW ql9 x)=if sp=0 then inW ql9 x else qdl sp x:=by
 by_cases h:sp=0
 ·subst h;simp[qu0]
 ·simp[h,<- qq1]
theorem ends_ol:inW ql9 [111,108]=false/\inW ql9 [117,108]=false/\inW ql9 [98,117,116,116,111,110]=false:=by decide +kernel
theorem stops_eq(sc sp:Int) (x:Str):qgn sc sp x =
  if sc=0 then (qg2 sp x || decide (sp=0) && inW ql9 x) else if sc=1 then (qg2 sp x || decide (sp=0) && inW ql9 x) || (decide (sp=0) && inW [111,108,32,117,108] x)
  else if sc=2 then (qg2 sp x || decide (sp=0) && inW ql9 x) || (decide (sp=0) && inW [98,117,116,116,111,110] x)
  else if sc=3 then decide (sp=0) && inW zay x else !decide (sc=4) || !(decide (sp=0) && inW lsB4 x):=by
 obtain⟨e1,e2,e3⟩:=ends_ol;rw[qzp,in_list,zbi,in_opts];unfold qgn;by_cases h0:sp=0
 ·subst h0;by_cases a:x=[111,108]
  ·subst a;by_cases c0:sc=0<;>by_cases c1:sc=1<;>by_cases c2:sc=2<;>by_cases c3:sc=3<;>simp_all
  ·by_cases b:x=[117,108]
   ·subst b;by_cases c0:sc=0<;>by_cases c1:sc=1<;>by_cases c2:sc=2<;>by_cases c3:sc=3<;>simp_all
   ·by_cases d:x=[98,117,116,116,111,110]
    ·subst d;by_cases c0:sc=0<;>by_cases c1:sc=1<;>by_cases c2:sc=2<;>by_cases c3:sc=3<;>simp_all
    ·by_cases c0:sc=0<;>by_cases c1:sc=1<;>by_cases c2:sc=2<;>by_cases c3:sc=3<;>simp_all
 ·by_cases c0:sc=0<;>by_cases c1:sc=1<;>by_cases c2:sc=2<;>by_cases c3:sc=3<;>simp_all
theorem c184(hc0:qIn 161 T e161) (hc1:qIn 152 T e152) (sc:Int) (sp:Int) (x:Str):CA T 184 [.int .i64 sc,.int .i64 sp,.str x] zH (.bool (qgn sc sp x)) zH:=by
 have kc0:=@k161 T hc0;have kw0:=fun(s:Int) (x:Str) (H:Heap)=>k152 hc1 s x (W:= lsB7) (by decide) H;have kw1:=fun(s:Int) (x:Str) (H:Heap)=>k152 hc1 s x (W:=[111,108,32,117,108]) (by decide) H;have kw2:=fun(s:Int) (x:Str) (H:Heap)=>k152 hc1 s x (W:=[98,117,116,116,111,110]) (by decide) H;have kw3:=fun(s:Int) (x:Str) (H:Heap)=>k152 hc1 s x (W:= lsB2) (by decide) H;have kw4:=fun(s:Int) (x:Str) (H:Heap)=>k152 hc1 s x (W:= lsB4) (by decide) H;refine qa1 (s0:=⟨[0,1,2,6,7],[.int .i64 sc,.int .i64 sp,.str x,uD,uD],[],48,⟨0,[[]]⟩⟩) Tryz.func184 rfl rfl rfl ?_
 exact zL0
def e184:Entry PG:=mkE 184 [[],[],[]] (fun z:Int × Int × Str=>[.int .i64 z.1,.int .i64 z.2.1,.str z.2.2]) (fun z=>True) (fun z=>.bool (qgn z.1 z.2.1 z.2.2)) fun z h=>c184 (T:=[e161,e152]) rfl rfl z.1 z.2.1 z.2.2 
theorem k184(hT:qIn 184 T e184) (sc:Int) (sp:Int) (x:Str) (H:Heap):qb5 (ctx T) (.fn 184) [.int .i64 sc,.int .i64 sp,.str x] H=some (.bool (qgn sc sp x),H):=
 qb9 hT inj_51 (sc,sp,x) trivial rfl (by simp[qam])
theorem qgy{H:Heap} {b:Nat} {L:List Int} (h:L≠[]->H.get b=some (.cells (L.map qat))):∃σ Φ,qas σ Φ (qce b 1 (L.map qat)) (qce 0 1 (L.map qat))/\FitH 0 σ Φ H ⟨1,[qcg 0 (L.map qat)]⟩:=by
 cases L with
 |nil=>exact⟨[],[],by simp[qce,qas],.keep0 rfl⟩
 |cons x r=>refine⟨[(b,0)],[],qcn (by simp[qaw]),.keep1 (h (by simp)) (ql6 _) ?_⟩;simp[qcg,qe8];rw[<- List.map_cons (f:=qat),qe8]
def qiu(t:Tr) (L:List Int) (W:Str):List Int:=(qlw (fun(b:Bool) _=>!b) (fun b i=>if b=true then true else qcy (qbp t i) W) false L.reverse).1.reverse
def qz0(t:Tr) (W:Str) (b:Bool):List (Nat × Blk):=[(2,.cells [.bool b]),(1,.cells [.str W]),(0,.cells [qb3 t])]
theorem cut_pop(hI:qIn 76 T e76) (t:Tr) (W:Str) (i:Int) (hW:qd9 W) (hl:W.length<=1100000) (hx:(qbp t i).name.length<=1000000000) (b:Bool) :
  CA T 187 (.int .i64 i::[.ptr 2 0,.ptr 0 0,.ptr 1 0]) ⟨3,[[],qz0 t W b]⟩ (.bool !b) ⟨3,[[],qz0 t W (if b=true then true else qcy (qbp t i) W)]⟩:=by
 have ki:=fun(H:Heap)=>q76 hI (H:=H) (a:=.agg [qb3 t]) (t:=t) (by simp[qco,okV,qa6,qao]) i hW hl hx;generalize qcy (qbp t i) W=b1 at *;have fin:∀b n,FitH 3 (idn 3) [] ⟨n,[[],[],qz0 t W b]⟩ ⟨3,[[],qz0 t W b]⟩:=fun b n=>qkr (ja 3) (by simp[Heap.ents,qz0]) (fun e he=>by simp[Heap.ents,qz0]at he;rcases he with rfl|rfl|rfl<;>exact⟨by simp,qh9 (by simp[qa6,qa2]),by simp[zG,qz0]⟩) (ja 3);unfold qz0 at fin ⊢;cases b with
 |true=>
  refine qa1 (s0:=⟨[0,1,2,3,5],[.int .i64 i,.ptr 2 0,.ptr 0 0,.ptr 1 0,uD],[],11,⟨3,[]::[[],[(2,.cells [.bool true]),(1,.cells [.str W]),(0,.cells [qb3 t])]]⟩⟩) Tryz.func187 rfl rfl rfl ?_
  exact zL0
 |false=>
  refine qa1 (s0:=⟨[0,1,2,3,5],[.int .i64 i,.ptr 2 0,.ptr 0 0,.ptr 1 0,uD],[],11,⟨3,[]::[[],[(2,.cells [.bool false]),(1,.cells [.str W]),(0,.cells [qb3 t])]]⟩⟩) Tryz.func187 rfl rfl rfl ?_
  exact zL0
theorem c129(hC:qIn 78 T e78) (hI:qIn 76 T e76) (t:Tr) (L:List Int) (W:Str) (hW:qd9 W) (hl:W.length<=1100000) (hL:L.length<=1000000) (hx:∀i,i∈L->(qbp t i).name.length<=1000000000) :
  CA T 129 [qao t,qa8 L,.str W] zH (qce 0 1 ((qiu t L W).map qat)) ⟨1,[qcg 0 ((qiu t L W).map qat)]⟩:=by
 have hc:=zc7 (T:=T) hC (m:=3) (rows:=qz0 t W) (fn:=187) (cap:=[.ptr 2 0,.ptr 0 0,.ptr 1 0]) (fun x=>⟨by simp[qz0],fun e he=>by simp[qz0]at he;rcases he with rfl|rfl|rfl<;>exact⟨by simp,_,rfl,by simp[qa6,qa2]⟩⟩) L hL (by simp[qb8,qas,qcm]) (fun x i hi=>cut_pop hI t W i hW hl (hx i hi) x) false;rw[show (qlw (fun(b:Bool) _=>!b) (fun b i=>if b=true then true else qcy (qbp t i) W) false L.reverse).1.reverse=qiu t L W from rfl]at hc;generalize (qlw (fun(b:Bool) _=>!b) (fun b i=>if b=true then true else qcy (qbp t i) W) false L.reverse).2=b at hc;generalize qiu t L W=M at *;unfold qz0 at hc;refine qa1 (s0:=⟨[0,1,2,3,5,6,7],[qao t,qa8 L,.str W,uD,uD,uD,uD],[],11,⟨0,[[]]⟩⟩) Tryz.func129 rfl rfl rfl ?_;apply qR;simp[zS,qao];apply qR;simp[zS];repeat apply wq
 refine qb0 (qci [⟨186,_,_,_,_,hc⟩]) ?_;simp[zS,qdz];apply qa7;simp[zQ,Tryz.f129];exact qgy fun hne=>by rw[(qib hne).2];simp[zG]
theorem qme(x y:Tr × List Int × Str) (h:([qao x.1,qa8 x.2.1,.str x.2.2]:List AV)=[qao y.1,qa8 y.2.1,.str y.2.2]):x=y:=by simp only[jl,jJ,AV.str.injEq]at h;exact yv (qem h.1) (yv (qdu h.2.1) h.2.2)
def e129:Entry PG:=mkL 129 [[7],[1],[]] (fun x:Tr × List Int × Str=>[qao x.1,qa8 x.2.1,.str x.2.2]) (fun x=>qd9 x.2.2/\x.2.2.length<=1100000/\x.2.1.length<=1000000/\∀i,i∈x.2.1->(qbp x.1 i).name.length<=1000000000) (fun x=>qiu x.1 x.2.1 x.2.2)
 fun x h=>c129 (T:=[e78,e76]) rfl rfl x.1 x.2.1 x.2.2 h.1 h.2.1 h.2.2.1 h.2.2.2
theorem k129(hT:qIn 129 T e129) {t:Tr} {L:List Int} {W:Str} (hW:qd9 W) (hl:W.length<=1100000) (hL:L.length<=1000000) (hx:∀i,i∈L->(qbp t i).name.length<=1000000000) {a:AV} {H:Heap} (ha:qco H [7] a=some (qao t)) :
  qb5 (ctx T) (.fn 129) [a,qa8 L,.str W] H=some (qa8 (qiu t L W),H):=
 qj7 hT qme (t,L,W) ⟨hW,hl,hL,hx⟩ (by simp[qbl,ha,qam])
def qrx(t:Tr) (W:Str) (i:Int):Bool:=decide ((qbp t i).kind=1) && qf4 (qbp t i).space (qbp t i).name && !inW W (qbp t i).name
def qk0(t:Tr) (L:List Int) (W:Str):List Int:=(qlw (fun(_:Unit) i=>qrx t W i) (fun _ _=>()) () L.reverse).1.reverse
def qne(t:Tr) (W:Str) (_:Unit):List (Nat × Blk):=[(1,.cells [.str W]),(0,.cells [qb3 t])]
theorem cut_imp(hN:qIn 157 T e157) (hI:qIn 203 T e203) (hw:qac 133 T=some e133a.g) (t:Tr) (W:Str) (i:Int) (hW:qd9 W) (hl:W.length<=1100000) (hx:(qbp t i).name.length<=1000000000) (b:Unit) :
  CA T 202 (.int .i64 i::[.ptr 0 0,.ptr 1 0]) ⟨2,[[],qne t W b]⟩ (.bool (qrx t W i)) ⟨2,[[],qne t W ()]⟩:=by
 have kn:=fun H=>k157 hN t i H;have ki:=fun H=>k203 hI (qbp t i).space (qbp t i).name H;have kw:=fun H=>qv8 hw (x:=(qbp t i).name) hW hl hx H;have eg:qrx t W i=(decide ((qbp t i).kind=1) && qf4 (qbp t i).space (qbp t i).name && !inW W (qbp t i).name):=rfl;rw[eg];clear eg;generalize qf4 (qbp t i).space (qbp t i).name=b1 at *;generalize inW W (qbp t i).name=b2 at *;generalize qbp t i=n at *;simp only[qao]at kn;have fin:∀f n,(∀j,j < 2->getF j f=none)->FitH 2 (idn 2) [] ⟨n,[f,[],qne t W b]⟩ ⟨2,[[],qne t W b]⟩:=fun f n hf=>qkr (ja 2) (by simp[Heap.ents,qne]) (fun e he=>by simp[Heap.ents,qne]at he;rcases he with rfl|rfl<;>exact⟨by simp,qh9 (by simp[qa6,qa2]),by simp[zG,qne,hf]⟩) (ja 2);unfold qne at fin ⊢;refine qa1 (s0:=⟨[0,1,2,4,5],[.int .i64 i,.ptr 0 0,.ptr 1 0,uD,uD],[],26,⟨2,[]::[[],[(1,.cells [.str W]),(0,.cells [qb3 t])]]⟩⟩) Tryz.func202 rfl rfl rfl ?_
 exact zL1
@[simp]theorem szT170:qcj PG 170=some 1:=rfl
@[simp]theorem agT170:qh4 PG 170=some false:=rfl
@[simp]theorem byT170:qch PG 170=some 24:=rfl
@[simp]theorem alT170(H:Heap):alV PG H 170=some (.ptr H.n 0,H.new (.cells [.nilS])):=rfl
@[simp]theorem zeT170:qby PG 170=some (.nilS):=rfl
attribute [simp] Tryz.underlying170
@[simp 500]theorem rvF170(H:Heap) (cs:List AV) (o:Nat):qb2 PG H 170 (.fptr cs o)=qcb cs o:=rfl
@[simp 500]theorem rvP170(H:Heap) (b o:Nat):qb2 PG H 170 (.ptr b o)=(H.get b).bind fun k=>k.rd.bind fun cs=>qcb cs o:=rfl
@[simp]theorem slz170(sz:Nat) (e:AV) (r:List AV):qex PG .eql 170 (.fslc sz (e::r)) .nilS=some (.bool false):=rfl
@[simp]theorem sln170(sz:Nat) (e:AV) (r:List AV):qex PG .neq 170 (.fslc sz (e::r)) .nilS=some (.bool true):=rfl
@[simp]theorem slze170:qex PG .eql 170 .eslc .nilS=some (.bool false):=rfl
@[simp]theorem slzz170:qex PG .eql 170 .nilS .nilS=some (.bool true):=rfl
abbrev qlt(L:List Int):List AV:=qaa (L.map qat)
theorem qr2(L:List Int):(qlt L).length=L.length * 1:=by rw[qlt,qe8];simp
theorem qt6(L:List Int):qa6 (qlt L)=true:=(qca L).pure
theorem rwIi_app(A B:List Int):qlt (A++B)=qlt A++qlt B:=by simp only[qlt,j5,qbv]
def itZ:List AV:=[.int .i64 0]
def qfo(n:Nat):List AV:=replL itZ n
theorem qpc(n:Nat):(qfo n).length=n * 1:=qt8 n
theorem qju:∀(n:Nat),qa6 (qfo n)=true
 |0=>rfl
 |n+1=>by simp only[qfo,replL,qdr];have:=qju n;unfold qfo at this;rw[this];rfl
theorem que:∀(a b:Nat),qfo (a+b)=qfo a++qfo b
 |0,b=>by simp[qfo,replL]
 |a+1,b=>by have:=que a b;unfold qfo at this ⊢;rw[Nat.add_right_comm];simp only[replL,this,List.append_assoc]
@[simp]theorem blt_capIi{H:Heap}:qcl PG H .cap #[38] [.nilS]=some (.int .i64 0,H):=by simp[qcl]
theorem grow_Ii{H:Heap} {n:Nat} (h0:0 < n) (h:n<=1000000):qyj PG H 3 .nilS (.int .i64 (n:Int))=some (.slc H.n 0 n (.rest 1),H.new (.cells (qfo n))):=by
 obtain⟨q,rfl⟩ : ∃q,n=q+1:=⟨n - 1,by omega⟩;have h1:idx ((q+1:Nat):Int) 140737488355328=some (q+1):=qbn (by omega);obtain⟨by_,hby⟩ : ∃b,qch PG 3=some b:=⟨_,qk2⟩;have hb2:by_=8:=by rw[qk2]at hby;exact(yB hby).symm
 have h3:qdg (q+1) 8=true:=by unfold qdg;rw[jW];omega
 have hrow:∀cs,qpj PG 3 cs=.cells cs:=fun cs=>rfl;have hzz:qby PG 3=some (.int .i64 0):=qjw;unfold qyj;simp only[qhz,qk2,hzz,jc,h1,h3,hrow];rfl
theorem sl_nilIi{H:Heap}:qcq PG H 38 .nilS none (some (.int .i64 0)) none=some .nilS:=by simp[qcq,qqe,qdc];rfl
theorem c2170:CA T 217 [.nilS,.int .i64 0] zH .nilS zH:=by
 have hl:∀H,qf3 PG H 38 .nilS=some 0:=fun H=>by simp[qf3]
 have hw0:wr .i64 0=some 0:=qbi (by omega) (by omega);refine qa1 (s0:=⟨[0,1,4],[.nilS,.int .i64 0,uD],[],27,⟨0,[[]]⟩⟩) Tryz.func217 rfl rfl rfl ?_;apply qR;simp[zS];apply qR;simp[zS];apply qaj rfl;apply qa5;simp;apply qR;simp[zS,hl,hw0];apply qR;simp[zS];apply qaj rfl;apply qa5;simp;apply qR;simp[zS];apply qa7;simp[zQ,Tryz.f217];exact qai rfl rfl
theorem c217{n:Nat} (h0:0 < n) (h:n<=1000000):CA T 217 [.nilS,.int .i64 (n:Int)] zH (.slc 0 0 0 (.rest 1)) ⟨1,[[(0,.cells (qfo n))]]⟩:=by
 have hg:=fun H=>grow_Ii (H:=H) h0 h;have hp:(0:Int) < (n:Int):=by omega
 have hn:¬ (n:Int) < 0:=by omega
 have hw:wr .i64 (n:Int)=some (n:Int):=qbi (by omega) (by omega);have hl:∀H,qf3 PG H 38 .nilS=some 0:=fun H=>by simp[qf3]
 have hb:Heap.get ⟨1,[[(0,.cells (qfo n))]]⟩ 0=some (.cells (qfo n)):=rfl;have hsl:=qr0 (P:=PG) (H:=⟨1,[[(0,.cells (qfo n))]]⟩) (t:=38) (b:=0) (len:=n) (i:=0) (cs:=qfo n) Tryz.underlying38 qhz (by omega) hb (qpc n) (by omega) h0;simp only[Int.natCast_zero,Int.ofNat_zero,Int.cast_ofNat_Int]at hsl;refine qa1 (s0:=⟨[0,1,4],[.nilS,.int .i64 (n:Int),uD],[],27,⟨0,[[]]⟩⟩) Tryz.func217 rfl rfl rfl ?_;apply qR;simp[zS];apply qR;simp[zS,hn];refine qaj (by simp[qc5,St.get,hn]) ?_;apply qa5;simp;have hw0:wr .i64 0=some 0:=qbi (by omega) (by omega);apply qR;simp[zS,hl,hw,hw0];apply qR;simp[zS,hp];refine qag (by simp[qc5,St.get,h0]) ?_;apply qR;simp[zS,sl_nilIi,hg,hl,hsl];apply qR;simp[zS];apply qa7;simp[zQ,Tryz.f217];exact⟨[(0,0)],[],by simp[qas,qaw],FitH.keep1 (b:=0) (by simp[zG]) (qju n) rfl⟩
def qpe(LL:List (List Int)):AV:=.fslc 1 (LL.map qa8)
@[simp]theorem pure_aIIi(LL:List (List Int)):qa2 (qpe LL)=true:=by simp[qpe,qa2]
theorem atIIi{LL:List (List Int)} {i:Nat} (h:i < LL.length):qaq PG 170 (qpe LL) (.int .i64 (i:Int))=some (.fptr [qa8 LL[i]] 0):=by simp[qaq,qpe,qbn h,qge h,AV.cells]
theorem zb0{H:Heap} {LL:List (List Int)}:qf3 PG H 170 (qpe LL)=some LL.length:=by simp[qf3,qpe]
theorem qy6{H:Heap} {b:Nat} {L:List Int}:H.ready b (qlt L)=H:=by have:(qlt L).flatMap (refs 6)=[]:=qe2 _ _ (qt6 L);unfold Heap.ready;rw[this]
theorem qyx{m b k:Nat} {A B:List Int} {g:List (Nat × Blk)} {fs:List (List (Nat × Blk))} (hk:B.length<=k) (hr:A.length+B.length<=1000000) :
  qbs PG ⟨m,((b,.cells (qlt A++qfo k))::g)::fs⟩ 3 (.slc b 0 A.length (.rest 1)) (qa8 B)=some (.slc b 0 (A.length+B.length) (.rest 1),⟨m,((b,.cells (qlt (A++B)++qfo (k - B.length)))::g)::fs⟩):=by
 have hg:Heap.get ⟨m,((b,.cells (qlt A++qfo k))::g)::fs⟩ b=some (.cells (qlt A++qfo k)):=by simp[zG]
 have hkn:qbx ⟨m,((b,.cells (qlt A++qfo k))::g)::fs⟩ b=some (A.length * 1+k * 1):=by rw[qbx,hg];simp only[jc,qgd,js,qr2,qpc]
 have hroom:qdg (A.length+B.length) 8=true:=by unfold qdg;rw[jW];omega
 have hsrc:∀H,qbj H 1 B.length (qa8 B)=some (qlt B):=fun H=>by simp[qbj,ju]
 have hsing:allSingle (qlt B)=true:=qfq B;have hble:Nat.ble (0+(A.length+B.length) * 1) (A.length * 1+k * 1)=true:=by rw[jW];omega
 have hsplit:qfo k=qfo B.length++qfo (k - B.length):=by rw[<- que];congr 1;omega
 have hlay:qiz (qlt B) (0+A.length * 1) (qlt A++qfo k)=some (qlt (A++B)++qfo (k - B.length)):=by have:=qfz (a:=qlt A) (b:=qfo B.length) (b':=qlt B) (c:=qfo (k - B.length)) (by rw[qpc,qr2]);rw[qr2]at this;rw[hsplit,<- List.append_assoc,show 0+A.length * 1=A.length * 1 by omega,this,rwIi_app]
 have hzz:qby PG 3=some (.int .i64 0):=qjw;unfold qbs;simp only[qhz,qk2,hzz,jc,qd5,jD,hsrc,hroom,hsing,hkn,hble];simp only[writeCells,hg,jc,Blk.wt,hlay,qy6,Blk.re];simp[Heap.set,setFs,setF];rfl
def qn5(LL:List (List Int)) (i:Nat):Nat:=(LL.take i).flatten.length
theorem sumIi_at{LL:List (List Int)} {i:Nat} (h:i < LL.length):qn5 LL (i+1)=qn5 LL i+LL[i].length:=by unfold qn5;rw[jj h,List.flatten_append];simp
theorem qw2{LL:List (List Int)} {i:Nat}:qn5 LL i<=LL.flatten.length:=by
 unfold qn5;have:LL.flatten=(LL.take i).flatten++(LL.drop i).flatten:=by rw[<- List.flatten_append,List.take_append_drop]
 rw[this,js];omega
theorem c196(LL:List (List Int)) (hmx:LL.flatten.length<=1000000) (hl:LL.length<=1000):CA T 196 [qpe LL] zH (qce 0 1 (LL.flatten.map qat)) ⟨1,[qcg 0 (LL.flatten.map qat)]⟩:=by
 obtain⟨M,hM⟩ : ∃M,M=LL.flatten:=⟨_,rfl⟩;rw[<- hM];refine qa1 (s0:=⟨[0,2,3,5,6,8,9,10,11,25,26,27],[qpe LL,uD,uD,uD,uD,uD,uD,uD,uD,uD,uD,uD],[],36,⟨0,[[]]⟩⟩) Tryz.func196 rfl rfl rfl ?_;apply qR;simp[zS];apply qR;simp[zS];apply qR;simp[zS,zb0];refine qa3 (qb6 (fun i:Nat=>(⟨[0,2,3,5,6,8,9,10,11,25,26,27],[qpe LL,uD,.int .i64 (qn5 LL i:Nat),uD,uD,uD,qpe LL,.int .i64 (LL.length:Nat),.int .i64 i,uD,uD,uD],[],36,⟨0,[[]]⟩⟩ : St))
  (fun i=>i<=LL.length) (fun i=>LL.length - i) [] [] 0 (jx _) ⟨rfl,rfl,rfl,by simp[qb8,qas,qa2,qa6,qpe,qn5],FitH.nothing⟩ ?_)
 rintro i hi B hB;apply qR;simp[zS];repeat apply wq
 refine qbe rfl (fun h=>?_) fun h=>?_
 ·simp at h;apply qa5;simp;repeat apply wq
  apply qa3;have hs:=sumIi_at h;have hle:=qw2 (LL:=LL) (i:=i+1);have hadd:wr .i64 ((qn5 LL i:Int)+(LL[i].length:Int))=some (qn5 LL (i+1):Int):=by rw[qbi (by omega) (by omega),hs];simp
  have hneg:¬ ((qn5 LL (i+1):Nat):Int) < 0:=by omega
  apply qR;simp[zS,atIIi h];apply qR;simp[zS,qgi,hadd];apply qR;simp[zS,hneg];refine qaj (by simp[qc5,St.get,hneg]) ?_;apply qa5;simp;apply qR;simp[zS,qbb (show i<=1000000000 by omega)];exact hB _ (i+1) (by omega) (by omega) ⟨[],[],⟨rfl,rfl,rfl,by simp[qb8,qas,qa2,qa6,qpe],FitH.nothing⟩⟩
 ·simp at h;have hie:i=LL.length:=by omega
  subst hie;apply qak;simp;have he:qn5 LL LL.length=LL.flatten.length:=by simp[qn5]
  obtain⟨F,hF⟩ : ∃F:Nat->List Int,F=fun i=>(LL.take i).flatten:=⟨_,rfl⟩;have hF0:F 0=[]:=by rw[hF];simp
  have hFn:F LL.length=LL.flatten:=by rw[hF];simp
  have hFs:∀(i:Nat) (h:i < LL.length),F (i+1)=F i++LL[i]:=fun i h=>by rw[hF];show (LL.take (i+1)).flatten=_;rw[jj h,List.flatten_append];simp
  have hFl:∀i,(F i).length<=LL.flatten.length:=fun i=>by rw[hF];exact qw2
  rw[he];by_cases h0:LL.flatten.length=0
  ·have hgr:=(c2170 (T:=T)).lift (by simp[qa6,qa2]) ⟨0,[[]]⟩;have hfl:LL.flatten=[]:=Jf h0;have hLi:∀(i:Nat) (h:i < LL.length),LL[i]=[]:=fun i h=>(by have:=hFs i h;have hl1:=hFl (i+1);rw[this,js]at hl1;exact Jf (by omega));rw[h0,hM,hfl];try simp only[Int.natCast_zero,Int.ofNat_zero,Int.cast_ofNat_Int]
   repeat apply wq
   refine qb0 (qci [⟨217,_,_,_,_,hgr⟩]) ?_;simp[zS,qdz];apply qR;simp[zS,zb0];refine qa3 (qb6 (fun i:Nat=>(⟨[0,2,3,5,6,8,9,10,11,25,26,27],[uD,uD,uD,uD,.nilS,uD,uD,uD,uD,qpe LL,.int .i64 (LL.length:Nat),.int .i64 i],[],36,⟨0,[[]]⟩⟩ : St))
    (fun i=>i<=LL.length) (fun i=>LL.length - i) [] [] 0 (jx _) ⟨rfl,rfl,rfl,by simp[qb8,qas,qa2,qa6,qpe],FitH.nothing⟩ ?_)
   rintro i hi B hB;apply qR;simp[zS];repeat apply wq
   refine qbe rfl (fun h=>?_) fun h=>?_
   ·simp at h;apply qa5;simp;repeat apply wq
    apply qa3;have happ:∀H,qbs PG H 3 .nilS (qa8 [])=some (.nilS,H):=fun H=>rfl;have hat:=atIIi h;rw[hLi i h]at hat;simp only[qa8,jP]at happ hat;apply qR;simp[zS,hat];apply qR;simp[zS,happ];apply qR;simp[zS,qbb (show i<=1000000000 by omega)];exact hB _ (i+1) (by omega) (by omega) ⟨[],[],⟨rfl,rfl,rfl,by simp[qb8,qas,qa2,qa6,qpe],FitH.nothing⟩⟩
   ·simp at h;have hie:i=LL.length:=(by omega);subst hie;apply qak;simp;apply qR;simp[zS];apply qa7;simp[zQ,Tryz.f196];exact qgy (b:=0) (L:=[]) fun hne=>absurd rfl hne
  ·have h0:0 < LL.flatten.length:=(by omega);have hgr:=(c217 (T:=T) h0 hmx).new (by simp[qa6,qa2]) (qju _) ⟨0,[[]]⟩;obtain⟨n,hn⟩ : ∃n,n=LL.flatten.length:=⟨_,rfl⟩;have hFn2:(F LL.length).length=n:=(by rw[hFn,hn]);rw[<- hn]at hgr h0 hmx hFl ⊢;rw[hM,<- hFn];repeat apply wq
   refine qb0 (qci [⟨217,_,_,_,_,hgr⟩]) ?_;simp[zS,qdz];apply qR;simp[zS,zb0];have pr:∀i k,qa6 (qlt (F i)++qfo k)=true:=fun i k=>(by rw[qdr,qt6,qju];rfl);refine qa3 (qb6 (fun i:Nat=>(⟨[0,2,3,5,6,8,9,10,11,25,26,27],[uD,uD,uD,uD,.slc 0 0 (F i).length (.rest 1),uD,uD,uD,uD,qpe LL,.int .i64 (LL.length:Nat),.int .i64 i],[],36,⟨1,[[(0,.cells (qlt (F i)++qfo (n - (F i).length)))]]⟩⟩ : St))
    (fun i=>i<=LL.length) (fun i=>LL.length - i) [(0,0)] [] 0 (jx _)
    ⟨rfl,rfl,rfl,by simp[qb8,qas,qaw,qa2,qpe,hF0],.keep1 (by rw[hF0];simp[zG,qlt,qaa]) (pr 0 _) rfl⟩ ?_)
   rintro i hi B hB;apply qR;simp[zS];repeat apply wq
   refine qbe rfl (fun h=>?_) fun h=>?_
   ·simp at h;apply qa5;simp;repeat apply wq
    apply qa3;have hs:=hFs i h;have hle:=hFl (i+1);have hs2:(F (i+1)).length=(F i).length+LL[i].length:=(by rw[hs,js]);have happ:=fun g fs=>qyx (m:=1) (b:=0) (k:=n - (F i).length) (A:=F i) (B:=LL[i]) (g:=g) (fs:=fs) (by omega) (by omega);have hk:n - (F i).length - LL[i].length=n - (F (i+1)).length:=(by rw[hs2];omega);simp only[<- hs,<- hs2,hk]at happ;apply qR;simp[zS,atIIi h];apply qR;simp[zS,happ];apply qR;simp[zS,qbb (show i<=1000000000 by omega)];exact hB _ (i+1) (by omega) (by omega) ⟨[(0,0)],[],rfl,rfl,rfl,by simp[qb8,qas,qaw,qa2,qpe],.keep1 (by simp[zG]) (pr _ _) rfl⟩
   ·simp at h;have hie:i=LL.length:=(by omega);subst hie;have hz:qlt (F LL.length)++qfo (n - (F LL.length).length)=qlt (F LL.length):=(by rw[hFn2,Jg];simp[qfo,replL]);rw[hz];generalize F LL.length=G at *;apply qak;simp;apply qR;simp[zS];apply qa7;simp[zQ,Tryz.f196];have hGne:G≠[]:=fun e=>(by rw[e]at hFn2;simp at hFn2;omega);have:=qgy (L:=G) (b:=0) (H:=⟨1,[[(0,.cells (qlt G))]]⟩) fun hne=>(by simp[zG,qlt,qe8]);rw[(qib (k:=0) hGne).1]at this ⊢;exact this
def e196:Entry PG:=mkL 196 [[1]] (fun x:List (List Int)=>[qpe x]) (fun x=>x.flatten.length<=1000000/\x.length<=1000) (fun x=>x.flatten) fun x h=>c196 (T:=[]) x h.1 h.2
theorem inj_aIIi(x y:List (List Int)) (h:[qpe x]=[qpe y]):x=y:=by
 simp only[qpe,jl,AV.fslc.injEq,jJ,yc]at h;have:∀x y:List (List Int),x.map qa8=y.map qa8->x=y:=by
  intro x;induction x with
  |nil=>intro y h;cases y with
   |nil=>rfl
   |cons a r=>cases h
  |cons a r ih=>intro y h;cases y with
   |nil=>cases h
   |cons b q=>simp only[List.map_cons,jl]at h;rw[qdu h.1,ih q h.2]
 exact this x y h
theorem k196(hT:qIn 196 T e196) {LL:List (List Int)} (hl:LL.flatten.length<=1000000) (hn:LL.length<=1000) {a:AV} {H:Heap} (ha:qco H [1] a=some (qpe LL)) :
  qb5 (ctx T) (.fn 196) [a] H=some (qa8 LL.flatten,H):=
 qj7 hT inj_aIIi LL ⟨hl,hn⟩ (by simp[qbl,ha])
theorem putN0(hT:qIn 144 T e144) {s:SS} (ne:s.tree≠[]) (up at_ kd:Int) (x:Str) (ok:SOk s) {n k:Nat} {fr:List (Nat × Blk)} (k0:0 < k) (kn:k < n) (of:qg5 k fr) :
  qb5 (ctx T) (.fn 144) [.ptr 0 0,.int .i64 up,.int .i64 at_,.agg [.int .i64 kd,.int .i64 0,.str [],.nilS,.str x,.int .i64 0,.nilS]] ⟨n,[fr,VS k s]⟩=some (.int .i64 (s.tree.length:Int),⟨n+1,[fr,VS n { s with tree:=qm8 s.tree up at_ ⟨kd,0,[],[],x,0,[]⟩ }]⟩):=
 qcr hT zbg (up,at_,⟨kd,0,[],[],x,0,[]⟩) ne ⟨ok,by simp⟩ (by simp[qa6,qa2]) (by simp[qbl,qco,qk9,qiy,okV,qa9,Nd.cs,qat,qae,qa8,qa2,qa6]) k0 kn of
def ntT(t:Tr) (up:Int) (data:Str):Tr:=qm8 t up ((qa0 t up).kids.length:Int) ⟨3,0,[],[],data,0,[]⟩
def ntP(s:SS) (up:Int):Int:=if isB s.tree up=true then up else whP s.tree (qdw s.opn)
theorem c84(hc0:qIn 44 T e44) (hc1:qIn 137 T e137) (hc2:qIn 162 T e162) (hc3:qIn 144 T e144) {s:SS} (ne:s.tree≠[]) (data:Str) (up:Int) (hf:s.foster=false) (ok:SOk s):SC T 84 [.str data,.int .i64 up] s (.tup []) ({ s with tree:=ntT s.tree (ntP s up) data }):=by
 have kc0:=@k44 T hc0;have kc1:=@k137 T hc1;have kc2:=@k162 T hc2;have g0:=@vg0;have v0:=@vset;have kT:=fun H=>kc0 (L:=s.opn) (by have:=ok.op;omega) H;have bld:qe6 PG 65 [(0,.int .i64 3),(4,.str data)]=some (.agg [.int .i64 3,.int .i64 0,.str [],.nilS,.str data,.int .i64 0,.nilS]):=rfl;have kP:=fun up at_ n k fr=>@putN0 T hc3 s ne up at_ 3 data ok n k fr;have ln:=fun H k=>lenN' (k:=k) (t:=s.tree) H;have hw:ntP s up=if 0<=up/\up < (s.tree.length:Int) then up else whP s.tree (qdw s.opn):=by unfold ntP isB;simp only[jf,yk]
 refine qa1 (s0:=⟨[0,1,2,6],[.ptr 0 0,.str data,.int .i64 up,uD],[],41,⟨2,[]::[VS 1 s]⟩⟩) Tryz.func84 rfl rfl rfl ?_
 (repeat' (first
  |with_reducible apply qad
  |(with_reducible apply rE;simp[zS, *,SS.post,whV,ln];exact rfl)
  |(with_reducible apply qaf;simp only[qab,qa4])
  |(with_reducible refine qdd (fun hc=>?_) (fun hc=>?_)<;>(have hd:=hc;(try simp at hd);(try subst hd);apply qpn;simp[zS, *,SS.post,whV,ln];exact rfl))
  |apply qaj rfl
  |(refine qbe rfl (fun hc=>?_) (fun hc=>?_)<;>(have hd:=hc;(try simp at hd);(try subst hd)))))
 all_goals first|((try simp[zQ,Tryz.f84]);exact qc8 (by rfl) (by simp only[hw,ntT,hf];split<;>first|rfl|(exfalso;omega)) (by simp[qa2,qa6]) (by decide) (qdi _ _ _ _) rfl rfl)|(exfalso;omega)
theorem inj_84(x y:Str × Int) (h:(fun z:Str × Int=>([.str z.1,.int .i64 z.2]:List AV)) x=(fun z:Str × Int=>([.str z.1,.int .i64 z.2]:List AV)) y):x=y:=by obtain⟨x0,x1⟩:=x;obtain⟨y0,y1⟩:=y;simp only[jl,jJ]at h;obtain⟨h0,h1⟩:=h;have g0:x0=y0:=AV.str.inj h0;have g1:x1=y1:=AV.int.inj h1 |>.2;subst g0 g1;rfl
def e84:Entry PG:=mkS 84 [[],[]] (fun z:Str × Int=>[.str z.1,.int .i64 z.2]) (fun z s=>(s.foster=false)/\(SOk s)) (fun z s=>.tup []) (fun z s=>{ s with tree:=ntT s.tree (ntP s z.2) z.1 }) fun z s ne h=>⟨c84 (T:=[e44,e137,e162,e144]) rfl rfl rfl rfl ne z.1 z.2 h.1 h.2,by simp[qa6,qa2],by simp[qa2,qa6],qdi _ _ _ _⟩
theorem k84(hT:qIn 84 T e84) {s:SS} (ne:s.tree≠[]) (data:Str) (up:Int) (hf:s.foster=false) (ok:SOk s) {n k:Nat} {fr:List (Nat × Blk)} (k0:0 < k) (kn:k < n) (of:qg5 k fr):qb5 (ctx T) (.fn 84) [.ptr 0 0,.str data,.int .i64 up] ⟨n,[fr,VS k s]⟩=some (.tup [],⟨n+1,[fr,VS n ({ s with tree:=ntT s.tree (ntP s up) data })]⟩):=
 qcr hT inj_84 (data,up) ne ⟨hf,ok⟩ (by simp[qa6,qa2]) (by simp[qbl,qam]) k0 kn of
def qhl(t:Tr) (i:Nat) (s:Str):Tr:=t.take i++{ qa0 t i with data:=s }::t.drop (i+1)
theorem qr1(t:Tr) (i:Nat) (s:Str):qhl t i s≠[]:=by simp[qhl]
theorem qo4{t:Tr} {i:Nat} (h:i < t.length) (s:Str):(qhl t i s).length=t.length:=by simp[qhl];omega
theorem lay_dt{t:Tr} {i:Nat} (h:i < t.length) (x:Str):qiz [.str x] (i * 7+4) (qaa (t.map qa9))=some (qaa ((qhl t i x).map qa9)):=by
 have hl:(qaa ((t.take i).map qa9)).length=i * 7:=by rw[(qbg _).len];simp;omega
 have e1:qaa (t.map qa9)=(qaa ((t.take i).map qa9)++[qat (qa0 t i).kind,qat (qa0 t i).space,.str (qa0 t i).name,qae (qa0 t i).attrs])++[.str (qa0 t i).data]++([qat (qa0 t i).up,qa8 (qa0 t i).kids]++qaa ((t.drop (i+1)).map qa9)):=by
  conv=>lhs;rw[qh5 h]
  simp[qbv,qaa,Nd.cs]
 have e2:qaa ((qhl t i x).map qa9)=(qaa ((t.take i).map qa9)++[qat (qa0 t i).kind,qat (qa0 t i).space,.str (qa0 t i).name,qae (qa0 t i).attrs])++[.str x]++([qat (qa0 t i).up,qa8 (qa0 t i).kids]++qaa ((t.drop (i+1)).map qa9)):=by unfold qhl;simp[qbv,qaa,Nd.cs]
 rw[e1,e2];have:=qfz (a:=qaa ((t.take i).map qa9)++[qat (qa0 t i).kind,qat (qa0 t i).space,.str (qa0 t i).name,qae (qa0 t i).attrs]) (b:=[.str (qa0 t i).data]) (b':=[.str x]) (c:=[qat (qa0 t i).up,qa8 (qa0 t i).kids]++qaa ((t.drop (i+1)).map qa9)) rfl;rw[js,hl]at this;exact this
theorem set_k{s:SS} {k:Nat} {t:Tr} (k0:0 < k) (ne:s.tree≠[]) (hl:t.length=s.tree.length):setF k (.cells (qaa (t.map qa9))) (VS k s)=some (VS k { s with tree:=t }):=by
 have ne':t≠[]:=by intro e;rw[e]at hl;exact ne (jO.1 hl.symm)
 rw[qdv ne,qdv (by exact ne')];have b1:Nat.beq 0 k=false:=qax (by omega);simp[setF,b1,hl,SS.post]
def chN(t:Tr) (u:Int) (x:Str):Tr:=qm8 t u ((qa0 t u).kids.length:Int) ⟨2,0,[],[],x,0,[]⟩
def chT(t:Tr) (top:Int) (x:Str):Tr:=
 if x=[]\/whP t top=0 then t else match (qa0 t (whP t top)).kids.getLast? with
  |some k=>if (qa0 t k).kind=2 then qhl t k.toNat ((qa0 t k).data++x) else chN t (whP t top) x
  |none=>chN t (whP t top) x
theorem zcc{t:Tr} (ne:t≠[]) (top:Int) (x:Str):chT t top x≠[]:=by
 unfold chT;split
 ·exact ne
 ·split
  ·split
   ·exact qr1 _ _ _
   ·exact qdi _ _ _ _
  ·exact qdi _ _ _ _
structure KOk (t:Tr):Prop where
 kr:∀n,n∈t->∀k,k∈n.kids->0<=k/\k < (t.length:Int)
 dl:∀n,n∈t->n.data.length<=1000000000
theorem zL2{p:Prop}(h:p:=by
 (repeat' (first
  |with_reducible apply qad
  |(with_reducible apply rE;simp[zS, *,SS.post,Nd.cs,qat];exact rfl)
  |(with_reducible apply qaf;simp only[qab,qa4])
  |(refine qal mixed qaz (by decide +kernel) (by decide +kernel) rfl ?_;apply qdm;simp[zS,zW,qb4,qbc,qar,Heap.lay,qap, *,SS.post,Nd.cs,qat];exact rfl)
  |(with_reducible apply qav;refine⟨by repeat first|exact qc6|refine qc7 (by decide +kernel) ?_,?_⟩;simp only[qab,qa4,allPend,Heap.lay,qap])
  |apply qag rfl
  |apply qaj rfl
  |(with_reducible apply qa5;simp only[qab,qa4])
  |((with_reducible apply qa7);show _∧∃vs,retVal _ _ []=some vs∧_;simp[zQ])))
 all_goals first
  |((try simp[zQ]);refine qc8 rfl ?_ rfl ?_ (qr1 _ _ _) rfl rfl;all_goals first|(first|rfl|(simp[hf];done)|(simp[*];done))|(decide;done))
  |((try simp[zQ]);refine qc8 rfl ?_ rfl ?_ (qdi _ _ _ _) rfl rfl;all_goals first|(first|rfl|(simp[hf];done)|(simp[*];done))|(decide;done))
  |(exfalso;omega)):p:=h
theorem c54(hc0:qIn 44 T e44) (hc1:qIn 137 T e137) (hc2:qIn 144 T e144) {s:SS} (ne:s.tree≠[]) (x:Str) (hf:s.foster=false) (ok:SOk s) (kk:KOk s.tree) (hx:x.length<=1000000000):SC T 54 [.str x] s (.tup []) ({ s with tree:=chT s.tree (qdw s.opn) x }):=by
 have kc0:=@k44 T hc0;have kc1:=@k137 T hc1;have g0:=@vg0;have v0:=@vset;have kT:=fun H=>kc0 (L:=s.opn) (by have:=ok.op;omega) H;have bld:qe6 PG 65 [(0,.int .i64 2),(4,.str x)]=some (.agg [.int .i64 2,.int .i64 0,.str [],.nilS,.str x,.int .i64 0,.nilS]):=rfl;have kP:=fun up at_ n k fr=>@putN0 T hc2 s ne up at_ 2 x ok n k fr;clear kc0;obtain⟨u,hu,hul⟩:=qut ne (qdw s.opn);obtain⟨K,hK⟩ : ∃K,K=(qa0 s.tree (u:Int)).kids:=⟨_,rfl⟩;have kr:∀k,k∈K->0<=k/\k < (s.tree.length:Int):=fun k hk=>kk.kr _ (qdo (by omega) (by omega)) k (hK ▸ hk);have hwv:whV s.tree (u:Int)=.tup [.int .i64 (u:Int),.int .i64 (K.length:Int)]:=by rw[hK];rfl
 have hKl:K.length<=100000:=hK ▸ ok.kd _ (qdo (by omega) (by omega));by_cases h1:x=[]
 ·have e:chT s.tree (qdw s.opn) x=s.tree:=by unfold chT;rw[jo (.inl h1)]
  rw[e];refine qa1 (s0:=⟨[0,1,4,5,6],[.ptr 0 0,.str x,uD,uD,uD],[],63,⟨2,[]::[VS 1 s]⟩⟩) Tryz.func54 rfl rfl rfl ?_
  exact zL0
 ·by_cases h0:u=0
  ·have e:chT s.tree (qdw s.opn) x=s.tree:=(by unfold chT;rw[jo (.inr (by rw[hu,h0];rfl))]);rw[e];subst h0;rw[show (((0:Nat)):Int)=0 from rfl]at hwv;refine qa1 (s0:=⟨[0,1,4,5,6],[.ptr 0 0,.str x,uD,uD,uD],[],63,⟨2,[]::[VS 1 s]⟩⟩) Tryz.func54 rfl rfl rfl ?_
   exact zL0
  ·have h0':¬ ((u:Int)=0):=(by omega);have e:chT s.tree (qdw s.opn) x=match K.getLast? with
     |some k=>if (qa0 s.tree k).kind=2 then qhl s.tree k.toNat ((qa0 s.tree k).data++x) else chN s.tree (u:Int) x
     |none=>chN s.tree (u:Int) x:=by unfold chT;rw[jm (by rw[hu];exact fun h=>h.elim h1 h0'),hu,<- hK]
   rw[e];clear e;rcases List.eq_nil_or_concat K with hn|⟨K0,k,hc⟩
   ·rw[hn];simp only[List.getLast?_nil];have e2:chN s.tree (u:Int) x=qm8 s.tree (u:Int) (0:Nat) ⟨2,0,[],[],x,0,[]⟩:=(by unfold chN;rw[<- hK,hn];rfl);rw[e2];subst hn;clear e2 hK kr;refine qa1 (s0:=⟨[0,1,4,5,6],[.ptr 0 0,.str x,uD,uD,uD],[],63,⟨2,[]::[VS 1 s]⟩⟩) Tryz.func54 rfl rfl rfl ?_
    exact zL0
   ·rw[List.concat_eq_append]at hc;obtain⟨kn,rfl⟩ : ∃kn:Nat,k=(kn:Int):=⟨k.toNat,by have:=(kr k (by rw[hc];simp)).1;omega⟩;have hkn:kn < s.tree.length:=(by have:=(kr (kn:Int) (by rw[hc];simp)).2;omega);rw[hc];simp only[List.getLast?_append,List.getLast?_singleton,Option.some_or];have hlen:K.length=K0.length+1:=(by rw[hc];simp);have hw:wr .i64 ((K0.length:Int)+1 - 1)=some (K0.length:Int):=by
     have:=qi0 (q:=K0.length) (by omega)
     rwa [show (((K0.length+1:Nat):Int) - 1)=(K0.length:Int)+1 - 1 by omega]at this
    have hw2:wr .i64 (K0.length:Int)=some (K0.length:Int):=(by rwa [Int.add_sub_cancel]at hw);have hat:qaq PG 38 (qa8 K) (.int .i64 (K0.length:Int))=some (.fptr [.int .i64 (kn:Int)] 0):=(by rw[atI (by omega)];simp[hc]);have lK:∀H,qf3 PG H 38 (qa8 K)=some (K0.length+1):=fun H=>(by rw[qgi,hlen]);have hpos:(0:Int) < (K0.length:Int)+1:=(by omega);have gk:=fun k=>vgk (k:=k) (s:=s);have ix:=fun k=>ixN (k:=k) hul;have gN:=getN (c:=6) hul (by omega);rw[show (qa0 s.tree (u:Int)).cs=[qat (qa0 s.tree (u:Int)).kind,qat (qa0 s.tree (u:Int)).space,.str (qa0 s.tree (u:Int)).name,qae (qa0 s.tree (u:Int)).attrs,.str (qa0 s.tree (u:Int)).data,qat (qa0 s.tree (u:Int)).up,qa8 K] by rw[hK];rfl]at gN;have ix2:=fun k=>ixN (k:=k) hkn;have gN0:=getN (c:=0) hkn (by omega);rw[yD]at gN0;have gN4:=getN (c:=4) hkn (by omega);have hcat:=zcf (x:=(qa0 s.tree (kn:Int)).data) (y:=x) (by have:=kk.dl _ (qdo (t:=s.tree) (i:=(kn:Int)) (by omega) (by omega));omega);have hld:=lay_dt hkn ((qa0 s.tree (kn:Int)).data++x);have hsk:=fun k k0=>@set_k s k (qhl s.tree kn ((qa0 s.tree (kn:Int)).data++x)) k0 ne (qo4 hkn _);have hwv':whV s.tree (u:Int)=.tup [.int .i64 (u:Int),.int .i64 ((K0.length:Int)+1)]:=(by rw[hwv,hlen];rfl);clear hwv;by_cases h2:(qa0 s.tree (kn:Int)).kind=2
    ·rw[jo h2];have e3:(kn:Int).toNat=kn:=(by simp);rw[e3];clear e3 hK hc kr hlen;refine qa1 (s0:=⟨[0,1,4,5,6],[.ptr 0 0,.str x,uD,uD,uD],[],63,⟨2,[]::[VS 1 s]⟩⟩) Tryz.func54 rfl rfl rfl ?_
     exact zL2
    ·rw[jm h2];have e2:chN s.tree (u:Int) x=qm8 s.tree (u:Int) ((K0.length:Int)+1) ⟨2,0,[],[],x,0,[]⟩:=(by unfold chN;rw[<- hK,hlen];rfl);rw[e2];clear e2 hK hc kr hlen;refine qa1 (s0:=⟨[0,1,4,5,6],[.ptr 0 0,.str x,uD,uD,uD],[],63,⟨2,[]::[VS 1 s]⟩⟩) Tryz.func54 rfl rfl rfl ?_
     exact zL2
theorem inj_54(x y:Str) (h:(fun z:Str=>([.str z]:List AV)) x=(fun z:Str=>([.str z]:List AV)) y):x=y:=by simp only[jl,jJ]at h;exact AV.str.inj h
def e54:Entry PG:=mkS 54 [[]] (fun z:Str=>[.str z]) (fun z s=>(s.foster=false)/\(SOk s)/\(KOk s.tree)/\(z.length<=1000000000)) (fun z s=>.tup []) (fun z s=>{ s with tree:=chT s.tree (qdw s.opn) z }) fun z s ne h=>⟨c54 (T:=[e44,e137,e144]) rfl rfl rfl ne z h.1 h.2.1 h.2.2.1 h.2.2.2,by simp[qa6,qa2],by simp[qa2,qa6],zcc ne _ _⟩
theorem k54(hT:qIn 54 T e54) {s:SS} (ne:s.tree≠[]) (x:Str) (hf:s.foster=false) (ok:SOk s) (kk:KOk s.tree) (hx:x.length<=1000000000) {n k:Nat} {fr:List (Nat × Blk)} (k0:0 < k) (kn:k < n) (of:qg5 k fr):qb5 (ctx T) (.fn 54) [.ptr 0 0,.str x] ⟨n,[fr,VS k s]⟩=some (.tup [],⟨n+1,[fr,VS n ({ s with tree:=chT s.tree (qdw s.opn) x })]⟩):=
 qcr hT inj_54 (x) ne ⟨hf,ok,kk,hx⟩ (by simp[qa6,qa2]) (by simp[qbl,qam]) k0 kn of
def qrd(t:Tr):Prop:=∀i,(qbp t i).name.length<=1000000000
theorem c42(hc0:qIn 44 T e44) (hc1:qIn 76 T e76) {s:SS} (ne:s.tree≠[]) (W:Str) (hW:qd9 W) (hl:W.length<=1100000) (hn:qrd s.tree) (ho:s.opn.length<=100000):SC T 42 [.str W] s (.bool (qcy (qbp s.tree (qdw s.opn)) W)) (s):=by
 have kc0:=@k44 T hc0;have g0:=@vg0;have v0:=@vset;have kT:=fun H=>kc0 (L:=s.opn) (by omega) H;have kI:=fun n k f (k0:0 < k) (hf:getF k f=none)=>q76 hc1 (thS (n:=n) k0 ne hf) (qdw s.opn) hW hl (hn _);refine qa1 (s0:=⟨[0,1,4],[.ptr 0 0,.str W,uD],[],16,⟨2,[]::[VS 1 s]⟩⟩) Tryz.func42 rfl rfl rfl ?_
 exact zL0
def e42:Entry PG:=mkS 42 [[]] (fun z:Str=>[.str z]) (fun z s=>(qd9 z)/\(z.length<=1100000)/\(qrd s.tree)/\(s.opn.length<=100000)) (fun z s=>.bool (qcy (qbp s.tree (qdw s.opn)) z)) (fun z s=>s) fun z s ne h=>⟨c42 (T:=[e44,e76]) rfl rfl ne z h.1 h.2.1 h.2.2.1 h.2.2.2,by simp[qa6,qa2],by simp[qa2,qa6],ne⟩
theorem k42(hT:qIn 42 T e42) {s:SS} (ne:s.tree≠[]) (W:Str) (hW:qd9 W) (hl:W.length<=1100000) (hn:qrd s.tree) (ho:s.opn.length<=100000) {n k:Nat} {fr:List (Nat × Blk)} (k0:0 < k) (kn:k < n) (of:qg5 k fr):qb5 (ctx T) (.fn 42) [.ptr 0 0,.str W] ⟨n,[fr,VS k s]⟩=some (.bool (qcy (qbp s.tree (qdw s.opn)) W),⟨n+1,[fr,VS n (s)]⟩):=
 qcr hT inj_54 (W) ne ⟨hW,hl,hn,ho⟩ (by simp[qa6,qa2]) (by simp[qbl,qam]) k0 kn of
theorem c45(hc0:qIn 129 T e129) {s:SS} (ne:s.tree≠[]) (W:Str) (hW:qd9 W) (hl:W.length<=1100000) (hn:qrd s.tree) (ho:s.opn.length<=100000):SC T 45 [.str W] s (.tup []) ({ s with opn:=qiu s.tree s.opn W }):=by
 have g0:=@vg0;have v0:=@vset;have kI:=fun n k f (k0:0 < k) (hf:getF k f=none)=>k129 hc0 hW hl (L:=s.opn) (by omega) (fun i _=>hn i) (thS (n:=n) k0 ne hf);refine qa1 (s0:=⟨[0,1],[.ptr 0 0,.str W],[],17,⟨2,[]::[VS 1 s]⟩⟩) Tryz.func45 rfl rfl rfl ?_
 exact zL0
def e45:Entry PG:=mkS 45 [[]] (fun z:Str=>[.str z]) (fun z s=>(qd9 z)/\(z.length<=1100000)/\(qrd s.tree)/\(s.opn.length<=100000)) (fun z s=>.tup []) (fun z s=>{ s with opn:=qiu s.tree s.opn z }) fun z s ne h=>⟨c45 (T:=[e129]) rfl ne z h.1 h.2.1 h.2.2.1 h.2.2.2,by simp[qa6,qa2],by simp[qa2,qa6],ne⟩
theorem k45(hT:qIn 45 T e45) {s:SS} (ne:s.tree≠[]) (W:Str) (hW:qd9 W) (hl:W.length<=1100000) (hn:qrd s.tree) (ho:s.opn.length<=100000) {n k:Nat} {fr:List (Nat × Blk)} (k0:0 < k) (kn:k < n) (of:qg5 k fr):qb5 (ctx T) (.fn 45) [.ptr 0 0,.str W] ⟨n,[fr,VS k s]⟩=some (.tup [],⟨n+1,[fr,VS n ({ s with opn:=qiu s.tree s.opn W })]⟩):=
 qcr hT inj_54 (W) ne ⟨hW,hl,hn,ho⟩ (by simp[qa6,qa2]) (by simp[qbl,qam]) k0 kn of
theorem qq9{t:Tr} {i:Nat} (h:i < t.length) (x:Nd) (j:Int):qa0 (t.take i++x::t.drop (i+1)) j=if j.toNat=i then x else qa0 t j:=by
 unfold qa0;rw[List.getD_eq_getElem?_getD,List.getD_eq_getElem?_getD];have hl:(t.take i).length=i:=by simp;omega
 by_cases h1:j.toNat < i
 ·rw[List.getElem?_append_left (by omega),List.getElem?_take,jo h1,jm (by omega)]
 ·by_cases h2:j.toNat=i
  ·rw[List.getElem?_append_right (by omega),hl,h2,jo rfl];simp
  ·rw[List.getElem?_append_right (by omega),hl,jm h2];obtain⟨d,hd⟩ : ∃d,j.toNat - i=d+1:=⟨j.toNat - i - 1,by omega⟩;rw[hd,List.getElem?_cons_succ,List.getElem?_drop,show i+1+d=j.toNat by omega]
theorem qzx{t:Tr} {i:Nat} (h:i < t.length) (x:Nd):(t.take i++x::t.drop (i+1)).length=t.length:=by simp;omega
theorem qoh(t:Tr) (nd:Nd) (j:Int):qa0 (qed t nd) j=if j.toNat=t.length then fresh nd else qa0 t j:=by
 unfold qa0 qed;rw[List.getD_eq_getElem?_getD,List.getD_eq_getElem?_getD];by_cases h1:j.toNat < t.length
 ·rw[List.getElem?_append_left h1,jm (by omega)]
 ·rw[List.getElem?_append_right (by omega)];by_cases h2:j.toNat=t.length
  ·simp[h2]
  ·rw[jm h2,List.getElem?_eq_none (by simp;omega),List.getElem?_eq_none (by omega)]
set_option maxHeartbeats 1000000
def upT(u:Int) (t:Tr) (k:Int):Tr:=if isB t k=true then setUp t k.toNat u else t
def qna(t:Tr) (K:List Int) (u:Int):Tr:=K.foldl (upT u) t
def qjy(t:Tr) (fr to:Int):Bool:=isB t fr && isB t to && !qft t fr to
def qpp(t:Tr) (fr to:Int):Tr:=qna t (qa0 t fr).kids to
def qjx(t:Tr) (fr to:Int):Tr:=if qjy t fr to=true then setKids (setKids (qpp t fr to) to.toNat ((qa0 (qpp t fr to) to).kids++(qa0 t fr).kids)) fr.toNat [] else t
theorem quu(u:Int) (t:Tr) (k:Int):(upT u t k).length=t.length:=by
 unfold upT;split
 next h=>have:=isB_iff.1 h;unfold setUp;rw[js,jE,jL,yP];omega
 ·rfl
theorem qij:∀(K:List Int) (t:Tr) (u:Int),(qna t K u).length=t.length
 |[],_,_=>rfl
 |k::K,t,u=>by have:=qij K (upT u t k) u;unfold qna at this ⊢;rw[yi,this,quu]
theorem upT_kids(u:Int) (t:Tr) (k i:Int):(qa0 (upT u t k) i).kids=(qa0 t i).kids:=by
 unfold upT;split
 ·rename_i h;have hk:=isB_iff.1 h;unfold setUp;rw[qq9 (by omega)];split
  next e=>have:qa0 t i=qa0 t (k.toNat:Int):=(by unfold qa0;rw[e];rfl);rw[this]
  ·rfl
 ·rfl
theorem qj0:∀(K:List Int) (t:Tr) (u i:Int),(qa0 (qna t K u) i).kids=(qa0 t i).kids
 |[],_,_,_=>rfl
 |k::K,t,u,i=>by have:=qj0 K (upT u t k) u i;unfold qna at this ⊢;rw[yi,this,upT_kids]
theorem qma{t:Tr} (hne:t≠[]) (fr to:Int):qjx t fr to≠[]:=by
 unfold qjx;split
 ·simp[setKids]
 ·exact hne
def qy8(pb:Nat) (pre:List AV) (k:Nat) (t:Tr) (i:Nat) (post:List AV) (g:List (Nat × Blk)):List (Nat × Blk):=(pb,.cells (pre++qce k 7 (t.map qa9)::post))::(k,.cells (qgj t i .nilS))::g
theorem qnv{m n pb k:Nat} {pre post:List AV} {g f:List (Nat × Blk)} {t:Tr} (h:Eok m pb pre k 7 (t.map qa9) post g) {i:Nat} (hi:i < t.length) (hf:∀j,j < m->getF j f=none) :
  writeVar PG ⟨n,[f,VE pb pre k 7 (t.map qa9) post g]⟩ 38 (.ptr k (i * 7+6)) .nilS=some ⟨n,[f,qy8 pb pre k t i post g]⟩:=by
 have hne:t.map qa9≠[]:=by intro e;have:=jR List.length e;simp at this;subst this;simp at hi
 have hk:getF k f=none:=hf k h.lk.1;have hg:Heap.get ⟨n,[f,VE pb pre k 7 (t.map qa9) post g]⟩ k=some (.cells (qaa (t.map qa9))):=by simp only[Heap.get,getFs];rw[hk,qso h hne]
 have hs:Heap.set ⟨n,[f,VE pb pre k 7 (t.map qa9) post g]⟩ k (.cells (qgj t i .nilS))=some ⟨n,[f,qy8 pb pre k t i post g]⟩:=by simp only[Heap.set,setFs];rw[qke hk];unfold VE;rw[qd4 hne];simp[setF,h.k_p,qy8]
 have hl:=qrj hi .nilS;have rf:refs 6 AV.nilS=[]:=rfl;unfold writeVar;simp[AV.cells,allSingle,AV.single,writeCells,hg,Blk.wt,hl,Heap.ready,rf,hs,Blk.re]
theorem qxf{N m m' n pb k:Nat} {pre post:List AV} {g f:List (Nat × Blk)} {t:Tr} (h:Eok m pb pre k 7 (t.map qa9) post g) {i:Nat} (hi:i < t.length) (hN:N<=m) (hm:m<=m') (hf:∀j,j < m->getF j f=none) :
  FitH N (idn m) [] ⟨n,[f,qy8 pb pre k t i post g]⟩ ⟨m',[VE pb pre k 7 ((setKids t i []).map qa9) post g]⟩:=by
 have h2:=h.mono (ja m) (qbg (setKids t i []));have hne:t.map qa9≠[]:=by intro e;have:=jR List.length e;simp at this;subst this;simp at hi
 have hne2:(setKids t i []).map qa9≠[]:=by simp[setKids]
 have nd:=qpu h2;have ov:qce k 7 ((setKids t i []).map qa9)=qce k 7 (t.map qa9):=by rw[qbr hne,qbr hne2,jD,jD,qbt hi]
 have hx:∀e,e∈qy8 pb pre k t i post g->Heap.get ⟨n,[f,qy8 pb pre k t i post g]⟩ e.1=some e.2/\e.1 < m:=fun e he=>by
  have nd':((qy8 pb pre k t i post g).map (·.1)).Nodup:=by have:(qy8 pb pre k t i post g).map (·.1)=(VE pb pre k 7 ((setKids t i []).map qa9) post g).map (·.1):=(by unfold qy8 VE;rw[qd4 hne2];rfl);rw[this];exact nd
  have hl:e.1 < m:=by
   simp only[qy8,jd]at he;rcases he with rfl|rfl|he
   ·exact h.lp
   ·exact h.lk.1
   ·exact h.lg e he
  refine⟨?_,hl⟩;simp only[Heap.get,getFs];rw[hf _ hl,qlh nd' he]
 have hall:=qix h2;constructor
 case nd1=>simpa using qie m
 case nd2=>exact qkm m
 case nd3=>simpa[Heap.ents]using nd
 case lt=>
  intro x hx;obtain⟨i,hi,rfl⟩:=jw.1 hx;have:i < m:=by simpa using hi
  show i < m';omega
 case idn=>
  intro x hx hlt;obtain⟨i,hi,rfl⟩:=jw.1 hx;rfl
 case num=>exact j6 hN hm
 case src=>
  intro e he;simp only[Heap.ents,jq,j7,jh]at he;obtain⟨h1,hs⟩:=hall e he;unfold VE at he;rw[qd4 hne2]at he;simp only[jd,List.cons_append,jv]at he;rcases he with rfl|rfl|he
  ·obtain⟨e1,e2⟩:=hx (pb,.cells (pre++qce k 7 (t.map qa9)::post)) (by simp[qy8]);refine⟨pb,_,qe4 h1,e1,?_⟩;have:=hs _ (qmf m);simp only[qkw,ov]at this ⊢;exact this
  ·obtain⟨e1,e2⟩:=hx (k,.cells (qgj t i .nilS)) (by simp[qy8]);refine⟨k,_,qe4 h1,e1,?_⟩;have key:qb8 (idn m) [] (qgj t i .nilS) (qgj t i (qa8 [])):=(by unfold qgj;refine qgz (qgz (qau ?_) (by simp[qb8,qas,qa8,qa6])) (qau (qbg _).pure);rw[qdr,(qbg _).pure];simp[qa6,qa2,qat]);rw[qmd]at key;exact key
  ·obtain⟨e1,e2⟩:=hx e (by simp[qy8,he]);exact⟨e.1,_,qe4 h1,e1,hs _ (qmf m)⟩
 case frz=>intro x h;cases h
theorem c139(hS:qIn 88 T e88) (hH:qIn 89 T e89) (hC:qIn 196 T e196)
  {m pb k:Nat} {pre post:List AV} {g:List (Nat × Blk)} {t:Tr} (h:Eok m pb pre k 7 (t.map qa9) post g) (hne:t≠[]) (ht:t.length<=1000000) (hk:qcf t 400000) (fr to:Int) :
  CA T 139 [.ptr pb pre.length,.int .i64 fr,.int .i64 to] ⟨m,[VE pb pre k 7 (t.map qa9) post g]⟩ (.tup []) ⟨m,[VE pb pre k 7 ((qjx t fr to).map qa9) post g]⟩:=by
 have nf:∀j,j < m->getF j ([]:List (Nat × Blk))=none:=fun _ _=>rfl;have thX:∀(X:Tr),X≠[]->∀n,qco ⟨n,[[],VE pb pre k 7 (X.map qa9) post g]⟩ [7] (.agg [qce k 7 (X.map qa9)])=some (qao X):=fun X hX n=>by have hX2:=h.mono (ja m) (qbg X);refine qcx hX ?_;simp only[Heap.get,getFs];rw[nf k hX2.lk.1,qso hX2 (by simpa using hX)]
 have rdT:=fun n=>(qcs (n:=n) h nf).1;have rdN0:=fun n=>(qcs (n:=n) h nf).2;have ksf:=fun n=>q88 hS (thX t hne n) fr;have kst:=fun n=>q88 hS (thX t hne n) to;have kh:=fun n=>q89 hH (thX t hne n) ht fr to;by_cases hok:qjy t fr to=true
 case neg=>
  have e:qjx t fr to=t:=by unfold qjx;rw[jm hok]
  rw[e];cases bu:isB t fr with
  |false=>rw[bu]at ksf;refine qa1 (s0:=⟨[0,1,2,6,8,39,40,41],[.ptr pb pre.length,.int .i64 fr,.int .i64 to,uD,uD,uD,uD,uD],[],84,⟨m,[]::[VE pb pre k 7 (t.map qa9) post g]⟩⟩) Tryz.func139 rfl rfl rfl ?_;apply qR;simp[zS,rdT,ksf];apply qag rfl;apply qa7;simp[zQ,Tryz.f139];exact⟨_,_,by simp[qas,qb8,qa6],qcv h (ja m) (ja m) fun _ _=>rfl⟩
  |true=>cases bi:isB t to with
   |false=>rw[bu]at ksf;rw[bi]at kst;refine qa1 (s0:=⟨[0,1,2,6,8,39,40,41],[.ptr pb pre.length,.int .i64 fr,.int .i64 to,uD,uD,uD,uD,uD],[],84,⟨m,[]::[VE pb pre k 7 (t.map qa9) post g]⟩⟩) Tryz.func139 rfl rfl rfl ?_;apply qR;simp[zS,rdT,ksf,kst];apply qag rfl;apply qa7;simp[zQ,Tryz.f139];exact⟨_,_,by simp[qas,qb8,qa6],qcv h (ja m) (ja m) fun _ _=>rfl⟩
   |true=>have bh:qft t fr to=true:=(by simpa[qjy,bu,bi]using hok);rw[bu]at ksf;rw[bi]at kst;rw[bh]at kh;refine qa1 (s0:=⟨[0,1,2,6,8,39,40,41],[.ptr pb pre.length,.int .i64 fr,.int .i64 to,uD,uD,uD,uD,uD],[],84,⟨m,[]::[VE pb pre k 7 (t.map qa9) post g]⟩⟩) Tryz.func139 rfl rfl rfl ?_;apply qR;simp[zS,rdT,ksf,kst,kh];apply qag rfl;apply qa7;simp[zQ,Tryz.f139];exact⟨_,_,by simp[qas,qb8,qa6],qcv h (ja m) (ja m) fun _ _=>rfl⟩
 case pos=>
  have ep:qjx t fr to=setKids (setKids (qpp t fr to) to.toNat ((qa0 (qpp t fr to) to).kids++(qa0 t fr).kids)) fr.toNat []:=by unfold qjx;rw[jo hok]
  rw[ep];simp only[qjy,jf,yn]at hok;obtain⟨⟨bu,bi⟩,bh⟩:=hok;rw[bu]at ksf;rw[bi]at kst;rw[bh]at kh;obtain⟨a,rfl⟩:=jy (isB_iff.1 bu).1;obtain⟨b,rfl⟩:=jy (isB_iff.1 bi).1;have ha:a < t.length:=by have:=(isB_iff.1 bu).2;omega
  have hb:b < t.length:=by have:=(isB_iff.1 bi).2;omega
  simp only[jr];obtain⟨K,hK⟩ : ∃K,K=(qa0 t (a:Int)).kids:=⟨_,rfl⟩;have hKl:K.length<=400000:=by rw[hK];exact qfr hk _
  have hbl:(qa0 t (b:Int)).kids.length<=400000:=qfr hk _;have eX:qpp t (a:Int) (b:Int)=qna t K b:=by unfold qpp;rw[<- hK]
  rw[eX,<- hK];have ixT:∀(X:Tr) (i:Nat),X≠[]->i < X.length->qaq PG 35 (qce k 7 (X.map qa9)) (.int .i64 (i:Int))=some (.ptr k (i * 7)):=fun X i hX hi=>by rw[qbr (by simpa using hX)];simp[qaq,qbn hi]
  have rdKf:∀(X:Tr) (i:Nat),X≠[]->i < X.length->∀n (f:List (Nat × Blk)),(∀j,j < m->getF j f=none)->qb2 PG ⟨n,[f,VE pb pre k 7 (X.map qa9) post g]⟩ 38 (.ptr k (i * 7+6))=some (qa8 (qa0 X (i:Int)).kids):=fun X i hX hi n f hf=>by have hX2:=h.mono (ja m) (qbg X);have hg:Heap.get ⟨n,[f,VE pb pre k 7 (X.map qa9) post g]⟩ k=some (.cells (qaa (X.map qa9))):=(by simp only[Heap.get,getFs];rw[hf k hX2.lk.1,qso hX2 (by simpa using hX)]);simp[hg,qif hi]
  have rdK:=fun X i hX hi n=>rdKf X i hX hi n [] nf;have rdKa:=rdK t a hne ha;rw[<- hK]at rdKa;have ixa:=ixT t a hne ha;have lK:∀H,qf3 PG H 38 (qa8 K)=some K.length:=fun H=>by simp[qf3,qa8]
  obtain⟨Ut,hUt⟩ : ∃Ut:Nat->Tr,Ut=fun j=>qna t (K.take j) b:=⟨_,rfl⟩;have S0:Ut 0=t:=by rw[hUt];rfl
  have Sn:Ut K.length=qna t K b:=by rw[hUt];simp
  have Sl:∀j,(Ut j).length=t.length:=fun j=>by rw[hUt];exact qij _ _ _
  have Sne:∀j,Ut j≠[]:=fun j e=>by have:=Sl j;rw[e]at this;exact hne (jO.1 this.symm)
  have Ss:∀j (hj:j < K.length),Ut (j+1)=upT b (Ut j) K[j]:=fun j hj=>by rw[hUt];show qna t (K.take (j+1)) b=_;unfold qna;rw[jj hj,yE];rfl
  have Sk:∀j i,(qa0 (Ut j) i).kids=(qa0 t i).kids:=fun j i=>by rw[hUt];exact qj0 _ _ _ _
  rw[<- Sn];clear hUt Sn eX ep;refine qa1 (s0:=⟨[0,1,2,6,8,39,40,41],[.ptr pb pre.length,.int .i64 (a:Int),.int .i64 (b:Int),uD,uD,uD,uD,uD],[],84,⟨m,[]::[VE pb pre k 7 (t.map qa9) post g]⟩⟩) Tryz.func139 rfl rfl rfl ?_;apply qR;simp[zS,rdT,ksf,kst,kh];apply qaj rfl;apply qa5;simp;apply qR;simp[zS,rdN0,ixa,rdKa];apply qR;simp[zS,lK];apply qa3;refine qb6 (fun j:Nat=>(⟨[0,1,2,6,8,39,40,41],[.ptr pb pre.length,.int .i64 (a:Int),.int .i64 (b:Int),qa8 K,uD,qa8 K,.int .i64 (K.length:Int),.int .i64 (j:Int)],[],84,⟨m,[[],VE pb pre k 7 ((Ut j).map qa9) post g]⟩⟩ : St)) (fun j=>j<=K.length) (fun j=>K.length - j) (idn m) [] 0 (jx _)
   ⟨rfl,rfl,rfl,by simp[qb8,qas,qcm h.lp,qa2,qa8],by rw[S0];exact qp4 h (ja m) (ja m) fun _ _=>rfl⟩ ?_
  intro j hj B hB;have hX:=h.mono (ja m) (qbg (Ut j));have qfa:=fun n=>(qcs (n:=n) hX nf).1;have rdN1:=fun n=>(qcs (n:=n) hX nf).2;apply qR;simp[zS];repeat apply wq
  refine qbe rfl (fun h=>?_) fun h=>?_
  ·simp at h;apply qa5;simp;repeat apply wq
   apply qa3;have hat:=atI h;have es:=Ss j h;generalize K[j]=x at *;have ksx:=fun n=>q88 hS (thX (Ut j) (Sne j) n) x;cases bx:isB (Ut j) x with
   |false=>rw[bx]at ksx;have es:Ut (j+1)=Ut j:=(by rw[es];unfold upT;rw[bx];rfl);apply qR;simp[zS,hat];apply qR;simp[zS,qfa,ksx];apply qaj rfl;apply qa5;simp;apply qR;simp[zS,qbb (show j<=1000000000 by omega)];exact hB _ (j+1) (by omega) (by omega) ⟨idn m,[],rfl,rfl,rfl,by simp[qb8,qas,qcm hX.lp,qa2,qa8],by rw[es];exact qp4 hX (ja m) (ja m) fun _ _=>rfl⟩
   |true=>rw[bx]at ksx;obtain⟨i,rfl⟩:=jy (isB_iff.1 bx).1;have hi:i < (Ut j).length:=(by have:=(isB_iff.1 bx).2;omega);have es:Ut (j+1)=setUp (Ut j) i b:=(by rw[es];unfold upT;rw[jo bx];rfl);have ixx:=ixT (Ut j) i (Sne j) hi;have hw:=fun n=>qho (n:=n) hX hi (b:Int) nf;have hX3:=hX.mono (ja m) (qbg (setUp (Ut j) i (b:Int)));apply qR;simp[zS,hat];apply qR;simp[zS,qfa,ksx];apply qag rfl;apply qR;simp[zS,rdN1,ixx,hw];apply qR;simp[zS,qbb (show j<=1000000000 by omega)];exact hB _ (j+1) (by omega) (by omega) ⟨idn m,[],rfl,rfl,rfl,by simp[qb8,qas,qcm hX.lp,qa2,qa8],by rw[es];exact qp4 hX3 (ja m) (ja m) fun _ _=>rfl⟩
  ·simp at h;have hjn:j=K.length:=(by omega);subst hjn;apply qak;simp;have la:a < (Ut K.length).length:=(by rw[Sl];exact ha);have lb:b < (Ut K.length).length:=(by rw[Sl];exact hb);have kb:(qa0 (Ut K.length) (b:Int)).kids=(qa0 t (b:Int)).kids:=Sk _ _;have rdKb:=rdK (Ut K.length) b (Sne _) lb;have ixb:=ixT (Ut K.length) b (Sne _) lb;obtain⟨B1,hB1⟩ : ∃B1,B1=(qa0 (Ut K.length) (b:Int)).kids:=⟨_,rfl⟩;rw[<- hB1]at rdKb kb ⊢;rw[<- kb]at hbl;have nf2:∀c j,j < m->getF j [(m+14,Blk.cells c)]=none:=fun c j hj=>(by simp[getF,qax (show m+14≠j by omega)]);have hw:=fun n=>qh8 (n:=n) hX lb (B1++K) (nf2 [.fslc 1 (B1.map qat),.fslc 1 (K.map qat)]);have rdN3:=fun n=>(qcs (n:=n) hX (nf2 [.fslc 1 (B1.map qat),.fslc 1 (K.map qat)])).2;have rdKb3:=fun n=>rdKf (Ut K.length) b (Sne _) lb n _ (nf2 [.fslc 1 (B1.map qat),.fslc 1 (K.map qat)]);rw[<- hB1]at rdKb3;have hX2:=hX.mono (ja m) (qbg (setKids (Ut K.length) b (B1++K)));have lX2:(setKids (Ut K.length) b (B1++K)).length=(Ut K.length).length:=qbt lb _;have nX2:setKids (Ut K.length) b (B1++K)≠[]:=(by simp[setKids]);have rdN2:=fun n=>(qcs (n:=n) hX2 nf).2;have ixa2:=ixT (setKids (Ut K.length) b (B1++K)) a nX2 (by omega);have hw2:=fun n c=>qnv (n:=n) hX2 (show a < (setKids (Ut K.length) b (B1++K)).length by omega) (nf2 c);have hfr:=fun n c=>qxf (n:=n) hX2 (show a < (setKids (Ut K.length) b (B1++K)).length by omega) (ja m) (ja m) (nf2 c);have rdN4:=fun n c=>(qcs (n:=n) hX2 (nf2 c)).2;have hX3:=hX2.mono (ja m) (qbg (setKids (setKids (Ut K.length) b (B1++K)) a []));have kC:=fun(H:Heap) q (hq:H.get q=some (.cells [qa8 B1,qa8 K]))=>k196 hC (LL:=[B1,K]) (a:=.slc q 0 2 (.ex 2)) (H:=H) (by simp;omega) (by simp) (qsw (r:=[]) (b:=q) (cap:=.ex 2) (es:=[qa8 B1,qa8 K]) (.map (sz:=1) (f:=qa8) (by decide) (fun x=>⟨rfl,by simp[AV.cells,qa8,qa6,qa2],fun _=>rfl,fun h=>absurd rfl h⟩) [B1,K]) hq);simp only[jq,j7,jh]at kC;generalize Ut K.length=X at *;generalize setKids X b (B1++K)=Y at *;generalize B1++K=BK at *;have bl2:∀cs,qyz PG 170 (some 73) cs=.cells cs:=fun _=>rfl;repeat apply wq
   refine qc4 mixed qaz (by decide +kernel) fun B_ hB_=>?_;have hD_:ahead B_ 3 15=false/\ahead B_ 3 18=true/\ahead B_ 8 15=true/\ahead B_ 8 18=true/\ahead B_ 12 15=true/\ahead B_ 12 18=true/\ahead B_ 14 15=true/\ahead B_ 14 18=true/\ahead B_ 15 3=false/\ahead B_ 15 8=false/\ahead B_ 15 12=false/\ahead B_ 18 3=false/\ahead B_ 18 8=false/\ahead B_ 18 12=false:=(by rw[hB_];decide +kernel);apply qhi B_;simp[zS,qbc,qar,qb4,qbh,qan,qbd,qba,Heap.lay,qap,qhh,qhg,qei,qeh,qef,qeg,qew,qel,qdj,qdk,qeq,qep,qen,qeo,qet,qeu,qes,qer,hD_,rdN1,rdN3,ixb,rdKb,rdKb3,kC,hw,bl2];exact rfl;refine⟨_,rfl,?_,?_⟩;simp[zS,qbh,qan,qc1,qc9,qd2,hD_,rdN1,rdN3,ixb,rdKb,rdKb3,kC,hw,bl2];try simp[allPend,Heap.lay,qap,qab]
   apply qR;simp[zS,rdN4,ixa2,hw2];exact⟨[],rfl,_,_,by simp[oneOr,qas,qb8,qa6],hfr _ _⟩
theorem qst{C:Ctx} {n:Nat} {r:Option Nat} {c d:Code} {s:St} {Q:Out->St->Prop} {ι:Type} (inv:ι->St) (φ:ι->Prop) (h1:∀x,φ x->WpSr C n r d (inv x) Q) (h2:(∀s' x,φ x->(∃σ Φ,Fit n σ Φ s' (inv x))->WpSr C n r d s' Q)->WpSr C n r c s (qab (fun s'=>WpSr C n r d s' Q) Q)):WpSr C n r (.seq c d) s Q:=
 qad (h2 fun s' x hx ⟨σ,Φ,f⟩=>.fit σ Φ f (h1 x hx))
structure TB (n q d a:Nat) (t:Tr):Prop where
 n0:1<=t.length
 n1:t.length<=n
 up:∀i:Nat,i < t.length->(qa0 t i).up < (t.length:Int)
 kid:∀i:Nat,i < t.length->∀k,k∈(qa0 t i).kids->0<=k/\k < (t.length:Int)
 kl:∀i:Nat,i < t.length->(qa0 t i).kids.length<=q
 dl:∀i:Nat,i < t.length->(qa0 t i).data.length<=d
 nl:∀i:Nat,i < t.length->(qa0 t i).name.length<=60
 al:∀i:Nat,i < t.length->(qa0 t i).attrs.length<=a
section
variable {n q d a n' q' d' a':Nat} {t:Tr}
theorem TB.mono(h:TB n q d a t) (h1:n<=n') (h2:q<=q') (h3:d<=d') (h4:a<=a'):TB n' q' d' a' t:=
 ⟨h.n0,by have:=h.n1;omega,h.up,h.kid,fun i hi=>by have:=h.kl i hi;omega,fun i hi=>by have:=h.dl i hi;omega,h.nl,fun i hi=>by have:=h.al i hi;omega⟩
theorem qyd{i:Nat} (hi:i < t.length) (u j:Int):qa0 (setUp t i u) j=if j.toNat=i then { qa0 t i with up:=u } else qa0 t j:=by unfold setUp;exact qq9 hi _ j
theorem qm9{i:Nat} (hi:i < t.length) (K:List Int) (j:Int):qa0 (setKids t i K) j=if j.toNat=i then { qa0 t i with kids:=K } else qa0 t j:=by unfold setKids;exact qq9 hi _ j
theorem TB.setUp(h:TB n q d a t) {i:Nat} (hi:i < t.length) {u:Int} (hu:u < (t.length:Int)):TB n q d a (setUp t i u):=by
 have l:=qi8 hi u;have sm:∀j:Nat,qa0 (Go.Proofs.YtnfdakclfmchfaaGreat.setUp t i u) j=if j=i then { qa0 t i with up:=u } else qa0 t j:=fun j=>by rw[qyd hi];simp
 refine⟨by rw[l];exact h.n0,by rw[l];exact h.n1,?_,?_,?_,?_,?_,?_⟩<;>intro j hj<;>rw[l]at hj<;>rw[sm j]<;>(try rw[l])<;>split
 ·exact hu
 ·exact h.up j hj
 ·exact h.kid i hi
 ·exact h.kid j hj
 ·exact h.kl i hi
 ·exact h.kl j hj
 ·exact h.dl i hi
 ·exact h.dl j hj
 ·exact h.nl i hi
 ·exact h.nl j hj
 ·exact h.al i hi
 ·exact h.al j hj
theorem TB.setKids(h:TB n q d a t) {i:Nat} (hi:i < t.length) {K:List Int} (hK:∀k,k∈K->0<=k/\k < (t.length:Int)) (hq:q<=q') (hl:K.length<=q'):TB n q' d a (setKids t i K):=by
 have l:(Go.Proofs.YtnfdakclfmchfaaGreat.setKids t i K).length=t.length:=qbt hi K;have sm:∀j:Nat,qa0 (Go.Proofs.YtnfdakclfmchfaaGreat.setKids t i K) j=if j=i then { qa0 t i with kids:=K } else qa0 t j:=fun j=>by rw[qm9 hi];simp
 refine⟨by rw[l];exact h.n0,by rw[l];exact h.n1,?_,?_,?_,?_,?_,?_⟩<;>intro j hj<;>rw[l]at hj<;>rw[sm j]<;>(try rw[l])<;>split
 ·exact h.up i hi
 ·exact h.up j hj
 ·exact hK
 ·exact h.kid j hj
 ·exact hl
 ·exact j6 (h.kl j hj) hq
 ·exact h.dl i hi
 ·exact h.dl j hj
 ·exact h.nl i hi
 ·exact h.nl j hj
 ·exact h.al i hi
 ·exact h.al j hj
theorem TB.add(h:TB n q d a t) (nd:Nd) (hnl:nd.name.length<=60) (hdl:nd.data.length<=d) (hal:nd.attrs.length<=a):TB (n+1) q d a (qed t nd):=by
 have l:(qed t nd).length=t.length+1:=by simp[qed]
 have n0:=h.n0;have n1:=h.n1;have sm:∀j:Nat,qa0 (qed t nd) j=if j=t.length then fresh nd else qa0 t j:=fun j=>by rw[qoh];simp
 have cs:∀j:Nat,j < (qed t nd).length->j=t.length\/(j≠t.length/\j < t.length):=fun j hj=>by omega
 refine⟨by omega,by omega,?_,?_,?_,?_,?_,?_⟩<;>intro j hj<;>rw[sm j]<;>(try rw[l])<;>rcases cs j hj with rfl|⟨e,hl⟩<;>(first|rw[jo rfl]|rw[jm e])
 ·simp only[fresh];omega
 ·have:=h.up j hl;omega
 ·intro k hk;cases hk
 ·intro k hk;have:=h.kid j hl k hk;omega
 ·simp[fresh]
 ·exact h.kl j hl
 ·exact hdl
 ·exact h.dl j hl
 ·exact hnl
 ·exact h.nl j hl
 ·exact hal
 ·exact h.al j hl
theorem isN{i:Int} (h:isB t i=true):∃u:Nat,i=u/\u < t.length:=by obtain⟨h1,h2⟩:=isB_iff.1 h;exact⟨i.toNat,by omega,by omega⟩
theorem TB.cutK(h:TB n q d a t) (i:Int):TB n q d a (cutK t i):=by
 unfold Go.Proofs.YtnfdakclfmchfaaGreat.cutK;split
 ·rename_i hp;unfold qd6 at hp;split at hp
  next hb=>obtain⟨u,e,hu⟩:=isN hb.2;rw[e,jr];exact h.setKids hu (fun k hk=>h.kid u hu k (List.mem_of_mem_eraseIdx hk)) (ja q) (j6 (Jt _ _) (h.kl u hu))
  ·omega
 ·exact h
theorem TB.cut(h:TB n q d a t) (i:Int):TB n q d a (qec t i):=by
 unfold qec;have hc:=h.cutK i;split
 next hb=>obtain⟨u,e,hu⟩:=isN hb.2;rw[e,jr];rw[e]at hc;exact hc.setUp (by rw[qhx];exact hu) (by rw[qhx];omega)
 ·exact hc
theorem qtr{K:List Int} {p:Nat} {x k:Int} (h:k∈qdb K p x):k∈K\/k=x:=by
 unfold qdb at h;rcases je.1 h with h|h
 ·exact .inl (yf h)
 ·rcases jd.1 h with h|h
  ·exact .inr h
  ·exact .inl (jZ h)
theorem qts{K:List Int} {p:Nat} {x:Int}:(qdb K p x).length=K.length+1:=by unfold qdb;simp;omega
theorem TB.put(h:TB n q d a t) (up at_ kid:Int):TB n (q+1) d a (qgh t up at_ kid):=by
 unfold qgh;split
 ·rename_i ok;simp only[qi9,jf]at ok;obtain⟨u,e,hu⟩:=isN ok.1.1.1;obtain⟨i,e2,hi⟩:=isN ok.1.1.2;have hc:=h.cut kid;have lc:=qf7 t kid;rw[e,e2,jr,jr];rw[e2]at hc lc;generalize qec t (i:Int)=X at *;have h1:TB n (q+1) d a (Go.Proofs.YtnfdakclfmchfaaGreat.setKids X u (qgx (qa0 X (u:Int)).kids at_ (i:Int))):=hc.setKids (by omega) (fun k hk=>by
   rcases qtr hk with hk|rfl
   ·exact hc.kid u (by omega) k hk
   ·omega) (by omega) (by unfold qgx;rw[qts];have:=hc.kl u (by omega);omega)
  have l1:(Go.Proofs.YtnfdakclfmchfaaGreat.setKids X u (qgx (qa0 X (u:Int)).kids at_ (i:Int))).length=X.length:=qbt (by omega) _;exact h1.setUp (by omega) (by omega)
 ·exact h.mono (ja n) (by omega) (ja d) (ja a)
theorem qhs(up at_ kid:Int):(qgh t up at_ kid).length=t.length:=by
 unfold qgh;split
 next ok=>simp only[qi9,jf]at ok;obtain⟨u,e,hu⟩:=isN ok.1.1.1;obtain⟨i,e2,hi⟩:=isN ok.1.1.2;have lc:=qf7 t kid;rw[e,e2,jr,jr];rw[e2]at lc;rw[qi8 (by rw[qbt (by omega)];omega),qbt (by omega),lc]
 ·rfl
theorem qg3(nd:Nd):(qed t nd).length=t.length+1:=by simp[qed]
theorem qre(up at_:Int) (nd:Nd):(qm8 t up at_ nd).length=t.length+1:=by unfold qm8;rw[qhs,qg3]
theorem TB.new(h:TB n q d a t) (up at_:Int) (nd:Nd) (hnl:nd.name.length<=60) (hdl:nd.data.length<=d) (hal:nd.attrs.length<=a):TB (n+1) (q+1) d a (qm8 t up at_ nd):=(h.add nd hnl hdl hal).put _ _ _
theorem TB.ups:∀(K:List Int) {t:Tr} (h:TB n q d a t) {u:Int} (hu:u < (t.length:Int)),TB n q d a (qna t K u)
 |[],_,h,_,_=>h
 |k::K,t,h,u,hu=>by
  have h1:TB n q d a (upT u t k):=by
   unfold upT;split
   next hb=>obtain⟨i,e,hi⟩:=isN hb;rw[e,jr];exact h.setUp hi hu
   ·exact h
  exact TB.ups K h1 (by rw[quu];exact hu)
theorem TB.mov(h:TB n q d a t) (fr to:Int) (hto:(qa0 t to).kids=[]):TB n q d a (qjx t fr to):=by
 unfold qjx;split
 ·rename_i ok;simp only[qjy,jf]at ok;obtain⟨u,e,hu⟩:=isN ok.1.1;obtain⟨v,e2,hv⟩:=isN ok.1.2;have hx:TB n q d a (qpp t fr to):=by unfold qpp;exact TB.ups _ h (by omega)
  have lx:(qpp t fr to).length=t.length:=qij _ _ _;have kx:(qa0 (qpp t fr to) to).kids=[]:=by unfold qpp;rw[qj0,hto]
  rw[kx,jv];rw[e,e2,jr,jr];rw[e,e2]at hx lx;generalize qpp t (u:Int) (v:Int)=X at *;have h1:TB n q d a (Go.Proofs.YtnfdakclfmchfaaGreat.setKids X v (qa0 t (u:Int)).kids):=hx.setKids (by omega) (fun k hk=>by have:=h.kid u hu k hk;omega) (ja q) (h.kl u hu);have l1:(Go.Proofs.YtnfdakclfmchfaaGreat.setKids X v (qa0 t (u:Int)).kids).length=X.length:=qbt (by omega) _;exact h1.setKids (by omega) (fun k hk=>by cases hk) (ja q) (by simp)
 ·exact h
theorem qrh(fr to:Int):(qjx t fr to).length=t.length:=by
 unfold qjx;split
 next ok=>simp only[qjy,jf]at ok;obtain⟨u,e,hu⟩:=isN ok.1.1;obtain⟨v,e2,hv⟩:=isN ok.1.2;have lx:(qpp t fr to).length=t.length:=qij _ _ _;rw[e,e2,jr,jr];rw[e,e2]at lx;rw[qbt (by rw[qbt (by omega)];omega),qbt (by omega),lx]
 ·rfl
theorem TB.le(h:TB n q d a t) {m:Nat} (hm:q<=m):qcf t m:=fun x hx=>by obtain⟨i,hi,rfl⟩:=yG hx;have:=h.kl i hi;rw[qga hi]at this;omega
theorem TB.nm(h:TB n q d a t):qrd t:=fun i=>by
 unfold qbp;split
 next hb=>obtain⟨u,e,hu⟩:=isN hb;rw[e];have:=h.nl u hu;omega
 ·simp
theorem TB.at_(h:TB n q d a t) {i:Int} (h0:0<=i) (h1:i < (t.length:Int)):(qa0 t i).attrs.length<=a/\(qa0 t i).name.length<=60/\(qa0 t i).kids.length<=q:=by obtain⟨u,rfl⟩ : ∃u:Nat,i=u:=⟨i.toNat,by omega⟩;exact⟨h.al u (by omega),h.nl u (by omega),h.kl u (by omega)⟩
end
def KeepN(t t':Tr):Prop:=t.length<=t'.length/\∀i:Nat,i < t.length->(qa0 t' i).kind=(qa0 t i).kind/\(qa0 t' i).space=(qa0 t i).space/\(qa0 t' i).name=(qa0 t i).name
theorem KeepN.refl(t:Tr):KeepN t t:=⟨ja _,fun _ _=>⟨rfl,rfl,rfl⟩⟩
theorem KeepN.trans{t t' t'':Tr} (h:KeepN t t') (g:KeepN t' t''):KeepN t t'':=⟨j6 h.1 g.1,fun i hi=>by obtain⟨a1,a2,a3⟩:=h.2 i hi;obtain⟨b1,b2,b3⟩:=g.2 i (jI hi h.1);exact⟨by rw[b1,a1],by rw[b2,a2],by rw[b3,a3]⟩⟩
theorem qv7{t:Tr} {i:Nat} (hi:i < t.length) (u:Int):KeepN t (setUp t i u):=⟨by rw[qi8 hi];exact ja _,fun j hj=>by
 rw[qyd hi];split
 next e=>rw[jr]at e;subst e;exact⟨rfl,rfl,rfl⟩
 ·exact⟨rfl,rfl,rfl⟩⟩
theorem qle{t:Tr} {i:Nat} (hi:i < t.length) (K:List Int):KeepN t (setKids t i K):=⟨by rw[qbt hi];exact ja _,fun j hj=>by
 rw[qm9 hi];split
 next e=>rw[jr]at e;subst e;exact⟨rfl,rfl,rfl⟩
 ·exact⟨rfl,rfl,rfl⟩⟩
theorem qrn(t:Tr) (nd:Nd):KeepN t (qed t nd):=⟨by rw[qg3];omega,fun j hj=>by rw[qoh,jm (by simp;omega)];exact⟨rfl,rfl,rfl⟩⟩
theorem qwz(t:Tr) (i:Int):KeepN t (qec t i):=by
 have h1:KeepN t (cutK t i):=by
  unfold cutK;split
  ·rename_i hp;unfold qd6 at hp;split at hp
   next hb=>obtain⟨u,e,hu⟩:=isN hb.2;rw[e,jr];exact qle hu _
   ·omega
  ·exact .refl t
 unfold qec;split
 next hb=>obtain⟨u,e,hu⟩:=isN hb.2;refine h1.trans ?_;rw[e,jr];exact qv7 (by rw[qhx];exact hu) _
 ·exact h1
theorem qnl(t:Tr) (up at_ kid:Int):KeepN t (qgh t up at_ kid):=by
 unfold qgh;split
 next ok=>simp only[qi9,jf]at ok;obtain⟨u,e,hu⟩:=isN ok.1.1.1;obtain⟨i,e2,hi⟩:=isN ok.1.1.2;have lc:=qf7 t kid;refine(qwz t kid).trans ?_;rw[e,e2,jr,jr];rw[e2]at lc;exact(qle (by omega) _).trans (qv7 (by rw[qbt (by omega)];omega) _)
 ·exact .refl t
theorem qrm(t:Tr) (up at_:Int) (nd:Nd):KeepN t (qm8 t up at_ nd):=(qrn t nd).trans (qnl _ _ _ _)
theorem qwy:∀(K:List Int) (t:Tr) (u:Int),KeepN t (qna t K u)
 |[],t,_=>.refl t
 |k::K,t,u=>by
  have h1:KeepN t (upT u t k):=by
   unfold upT;split
   next hb=>obtain⟨i,e,hi⟩:=isN hb;rw[e,jr];exact qv7 hi _
   ·exact .refl t
  exact h1.trans (qwy K _ u)
theorem keep_mov(t:Tr) (fr to:Int):KeepN t (qjx t fr to):=by
 unfold qjx;split
 next ok=>simp only[qjy,jf]at ok;obtain⟨u,e,hu⟩:=isN ok.1.1;obtain⟨v,e2,hv⟩:=isN ok.1.2;have lx:(qpp t fr to).length=t.length:=qij _ _ _;refine(show KeepN t (qpp t fr to) from qwy _ _ _).trans ?_;rw[e,e2,jr,jr];rw[e,e2]at lx;exact(qle (by omega) _).trans (qle (by rw[qbt (by omega)];omega) _)
 ·exact .refl t
set_option maxHeartbeats 1000000
def e78z:Entry PG:=mkL 78 [[1]] (fun L:List Int=>[qa8 L]) (fun L=>L.length<=1000000) (fun L=>L) fun L hl=>c78 (T:=[]) L hl
theorem k78z(hT:qac 78 T=some e78z.g) {L:List Int} (hl:L.length<=1000000) (H:Heap):qb5 (ctx T) (.fn 78) [qa8 L] H=some (qa8 L,H):=
 qj7 hT (fun x y h=>by simp only[jl,jJ]at h;exact qdu h) L hl (by simp[qbl,qam])
theorem c158(hC:qIn 78 T e78) (hN:qIn 157 T e157) (hI:qIn 203 T e203) (hw:qac 133 T=some e133a.g) (t:Tr) (L:List Int) (W:Str) (hW:qd9 W) (hl:W.length<=1100000) (hL:L.length<=1000000) (hx:∀i,i∈L->(qbp t i).name.length<=1000000000) :
  CA T 158 [qao t,qa8 L,.str W] zH (qce 0 1 ((qk0 t L W).map qat)) ⟨1,[qcg 0 ((qk0 t L W).map qat)]⟩:=by
 have hc:=zc7 (T:=T) hC (m:=2) (rows:=qne t W) (fn:=202) (cap:=[.ptr 0 0,.ptr 1 0]) (fun x=>⟨by simp[qne],fun e he=>by simp[qne]at he;rcases he with rfl|rfl<;>exact⟨by simp,_,rfl,by simp[qa6,qa2]⟩⟩) L hL (by simp[qb8,qas,qcm]) (fun x i hi=>cut_imp hN hI hw t W i hW hl (hx i hi) x) ();rw[show (qlw (fun(_:Unit) i=>qrx t W i) (fun _ _=>()) () L.reverse).1.reverse=qk0 t L W from rfl]at hc;generalize (qlw (fun(_:Unit) i=>qrx t W i) (fun _ _=>()) () L.reverse).2=b at hc;generalize qk0 t L W=M at *;unfold qne at hc;refine qa1 (s0:=⟨[0,1,2,3,5,6],[qao t,qa8 L,.str W,uD,uD,uD],[],10,⟨0,[[]]⟩⟩) Tryz.func158 rfl rfl rfl ?_;apply qR;simp[zS,qao];repeat apply wq
 refine qb0 (qci [⟨186,_,_,_,_,hc⟩]) ?_;simp[zS,qdz];apply qa7;simp[zQ,Tryz.f158];exact qgy fun hne=>by rw[(qib hne).2];simp[zG]
def e158:Entry PG:=mkL 158 [[7],[1],[]] (fun x:Tr × List Int × Str=>[qao x.1,qa8 x.2.1,.str x.2.2]) (fun x=>qd9 x.2.2/\x.2.2.length<=1100000/\x.2.1.length<=1000000/\∀i,i∈x.2.1->(qbp x.1 i).name.length<=1000000000) (fun x=>qk0 x.1 x.2.1 x.2.2)
 fun x h=>c158 (T:=[e78,e157,e203,e133a]) rfl rfl rfl rfl x.1 x.2.1 x.2.2 h.1 h.2.1 h.2.2.1 h.2.2.2
theorem k158(hT:qIn 158 T e158) {t:Tr} {L:List Int} {W:Str} (hW:qd9 W) (hl:W.length<=1100000) (hL:L.length<=1000000) (hx:∀i,i∈L->(qbp t i).name.length<=1000000000) {a:AV} {H:Heap} (ha:qco H [7] a=some (qao t)) :
  qb5 (ctx T) (.fn 158) [a,qa8 L,.str W] H=some (qa8 (qk0 t L W),H):=
 qj7 hT qme (t,L,W) ⟨hW,hl,hL,hx⟩ (by simp[qbl,ha,qam])
theorem c77(hc0:qIn 158 T e158) {s:SS} (ne:s.tree≠[]) (W:Str) (hW:qd9 W) (hl:W.length<=1100000) (hn:qrd s.tree) (ho:s.opn.length<=100000):SC T 77 [.str W] s (.tup []) ({ s with opn:=qk0 s.tree s.opn W }):=by
 have g0:=@vg0;have v0:=@vset;have kI:=fun n k f (k0:0 < k) (hf:getF k f=none)=>k158 hc0 hW hl (L:=s.opn) (by omega) (fun i _=>hn i) (thS (n:=n) k0 ne hf);refine qa1 (s0:=⟨[0,1],[.ptr 0 0,.str W],[],17,⟨2,[]::[VS 1 s]⟩⟩) Tryz.func77 rfl rfl rfl ?_
 exact zL0
def e77:Entry PG:=mkS 77 [[]] (fun z:Str=>[.str z]) (fun z s=>(qd9 z)/\(z.length<=1100000)/\(qrd s.tree)/\(s.opn.length<=100000)) (fun z s=>.tup []) (fun z s=>{ s with opn:=qk0 s.tree s.opn z }) fun z s ne h=>⟨c77 (T:=[e158]) rfl ne z h.1 h.2.1 h.2.2.1 h.2.2.2,by simp[qa6,qa2],by simp[qa2,qa6],ne⟩
theorem k77(hT:qIn 77 T e77) {s:SS} (ne:s.tree≠[]) (W:Str) (hW:qd9 W) (hl:W.length<=1100000) (hn:qrd s.tree) (ho:s.opn.length<=100000) {n k:Nat} {fr:List (Nat × Blk)} (k0:0 < k) (kn:k < n) (of:qg5 k fr):qb5 (ctx T) (.fn 77) [.ptr 0 0,.str W] ⟨n,[fr,VS k s]⟩=some (.tup [],⟨n+1,[fr,VS n ({ s with opn:=qk0 s.tree s.opn W })]⟩):=
 qcr hT inj_54 (W) ne ⟨hW,hl,hn,ho⟩ (by simp[qa6,qa2]) (by simp[qbl,qam]) k0 kn of
theorem qwr{b:Nat} {rs:List Nat} {f:List (Nat × Blk)} {r:List (List (Nat × Blk))} (h:(getF b f).isSome=true):qd3 b rs [] (f::r)=f::r:=by obtain⟨k,hk⟩:=Option.isSome_iff_exists.1 h;unfold qd3;rw[hk];rfl
theorem WpSr.perm{C:Ctx} {n:Nat} {r:Option Nat} {Q:Out->St->Prop} {c:Code} {ks:List Nat} {vs:List AV} {ts:List (Nat × AV)} {sz:Nat} {H:Heap} (H2:Heap) (hn:H2.n=H.n) (p:H2.ents.Perm H.ents)
  (h:WpSr C n r c ⟨ks,vs,ts,sz,H2⟩ Q):WpSr C n r c ⟨ks,vs,ts,sz,H⟩ Q:=by
 intro b a w hb ha K hK;obtain⟨ρ,g1,g2,g3,g4⟩:=ha;have g1':Since b ρ H w:=g1;have g2':Sim ρ H w:=g2;refine h b a w hb ⟨ρ,?_,g2'.perm hn p,⟨g3.size,g3.val⟩,?_⟩ K hK
 ·exact { fz:=g1.fz,os:=g1.os,tape:=g1.tape,output:=g1.output,size:=g1.size,keeps:=g1.keeps,rows:=fun e he=>g1.rows e (p.mem_iff.1 he),cold:=g1.cold,low:=g1.low,num:=by rw[show (St.mk ks vs ts sz H2).H.n=H2.n from rfl,hn];exact g1'.num }
 ·have g4':Dfr b.w.heap.size ρ H w a.defers b.ds:=g4;obtain⟨rs,h1,h2,h3⟩:=g4';exact⟨rs,h1,h2,fun r hr=>⟨(h3 r hr).ge,(h3 r hr).obj,(h3 r hr).cold,fun e he=>(h3 r hr).apart e (p.mem_iff.1 he)⟩⟩
structure JS where
 s:SS
 t:Tk
 b:Str
section
variable {x x':JS} {n k jb tb:Nat} {f fr:List (Nat × Blk)}
def offJ(k jb tb:Nat) (fr:List (Nat × Blk)):Prop:=∀e,e∈fr->e.1≠0/\e.1≠k/\e.1≠jb/\e.1≠tb
@[simp]theorem offJ_nil:offJ k jb tb []=True:=by simp[offJ]
@[simp]theorem offJ_cons{e:Nat × Blk} {r:List (Nat × Blk)}:offJ k jb tb (e::r)=((e.1≠0/\e.1≠k/\e.1≠jb/\e.1≠tb)/\offJ k jb tb r):=by simp[offJ]
structure dJ (n k jb tb:Nat):Prop where
 k0:k≠0
 j0:jb≠0
 t0:tb≠0
 kj:k≠jb
 kt:k≠tb
 jt:jb≠tb
 kn:k < n
 jn:jb < n
 tn:tb < n
end
section
variable {α:Type} (f:FuncId) (ss:List (List Nat)) (enc:α->List AV) (pre:α->JS->Prop) (post:α->JS->AV) (st:α->JS->JS)
open Classical in
variable {f ss enc pre post st}
end
structure TS where
 s:SS
 t:Tk
section
variable {x x':TS} {n k tb:Nat} {f fr:List (Nat × Blk)}
def qni(k tb:Nat) (fr:List (Nat × Blk)):Prop:=∀e,e∈fr->e.1≠0/\e.1≠k/\e.1≠tb
@[simp]theorem offT_nil:qni k tb []=True:=by simp[qni]
@[simp]theorem offT_cons{e:Nat × Blk} {r:List (Nat × Blk)}:qni k tb (e::r)=((e.1≠0/\e.1≠k/\e.1≠tb)/\qni k tb r):=by simp[qni]
structure dT (n k tb:Nat):Prop where
 k0:k≠0
 t0:tb≠0
 kt:k≠tb
 kn:k < n
 tn:tb < n
end
theorem zcq{tb:Nat} {c d:List AV}:∀{f1 f2 g1 g2:List (Nat × Blk)},(∀e,e∈f1->e.1≠tb)->(∀e,e∈g1->e.1≠tb)->f1++(tb,Blk.cells c)::f2=g1++(tb,Blk.cells d)::g2->f1=g1/\c=d/\f2=g2
 |[],f2,[],g2,_,_,h=>by simp at h;exact⟨rfl,h.1,h.2⟩
 |[],f2,y::g1,g2,_,hg,h=>by simp only[jv,List.cons_append,jl]at h;exact absurd (by rw[<- h.1]) (hg y (by simp))
 |x::f1,f2,[],g2,hf,_,h=>by simp only[jv,List.cons_append,jl]at h;exact absurd (by rw[h.1]) (hf x (by simp))
 |x::f1,f2,y::g1,g2,hf,hg,h=>by simp only[List.cons_append,jl]at h;obtain⟨a,b,c⟩:=zcq (fun e he=>hf e (by simp[he])) (fun e he=>hg e (by simp[he])) h.2;exact⟨by rw[h.1,a],b,c⟩
section
variable {α:Type} (f:FuncId) (ss:List (List Nat)) (enc:α->List AV) (pre:α->TS->Prop) (post:α->TS->AV) (st:α->TS->TS)
open Classical in
variable {f ss enc pre post st}
end
@[simp]theorem dT_iff{n k tb:Nat}:dT n k tb=(k≠0/\tb≠0/\k≠tb/\k < n/\tb < n):=propext ⟨fun h=>⟨h.k0,h.t0,h.kt,h.kn,h.tn⟩,fun h=>⟨h.1,h.2.1,h.2.2.1,h.2.2.2.1,h.2.2.2.2⟩⟩
@[simp]theorem dJ_iff{n k jb tb:Nat}:dJ n k jb tb=(k≠0/\jb≠0/\tb≠0/\k≠jb/\k≠tb/\jb≠tb/\k < n/\jb < n/\tb < n):=propext ⟨fun h=>⟨h.k0,h.j0,h.t0,h.kj,h.kt,h.jt,h.kn,h.jn,h.tn⟩,fun h=>⟨h.1,h.2.1,h.2.2.1,h.2.2.2.1,h.2.2.2.2.1,h.2.2.2.2.2.1,h.2.2.2.2.2.2.1,h.2.2.2.2.2.2.2.1,h.2.2.2.2.2.2.2.2⟩⟩
set_option maxHeartbeats 1000000
structure BOk (m:Nat) (s:SS):Prop where
 fo:s.foster=false
 nm:qrd s.tree
 ln:s.tree.length<=m
 kd:qcf s.tree m
 op:s.opn.length<=m
theorem BOk.sok{m:Nat} {s:SS} (h:BOk m s) (hm:m<=90000):SOk s:=⟨by have:=h.ln;omega,fun n hn=>by have:=h.kd n hn;omega,by have:=h.op;omega⟩
theorem BOk.opn{m:Nat} {s:SS} (h:BOk m s) {o:List Int} (ho:o.length<=s.opn.length):BOk m { s with opn:=o }:=⟨h.fo,h.nm,h.ln,h.kd,by have:=h.op;simp only;omega⟩
def qfv(o:List Int) (i:Int):Bool:=!decide (i = -1) && !decide (i∈o)
theorem c123(hc0:qIn 128 T e128) {s:SS} (ne:s.tree≠[]) (i:Int) (ho:s.opn.length<=100000):SC T 123 [.int .i64 i] s (.bool (qfv s.opn i)) (s):=by
 have kc0:=@k128 T hc0;have g0:=@vg0;have v0:=@vset;have kC:=fun H=>kc0 (L:=s.opn) i (by omega) H;have e:qfv s.opn i=(!decide (i = -1) && !decide (i∈s.opn)):=rfl;rw[e];clear e kc0 ho;generalize decide (i∈s.opn)=b at *;refine qa1 (s0:=⟨[0,1,4],[.ptr 0 0,.int .i64 i,uD],[],16,⟨2,[]::[VS 1 s]⟩⟩) Tryz.func123 rfl rfl rfl ?_
 exact zL0
def e123:Entry PG:=mkS 123 [[]] (fun z:Int=>[.int .i64 z]) (fun z s=>(s.opn.length<=100000)) (fun z s=>.bool (qfv s.opn z)) (fun z s=>s) fun z s ne h=>⟨c123 (T:=[e128]) rfl ne z h,by simp[qa6,qa2],by simp[qa2,qa6],ne⟩
theorem k123(hT:qIn 123 T e123) {s:SS} (ne:s.tree≠[]) (i:Int) (ho:s.opn.length<=100000) {n k:Nat} {fr:List (Nat × Blk)} (k0:0 < k) (kn:k < n) (of:qg5 k fr):qb5 (ctx T) (.fn 123) [.ptr 0 0,.int .i64 i] ⟨n,[fr,VS k s]⟩=some (.bool (qfv s.opn i),⟨n+1,[fr,VS n (s)]⟩):=
 qcr hT inj_162 (i) ne ho (by simp[qa6,qa2]) (by simp[qbl,qam]) k0 kn of
def qpk(o a:List Int):Nat->Nat
 |0=>0
 |k+1=>if qfv o (a.getD k 0)=true then qpk o a k else k+1
theorem qo8(o a:List Int):∀k,qpk o a k<=k
 |0=>ja 0
 |k+1=>by
  unfold qpk;split
  ·have:=qo8 o a k;omega
  ·exact ja _
def qgg(s:SS) (i:Int):SS:={s with tree:=(elS s 0 (qa0 s.tree i).name (qa0 s.tree i).attrs).tree,opn:=(elS s 0 (qa0 s.tree i).name (qa0 s.tree i).attrs).opn,act:=s.act.map (swp i (s.tree.length:Int))}
def qhc(s:SS):List Int:=s.act.drop (qpk s.opn s.act s.act.length)
def qr4(s:SS):SS:=(qhc s).foldl qgg s
structure RcOk (s:SS):Prop where
 op:s.opn.length<=100000
 ac:s.act.length<=100000
 st:∀j,j<=(qhc s).length->SOk (((qhc s).take j).foldl qgg s)/\(((qhc s).take j).foldl qgg s).foster=false/\(((qhc s).take j).foldl qgg s).act.length<=100000
 rg:∀j (h:j < (qhc s).length),0<=(qhc s)[j]/\(qhc s)[j] < ((((qhc s).take j).foldl qgg s).tree.length:Int)/\(qa0 (((qhc s).take j).foldl qgg s).tree (qhc s)[j]).attrs.length<=1000000
theorem recT_ne{s:SS} (i:Int):(qgg s i).tree≠[]:=qdi _ _ _ _
theorem qkp:∀(l:List Int) {s:SS},s.tree≠[]->(l.foldl qgg s).tree≠[]
 |[],_,h=>h
 |i::l,s,h=>qkp l (recT_ne i)
theorem c39(hc0:qIn 123 T e123) (hc1:qIn 53 T e53) (hc2:qIn 124 T e124) {s:SS} (ne:s.tree≠[])  (h:RcOk s):SC T 39 [] s (.tup []) (qr4 s):=by
 have kc0:=@k123 T hc0;have kc1:=@k53 T hc1;have kc2:=@k124 T hc2;have g0:=@vg0;have v0:=@vset;have lA:=fun H=>qgi (H:=H) (L:=s.act);have n9:(qr4 s).tree≠[]:=qkp _ ne;have hop:=h.op;have hac:=h.ac;obtain⟨f0,hf0⟩ : ∃f0,f0=qpk s.opn s.act s.act.length:=⟨_,rfl⟩;have hfl:f0<=s.act.length:=by rw[hf0];exact qo8 _ _ _
 have fS:∀(s:SS) (f:List (Nat × Blk)) (n k:Nat),0 < k->s.tree≠[]->getF 0 f=none->getF k f=none->FitH 2 [(k,2),(0,0)] [] ⟨n,[f,VS k s]⟩ ⟨3,[[],VS 2 s]⟩:=fun s f n k k0 ne h1 h2=>qyn ⟨by omega,by omega,by omega⟩ (by omega) k0 ne h1 h2;refine qa1 (s0:=⟨[0,2,4,5,6,33,34,35],[.ptr 0 0,uD,uD,uD,uD,uD,uD,uD],[],65,⟨2,[]::[VS 1 s]⟩⟩) Tryz.func39 rfl rfl rfl ?_;apply qad;apply qR;simp[zS,g0,ne,SS.post,lA];refine qst (fun _:Unit=>(⟨[0,2,4,5,6,33,34,35],[.ptr 0 0,.int .i64 (f0:Int),uD,uD,uD,uD,uD,uD],[],65,⟨3,[[],VS 2 s]⟩⟩ : St)) (fun _=>True) ?rest fun hE=>?_
 case rest=>
  intro _ _;have hd:=fun H=>qno (H:=H) (L:=s.act) (k:=f0) hfl;obtain⟨l,hl⟩ : ∃l,l=qhc s:=⟨_,rfl⟩;have hl':s.act.drop f0=l:=by rw[hl,hf0];rfl
  have hst:=h.st;have hrg:=h.rg;rw[<- hl]at hst;rw[hl']at hd;have lL:=fun H=>qgi (H:=H) (L:=l);have eE:qr4 s=(l.take l.length).foldl qgg s:=by rw[yx,hl];rfl
  rw[eE];have hrg:∀j (h:j < l.length),0<=l[j]/\l[j] < (((l.take j).foldl qgg s).tree.length:Int)/\(qa0 ((l.take j).foldl qgg s).tree l[j]).attrs.length<=1000000:=by subst hl;exact hrg
  have eN:∀j (h:j < l.length),(l.take (j+1)).foldl qgg s=qgg ((l.take j).foldl qgg s) l[j]:=fun j h=>by rw[jj h,yE];rfl
  have nS:∀j,((l.take j).foldl qgg s).tree≠[]:=fun j=>qkp _ ne;have e0:(l.take 0).foldl qgg s=s:=rfl;have hll:l.length<=100000:=by rw[<- hl'];simp;omega
  obtain⟨st,hst0⟩ : ∃st:Nat->SS,st=fun j=>(l.take j).foldl qgg s:=⟨_,rfl⟩;have hst:∀j,j<=l.length->SOk (st j)/\(st j).foster=false/\(st j).act.length<=100000:=by rw[hst0];exact hst
  have hrg:∀j (h:j < l.length),0<=l[j]/\l[j] < ((st j).tree.length:Int)/\(qa0 (st j).tree l[j]).attrs.length<=1000000:=by rw[hst0];exact hrg
  have eN:∀j (h:j < l.length),st (j+1)=qgg (st j) l[j]:=by rw[hst0];exact eN
  have nS:∀j,(st j).tree≠[]:=by rw[hst0];exact nS
  have e0:st 0=s:=by rw[hst0];rfl
  rw[show (l.take l.length).foldl qgg s=st l.length by rw[hst0]];clear hst0 eE hl hl' h lA hac hop n9;apply qR;simp[zS,g0,ne,SS.post,hd,lL];apply qa3;refine qb6 (fun j:Nat=>(⟨[0,2,4,5,6,33,34,35],[.ptr 0 0,uD,uD,uD,uD,qa8 l,.int .i64 (l.length:Int),.int .i64 (j:Int)],[],65,⟨3,[[],VS 2 (st j)]⟩⟩ : St)) (fun j=>j<=l.length) (fun j=>l.length - j) [(2,2),(0,0)] [] 0 (jx _)
   ⟨rfl,rfl,rfl,by simp[qb8,qas,qaw,qa2,qa8],by rw[e0];exact fS s _ _ 2 (by omega) ne (by simp[getF]) (by simp[getF])⟩ ?_
  intro j hj B hB;apply qR;simp[zS];repeat apply wq
  refine qbe rfl (fun h=>?_) fun h=>?_
  ·simp at h;apply qa5;simp;repeat apply wq
   apply qa3;obtain⟨o1,o2,o3⟩:=hst j (by omega);obtain⟨r1,r2,r3⟩:=hrg j h;have en:=eN j h;have hat:=atI h;have nj:=nS j;have nj1:=nS (j+1);generalize l[j]=i at *;obtain⟨u,rfl⟩ : ∃u:Nat,i=u:=⟨i.toNat,by omega⟩;obtain⟨x,hx⟩ : ∃x,x=st j:=⟨_,rfl⟩;rw[<- hx]at o1 o2 o3 r2 r3 en nj ⊢;rw[en]at nj1;have ix:=ixN (k:=2) (t:=x.tree) (i:=u) (by omega);have sb:=subN (t:=x.tree) (i:=u) (by omega);have gk:=@vgk;have kE:=fun n k fr=>@kc1 x nj ⟨1,(qa0 x.tree u).name,(qa0 x.tree u).attrs,false,[]⟩ 0 o2 o1 r3 n k fr;have kW:=fun H=>kc2 (L:=x.act) (by omega) (u:Int) (x.tree.length:Int) H;have bld:qe6 PG 48 [(0,.int .i64 1),(1,.str (qa0 x.tree u).name),(2,qae (qa0 x.tree u).attrs)]=some (.agg [.int .i64 1,.str (qa0 x.tree u).name,qae (qa0 x.tree u).attrs,.bool false,.str []]):=rfl;have e1:elS x 0 (qa0 x.tree u).name (qa0 x.tree u).attrs={x with tree:=(elS x 0 (qa0 x.tree u).name (qa0 x.tree u).attrs).tree,opn:=(elS x 0 (qa0 x.tree u).name (qa0 x.tree u).attrs).opn}:=rfl;have q1:(elS x 0 (qa0 x.tree u).name (qa0 x.tree u).attrs).tree≠[]:=qdi _ _ _ _;rw[e1]at kE;simp only[qlx,Tk.cs]at kE;have er:qgg x (u:Int)={x with tree:=(elS x 0 (qa0 x.tree u).name (qa0 x.tree u).attrs).tree,opn:=(elS x 0 (qa0 x.tree u).name (qa0 x.tree u).attrs).opn,act:=x.act.map (swp u (x.tree.length:Int))}:=rfl;rw[er]at en nj1;generalize (elS x 0 (qa0 x.tree u).name (qa0 x.tree u).attrs).tree=t1 at *;generalize (elS x 0 (qa0 x.tree u).name (qa0 x.tree u).attrs).opn=p1 at *;generalize x.act.map (swp (u:Int) (x.tree.length:Int))=A2 at *;apply qR;simp[zS,hat];apply qR;simp[zS,g0,gk,nj,SS.post,ix,sb,nV];apply qR;simp[zS,bld,kE,Nd.cs];apply qR;simp[zS,g0,q1,SS.post,kW,v0];apply qR;simp[zS,qbb (show j<=1000000000 by omega)];refine hB _ (j+1) (by omega) (by omega) ⟨[(4,2),(0,0)],[],rfl,rfl,rfl,by simp[qb8,qas,qaw,qa2,qa8],?_⟩;rw[en];exact fS _ _ _ _ (by omega) q1 (by simp[getF]) (by simp[getF])
  ·simp at h;have hj2:j=l.length:=(by omega);subst hj2;apply qak;simp;refine⟨[],rfl,?_⟩;exact qc8 rfl rfl rfl (by decide) (nS _) rfl rfl
 apply qa3;refine qb6 (fun k:Nat=>(⟨[0,2,4,5,6,33,34,35],[.ptr 0 0,.int .i64 (k:Int),uD,uD,uD,uD,uD,uD],[],65,⟨3,[[],VS 2 s]⟩⟩ : St)) (fun k=>k<=s.act.length/\f0=qpk s.opn s.act k) (fun k=>k) [(1,2),(0,0)] [] s.act.length ⟨ja _,hf0⟩
  ⟨rfl,rfl,rfl,by simp[qb8,qas,qaw,qa2],fS s _ _ 1 (by omega) ne (by simp[getF]) (by simp[getF])⟩ ?_
 rintro k ⟨hk,he⟩ B hB;cases k with
 |zero=>apply qR;simp[zS];apply qaj rfl;apply qak;simp;have:f0=0:=he;rw[this]at hE;exact hE _ () trivial ⟨[(2,2),(0,0)],[],rfl,rfl,rfl,by simp[qb8,qas,qaw,qa2],fS s _ _ 2 (by omega) ne (by simp[getF]) (by simp[getF])⟩
 |succ k=>
  have hat:=atI (L:=s.act) (i:=k) (by omega);have kL:=fun n j fr=>@kc0 s ne s.act[k] hop n j fr;have hw:wr .i64 (((k+1:Nat):Int) - 1)=some (k:Int):=by rw[show (((k+1:Nat):Int) - 1)=(k:Int) by omega];exact qbi (by omega) (by omega)
  have hg:s.act.getD k 0=s.act[k]:=by have:k < s.act.length:=(by omega);simp[List.getD_eq_getElem?_getD,this]
  have hr:qpk s.opn s.act (k+1)=if qfv s.opn s.act[k]=true then qpk s.opn s.act k else k+1:=by show (if qfv s.opn (s.act.getD k 0)=true then _ else _)=_;rw[hg]
  rw[hr]at he;have hp:(0:Int) < ((k+1:Nat):Int):=by omega
  obtain⟨kk,hkk⟩ : ∃kk:Int,kk=((k+1:Nat):Int):=⟨_,rfl⟩;rw[<- hkk]at hw hp ⊢;cases hb:qfv s.opn s.act[k]with
  |false=>rw[hb]at he kL;apply qR;simp[zS,hp,g0,ne,SS.post,hw,hat,kL];apply qaj rfl;apply qak;simp;have hk2:(f0:Int)=kk:=(by rw[hkk,he];rfl);rw[hk2]at hE;exact hE _ () trivial ⟨[(3,2),(0,0)],[],rfl,rfl,rfl,by simp[qb8,qas,qaw,qa2],fS s _ _ 3 (by omega) ne (by simp[getF]) (by simp[getF])⟩
  |true=>rw[hb]at he kL;apply qR;simp[zS,hp,g0,ne,SS.post,hw,hat,kL];apply qag rfl;apply qa5;simp;apply qa3;apply qR;simp[zS,hw];exact hB _ k (by omega) ⟨by omega,he⟩ ⟨[(3,2),(0,0)],[],rfl,rfl,rfl,by simp[qb8,qas,qaw,qa2],fS s _ _ 3 (by omega) ne (by simp[getF]) (by simp[getF])⟩
theorem inj_39(x y:Unit) (h:(fun z:Unit=>([]:List AV)) x=(fun z:Unit=>([]:List AV)) y):x=y:=by rfl
def e39:Entry PG:=mkS 39 [] (fun z:Unit=>[]) (fun z s=>(RcOk s)) (fun z s=>.tup []) (fun z s=>qr4 s) fun z s ne h=>⟨c39 (T:=[e123,e53,e124]) rfl rfl rfl ne  h,by simp[qa6,qa2],by simp[qa2,qa6],by(try exact n9);(all_goals exact qkp _ ne)⟩
theorem k39(hT:qIn 39 T e39) {s:SS} (ne:s.tree≠[])  (h:RcOk s) {n k:Nat} {fr:List (Nat × Blk)} (k0:0 < k) (kn:k < n) (of:qg5 k fr):qb5 (ctx T) (.fn 39) [.ptr 0 0] ⟨n,[fr,VS k s]⟩=some (.tup [],⟨n+1,[fr,VS n (qr4 s)]⟩):=
 qcr hT inj_39 () ne h (by simp[qa6,qa2]) (by simp[qbl,qam]) k0 kn of
theorem qtt{p:Int->Bool}:∀(L:List Int) (k:Nat),qb7 p L k < ((k+L.length:Nat):Int)\/qb7 p L k = -1
 |[],k=>.inr rfl
 |a::r,k=>by
  unfold qb7;split
  ·left;simp only[jE];omega
  ·rcases qtt (p:=p) r (k+1)with h|h
   ·left;simp only[jE];omega
   ·exact .inr h
theorem qra:∀{L M:List Int},L.Nodup->(∀x,x∈L->x∈M)->L.length<=M.length
 |[],M,_,_=>jx _
 |x::L,M,hn,hs=>by have hx:=hs x (by simp);have h1:=qra (L:=L) (M:=M.erase x) (jp.1 hn).2 (fun y hy=>by have:y≠x:=fun e=>(jp.1 hn).1 (e ▸ hy);exact(List.mem_erase_of_ne this).2 (hs y (by simp[hy])));rw[List.length_erase_of_mem hx]at h1;have:=List.length_pos_of_mem hx;simp;omega
def NDm(l:List Int):Prop:=l.Pairwise fun x y=>x=y->x = -1
structure BI (n d a c e:Nat) (s:SS):Prop where
 tb:TB n n d a s.tree
 fo:s.foster=false
 hd:s.opn.head? = some 1
 rg:∀i,i∈s.opn->1<=i/\i < (s.tree.length:Int)
 nd:s.opn.Nodup
 ac:∀i,i∈s.act->i = -1\/(2<=i/\i < (s.tree.length:Int))
 an:NDm s.act
 al:s.act.length<=e
 fm:s.form=0\/2<=s.form
 cv:∃M:List Int,M.length<=c/\∀x,(x∈s.opn\/(x∈s.act/\x ≠ -1))->x∈M
 h1:2<=s.tree.length/\(qa0 s.tree 1).kind=1/\(qa0 s.tree 1).space=0/\(qa0 s.tree 1).name=[104,116,109,108]
section
variable {n d a c e n' d' a' c' e':Nat} {s:SS}
theorem BI.mono(h:BI n d a c e s) (h1:n<=n') (h2:d<=d') (h3:a<=a') (h4:c<=c') (h5:e<=e'):BI n' d' a' c' e' s:=
 ⟨h.tb.mono h1 h1 h2 h3,h.fo,h.hd,h.rg,h.nd,h.ac,h.an,by have:=h.al;omega,h.fm,by obtain⟨M,hM,h⟩:=h.cv;exact⟨M,by omega,h⟩,h.h1⟩
theorem qx0{t t':Tr} (h:2<=t.length/\(qa0 t 1).kind=1/\(qa0 t 1).space=0/\(qa0 t 1).name=[104,116,109,108]) (k:KeepN t t'):2<=t'.length/\(qa0 t' 1).kind=1/\(qa0 t' 1).space=0/\(qa0 t' 1).name=[104,116,109,108]:=by obtain⟨h0,h1,h2,h3⟩:=h;have:=k.2 1 (by omega);rw[show ((1:Nat):Int)=1 from rfl]at this;exact⟨j6 h0 k.1,by rw[this.1,h1],by rw[this.2.1,h2],by rw[this.2.2,h3]⟩
theorem BI.ne(h:BI n d a c e s):s.tree≠[]:=fun e=>by have:=h.h1.1;rw[e]at this;simp at this
theorem BI.on(h:BI n d a c e s):s.opn≠[]:=fun e=>by have:=h.hd;rw[e]at this;simp at this
theorem BI.ol(h:BI n d a c e s):s.opn.length<=c:=by obtain⟨M,hM,hc⟩:=h.cv;exact j6 (qra h.nd fun x hx=>hc x (.inl hx)) hM
theorem BI.le(h:BI n d a c e s) {m:Nat} (hm:n<=m):qcf s.tree m:=h.tb.le hm
theorem BI.sok(h:BI n d a c e s) (hn:n<=90000) (hc:c<=90000):SOk s:=⟨by have:=h.tb.n1;omega,h.le (by omega),by have:=h.ol;omega⟩
theorem BI.r0(h:BI n d a c e s):∀i,i∈s.opn->0<=i/\i < (s.tree.length:Int):=fun i hi=>by have:=h.rg i hi;omega
theorem BI.top(h:BI n d a c e s):1<=qdw s.opn/\qdw s.opn < (s.tree.length:Int):=by have ho:=h.on;unfold qdw;rw[List.getLast?_eq_some_getLast ho];exact h.rg _ (List.getLast_mem ho)
theorem BI.sub(h:BI n d a c e s) {o:List Int} (hs:o.Sublist s.opn) (hh:o.head? = some 1):BI n d a c e { s with opn:=o }:=by obtain⟨M,hM,hc⟩:=h.cv;exact⟨h.tb,h.fo,hh,fun i hi=>h.rg i (hs.subset hi),hs.nodup h.nd,h.ac,h.an,h.al,h.fm,⟨M,hM,fun x hx=>hc x (hx.imp (fun h=>hs.subset h) id)⟩,h.h1⟩
def PreL(o L:List Int):Prop:=o <+: L/\(L≠[]->o≠[])
theorem PreL.refl(L:List Int):PreL L L:=⟨List.prefix_refl L,id⟩
theorem PreL.trans{o p L:List Int} (h:PreL o p) (g:PreL p L):PreL o L:=⟨h.1.trans g.1,fun hl=>h.2 (g.2 hl)⟩
theorem PreL.head{o L:List Int} (h:PreL o L):o.head? = L.head?:=by
 cases L with
 |nil=>rw[List.prefix_nil.1 h.1]
 |cons x r=>
  cases o with
  |nil=>exact absurd rfl (h.2 (by simp))
  |cons y q=>obtain⟨z,hz⟩:=h.1;simp at hz;simp[hz.1]
theorem BI.pre(h:BI n d a c e s) {o:List Int} (p:PreL o s.opn):BI n d a c e { s with opn:=o }:=h.sub p.1.sublist (by rw[p.head];exact h.hd)
theorem qnq{X:Type} {goes:X->Int->Bool} {nx:X->Int->X}:∀(x:X) (l:List Int),(qlw goes nx x l).1 <:+ l/\(l≠[]->(qlw goes nx x l).1≠[])
 |x,[]=>⟨List.suffix_refl _,id⟩
 |x,[i]=>⟨List.suffix_refl _,fun _=>by simp[qlw]⟩
 |x,i::j::r=>by
  unfold qlw;simp only;split
  ·obtain⟨h1,h2⟩:=qnq (goes:=goes) (nx:=nx) (nx x i) (j::r);exact⟨h1.trans (List.suffix_cons _ _),fun _=>h2 (by simp)⟩
  ·exact⟨List.suffix_refl _,fun _=>by simp⟩
theorem qr8(t:Tr) (L:List Int) (W:Str):PreL (qiu t L W) L:=by unfold qiu;obtain⟨h1,h2⟩:=qnq (goes:=fun(b:Bool) _=>!b) (nx:=fun b i=>if b=true then true else qcy (qbp t i) W) false L.reverse;refine⟨by rw[<- List.reverse_prefix]at h1;simpa using h1,fun hl=>?_⟩;have:=h2 (by simpa using hl);simpa using this
theorem zac(t:Tr) (L:List Int) (W:Str):PreL (qk0 t L W) L:=by unfold qk0;obtain⟨h1,h2⟩:=qnq (goes:=fun(_:Unit) i=>qrx t W i) (nx:=fun _ _=>()) () L.reverse;refine⟨by rw[<- List.reverse_prefix]at h1;simpa using h1,fun hl=>?_⟩;have:=h2 (by simpa using hl);simpa using this
theorem pre_take(L:List Int) {k:Nat} (hk:1<=k):PreL (L.take k) L:=⟨List.take_prefix _ _,fun hl=>by
 cases L with
 |nil=>exact absurd rfl hl
 |cons x r=>obtain⟨j,rfl⟩ : ∃j,k=j+1:=⟨k - 1,by omega⟩;simp⟩
theorem BI.drop(h:BI n d a c e s) {i:Int} (hi:i≠1):BI n d a c e { s with opn:=qbm s.opn i }:=by
 refine h.sub yH ?_;have:=h.hd;cases hs:s.opn with
 |nil=>rw[hs]at this;simp at this
 |cons x r=>rw[hs]at this;simp at this;subst this;have:¬ (1:Int)=i:=fun e=>hi e.symm;simp[qbm,this]
theorem BI.act(h:BI n d a c e s) {A:List Int} (hs:A.Sublist s.act):BI n d a c e { s with act:=A }:=by obtain⟨M,hM,hc⟩:=h.cv;exact⟨h.tb,h.fo,h.hd,h.rg,h.nd,fun i hi=>h.ac i (hs.subset hi),List.Pairwise.sublist hs h.an,by have:=hs.length_le;have:=h.al;simp only;omega,h.fm,⟨M,hM,fun x hx=>hc x (hx.imp id fun h=>⟨hs.subset h.1,h.2⟩)⟩,h.h1⟩
theorem BI.elS(h:BI n d a c e s) (sp:Int) {nm:Str} {L:List At1} (hn:nm.length<=60) (hL:L.length<=a):BI (n+1) d a (c+1) e (elS s sp nm L):=by
 obtain⟨M,hM,hc⟩:=h.cv;have kp:KeepN s.tree (elT s.tree (qdw s.opn) sp nm L):=qrm _ _ _ _;have l:(elT s.tree (qdw s.opn) sp nm L).length=s.tree.length+1:=qre _ _ _;refine⟨h.tb.new _ _ _ hn (by simp) hL,h.fo,?_,fun i hi=>?_,?_,fun i hi=>?_,h.an,h.al,h.fm,⟨(s.tree.length:Int)::M,by simp;omega,fun x hx=>?_⟩,qx0 h.h1 kp⟩
 ·have:=h.hd;have ho:=h.on;simp only[Go.Proofs.YtnfdakclfmchfaaGreat.elS];rw[List.head?_append,this];rfl
 ·simp only[Go.Proofs.YtnfdakclfmchfaaGreat.elS,je,j2]at hi ⊢;rw[l];rcases hi with hi|rfl
  ·have:=h.rg i hi;omega
  ·have:=h.h1.1;omega
 ·simp only[Go.Proofs.YtnfdakclfmchfaaGreat.elS];rw[j4];refine⟨h.nd,by simp,fun x hx y hy=>?_⟩;simp at hy;have:=h.rg x hx;omega
 ·simp only[Go.Proofs.YtnfdakclfmchfaaGreat.elS]at hi ⊢;rw[l];have:=h.ac i hi;omega
 ·simp only[Go.Proofs.YtnfdakclfmchfaaGreat.elS,je,j2]at hx;rcases hx with(hx|rfl)|hx
  ·exact ji _ (hc x (.inl hx))
  ·simp
  ·exact ji _ (hc x (.inr hx))
theorem elS_open(s:SS) (sp:Int) (nm:Str) (L:List At1):(elS s sp nm L).opn=s.opn++[(s.tree.length:Int)]:=rfl
theorem qzm{i b x y:Int} (hx:x≠b) (hy:y≠b) (h:swp i b x=swp i b y):x=y:=by
 unfold swp at h;split at h<;>split at h
 ·omega
 ·exact absurd h.symm hy
 ·exact absurd h hx
 ·exact h
theorem zat{l:List Int} {i b:Int} (h:NDm l) (hb:∀x,x∈l->x≠b) (hi:i ≠ -1):NDm (l.map (swp i b)):=by unfold NDm at *;rw[List.pairwise_map];refine List.Pairwise.imp_of_mem (fun {x y} hx hy hxy e=>?_) h;have:=qzm (hb x hx) (hb y hy) e;have e1:=hxy this;subst e1;have e2:=this;unfold swp;rw[jm (fun h=>hi h.symm)]
theorem nd_map{l:List Int} {i b:Int} (h:l.Nodup) (hb:∀x,x∈l->x≠b):(l.map (swp i b)).Nodup:=by unfold List.Nodup at *;rw[List.pairwise_map];exact List.Pairwise.imp_of_mem (fun {x y} hx hy hxy e=>hxy (qzm (hb x hx) (hb y hy) e)) h
theorem qmb{l:List Int} {i b x:Int} (h:x∈l.map (swp i b)):(x∈l/\x≠i)\/(x=b/\i∈l):=by
 obtain⟨y,hy,rfl⟩:=jw.1 h;unfold swp;split
 next e=>exact .inr ⟨rfl,e ▸ hy⟩
 next e=>exact .inl ⟨hy,e⟩
theorem qml{M:List Int} {i b x:Int} (h:x∈M) (hx:x≠i):x∈M.map (swp i b):=jw.2 ⟨x,h,by unfold swp;rw[jm hx]⟩
theorem qmm{M:List Int} {i b:Int} (h:i∈M):b∈M.map (swp i b):=jw.2 ⟨i,h,by unfold swp;rw[jo rfl]⟩
end
theorem qwk(o A:List Int):∀k,k<=A.length->∀j,qpk o A k<=j->j < k->qfv o (A.getD j 0)=true
 |0,_,j,_,h=>by omega
 |k+1,hk,j,h1,h2=>by
  unfold qpk at h1;split at h1
  ·rename_i hl;by_cases e:j=k
   ·subst e;exact hl
   ·exact qwk o A k (by omega) j h1 (by omega)
  ·omega
theorem ql5(s:SS):∀i,i∈qhc s->qfv s.opn i=true:=fun i hi=>by unfold qhc at hi;obtain⟨j,hj,rfl⟩:=yG hi;rw[jU];simp at hj;have:=qwk s.opn s.act s.act.length (ja _) (qpk s.opn s.act s.act.length+j) (by omega) (by omega);rw[List.getD_eq_getElem?_getD,List.getElem?_eq_getElem (by omega)]at this;exact this
theorem BI.rec1{n d a c e:Nat} {s:SS} (h:BI n d a c e s) {A R:List Int} {i:Int} (hs:s.act=A++i::R) (hl:qfv s.opn i=true):BI (n+1) d a c e (qgg s i)/\(∃A',(qgg s i).act=A'++R/\A'.length=A.length+1)/\(qgg s i).opn=s.opn++[(s.tree.length:Int)]/\(qgg s i).tree.length=s.tree.length+1:=by
 obtain⟨M,hM,hc⟩:=h.cv;simp only[qfv,jf,yn,yh]at hl;have hia:i∈s.act:=by rw[hs];simp
 obtain⟨i2,il⟩ : 2<=i/\i < (s.tree.length:Int):=by rcases h.ac i hia with h|h;exact absurd h hl.1;exact h
 obtain⟨at1,at2,_⟩:=h.tb.at_ (i:=i) (by omega) il;have he:=h.elS (nm:=(qa0 s.tree i).name) (L:=(qa0 s.tree i).attrs) 0 at2 at1;have l:(qgg s i).tree.length=s.tree.length+1:=qre _ _ _;have hfr:∀x,x∈s.act->x≠(s.tree.length:Int):=fun x hx=>by have:=h.ac x hx;omega
 refine⟨⟨he.tb,he.fo,he.hd,he.rg,he.nd,fun x hx=>?_,zat h.an hfr hl.1,by simp only[qgg,jD];exact h.al,he.fm,⟨M.map (swp i (s.tree.length:Int)),by simpa using hM,fun x hx=>?_⟩,he.h1⟩,⟨A.map (swp i (s.tree.length:Int))++[(s.tree.length:Int)],?_,by simp⟩,rfl,l⟩
 ·rw[l];rcases qmb hx with⟨hx,_⟩|⟨rfl,_⟩
  ·have:=h.ac x hx;omega
  ·have:=h.h1.1;omega
 ·rcases hx with hx|⟨hx,hx1⟩
  ·have hx:x∈s.opn++[(s.tree.length:Int)]:=hx;rw[je,j2]at hx;rcases hx with hx|rfl
   ·exact qml (hc x (.inl hx)) fun e=>hl.2 (e ▸ hx)
   ·exact qmm (hc i (.inr ⟨hia,hl.1⟩))
  ·rcases qmb hx with⟨hx,hxi⟩|⟨rfl,_⟩
   ·exact qml (hc x (.inr ⟨hx,hx1⟩)) hxi
   ·exact qmm (hc i (.inr ⟨hia,hl.1⟩))
 ·simp only[qgg,hs,j5,List.map_cons,List.append_assoc,List.cons_append,jv];have e1:swp i (s.tree.length:Int) i=(s.tree.length:Int):=by unfold swp;rw[jo rfl]
  have e2:R.map (swp i (s.tree.length:Int))=R:=by have hp:=h.an;unfold NDm at hp;rw[hs,yM]at hp;have hp2:=(List.pairwise_cons.1 hp.2.1).1;refine(List.map_congr_left fun x hx=>?_).trans (List.map_id R);unfold swp;rw[jm (fun e=>hl.1 (hp2 x hx e.symm))];rfl
  rw[e1,e2]
theorem BI.recs{d a c e:Nat}:∀(l:List Int) {n:Nat} {s:SS} (h:BI n d a c e s) {A R:List Int} (hs:s.act=A++l++R) (hl:∀i,i∈l->qfv s.opn i=true),
  BI (n+l.length) d a c e (l.foldl qgg s)/\s.tree.length<=(l.foldl qgg s).tree.length
 |[],n,s,h,A,R,hs,hl=>⟨h,ja _⟩
 |i::l,n,s,h,A,R,hs,hl=>by obtain⟨h1,⟨A',h2,_⟩,h3,h4⟩:=h.rec1 (A:=A) (R:=l++R) (i:=i) (by rw[hs];simp) (hl i (by simp));have hp:=h.an;unfold NDm at hp;rw[hs,List.append_assoc,yM]at hp;obtain⟨k1,k2⟩:=BI.recs l h1 (A:=A') (R:=R) (by rw[h2,List.append_assoc]) (fun j hj=>by have hl2:=hl j (by simp[hj]);have hja:j∈s.act:=(by rw[hs];simp[hj]);have:=h.ac j hja;rw[h3];simp only[qfv,jf,yn,yh,je,j2,Jh]at hl2 ⊢;exact⟨hl2.1,hl2.2,by omega⟩);refine⟨?_,by simp only[yi];omega⟩;rw[jE,show n+(l.length+1)=n+1+l.length by omega];exact k1
theorem za7(s:SS):s.act=s.act.take (qpk s.opn s.act s.act.length)++qhc s++[]:=by unfold qhc;simp
theorem BI.recon{n d a c e:Nat} {s:SS} (h:BI n d a c e s):BI (n+e) d a c e (qr4 s):=by
 have:=(BI.recs (qhc s) h (za7 s) (ql5 s)).1;have hl:(qhc s).length<=e:=by unfold qhc;have:=h.al;simp;omega
 exact this.mono (by omega) (ja _) (ja _) (ja _) (ja _)
theorem BI.rok{n d a c e:Nat} {s:SS} (h:BI n d a c e s) (hn:n+e<=90000) (hc:c<=90000) (ha:a<=1000000):RcOk s:=by
 have hal:=h.al;have hl:(qhc s).length<=e:=by unfold qhc;simp;omega
 have key:∀j,j<=(qhc s).length->BI (n+j) d a c e (((qhc s).take j).foldl qgg s)/\s.tree.length<=(((qhc s).take j).foldl qgg s).tree.length:=fun j hj=>by have e1:=za7 s;rw[<- List.take_append_drop j (qhc s),<- List.append_assoc,List.append_assoc,jh]at e1;have:=BI.recs ((qhc s).take j) h e1 (fun i hi=>ql5 s i (yf hi));rw[jL,yC hj]at this;exact this
 refine⟨by have:=h.ol;omega,by omega,fun j hj=>?_,fun j hj=>?_⟩
 ·obtain⟨k1,k2⟩:=key j hj;exact⟨k1.sok (by omega) hc,k1.fo,by have:=k1.al;omega⟩
 ·obtain⟨k1,k2⟩:=key j (by omega);have hm:(qhc s)[j]∈s.act:=by have:(qhc s)[j]∈qhc s:=jA hj;unfold qhc at this;exact jZ this
  have hlo:=ql5 s _ (jA hj);simp only[qfv,jf,yn,yh]at hlo;rcases h.ac _ hm with e0|⟨b1,b2⟩
  ·exact absurd e0 hlo.1
  ·exact⟨by omega,by omega,by have:=(k1.tb.at_ (i:=(qhc s)[j]) (by omega) (by omega)).1;omega⟩
def zbo(j:Nat) (i:Int):Option Int:=if i = -1 then some ((j+1:Nat):Int) else none
theorem qzk(L:List Int):∀k,(qm6 (fun j=>zbo j (L.getD j 0)) k).getD 0=endN L k
 |0=>rfl
 |k+1=>by
  unfold qm6 endN;by_cases h:L.getD k 0 = -1
  ·simp only[zbo,h,jQ];rfl
  ·simp only[zbo,jm h];exact qzk L k
def kTl(L:List Int):RgK:=⟨[0,2,3,4,6,7,8],[qa8 L,.ptr 0 0,uD,uD,qyv L,uD,uD],13,[7,8],rgA Tryz.f104.body,rgB Tryz.f104.body⟩
def rTl(r:Option Int):List (Nat × Blk):=[(0,.cells [.int .i64 (r.getD 0)])]
theorem kTl_ok(L:List Int):(kTl L).Ok 1 rTl where
 vs:=fun σ hσ=>by simp[kTl,qb8,qas,hσ 0 (by omega),qtd,qa2]
 rows:=fun c=>by cases c<;>simp[rTl,za3,qa6,qa2]
theorem round_tl(L:List Int) (i:Int) (j:Nat) (hj:j<=1000000) :
  qi5 (ctx T) 1 [.int .i64 (j:Int),.int .i64 i] ⟨2,[[],(1,(kTl L).blk .ready none [])::rTl none]⟩ (.bool (zbo j i).isNone) ⟨2,[[],(kTl L).rows 1 rTl (zbo j i)]⟩:=by
 refine za4 (kTl_ok L) (s1:=⟨[0,2,3,4,6,7,8],[qa8 L,.ptr 0 0,uD,uD,qyv L,.int .i64 (j:Int),.int .i64 i],[],13,⟨2,[[],[],(1,(kTl L).blk .ready none [])::rTl none]⟩⟩) rfl fun l=>?_;generalize (kTl L).blk .ready none []=B0;generalize (kTl L).blk .busy none []=B1;have hw:=qbb (show j<=1000000000 by omega);by_cases h:i = -1
 ·have hg:zbo j i=some ((j+1:Nat):Int):=by unfold zbo;rw[jo h]
  rw[hg];subst h;clear hg;generalize ((j+1:Nat):Int)=j1 at *;simp only[kTl,rgA,rgB,za5,Tryz.f104,jc];repeat apply wq
  refine qb0 qaz ?_;simp[zN];refine qb0 qaz ?_;simp[zN];refine⟨_,_,⟨rfl,rfl⟩,rfl,?_⟩;simp only[rTl,yj]
  (repeat' (first
   |with_reducible apply qad
   |with_reducible apply qa3
   |(with_reducible apply rE;simp[zS, *];exact rfl)
   |(with_reducible apply qaf;simp only[qab,qa4])
   |apply qag rfl
   |(with_reducible apply qa7;simp[zQ,Tryz.f104])))
  all_goals first|(exact⟨2,_,fun i hi=>rfl,⟨rfl,rfl⟩,rfl⟩)|(exfalso;omega)
 ·have hg:zbo j i=none:=by unfold zbo;rw[jm h]
  rw[hg];clear hg;simp only[kTl,rgA,rgB,za5,Tryz.f104,jc];repeat apply wq
  refine qb0 qaz ?_;simp[zN];refine qb0 qaz ?_;simp[zN];refine⟨_,_,⟨rfl,rfl⟩,rfl,?_⟩;simp only[rTl,yj]
  (repeat' (first
   |with_reducible apply qad
   |with_reducible apply qa3
   |(with_reducible apply rE;simp[zS, *];exact rfl)
   |(with_reducible apply qaf;simp only[qab,qa4])
   |apply qaj rfl
   |(with_reducible apply qa5;simp only[qab,qa4])))
  all_goals first|(exact⟨2,_,fun i hi=>rfl,rfl,rfl⟩)|(exfalso;omega)
theorem c104(hc0:qIn 130 T e130) (L:List Int) (hL:L.length<=1000000):CA T 104 [qa8 L] zH (.int .i64 (qsq L)) zH:=by
 have kc0:=@k130 T hc0;have kb:=fun H=>k130 hc0 L H;clear kc0;have ht:=qzk L L.length;refine qa1 (s0:=⟨[0,2,3,4,6,7,8],[qa8 L,uD,uD,uD,uD,uD,uD],[],13,⟨0,[[]]⟩⟩) Tryz.func104 rfl rfl rfl ?_;apply qR;simp[zS];apply qR;simp[zS,kb];apply qa3;refine qsv (K:=kTl L) (b:=1) (R:=rTl) (kTl_ok L) L hL (fun j=>zbo j (L.getD j 0)) (fun j hj=>?_) rfl rfl ?_
 ·have:=round_tl (T:=T) L L[j] j (by omega);rw[show L.getD j 0=L[j] by simp[List.getD_eq_getElem?_getD,hj]];exact this
 ·obtain⟨r,hr⟩ : ∃r,qm6 (fun j=>zbo j (L.getD j 0)) L.length=r:=⟨_,rfl⟩;unfold qsq;rw[<- ht];rw[hr];cases r with
  |none=>simp[quq,kTl,rTl];apply qR;simp[zS];apply qa7;simp[zQ,Tryz.f104];exact⟨[.int .i64 0],rfl,[],[],qbo rfl,FitH.empty⟩
  |some i=>simp[quq,kTl,rTl,qab,qa4];exact⟨[.int .i64 i],rfl,[],[],qbo rfl,FitH.empty⟩
theorem inj_104(x y:List Int) (h:(fun z:List Int=>([qa8 z]:List AV)) x=(fun z:List Int=>([qa8 z]:List AV)) y):x=y:=by simp only[jl,jJ]at h;exact qdu h
def e104:Entry PG:=mkE 104 [[1]] (fun z:List Int=>[qa8 z]) (fun z=>(z.length<=1000000)) (fun z=>.int .i64 (qsq z)) fun z h=>c104 (T:=[e130]) rfl z h
theorem k104(hT:qIn 104 T e104) (L:List Int) (hL:L.length<=1000000) (H:Heap):qb5 (ctx T) (.fn 104) [qa8 L] H=some (.int .i64 (qsq L),H):=
 qb9 hT inj_104 (L) hL rfl (by simp[qam])
theorem qse(L:List Int):0<=qsq L/\qsq L<=(L.length:Int):=zc1 L L.length
def qcd(t:Tr) (i:Int):Nd:=if isB t i=true then qa0 t i else ⟨0,0,[],[],[],0,[]⟩
def qrc(t:Tr) (i:Int):AV:=.tup [qa9 (qcd t i),.bool (isB t i)]
theorem c103(t:Tr) (i:Int):CA T 103 [qao t,.int .i64 i] zH (qrc t i) zH:=by
 refine qa1 (s0:=⟨[0,1,2,4,5],[qao t,.int .i64 i,uD,uD,uD],[],21,⟨0,[[]]⟩⟩) Tryz.func103 rfl rfl rfl ?_;apply qR;simp[zS,qao];have bld:qe6 PG 65 []=some (.agg [.int .i64 0,.int .i64 0,.str [],.nilS,.str [],.int .i64 0,.nilS]):=rfl;by_cases h:0<=i
 ·have h0:¬ i < 0:=by omega
  by_cases h2:i < (t.length:Int)
  ·have h3:¬ (t.length:Int)<=i:=(by omega);have ho:isB t i=true:=isB_iff.2 ⟨h,h2⟩;apply qR;simp[zS,qlv,h,h2,h0,h3];apply qaj rfl;apply qa5;simp;have sA:∀L,(qae L).single=true:=fun _=>rfl;have sI:∀L,(qa8 L).single=true:=fun _=>rfl;have rA:∀L,refs 6 (qae L)=[]:=fun _=>rfl;have rI:∀L,refs 6 (qa8 L)=[]:=fun _=>rfl;apply qR;simp[zS,atX h h2,Nd.cs,qat,sA,sI,rA,rI];apply qa7;simp[zQ,Tryz.f103,readCells,zG,Blk.rd,qfe,qey];refine⟨[],[],?_,FitH.empty⟩;simp[qrc,qcd,ho,qa9,Nd.cs,qat,qas,qb8,qa2]
  ·have ho:isB t i=false:=(by simp[isB,h2]);have h3:(t.length:Int)<=i:=(by omega);apply qR;simp[zS,qlv,h,h2,h0,h3];apply qag rfl;apply qR;simp[zS,bld];apply qa7;simp[zQ,Tryz.f103,readCells,zG,Blk.rd,qfe,qey];refine⟨[],[],?_,FitH.empty⟩;simp[qrc,qcd,ho,qa9,Nd.cs,qat,qa8,qae,qas,qb8,qa2]
 ·have ho:isB t i=false:=by simp[isB,h]
  have h0:i < 0:=by omega
  apply qR;simp[zS,qlv,h,h0];apply qag rfl;apply qR;simp[zS,bld];apply qa7;simp[zQ,Tryz.f103,readCells,zG,Blk.rd,qfe,qey];refine⟨[],[],?_,FitH.empty⟩;simp[qrc,qcd,ho,qa9,Nd.cs,qat,qa8,qae,qas,qb8,qa2]
theorem inj_tI(x y:Tr × Int) (h:[qao x.1,AV.int .i64 x.2]=[qao y.1,AV.int .i64 y.2]):x=y:=by simp only[jl,jJ,AV.int.injEq,yc]at h;exact yv (qem h.1) h.2
def e103:Entry PG:=mkE 103 [[7],[]] (fun x:Tr × Int=>[qao x.1,.int .i64 x.2]) (fun _=>True) (fun x=>qrc x.1 x.2) fun x _=>c103 (T:=[]) x.1 x.2
theorem k103(hT:qIn 103 T e103) (t:Tr) (i:Int) (H:Heap):qb5 (ctx T) (.fn 103) [qao t,.int .i64 i] H=some (qrc t i,H):=
 qds hT inj_tI (t,i) trivial (by simp[qa6,qa2]) (by simp[qbl,qam]) H
def isFd(t:Tr) (W:Str) (i:Int):Bool:=isB t i && decide ((qcd t i).kind=1) && decide ((qcd t i).space=0) && decide ((qcd t i).name=W)
def qtx(t:Tr) (W:Str) (i:Int):Option Int:=if isFd t W i=true then some i else none
def qvj(t:Tr) (M:List Int) (W:Str):Int:=(qm6 (fun j=>qtx t W (M.getD j 0)) M.length).getD (-1)
def qfc(t:Tr) (L:List Int) (W:Str):Int:=qvj t (L.drop (qsq L).toNat) W
def kFd(t:Tr) (L M:List Int) (W:Str):RgK:=⟨[0,1,2,3,5,6,8,9,10,15,16,17],[qao t,qa8 L,.str W,.ptr 0 0,.ptr 1 0,.ptr 2 0,uD,uD,uD,qyv M,uD,uD],42,[16,17],rgA Tryz.f46.body,rgB Tryz.f46.body⟩
def rFd(t:Tr) (W:Str) (r:Option Int):List (Nat × Blk):=[(2,.cells [.int .i64 (r.getD 0)]),(1,.cells [.str W]),(0,.cells [qb3 t])]
theorem kFd_ok(t:Tr) (L M:List Int) (W:Str):(kFd t L M W).Ok 3 (rFd t W) where
 vs:=fun σ hσ=>by simp[kFd,qb8,qas,hσ 0 (by omega),hσ 1 (by omega),hσ 2 (by omega),qtd,qa2]
 rows:=fun c=>by cases c<;>simp[rFd,za3,qa6,qa2]
theorem round_fd(hN:qIn 103 T e103) (t:Tr) (L M:List Int) (W:Str) (i j:Int) :
  qi5 (ctx T) 3 [.int .i64 j,.int .i64 i] ⟨4,[[],(3,(kFd t L M W).blk .ready none [])::rFd t W none]⟩ (.bool (qtx t W i).isNone) ⟨4,[[],(kFd t L M W).rows 3 (rFd t W) (qtx t W i)]⟩:=by
 have kn:=fun H=>k103 hN t i H;simp only[qao,qrc,qa9,Nd.cs]at kn;refine za4 (kFd_ok t L M W) (s1:=⟨[0,1,2,3,5,6,8,9,10,15,16,17],[qao t,qa8 L,.str W,.ptr 0 0,.ptr 1 0,.ptr 2 0,uD,uD,uD,qyv M,.int .i64 j,.int .i64 i],[],42,⟨4,[[],[],(3,(kFd t L M W).blk .ready none [])::rFd t W none]⟩⟩) rfl fun l=>?_;generalize (kFd t L M W).blk .ready none []=B0;generalize (kFd t L M W).blk .busy none []=B1;have hg:qtx t W i=if (isB t i && decide ((qcd t i).kind=1) && decide ((qcd t i).space=0) && decide ((qcd t i).name=W))=true then some i else none:=rfl;rw[hg];clear hg hN;generalize isB t i=b at *;generalize (qcd t i).kind=n1 at *;generalize (qcd t i).space=n2 at *;generalize (qcd t i).name=n3 at *;generalize (qcd t i).attrs=n4 at *;generalize (qcd t i).data=n5 at *;generalize (qcd t i).up=n6 at *;generalize (qcd t i).kids=n7 at *;simp only[kFd,rgA,rgB,za5,Tryz.f46,jc];refine qb0 qaz ?_;simp[zN];refine⟨_,_,⟨rfl,rfl⟩,rfl,?_⟩;simp only[rFd,yj];cases b with
 |false=>
  simp only[yY,jz,jM]
  exact zL1
 |true=>
  try simp only[yT]
  by_cases h1:n1=1
  ·subst h1;by_cases h2:n2=0
   ·subst h2;by_cases h3:n3=W
    ·subst h3;simp only[jJ,yc,and_false,false_and,jQ,jM,yj,yg,Jm,Jl,eq_self]
     (repeat' (first
      |with_reducible apply qad
      |with_reducible apply qa3
      |(with_reducible apply rE;simp[zS, *,qat];exact rfl)
      |(with_reducible apply qaf;simp only[qab,qa4])
      |apply qag rfl
      |(with_reducible apply qa7;simp[zQ,Tryz.f46])))
     all_goals first|(first|exact⟨5,_,fun i hi=>qcu (by omega),rfl,rfl⟩|exact⟨5,_,fun i hi=>qcu (by omega),⟨rfl,rfl,rfl⟩,rfl⟩|exact⟨5,_,fun i hi=>qcu (by omega),⟨rfl,rfl⟩,rfl⟩)|(exfalso;omega)
    ·simp only[h3,jJ,yc,and_false,false_and,jQ,jM,yj,yg,Jm,Jl,eq_self]
     exact zL1
   ·simp only[h2,jJ,yc,and_false,false_and,jQ,jM,yj,yg,Jm,Jl,eq_self]
    exact zL1
  ·simp only[h1,jJ,yc,and_false,false_and,jQ,jM,yj,yg,Jm,Jl,eq_self]
   exact zL1
theorem c46(hc0:qIn 103 T e103) (hc1:qIn 104 T e104) (hc2:qIn 130 T e130) (t:Tr) (L:List Int) (W:Str) (hL:L.length<=1000000):CA T 46 [qao t,qa8 L,.str W] zH (.int .i64 (qfc t L W)) zH:=by
 have kc1:=@k104 T hc1;have kc2:=@k130 T hc2;obtain⟨e0,e1⟩:=qse L;have kt:=fun H=>kc1 L hL H;obtain⟨k,hk⟩ : ∃k:Nat,qsq L=(k:Int):=jy e0;have hf:=fun H=>qno (H:=H) (L:=L) (k:=k) (by omega);have ef:qfc t L W=qvj t (L.drop k) W:=by unfold qfc;rw[hk];rfl
 have hM:(L.drop k).length<=1000000:=by simp;omega
 rw[ef];clear ef;generalize L.drop k=M at *;rw[hk]at kt;have kb:=fun H=>k130 hc2 M H;clear kc1 kc2 e0 e1 hk;generalize (k:Int)=kk at *;refine qa1 (s0:=⟨[0,1,2,3,5,6,8,9,10,15,16,17],[qao t,qa8 L,.str W,uD,uD,uD,uD,uD,uD,uD,uD,uD],[],42,⟨0,[[]]⟩⟩) Tryz.func46 rfl rfl rfl ?_;apply qR;simp[zS,qao];apply qR;simp[zS,kt,hf,kb];apply qa3;refine qsv (K:=kFd t L M W) (b:=3) (R:=rFd t W) (kFd_ok t L M W) M hM (fun j=>qtx t W (M.getD j 0)) (fun j hj=>?_) rfl rfl ?_
 ·have:=round_fd hc0 t L M W M[j] (j:Int);rw[show M.getD j 0=M[j] by simp[List.getD_eq_getElem?_getD,hj]];exact this
 ·obtain⟨r,hr⟩ : ∃r,qm6 (fun j=>qtx t W (M.getD j 0)) M.length=r:=⟨_,rfl⟩;unfold qvj;rw[hr];cases r with
  |none=>simp[quq,kFd,rFd];apply qR;simp[zS];apply qa7;simp[zQ,Tryz.f46];exact⟨[.int .i64 (-1)],rfl,[],[],qbo rfl,FitH.empty⟩
  |some i=>simp[quq,kFd,rFd,qab,qa4];exact⟨[.int .i64 i],rfl,[],[],qbo rfl,FitH.empty⟩
theorem inj_46(x y:Tr × List Int × Str) (h:(fun z:Tr × List Int × Str=>([qao z.1,qa8 z.2.1,.str z.2.2]:List AV)) x=(fun z:Tr × List Int × Str=>([qao z.1,qa8 z.2.1,.str z.2.2]:List AV)) y):x=y:=by obtain⟨x0,x1,x2⟩:=x;obtain⟨y0,y1,y2⟩:=y;simp only[jl,jJ]at h;obtain⟨h0,h1,h2⟩:=h;have g0:x0=y0:=qem h0;have g1:x1=y1:=qdu h1;have g2:x2=y2:=AV.str.inj h2;subst g0 g1 g2;rfl
def e46:Entry PG:=mkE 46 [[7],[1],[]] (fun z:Tr × List Int × Str=>[qao z.1,qa8 z.2.1,.str z.2.2]) (fun z=>(z.2.1.length<=1000000)) (fun z=>.int .i64 (qfc z.1 z.2.1 z.2.2)) fun z h=>c46 (T:=[e103,e104,e130]) rfl rfl rfl z.1 z.2.1 z.2.2 h
theorem q46(hT:qIn 46 T e46) {H:Heap} {a0:AV} {t:Tr} (b0:qco H [7] a0=some (qao t)) {a1:AV} {L:List Int} (b1:qco H [1] a1=some (qa8 L)) (W:Str) (hL:L.length<=1000000):qb5 (ctx T) (.fn 46) [a0,a1,.str W] H=some (.int .i64 (qfc t L W),H):=
 qb9 hT inj_46 (t,L,W) hL rfl (by simp[b0,b1])
theorem findL_in(t:Tr) (M:List Int) (W:Str):qvj t M W = -1\/(qvj t M W∈M/\isFd t W (qvj t M W)=true):=by
 have key:∀k,k<=M.length->(qm6 (fun j=>qtx t W (M.getD j 0)) k).getD (-1) = -1\/((qm6 (fun j=>qtx t W (M.getD j 0)) k).getD (-1)∈M/\isFd t W ((qm6 (fun j=>qtx t W (M.getD j 0)) k).getD (-1))=true):=by
  intro k;induction k with
  |zero=>intro _;exact .inl rfl
  |succ k ih=>
   intro hk;have hg:M.getD k 0=M[k]:=(by simp[List.getD_eq_getElem?_getD,show k < M.length by omega]);unfold qm6;rw[hg];by_cases h:isFd t W M[k]=true
   ·simp only[qtx,jo h];exact .inr ⟨jA _,h⟩
   ·simp only[qtx,jm h];exact ih (by omega)
 exact key M.length (ja _)
theorem findI_in(t:Tr) (L:List Int) (W:Str):qfc t L W = -1\/(qfc t L W∈L/\isFd t W (qfc t L W)=true):=by unfold qfc;exact(findL_in t _ W).imp id fun h=>⟨jZ h.1,h.2⟩
