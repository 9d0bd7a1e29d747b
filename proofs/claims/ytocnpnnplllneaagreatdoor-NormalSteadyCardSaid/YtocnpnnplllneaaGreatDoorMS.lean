/- ref28.Tree: may a tree be written and read again? The document's code. No condition. -/
import Derived.Test.YtocnpnnplllneaaGreatDoorMP
namespace Go.Proofs.YtocnpnnplllneaaGreatDoor
noncomputable section
set_option linter.unusedSimpArgs false
set_option linter.unusedVariables false
open Go Go.RowKit
set_option maxRecDepth 100000
theorem yg:type_of% @List.mem_flatMap:=@List.mem_flatMap
theorem yS:type_of% @List.pairwise_iff_getElem:=@List.pairwise_iff_getElem
theorem yU:type_of% @List.any_eq_false:=@List.any_eq_false
variable {T:List (Entry Tryz.prog)}
structure okT (t:Tr):Prop where
 ok:qwl t
 nd:∀n,n∈t->okN n
 kd:∀n,n∈t->∀k,k∈n.kids->0<=k/\k < (t.length:Int)
theorem okT.at_{t:Tr} (h:okT t) {i:Int} (h0:0<=i) (h1:i < (t.length:Int)):okN (qa0 t i):=h.nd _ (qb5 h0 h1)
theorem above_ok{t:Tr} (h:okT t) (i:Nat):okP (qen t i):=by
 refine⟨?_,fun n hn=>?_⟩
 ·have:=zb2 t i;have:=h.ok.1;simp[qen];omega
 ·unfold qen at hn;obtain⟨x,hx,rfl⟩:=ji.1 hn;obtain⟨a,b⟩:=zb1 (List.mem_of_mem_drop hx);exact h.at_ a b
def zfz(t:Tr) (i:Nat):Int:=(qa0 t ((qa0 t (qa0 t i).up).kids.getD (qeq t i - 1).toNat 0)).kind
def lfB(s:Str):Bool:=match s with
 |[]=>false
 |c::_=>decide ((c.toNat:Int)=10)
def qyo(t:Tr) (i:Nat):Bool:=
 if (qa0 t i).kind=1 then decide ((qa0 t i).data=[]) && qly (qen t i) (qa0 t i) && qdm (qa0 t i)
 else if (decide ((qa0 t i).kind=2) && qd3 (qa0 t i) && qd5 (qen t i) (qa0 t i).data)=true then
  !(decide (0 < qeq t i) && decide (zfz t i=2)) && (!decide (qeq t i=0) || !elB (qap (qen t i)) [112,114,101,32,116,101,120,116,97,114,101,97] || !lfB (qa0 t i).data)
 else false
theorem zcc{L:List Nd} {s:Str} (h:qd5 L s=true):∃c r,s=c::r:=by
 cases s with
 |nil=>simp[qd5]at h
 |cons c r=>exact⟨c,r,rfl⟩
theorem zda{t:Tr} {i:Nat} (h:okT t) (hp:0 < qeq t i):∃q:Nat,qeq t i=((q+1:Nat):Int)/\0<=(qa0 t i).up/\(qa0 t i).up < (t.length:Int)/\∃hq:q < (qa0 t (qa0 t i).up).kids.length,0<=(qa0 t (qa0 t i).up).kids[q]/\(qa0 t (qa0 t i).up).kids[q] < (t.length:Int)/\zfz t i=(qa0 t (qa0 t (qa0 t i).up).kids[q]).kind:=by
 obtain⟨a,ha⟩ : ∃a:Nat,qeq t i=(a:Int):=⟨(qeq t i).toNat,by omega⟩;have hp0:=hp;unfold qeq at hp;split at hp
 case isFalse=>omega
 rename_i hb;obtain⟨u0,u1⟩:=isB_iff.1 hb.2;have hpe:qeq t i=atP (qa0 t (qa0 t i).up).kids i:=by unfold qeq;rw[if_pos hb]
 have hc:=qii (p:=fun y=>decide (y=(i:Int))) (qa0 t (qa0 t i).up).kids 0;rw[show qbu (fun y=>decide (y=(i:Int))) (qa0 t (qa0 t i).up).kids 0=atP (qa0 t (qa0 t i).up).kids i from rfl,<- hpe]at hc;rcases hc with⟨h1,_⟩|⟨j,hj,h1,_,_⟩
 ·omega
 ·obtain⟨q,rfl⟩ : ∃q,j=q+1:=⟨j - 1,by omega⟩;have hq:q < (qa0 t (qa0 t i).up).kids.length:=by omega
  have hr:=h.kd _ (qb5 u0 u1) _ (jy hq);refine⟨q,by omega,u0,u1,hq,hr.1,hr.2,?_⟩;unfold zfz;rw[show (qeq t i - 1).toNat=q by omega];simp[hq]
set_option maxHeartbeats 1000000 in
theorem c25(hc0:qIn 42 T e42) (hc1:qIn 40 T e40) (hc2:qIn 43 T e43) (hc3:qIn 44 T e44) (hc4:qIn 45 T e45) (hc5:qIn 47 T e47) (hc6:qIn 46 T e46) (t:Tr) (i:Nat) (h:okT t) (hi:i < t.length):CA T 25 [qak t,.int .i64 ((i:Nat):Int)] zH (.bool (qyo t i)) zH:=by
 have kc0:=@k42 T hc0;have kc1:=@k40 T hc1;have kc2:=@k43 T hc2;have kc3:=@k44 T hc3;have kc5:=@k47 T hc5;have kc6:=@k46 T hc6;have hok:=h.at_ (i:=(i:Int)) (by omega) (by omega);have hap:=above_ok h i;have hix:=atX (t:=t) (i:=(i:Int)) (by omega) (by omega);have k0:=fun H=>kc0 h.ok hi H;have k1:=fun H=>kc1 (qen t i) (qa0 t i) hap hok H;have k2:=fun H=>kc2 (qa0 t i) hok H;have k3:=fun H=>kc3 (qen t i) (qa0 t i).data hap (by have:=hok.2.2.1;omega) H;have k4:=fun H=>q45 hc4 (H:=H) (a:=qak t) (t:=t) (qao (by simp)) (fun n hn=>by have:=(h.ok.2 n hn).1;omega) (i:Int);have k5:=fun H=>kc5 (qen t i) (by have:=hap.1;omega) H;have k6:=fun H=>kc6 (qap (qen t i)) [112,114,101,32,116,101,120,116,97,114,101,97] (by decide) H;simp only[qak]at k0 k4;have hpp:=zda (i:=i) h;have hcn:=zcc (L:=qen t i) (s:=(qa0 t i).data);have la:∀H,qer PG H 32 (qal (qa0 t i).attrs)=some (qa0 t i).attrs.length:=fun H=>qh2;clear kc0 kc1 kc2 kc3 kc5 kc6 hc0 hc1 hc2 hc3 hc4 hc5 hc6;obtain⟨R,hR⟩ : ∃R,R=qyo t i:=⟨_,rfl⟩;rw[<- hR];unfold qyo qd3 at hR;have ea:decide ((qa0 t i).attrs=[]) = !decide (0 < (qa0 t i).attrs.length):=by cases (qa0 t i).attrs<;>simp
 rw[ea]at hR;clear ea;by_cases hk:(qa0 t i).kind=1
 ·clear hpp hcn k3 k4 k5 k6;generalize qly (qen t i) (qa0 t i)=b1 at *;generalize qdm (qa0 t i)=b2 at *;generalize qen t i=P at *;generalize qa0 t i=n at *;refine qa1 (s0:=⟨[0,1,2,4,5,6,7],[qak t,.int .i64 (i:Int),uD,uD,uD,uD,uD],[],95,⟨0,[[]]⟩⟩) Tryz.func25 rfl rfl rfl ?_
  (repeat' (first
   |with_reducible apply qam
   |(with_reducible apply rE;simp[zS, *,qak,qaq];exact rfl)
   |(with_reducible apply qax;simp only[qan,qah])
   |(with_reducible refine qb6 (fun hc=>?_) (fun hc=>?_)<;>(have hd:=hc;(try simp at hd);(try subst hd);apply qf6;simp[zS, *,qak,qaq];exact rfl))
   |apply qaj rfl
   |(with_reducible apply qa3;simp[zQ,Tryz.f25])))
  all_goals first|exact qa2 rfl (by rw[hR];simp[*])|(exfalso;omega)
 ·clear k1 k2;rcases jG (qd5 (qen t i) (qa0 t i).data)with hb|hb
  ·obtain⟨c,r,hdat⟩:=hcn hb;have hx0:qi1 PG 9 (.str (c::r)) (.int .i64 0)=some (.int .u8 c.toNat):=qjj (s:=c::r) (i:=0) (by simp);have hlf:lfB (qa0 t i).data=decide ((c.toNat:Int)=10):=(by rw[hdat];rfl);rw[hlf]at hR;rw[hb]at hR k3;clear hcn hlf hb;rw[hdat]at k3;generalize elB (qap (qen t i)) [112,114,101,32,116,101,120,116,97,114,101,97]=b6 at *;generalize qap (qen t i)=up at *;generalize qen t i=P at *;by_cases hz:0 < qeq t i
   ·obtain⟨q,e1,u0,u1,hq,r0,r1,e2⟩:=hpp hz;have hix2:=atX u0 u1;have hix3:=atI hq;have hix4:=atX r0 r1;obtain⟨w,hw⟩ : ∃w:Int,w=((q+1:Nat):Int):=⟨_,rfl⟩;have hs1:wr .i64 (w - 1)=some (q:Int):=(by rw[hw];exact qyb (by have:=(h.ok.2 _ (qb5 u0 u1)).1;omega));have hw0:0 < w:=(by omega);have hw1:¬ w=0:=(by omega);rw[<- hw]at e1;clear hw;rw[e2]at hR;have hz2:¬ qeq t i=0:=(by omega);simp only[hz,hz2,decide_true,decide_false,yP,Bool.true_or,Bool.and_true,jQ]at hR;rw[e1]at k4;clear hpp e1 hz hz2 e2;generalize (qa0 t (qa0 t i).up).kids[q]=pk at *;generalize qa0 t pk=pn at *;generalize qa0 t (qa0 t i).up=un at *;generalize qa0 t i=n at *;refine qa1 (s0:=⟨[0,1,2,4,5,6,7],[qak t,.int .i64 (i:Int),uD,uD,uD,uD,uD],[],95,⟨0,[[]]⟩⟩) Tryz.func25 rfl rfl rfl ?_
    (repeat' (first
     |with_reducible apply qam
     |(with_reducible apply rE;simp[zS, *,qak,qaq];exact rfl)
     |(refine qbh mixed qbc (by decide +kernel) (by decide +kernel) ?_;apply qf6;simp[zS,qc6,qbf,qb9, *,qak,qaq];exact rfl)
     |(with_reducible apply qax;simp only[qan,qah])
     |(with_reducible refine qb6 (fun hc=>?_) (fun hc=>?_)<;>(have hd:=hc;(try simp at hd);(try subst hd);apply qf6;simp[zS, *,qak,qaq];exact rfl))
     |apply qaj rfl
     |apply qag rfl
     |(refine qay rfl (fun hc=>?_) (fun hc=>?_)<;>(have hd:=hc;(try simp at hd);(try subst hd)))
     |(with_reducible apply qa4;simp only[qan,qah])
     |(with_reducible apply qa3;simp[zQ,Tryz.f25])))
    all_goals first|exact qa2 rfl (by rw[hR];first|(simp[*];done)|(simp_all;done))|(exfalso;omega)
   ·clear hpp;simp only[hz,decide_false,yr,yP,jQ]at hR;have hz3:¬ (0:Int) < qeq t i:=hz;generalize qeq t i=at_ at *;generalize qa0 t i=n at *;refine qa1 (s0:=⟨[0,1,2,4,5,6,7],[qak t,.int .i64 (i:Int),uD,uD,uD,uD,uD],[],95,⟨0,[[]]⟩⟩) Tryz.func25 rfl rfl rfl ?_
    (repeat' (first
     |with_reducible apply qam
     |(with_reducible apply rE;simp[zS, *,qak,qaq];exact rfl)
     |(refine qbh mixed qbc (by decide +kernel) (by decide +kernel) ?_;apply qf6;simp[zS,qc6,qbf,qb9, *,qak,qaq];exact rfl)
     |(with_reducible apply qax;simp only[qan,qah])
     |(with_reducible refine qb6 (fun hc=>?_) (fun hc=>?_)<;>(have hd:=hc;(try simp at hd);(try subst hd);apply qf6;simp[zS, *,qak,qaq];exact rfl))
     |apply qaj rfl
     |apply qag rfl
     |(with_reducible apply qa4;simp only[qan,qah])
     |(with_reducible apply qa3;simp[zQ,Tryz.f25])))
    all_goals first|exact qa2 rfl (by rw[hR];first|(simp[*];done)|(simp_all;done))|(exfalso;omega)
  ·rw[hb]at hR k3;clear hcn hpp k4 k5 k6;generalize qen t i=P at *;generalize qa0 t i=n at *;refine qa1 (s0:=⟨[0,1,2,4,5,6,7],[qak t,.int .i64 (i:Int),uD,uD,uD,uD,uD],[],95,⟨0,[[]]⟩⟩) Tryz.func25 rfl rfl rfl ?_
   (repeat' (first
    |with_reducible apply qam
    |(with_reducible apply rE;simp[zS, *,qak,qaq];exact rfl)
    |(with_reducible apply qax;simp only[qan,qah])
    |(with_reducible refine qb6 (fun hc=>?_) (fun hc=>?_)<;>(have hd:=hc;(try simp at hd);(try subst hd);apply qf6;simp[zS, *,qak,qaq];exact rfl))
    |apply qaj rfl
    |apply qag rfl
    |(with_reducible apply qa4;simp only[qan,qah])
    |(with_reducible apply qa3;simp[zQ,Tryz.f25])))
   all_goals first|exact qa2 rfl (by rw[hR];first|(simp[*];done)|(simp_all;done))|(exfalso;omega)
theorem inj_25(x y:Tr × Nat) (h:(fun z:Tr × Nat=>([qak z.1,.int .i64 ((z.2:Nat):Int)]:List AV)) x=(fun z:Tr × Nat=>([qak z.1,.int .i64 ((z.2:Nat):Int)]:List AV)) y):x=y:=by obtain⟨x0,x1⟩:=x;obtain⟨y0,y1⟩:=y;simp only[j4,and_true]at h;obtain⟨h0,h1⟩:=h;have g0:x0=y0:=qe9 h0;have g1:x1=y1:=(by have:=(AV.int.inj h1).2;omega);subst g0 g1;rfl
def e25:Entry PG:=mkE 25 [[7],[]] (fun z:Tr × Nat=>[qak z.1,.int .i64 ((z.2:Nat):Int)]) (fun z=>(okT z.1)/\(z.2 < z.1.length)) (fun z=>.bool (qyo z.1 z.2)) fun z h=>c25 (T:=[e42,e40,e43,e44,e45,e47,e46]) rfl rfl rfl rfl rfl rfl rfl z.1 z.2 h.1 h.2
theorem k25(hT:qIn 25 T e25) (t:Tr) (i:Nat) (h:okT t) (hi:i < t.length) (H:Heap):qb7 (ctx T) (.fn 25) [qak t,.int .i64 ((i:Nat):Int)] H=some (.bool (qyo t i),H):=
 qac hT inj_25 (t,i) ⟨h,hi⟩ rfl (by simp[qao])
def bls(s:List Bool):List AV:=s.map AV.bool
theorem qeg(s:List Bool):qa9 (bls s)=true:=by
 unfold bls;induction s with
 |nil=>rfl
 |cons x r ih=>simp only[jj,qa9,qab,ih];rfl
theorem getB{s:List Bool} {i:Nat} (h:i < s.length):qcy (bls s) i=some (.bool s[i]):=by simp[bls,qi2 h]
theorem layB:∀{s:List Bool} {i:Nat},i < s.length->qho [.bool true] i (bls s)=some (bls (s.set i true))
 |[],i,h=>absurd h (jk i)
 |x::r,0,h=>rfl
 |x::r,i+1,h=>by show ((qho _ i (bls r)).bind fun r'=>some (_::r'))=_;rw[layB (s:=r) (by simpa using h)];rfl
theorem zaq:∀(n:Nat),replL [.bool false] n=bls (List.replicate n false)
 |0=>rfl
 |n+1=>by simp only[replL,zaq n,yy,bls,jj];rfl
theorem zgn{n:Nat} (h:n<=1000000):msB PG 45 (.int .i64 (n:Int)) (.int .i64 (n:Int))=some (fun b=>.slc b 0 n (.ex n),.cells (bls (List.replicate n false))):=by
 have h1:idx (n:Int) 17592186044416=some n:=qbz (by omega);have h2:idx (n:Int) (Nat.succ n)=some n:=qbz (by omega);have hz:qc1 PG 4=some (.bool false):=zeT4;have hs:qcg PG 4=some 1:=szT4;have hb:qco PG 4=some 1:=byT4;have h3:qcf n 1=true:=by simp[qcf];omega
 simp only[msB,Tryz.underlying45,jb,hs,hb,h1,h2,h3,hz];simp[AV.cells,zaq]
theorem ixB{b n i:Nat} {cap:Cap} (h:i < n):qav PG 45 (.slc b 0 n cap) (.int .i64 (i:Int))=some (.ptr b i):=by simp[qav,qbz h]
theorem qc3{b:Nat} {rs:List Nat} {f:List (Nat × Blk)} {r:List (List (Nat × Blk))} (h:(getF b f).isSome=true):qdj b rs [] (f::r)=f::r:=by obtain⟨k,hk⟩:=yW.1 h;unfold qdj;rw[hk];rfl
theorem qjr:∀(L:List Nd),allSingle (qa5 (L.map qa6))=true
 |[]=>rfl
 |x::r=>by rw[jj];show allSingle (x.cs++qa5 (r.map qa6))=true;rw[qd1,qjr r];rfl
theorem qu1:∀{a b:List AV},qa9 a=true->qa9 b=true->qa9 (a++b)=true
 |[],b,_,h=>h
 |x::r,b,h1,h2=>by simp only[qa9,jd,List.cons_append]at h1 ⊢;exact⟨h1.1,qu1 h1.2 h2⟩
theorem WpSr.perm{C:Ctx} {n:Nat} {r:Option Nat} {Q:Out->St->Prop} {c:Code} {ks:List Nat} {vs:List AV} {ts:List (Nat × AV)} {sz:Nat} {H:Heap} (H2:Heap) (hn:H2.n=H.n) (p:H2.ents.Perm H.ents)
  (h:WpSr C n r c ⟨ks,vs,ts,sz,H2⟩ Q):WpSr C n r c ⟨ks,vs,ts,sz,H⟩ Q:=by
 intro b a w hb ha K hK;obtain⟨ρ,g1,g2,g3,g4⟩:=ha;have g1':Since b ρ H w:=g1;have g2':Sim ρ H w:=g2;refine h b a w hb ⟨ρ,?_,g2'.perm hn p,⟨g3.size,g3.val⟩,?_⟩ K hK
 ·exact { fz:=g1.fz,os:=g1.os,tape:=g1.tape,output:=g1.output,size:=g1.size,keeps:=g1.keeps,rows:=fun e he=>g1.rows e (p.mem_iff.1 he),cold:=g1.cold,low:=g1.low,num:=by rw[show (St.mk ks vs ts sz H2).H.n=H2.n from rfl,hn];exact g1'.num }
 ·have g4':Dfr b.w.heap.size ρ H w a.defers b.ds:=g4;obtain⟨rs,h1,h2,h3⟩:=g4';exact⟨rs,h1,h2,fun r hr=>⟨(h3 r hr).ge,(h3 r hr).obj,(h3 r hr).cold,fun e he=>(h3 r hr).apart e (p.mem_iff.1 he)⟩⟩
theorem qsp:∀{l:List AV},allSingle l=true->∀i (h:i < l.length),l[i].single=true
 |[],_,i,h=>absurd h (jk i)
 |v::r,h,i,hi=>by
  unfold allSingle at h;cases hv:v.single with
  |false=>rw[hv]at h;cases h
  |true=>
   rw[hv]at h;cases i with
   |zero=>exact hv
   |succ i=>exact qsp h i (by simpa using hi)
theorem qw7:∀(xs:List Value),qa9 (xs.map AV.val)=true
 |[]=>rfl
 |x::r=>by simp[qa9,qab,qw7 r]
theorem qql:∀(xs:List Value),allSingle (xs.map AV.val)=true
 |[]=>rfl
 |x::r=>by simp[allSingle,AV.single,qql r]
theorem qwf{α:Type} {p:Nat->α->Prop}:∀(n:Nat),(∀i,i < n->∃x,p i x)->∃l:List α,l.length=n/\∀i (h:i < l.length),p i l[i]
 |0,_=>⟨[],rfl,fun i h=>absurd h (jk i)⟩
 |n+1,h=>by
  obtain⟨l,hl,hp⟩:=qwf n fun i hi=>h i (by omega);obtain⟨x,hx⟩:=h n (by omega);refine⟨l++[x],by simp[hl],fun i hi=>?_⟩;by_cases hlt:i < l.length
  ·rw[j6 hlt];exact hp i hlt
  ·have:i=l.length:=(by simp at hi;omega);subst this;simp only[jv (jc _),yN,j5];rw[hl];exact hx
theorem CallAt.anyfront{C:Ctx} {f:FuncId} {args:List AV} {v:AV} {n n' b b':Nat} {P c0 cs:List AV} {g g':List (Nat × Blk)} (hs:allSingle P=true)
  (h:∀pre,qa9 pre=true->allSingle pre=true->pre.length=P.length->CallAt C f args ⟨n,[(b,.cells (pre++c0))::g]⟩ v ⟨n',[(b',.cells (pre++cs))::g']⟩) :
  CallAt C f args ⟨n,[(b,.cells (P++c0))::g]⟩ v ⟨n',[(b',.cells (P++cs))::g']⟩:=by
 intro ρ w xs sm hx;obtain⟨l,hl,hB,hlt,hr⟩:=sm.live (b,.cells (P++c0)) (by simp[Heap.ents]);obtain⟨vs,hvl,hvs⟩:=qwf (p:=fun i x=>w.cell? ⟨l.cb,l.off+i,none⟩=some x/\∀h:i < P.length,VR ρ P[i] x) P.length fun i hi=>by
  obtain⟨x,h1,h2⟩:=hr.2.2 i (by simp only[jo];omega);refine⟨x,h1,fun _=>?_⟩
  rwa [j6 hi]at h2
 have one:∀i (h:i < vs.length),vs[i].oneCell'=true:=fun i hi=>((hvs i hi).2 (by omega)).oneCell (qsp hs i (by omega));obtain⟨pre,hpre⟩ : ∃p,p=vs.map AV.val:=⟨_,rfl⟩;have hpl:pre.length=P.length:=by rw[hpre];simpa using hvl
 have sm1:Sim ρ ⟨n,[(b,.cells (pre++c0))::g]⟩ w:={
  base:=sm.base
  below:=sm.below
  os:=sm.os
  tape:=sm.tape
  output:=sm.output
  dom:=sm.dom
  nodup:=by simpa[Heap.ents]using sm.nodup
  live:=fun e he=>by
   simp only[Heap.ents,je,js,jg,ja]at he;rcases he with rfl|he
   ·refine⟨l,hl,hB,hlt,by have:=hr.1;simp only[jo]at this ⊢;omega,hr.2.1,fun i hi=>?_⟩;by_cases hi2:i < P.length
    ·have hi':i < vs.length:=(by omega);refine⟨vs[i],(hvs i hi').1,?_⟩;rw[j6 (by omega)];simp only[hpre,jT];exact .val _ (one i hi')
    ·obtain⟨x,h1,h2⟩:=hr.2.2 i (by simp only[jo]at hi ⊢;omega);refine⟨x,h1,?_⟩;rw[jv (by omega)]at h2;rw[jv (by omega)];simpa only[hpl]using h2
   ·exact sm.live e (by simp[Heap.ents,he])
  inj:=fun e e' he he' l l' hl hl' hc=>by
   have mk:∀e,e∈Heap.ents ⟨n,[(b,.cells (pre++c0))::g]⟩->∃e2,e2∈Heap.ents ⟨n,[(b,.cells (P++c0))::g]⟩/\e2.1=e.1:=fun e he=>by
    simp only[Heap.ents,je,js,jg,ja]at he;rcases he with rfl|he
    ·exact⟨(b,.cells (P++c0)),by simp[Heap.ents],rfl⟩
    ·exact⟨e,by simp[Heap.ents,he],rfl⟩
   obtain⟨e2,h1,h2⟩:=mk e he;obtain⟨e3,h3,h4⟩:=mk e' he';rw[<- h2,<- h4];exact sm.inj e2 e3 h1 h3 l l' (by rw[h2];exact hl) (by rw[h4];exact hl') hc }
 have up:∀{x:Value} {ρ':Place} {w':World},VR ρ' v x->Sim ρ' ⟨n',[(b',.cells (pre++cs))::g']⟩ w'->Step ρ ⟨n,[(b,.cells (pre++c0))::g]⟩ w ρ' ⟨n',[(b',.cells (pre++cs))::g']⟩ w' ->
   Sim ρ' ⟨n',[(b',.cells (P++cs))::g']⟩ w'/\Step ρ ⟨n,[(b,.cells (P++c0))::g]⟩ w ρ' ⟨n',[(b',.cells (P++cs))::g']⟩ w':=by
  intro x ρ' w' hv s1 t1;have mk:∀e,e∈Heap.ents ⟨n',[(b',.cells (P++cs))::g']⟩->∃e2,e2∈Heap.ents ⟨n',[(b',.cells (pre++cs))::g']⟩/\e2.1=e.1:=fun e he=>by
   simp only[Heap.ents,je,js,jg,ja]at he;rcases he with rfl|he
   ·exact⟨(b',.cells (pre++cs)),by simp[Heap.ents],rfl⟩
   ·exact⟨e,by simp[Heap.ents,he],rfl⟩
  have mk0:∀e,e∈Heap.ents ⟨n,[(b,.cells (pre++c0))::g]⟩->∃e2,e2∈Heap.ents ⟨n,[(b,.cells (P++c0))::g]⟩/\e2.1=e.1:=fun e he=>by
   simp only[Heap.ents,je,js,jg,ja]at he;rcases he with rfl|he
   ·exact⟨(b,.cells (P++c0)),by simp[Heap.ents],rfl⟩
   ·exact⟨e,by simp[Heap.ents,he],rfl⟩
  refine⟨{
   base:=s1.base
   below:=s1.below
   os:=s1.os
   tape:=s1.tape
   output:=s1.output
   dom:=s1.dom
   nodup:=by simpa[Heap.ents]using s1.nodup
   live:=fun e he=>by
    simp only[Heap.ents,je,js,jg,ja]at he;rcases he with rfl|he
    ·obtain⟨l1,g1,g2,g3,g4⟩:=s1.live (b',.cells (pre++cs)) (by simp[Heap.ents]);refine⟨l1,g1,g2,g3,?_,g4.2.1,fun i hi=>?_⟩
     ·have:=g4.1;simp only[jo]at this ⊢;omega
     ·obtain⟨y,hy,hvy⟩:=g4.2.2 i (by simp only[jo]at hi ⊢;omega);refine⟨y,hy,?_⟩;by_cases hi2:i < P.length
      ·have hi3:i < vs.length:=(by omega);rw[j6 (by omega)]at hvy;rw[j6 hi2];simp only[hpre,jT]at hvy;have:y=vs[i]:=(by cases hvy;rfl);rw[this];exact((hvs i hi3).2 hi2).mono t1.le
      ·rw[jv (by omega)]at hvy;rw[jv (by omega)];simpa only[hpl]using hvy
    ·exact s1.live e (by simp[Heap.ents,he])
   inj:=fun e e' he he' l l' hl hl' hc=>by obtain⟨e2,h1,h2⟩:=mk e he;obtain⟨e3,h3,h4⟩:=mk e' he';rw[<- h2,<- h4];exact s1.inj e2 e3 h1 h3 l l' (by rw[h2];exact hl) (by rw[h4];exact hl') hc },{
   le:=t1.le
   size:=t1.size
   keeps:=fun k hk hn=>t1.keeps k hk fun e he l hl=>by obtain⟨e2,h1,h2⟩:=mk0 e he;exact hn e2 h1 l (by rw[h2];exact hl)
   rows:=fun e he l hl=>by
    obtain⟨e2,h1,h2⟩:=mk e he;rcases t1.rows e2 h1 l (by rw[h2];exact hl)with⟨e3,h3,l3,hl3,hc⟩|hge
    ·obtain⟨e4,h4,h5⟩:=mk0 e3 h3;exact .inl ⟨e4,h4,l3,by rw[h5];exact hl3,hc⟩
    ·exact .inr hge
   num:=t1.num
   low:=t1.low
   cold:=fun k hk=>by
    rcases t1.cold k hk with hh|⟨e3,h3,l3,hl3,hc⟩|hh
    ·exact .inl hh
    ·obtain⟨e4,h4,h5⟩:=mk0 e3 h3;exact .inr (.inl ⟨e4,h4,l3,by rw[h5];exact hl3,hc⟩)
    ·exact .inr (.inr hh) }⟩
 rcases h pre (by rw[hpre];exact qw7 vs) (by rw[hpre];exact qql vs) hpl ρ w xs sm1 hx with⟨x,ρ1,w',h0,h1,h2,h3⟩|⟨q,ys,h0,h1⟩
 ·obtain⟨k1,k2⟩:=up h1 h2 h3;exact .inl ⟨x,ρ1,w',h0,h1,k1,k2⟩
 ·refine .inr ⟨q,ys,h0,h1.mono ?_⟩;rintro e w' ⟨x,ρ1,rfl,m1,m2,m3⟩;obtain⟨k1,k2⟩:=up m1 m2 m3;exact⟨x,ρ1,rfl,m1,k1,k2⟩
theorem CallAt.anyrow{C:Ctx} {f:FuncId} {args:List AV} {v:AV} {n n' b b':Nat} {P cs:List AV} {g g':List (Nat × Blk)} (hs:allSingle P=true)
  (h:∀pre,qa9 pre=true->allSingle pre=true->pre.length=P.length->CallAt C f args ⟨n,[(b,.cells pre)::g]⟩ v ⟨n',[(b',.cells (pre++cs))::g']⟩) :
  CallAt C f args ⟨n,[(b,.cells P)::g]⟩ v ⟨n',[(b',.cells (P++cs))::g']⟩:=by
 have:=CallAt.anyfront (C:=C) (f:=f) (args:=args) (v:=v) (n:=n) (n':=n') (b:=b) (b':=b') (P:=P) (c0:=[]) (cs:=cs) (g:=g) (g':=g') hs fun pre h1 h2 h3=>by simpa using h pre h1 h2 h3
 simpa using this
def qmc(rec:Int->Nat->List Bool->List Nd × List Bool) (n:Nat):List Int->Nat->List Bool->List Int × List Nd × List Bool
 |[],_,s=>([],[],s)
 |k::r,z,s=>
  if 0<=k/\k < (n:Int)/\s.getD k.toNat true=false then
   let a:=rec k z s
   let b:=qmc rec n r (z+a.1.length) a.2
   ((z:Int)::b.1,a.1++b.2.1,b.2.2)
  else qmc rec n r z s
def qnq:Nat->Tr->Int->Int->Nat->List Bool->List Nd × List Bool
 |0,_,_,_,_,s=>([],s)
 |f+1,t,i,up,z,s=>
  let r:=qmc (fun k z' s'=>qnq f t k (z:Int) z' s') t.length (qa0 t i).kids (z+1) (s.set i.toNat true)
  ({ qa0 t i with up:=up,kids:=r.1 }::r.2.1,r.2.2)
def qh8(s:List Bool):Nat:=s.count false
theorem qio:∀{s:List Bool} {i:Nat},s.getD i true=false->qh8 (s.set i true)+1=qh8 s
 |[],i,h=>by simp at h
 |x::r,0,h=>by simp at h;subst h;simp[qh8]
 |x::r,i+1,h=>by have:=qio (s:=r) (i:=i) (by simpa using h);simp only[qh8,List.set_cons_succ,List.count_cons]at this ⊢;omega
theorem qqn{rec:Int->Nat->List Bool->List Nd × List Bool} {n:Nat} (hrec:∀k z s,s.length=n->s.getD k.toNat true=false->(rec k z s).2.length=n/\(rec k z s).1.length+qh8 (rec k z s).2<=qh8 s):∀(K:List Int) (z:Nat) (s:List Bool),s.length=n ->
  (qmc rec n K z s).2.2.length=n/\(qmc rec n K z s).2.1.length+qh8 (qmc rec n K z s).2.2<=qh8 s/\(qmc rec n K z s).1.length<=K.length
 |[],z,s,h=>by simp[qmc,h]
 |k::r,z,s,h=>by
  unfold qmc;split
  next hc=>obtain⟨h1,h2⟩:=hrec k z s h hc.2.2;obtain⟨h3,h4,h5⟩:=qqn hrec r (z+(rec k z s).1.length) (rec k z s).2 h1;simp only[jo,jx];refine⟨h3,by omega,by omega⟩
  ·obtain⟨h3,h4,h5⟩:=qqn hrec r z s h;simp only[jx];exact⟨h3,h4,by omega⟩
theorem qqm:∀(f:Nat) (t:Tr) (i up:Int) (z:Nat) (s:List Bool),s.length=t.length->s.getD i.toNat true=false ->
  (qnq f t i up z s).2.length=t.length/\(qnq f t i up z s).1.length+qh8 (qnq f t i up z s).2<=qh8 s
 |0,t,i,up,z,s,h,_=>by simp[qnq,h]
 |f+1,t,i,up,z,s,h,hs=>by have h1:=qio hs;obtain⟨h3,h4,_⟩:=qqn (rec:=fun k z' s'=>qnq f t k (z:Int) z' s') (n:=t.length) (fun k z' s' hl hu=>qqm f t k z z' s' hl hu) (qa0 t i).kids (z+1) (s.set i.toNat true) (by simpa using h);unfold qnq;simp only[jx];exact⟨h3,by omega⟩
def pR(z:Nat) (pre:List AV):Option Unit->AV × List (Nat × Blk)
 |none=>(.nilS,[])
 |some _=>(.slc 0 0 z (.rest 7),[(0,.cells pre)])
theorem app_put{z:Nat} {pre nc:List AV} {o:Option Unit} {v0:AV} {r0:List (Nat × Blk)} {A B C S:Blk} (hpr:pR z pre o=(v0,r0)) (ho:o=none->z=0/\pre=[]) (hpl:pre.length=z * 7) (hnl:nc.length=7) (hns:allSingle nc=true) (hz:z<=100000) :
  qby PG ⟨7,[(6,.cells nc)::(5,.cells nc)::(4,A)::(3,B)::(2,C)::(1,S)::r0]⟩ 34 v0 (.slc 6 0 1 (.ex 1)) =
   some (.slc 7 0 (z+1) (.rest 7),⟨8,[[(7,.cells (pre++nc)),(6,.cells nc),(5,.cells nc),(4,A),(3,B),(2,C),(1,S)]]⟩):=by
 have hrow:∀cs,qpi PG 34 cs=.cells cs:=by intro cs;rfl
 have htk:qef 7 nc=some nc:=by rw[<- hnl];exact qcn nc
 obtain⟨by_,hby⟩ : ∃b,qco PG 34=some b:=⟨_,qzs⟩;have hbv:0 < by_/\by_<=1000:=by have:=hby.symm.trans qzs;simp at this;omega
 obtain⟨zz,hzz,hzl⟩ : ∃b,qc1 PG 34=some b/\b.cells.length=7:=⟨_,zei,rfl⟩;have hb1:Nat.blt 0 by_=true:=by simp;omega
 cases o with
 |none=>
  obtain⟨rfl,rfl⟩:=ho rfl;simp[pR]at hpr;obtain⟨rfl,rfl⟩:=hpr;have hr:qcf 1 by_=true:=by unfold qcf;rw[jN];omega
  unfold qby;simp[qvr,hby,hzz,hzl,qc7,hb1,hr,qbb,readCells,zG,qek,htk,hnl,hrow,Heap.new,pushF]
 |some _=>
  simp[pR]at hpr;obtain⟨rfl,rfl⟩:=hpr;have hr:qcf (z+1) by_=true:=by unfold qcf;rw[jN];have:(z+1) * by_<=100001 * 1000:=Nat.mul_le_mul (by omega) hbv.2;omega
  have h2:Nat.ble ((z+1) * 7) (z * 7)=false:=by rw[<- Bool.not_eq_true,jN];omega
  have htp:qef (z * 7) pre=some pre:=by rw[<- hpl];exact qcn pre
  unfold qby;simp[qvr,hby,hzz,hzl,qc7,hb1,hr,qbb,readCells,zG,qek,htk,hnl,hrow,Heap.new,pushF,hns,qck,hpl,h2,htp,Heap.drop,qem,killF]
theorem zjw{g:List (Nat × Blk)} {fs:List (List (Nat × Blk))}:qby PG ⟨7,((6,.cells [])::g)::fs⟩ 71 (.slc 6 0 0 (.ex 0)) (qal [])=some (.slc 6 0 0 (.ex 0),⟨7,((6,.cells [])::g)::fs⟩):=rfl
theorem app_atts{g:List (Nat × Blk)} {fs:List (List (Nat × Blk))} (A:List At1) (hA:A≠[]) (hl:A.length<=100000) :
  qby PG ⟨7,((6,.cells [])::g)::fs⟩ 71 (.slc 6 0 0 (.ex 0)) (qal A) =
   some (.slc 7 0 A.length (.rest 2),⟨8,((7,.cells (qa5 (A.map qcq)))::(6,.cells [])::g)::fs⟩):=by
 cases A with
 |nil=>exact absurd rfl hA
 |cons x r=>
  have hrow:∀cs,qpi PG 71 cs=.cells cs:=by intro cs;rfl
  obtain⟨by_,hby⟩ : ∃b,qco PG 71=some b:=⟨_,zjb⟩;have hbv:0 < by_/\by_<=1000:=by have:=hby.symm.trans zjb;simp at this;omega
  obtain⟨zz,hzz,hzl⟩ : ∃b,qc1 PG 71=some b/\b.cells.length=2:=⟨_,zeT71,rfl⟩;have hb1:Nat.blt 0 by_=true:=by simp;omega
  have hr:qcf ((x::r).length) by_=true:=by unfold qcf;rw[jN];have:(x::r).length * by_<=100000 * 1000:=Nat.mul_le_mul hl hbv.2;omega
  have hel:=(qfg (x::r)).len;have hsg:=qit (x::r);have htk:((x::r).map qcq).take (x::r).length=(x::r).map qcq:=by rw[jz];simp
  have hln:((x::r).map qcq).length=(x::r).length:=by simp
  rw[hln]at hel;have h1:0 < (x::r).length:=by simp
  show qby _ _ _ _ (.fslc 2 ((x::r).map qcq))=_;generalize (x::r).map qcq=M at *;generalize hF:qa5 M=F at *;unfold qby;simp only[szT71,hby,hzz,hzl,qc7,hb1,jb,hln];generalize (x::r).length=k at *;have h2:Nat.ble k 0=false:=by rw[<- Bool.not_eq_true,jN];omega
  simp[qbb,htk,hF,hr,hsg,h2,hel,readCells,zG,qek,qef,hrow,Heap.new,pushF]
theorem put_in{C:Ctx} {f:FuncId} {t:Tr} {k up:Int} {N sz n q:Nat} {s s':List Bool} {cs P:List AV} {g:List (Nat × Blk)} (hN:5 < N) (hP:allSingle P=true) (hg:∀e,e∈g->e.1 < N/\e.1≠5/\e.1≠1) (hnd:(g.map (·.1)).Nodup) (hcs:qa9 cs=true)
  (h:∀pre,qa9 pre=true->allSingle pre=true->pre.length=P.length->CallAt C f [qak t,.int .i64 k,.int .i64 up,.agg [.slc 0 0 sz (.rest 7)],.slc 1 0 n (.ex n)] ⟨2,[[(1,.cells (bls s)),(0,.cells pre)]]⟩ (.agg [.slc 2 0 q (.rest 7)]) ⟨3,[[(2,.cells (pre++cs)),(1,.cells (bls s'))]]⟩) :
  CallAt C f [qak t,.int .i64 k,.int .i64 up,.agg [.slc 5 0 sz (.rest 7)],.slc 1 0 n (.ex n)] ⟨N,[(5,.cells P)::(1,.cells (bls s))::g]⟩ (.agg [.slc N 0 q (.rest 7)]) ⟨N+1,[(N,.cells (P++cs))::(1,.cells (bls s'))::g]⟩:=by
 refine CallAt.anyrow hP fun pre hp hs hl=>?_;have hb:=qeg s;have hb':=qeg s';have h5:∀e,e∈g->Nat.beq 5 e.1=false/\Nat.beq 1 e.1=false:=fun e he=>⟨qaw fun x=>(hg e he).2.1 x.symm,qaw fun x=>(hg e he).2.2 x.symm⟩;have hf:FitH 0 [(5,0),(1,1)] [] ⟨N,[(5,.cells pre)::(1,.cells (bls s))::g]⟩ ⟨2,[[(1,.cells (bls s)),(0,.cells pre)]]⟩:={
  nd1:=by simp
  nd2:=by simp
  nd3:=by simp[Heap.ents]
  lt:=by simp
  idn:=by simp
  num:=by simp
  src:=by
   intro e he;simp[Heap.ents]at he;rcases he with rfl|rfl
   ·exact⟨1,.cells (bls s),by simp,by simp[zG],qaf hb⟩
   ·exact⟨5,.cells pre,by simp,by simp[zG],qaf hp⟩
  frz:=fun x h=>by cases h }
 have:=(h pre hp hs hl).framed (H':=⟨N+1,[(N,.cells (pre++cs))::(1,.cells (bls s'))::g]⟩) (args:=[qak t,.int .i64 k,.int .i64 up,.agg [.slc 5 0 sz (.rest 7)],.slc 1 0 n (.ex n)]) hf ?_ ?_ (by simp)
 ·simpa[qiu,qgr,qg9,qdr]using this
 ·have ht:qat [(5,0),(1,1)] [] (qak t) (qak t):=qbe (by simp);simp[qaz,qat,qb2,ht,qab]
 ·refine⟨by simp,fun hn hlt=>?_,?_⟩
  ·simp only[Heap.ents,je,js,jg,jj,jr,ja,ji,not_or];refine⟨⟨by omega,?_⟩,?_,hnd⟩
   ·rintro⟨e,he,hh⟩;have:=hg e he;omega
   ·rintro⟨e,he,hh⟩;have:=hg e he;omega
  ·intro e he;have hc:=qbt (qg9 [(5,0),(1,1)] N 2) (l:=pre++cs) (by
    have:∀{a b:List AV},qa9 a=true->qa9 b=true->qa9 (a++b)=true:=by
     intro a b h1 h2;induction a with
     |nil=>exact h2
     |cons x r ih=>simp only[qa9,jd,List.cons_append]at h1 ⊢;exact⟨h1.1,ih h1.2⟩
    exact this hp hcs)
   have hs':=qbt (qg9 [(5,0),(1,1)] N 2) hb';simp only[Heap.ents,je,js,jg,ja]at he;rcases he with rfl|rfl|he
   ·exact .inl ⟨(2,.cells (pre++cs)),by simp[Heap.ents],by simp[qky,hc];simp[qg9,qdr]⟩
   ·exact .inl ⟨(1,.cells (bls s')),by simp[Heap.ents],by simp[qky,hs'];simp[qg9,qdr]⟩
   ·have:=hg e he;refine .inr ⟨by simp[Heap.ents,he],?_⟩;simp;omega
def hdP(up:Int) (n:Nd):List AV:=[qbm n.kind,qbm n.space,.str n.name,qal n.attrs,.str n.data,qbm up]
abbrev hPR(t:Tr) (sz:Nat) (row:List AV) (s:List Bool):List (Nat × Blk):=[(5,.cells row),(1,.cells (bls s)),(3,.cells [.slc 5 0 sz (.rest 7)]),(2,.cells [qa8 t]),(4,.cells [.nilS])]
theorem qmt{t:Tr} {sz:Nat} {s:List Bool} {L:List Int} {U W:List AV} {H:Heap} {a b:Nat} {v6:AV} (hv6:v6=lA b L\/(v6=.nilS/\L=[])) (hU:qa9 U=true) (hW:qa9 W=true) (h1:a≠b/\a ∉ [1,2,3,4]/\b ∉ [1,2,3,4]) (h5:H.get a=some (.cells (U++v6::W)))
  (g1:H.get 1=some (.cells (bls s))) (g2:H.get 2=some (.cells [qa8 t])) (g3:H.get 3=some (.cells [.slc a 0 sz (.rest 7)])) (g4:H.get 4=some (.cells [.nilS])) (g6:L≠[]->H.get b=some (.cells (qcd L))) :
  FitH 2 [(a,5),(b,6),(1,1),(2,2),(3,3),(4,4)] [] H ⟨7,[hPR t sz (U++lA 6 L::W) s,lF 6 L]⟩ where
 nd1:=by obtain⟨h1,h2,h3⟩:=h1;simp at h2 h3;simp;omega
 nd2:=by simp
 nd3:=by
  by_cases hL:L=[]
  ·subst hL;simp[Heap.ents,lF,qe4]
  ·rw[qhh hL];simp[Heap.ents]
 lt:=by simp
 idn:=by simp
 num:=by simp
 src:=by
  intro e he;have hN:=qdc t;simp only[Heap.ents,hPR,je,js,jg,ja,jl,jL,or_false]at he;rcases he with(rfl|rfl|rfl|rfl|rfl)|he
  ·refine⟨a,_,by simp,h5,?_⟩;show qaz _ _ _ _;refine qdv (qaf hU) ⟨?_,qaf hW⟩;by_cases hL:L=[]
   ·subst hL;rcases hv6 with rfl|⟨rfl,_⟩<;>simp[lA,qdo,qcd,qat]
   ·rcases hv6 with rfl|⟨_,h⟩
    ·rw[qnb hL,qnb hL];have:¬ a=b:=h1.1;simp[qat,qb2,this]
    ·exact absurd h hL
  ·exact⟨1,_,by simp,g1,qaf (qeg s)⟩
  ·exact⟨3,_,by simp,g3,by simp[qhp,qaz,qat,qb2]⟩
  ·exact⟨2,_,by simp,g2,qaf (by simp[qa9])⟩
  ·exact⟨4,_,by simp,g4,by simp[qhp,qaz,qat]⟩
  ·by_cases hL:L=[]
   ·subst hL;cases he
   ·rw[qhh hL]at he;simp at he;subst he;exact⟨b,_,by simp,g6 hL,qaf (qbj L)⟩
 frz:=fun y hy=>by cases hy
theorem put_fitE{sz:Nat} {s:List Bool} {L:List Int} {pre:List AV} {x:Nd} {up:Int} {D:List Nd} {H:Heap} (hp:qa9 pre=true) (h5:H.get 5=some (.cells (pre++hdP up x++lA 6 L::qa5 (D.map qa6))))
  (g1:H.get 1=some (.cells (bls s))) (g6:L≠[]->H.get 6=some (.cells (qcd L))) :
  ∃σ Φ,qat σ Φ (.agg [.slc 5 0 sz (.rest 7)]) (.agg [.slc 2 0 sz (.rest 7)])/\FitH 2 σ Φ H ⟨3,[[(2,.cells (pre++qa5 ((({ x with up:=up,kids:=L }:Nd)::D).map qa6))),(1,.cells (bls s))]]⟩:=by
 have key:∀Φ,(Φ=[]\/(Φ=[(6,qcd L)]/\L≠[]))->qat [(5,2),(1,1)] Φ (lA 6 L) (qbl L)->FitH 2 [(5,2),(1,1)] Φ H ⟨3,[[(2,.cells (pre++qa5 ((({ x with up:=up,kids:=L }:Nd)::D).map qa6))),(1,.cells (bls s))]]⟩:=fun Φ hΦ hv=>{
  nd1:=by rcases hΦ with rfl|⟨rfl,_⟩<;>simp
  nd2:=by simp
  nd3:=by simp[Heap.ents]
  lt:=by simp
  idn:=by simp
  num:=by simp
  src:=by
   intro e he;simp only[Heap.ents,je,js,jg,ja,jL,or_false]at he;rcases he with rfl|rfl
   ·refine⟨5,_,by simp,h5,?_⟩;show qaz _ _ _ (pre++(hdP up x++qbl L::qa5 (D.map qa6)));rw[List.append_assoc];refine qdv (qaf hp) (qdv (qaf (by simp[hdP,qa9,qab,qbm])) ⟨hv,qaf (qbk D).pure⟩)
   ·exact⟨1,_,by simp,g1,qaf (qeg s)⟩
  frz:=fun y hy=>by
   rcases hΦ with rfl|⟨rfl,hL⟩
   ·cases hy
   ·simp at hy;subst hy;exact⟨qcd L,g6 hL,qaf (qbj L),qbj L⟩ }
 by_cases hL:L=[]
 ·refine⟨_,[],?_,key [] (.inl rfl) (by subst hL;simp[lA,qdo,qcd,qat])⟩;simp[qat,qaz,qb2]
 ·refine⟨_,[(6,qcd L)],?_,key _ (.inr ⟨rfl,hL⟩) ?_⟩
  ·simp[qat,qaz,qb2]
  ·rw[qnb hL];simp only[qat,qca,if_true];refine .inl ⟨_,rfl,?_,by simp,(qgx L).size⟩;have hl:=(qgx L).len;rw[qey]at hl;have h2:(qcd L).length=L.length:=(by simp[qcd]);show qek 0 (L.length * 1) (qcd L)=some (qa5 (qcd L));rw[qey,y8,<- h2];unfold qek;rw[jF,qcn]
theorem get_r0{z:Nat} {pre:List AV} {o:Option Unit} {v0:AV} {r0:List (Nat × Blk)} (hpr:pR z pre o=(v0,r0)):r0=[]\/r0=[(0,.cells pre)]:=by cases o<;>(simp[pR]at hpr;obtain⟨rfl,rfl⟩:=hpr;simp)
theorem zav{z:Nat} {pre:List AV} {o:Option Unit} {v0:AV} {r0:List (Nat × Blk)} (hpr:pR z pre o=(v0,r0)) (hp:qa9 pre=true) {t:Tr} {s:List Bool} {x:Nd} {n:Nat} {va:AV} {Φ:List (Nat × List AV)} {f:List (Nat × Blk)}
  (hΦ:Φ=[]\/Φ=[(7,qa5 (x.attrs.map qcq))]) (hva:∀σ,qat σ Φ va (qal x.attrs)) (h7:∀y,y∈Φ->getF y.1 f=some (.cells y.2))
  (h5:getF 5 f=some (.cells [qbm x.kind,qbm x.space,.str x.name,va,.str x.data,qbm x.up,qbl x.kids])) (h4:getF 4 f=some (.cells [.nilS])) (h3:getF 3 f=some (.cells [v0])) (h2:getF 2 f=some (.cells [qa8 t])) (h1:getF 1 f=none)
  (h0:getF 0 f=none):FitH 2 [(5,5),(4,4),(3,3),(2,2),(1,1),(0,0)] Φ ⟨n,[f,(1,.cells (bls s))::r0]⟩ ⟨6,[(5,.cells x.cs)::(4,.cells [.nilS])::(3,.cells [v0])::(2,.cells [qa8 t])::(1,.cells (bls s))::r0]⟩ where
 nd1:=by rcases hΦ with rfl|rfl<;>simp
 nd2:=by simp
 nd3:=by rcases get_r0 hpr with rfl|rfl<;>simp[Heap.ents]
 lt:=by simp
 idn:=by simp
 num:=by simp
 src:=by
  intro e he;have hN:=qdc t;simp only[Heap.ents,je,js,jg,ja]at he;rcases he with rfl|rfl|rfl|rfl|rfl|he
  ·exact⟨5,.cells [qbm x.kind,qbm x.space,.str x.name,va,.str x.data,qbm x.up,qbl x.kids],by simp,by simp[Heap.get,getFs,h5],by simp[qhp,Nd.cs,qaz,qat,qbm,qab,hva]⟩
  ·exact⟨4,.cells [.nilS],by simp,by simp[Heap.get,getFs,h4],by simp[qhp,qaz,qat]⟩
  ·refine⟨3,.cells [v0],by simp,by simp[Heap.get,getFs,h3],?_⟩;cases o<;>(simp[pR]at hpr;obtain⟨rfl,rfl⟩:=hpr;simp[qhp,qaz,qat,qb2])
  ·exact⟨2,.cells [qa8 t],by simp,by simp[Heap.get,getFs,h2],qaf (by simp[qa9])⟩
  ·exact⟨1,.cells (bls s),by simp,by simp[Heap.get,getFs,h1,getF],qaf (qeg s)⟩
  ·rcases get_r0 hpr with rfl|rfl
   ·cases he
   ·simp at he;subst he;exact⟨0,.cells pre,by simp,by simp[Heap.get,getFs,h0,getF],qaf hp⟩
 frz:=fun y hy=>by
  refine⟨y.2,by simp[Heap.get,getFs,h7 y hy],?_,?_⟩<;>(rcases hΦ with rfl|rfl<;>simp at hy<;>subst hy)
  ·exact qaf (qfg _).pure
  ·exact(qfg _).pure
theorem put_at(t:Tr) (ht:okT t):∀(F:Nat) (i:Nat) (up:Int) (z:Nat) (seen:List Bool) (pre:List AV) (o:Option Unit) (ho:o=none->z=0/\pre=[]) 
  (hp:qa9 pre=true) (hs:allSingle pre=true) (hpl:pre.length=z * 7) (i1:i < t.length) (hsl:seen.length=t.length) (hsi:seen.getD i true=false) (hz:z+qh8 seen<=100000) (hF:qh8 seen<=F),
  CA T 41 [qak t,.int .i64 (i:Int),.int .i64 up,.agg [(pR z pre o).1],.slc 1 0 t.length (.ex t.length)] ⟨2,[(1,.cells (bls seen))::(pR z pre o).2]⟩
   (.agg [.slc 2 0 (z+(qnq F t i up z seen).1.length) (.rest 7)]) ⟨3,[[(2,.cells (pre++qa5 ((qnq F t i up z seen).1.map qa6))),(1,.cells (bls (qnq F t i up z seen).2))]]⟩:=by
 intro F;induction F with
 |zero=>intro i up z seen pre o ho hp hs hpl i1 hsl hsi hz hF;have:=qio hsi;omega
 |succ F' ih=>
 intro i up z seen pre o ho hp hs hpl i1 hsl hsi hz hF;have hix:=atX (t:=t) (i:=(i:Int)) (by omega) (by omega);obtain⟨v0,r0,hpr⟩ : ∃v0 r0,pR z pre o=(v0,r0):=⟨_,_,rfl⟩;have hv1:v0.single=true:=by cases o<;>(simp[pR]at hpr;obtain⟨rfl,rfl⟩:=hpr;rfl)
 have hvc:v0.cells=[v0]:=by cases o<;>(simp[pR]at hpr;obtain⟨rfl,rfl⟩:=hpr;rfl)
 have hvl:∀H,qer PG H 22 v0=some z:=fun H=>by
  cases o with
  |none=>simp[pR]at hpr;obtain⟨rfl,rfl⟩:=hpr;simp[qer,(ho rfl).1]
  |some _=>simp[pR]at hpr;obtain⟨rfl,rfl⟩:=hpr;simp[qer]
 rw[hpr];simp only;obtain⟨x,hxn⟩ : ∃x,x=qa0 t i:=⟨_,rfl⟩;have hal:=(ht.ok.2 _ (qb5 (t:=t) (i:=(i:Int)) (by omega) (by omega))).2;have hkl:=(ht.ok.2 _ (qb5 (t:=t) (i:=(i:Int)) (by omega) (by omega))).1;rw[<- hxn]at hix hal hkl;refine qa1 (s0:=⟨[0,1,2,3,4,5,8,10,11,12,13,14],[qak t,.int .i64 i,.int .i64 up,.agg [v0],.slc 1 0 t.length (.ex t.length),uD,uD,uD,uD,uD,uD,uD],[],99,⟨2,[]::[(1,.cells (bls seen))::r0]⟩⟩) Tryz.func41 rfl rfl rfl ?_;apply qR;simp[zS,hv1];apply qR;simp[zS,hix,qaq];have hat3:qcy x.cs 3=some (qal x.attrs):=rfl;have hst3:∀v,qho [v] 3 x.cs=some [qbm x.kind,qbm x.space,.str x.name,v,.str x.data,qbm x.up,qbl x.kids]:=fun v=>rfl;refine qg2 ((⟨[0,1,2,3,4,5,8,10,11,12,13,14],[qak t,.int .i64 i,.int .i64 up,uD,.slc 1 0 t.length (.ex t.length),.ptr 2 0,.ptr 3 0,.ptr 4 0,.ptr 5 0,uD,uD,uD],[],99,⟨6,[(5,.cells x.cs)::(4,.cells [.nilS])::(3,.cells [v0])::(2,.cells [qa8 t])::(1,.cells (bls seen))::r0]⟩⟩ : St)) ?_ fun hj=>?_
 rotate_left
 ·have hTr:∀σ Φ,qat σ Φ (qak t) (qak t):=fun _ _=>qbe (by simp);by_cases hA:x.attrs=[]
  ·rw[hA]at hat3;apply qR;simp[zS,zjw,hat3,hst3,qc3];exact hj _ ⟨[(5,5),(4,4),(3,3),(2,2),(1,1),(0,0)],[],rfl,rfl,rfl,by simp[qaz,qat,qb2,qab,qa9,hTr],zav hpr hp (.inl rfl) (fun σ=>by rw[hA];simp[qat,qal]) (by simp) rfl rfl rfl rfl rfl rfl⟩
  ·have happ1:=app_atts (g:=[(5,.cells x.cs),(4,.cells [.nilS]),(3,.cells [v0]),(2,.cells [qa8 t])]) (fs:=[(1,.cells (bls seen))::r0]) x.attrs hA (by omega);apply qR;simp[zS,happ1,hat3,hst3,qc3];have hel:=qfg x.attrs;exact hj _ ⟨[(5,5),(4,4),(3,3),(2,2),(1,1),(0,0)],[(7,qa5 (x.attrs.map qcq))],rfl,rfl,rfl,by simp[qaz,qat,qb2,qab,qa9,hTr],zav hpr hp (.inr rfl) (fun σ=>by simp only[qal,qat,qca,if_true];refine .inl ⟨_,rfl,?_,by simp,hel.size⟩;have hl:=hel.len;rw[jJ]at hl;unfold qek;rw[jF,<- hl,qcn]) (by simp[getF]) rfl rfl rfl rfl rfl rfl⟩
 have hst5:qho [AV.int .i64 up] 5 x.cs=some [qbm x.kind,qbm x.space,.str x.name,qal x.attrs,.str x.data,.int .i64 up,qbl x.kids]:=rfl;apply qR;simp[zS,hst5];apply qR;simp[zS,hvl];have happ:=app_put (nc:=[qbm x.kind,qbm x.space,.str x.name,qal x.attrs,.str x.data,.int .i64 up,.nilS]) (A:=.cells [.nilS]) (B:=.cells [v0]) (C:=.cells [qa8 t]) (S:=.cells (bls seen)) hpr ho hpl rfl rfl (by omega);have sga:∀A,(qal A).single=true:=fun _=>rfl;have sgi:∀i,(qbm i).single=true:=fun _=>rfl;apply qR;simp[zS,happ,qc3,sga,sgi];have hly:qho [.bool true] i (bls seen)=some (bls (seen.set i true)):=layB (by omega);have hxi:qav PG 45 (.slc 1 0 t.length (.ex t.length)) (.int .i64 (i:Int))=some (.ptr 1 i):=by simp[qav,qbz i1]
 apply qR;simp[zS,hly,hxi];apply qR;simp[zS];obtain⟨U,hU⟩ : ∃U,U=pre++hdP up x:=⟨_,rfl⟩;have hUp:qa9 U=true:=by rw[hU];exact qu1 hp (by simp[hdP,qa9,qab,qbm])
 have hUl:U.length=z * 7+6:=by rw[hU];simp[hdP,hpl]
 have e0:pre++[qbm x.kind,qbm x.space,.str x.name,qal x.attrs,.str x.data,.int .i64 up,.nilS]=U++[.nilS]:=by rw[hU];simp[hdP,qbm]
 rw[e0];obtain⟨K,hK⟩ : ∃K,K=x.kids:=⟨_,rfl⟩;have hUn:=qio hsi;obtain⟨rec,hrec⟩ : ∃rec,rec=fun(k:Int) (z':Nat) (s':List Bool)=>qnq F' t k (z:Int) z' s':=⟨_,rfl⟩;obtain⟨R,hR⟩ : ∃R,R=qmc rec t.length K (z+1) (seen.set i true):=⟨_,rfl⟩;have hfin:qnq (F'+1) t i up z seen=({ x with up:=up,kids:=R.1 }::R.2.1,R.2.2):=by rw[hR,hrec,hK,hxn];rfl
 rw[hfin];clear hfin happ hly hxi hst5 e0;have gk:qcy x.cs 6=some (qbl K):=by rw[hK];rfl
 refine qa7 (qb1 (fun y:Nat × List Int × List Nd × List Bool=>(⟨[0,1,2,3,4,5,8,10,11,12,13,14],[uD,.int .i64 i,uD,uD,.slc 1 0 t.length (.ex t.length),.ptr 2 0,.ptr 3 0,.ptr 4 0,uD,.int .i64 (z:Int),.int .i64 (y.1:Int),uD],[],99,⟨7,[hPR t (z+1+y.2.2.1.length) (U++lA 6 y.2.1::qa5 (y.2.2.1.map qa6)) y.2.2.2,lF 6 y.2.1]⟩⟩ : St))
  (fun y=>y.1<=K.length/\y.2.1.length<=y.1/\y.2.2.2.length=t.length/\y.2.2.1.length+qh8 y.2.2.2 < qh8 seen/\R=(y.2.1++(qmc rec t.length (K.drop y.1) (z+1+y.2.2.1.length) y.2.2.2).1,y.2.2.1++(qmc rec t.length (K.drop y.1) (z+1+y.2.2.1.length) y.2.2.2).2.1,(qmc rec t.length (K.drop y.1) (z+1+y.2.2.1.length) y.2.2.2).2.2))
  (fun y=>K.length - y.1) [(7,5),(8,6),(1,1),(2,2),(3,3),(4,4)] [] (0,[],[],seen.set i true) ⟨jh _,jc _,by simpa using hsl,by simp;omega,by simpa using hR⟩
  ⟨rfl,rfl,rfl,by simp[qaz,qat,qb2,qab,qa9],qmt (L:=[]) (W:=[]) (.inr ⟨rfl,rfl⟩) hUp rfl (by simp) (by simp[zG,lA,qdo]) (by simp[zG,lA,qdo]) (by simp[zG,lA,qdo]) (by simp[zG,lA,qdo]) (by simp[zG,lA,qdo]) (by simp)⟩ ?_)
 rintro⟨j,L,D,s⟩ ⟨hj,hLj,hsn,hDu,hx⟩ B hB;simp only at hj hLj hsn hDu hx ⊢;have hrecS:∀k z' s',s'.length=t.length->s'.getD k.toNat true=false->(rec k z' s').2.length=t.length/\(rec k z' s').1.length+qh8 (rec k z' s').2<=qh8 s':=fun k z' s' h1 h2=>by rw[hrec];exact qqm F' t k z z' s' h1 h2
 have hW:=(qbk D).pure;have hWl:=(qbk D).len;by_cases h:j < K.length
 ·have hc:(j:Int) < (K.length:Int):=by omega
  have hik:=atI h;have hac:=qbd (show j<=1000000000 by rw[<- hK]at hkl;omega);rw[List.drop_eq_getElem_cons h]at hx;simp only[qmc]at hx;generalize K[j]=k at *;apply qR;simp[zS,hix,gk,qpb,hc];refine qaj (by simp[qc0,St.get,h]) ?_;apply qa4;simp;repeat apply wq
  apply qa7;apply qR;simp[zS,hix,gk,hik];by_cases hA:0<=k/\k < (t.length:Int)/\s.getD k.toNat true=false
  ·obtain⟨k0,k1,k2⟩:=hA;rw[if_pos ⟨k0,k1,k2⟩]at hx;obtain⟨kn,rfl⟩ : ∃kn:Nat,k=(kn:Int):=⟨k.toNat,by omega⟩;simp only[jU]at k2 hx;have kl:kn < t.length:=(by omega);have hks:s.getD kn true=s[kn]'(by omega):=(by simp[List.getD,show kn < s.length by omega]);have hgb:=getB (s:=s) (i:=kn) (by omega);rw[<- hks,k2]at hgb;have hxk:qav PG 45 (.slc 1 0 t.length (.ex t.length)) (.int .i64 (kn:Int))=some (.ptr 1 kn):=(by simp[qav,qbz kl]);have lenT:∀H,qer PG H 22 (qa8 t)=some t.length:=fun H=>(by simp[qer]);apply qR;simp[zS,k0,k1,lenT,hxk,hgb];apply qaj rfl;obtain⟨sz,hsz⟩ : ∃sz,sz=z+1+D.length:=⟨_,rfl⟩;rw[<- hsz]at hx ⊢;obtain⟨W,hWe⟩ : ∃W,W=qa5 (D.map qa6):=⟨_,rfl⟩;rw[<- hWe]at hW hWl ⊢;have hxz:∀n,n=5->qav PG 22 (.slc n 0 sz (.rest 7)) (.int .i64 (z:Int))=some (.ptr n (z * 7)):=fun n _=>(by simp[qav,qbz (show z < sz by omega)]);have gz:qcy (U++lA 6 L::W) (z * 7+6)=some (lA 6 L):=(by rw[<- hUl,qf4 (by simp),jv (by omega)];simp);have hl5:∀H,qer PG H 22 (.slc 5 0 sz (.rest 7))=some sz:=fun H=>(by simp[qer]);have happk:=app_l (m:=24) (t:=19) (b:=6) (L:=L) (v:=(sz:Int)) (g1:=hPR t sz (U++lA 6 L::W) s) (g:=[]) (by rw[<- hK]at hkl;omega) (by simp) (by simp);rw[jg]at happk;have hlk:qho [.slc 24 0 (L.length+1) (.rest 1)] (z * 7+6) (U++lA 6 L::W)=some (U++.slc 24 0 (L.length+1) (.rest 1)::W):=(by have:=qh3 (a:=U) (b:=[lA 6 L]) (b':=[.slc 24 0 (L.length+1) (.rest 1)]) (c:=W) rfl;rw[hUl]at this;simpa using this);repeat apply wq
   refine qcc mixed qbc (by decide +kernel) fun B_ hB_=>?_;have hD_:ahead B_ 1 13=false/\ahead B_ 1 16=true/\ahead B_ 4 13=true/\ahead B_ 4 16=true/\ahead B_ 8 13=true/\ahead B_ 8 16=true/\ahead B_ 10 13=true/\ahead B_ 10 16=true/\ahead B_ 11 13=true/\ahead B_ 11 16=true/\ahead B_ 12 13=true/\ahead B_ 12 16=true/\ahead B_ 13 1=false/\ahead B_ 13 4=false/\ahead B_ 13 8=false/\ahead B_ 13 10=false/\ahead B_ 13 11=false/\ahead B_ 16 1=false/\ahead B_ 16 4=false/\ahead B_ 16 8=false/\ahead B_ 16 10=false/\ahead B_ 16 11=false:=(by rw[hB_];decide +kernel);apply qim B_;simp[zS,qdx,qc9,qc4,qbn,qas,qb4,qb0,Heap.lay,qdk,qil,qik,qfm,qfl,qfi,qfk,qfz,qfp,qea,qeb,qft,qfs,qfq,qfr,qfw,qfx,qfv,qfu,hD_,hxz,gz,hl5,happk,hlk,qc3];exact rfl;refine⟨_,rfl,?_,?_⟩;simp[zS,qbn,qas,qcb,qcs,qe5,hD_,hxz,gz,hl5,happk,hlk,qc3];simp[qc8,Heap.lay,qdk,qan];have hsU:=hrecS kn sz s hsn (by simpa using k2);have hle:qh8 s<=F':=(by omega);obtain⟨ra,hra⟩ : ∃ra,ra=rec kn sz s:=⟨_,rfl⟩;have hcall:=put_in (C:=ctx T) (f:=41) (N:=25) (t:=t) (k:=(kn:Int)) (up:=(z:Int)) (sz:=sz) (n:=t.length) (q:=sz+ra.1.length) (s:=s) (s':=ra.2) (cs:=qa5 (ra.1.map qa6)) (P:=U++.slc 24 0 (L.length+1) (.rest 1)::W)
    (g:=[(24,.cells (qcd (L++[(sz:Int)]))),(19,.cells [.int .i64 (sz:Int)]),(3,.cells [.slc 5 0 sz (.rest 7)]),(2,.cells [qa8 t]),(4,.cells [.nilS])]) (by omega) (by have hsU:allSingle (hdP up x)=true:=rfl;have hsW:allSingle (.slc 24 0 (L.length+1) (.rest 1)::W)=true:=(by rw[hWe];exact qjr D);rw[qd1,hU,qd1,hs,hsU,hsW];rfl) (by simp) (by simp) (qbk _).pure
    (fun pre' hp' hs' hl'=>by have:=ih kn (z:Int) sz s pre' (some ()) (by simp) hp' hs' (by rw[hl',hsz];simp[hUl,hWl];omega) kl hsn (by simpa using k2) (by omega) hle;rw[hra,hrec];simpa[pR]using this)
   have hcall:=hcall.perm (H2:=⟨25,[[(24,.cells (qcd (L++[(sz:Int)]))),(19,.cells [.int .i64 (sz:Int)]),(5,.cells (U++.slc 24 0 (L.length+1) (.rest 1)::W)),(1,.cells (bls s)),(3,.cells [.slc 5 0 sz (.rest 7)]),(2,.cells [qa8 t]),(4,.cells [.nilS])],[]]⟩)
    (H2':=⟨26,[[(25,.cells (U++.slc 24 0 (L.length+1) (.rest 1)::W++qa5 (ra.1.map qa6))),(1,.cells (bls ra.2)),(24,.cells (qcd (L++[(sz:Int)]))),(19,.cells [.int .i64 (sz:Int)]),(3,.cells [.slc 5 0 sz (.rest 7)]),(2,.cells [qa8 t]),(4,.cells [.nilS])],[]]⟩) rfl rfl
    (by simp only[Heap.ents,je,js,jg];exact(yv (l₁:=[_,_]) (l₂:=[_,_])).append_right _) (by simp only[Heap.ents,je,js,jg];exact yG _)
   refine qai (qbo [⟨41,_,_,_,_,hcall⟩]) ?_;simp[zS,qcu,qak,qc3];apply qR;simp[zS,hac];rw[<- hra]at hx hsU;have eW:qa5 ((D++ra.1).map qa6)=W++qa5 (ra.1.map qa6):=(by rw[j3,qbq,hWe]);have eS:z+1+(D++ra.1).length=sz+ra.1.length:=(by rw[jo];omega);refine hB _ (j+1,L++[(sz:Int)],D++ra.1,ra.2) (by simp only;omega) ⟨by simp only;omega,by simp;omega,by simpa using hsU.1,by simp;omega,?_⟩ ⟨[(25,5),(24,6),(1,1),(2,2),(3,3),(4,4)],[],rfl,rfl,rfl,by simp[qaz,qat,qb2,qab,qa9],?_⟩
   ·simp only;rw[eS,hx];simp
   ·simp only;rw[eS,eW];refine qmt (.inl (qnb (by simp)).symm) hUp (qu1 hW (qbk _).pure) (by simp) ?_ ?_ ?_ ?_ ?_ ?_<;>simp[zG]
  ·rw[if_neg hA]at hx;have lenT:∀H,qer PG H 22 (qa8 t)=some t.length:=fun H=>(by simp[qer]);by_cases q0:0<=k
   ·by_cases q1:k < (t.length:Int)
    ·obtain⟨kn,rfl⟩ : ∃kn:Nat,k=(kn:Int):=⟨k.toNat,by omega⟩;simp only[jU]at hA;have kl:kn < t.length:=(by omega);have hks:s.getD kn true=s[kn]'(by omega):=(by simp[List.getD,show kn < s.length by omega]);have hgb:=getB (s:=s) (i:=kn) (by omega);have k2:s.getD kn true=true:=by
      cases hq:s.getD kn true with
      |true=>rfl
      |false=>exact absurd ⟨q0,q1,hq⟩ hA
     rw[<- hks,k2]at hgb;have hxk:qav PG 45 (.slc 1 0 t.length (.ex t.length)) (.int .i64 (kn:Int))=some (.ptr 1 kn):=(by simp[qav,qbz kl]);apply qR;simp[zS,q0,q1,lenT,hxk,hgb];apply qag rfl;apply qa4;simp;apply qR;simp[zS,hac];refine hB _ (j+1,L,D,s) (by simp only;omega) ⟨by simp only;omega,by simp only;omega,hsn,hDu,hx⟩ ⟨[(5,5),(6,6),(1,1),(2,2),(3,3),(4,4)],[],rfl,rfl,rfl,by simp[qaz,qat,qb2,qab,qa9],?_⟩;exact qmt (.inl rfl) hUp hW (by simp) (by simp[zG]) (by simp[zG]) (by simp[zG]) (by simp[zG]) (by simp[zG]) (fun hL=>by rw[qhh hL];simp[zG])
    ·apply qR;simp[zS,q0,q1,lenT];apply qag rfl;apply qa4;simp;apply qR;simp[zS,hac];refine hB _ (j+1,L,D,s) (by simp only;omega) ⟨by simp only;omega,by simp only;omega,hsn,hDu,hx⟩ ⟨[(5,5),(6,6),(1,1),(2,2),(3,3),(4,4)],[],rfl,rfl,rfl,by simp[qaz,qat,qb2,qab,qa9],?_⟩;exact qmt (.inl rfl) hUp hW (by simp) (by simp[zG]) (by simp[zG]) (by simp[zG]) (by simp[zG]) (by simp[zG]) (fun hL=>by rw[qhh hL];simp[zG])
   ·apply qR;simp[zS,q0,lenT];apply qag rfl;apply qa4;simp;apply qR;simp[zS,hac];refine hB _ (j+1,L,D,s) (by simp only;omega) ⟨by simp only;omega,by simp only;omega,hsn,hDu,hx⟩ ⟨[(5,5),(6,6),(1,1),(2,2),(3,3),(4,4)],[],rfl,rfl,rfl,by simp[qaz,qat,qb2,qab,qa9],?_⟩;exact qmt (.inl rfl) hUp hW (by simp) (by simp[zG]) (by simp[zG]) (by simp[zG]) (by simp[zG]) (by simp[zG]) (fun hL=>by rw[qhh hL];simp[zG])
 ·have hc:¬ (j:Int) < (K.length:Int):=by omega
  rw[jt (by omega)]at hx;simp only[qmc,jg]at hx;apply qR;simp[zS,hix,gk,qpb,hc];refine qag (by simp[qc0,St.get,h]) ?_;apply qau;simp;apply qR;simp[zS,qc3];apply qa3;simp[zQ,Tryz.f41];rw[hx];obtain⟨H',hH'⟩ : ∃H':Heap,H'=⟨7,[[(5,.cells (U++lA 6 L::qa5 (D.map qa6))),(1,.cells (bls s)),(3,.cells [.slc 5 0 (z+1+D.length) (.rest 7)]),(2,.cells [qa8 t]),(4,.cells [.slc 5 0 (z+1+D.length) (.rest 7)])],lF 6 L]⟩:=⟨_,rfl⟩;have hend:=put_fitE (sz:=z+1+D.length) (s:=s) (L:=L) (x:=x) (up:=up) (D:=D) (H:=H') hp (by rw[hU]at hH';rw[hH'];simp[zG]) (by rw[hH'];simp[zG]) (fun hL=>by rw[hH',qhh hL];simp[zG]);have hrd:readCells H' 4 0 1=some [.slc 5 0 (z+1+D.length) (.rest 7)]:=by rw[hH'];simp[readCells,zG,qek,qef]
  rw[<- hH',hrd];simp;have e1:z+(D.length+1)=z+1+D.length:=by omega
  rw[e1];simpa[oneOr]using hend
def qbx(t:Tr):Tr:=(qnq t.length t 0 (-1) 0 (List.replicate t.length false)).1
theorem qhv:∀(n:Nat),qh8 (List.replicate n false)=n
 |0=>rfl
 |n+1=>by have:=qhv n;simp only[qh8,yy,List.count_cons]at this ⊢;simp
theorem tidy_at(t:Tr) (ht:okT t) (hne:t≠[]) :
  CA T 24 [qak t] zH (qak (qbx t)) zH:=by
 have hpos:0 < t.length:=j8.2 hne;have htl:=ht.ok.1;have hz:¬ (t.length:Int)=0:=by omega
 have lenT:∀H,qer PG H 22 (qa8 t)=some t.length:=fun H=>by simp[qer]
 have hput:=put_at (T:=T) t ht t.length 0 (-1) 0 (List.replicate t.length false) [] none (fun _=>⟨rfl,rfl⟩) rfl rfl rfl hpos (by simp) (by simp[List.getD,hpos]) (by rw[qhv];omega) (by rw[qhv];omega);obtain⟨a,ha⟩ : ∃a,a=qnq t.length t 0 (-1) 0 (List.replicate t.length false):=⟨_,rfl⟩;have hTt:qbx t=a.1:=by rw[ha];rfl
 have e0:((0:Nat):Int)=0:=rfl;rw[e0,<- ha]at hput;have hb:=qeg (List.replicate t.length false);have hb':=qeg a.2;have hf:FitH 0 [(7,1)] [] ⟨10,[[(7,.cells (bls (List.replicate t.length false))),(1,.cells [.nilS]),(0,.cells [qa8 t])]]⟩ ⟨2,[[(1,.cells (bls (List.replicate t.length false)))]]⟩:={
  nd1:=by simp
  nd2:=by simp
  nd3:=by simp[Heap.ents]
  lt:=by simp
  idn:=by simp
  num:=by simp
  src:=by intro e he;simp[Heap.ents]at he;subst he;exact⟨7,.cells (bls (List.replicate t.length false)),by simp,by simp[zG],qaf hb⟩
  frz:=fun x h=>by cases h }
 have hcall:=CallAt.framed (H':=⟨11,[[(10,.cells (qa5 (a.1.map qa6))),(7,.cells (bls a.2)),(1,.cells [.nilS]),(0,.cells [qa8 t])]]⟩) (args:=[qak t,.int .i64 0,.int .i64 (-1),.agg [.nilS],.slc 7 0 t.length (.ex t.length)]) hput hf (by
  have ht:qat [(7,1)] [] (qak t) (qak t):=qbe (by simp);simp[pR,qaz,qat,qb2,ht,qab]) (by
  refine⟨by simp,fun _ _=>by simp[Heap.ents],?_⟩;intro e he;have hc:=qbt (qg9 [(7,1)] 10 2) (qbk a.1).pure;have hs':=qbt (qg9 [(7,1)] 10 2) hb';simp[Heap.ents]at he;rcases he with rfl|rfl|rfl|rfl
  ·exact .inl ⟨(2,.cells (qa5 (a.1.map qa6))),by simp[Heap.ents],by simp[qky,hc];simp[qg9,qdr]⟩
  ·exact .inl ⟨(1,.cells (bls a.2)),by simp[Heap.ents],by simp[qky,hs'];simp[qg9,qdr]⟩
  ·exact .inr ⟨by simp[Heap.ents],by simp⟩
  ·exact .inr ⟨by simp[Heap.ents],by simp⟩) (by simp)
 simp only[qiu,qgr,qg9,qdr]at hcall;clear hput hf;refine qa1 (s0:=⟨[0,1,2],[qak t,uD,uD],[],15,⟨0,[]::[]⟩⟩) Tryz.func24 rfl rfl rfl ?_;apply qR;simp[zS];apply qR;simp[zS,lenT,hz];refine qag (by simp[qc0,St.get,hz,hne]) ?_;apply qa4;simp;have hms:=zgn (n:=t.length) (by omega);have bld:qgq PG 24 []=some (.agg [.nilS]):=rfl;repeat apply wq
 refine qcc mixed (qbo [⟨41,_,_,_,_,hcall⟩]) (by decide +kernel) fun B_ hB_=>?_;have hD_:ahead B_ 0 6=true/\ahead B_ 0 7=true/\ahead B_ 3 6=true/\ahead B_ 3 7=true/\ahead B_ 4 6=true/\ahead B_ 4 7=true/\ahead B_ 5 6=true/\ahead B_ 5 7=true/\ahead B_ 6 0=false/\ahead B_ 6 3=false/\ahead B_ 6 4=false/\ahead B_ 7 0=false/\ahead B_ 7 3=false/\ahead B_ 7 4=false:=by rw[hB_];decide +kernel
 apply qim B_;simp[zS,qdx,qc9,qc4,qbn,qas,qb4,qb0,Heap.lay,qdk,qil,qik,qfm,qfl,qfi,qfk,qfz,qfp,qea,qeb,qft,qfs,qfq,qfr,qfw,qfx,qfv,qfu,hD_,qcu,lenT,hms,qc3,bld,qak];exact rfl;refine⟨_,rfl,?_,?_⟩;simp[zS,qbn,qas,qcb,qcs,qe5,hD_,qcu,lenT,hms,qc3,bld,qak];simp[qc8,Heap.lay,qdk,qan];apply qa3;simp[zQ,Tryz.f24];have el:=qbk a.1;have hl:=el.len;rw[jJ]at hl;have hsub:qek 0 (a.1.length * 7) (qa5 (a.1.map qa6))=some (qa5 (a.1.map qa6)):=by unfold qek;rw[jF,<- hl,qcn]
 have hpf:=el.pure;have hsz:=el.size;rw[hTt];show ∃vs,_/\∃σ Φ,qat σ Φ _ (.agg [.fslc 7 (a.1.map qa6)])/\_;have hml:(a.1.map qa6).length=a.1.length:=by simp
 generalize hM:a.1.map qa6=M at *;generalize hF:qa5 M=F at *;simp[readCells,zG,qek,qef];refine⟨[],[(10,F)],?_,?_⟩
 ·simp only[qat,qaz,qca,if_true,oneOr];exact .inl ⟨.inl ⟨F,rfl,by rw[hsub,hF],hml,hsz⟩,trivial⟩
 ·exact {
   nd1:=by simp
   nd2:=by simp
   nd3:=by simp[Heap.ents]
   lt:=by simp
   idn:=by simp
   num:=by simp
   src:=by intro e he;simp[Heap.ents]at he
   frz:=fun y hy=>by simp at hy;subst hy;exact⟨F,by simp[zG],qaf hpf,hpf⟩ }
theorem c24(t:Tr) (h:okT t) (hne:t≠[]):CA T 24 [qak t] zH (qak (qbx t)) zH:=by exact tidy_at t h hne
theorem inj_24(x y:Tr) (h:(fun z:Tr=>([qak z]:List AV)) x=(fun z:Tr=>([qak z]:List AV)) y):x=y:=by simp only[j4,and_true]at h;exact qe9 h
def e24:Entry PG:=mkE 24 [[7]] (fun z:Tr=>[qak z]) (fun z=>(okT z)/\(z≠[])) (fun z=>qak (qbx z)) fun z h=>c24 (T:=[])  z h.1 h.2
theorem k24(hT:qIn 24 T e24) (t:Tr) (h:okT t) (hne:t≠[]) (H:Heap):qb7 (ctx T) (.fn 24) [qak t] H=some (qak (qbx t),H):=
 qd2 hT inj_24 (t) ⟨h,hne⟩ (by simp[qa9,qab,qao]) (by simp[qao]) H
theorem qyk{t:Tr} {rec:Int->Nat->List Bool->List Nd × List Bool} (hrec:∀k z s,0<=k->k < (t.length:Int)->∀n,n∈(rec k z s).1->∃m,m∈t/\n.attrs=m.attrs):∀(K:List Int) (z:Nat) (s:List Bool),∀n,n∈(qmc rec t.length K z s).2.1->∃m,m∈t/\n.attrs=m.attrs
 |[],z,s,n,h=>by simp[qmc]at h
 |k::r,z,s,n,h=>by
  unfold qmc at h;split at h
  ·rename_i hc;rcases jl.1 h with h|h
   ·exact hrec k z s hc.1 hc.2.1 n h
   ·exact qyk hrec r _ _ n h
  ·exact qyk hrec r z s n h
theorem zfx(t:Tr):∀(f:Nat) (i up:Int) (z:Nat) (s:List Bool),0<=i->i < (t.length:Int)->∀n,n∈(qnq f t i up z s).1->∃m,m∈t/\n.attrs=m.attrs
 |0,i,up,z,s,_,_,n,h=>by simp[qnq]at h
 |f+1,i,up,z,s,h0,h1,n,h=>by
  unfold qnq at h;rcases ja.1 h with rfl|h
  ·exact⟨qa0 t i,qb5 h0 h1,rfl⟩
  ·exact qyk (fun k z' s' a b=>zfx t f k z z' s' a b) _ _ _ n h
theorem tidy_at_{t:Tr} (h:t≠[]) (n:Nd) (hn:n∈qbx t):∃m,m∈t/\n.attrs=m.attrs:=
 zfx t _ _ _ _ _ (by omega) (by have:=j8.2 h;omega) n hn
theorem qpk{t:Tr} (h:qbi t=true):∀n,n∈t->∀k,k∈n.kids->0<=k/\k < (t.length:Int):=by
 intro n hn k hk;obtain⟨i,hi,rfl⟩:=yp hn;have hok:qmd t i=true:=by
  cases hb:qmd t i with
  |true=>rfl
  |false=>rw[qeu hi hb]at h;cases h
 have hnd:qa0 t (i:Int)=t[i]:=qba hi;simp only[qmd,jd,jV]at hok;have:=hok.2.2;rw[hnd]at this;have h1:=yU.1 this k hk;simp only[zeg,yf,decide_eq_true_eq,not_or]at h1;omega
theorem qpj{t:Tr} (h:qbi t=true):t≠[]:=by rintro rfl;simp[qbi]at h
theorem qtx{t:Tr} (h:qbi t=true) (ht:qwl t) (hn:∀n,n∈t->okN n):okT t:=⟨ht,hn,qpk h⟩
def rootB(n:Nd):Bool:=decide (n.name=[]) && (decide (n.attrs=[]) && (decide (n.data=[]) && decide (n.space=0)))
def qmy(t:Tr) (i:Nat):Bool:=((List.range t.length).drop i).all (qyo t)
theorem onesF_c{t:Tr} {i:Nat} (h:i < t.length):qmy t i=(qyo t i && qmy t (i+1)):=by unfold qmy;rw[List.drop_eq_getElem_cons (by simpa using h)];simp
theorem onesF_n{t:Tr} {i:Nat} (h:¬ i < t.length):qmy t i=true:=by unfold qmy;rw[jt (by simp;omega)];rfl
def qjl(t:Tr):Bool:=qbi t && (decide (t=qbx t) && (rootB (qa0 t 0) && qmy t 1))
theorem c34(A:List At1) (B:List At1) (ha:A.length<=1000) (hb:B.length<=1000):CA T 34 [qal A,qal B] zH (.bool (decide (A=B))) zH:=by
 refine qa1 (s0:=⟨[0,1,4,5],[qal A,qal B,uD,uD],[],26,⟨0,[[]]⟩⟩) Tryz.func34 rfl rfl rfl ?_;apply qR;simp[zS];by_cases hl:A.length=B.length
 ·have hli:(A.length:Int)=(B.length:Int):=by omega
  apply qR;simp[zS,qh2,hl,hli];refine qag (by simp[qc0,St.get,hl]) ?_;apply qa4;simp;apply qR;simp[zS];refine qa7 (qb1 (fun i:Nat=>(⟨[0,1,4,5],[qal A,qal B,.bool false,.int .i64 (i:Int)],[],26,⟨0,[[]]⟩⟩ : St))
   (fun i=>i<=A.length/\decide (A=B)=decide (A.drop i=B.drop i)) (fun i=>A.length - i) [] [] 0 ⟨jh _,rfl⟩ ⟨rfl,rfl,rfl,by simp[qaz,qat,qab,qa9,qal],FitH.nothing⟩ ?_)
  rintro i ⟨hi,hx⟩ S hS;by_cases h:i < A.length
  ·have hc:(i:Int) < (A.length:Int):=(by omega);have h2:i < B.length:=(by omega);have hix:=atA h;have hix2:=atA h2;have hak:=qbd (show i<=1000000000 by omega);rw[qk3 h h2]at hx;have hne:=ne_at A[i] B[i];clear hl hli;generalize A[i]=a at *;generalize B[i]=b at *;generalize decide (a=b)=e at *
   (repeat' (first
    |with_reducible apply qam
    |with_reducible apply qa7
    |(with_reducible apply rE;simp[zS, *,qh2];exact rfl)
    |(refine qbh mixed qbc (by decide +kernel) (by decide +kernel) ?_;apply qf6;simp[zS,qc6,qbf,qb9, *,qh2];exact rfl)
    |(with_reducible apply qax;simp only[qan,qah])
    |apply qaj rfl
    |(refine qay rfl (fun hc=>?_) (fun hc=>?_)<;>(have hd:=hc;(try simp at hd);(try subst hd)))
    |(with_reducible apply qa4;simp only[qan,qah])
    |(with_reducible apply qa3;simp[zQ,Tryz.f34])))
   all_goals first|exact qa2 rfl (by rw[hx];simp[*])|(exact hS _ (i+1) (by omega) ⟨by omega,by rw[hx];simp[*]⟩ ⟨[],[],⟨rfl,rfl,rfl,by simp[qaz,qat,qab,qa9,qal],FitH.nothing⟩⟩)|(exfalso;omega)
  ·have hc:¬ (i:Int) < (A.length:Int):=(by omega);rw[jt (by omega),jt (by omega)]at hx
   (repeat' (first
    |with_reducible apply qam
    |with_reducible apply qa7
    |(with_reducible apply rE;simp[zS, *,qh2];exact rfl)
    |(refine qbh mixed qbc (by decide +kernel) (by decide +kernel) ?_;apply qf6;simp[zS,qc6,qbf,qb9, *,qh2];exact rfl)
    |(with_reducible apply qax;simp only[qan,qah])
    |(refine qay rfl (fun hc=>?_) (fun hc=>?_)<;>(have hd:=hc;(try simp at hd);(try subst hd)))
    |(with_reducible apply qa4;simp only[qan,qah])
    |(with_reducible apply qau;simp)
    |(with_reducible apply qa3;simp[zQ,Tryz.f34])))
   all_goals first|exact qa2 rfl (by rw[hx];rfl)|(exfalso;omega)
 ·have hli:¬ (A.length:Int)=(B.length:Int):=by omega
  have hne:¬ A=B:=fun e=>hl (congrArg List.length e);apply qR;simp[zS,qh2,hl,hli];refine qaj (by simp[qc0,St.get,hl]) ?_;apply qR;simp[zS];apply qa3;simp[zQ,Tryz.f34];exact qa2 rfl (by simp[hne])
theorem inj_34(x y:List At1 × List At1) (h:(fun z:List At1 × List At1=>([qal z.1,qal z.2]:List AV)) x=(fun z:List At1 × List At1=>([qal z.1,qal z.2]:List AV)) y):x=y:=by obtain⟨x0,x1⟩:=x;obtain⟨y0,y1⟩:=y;simp only[j4,and_true]at h;obtain⟨h0,h1⟩:=h;have g0:x0=y0:=qf3 h0;have g1:x1=y1:=qf3 h1;subst g0 g1;rfl
def e34:Entry PG:=mkE 34 [[2],[2]] (fun z:List At1 × List At1=>[qal z.1,qal z.2]) (fun z=>(z.1.length<=1000)/\(z.2.length<=1000)) (fun z=>.bool (decide (z.1=z.2))) fun z h=>c34 (T:=[])  z.1 z.2 h.1 h.2
theorem k34(hT:qIn 34 T e34) (A:List At1) (B:List At1) (ha:A.length<=1000) (hb:B.length<=1000) (H:Heap):qb7 (ctx T) (.fn 34) [qal A,qal B] H=some (.bool (decide (A=B)),H):=
 qac hT inj_34 (A,B) ⟨ha,hb⟩ rfl (by simp[qao])
set_option maxHeartbeats 1000000 in
theorem c19(hc0:qIn 34 T e34) (a:Nd) (b:Nd) (ha:a.attrs.length<=1000) (hb:b.attrs.length<=1000) (hk:a.kids.length<=1000000):CA T 19 [qa6 a,qa6 b] zH (.bool (oneB a b)) zH:=by
 have kc0:=@k34 T hc0;have k0:=fun H=>kc0 a.attrs b.attrs ha hb H;clear kc0 hc0;obtain⟨R,hR⟩ : ∃R,R=oneB a b:=⟨_,rfl⟩;rw[<- hR];unfold oneB at hR;have hkd:¬ a.kids.length=b.kids.length->decide (a.kids=b.kids)=false:=fun h=>by simp;exact fun e=>h (congrArg List.length e)
 have hkd':¬ (a.kids.length:Int)=(b.kids.length:Int)->decide (a.kids=b.kids)=false:=fun h=>hkd (by omega);generalize decide (a.attrs=b.attrs)=ab at *;obtain⟨kb,hkb⟩ : ∃kb,kb=decide (a.kids=b.kids):=⟨_,rfl⟩;rw[<- hkb]at hR hkd';clear hkd;have hcl:Hold (kb=decide (a.kids=b.kids)):=hkb;clear hkb;refine qa1 (s0:=⟨[0,1,2,3,4,5],[qa6 a,qa6 b,uD,uD,uD,uD],[],71,⟨0,[[]]⟩⟩) Tryz.func19 rfl rfl rfl ?_
 (repeat' (first
  |with_reducible apply qam
  |with_reducible apply qa7
  |(with_reducible apply rE;simp[zS, *,qaq,qpb];exact rfl)
  |(with_reducible apply qax;simp only[qan,qah])
  |(with_reducible refine qb6 (fun hc=>?_) (fun hc=>?_)<;>(have hd:=hc;(try simp at hd);(try subst hd);apply qf6;simp[zS, *,qaq,qpb];exact rfl))
  |apply qaj rfl
  |(refine qay rfl (fun hc=>?_) (fun hc=>?_)<;>(have hd:=hc;(try simp at hd);(try subst hd)))
  |(with_reducible apply qa4;simp only[qan,qah])
  |(with_reducible apply qa3;simp[zQ,Tryz.f19])))
 all_goals first|exact qa2 rfl (by rw[hR];first|(simp[*];done)|(simp_all;done))|(skip)|(exfalso;omega)
 rename_i hlen;have hR':R=(kb && ab):=by rw[hR];simp[*]
 rw[hR',show kb=decide (a.kids=b.kids) from hcl];have hll:a.kids.length=b.kids.length:=by omega
 clear hR' hR hcl hkd';refine(qb1 (fun i:Nat=>(⟨[0,1,2,3,4,5],[uD,uD,.fptr a.cs 0,.fptr b.cs 0,.bool false,.int .i64 (i:Int)],[],71,⟨0,[[]]⟩⟩ : St))
  (fun i=>i<=a.kids.length/\decide (a.kids=b.kids)=decide (a.kids.drop i=b.kids.drop i)) (fun i=>a.kids.length - i) [] [(1,b.cs),(0,a.cs)] 0 ⟨jh _,rfl⟩ ⟨rfl,rfl,rfl,?_,?_⟩ ?_)
 ·simp[qaz,qat,qca,qab,qa9]
 ·refine FitH.fsV (.froze (by simp) fun x hx=>?_) rfl;simp at hx;rcases hx with rfl|rfl
  ·exact⟨b.cs,by simp[zG],qaf (qf8 b),qf8 b⟩
  ·exact⟨a.cs,by simp[zG],qaf (qf8 a),qf8 a⟩
 rintro i ⟨hi,hx⟩ S hS;by_cases h:i < a.kids.length
 ·have hc:(i:Int) < (a.kids.length:Int):=by omega
  have h2:i < b.kids.length:=by omega
  have hix:=atI h;have hix2:=atI h2;have hak:=qbd (show i<=1000000000 by omega);rw[qk3 h h2]at hx;clear hll;generalize a.kids[i]=x at *;generalize b.kids[i]=y at *;by_cases hxy:x=y
  ·subst hxy;simp only[decide_true,jQ]at hx
   (repeat' (first
    |with_reducible apply qam
    |with_reducible apply qa7
    |(with_reducible apply rE;simp[zS, *,qaq,qpb];exact rfl)
    |(refine qbh mixed qbc (by decide +kernel) (by decide +kernel) ?_;apply qf6;simp[zS,qc6,qbf,qb9, *,qaq,qpb];exact rfl)
    |(with_reducible apply qax;simp only[qan,qah])
    |apply qaj rfl
    |apply qag rfl
    |(with_reducible apply qa4;simp only[qan,qah])))
   all_goals first|(exact hS _ (i+1) (by omega) ⟨by omega,hx⟩ ⟨[],[],⟨rfl,rfl,rfl,by simp[qaz,qat,qab,qa9],FitH.nothing⟩⟩)|(exfalso;omega)
  ·simp only[hxy,decide_false,yr]at hx
   (repeat' (first
    |with_reducible apply qam
    |with_reducible apply qa7
    |(with_reducible apply rE;simp[zS, *,qaq,qpb];exact rfl)
    |(refine qbh mixed qbc (by decide +kernel) (by decide +kernel) ?_;apply qf6;simp[zS,qc6,qbf,qb9, *,qaq,qpb];exact rfl)
    |(with_reducible apply qax;simp only[qan,qah])
    |apply qaj rfl
    |(with_reducible apply qa4;simp only[qan,qah])
    |(with_reducible apply qa3;simp[zQ,Tryz.f19])))
   all_goals first|exact qa2 rfl (by rw[hx];rfl)|(exfalso;omega)
 ·have hc:¬ (i:Int) < (a.kids.length:Int):=by omega
  rw[jt (by omega),jt (by omega)]at hx
  (repeat' (first
   |with_reducible apply qam
   |with_reducible apply qa7
   |(with_reducible apply rE;simp[zS, *,qaq,qpb];exact rfl)
   |(refine qbh mixed qbc (by decide +kernel) (by decide +kernel) ?_;apply qf6;simp[zS,qc6,qbf,qb9, *,qaq,qpb];exact rfl)
   |(with_reducible apply qax;simp only[qan,qah])
   |(refine qay rfl (fun hc=>?_) (fun hc=>?_)<;>(have hd:=hc;(try simp at hd);(try subst hd)))
   |(with_reducible apply qa4;simp only[qan,qah])
   |(with_reducible apply qau;simp)
   |(with_reducible apply qa3;simp[zQ,Tryz.f19])))
  all_goals first|exact qa2 rfl (by rw[hx];simp)|(exfalso;omega)
def e19:Entry PG:=mkE 19 [[0,0,0,2,0,0,1],[0,0,0,2,0,0,1]] (fun z:Nd × Nd=>[qa6 z.1,qa6 z.2]) (fun z=>(z.1.attrs.length<=1000)/\(z.2.attrs.length<=1000)/\(z.1.kids.length<=1000000)) (fun z=>.bool (oneB z.1 z.2)) fun z h=>c19 (T:=[e34]) rfl z.1 z.2 h.1 h.2.1 h.2.2
theorem k19(hT:qIn 19 T e19) (a:Nd) (b:Nd) (ha:a.attrs.length<=1000) (hb:b.attrs.length<=1000) (hk:a.kids.length<=1000000) (H:Heap):qb7 (ctx T) (.fn 19) [qa6 a,qa6 b] H=some (.bool (oneB a b),H):=
 qac hT inj_94 (a,b) ⟨ha,hb,hk⟩ rfl (by simp[qao])
theorem c8(hc0:qIn 19 T e19) (t:Tr) (u:Tr) (ht:t.length<=1000000) (h1:∀n,n∈t->n.attrs.length<=1000/\n.kids.length<=1000000) (h2:∀n,n∈u->n.attrs.length<=1000):CA T 8 [qak t,qak u] zH (.bool (decide (t=u))) zH:=by
 have kc0:=@k19 T hc0;refine qa1 (s0:=⟨[0,1,2,3,4,5],[qak t,qak u,uD,uD,uD,uD],[],32,⟨0,[[]]⟩⟩) Tryz.func8 rfl rfl rfl ?_;apply qR;simp[zS,qak];by_cases hl:t.length=u.length
 ·have hli:(t.length:Int)=(u.length:Int):=by omega
  apply qR;simp[zS,qhn,hl,hli];refine qag (by simp[qc0,St.get,hl]) ?_;apply qa4;simp;apply qR;simp[zS];refine qa7 (qb1 (fun i:Nat=>(⟨[0,1,2,3,4,5],[uD,uD,.fptr [qa8 t] 0,.fptr [qa8 u] 0,.bool false,.int .i64 (i:Int)],[],32,⟨0,[[]]⟩⟩ : St))
   (fun i=>i<=t.length/\decide (t=u)=decide (t.drop i=u.drop i)) (fun i=>t.length - i) [] [(1,[qa8 u]),(0,[qa8 t])] 0 ⟨jh _,rfl⟩ ⟨rfl,rfl,rfl,?_,?_⟩ ?_)
  ·simp[qaz,qat,qca,qab,qa9]
  ·refine FitH.fsV (.froze (by simp) fun x hx=>?_) rfl;simp at hx;rcases hx with rfl|rfl
   ·exact⟨[qa8 u],by simp[zG],qaf (by simp[qa9]),by simp[qa9]⟩
   ·exact⟨[qa8 t],by simp[zG],qaf (by simp[qa9]),by simp[qa9]⟩
  rintro i ⟨hi,hx⟩ S hS;by_cases h:i < t.length
  ·have hc:(i:Int) < (t.length:Int):=(by omega);have g2:i < u.length:=(by omega);have hix:=atN h;have hix2:=atN g2;have hak:=qbd (show i<=1000000000 by omega);have k0:=fun H=>kc0 t[i] u[i] (h1 _ (jy h)).1 (h2 _ (jy g2)) (h1 _ (jy h)).2 H;rw[qk3 h g2]at hx;have ho:=one_eq t[i] u[i];clear hl hli kc0 hc0 h1 h2;generalize t[i]=a at *;generalize u[i]=b at *;by_cases hab:a=b
   ·have h3:=ho.2 hab;simp only[hab,decide_true,jQ]at hx;rw[h3]at k0;clear ho hab h3
    (repeat' (first
     |with_reducible apply qam
     |with_reducible apply qa7
     |(with_reducible apply rE;simp[zS, *,qaq,qhn];exact rfl)
     |(refine qbh mixed qbc (by decide +kernel) (by decide +kernel) ?_;apply qf6;simp[zS,qc6,qbf,qb9, *,qaq,qhn];exact rfl)
     |(with_reducible apply qax;simp only[qan,qah])
     |apply qaj rfl
     |apply qag rfl
     |(with_reducible apply qa4;simp only[qan,qah])))
    all_goals first|(exact hS _ (i+1) (by omega) ⟨by omega,hx⟩ ⟨[],[],⟨rfl,rfl,rfl,by simp[qaz,qat,qab,qa9],FitH.nothing⟩⟩)|(exfalso;omega)
   ·have h3:oneB a b=false:=Bool.eq_false_iff.2 fun q=>hab (ho.1 q);simp only[hab,decide_false,yr]at hx;rw[h3]at k0;clear ho h3
    (repeat' (first
     |with_reducible apply qam
     |with_reducible apply qa7
     |(with_reducible apply rE;simp[zS, *,qaq,qhn];exact rfl)
     |(refine qbh mixed qbc (by decide +kernel) (by decide +kernel) ?_;apply qf6;simp[zS,qc6,qbf,qb9, *,qaq,qhn];exact rfl)
     |(with_reducible apply qax;simp only[qan,qah])
     |apply qaj rfl
     |(with_reducible apply qa4;simp only[qan,qah])
     |(with_reducible apply qa3;simp[zQ,Tryz.f8])))
    all_goals first|exact qa2 rfl (by rw[hx])|(exfalso;omega)
  ·have hc:¬ (i:Int) < (t.length:Int):=(by omega);rw[jt (by omega),jt (by omega)]at hx
   (repeat' (first
    |with_reducible apply qam
    |with_reducible apply qa7
    |(with_reducible apply rE;simp[zS, *,qaq,qhn];exact rfl)
    |(refine qbh mixed qbc (by decide +kernel) (by decide +kernel) ?_;apply qf6;simp[zS,qc6,qbf,qb9, *,qaq,qhn];exact rfl)
    |(with_reducible apply qax;simp only[qan,qah])
    |(refine qay rfl (fun hc=>?_) (fun hc=>?_)<;>(have hd:=hc;(try simp at hd);(try subst hd)))
    |(with_reducible apply qa4;simp only[qan,qah])
    |(with_reducible apply qau;simp)
    |(with_reducible apply qa3;simp[zQ,Tryz.f8])))
   all_goals first|exact qa2 rfl (by rw[hx];rfl)|(exfalso;omega)
 ·have hli:¬ (t.length:Int)=(u.length:Int):=by omega
  have hne:¬ t=u:=fun e=>hl (congrArg List.length e);apply qR;simp[zS,qhn,hl,hli];refine qaj (by simp[qc0,St.get,hl]) ?_;apply qR;simp[zS];apply qa3;simp[zQ,Tryz.f8];exact qa2 rfl (by simp[hne])
theorem inj_8(x y:Tr × Tr) (h:(fun z:Tr × Tr=>([qak z.1,qak z.2]:List AV)) x=(fun z:Tr × Tr=>([qak z.1,qak z.2]:List AV)) y):x=y:=by obtain⟨x0,x1⟩:=x;obtain⟨y0,y1⟩:=y;simp only[j4,and_true]at h;obtain⟨h0,h1⟩:=h;have g0:x0=y0:=qe9 h0;have g1:x1=y1:=qe9 h1;subst g0 g1;rfl
def e8:Entry PG:=mkE 8 [[7],[7]] (fun z:Tr × Tr=>[qak z.1,qak z.2]) (fun z=>(z.1.length<=1000000)/\(∀n,n∈z.1->n.attrs.length<=1000/\n.kids.length<=1000000)/\(∀n,n∈z.2->n.attrs.length<=1000)) (fun z=>.bool (decide (z.1=z.2))) fun z h=>c8 (T:=[e19]) rfl z.1 z.2 h.1 h.2.1 h.2.2
theorem k8(hT:qIn 8 T e8) (t:Tr) (u:Tr) (ht:t.length<=1000000) (h1:∀n,n∈t->n.attrs.length<=1000/\n.kids.length<=1000000) (h2:∀n,n∈u->n.attrs.length<=1000) (H:Heap):qb7 (ctx T) (.fn 8) [qak t,qak u] H=some (.bool (decide (t=u)),H):=
 qac hT inj_8 (t,u) ⟨ht,h1,h2⟩ rfl (by simp[qao])
theorem zi1{t:Tr} {H:Heap} (h:H.get 0=some (.cells [qa8 t])):FitH 0 [(0,0)] [] H ⟨1,[[(0,.cells [qa8 t])]]⟩ where
 nd1:=by simp
 nd2:=by simp
 nd3:=by simp[Heap.ents]
 lt:=by simp
 idn:=by simp
 num:=by simp
 src:=by intro e he;have hN:=qdc t;simp[Heap.ents]at he;subst he;exact⟨0,.cells [qa8 t],by simp,h,qaf (by simp[qa9])⟩
 frz:=fun x h=>by cases h
theorem c11(hc0:qIn 15 T e15) (hc1:qIn 24 T e24) (hc2:qIn 8 T e8) (hc3:qIn 25 T e25) (t:Tr) (ht:qwl t) (hn:∀n,n∈t->okN n):CA T 11 [qak t] zH (.bool (qjl t)) zH:=by
 have kc0:=@k15 T hc0;have kc1:=@k24 T hc1;have kc2:=@k8 T hc2;have kc3:=@k25 T hc3;have k0:=fun H=>kc0 ht H;simp only[qak]at k0;obtain⟨R,hR⟩ : ∃R,R=qjl t:=⟨_,rfl⟩;rw[<- hR];unfold qjl at hR;cases hr:qbi t with
 |false=>
  rw[hr]at k0 hR;simp only[yr]at hR;refine qa1 (s0:=⟨[0,1,2,3,4],[qak t,uD,uD,uD,uD],[],49,⟨0,[[]]⟩⟩) Tryz.func11 rfl rfl rfl ?_
  (repeat' (first
   |with_reducible apply qam
   |(with_reducible apply rE;simp[zS, *,qak,qaq];exact rfl)
   |(refine qbh mixed qbc (by decide +kernel) (by decide +kernel) ?_;apply qf6;simp[zS,qc6,qbf,qb9, *,qak,qaq];exact rfl)
   |(with_reducible apply qax;simp only[qan,qah])
   |apply qaj rfl
   |(with_reducible apply qa3;simp[zQ,Tryz.f11])))
  all_goals first|exact qa2 rfl (by rw[hR])|(exfalso;omega)
 |true=>
  have hok:=qtx hr ht hn;have hne:=qpj hr;have hpos:0 < t.length:=j8.2 hne;rw[hr]at k0 hR;have k1:=fun H=>kc1 t hok hne H;have lenT:∀H,qer PG H 22 (qa8 t)=some t.length:=fun H=>by simp[qer]
  have hix:=atX (t:=t) (i:=0) (by omega) (by omega);have k2:=fun H=>kc2 t (qbx t) (by have:=ht.1;omega) (fun n hn=>by have:=ht.2 n hn;omega) (fun n hn=>by obtain⟨m,hm,e⟩:=tidy_at_ hne n hn;have:=(ht.2 m hm).2;rw[e];exact this) H;simp only[qak]at k1 k2;have hroot:rootB (qa0 t 0)=(decide ((qa0 t 0).name=[]) && (decide ((qa0 t 0).attrs=[]) && (decide ((qa0 t 0).data=[]) && decide ((qa0 t 0).space=0)))):=rfl;have hal:((qa0 t 0).attrs.length:Int)=0↔(qa0 t 0).attrs=[]:=by rw[<- List.length_eq_zero_iff];omega
  have la:∀H,qer PG H 32 (qal (qa0 t 0).attrs)=some (qa0 t 0).attrs.length:=fun H=>qh2;obtain⟨b1,hb1⟩ : ∃b1,b1=decide (t=qbx t):=⟨_,rfl⟩;rw[<- hb1]at k2 hR;rw[hroot]at hR;obtain⟨b2,hb2⟩ : ∃b2,b2=qmy t 1:=⟨_,rfl⟩;rw[<- hb2]at hR;clear hroot hb1;obtain⟨x,hx⟩ : ∃x,x=qa0 t 0:=⟨_,rfl⟩;rw[<- hx]at hR hix hal la;clear kc0 kc1 kc2 hc0 hc1 hc2;clear hx;refine qa1 (s0:=⟨[0,1,2,3,4],[qak t,uD,uD,uD,uD],[],49,⟨0,[[]]⟩⟩) Tryz.func11 rfl rfl rfl ?_;have hb3:Hold (b2=qmy t 1):=hb2;clear hb2
  (repeat' (first
   |with_reducible apply qam
   |with_reducible apply qa7
   |(with_reducible apply rE;simp[zS, *,qak,qaq];exact rfl)
   |(refine qbh mixed qbc (by decide +kernel) (by decide +kernel) ?_;apply qf6;simp[zS,qc6,qbf,qb9, *,qak,qaq];exact rfl)
   |(with_reducible apply qax;simp only[qan,qah])
   |(with_reducible refine qb6 (fun hc=>?_) (fun hc=>?_)<;>(have hd:=hc;(try simp at hd);(try subst hd);apply qf6;simp[zS, *,qak,qaq];exact rfl))
   |apply qaj rfl
   |(refine qay rfl (fun hc=>?_) (fun hc=>?_)<;>(have hd:=hc;(try simp at hd);(try subst hd)))
   |(with_reducible apply qa4;simp only[qan,qah])
   |(with_reducible apply qa3;simp[zQ,Tryz.f11])))
  all_goals first|exact qa2 rfl (by rw[hR];first|(simp[*];done)|(have hq:¬ x.attrs=[]:=j8.1 (by assumption);simp[*];done)|(simp_all;done))|(skip)|(exfalso;omega)
  have hRR:R=qmy t 1:=by rw[hR];simp[*];exact hb3
  clear hR hal hix la k0 k1 k2;refine qb1 (fun i:Nat=>(⟨[0,1,2,3,4],[uD,.ptr 0 0,.bool false,uD,.int .i64 (i:Int)],[],49,⟨1,[[(0,.cells [qa8 t])]]⟩⟩ : St))
   (fun i=>1<=i/\i<=t.length/\R=qmy t i) (fun i=>t.length - i) [(0,0)] [] 1 ⟨jc _,by omega,hRR⟩
   ⟨rfl,rfl,rfl,by simp[qaz,qat,qb2,qab,qa9],zi1 (t:=t) (by simp[zG])⟩ ?_
  rintro i ⟨i1,hi,hxr⟩ S hS;by_cases h:i < t.length
  ·have hc:(i:Int) < (t.length:Int):=(by omega);have hak:=qbd (show i<=1000000000 by have:=ht.1;omega);have k3:=fun H=>kc3 t i hok h H;simp only[qak]at k3;rw[onesF_c h]at hxr;obtain⟨b3,hb3⟩ : ∃b3,b3=qmy t (i+1):=⟨_,rfl⟩;rw[<- hb3]at hxr;have hb4:Hold (b3=qmy t (i+1)):=hb3;clear hb3 kc3 hRR;generalize qyo t i=b1 at *
   (repeat' (first
    |with_reducible apply qam
    |with_reducible apply qa7
    |(with_reducible apply rE;simp[zS, *,qak];exact rfl)
    |(with_reducible apply qax;simp only[qan,qah])
    |apply qaj rfl
    |(refine qay rfl (fun hc=>?_) (fun hc=>?_)<;>(have hd:=hc;(try simp at hd);(try subst hd)))
    |(with_reducible apply qa4;simp only[qan,qah])
    |(with_reducible apply qa3;simp[zQ,Tryz.f11])))
   all_goals first|exact qa2 rfl (by rw[hxr];simp[*])|(exact hS _ (i+1) (by omega) ⟨by omega,by omega,by rw[hxr];simp[*];exact hb4⟩ ⟨[(0,0)],[],rfl,rfl,rfl,by simp[qaz,qat,qb2,qab,qa9],zi1 (t:=t) (by simp[zG])⟩)|(exfalso;omega)
  ·have hc:¬ (i:Int) < (t.length:Int):=(by omega);rw[onesF_n h]at hxr
   (repeat' (first
    |with_reducible apply qam
    |(with_reducible apply rE;simp[zS, *,qak];exact rfl)
    |(with_reducible apply qax;simp only[qan,qah])
    |apply qag rfl
    |(with_reducible apply qau;simp)
    |(with_reducible apply qa3;simp[zQ,Tryz.f11])))
   all_goals first|exact qa2 rfl (by rw[hxr])|(exfalso;omega)
def e11:Entry PG:=mkE 11 [[7]] (fun z:Tr=>[qak z]) (fun z=>(qwl z)/\(∀n,n∈z->okN n)) (fun z=>.bool (qjl z)) fun z h=>c11 (T:=[e15,e24,e8,e25]) rfl rfl rfl rfl z h.1 h.2
theorem k11(hT:qIn 11 T e11) (t:Tr) (ht:qwl t) (hn:∀n,n∈t->okN n) (H:Heap):qb7 (ctx T) (.fn 11) [qak t] H=some (.bool (qjl t),H):=
 qac hT inj_24 (t) ⟨ht,hn⟩ rfl (by simp[qao])
def qk4(rec:List Nd->Int->Bool) (t:Tr) (P:List Nd):List Int->Bool->Int->Bool
 |[],_,_=>true
 |k::r,fst,last=>
  if (qa0 t k).kind=1 then (decide ((qa0 t k).data=[]) && qly P (qa0 t k) && qdm (qa0 t k) && rec (P++[qa0 t k]) k) && qk4 rec t P r false 1
  else if (qa0 t k).kind=2 then (!decide (last=2) && qd5 P (qa0 t k).data && qd3 (qa0 t k) && !(fst && lfB (qa0 t k).data && elB (qap P) [112,114,101,32,116,101,120,116,97,114,101,97])) && qk4 rec t P r false 2
  else false
def qj1:Nat->Tr->List Nd->Int->Bool
 |0,_,_,_=>false
 |f+1,t,P,i=>qk4 (qj1 f t) t P (qa0 t i).kids true (-1)
def fits:Nat->Tr->Int->Prop
 |0,_,_=>False
 |f+1,t,i=>∀k,k∈(qa0 t i).kids->(qa0 t k).kind=1->fits f t k
def ordF(L:List Int) (i:Nat):Bool:=((List.range L.length).drop i).all fun j=>decide (L.getD j 0=(j:Int))
def zez(t:Tr):Bool:=qbi t && (qd3 (qa0 t 0) && (decide ((qa0 t 0).data=[]) && (ordF (qb8 t.length (qar t)) 0 && (decide ((qb8 t.length (qar t)).length=t.length) && qj1 (t.length+2) t [] 0))))
def qe3(ks:Nat->List Int):Nat->Nat->List Int
 |0,_=>[]
 |f+1,i=>(i:Int)::(ks i).flatMap fun k=>qe3 ks f k.toNat
structure TreeK (n:Nat) (ks:Nat->List Int) (par:Int->Int) (dep:Int->Nat):Prop where
 kd:∀i,i < n->∀k,k∈ks i->0<=k/\k < (n:Int)/\par k=(i:Int)/\dep k=dep (i:Int)+1
 nd:∀i,i < n->(ks i).Nodup
def qme(w:Wk) (x b:Int):Prop:=inA w x < inA w b/\qgv w b < qgv w x
structure SubT (ks:Nat->List Int) (par:Int->Int) (w:Wk) (S:List Int) (r:Int):Prop where
 top:r∈S/\∀x,x∈S->x≠r->qme w r x
 up:∀b,b∈S->b≠r->par b∈S/\qme w (par b) b/\∀x,x∈S->qme w x b->x=par b\/qme w x (par b)
 cl:∀x,x∈S->∀k,k∈ks x.toNat->k∈S
 nn:∀x,x∈S->0<=x
theorem SubT.same{ks:Nat->List Int} {par:Int->Int} {w w':Wk} {S:List Int} {r:Int} (h:SubT ks par w S r) (e:∀x,x∈S->inA w' x=inA w x/\qgv w' x=qgv w x):SubT ks par w' S r where
 top:=⟨h.top.1,fun x hx hn=>by have:=h.top.2 x hx hn;unfold qme at this ⊢;rw[(e _ h.top.1).1,(e _ h.top.1).2,(e x hx).1,(e x hx).2];exact this⟩
 up:=fun b hb hn=>by
  obtain⟨h1,h2,h3⟩:=h.up b hb hn;refine⟨h1,?_,fun x hx hxe=>?_⟩
  ·unfold qme at h2 ⊢;rw[(e _ h1).1,(e _ h1).2,(e b hb).1,(e b hb).2];exact h2
  ·have:=h3 x hx (by unfold qme at hxe ⊢;rw[(e x hx).1,(e x hx).2,(e b hb).1,(e b hb).2]at hxe;exact hxe);rcases this with h4|h4
   ·exact .inl h4
   ·refine .inr ?_;unfold qme at h4 ⊢;rw[(e x hx).1,(e x hx).2,(e _ h1).1,(e _ h1).2];exact h4
 cl:=h.cl
 nn:=h.nn
structure VisT (n:Nat) (ks:Nat->List Int) (par:Int->Int) (w w':Wk) (S:List Int) (r:Int):Prop where
 l:w'.l=w.l++S
 li:w'.inn.length=n
 lo:w'.out.length=n
 cc:w.c<=w'.c
 oth:∀x,0<=x->x ∉ S->inA w' x=inA w x/\qgv w' x=qgv w x
 rng:∀x,x∈S->w.c<=inA w' x/\inA w' x < qgv w' x/\qgv w' x < w'.c
 sub:SubT ks par w' S r
 ng:qig w'.inn<=qig w.inn
structure VssT (n:Nat) (ks:Nat->List Int) (par:Int->Int) (w w':Wk) (S:Int->List Int) (K:List Int):Prop where
 l:w'.l=w.l++K.flatMap S
 li:w'.inn.length=n
 lo:w'.out.length=n
 cc:w.c<=w'.c
 oth:∀x,0<=x->(∀k,k∈K->x ∉ S k)->inA w' x=inA w x/\qgv w' x=qgv w x
 rng:∀k,k∈K->∀x,x∈S k->w.c<=inA w' x/\inA w' x < qgv w' x/\qgv w' x < w'.c
 sub:∀k,k∈K->SubT ks par w' (S k) k
 dis:∀k,k∈K->∀k2,k2∈K->k≠k2->∀x,x∈S k->∀y,y∈S k2->¬ qme w' x y
 ng:qig w'.inn<=qig w.inn
def Bel(n:Nat) (par:Int->Int) (dep:Int->Nat) (i x:Int):Prop:=0<=x/\x < (n:Int)/\∃m,dep x=dep i+m/\Nat.repeat par m x=i
theorem qj8{n:Nat} {par:Int->Int} {dep:Int->Nat} {i:Int} (h0:0<=i) (h1:i < (n:Int)):Bel n par dep i i:=⟨h0,h1,0,rfl,rfl⟩
theorem zji{n:Nat} {ks:Nat->List Int} {par:Int->Int} {dep:Int->Nat} (h:TreeK n ks par dep) {i:Nat} (hi:i < n) {k x:Int} (hk:k∈ks i) (hx:Bel n par dep k x):Bel n par dep i x:=by obtain⟨k0,k1,k2,k3⟩:=h.kd i hi k hk;obtain⟨x0,x1,m,h1,h2⟩:=hx;exact⟨x0,x1,m+1,by omega,by show par (Nat.repeat par m x)=_;rw[h2,k2]⟩
theorem zjk{n:Nat} {ks:Nat->List Int} {par:Int->Int} {dep:Int->Nat} (h:TreeK n ks par dep) {i:Nat} (hi:i < n) {k k2:Int} (hk:k∈ks i) (hk2:k2∈ks i) (hne:k≠k2) {x:Int} (hx:Bel n par dep k x):¬ Bel n par dep k2 x:=by
 rintro⟨_,_,m2,h3,h4⟩;obtain⟨a0,a1,a2,a3⟩:=h.kd i hi k hk;obtain⟨b0,b1,b2,b3⟩:=h.kd i hi k2 hk2;obtain⟨_,_,m,h1,h2⟩:=hx;have:m=m2:=by omega
 subst this;exact hne (h2.symm.trans h4)
theorem qzx{n:Nat} {ks:Nat->List Int} {par:Int->Int} {dep:Int->Nat} (h:TreeK n ks par dep) {i:Nat} (hi:i < n) {k:Int} (hk:k∈ks i):¬ Bel n par dep k i:=by rintro⟨_,_,m,h1,h2⟩;obtain⟨a0,a1,a2,a3⟩:=h.kd i hi k hk;omega
theorem qqq{n:Nat} {ks:Nat->List Int} {par:Int->Int} {dep:Int->Nat} (h:TreeK n ks par dep):∀(f i:Nat),i < n->∀x,x∈qe3 ks f i->Bel n par dep i x
 |0,i,hi,x,hx=>by simp[qe3]at hx
 |f+1,i,hi,x,hx=>by
  simp only[qe3,ja,yg]at hx;rcases hx with rfl|⟨k,hk,hx⟩
  ·exact qj8 (by omega) (by omega)
  ·obtain⟨k0,k1,k2,k3⟩:=h.kd i hi k hk;have:=qqq h f k.toNat (by omega) x hx;rw[show ((k.toNat:Nat):Int)=k by omega]at this;exact zji h hi hk this
theorem zh0{n:Nat} {ks:Nat->List Int} {par:Int->Int} {dep:Int->Nat} (ht:TreeK n ks par dep) {f i:Nat} (hi:i < n)
  (hg:∀i w,i < n->w.inn.length=n->w.out.length=n->0<=w.c->(∀x,Bel n par dep i x->inA w x < 0)->qig w.inn<=f->VisT n ks par w (vis n ks f i w) (qe3 ks f i) i) :
  ∀(K:List Int),(∀k,k∈K->k∈ks i)->K.Nodup->∀(w:Wk),w.inn.length=n->w.out.length=n->0<=w.c->(∀k,k∈K->∀x,Bel n par dep k x->inA w x < 0)->qig w.inn<=f ->
   VssT n ks par w (kl n (vis n ks f) K w) (fun k=>qe3 ks f k.toNat) K
 |[],_,_,w,h1,h2,h3,_,_=>{
   l:=by simp[kl]
   li:=h1
   lo:=h2
   cc:=y9 _
   oth:=fun _ _ _=>⟨rfl,rfl⟩
   rng:=fun k hk=>by cases hk
   sub:=fun k hk=>by cases hk
   dis:=fun k hk=>by cases hk
   ng:=jc _ }
 |k::r,hK,hnd,w,h1,h2,h3,hu,hf=>by
  obtain⟨a0,a1,a2,a3⟩:=ht.kd i hi k (hK k (by simp));rw[jr]at hnd;have e:((k.toNat:Nat):Int)=k:=by omega
  have hk0:=hu k (by simp) k (qj8 a0 a1);have hc:0<=k/\k < (n:Int)/\w.inn.getD k.toNat 0 < 0:=⟨a0,a1,hk0⟩;have v:=hg k.toNat w (by omega) h1 h2 h3 (by rw[e];exact hu k (by simp)) hf;rw[e]at v;unfold kl;rw[if_pos hc];obtain⟨w1,hw1⟩ : ∃w1,w1=vis n ks f k.toNat w:=⟨_,rfl⟩;rw[<- hw1]at v ⊢;have hmem:∀k2,k2∈r->k2∈ks i:=fun k2 h=>hK k2 (by simp[h]);have hne:∀k2,k2∈r->k≠k2:=fun k2 h he=>hnd.1 (he ▸ h);have hin:∀x,x∈qe3 ks f k.toNat->Bel n par dep k x:=fun x hx=>by
   have:=qqq ht f k.toNat (by omega) x hx
   rwa [e]at this
  have hbn:∀k2,k2∈r->∀x,Bel n par dep k2 x->x ∉ qe3 ks f k.toNat:=fun k2 h x hx hx2=>zjk ht hi (hK k (by simp)) (hmem k2 h) (hne k2 h) (hin x hx2) hx;have hnot:∀k2,k2∈r->∀x,x∈qe3 ks f k2.toNat->0<=x/\x ∉ qe3 ks f k.toNat:=fun k2 h x hx=>by obtain⟨b0,b1,_⟩:=ht.kd i hi k2 (hmem k2 h);have:=qqq ht f k2.toNat (by omega) x hx;rw[show ((k2.toNat:Nat):Int)=k2 by omega]at this;exact⟨this.1,hbn k2 h x this⟩
  have v2:=zh0 ht hi hg r hmem hnd.2 w1 v.li v.lo (by have:=v.cc;omega) (fun k2 h x hx=>by rw[(v.oth x hx.1 (hbn k2 h x hx)).1];exact hu k2 (by simp[h]) x hx) (by have:=v.ng;omega);obtain⟨w',hw'⟩ : ∃w',w'=kl n (vis n ks f) r w1:=⟨_,rfl⟩;rw[<- hw']at v2 ⊢;have keep:∀x,x∈qe3 ks f k.toNat->inA w' x=inA w1 x/\qgv w' x=qgv w1 x:=fun x hx=>v2.oth x (v.sub.nn x hx) fun k2 h hx2=>(hnot k2 h x hx2).2 hx;have c1:=v.cc;have c2:=v2.cc;have lowR:∀x,x∈qe3 ks f k.toNat->w.c<=inA w' x/\inA w' x < qgv w' x/\qgv w' x < w1.c:=fun x hx=>by rw[(keep x hx).1,(keep x hx).2];exact v.rng x hx
  exact {
   l:=by rw[v2.l,v.l,yx,List.append_assoc]
   li:=v2.li
   lo:=v2.lo
   cc:=by omega
   oth:=fun x hx hn=>by obtain⟨p1,p2⟩:=v2.oth x hx fun k2 h=>hn k2 (by simp[h]);obtain⟨p3,p4⟩:=v.oth x hx (hn k (by simp));exact⟨p1.trans p3,p2.trans p4⟩
   rng:=fun k2 hk2 x hx=>by
    rcases ja.1 hk2 with rfl|hk2
    ·have:=lowR x hx;omega
    ·have:=v2.rng k2 hk2 x hx;omega
   sub:=fun k2 hk2=>by
    rcases ja.1 hk2 with rfl|hk2
    ·exact v.sub.same keep
    ·exact v2.sub k2 hk2
   dis:=fun k2 hk2 k3 hk3 hne2 x hx y hy he=>by
    rcases ja.1 hk2 with rfl|hk2'<;>rcases ja.1 hk3 with rfl|hk3'
    ·exact hne2 rfl
    ·have g1:=lowR x hx;have g2:=v2.rng k3 hk3' y hy;unfold qme at he;omega
    ·have g1:=lowR y hy;have g2:=v2.rng k2 hk2' x hx;unfold qme at he;omega
    ·exact v2.dis k2 hk2' k3 hk3' hne2 x hx y hy he
   ng:=by have:=v.ng;have:=v2.ng;omega }
theorem zaa{n:Nat} {ks:Nat->List Int} {par:Int->Int} {dep:Int->Nat} (ht:TreeK n ks par dep):∀(f i:Nat) (w:Wk),i < n->w.inn.length=n->w.out.length=n->0<=w.c->(∀x,Bel n par dep i x->inA w x < 0)->qig w.inn<=f->VisT n ks par w (vis n ks f i w) (qe3 ks f i) i
 |0,i,w,hi,h1,h2,h3,hu,hf=>by have hin:=hu i (qj8 (by omega) (by omega));have e:=qi0 (I:=w.inn) (i:=i) (c:=0) (by omega) (by simpa[inA]using hin) (by omega);omega
 |f+1,i,w,hi,h1,h2,h3,hu,hf=>by
  have hin:=hu i (qj8 (by omega) (by omega));have e:=qi0 (I:=w.inn) (i:=i) (c:=w.c) (by omega) (by simpa[inA]using hin) h3;have hki:=fun k hk=>ht.kd i hi k hk;have v:=zh0 ht hi (fun i w a b c d e g=>zaa ht f i w a b c d e g) (ks i) (fun _ h=>h) (ht.nd i hi) (into i w) (by simp[into,h1]) h2 (by simp[into];omega) (fun k hk x hx=>by have hxi:¬ (i:Int)=x:=fun he=>qzx ht hi hk (he ▸ hx);rw[qpq (by omega) hx.1,if_neg hxi];exact hu x (zji ht hi hk hx)) (by simp only[into];omega);unfold vis;obtain⟨w1,hw1⟩ : ∃w1,w1=kl n (vis n ks f) (ks i) (into i w):=⟨_,rfl⟩;rw[<- hw1]at v ⊢;have hsub:∀k,k∈ks i->∀x,x∈qe3 ks f k.toNat->0<=x/\¬ (i:Int)=x:=fun k hk x hx=>by obtain⟨k0,k1,k2,k3⟩:=hki k hk;have:=qqq ht f k.toNat (by omega) x hx;rw[show ((k.toNat:Nat):Int)=k by omega]at this;exact⟨this.1,fun he=>qzx ht hi hk (he ▸ this)⟩
  have hiK:∀k,k∈ks i->(i:Int) ∉ qe3 ks f k.toNat:=fun k hk hx=>(hsub k hk _ hx).2 rfl;have ilo:=v.lo;have ili:=v.li;have io:=v.oth i (by omega) hiK;have ii:inA w1 i=w.c:=by rw[io.1,qpq (by omega) (by omega),if_pos rfl]
  have cc:=v.cc;simp only[into]at cc;have mI:∀x,inA (outof i w1) x=inA w1 x:=fun x=>zhg;have mO:∀x,0<=x->qgv (outof i w1) x=if (i:Int)=x then w1.c else qgv w1 x:=fun x hx=>qsv (by omega) hx;have mS:∀k,k∈ks i->∀x,x∈qe3 ks f k.toNat->inA (outof i w1) x=inA w1 x/\qgv (outof i w1) x=qgv w1 x:=fun k hk x hx=>⟨mI x,by rw[mO x (hsub k hk x hx).1,if_neg (hsub k hk x hx).2]⟩;have eI:∀k,k∈ks i->∀x,x∈qe3 ks f k.toNat->qme (outof i w1) i x:=fun k hk x hx=>by have g:=v.rng k hk x hx;simp only[into]at g;unfold qme;rw[(mS k hk x hx).1,(mS k hk x hx).2,mI,mO i (by omega),if_pos rfl,ii];omega
  have nI:∀x,x∈qe3 ks (f+1) i->¬ qme (outof i w1) x i:=fun x hx he=>by
   simp only[qe3,ja,yg]at hx;rcases hx with rfl|⟨k,hk,hx⟩
   ·unfold qme at he;omega
   ·have:=eI k hk x hx;unfold qme at he this;omega
  exact {
   l:=by simp only[outof];rw[v.l];simp[into,qe3]
   li:=ili
   lo:=by simp[outof,ilo]
   cc:=by simp only[outof];omega
   oth:=fun x hx hn=>by simp only[qe3,ja,yg,not_or,not_exists,not_and]at hn;obtain⟨n1,n2⟩:=hn;have n1':¬ (i:Int)=x:=fun h=>n1 h.symm;obtain⟨p1,p2⟩:=v.oth x hx n2;rw[mI,mO x hx,if_neg n1',p1,p2,qpq (by omega) hx,if_neg n1'];exact⟨rfl,rfl⟩
   rng:=fun x hx=>by
    simp only[qe3,ja,yg]at hx;rcases hx with rfl|⟨k,hk,hx⟩
    ·rw[mI,mO i (by omega),if_pos rfl,ii];simp only[outof];omega
    ·have g:=v.rng k hk x hx;simp only[into]at g;rw[(mS k hk x hx).1,(mS k hk x hx).2];simp only[outof];omega
   sub:={
    top:=⟨by simp[qe3],fun x hx hn=>by
     simp only[qe3,ja,yg]at hx;rcases hx with rfl|⟨k,hk,hx⟩
     ·exact absurd rfl hn
     ·exact eI k hk x hx⟩
    up:=fun b hb hn=>by
     simp only[qe3,ja,yg]at hb;rcases hb with rfl|⟨k,hk,hb⟩
     ·exact absurd rfl hn
     ·have sb:=(v.sub k hk).same (mS k hk);obtain⟨k0,k1,k2,k3⟩:=hki k hk;have inx:∀x,x∈qe3 ks f k.toNat->x∈qe3 ks (f+1) i:=fun x hx=>(by simp only[qe3,ja,yg];exact .inr ⟨k,hk,hx⟩);have sep:∀x,x∈qe3 ks (f+1) i->qme (outof i w1) x b->x=(i:Int)\/x∈qe3 ks f k.toNat:=fun x hx he=>by
       simp only[qe3,ja,yg]at hx;rcases hx with rfl|⟨k4,hk4,hx⟩
       ·exact .inl rfl
       ·by_cases hkk:k4=k
        ·subst hkk;exact .inr hx
        ·refine absurd he ?_;have:=v.dis k4 hk4 k hk hkk x hx b hb;unfold qme at this ⊢;rw[(mS k4 hk4 x hx).1,(mS k4 hk4 x hx).2,(mS k hk b hb).1,(mS k hk b hb).2];exact this
      by_cases hbk:b=k
      ·subst hbk;rw[k2];refine⟨by simp[qe3],eI b hk b hb,fun x hx he=>?_⟩;rcases sep x hx he with h|h
       ·exact .inl h
       ·by_cases hxb:x=b
        ·subst hxb;unfold qme at he;omega
        ·have:=sb.top.2 x h hxb;unfold qme at this he;omega
      ·obtain⟨u1,u2,u3⟩:=sb.up b hb hbk;refine⟨inx _ u1,u2,fun x hx he=>?_⟩;rcases sep x hx he with rfl|h
       ·exact .inr (eI k hk _ u1)
       ·exact u3 x h he
    cl:=fun x hx k hk=>by
     simp only[qe3,ja,yg]at hx ⊢;rcases hx with rfl|⟨k2,hk2,hx⟩
     ·simp only[jU]at hk;exact .inr ⟨k,hk,(v.sub k hk).top.1⟩
     ·exact .inr ⟨k2,hk2,(v.sub k2 hk2).cl x hx k hk⟩
    nn:=fun x hx=>by
     simp only[qe3,ja,yg]at hx;rcases hx with rfl|⟨k,hk,hx⟩
     ·omega
     ·exact(hsub k hk x hx).1 }
   ng:=by have:=v.ng;simp only[outof,into]at this ⊢;omega }
variable {n:Nat} {ks:Nat->List Int} {par:Int->Int} {dep:Int->Nat}
theorem zac(ht:TreeK n ks par dep) (hn:0 < n):VisT n ks par (w0 n) (ql8 n ks) (qe3 ks n 0) 0:=by
 have h:=zaa ht n 0 (w0 n) hn (by simp[w0]) (by simp[w0]) (by simp[w0]) (fun x hx=>by
  have h1:x.toNat < n:=by have:=hx.1;have:=hx.2.1;omega
  simp[inA,w0,List.getD_eq_getElem?_getD,h1]) (by simp[w0,qiy])
 have e:ql8 n ks=vis n ks n 0 (w0 n):=by unfold ql8;rw[if_neg (by omega)]
 rw[e];exact h
theorem qfa(ht:TreeK n ks par dep) (hn:0 < n):qb8 n ks=qe3 ks n 0:=by rw[<- zeq,(zac ht hn).l];simp[w0]
theorem qjy(ht:TreeK n ks par dep) (hn:0 < n):SubT ks par (ql8 n ks) (qb8 n ks) 0:=by rw[qfa ht hn];exact(zac ht hn).sub
theorem ql2{a b:Int} (hn:0 < n) (ha:a∈qb8 n ks) (hb:b∈qb8 n ks):qz3 (ql8 n ks) a b=true↔qme (ql8 n ks) b a:=by
 have h:=qub (ks:=ks) hn;have h1:=(h.a0 a ha).2.2;have h2:=(h.a0 b hb).2.2;rw[zbq];unfold qme;constructor
 ·rintro⟨_,_,x,y⟩;exact⟨x,y⟩
 ·rintro⟨x,y⟩;exact⟨h1,h2,x,y⟩
def qs6(n:Nat) (ks:Nat->List Int) (a:Int):List Int:=(qb8 n ks).filter (qz3 (ql8 n ks) a)
theorem zg7(ht:TreeK n ks par dep) (hn:0 < n):qs6 n ks 0=[]:=by
 unfold qs6;rw[yI];intro x hx he;have hs:=qjy ht hn;rw[ql2 hn hs.top.1 hx]at he;by_cases hx0:x=0
 ·subst hx0;unfold qme at he;omega
 ·have:=hs.top.2 x hx hx0;unfold qme at this he;omega
theorem path_kid(ht:TreeK n ks par dep) (hn:0 < n) {b:Int} (hb:b∈qb8 n ks) (h0:b≠0):qs6 n ks b=qs6 n ks (par b)++[par b]:=by
 have hs:=qjy ht hn;obtain⟨hu,hue,hup⟩:=hs.up b hb h0;have hl:=qub (ks:=ks) hn;unfold qs6;have e1:(qb8 n ks).filter (qz3 (ql8 n ks) b)=(qb8 n ks).filter (fun x=>decide (x=par b) || qz3 (ql8 n ks) (par b) x):=by
  refine List.filter_congr fun x hx=>?_;rw[jP,ql2 hn hb hx,yf,decide_eq_true_eq,ql2 hn hu hx];constructor
  ·exact hup x hx
  ·rintro(rfl|h)
   ·exact hue
   ·unfold qme at h hue ⊢;omega
 rw[e1];obtain⟨A,B,hAB⟩:=List.append_of_mem hu;have hsrt:=hl.srt;rw[hAB]at hsrt;rw[List.pairwise_append,List.pairwise_cons]at hsrt;obtain⟨_,⟨hB,_⟩,hA⟩:=hsrt;have memA:∀x,x∈A->x∈qb8 n ks:=fun x hx=>by rw[hAB];simp[hx]
 have memB:∀x,x∈B->x∈qb8 n ks:=fun x hx=>by rw[hAB];simp[hx]
 have fA:A.filter (fun x=>decide (x=par b) || qz3 (ql8 n ks) (par b) x)=A.filter (qz3 (ql8 n ks) (par b)):=by
  refine List.filter_congr fun x hx=>?_;have hne:x≠par b:=fun he=>by have:=hA x hx (par b) (by simp);rw[he]at this;omega
  simp[hne]
 have fB:B.filter (fun x=>decide (x=par b) || qz3 (ql8 n ks) (par b) x)=[]:=by
  rw[yI];intro x hx he;have h1:=hB x hx;rw[yf,decide_eq_true_eq,ql2 hn hu (memB x hx)]at he;rcases he with rfl|he
  ·omega
  ·unfold qme at he;omega
 have fB2:B.filter (qz3 (ql8 n ks) (par b))=[]:=by rw[yI];intro x hx he;have h1:=hB x hx;rw[ql2 hn hu (memB x hx)]at he;unfold qme at he;omega
 have fu:qz3 (ql8 n ks) (par b) (par b)=false:=by
  cases hq:qz3 (ql8 n ks) (par b) (par b)with
  |false=>rfl
  |true=>rw[ql2 hn hu hu]at hq;unfold qme at hq;omega
 rw[hAB,yD,List.filter_cons,yD,List.filter_cons,fA,fB,fB2,fu];simp
theorem zgc(ht:TreeK n ks par dep) (hn:0 < n) {i:Int} (hi:i∈qb8 n ks) {k:Int} (hk:k∈ks i.toNat):k∈qb8 n ks:=(qjy ht hn).cl i hi k hk
theorem qsw(ht:TreeK n ks par dep) (hn:0 < n):(0:Int)∈qb8 n ks:=(qjy ht hn).top.1
section
variable {t:Tr}
theorem qmq(h:qbi t=true) {i:Nat} (hi:i < t.length):qmd t i=true:=by
 cases hb:qmd t i with
 |true=>rfl
 |false=>rw[qeu hi hb]at h;cases h
theorem qnv(h:qbi t=true) {i:Nat} (hi:i < t.length):qd9 t (t.length+1) (i:Int)=true:=by
 cases hb:qd9 t (t.length+1) (i:Int)with
 |true=>rfl
 |false=>rw[qss hi hb]at h;cases h
theorem qcv(h:qbi t=true) {i:Nat} (hi:i < t.length) {k:Int} (hk:k∈(qa0 t i).kids):0<=k/\k < (t.length:Int)/\(qa0 t k).up=(i:Int)/\qde (qa0 t i).kids k=1/\(qa0 t i).kind<=1:=by
 have hok:=qmq h hi;simp only[qmd,jd,jV]at hok;have h1:=yU.1 hok.2.2 k hk;simp only[zeg,yf,decide_eq_true_eq,not_or]at h1;obtain⟨k0,k1,k2⟩:=h1;have k2:(qa0 t k).up=(i:Int):=Classical.byContradiction k2;have hok2:=qmq h (i:=k.toNat) (by omega);have e:((k.toNat:Nat):Int)=k:=by omega
 simp only[qmd,jd,jV,zeh,e,k2]at hok2;have h2:=hok2.2.1;have hi0:(0:Int)<=(i:Int):=by omega
 simp only[hi0,decide_true,jQ,jM,decide_eq_false_iff_not]at h2;refine⟨by omega,by omega,k2,?_,by omega⟩;have:=h2.2;have h3:(qde (qa0 t i).kids k:Int)=1:=Classical.byContradiction this;omega
theorem qhe(h:qbi t=true):(qa0 t 0).up = -1/\(qa0 t 0).kind=0:=by simp only[qbi,jd,decide_eq_true_eq]at h;exact⟨h.2.2.1,h.2.1⟩
theorem qtq{L:List Int} (h:∀k,k∈L->qde L k=1):L.Nodup:=by
 rw[List.nodup_iff_count];intro a;by_cases ha:a∈L
 ·have:=h a ha;unfold qde at this;rw[List.count_eq_countP];have e:(fun x:Int=>x == a)=fun x=>decide (x=a):=by funext x;rw[jP];simp
  rw[e,this];exact jc _
 ·rw[List.count_eq_zero_of_not_mem ha];omega
def qv2(t:Tr):Nat->Int->Nat
 |0,_=>0
 |f+1,i=>if (qa0 t i).up = -1 then 0 else qv2 t f (qa0 t i).up+1
theorem qoe:∀(f:Nat) (i:Int),qd9 t f i=true->qv2 t f i=qv2 t (f+1) i
 |0,i,h=>by simp[qd9]at h
 |f+1,i,h=>by
  unfold qd9 at h;rw[qv2,qv2];by_cases hu:(qa0 t i).up = -1
  ·simp[hu]
  ·simp only[hu,if_false]at h ⊢;rw[qoe f _ h]
theorem qd0(h:qbi t=true):TreeK t.length (qar t) (fun x=>(qa0 t x).up) (qv2 t (t.length+1)) where
 kd:=fun i hi k hk=>by
  have hk':k∈(qa0 t i).kids:=by rw[qba hi,qd7 hi];exact hk
  obtain⟨k0,k1,k2,_⟩:=qcv h hi hk';refine⟨k0,k1,k2,?_⟩;have hh:=qnv h (i:=k.toNat) (by omega);rw[show ((k.toNat:Nat):Int)=k by omega]at hh;have hne:¬ (qa0 t k).up = -1:=by omega
  unfold qd9 at hh;simp only[hne,if_false,k2]at hh;rw[<- qoe _ _ hh,qv2,if_neg hne,k2]
 nd:=fun i hi=>by rw[<- qd7 hi,<- qba hi];exact qtq fun k hk=>(qcv h hi hk).2.2.2.1
theorem qdf(h:qbi t=true):0 < t.length:=j8.2 (qpj h)
theorem qze(h:qbi t=true):∀(f:Nat) (i:Nat),i < t.length->t.length+2<=f+qv2 t (t.length+1) (i:Int)->fits f t (i:Int)
 |0,i,hi,hf=>by
  exfalso;have hd:∀(f:Nat) (x:Int),qv2 t f x<=f:=by
   intro f;induction f with
   |zero=>intro x;simp[qv2]
   |succ f ih=>intro x;rw[qv2];split;omega;have:=ih (qa0 t x).up;omega
  have:=hd (t.length+1) i;omega
 |f+1,i,hi,hf=>by
  intro k hk _;obtain⟨k0,k1,k2,_⟩:=qcv h hi hk;have hd:=((qd0 h).kd i hi k (by rw[<- qd7 hi,<- qba hi];exact hk)).2.2.2;have:=qze h f k.toNat (by omega) (by rw[show ((k.toNat:Nat):Int)=k by omega];omega)
  rwa [show ((k.toNat:Nat):Int)=k by omega]at this
end
section
variable {t:Tr}
theorem at_nd{K:List Int} (hn:K.Nodup) {j:Nat} (hj:j < K.length):atP K K[j]=(j:Int):=by
 have hc:=qii (p:=fun y=>decide (y=K[j])) K 0;rw[show qbu (fun y=>decide (y=K[j])) K 0=atP K K[j] from rfl]at hc;rcases hc with⟨h1,h2⟩|⟨q,hq,h1,h2,h3⟩
 ·have:=h2 K[j] (jy hj);simp at this
 ·have he:K[q]=K[j]:=by simpa using h2
  have hq2:q=j:=by
   rcases Nat.lt_trichotomy q j with hlt|hlt|hlt
   ·exact absurd he (yS.1 hn q j hq hj hlt)
   ·exact hlt
   ·exact absurd he.symm (yS.1 hn j q hj hq hlt)
  rw[h1,hq2];simp
def PN(t:Tr) (i:Int):List Nd:=((qs6 t.length (qar t) i++[i]).drop 1).map (qa0 t)
theorem PN_root(h:qbi t=true):PN t 0=[]:=by unfold PN;rw[zg7 (qd0 h) (qdf h)];rfl
theorem qnc(h:qbi t=true) {i:Nat} (hi:i < t.length) (ho:(i:Int)∈qb8 t.length (qar t)) {k:Int} (hk:k∈(qa0 t i).kids):k∈qb8 t.length (qar t)/\k≠0:=by obtain⟨k0,k1,k2,_⟩:=qcv h hi hk;refine⟨zgc (qd0 h) (qdf h) ho (by rw[jU,<- qd7 hi,<- qba hi];exact hk),fun he=>?_⟩;subst he;have:=(qhe h).1;omega
theorem qwg(h:qbi t=true) {i:Nat} (hi:i < t.length) (ho:(i:Int)∈qb8 t.length (qar t)) {k:Int} (hk:k∈(qa0 t i).kids):qs6 t.length (qar t) k=qs6 t.length (qar t) i++[(i:Int)]:=by obtain⟨o1,o2⟩:=qnc h hi ho hk;have:=path_kid (qd0 h) (qdf h) o1 o2;rw[this,(qcv h hi hk).2.2.1]
theorem zk0(h:qbi t=true) {i:Nat} (hi:i < t.length) (ho:(i:Int)∈qb8 t.length (qar t)) {k:Int} (hk:k∈(qa0 t i).kids):qen t k.toNat=PN t i:=by have hk0:=(qcv h hi hk).1;have:=qwg h hi ho hk;unfold qen PN;rw[<- this];unfold qqr qs6;rw[show ((k.toNat:Nat):Int)=k by omega]
theorem PN_kid(h:qbi t=true) {i:Nat} (hi:i < t.length) (ho:(i:Int)∈qb8 t.length (qar t)) {k:Int} (hk:k∈(qa0 t i).kids):PN t k=PN t i++[qa0 t k]:=by unfold PN;rw[qwg h hi ho hk];cases qs6 t.length (qar t) i<;>simp
def zjl(t:Tr):Nat->Int->Int->Prop
 |0,_,_=>False
 |f+1,i,x=>∃k,k∈(qa0 t i).kids/\(x=k\/zjl t f k x)
theorem no_bel{f:Nat} {i x:Int} (h:(qa0 t i).kids=[]):¬ zjl t f i x:=by
 cases f with
 |zero=>exact fun h=>h
 |succ f=>rintro⟨k,hk,_⟩;rw[h]at hk;cases hk
theorem qvq(h:qbi t=true) {i:Nat} (hi:i < t.length) (hk:1 < (qa0 t i).kind):(qa0 t i).kids=[]:=by
 cases he:(qa0 t i).kids with
 |nil=>rfl
 |cons k r=>have:=(qcv h hi (k:=k) (by rw[he];simp)).2.2.2.2;omega
theorem zg3(h:qbi t=true) {i:Nat} (hi:i < t.length) {j:Nat} (hj:j < (qa0 t i).kids.length):qeq t (qa0 t i).kids[j]=(j:Int):=by
 obtain⟨k0,k1,k2,_⟩:=qcv h hi (jy hj);unfold qeq;have b1:isB t (qa0 t i).kids[j]=true:=isB_iff.2 ⟨k0,k1⟩;have b2:isB t (qa0 t (qa0 t i).kids[j]).up=true:=by rw[k2];exact isB_iff.2 ⟨by omega,by omega⟩
 rw[if_pos ⟨b1,b2⟩,k2];exact at_nd (qtq fun k hk=>(qcv h hi hk).2.2.2.1) hj
theorem kidsL_c{rec:List Nd->Int->Bool} {P:List Nd} {k:Int} {r:List Int} {fst:Bool} {last:Int}:qk4 rec t P (k::r) fst last =
  if (qa0 t k).kind=1 then (decide ((qa0 t k).data=[]) && qly P (qa0 t k) && qdm (qa0 t k) && rec (P++[qa0 t k]) k) && qk4 rec t P r false 1
  else if (qa0 t k).kind=2 then (!decide (last=2) && qd5 P (qa0 t k).data && qd3 (qa0 t k) && !(fst && lfB (qa0 t k).data && elB (qap P) [112,114,101,32,116,101,120,116,97,114,101,97])) && qk4 rec t P r false 2
  else false:=rfl
theorem qx0(h:qbi t=true) {i:Nat} (hi:i < t.length) (ho:(i:Int)∈qb8 t.length (qar t)) {f:Nat}
  (hrec:∀k,k∈(qa0 t i).kids->(qa0 t k).kind=1->(qj1 f t (PN t i++[qa0 t k]) k=true↔∀x,zjl t f k x->qyo t x.toNat=true)) :
  ∀(r:List Int) (j:Nat),(qa0 t i).kids.drop j=r->(qk4 (qj1 f t) t (PN t i) r (decide (j=0)) (if j=0 then -1 else (qa0 t ((qa0 t i).kids.getD (j - 1) 0)).kind)=true↔∀k,k∈r->qyo t k.toNat=true/\∀x,zjl t f k x->qyo t x.toNat=true)
 |[],j,hr=>by simp[qk4]
 |k::r,j,hr=>by
  have hj:j < (qa0 t i).kids.length:=by have:=congrArg List.length hr;simp at this;omega
  have hd:=List.drop_eq_getElem_cons hj;rw[hr]at hd;simp only[j4]at hd;obtain⟨hk,hr2⟩:=hd;have hkm:k∈(qa0 t i).kids:=by rw[hk];exact jy hj
  have hpl:=zg3 h hi hj;rw[<- hk]at hpl;obtain⟨k0,k1,k2,_,_⟩:=qcv h hi hkm;have ih:=qx0 h hi ho hrec r (j+1) hr2.symm;have hlast:(qa0 t i).kids.getD j 0=k:=by rw[List.getD_eq_getElem?_getD,List.getElem?_eq_getElem hj];simp[hk]
  simp only[Nat.add_eq_zero_iff,Nat.one_ne_zero,and_false,decide_false,if_false,Nat.add_sub_cancel,hlast]at ih;have eN:((k.toNat:Nat):Int)=k:=by omega
  have hab:=zk0 h hi ho hkm;have hprev:zfz t k.toNat=(qa0 t ((qa0 t i).kids.getD (j - 1) 0)).kind:=by unfold zfz;rw[eN,k2,hpl,show ((j:Int) - 1).toNat=j - 1 by omega]
  simp only[List.forall_mem_cons];rw[<- ih];have hrc:=hrec k hkm;have hnb:(qa0 t k).kind=2->((∀x,zjl t f k x->qyo t x.toNat=true)↔True):=fun h2=>by have hnk:(qa0 t k).kids=[]:=(by have:=qvq h (i:=k.toNat) (by omega);rw[eN]at this;exact this (by omega));exact⟨fun _=>trivial,fun _ x hx=>absurd hx (no_bel hnk)⟩
  obtain⟨X,hX⟩ : ∃X:Prop,X=∀x,zjl t f k x->qyo t x.toNat=true:=⟨_,rfl⟩;rw[<- hX]at hrc hnb ⊢;clear hX ih;rw[kidsL_c];unfold qyo;rw[eN,hab,hpl,hprev];by_cases h1:(qa0 t k).kind=1
  ·have hrc:=hrc h1;simp only[h1,if_true,jd,hrc]
  ·by_cases h2:(qa0 t k).kind=2
   ·have hnb:=hnb h2;have n12:¬ (2:Int)=1:=(by omega);rw[hnb];simp only[h2,n12,if_false,if_true,decide_true,jQ];cases hc:qd5 (PN t i) (qa0 t k).data<;>cases hn:qd3 (qa0 t k)<;>simp;by_cases hj0:j=0
    ·subst hj0;simp;cases lfB (qa0 t k).data<;>cases elB (qap (PN t i)) [112,114,101,32,116,101,120,116,97,114,101,97]<;>simp
    ·have hj1:0 < j:=(by omega);simp[hj0,hj1]
   ·simp[h1,h2]
theorem zbm(h:qbi t=true):∀(f i:Nat),i < t.length->(i:Int)∈qb8 t.length (qar t)->fits f t (i:Int)->(qj1 f t (PN t i) i=true↔∀x,zjl t f i x->qyo t x.toNat=true)
 |0,i,_,_,hf=>absurd hf (by simp[fits])
 |f+1,i,hi,ho,hf=>by
  have key:=qx0 h hi ho (f:=f) (fun k hk h1=>by obtain⟨k0,k1,_⟩:=qcv h hi hk;have eN:((k.toNat:Nat):Int)=k:=(by omega);have:=zbm h f k.toNat (by omega) (by rw[eN];exact(qnc h hi ho hk).1) (by rw[eN];exact hf k hk h1);rw[eN,PN_kid h hi ho hk]at this;exact this) (qa0 t i).kids 0 rfl;show qk4 (qj1 f t) t (PN t i) (qa0 t i).kids true (-1)=true↔_;simp only[decide_true,if_true]at key;rw[key];constructor
  ·rintro hx x ⟨k,hk,rfl|hb⟩
   ·exact(hx _ hk).1
   ·exact(hx k hk).2 x hb
  ·exact fun hx k hk=>⟨hx k ⟨k,hk,.inl rfl⟩,fun x hb=>hx x ⟨k,hk,.inr hb⟩⟩
end
section
variable {t:Tr}
def newN(t:Tr) (pos:Int->Int) (x:Int):Nd:={ qa0 t x with up:=pos (qa0 t x).up,kids:=(qa0 t x).kids.map pos }
theorem qq2:∀{s:List Bool},qh8 s=0->∀i,s.getD i true=true
 |[],_,i=>by simp
 |x::r,h,0=>by
  cases x with
  |true=>rfl
  |false=>simp[qh8]at h
 |x::r,h,i+1=>by
  have:qh8 r=0:=by simp only[qh8,List.count_cons]at h ⊢;omega
  simpa using qq2 this i
theorem zfm{s:List Bool} {i j:Nat} (hi:i < s.length):(s.set i true).getD j true=false↔s.getD j true=false/\j≠i:=by
 simp only[List.getD_eq_getElem?_getD,List.getElem?_set];by_cases h:i=j
 ·subst h;simp[hi]
 ·simp[h,fun e=>h (Eq.symm e)];exact fun _ e=>h e.symm
structure PutR (t:Tr) (pos:Int->Int) (s:List Bool) (S:List Int) (a:List Nd × List Bool):Prop where
 nd:a.1=S.map (newN t pos)
 ln:a.2.length=t.length
 sn:∀x:Nat,a.2.getD x true=false↔s.getD x true=false/\(x:Int) ∉ S
 un:qh8 a.2<=qh8 s
theorem qwa(h:qbi t=true) {pos:Int->Int} {i:Nat} (hi:i < t.length) {f:Nat} {rec:Int->Nat->List Bool->List Nd × List Bool}
  (hrec:∀k,k∈(qa0 t i).kids->∀(z:Nat) (s:List Bool),s.length=t.length->qh8 s<=f->(∀x,Bel t.length (fun x=>(qa0 t x).up) (qv2 t (t.length+1)) k x->s.getD x.toNat true=false)->(∀p (hp:p < (qe3 (qar t) f k.toNat).length),pos (qe3 (qar t) f k.toNat)[p]=(z:Int)+p) ->
   PutR t pos s (qe3 (qar t) f k.toNat) (rec k z s)) :
  ∀(K:List Int),(∀k,k∈K->k∈(qa0 t i).kids)->K.Nodup->∀(z:Nat) (s:List Bool),s.length=t.length->qh8 s<=f->(∀k,k∈K->∀x,Bel t.length (fun x=>(qa0 t x).up) (qv2 t (t.length+1)) k x->s.getD x.toNat true=false) ->
   (∀p (hp:p < (K.flatMap fun k=>qe3 (qar t) f k.toNat).length),pos (K.flatMap fun k=>qe3 (qar t) f k.toNat)[p]=(z:Int)+p) ->
   (qmc rec t.length K z s).1=K.map pos/\PutR t pos s (K.flatMap fun k=>qe3 (qar t) f k.toNat) (qmc rec t.length K z s).2
 |[],_,_,z,s,hs,hf,hu,hp=>⟨rfl,{ nd:=rfl,ln:=hs,sn:=fun x=>by simp[qmc],un:=jc _ }⟩
 |k::r,hK,hnd,z,s,hs,hf,hu,hp=>by
  have ht:=qd0 h;have hkm:=hK k (by simp);obtain⟨k0,k1,k2,_⟩:=qcv h hi hkm;rw[jr]at hnd;have hks:∀k,k∈(qa0 t i).kids->k∈qar t i:=fun k hk=>by rw[<- qd7 hi,<- qba hi];exact hk
  have hks0:=hu k (by simp) k (qj8 k0 k1);have hf1:0 < f:=by
   rcases yC f with rfl|h1
   ·have:=qq2 (s:=s) (by omega) k.toNat;rw[this]at hks0;cases hks0
   ·exact h1
  obtain⟨f',rfl⟩ : ∃f',f=f'+1:=⟨f - 1,by omega⟩;have eN:((k.toNat:Nat):Int)=k:=by omega
  simp only[yx]at hp ⊢;have ra:=hrec k hkm z s hs hf (hu k (by simp)) (fun p hp1=>by
   have:=hp p (by rw[jo];omega)
   rwa [j6 hp1]at this)
  have hpk:pos k=(z:Int):=by have:=hp 0 (by simp[qe3]);simpa[qe3,eN]using this
  have hmem:∀k2,k2∈r->k2∈(qa0 t i).kids:=fun k2 hk2=>hK k2 (by simp[hk2]);have hin:∀x,x∈qe3 (qar t) (f'+1) k.toNat->Bel t.length (fun x=>(qa0 t x).up) (qv2 t (t.length+1)) k x:=fun x hx=>by
   have:=qqq ht (f'+1) k.toNat (by omega) x hx
   rwa [eN]at this
  obtain⟨a,ha⟩ : ∃a,a=rec k z s:=⟨_,rfl⟩;rw[<- ha]at ra;have hal:a.1.length=(qe3 (qar t) (f'+1) k.toNat).length:=by rw[ra.nd,jJ]
  obtain⟨q1,q2⟩:=qwa h hi hrec r hmem hnd.2 (z+a.1.length) a.2 ra.ln (by have:=ra.un;omega) (fun k2 hk2 x hx=>by
   rw[ra.sn];refine⟨hu k2 (by simp[hk2]) x hx,fun hx2=>?_⟩;rw[show ((x.toNat:Nat):Int)=x by have:=hx.1;omega]at hx2;exact zjk ht hi (hks k hkm) (hks k2 (hmem k2 hk2)) (fun e=>hnd.1 (e ▸ hk2)) (hin x hx2) hx) (fun p hp1=>by
   have:=hp ((qe3 (qar t) (f'+1) k.toNat).length+p) (by rw[jo];exact Nat.add_lt_add_left hp1 _);rw[jv (by omega)]at this;simp only[Nat.add_sub_cancel_left]at this;rw[this,hal];omega)
  unfold qmc;rw[if_pos ⟨k0,k1,hks0⟩];simp only[<- ha];refine⟨by rw[q1];simp[hpk],{ nd:=?_,ln:=q2.ln,sn:=fun x=>?_,un:=jK q2.un ra.un }⟩
  ·have e1:=q2.nd;show a.1++(qmc rec t.length r (z+a.1.length) a.2).2.1=_;rw[j3,<- e1,<- ra.nd]
  ·show (qmc rec t.length r (z+a.1.length) a.2).2.2.getD x true=false↔_;rw[q2.sn x,ra.sn x,jl,not_or];constructor
   ·rintro⟨⟨a1,a2⟩,a3⟩;exact⟨a1,a2,a3⟩
   ·rintro⟨a1,a2,a3⟩;exact⟨⟨a1,a2⟩,a3⟩
theorem qw9 (h : qbi t = true) {pos : Int -> Int} : ∀ (f i : Nat), i < t.length -> ∀ (z : Nat) (s : List Bool), s.length = t.length -> qh8 s <= f -> (∀ x, Bel t.length (fun x => (qa0 t x).up) (qv2 t (t.length + 1)) (i : Int) x -> s.getD x.toNat true = false) ->
      (∀p (hp:p < (qe3 (qar t) f i).length),pos (qe3 (qar t) f i)[p]=(z:Int)+p)->PutR t pos s (qe3 (qar t) f i) (qnq f t i (pos (qa0 t i).up) z s)
 |0,i,hi,z,s,hs,hf,hu,hp=>by have h1:=hu i (qj8 (by omega) (by omega));have:=qq2 (s:=s) (by omega) (i:Int).toNat;rw[this]at h1;cases h1
 |f+1,i,hi,z,s,hs,hf,hu,hp=>by
  have ht:=qd0 h;have h1:=hu i (qj8 (by omega) (by omega));simp only[jU]at h1;have hus:=qio h1;have hkk:(qa0 t i).kids=qar t i:=by rw[qba hi,qd7 hi]
  have hpi:pos (i:Int)=(z:Int):=by have:=hp 0 (by simp[qe3]);simpa[qe3]using this
  have key:=qwa h hi (pos:=pos) (f:=f) (rec:=fun k z' s'=>qnq f t k (z:Int) z' s') (fun k hk z' s' a b c d=>by
   obtain⟨k0,k1,k2,_⟩:=qcv h hi hk;have eN:((k.toNat:Nat):Int)=k:=(by omega);have:=qw9 h f k.toNat (by omega) z' s' a b (by rw[eN];exact c) d;rw[eN,k2,hpi]at this;exact this) (qa0 t i).kids (fun _ h=>h) (qtq fun k hk=>(qcv h hi hk).2.2.2.1) (z+1) (s.set i true) (by simpa using hs) (by omega) (fun k hk x hx=>by
   have hx0:=hx.1;rw[zfm (by omega)];have hb:=zji ht hi (by rw[<- hkk];exact hk) hx;refine⟨hu x hb,fun e=>?_⟩;have:x=(i:Int):=(by omega);subst this;exact qzx ht hi (by rw[<- hkk];exact hk) hx) (fun p hp1=>by
   have:=hp (p+1) (by simp only[qe3,jx];rw[hkk]at hp1;omega);simp only[qe3,ym]at this;simp only[hkk];rw[this];omega)
  obtain⟨q1,q2⟩:=key;unfold qnq;simp only[jU];refine { nd:=?_,ln:=q2.ln,sn:=fun x=>?_,un:=?_ }
  ·simp only[qe3,jj];have e2:=q2.nd;rw[hkk]at e2 q1;rw[<- e2];congr 1
   ·unfold newN;rw[hkk,<- q1]
   ·rw[hkk]
  ·have:=q2.sn x;simp only at this ⊢;rw[this,zfm (by omega),hkk];simp only[qe3,ja,not_or];constructor
   ·rintro⟨⟨a1,a2⟩,a3⟩;exact⟨a1,by omega,a3⟩
   ·rintro⟨a1,a2,a3⟩;exact⟨⟨a1,by omega⟩,a3⟩
  ·have:=q2.un;simp only at this ⊢;omega
theorem qtr(h:qbi t=true):qbx t=(qb8 t.length (qar t)).map (newN t (atP (qb8 t.length (qar t)))):=by
 have ht:=qd0 h;have hn:=qdf h;have ho:=qfa ht hn;have hnd:=qlt (n:=t.length) (ks:=qar t);have hm1:atP (qb8 t.length (qar t)) (-1) = -1:=by
  have hc:=qii (p:=fun y=>decide (y=(-1:Int))) (qb8 t.length (qar t)) 0;rw[show qbu (fun y=>decide (y=(-1:Int))) (qb8 t.length (qar t)) 0=atP (qb8 t.length (qar t)) (-1) from rfl]at hc;rcases hc with⟨h1,_⟩|⟨q,hq,h1,h2,_⟩
  ·exact h1
  ·have:=qhg (jy hq);simp at h2;omega
 have key:=qw9 h (pos:=atP (qb8 t.length (qar t))) t.length 0 hn 0 (List.replicate t.length false) (by simp) (by rw[qhv];exact jc _) (fun x hx=>by
  have h1:x.toNat < t.length:=by have:=hx.1;have:=hx.2.1;omega
  simp[List.getD_eq_getElem?_getD,h1]) (fun p hp=>by
  have hp2:p < (qb8 t.length (qar t)).length:=by rw[ho];exact hp
  have:=at_nd hnd hp2;simp only[ho]at this ⊢;rw[this];omega)
 have e0:((0:Nat):Int)=0:=rfl;rw[e0,(qhe h).1,hm1]at key;rw[ho]at key ⊢;exact key.nd
end
section
variable {t:Tr}
theorem ordF_iff{L:List Int}:ordF L 0=true↔∀p (h:p < L.length),L[p]=(p:Int):=by
 unfold ordF;rw[jF,ya];constructor
 ·intro h p hp;have:=h p (by simpa using hp);simpa[List.getD_eq_getElem?_getD,hp]using this
 ·intro h p hp;have hp:p < L.length:=by simpa using hp
  simp[List.getD_eq_getElem?_getD,hp,h p hp]
theorem zap(h:qbi t=true) {i:Nat} (hi:i < t.length):(qa0 t i).up = -1\/(0<=(qa0 t i).up/\(qa0 t i).up < (t.length:Int)/\(i:Int)∈(qa0 t (qa0 t i).up).kids):=by
 have hok:=qmq h hi;simp only[qmd,jd,jV]at hok;by_cases h0:i=0
 ·subst h0;exact .inl (qhe h).1
 ·have h1:=hok.1;simp only[qzz,y7,decide_eq_false_iff_not,jM]at h1;rcases h1 with h1|⟨_,_,h2,h3⟩
  ·omega
  ·by_cases hu:(qa0 t i).up = -1
   ·exact .inl hu
   ·have hb:=hok.2.1;have hu0:(0:Int)<=(qa0 t i).up:=(by omega);simp only[zeh,hu0,decide_true,jQ,jM,decide_eq_false_iff_not]at hb;have hb2:(qde (qa0 t (qa0 t i).up).kids i:Int)=1:=Classical.byContradiction hb.2;refine .inr ⟨hu0,by omega,?_⟩;have:0 < (qa0 t (qa0 t i).up).kids.countP fun x=>decide (x=(i:Int)):=(by have:qde (qa0 t (qa0 t i).up).kids i=1:=(by omega);unfold qde at this;omega);obtain⟨y,hy,he⟩:=List.countP_pos_iff.1 this;have:=of_decide_eq_true he
    rwa [this]at hy
theorem za2{L:List Int} {x:Int} (h:x ∉ L):atP L x = -1:=by
 have hc:=qii (p:=fun y=>decide (y=x)) L 0;rw[show qbu (fun y=>decide (y=x)) L 0=atP L x from rfl]at hc;rcases hc with⟨h1,_⟩|⟨q,hq,h1,h2,_⟩
 ·exact h1
 ·simp at h2;exact absurd (h2 ▸ jy hq) h
theorem tidy_iff(h:qbi t=true):t=qbx t↔(∀p (hp:p < (qb8 t.length (qar t)).length),(qb8 t.length (qar t))[p]=(p:Int))/\(qb8 t.length (qar t)).length=t.length:=by
 have ht:=qd0 h;have hn:=qdf h;have hnd:=qlt (n:=t.length) (ks:=qar t);have hmem:=fun x=>qhg (n:=t.length) (ks:=qar t) (x:=x);have hsub:=qjy ht hn;have hlam:=qub (ks:=qar t) hn;have ho:=qfa ht hn;rw[qtr h];have h00:∀(h0:0 < (qb8 t.length (qar t)).length),(qb8 t.length (qar t))[0]=0:=by rw[ho];obtain⟨m,hm⟩ : ∃m,t.length=m+1:=⟨t.length - 1,by omega⟩;rw[hm];intro h0;simp[qe3]
 obtain⟨O,hO⟩ : ∃O,O=qb8 t.length (qar t):=⟨_,rfl⟩;rw[<- hO]at hnd hmem hsub hlam h00 ⊢;clear ho;have hpos:∀p (hp:p < O.length),atP O O[p]=(p:Int):=fun p hp=>at_nd hnd hp;have hm1:atP O (-1) = -1:=za2 fun hx=>by have:=hmem _ hx;omega
 constructor
 ·intro he;have hl:O.length=t.length:=by have:=congrArg List.length he;simpa using this.symm
  refine⟨fun p=>?_,hl⟩;induction p using Nat.strongRecOn with
  |ind p ih=>
   intro hp;by_cases hp0:p=0
   ·subst hp0;exact h00 hp
   ·obtain⟨b,hb⟩ : ∃b,b=O[p]:=⟨_,rfl⟩;have hbm:b∈O:=(by rw[hb];exact jy hp);have hb0:b≠0:=fun e=>(by have h1:=h00 (by omega);have:=yS.1 hnd 0 p (by omega) hp (by omega);rw[h1,<- hb,e]at this;exact this rfl);obtain⟨u1,u2,_⟩:=hsub.up b hbm hb0;obtain⟨q,hq,hqe⟩:=yp u1;have hqp:q < p:=by
     rcases Nat.lt_trichotomy q p with hlt|hlt|hlt
     ·exact hlt
     ·subst hlt;rw[<- hb]at hqe;rw[<- hqe]at u2;unfold qme at u2;omega
     ·have:=yS.1 hlam.srt p q hp hq hlt;rw[hqe,<- hb]at this;unfold qme at u2;omega
    have hqq:=ih q hqp hq;obtain⟨b1,b2⟩:=hmem b hbm;have hbN:((b.toNat:Nat):Int)=b:=(by omega);rcases zap h (i:=b.toNat) (by omega)with hx|⟨x0,x1,x2⟩
    ·rw[hbN]at hx;have:=hmem _ u1;omega
    ·rw[hbN]at x0 x1 x2;rw[hqe]at hqq;rw[hqq]at x2;obtain⟨j,hj,hje⟩:=yp x2;have hqt:q < t.length:=(by omega);have e1:qa0 t (q:Int)=newN t (atP O) (q:Int):=(by have e2:t[q]? = (O.map (newN t (atP O)))[q]?:=(by rw[<- he]);rw[List.getElem?_eq_getElem hqt,List.getElem?_map,List.getElem?_eq_getElem hq]at e2;simp only[jZ,sj]at e2;rw[qba hqt,e2,hqe,hqq]);have e3:(qa0 t (q:Int)).kids=(qa0 t (q:Int)).kids.map (atP O):=(by have:=congrArg Nd.kids e1;exact this);have e4:(qa0 t (q:Int)).kids[j]? = ((qa0 t (q:Int)).kids.map (atP O))[j]?:=(by rw[<- e3]);rw[List.getElem?_eq_getElem hj,List.getElem?_map,List.getElem?_eq_getElem hj]at e4;simp only[jZ,sj]at e4;rw[hje]at e4;rw[<- hb,e4,hb];exact hpos p hp
 ·rintro⟨h1,h2⟩;have hid:∀x:Int,0<=x->x < (t.length:Int)->atP O x=x:=fun x x0 x1=>by
   have hp:x.toNat < O.length:=(by omega);have:=hpos x.toNat hp;rw[h1 x.toNat hp]at this;have e:((x.toNat:Nat):Int)=x:=by omega
   rwa [e]at this
  refine List.ext_getElem (by simp[h2]) fun p hp hp2=>?_;rw[jT,h1 p (by omega)];unfold newN;have e1:atP O (qa0 t (p:Int)).up=(qa0 t (p:Int)).up:=by
   rcases zap h hp with hu|⟨u0,u1,_⟩
   ·rw[hu];exact hm1
   ·exact hid _ u0 u1
  have e2:(qa0 t (p:Int)).kids.map (atP O)=(qa0 t (p:Int)).kids:=by have:(qa0 t (p:Int)).kids.map (atP O)=(qa0 t (p:Int)).kids.map id:=yM fun k hk=>(by obtain⟨k0,k1,_⟩:=qcv h hp hk;exact hid k k0 k1);rw[this,List.map_id]
  rw[e1,e2,<- qba hp]
theorem zjj:∀(f:Nat) (i x:Int),x∈qe3 (qar t) f i.toNat->0<=i->i < (t.length:Int)->qbi t=true->x=i\/zjl t f i x
 |0,i,x,hx,_,_,_=>by simp[qe3]at hx
 |f+1,i,x,hx,i0,i1,h=>by
  have eN:((i.toNat:Nat):Int)=i:=by omega
  simp only[qe3,ja,yg]at hx;rcases hx with rfl|⟨k,hk,hx⟩
  ·exact .inl eN
  ·have hk':k∈(qa0 t i).kids:=(by have:=qd7 (t:=t) (i:=i.toNat) (by omega);rw[<- this,<- qba (by omega),eN]at hk;exact hk);have hkd:=qcv h (i:=i.toNat) (by omega) (by rw[eN];exact hk');exact .inr ⟨k,hk',zjj f k x hx hkd.1 hkd.2.1 h⟩
theorem qva:∀(f:Nat) (i x:Int),zjl t f i x->zjl t (f+1) i x
 |0,i,x,h=>absurd h (fun h=>h)
 |f+1,i,x,⟨k,hk,hx⟩=>⟨k,hk,by
  rcases hx with hx|hx
  ·exact .inl hx
  ·exact .inr (qva f k x hx)⟩
theorem qy1(h:qbi t=true):∀(f i:Nat),i < t.length->(i:Int)∈qb8 t.length (qar t)->∀x,zjl t f i x->x∈qb8 t.length (qar t)/\x≠0
 |0,i,_,_,x,hx=>absurd hx (fun h=>h)
 |f+1,i,hi,ho,x,⟨k,hk,hx⟩=>by
  have hko:=qnc h hi ho hk;rcases hx with rfl|hx
  ·exact hko
  ·obtain⟨k0,k1,_⟩:=qcv h hi hk;have eN:((k.toNat:Nat):Int)=k:=(by omega);exact qy1 h f k.toNat (by omega) (by rw[eN];exact hko.1) x (by rw[eN];exact hx)
theorem zbn(h:qbi t=true) (ho:∀p (hp:p < (qb8 t.length (qar t)).length),(qb8 t.length (qar t))[p]=(p:Int)) (hl:(qb8 t.length (qar t)).length=t.length):qj1 (t.length+2) t [] 0=qmy t 1:=by
 have hn:=qdf h;have ht:=qd0 h;have h0:=qsw ht hn;have hfit:=qze h (t.length+2) 0 hn (by omega);have key:=zbm h (t.length+2) 0 hn h0 hfit;have e0:((0:Nat):Int)=0:=rfl;rw[e0,PN_root h]at key;rw[jP,key];unfold qmy;rw[ya];constructor
 ·intro hx j hj;obtain⟨q,hq,hqe⟩:=yp hj;simp only[j9,List.length_range]at hq;simp only[yc,y5]at hqe;subst hqe;have hm:((1+q:Nat):Int)∈qb8 t.length (qar t):=by rw[<- ho (1+q) (by omega)];exact jy _
  rw[qfa ht hn]at hm;rcases zjj t.length 0 _ hm (by omega) (by omega) h with hb|hb
  ·omega
  ·have:=hx _ (qva _ _ _ (qva _ _ _ hb))
   rwa [jU]at this
 ·intro hx x hb;obtain⟨m1,m2⟩:=qy1 h _ 0 hn h0 x hb;obtain⟨x0,x1⟩:=qhg m1;have:=hx x.toNat (by have hq:x.toNat - 1 < ((List.range t.length).drop 1).length:=(by simp;omega);have:((List.range t.length).drop 1)[x.toNat - 1]=x.toNat:=(by simp;omega);rw[<- this];exact jy _);exact this
theorem qvo(t:Tr):zez t=qjl t:=by
 unfold zez qjl;cases h:qbi t with
 |false=>rfl
 |true=>
  simp only[jQ];have hi:=tidy_iff h;rw[jP];simp only[jd,decide_eq_true_eq,ordF_iff,hi,qd3,rootB];constructor
  ·rintro⟨⟨⟨a,b⟩,c⟩,d,e,f,g⟩;rw[zbn h e f]at g;exact⟨⟨e,f⟩,⟨a,b,d,c⟩,g⟩
  ·rintro⟨⟨e,f⟩,⟨a,b,d,c⟩,g⟩;rw[<- zbn h e f]at g;exact⟨⟨⟨a,b⟩,c⟩,d,e,f,g⟩
section
variable {t:Tr}
theorem qxr{α:Type} {p q:α->Bool} (hpq:∀x,p x=true->q x=true):∀{l:List α} {a:α},a∈l->q a=true->p a=false->l.countP p < l.countP q
 |[],a,h,_,_=>by cases h
 |b::l,a,h,hq,hp=>by
  rw[yJ,yJ];have hle:=List.countP_mono_left (l:=l) fun x _ h=>hpq x h;rcases ja.1 h with rfl|h
  ·rw[hq,hp,if_pos rfl,if_neg (by simp)];omega
  ·have ih:=qxr hpq h hq hp;cases hb:p b with
   |true=>rw[hpq b hb];omega
   |false=>rw[if_neg (by simp)];split<;>omega
theorem qre:∀(f:Nat) (i:Int),qd9 t f i=true->qd9 t (f+1) i=true
 |0,i,h=>by simp[qd9]at h
 |f+1,i,h=>by
  rw[qd9]at h ⊢;by_cases hu:(qa0 t i).up = -1
  ·simp[hu]
  ·simp only[hu,if_false]at h ⊢;exact qre f _ h
theorem zhj{f:Nat} {i:Int} (hh:qd9 t f i=true):∀(k:Nat),qd9 t (f+k) i=true
 |0=>hh
 |k+1=>qre _ _ (zhj hh k)
theorem ups_at(hu:qtm t) {i:Int} (h0:0<=i) (h1:i < (t.length:Int)):(qa0 t i).up = -1\/(0<=(qa0 t i).up/\(qa0 t i).up < (t.length:Int)):=hu _ (qb5 h0 h1)
def cntH(t:Tr) (f:Nat):Nat:=(List.range t.length).countP fun i:Nat=>qd9 t f (i:Int)
theorem qx9(hu:qtm t):∀f,(∀g i,i < t.length->f<=g->qd9 t g ((i:Nat):Int)=true->qd9 t f (i:Int)=true)\/f<=cntH t f
 |0=>.inr (jh _)
 |f+1=>by
  by_cases hs:∀i,i < t.length->qd9 t (f+1) ((i:Nat):Int)=true->qd9 t f (i:Int)=true
  ·left;have key:∀k i,i < t.length->qd9 t (f+k) ((i:Nat):Int)=true->qd9 t f (i:Int)=true:=by
    intro k;induction k with
    |zero=>intro i hi h;exact h
    |succ k ih=>
     intro i hi h;apply hs i hi;rw[show f+(k+1)=(f+k)+1 by omega,qd9]at h;rw[qd9];by_cases hup:(qa0 t i).up = -1
     ·simp[hup]
     ·simp only[hup,if_false]at h ⊢;obtain⟨u,hu',e⟩ : ∃u:Nat,u < t.length/\(qa0 t i).up=(u:Int):=(by have:=ups_at hu (i:=(i:Int)) (by omega) (by omega);exact⟨(qa0 t i).up.toNat,by omega,by omega⟩);rw[e]at h ⊢;exact ih u hu' h
   intro g i hi hg h;obtain⟨k,rfl⟩:=Nat.exists_eq_add_of_le hg;exact qre f _ (key (k+1) i hi (by rw[show f+(k+1)=f+1+k by omega];exact h))
  ·right;obtain⟨i,hs⟩:=Classical.not_forall.1 hs;obtain⟨hi,hs⟩:=Classical.not_imp.1 hs;obtain⟨h1,h2⟩:=Classical.not_imp.1 hs;have hcf:f<=cntH t f:=by
    rcases qx9 hu f with h|h
    ·exact absurd (h (f+1) i hi (by omega) h1) h2
    ·exact h
   have hlt:cntH t f < cntH t (f+1):=qxr (fun x hx=>qre f _ hx) (a:=i) (by simpa using hi) h1 (by simpa using h2);omega
theorem zhi(hu:qtm t) {g i:Nat} (hi:i < t.length) (h:qd9 t g (i:Int)=true):qd9 t t.length (i:Int)=true:=by
 rcases qx9 hu t.length with hs|hs
 ·by_cases hg:t.length<=g
  ·exact hs g i hi hg h
  ·have:=zhj h (t.length - g);rw[show g+(t.length - g)=t.length by omega]at this;exact this
 ·have h2:(List.range t.length).countP (fun i=>qd9 t t.length ((i:Nat):Int))=(List.range t.length).length:=by have:=List.countP_le_length (p:=fun i=>qd9 t t.length ((i:Nat):Int)) (l:=List.range t.length);unfold cntH at hs;simp only[List.length_range]at this ⊢;omega
  rw[List.countP_eq_length]at h2;exact h2 i (by simpa using hi)
theorem held_n(hu:qtm t) {g i:Nat} (hi:i < t.length) (h:qd9 t g (i:Int)=true):qd9 t (t.length+1) (i:Int)=true:=qre _ _ (zhi hu hi h)
def Hd(t:Tr) (x:Int):Prop:=x = -1\/(0<=x/\x < (t.length:Int)/\∃f,qd9 t f x=true)
end
def qbs(n:Nd):Nd:={ n with up:=0,kids:=[] }
theorem zcg(L:List Nd) (j:Int):qa0 (L.map qbs) j=qbs (qa0 L j):=by
 unfold qa0;simp only[List.getD_eq_getElem?_getD,List.getElem?_map];cases L[j.toNat]? with
 |none=>rfl
 |some n=>rfl
theorem qfn(L:List Nd):qap (L.map qbs)=qbs (qap L):=by
 unfold qap;by_cases h:L=[]
 ·subst h;rfl
 ·rw[if_neg h,if_neg (fun e=>h (List.map_eq_nil_iff.1 e)),zcg,jJ]
theorem qnz{p q:Nd->Bool} (hp:∀n,p (qbs n)=p n) (hq:∀n,q (qbs n)=q n) (L:List Nd):qwi p q (L.map qbs)=qwi p q L:=by
 have e:qne p q (L.map qbs)=qne p q L:=by funext j;unfold qne;rw[zcg,hp,hq]
 unfold qwi;rw[e,jJ]
theorem qlp(L:List Nd) (W:Str) (sc:Int):qel (L.map qbs) W sc=qel L W sc:=qnz (fun _=>rfl) (fun _=>rfl) L
theorem qow(L:List Nd) (W:Str):qeo (L.map qbs) W=qeo L W:=qnz (fun _=>rfl) (fun _=>rfl) L
theorem qwv(L:List Nd):qg7 (L.map qbs)=qg7 L:=qnz (fun _=>rfl) (fun _=>rfl) L
theorem zdq(L:List Nd):qlb (L.map qbs)=qlb L:=by unfold qlb;rw[List.any_map];rfl
theorem zdp(L:List Nd) (x:Str):qla (L.map qbs) x=qla L x:=by unfold qla;rw[qlp,qlp,qow,qow,qwv,zdq,qfn];rfl
theorem qvt(L:List Nd):qdb (L.map qbs)=qdb L:=by unfold qdb;rw[qlp,qfn];rfl
theorem qwp(L:List Nd) (n:Nd):qly (L.map qbs) (qbs n)=qly L n:=by unfold qly;rw[qvt,qfn,show (qbs n).name=n.name from rfl,zdp];rfl
theorem qrs(L:List Nd) (s:Str):qd5 (L.map qbs) s=qd5 L s:=by unfold qd5;rw[qfn];rfl
theorem qn3{L L':List Nd} {n n':Nd} (h:L.map qbs=L'.map qbs) (hn:qbs n=qbs n'):qly L n=qly L' n':=by rw[<- qwp,h,hn,qwp]
theorem ql6{L L':List Nd} (h:L.map qbs=L'.map qbs) (s:Str):qd5 L s=qd5 L' s:=by rw[<- qrs,h,qrs]
theorem qiw{L L':List Nd} (h:L.map qbs=L'.map qbs) (W:Str):elB (qap L) W=elB (qap L') W:=by have:=congrArg qap h;rw[qfn,qfn]at this;show elB (qbs (qap L)) W=elB (qbs (qap L')) W;rw[this]
section
variable {t v:Tr} {pos:Int->Int}
end
section
variable {t:Tr}
theorem dep_lt:∀(f:Nat) (i:Int),qd9 t f i=true->qv2 t f i < f
 |0,i,h=>by simp[qd9]at h
 |f+1,i,h=>by
  rw[qd9]at h;rw[qv2];by_cases hu:(qa0 t i).up = -1
  ·simp[hu]
  ·simp only[hu,if_false]at h ⊢;have:=dep_lt f _ h;omega
theorem zew(h:qbi t=true):qtm t:=zex (qhe h).1 fun j hj=>qmq h hj
theorem dep_n(h:qbi t=true) {i:Nat} (hi:i < t.length):qv2 t (t.length+1) (i:Int) < t.length:=by have hh:=zhi (zew h) hi (qnv h hi);rw[<- qoe _ _ hh];exact dep_lt _ _ hh
theorem zay(h:qbi t=true):∀(f i:Nat),i < t.length->t.length<=f+qv2 t (t.length+1) (i:Int)->qe3 (qar t) (f+1) i=qe3 (qar t) f i
 |0,i,hi,hf=>by have:=dep_n h hi;omega
 |f+1,i,hi,hf=>by
  rw[qe3,qe3];have e:(qar t i).flatMap (fun k=>qe3 (qar t) (f+1) k.toNat)=(qar t i).flatMap fun k=>qe3 (qar t) f k.toNat:=by unfold List.flatMap;congr 1;refine yM fun k hk=>?_;obtain⟨k0,k1,_,k2⟩:=(qd0 h).kd i hi k hk;have eN:((k.toNat:Nat):Int)=k:=(by omega);exact zay h f k.toNat (by omega) (by rw[eN];omega)
  rw[e]
theorem qpl(h:qbi t=true):∀k,qe3 (qar t) (t.length+k) 0=qe3 (qar t) t.length 0
 |0=>rfl
 |k+1=>by rw[show t.length+(k+1)=(t.length+k)+1 by omega,zay h _ 0 (qdf h) (by omega),qpl h k]
structure NewT (t v:Tr) (O:List Int) (pos:Int->Int):Prop where
 len:v.length=O.length
 zero:(0:Int)∈O/\pos 0=0
 neg:pos (-1) = -1
 rng:∀x,x∈O->0<=x/\x < (t.length:Int)
 out:∀x,x ∉ O->pos x = -1
 ps:∀x,x∈O->0<=pos x/\pos x < (v.length:Int)
 inj:∀x y,x∈O->y∈O->pos x=pos y->x=y
 cl:∀x,x∈O->∀k,k∈(qa0 t x).kids->k∈O
 all:∀j:Nat,j < v.length->∃x,x∈O/\pos x=(j:Int)
 nd:∀x,x∈O->qa0 v (pos x)=newN t pos x
 od:O.map pos=(List.range v.length).map fun j=>((j:Nat):Int)
 pre:O=qe3 (qar t) t.length 0
theorem qn0(h:qbi t=true):NewT t (qbx t) (qb8 t.length (qar t)) (atP (qb8 t.length (qar t))):=by
 have ht:=qd0 h;have hn:=qdf h;have ho:=qfa ht hn;have hnd:=qlt (n:=t.length) (ks:=qar t);have hm:∀x,x∈qb8 t.length (qar t)->0<=x/\x < (t.length:Int):=fun x hx=>qhg hx;have hv:=qtr h;have hcl:∀x,x∈qb8 t.length (qar t)->∀k,k∈(qa0 t x).kids->k∈qb8 t.length (qar t):=fun x hx k hk=>by
  obtain⟨x0,x1⟩:=hm x hx;have eN:((x.toNat:Nat):Int)=x:=by omega
  exact(qnc h (i:=x.toNat) (by omega) (by rw[eN];exact hx) (by rw[eN];exact hk)).1
 have hz:=qsw ht hn;obtain⟨O,hO⟩ : ∃O,O=qb8 t.length (qar t):=⟨_,rfl⟩;rw[<- hO]at ho hnd hm hv hcl hz ⊢;have hat:∀j (hj:j < O.length),atP O O[j]=(j:Int):=fun j hj=>at_nd hnd hj;have hidx:∀x,x∈O->∃j,∃hj:j < O.length,O[j]=x:=fun x hx=>by obtain⟨j,hj,e⟩:=yp hx;exact⟨j,hj,e⟩
 have hl:(qbx t).length=O.length:=by rw[hv,jJ]
 refine { len:=hl,zero:=⟨hz,?_⟩,neg:=za2 (fun hx=>by have:=(hm _ hx).1;omega),rng:=hm,out:=fun x hx=>za2 hx,ps:=fun x hx=>?_,inj:=fun x y hx hy e=>?_,cl:=hcl,all:=fun j hj=>?_,nd:=fun x hx=>?_,od:=?_,pre:=ho }
 ·have e:∃r,O=0::r:=by rw[ho];obtain⟨n',hn'⟩ : ∃n',t.length=n'+1:=⟨t.length - 1,by omega⟩;rw[hn',qe3];exact⟨_,rfl⟩
  obtain⟨r,e⟩:=e;have:=hat 0 (by rw[e];simp);simp only[e,j5]at this;rw[<- e]at this;exact this
 ·obtain⟨j,hj,rfl⟩:=hidx x hx;rw[hat j hj,hl];omega
 ·obtain⟨j,hj,rfl⟩:=hidx x hx;obtain⟨j2,hj2,rfl⟩:=hidx y hy;rw[hat j hj,hat j2 hj2]at e;have:j=j2:=by omega
  subst this;rfl
 ·rw[hl]at hj;exact⟨O[j],jy hj,hat j hj⟩
 ·obtain⟨j,hj,rfl⟩:=hidx x hx;rw[hat j hj,qba (by rw[hl];exact hj)];simp only[hv,jT]
 ·refine List.ext_getElem (by simp[hl]) fun j h1 h2=>?_;rw[jT,jT,y5];exact hat j (by simpa using h1)
section
variable {v:Tr} {O:List Int} {pos:Int->Int}
theorem zg1(h:qbi t=true) (w:NewT t v O pos) {x:Int} (hx:x∈O):(qa0 v (pos x)).up=pos (qa0 t x).up/\(qa0 v (pos x)).kids=(qa0 t x).kids.map pos/\(qa0 v (pos x)).kind=(qa0 t x).kind:=by rw[w.nd x hx];exact⟨rfl,rfl,rfl⟩
theorem zf0(w:NewT t v O pos) {L:List Int} (hL:∀k,k∈L->k∈O) {x:Int} (hx:x∈O):qde (L.map pos) (pos x)=qde L x:=by unfold qde;rw[List.countP_map];refine List.countP_congr fun k hk=>?_;simp only[Function.comp_apply,decide_eq_true_eq];exact⟨fun e=>w.inj _ _ (hL k hk) hx e,fun e=>by rw[e]⟩
theorem zbt(w:NewT t v O pos):∀(f:Nat) (x:Int),x∈O->qd9 t f x=true->qd9 v f (pos x)=true
 |0,x,_,h=>by simp[qd9]at h
 |f+1,x,hx,h=>by
  rw[qd9]at h ⊢;rw[w.nd x hx,show (newN t pos x).up=pos (qa0 t x).up from rfl];by_cases hu:(qa0 t x).up∈O
  ·have hne:¬ (qa0 t x).up = -1:=fun e=>(by have:=(w.rng _ hu).1;omega);have hne2:¬ pos (qa0 t x).up = -1:=fun e=>(by have:=(w.ps _ hu).1;omega);rw[if_neg hne]at h;rw[if_neg hne2];exact zbt w f _ hu h
  ·rw[if_pos (w.out _ hu)]
theorem qjv(h:qbi t=true) (w:NewT t v O pos):qbi v=true:=by
 have hne:v≠[]:=fun e=>by have:=w.len;have h0:=List.length_pos_of_mem w.zero.1;rw[e]at this;simp only[jW]at this;omega
 have h0:=w.nd 0 w.zero.1;rw[w.zero.2]at h0;have hk0:(qa0 v 0).kind=0:=by rw[h0];exact(qhe h).2
 have hu0:(qa0 v 0).up = -1:=by rw[h0];show pos (qa0 t 0).up = -1;rw[(qhe h).1];exact w.neg
 have hok:∀j,j < v.length->qmd v j=true:=fun j hj=>by
  obtain⟨x,hx,hxj⟩:=w.all j hj;obtain⟨x0,x1⟩:=w.rng x hx;obtain⟨i,rfl⟩ : ∃i:Nat,x=(i:Int):=⟨x.toNat,by omega⟩;have hi:i < t.length:=by omega
  obtain⟨n1,n2,n3⟩:=zg1 h w hx;have hok:=qmq h hi;simp only[qmd,jd,jV]at hok ⊢;have hups:pos (qa0 t i).up = -1\/((qa0 t i).up∈O/\0<=pos (qa0 t i).up/\pos (qa0 t i).up < (v.length:Int)):=by
   by_cases hm:(qa0 t i).up∈O
   ·exact .inr ⟨hm,w.ps _ hm⟩
   ·exact .inl (w.out _ hm)
  rw[hxj]at n1 n2 n3;refine⟨?_,?_,?_⟩
  ·unfold qzz;rw[n1,n3];by_cases hz:i=0
   ·subst hz;have:j=0:=(by have:=w.zero.2;have e0:((0:Nat):Int)=0:=rfl;rw[e0]at hxj;omega);subst this;simp
   ·have ha:=hok.1;have hp:0 < i:=(by omega);simp only[qzz,hp,decide_true,jQ,jM,decide_eq_false_iff_not]at ha;simp only[y7,jM,decide_eq_false_iff_not];exact .inr ⟨ha.1,ha.2.1,by omega,by omega⟩
  ·unfold zeh;rw[n1];rcases hups with hu|⟨hu,hu0,hu1⟩
   ·simp[hu]
   ·obtain⟨p1,p2,p3⟩:=zg1 h w hu;have hb:=hok.2.1;have hup0:=(w.rng _ hu).1;simp only[zeh,hup0,decide_true,jQ,jM,decide_eq_false_iff_not]at hb;rw[p2,p3,<- hxj,zf0 w (fun k hk=>w.cl _ hu k hk) hx];simp only[hu0,decide_true,jQ,jM,decide_eq_false_iff_not];exact hb
  ·rw[n2,yU];intro k' hk';obtain⟨k,hk,rfl⟩:=ji.1 hk';have hkO:=w.cl _ hx k hk;obtain⟨p1,p2⟩:=w.ps k hkO;obtain⟨q1,_,_⟩:=zg1 h w hkO;obtain⟨_,_,k2,_⟩:=qcv h hi hk;simp only[zeg,q1,k2,hxj,yf,decide_eq_true_eq,not_or];exact⟨by omega,by omega,fun e=>e rfl⟩
 have hups:=zex hu0 hok;refine qnw hne hk0 hu0 hok fun j hj=>?_;obtain⟨x,hx,hxj⟩:=w.all j hj;obtain⟨x0,x1⟩:=w.rng x hx;have hh:=qnv h (i:=x.toNat) (by omega);rw[show ((x.toNat:Nat):Int)=x by omega]at hh;have:=zbt w _ x hx hh;rw[hxj]at this;exact held_n hups hj this
theorem zg0(w:NewT t v O pos):∀(f i:Nat),(i:Int)∈O->qe3 (qar v) f (pos i).toNat=(qe3 (qar t) f i).map pos
 |0,_,_=>rfl
 |f+1,i,hi=>by
  obtain⟨p0,p1⟩:=w.ps _ hi;obtain⟨x0,x1⟩:=w.rng _ hi;have ek:qar v (pos i).toNat=(qar t i).map pos:=by have a1:=qd7 (t:=v) (i:=(pos i).toNat) (by omega);have a2:=qd7 (t:=t) (i:=i) (by omega);rw[<- a1,<- a2,<- qba,<- qba,show (((pos i).toNat:Nat):Int)=pos i by omega,w.nd _ hi];rfl
  rw[qe3,qe3,ek,jj,show (((pos i).toNat:Nat):Int)=pos i by omega,List.flatMap_map,List.map_flatMap];congr 1;unfold List.flatMap;congr 1;refine yM fun k hk=>?_;have hk':k∈(qa0 t i).kids:=by rw[qba (by omega),qd7 (by omega)];exact hk
  have hkO:=w.cl _ hi k hk';have eN:((k.toNat:Nat):Int)=k:=by have:=(w.rng _ hkO).1;omega
  have:=zg0 w f k.toNat (by rw[eN];exact hkO)
  rwa [eN]at this
theorem zgb(h:qbi t=true) (w:NewT t v O pos):qb8 v.length (qar v)=(List.range v.length).map fun j=>((j:Nat):Int):=by
 have hr:=qjv h w;have hv:=qd0 hr;rw[qfa hv (qdf hr)];have hle:v.length<=t.length:=by rw[w.len,w.pre,<- qfa (qd0 h) (qdf h)];exact qmx
 obtain⟨d,hd⟩:=Nat.exists_eq_add_of_le hle;have e1:=qpl hr d;rw[<- hd]at e1;rw[<- e1];have e2:=zg0 w t.length 0 (by have:=w.zero.1;exact this);have e0:((0:Nat):Int)=0:=rfl;rw[e0,w.zero.2]at e2;rw[show (0:Int).toNat=0 from rfl]at e2;rw[e2,<- w.pre,w.od]
end
end
theorem ins_at{T:List (Entry PG)} (L:List Int) (x:Int) (hl:L.length<=1000000) {b vb n:Nat} {g:List (Nat × Blk)} {fs:List (List (Nat × Blk))} (hbv:vb≠b) (hg:∀e,e∈g++fs.flatten->e.1≠b/\e.1≠vb) :
  CA T 127 [qdo b 1 (L.map qbm),.int .i64 (L.length:Int),.slc vb 0 1 (.ex 1)] ⟨n,((vb,.cells [.int .i64 x])::(qe4 b (L.map qbm)++g))::fs⟩ (.slc n 0 (L.length+1) (.rest 1)) ⟨n+1,((n,.cells (qa5 ((L++[x]).map qbm)))::(vb,.cells [.int .i64 x])::g)::fs⟩:=by
 have hp:qa9 (qa5 ((L++[x]).map qbm))=true:=(qjg _).pure;have hp0:qa9 (qa5 (L.map qbm))=true:=(qjg _).pure;have px:qa9 [AV.int .i64 x]=true:=by simp[qa9,qab]
 have fh:FitH 0 [(b,0),(vb,1)] [] ⟨n,((vb,.cells [.int .i64 x])::(qe4 b (L.map qbm)++g))::fs⟩ ⟨2,[qe4 0 (L.map qbm)++[(1,.cells [.int .i64 x])]]⟩:=by
  refine⟨by simp[Ne.symm hbv],by simp,?_,?_,fun x hx h=>absurd h (jk _),jh _,?_,fun x h=>by cases h⟩
  ·cases L<;>simp[Heap.ents,qe4]
  ·intro y hy;simp at hy;rcases hy with rfl|rfl<;>simp
  ·intro e he;have h1:∃b' k,(b',1)∈[(b,0),(vb,1)]/\Heap.get ⟨n,((vb,.cells [.int .i64 x])::(qe4 b (L.map qbm)++g))::fs⟩ b'=some k/\qhp [(b,0),(vb,1)] [] k (.cells [.int .i64 x]):=⟨vb,.cells [.int .i64 x],by simp,by simp[zG],by show qaz _ _ _ _;exact qaf px⟩;cases L with
   |nil=>simp only[Heap.ents,ye,qe4,jq,je,js,jg,ju]at he;subst he;exact h1
   |cons y r=>
    simp only[Heap.ents,jj,qe4,List.cons_append,jq,je,js,jg,ja,jL,or_false]at he;rcases he with rfl|rfl
    ·exact⟨b,.cells (qa5 ((y::r).map qbm)),by simp,by simp[zG,qe4,qaw hbv],by show qaz _ _ _ _;exact qaf hp0⟩
    ·exact h1
 have hf:qaz [(b,0),(vb,1)] [] [qdo b 1 (L.map qbm),.int .i64 (L.length:Int),.slc vb 0 1 (.ex 1)] [qdo 0 1 (L.map qbm),.int .i64 (L.length:Int),.slc 1 0 1 (.ex 1)]:=by cases L<;>simp[qaz,qat,qb2,qdo,qab,Ne.symm hbv]
 have out:OutH [(b,0),(vb,1)] ⟨n,((vb,.cells [.int .i64 x])::(qe4 b (L.map qbm)++g))::fs⟩ ⟨2,[qe4 0 (L.map qbm)++[(1,.cells [.int .i64 x])]]⟩ ⟨3,[[(2,.cells (qa5 ((L++[x]).map qbm))),(1,.cells [.int .i64 x])]]⟩ ⟨n+1,((n,.cells (qa5 ((L++[x]).map qbm)))::(vb,.cells [.int .i64 x])::g)::fs⟩:=by
  refine⟨rfl,fun nd lt=>?_,fun e he=>?_⟩
  ·simp only[Heap.ents,je,List.cons_append,jj,jr,ja,not_or]at nd ⊢;have hsub:((g++fs.flatten).map (·.1)).Sublist ((qe4 b (L.map qbm)++g++fs.flatten).map (·.1)):=(by rw[List.append_assoc];exact(List.sublist_append_right _ _).map _);refine⟨⟨?_,fun hx=>?_⟩,fun hx=>nd.1 (hsub.subset hx),nd.2.sublist hsub⟩
   ·have:=lt (vb,.cells [.int .i64 x]) (by simp[Heap.ents]);simp only at this;omega
   ·obtain⟨e,he,hx⟩:=ji.1 hx;have:=lt e (by
     simp only[Heap.ents,je,List.cons_append,ja,jl]at he ⊢;rcases he with he|he
     ·exact .inr (.inl (.inr he))
     ·exact .inr (.inr he))
    simp only at this;omega
  ·simp only[Heap.ents,je,List.cons_append,ja]at he;rcases he with rfl|rfl|he
   ·refine .inl ⟨(2,.cells (qa5 ((L++[x]).map qbm))),by simp[Heap.ents],?_⟩;simp only[qky,qbt _ hp,qg9,qdr];simp
   ·refine .inl ⟨(1,.cells [.int .i64 x]),by simp[Heap.ents],?_⟩;simp only[qky,qbt _ px,qg9,qdr];simp
   ·refine .inr ⟨?_,fun y hy=>?_⟩
    ·simp only[Heap.ents,je,List.cons_append,ja,jl]at he ⊢;rcases he with he|he
     ·exact .inr (.inl (.inr he))
     ·exact .inr (.inr he)
    ·obtain⟨h1,h2⟩:=hg e he;simp only[ja,jL,or_false]at hy;rcases hy with rfl|rfl
     ·exact h1.symm
     ·exact h2.symm
 have:=(c127 (T:=T) L x hl).framed fh hf out (by show 2<=3;omega);simpa[qiu,qg9,qdr]using this
theorem get_kids{t:Tr} {i:Nat} (h:i < t.length):qcy (qa5 (t.map qa6)) (i * 7+6)=some (qbl (qa0 t i).kids):=by
 have hl:(qa5 ((t.take i).map qa6)).length=i * 7:=by rw[(qbk _).len];simp;omega
 have e1:qa5 (t.map qa6)=(qa5 ((t.take i).map qa6)++[qbm (qa0 t i).kind,qbm (qa0 t i).space,.str (qa0 t i).name,qal (qa0 t i).attrs,.str (qa0 t i).data,qbm (qa0 t i).up])++(qbl (qa0 t i).kids::qa5 ((t.drop (i+1)).map qa6)):=by
  conv=>lhs;rw[qf1 h]
  simp[qbq,qa5,Nd.cs]
 have l6:(qa5 ((t.take i).map qa6)++[qbm (qa0 t i).kind,qbm (qa0 t i).space,.str (qa0 t i).name,qal (qa0 t i).attrs,.str (qa0 t i).data,qbm (qa0 t i).up]).length=i * 7+6:=by rw[jo,hl];rfl
 rw[e1,qf4 (by rw[jo,l6];simp),jv (by omega)];simp only[l6,yN,j5]
theorem own_heap{n:Nat} {f:List (Nat × Blk)} {fs:List (List (Nat × Blk))} (es:List AV):qy8 ⟨n,f::fs⟩ es=⟨n+(if es=[] then 0 else 1),(qe4 n es++f)::fs⟩:=by cases es<;>simp[qy8,qe4,Heap.new,pushF]
theorem prom_any{b c:Nat} {row:List AV} {f F:List (Nat × Blk)} {k0:Blk} (hcb:c≠b) (hf:getF b f=none) (hF:getF b F=some k0) (hr:qa9 row=true) :
  qdj b [c] [] [(c,.cells row)::f,F]=[f,(c,.cells row)::F]:=by
 have hcp:Nat.beq c b=false:=qaw hcb;have r1:qgu 100000 [c] ((c,.cells row)::f) []=([(c,.cells row)],f):=by have hk:qs5 (.cells row)=[]:=qe7 4 _ hr;show qgu (Nat.succ (Nat.succ 99998)) [c] ((c,.cells row)::f) []=_;unfold qgu;simp only[getF,jD,hk,jq,killF];unfold qgu;rfl
 have e1:qqh [((c,.cells row):Nat × Blk)]++[c]=[c]:=by have hk:qs5 (.cells row)=[]:=qe7 4 _ hr;simp[qqh,hk]
 have n1:getF b ((c,Blk.cells row)::f)=none:=by simp[getF,hcp,hf]
 unfold qdj;rw[n1];simp only[r1,e1];unfold qdj;simp[hF]
theorem zcl{m N n pb k c u:Nat} {pre post R:List AV} {g f:List (Nat × Blk)} {t:Tr} (h:Eok m pb pre k 7 (t.map qa6) post g) (hu:u < t.length) (hc:m<=c) (hf:∀j,j < m->getF j f=none) (hR:qa9 R=true) :
  writeVar PG ⟨N,[(c,.cells R)::f,VE pb pre k 7 (t.map qa6) post g]⟩ 30 (.ptr k (u * 7+6)) (.slc c 0 n (.rest 1)) =
   some ⟨N,[f,(c,.cells R)::(pb,.cells (pre++qdo k 7 (t.map qa6)::post))::(k,.cells (qje t u (.slc c 0 n (.rest 1))))::g]⟩:=by
 have hne:t.map qa6≠[]:=by intro e;have:=congrArg List.length e;simp at this;subst this;simp at hu
 have hck:c≠k:=by have:=h.lk.1;omega
 have hk:getF k f=none:=hf k h.lk.1;have hk1:getF k ((c,Blk.cells R)::f)=none:=by simp[getF,qaw hck,hk]
 have hg:Heap.get ⟨N,[(c,.cells R)::f,VE pb pre k 7 (t.map qa6) post g]⟩ k=some (.cells (qa5 (t.map qa6))):=by simp only[Heap.get,getFs];rw[hk1,VE_k h hne]
 have pr:=prom_any (f:=f) hck hk (VE_k h hne) hR;have hs:Heap.set ⟨N,[f,(c,.cells R)::VE pb pre k 7 (t.map qa6) post g]⟩ k (.cells (qje t u (.slc c 0 n (.rest 1))))=some ⟨N,[f,(c,.cells R)::(pb,.cells (pre++qdo k 7 (t.map qa6)::post))::(k,.cells (qje t u (.slc c 0 n (.rest 1))))::g]⟩:=by simp only[Heap.set,setFs];rw[qnu hk];unfold VE;rw[qci hne];simp[setF,h.k_p,qaw hck]
 have hr:Heap.ready ⟨N,[(c,.cells R)::f,VE pb pre k 7 (t.map qa6) post g]⟩ k [.slc c 0 n (.rest 1)]=⟨N,[f,(c,.cells R)::VE pb pre k 7 (t.map qa6) post g]⟩:=by unfold Heap.ready;simp[refs,pr]
 unfold writeVar;simp[AV.cells,allSingle,AV.single,writeCells,hg,Blk.wt,lay_kids hu,hr,hs,Blk.re]
theorem c88{T:List (Entry PG)} (hP:qIn 154 T e154) (hS:qIn 124 T e124) (hH:qIn 125 T e125) (hC:qIn 128 T e128)
  {m pb k:Nat} {pre post:List AV} {g:List (Nat × Blk)} {t:Tr} (h:Eok m pb pre k 7 (t.map qa6) post g) (ht:t.length<=1000000) {u i a:Nat} (hu:u < t.length) (hi:i < t.length) (h0:i≠0) (hh:qk6 t (i:Int) (u:Int)=false) (hup:(qa0 t (i:Int)).up = -1) (hk:(qa0 t (u:Int)).kids.length<=a) (ha:a<=1000000) :
  CA T 88 [.ptr pb pre.length,.int .i64 (u:Int),.int .i64 (a:Int),.int .i64 (i:Int)] ⟨m,[VE pb pre k 7 (t.map qa6) post g]⟩ (.tup []) ⟨m,[VE pb pre k 7 ((qgy (qcr t u ((qa0 t (u:Int)).kids++[(i:Int)])) i (u:Int)).map qa6) post g]⟩:=by
 have hne:t≠[]:=by intro e;subst e;simp at hi
 have hne':t.map qa6≠[]:=by simpa using hne
 have hbi:isB t (i:Int)=true:=by simp[isB,hi]
 have hbu:isB t (u:Int)=true:=by simp[isB,hu]
 have nf:∀j,j < m->getF j ([]:List (Nat × Blk))=none:=fun _ _=>rfl;have rdT:=fun n=>(qqk (n:=n) h nf).1;have rdN:=fun n=>(qqk (n:=n) h nf).2;have hkg:∀n,Heap.get ⟨n,[[],VE pb pre k 7 (t.map qa6) post g]⟩ k=some (.cells (qa5 (t.map qa6))):=fun n=>by simp only[Heap.get,getFs];rw[nf k h.lk.1,VE_k h hne']
 have ksi:=fun n=>q124 hS (qjo hne (hkg n)) (i:Int);have ksu:=fun n=>q124 hS (qjo hne (hkg n)) (u:Int);have kh:=fun n=>q125 hH (qjo hne (hkg n)) ht (i:Int) (u:Int);rw[hbi]at ksi;rw[hbu]at ksu;rw[hh]at kh;have hcut:=c126 hP hS h hi h0 hup;have ix:qav PG 22 (qdo k 7 (t.map qa6)) (.int .i64 (u:Int))=some (.ptr k (u * 7)):=by rw[qch hne'];simp[qav,qbz hu]
 have hcut':CA T 126 [.ptr pb pre.length,.int .i64 (i:Int)] ⟨m,[[],VE pb pre k 7 (t.map qa6) post g]⟩ (.tup []) ⟨m,[[],VE pb pre k 7 (t.map qa6) post g]⟩:=hcut.perm rfl rfl (by simp[Heap.ents]) (by simp[Heap.ents]);obtain⟨K,hK⟩ : ∃K,K=(qa0 t (u:Int)).kids:=⟨_,rfl⟩;rw[<- hK]at hk;have rdK:∀(n:Nat) (f:List (Nat × Blk)),(∀j,j < m->getF j f=none)->qb3 PG ⟨n,[f,VE pb pre k 7 (t.map qa6) post g]⟩ 30 (.ptr k (u * 7+6))=some (qbl K):=fun n f hf=>by
  have hg:Heap.get ⟨n,[f,VE pb pre k 7 (t.map qa6) post g]⟩ k=some (.cells (qa5 (t.map qa6))):=by simp only[Heap.get,getFs];rw[hf k h.lk.1,VE_k h hne']
  simp[hg,get_kids hu,hK]
 have rdK0:=fun n=>rdK n [] nf;have rdK1:=fun n=>rdK n (qe4 (m+20) (K.map qbm)) fun j hj=>by
  cases K with
  |nil=>rfl
  |cons y r=>simp[qe4,getF,qaw (show m+20≠j by omega)]
 have kcl:=k128 hC (L:=K) (by omega) ⟨m+20,[[],VE pb pre k 7 (t.map qa6) post g]⟩;rw[own_heap]at kcl;simp only[jg]at kcl;have lK:∀H,qer PG H 30 (qbl K)=some K.length:=fun H=>by simp[qer,qbl]
 refine qa1 (s0:=⟨[0,1,2,3,8],[.ptr pb pre.length,.int .i64 (u:Int),.int .i64 (a:Int),.int .i64 (i:Int),uD],[],71,⟨m,[]::[VE pb pre k 7 (t.map qa6) post g]⟩⟩) Tryz.func88 rfl rfl rfl ?_;apply qR;simp[zS,rdT,ksi,ksu,kh,h0];apply qag rfl;apply qa4;simp;repeat apply wq
 refine qai (qbo [⟨126,_,_,_,_,hcut'⟩]) ?_;simp[zS,qcu];apply qR;simp[zS,rdN,ix];have mx:qwq false (.int .i64 (a:Int)) [.int .i64 0]=some (.int .i64 (a:Int)):=by simp[qwq]
 have mn:qwq true (.int .i64 (a:Int)) [.int .i64 (K.length:Int)]=some (.int .i64 (K.length:Int)):=by simp[qwq];omega
 have hins:=ins_at (T:=T) K (i:Int) (by omega) (b:=m+20) (vb:=m+15) (n:=m+20+(if K.map qbm=[] then 0 else 1)) (g:=[]) (fs:=[VE pb pre k 7 (t.map qa6) post g]) (by omega) (fun e he=>by
  have hne2:qe4 k (t.map qa6)=[(k,.cells (qa5 (t.map qa6)))]:=qci hne';simp only[jq,je,js,jg,VE,hne2,List.cons_append,ja]at he;have l1:=h.lp;have l2:=h.lk.1;rcases he with rfl|rfl|he
  ·simp only;omega
  ·simp only;omega
  ·have:=h.lg e he;omega)
 simp only[jg]at hins;generalize hd:(if K.map qbm=[] then 0 else 1)=d at kcl hins;have pR:qa9 (qa5 (K.map qbm++[qbm (i:Int)]))=true:=by
  have:=(qjg (K++[(i:Int)])).pure
  rwa [j3]at this
 have hw:=zcl (N:=m+20+d+1) (n:=K.length+1) (c:=m+20+d) (f:=[(m+15,.cells [.int .i64 (i:Int)])]) h hu (by omega) (fun j hj=>by simp[getF,qaw (show m+15≠j by omega)]) pR;repeat apply wq
 refine qcc mixed (qbo [⟨127,_,_,_,_,hins⟩]) (by decide +kernel) fun B_ hB_=>?_;have hD_:ahead B_ 4 5=true/\ahead B_ 4 16=true/\ahead B_ 4 19=true/\ahead B_ 5 4=false/\ahead B_ 5 11=false/\ahead B_ 5 12=false/\ahead B_ 11 5=false/\ahead B_ 11 16=true/\ahead B_ 11 19=true/\ahead B_ 12 5=false/\ahead B_ 12 16=true/\ahead B_ 12 19=true/\ahead B_ 15 5=false/\ahead B_ 15 16=true/\ahead B_ 15 19=true/\ahead B_ 16 4=false/\ahead B_ 16 11=false/\ahead B_ 16 12=false/\ahead B_ 19 4=false/\ahead B_ 19 11=false/\ahead B_ 19 12=false:=by rw[hB_];decide +kernel
 apply qim B_;simp[zS,qdx,qc9,qc4,qbn,qas,qb4,qb0,Heap.lay,qdk,qil,qik,qfm,qfl,qfi,qfk,qfz,qfp,qea,qeb,qft,qfs,qfq,qfr,qfw,qfx,qfv,qfu,hD_,hw,qcu,rdK0,rdK1,kcl,lK,mx,mn];exact rfl;refine⟨_,rfl,?_,?_⟩;simp[zS,qbn,qas,qcb,qcs,qe5,hD_,hw,qcu,rdK0,rdK1,kcl,lK,mx,mn];simp[qc8,Heap.lay,qdk,qan];have eR:qa5 (K.map qbm++[qbm (i:Int)])=(K++[(i:Int)]).map qbm:=by
  have:=qpt (K++[(i:Int)])
  rwa [j3]at this ⊢
 have len1:(K++[(i:Int)]).length=K.length+1:=by simp
 have hl1:=h.lk.1;have hl0:=h.lp;have hkp:=h.k_p;have hes':(qcr t u (K++[(i:Int)])).map qa6≠[]:=by simp[qcr]
 have lenS:((qcr t u (K++[(i:Int)])).map qa6).length=(t.map qa6).length:=by simp[qdq hu]
 have b1:Nat.beq (m+15) pb=false:=qaw (by omega);have b2:Nat.beq (m+20+d) pb=false:=qaw (by omega);have b3:Nat.beq (m+15) k=false:=qaw (by omega);have b4:Nat.beq (m+20+d) k=false:=qaw (by omega);have b5:Nat.beq (m+15) (m+20+d)=false:=qaw (by omega);have fk:=fit_K (m':=m) (c:=m+20+d) (es':=(qcr t u (K++[(i:Int)])).map qa6) (cs0:=qje t u (.slc (m+20+d) 0 (K.length+1) (.rest 1))) (K:=(K++[(i:Int)]).map qbm)
  (H:=⟨m+20+d+1,[[(m+15,.cells [.int .i64 (i:Int)])],(m+20+d,.cells (qa5 (K.map qbm++[qbm (i:Int)])))::(pb,.cells (pre++qdo k 7 (t.map qa6)::post))::(k,.cells (qje t u (.slc (m+20+d) 0 (K.length+1) (.rest 1))))::g]⟩)
  h (jc m) (by omega) hes' (by
   rw[qch hes',lenS,<- qch hne'];simp[zG,b1,b2]) (fun σ=>by
   have:=fit_kids (t:=t) (i:=u) (c:=m+20+d) (K:=K++[(i:Int)]) σ
   rwa [len1]at this) (by simp[zG,b3,b4,hkp]) (by simp[zG,b5,<- eR]) (by
   have:=(qjg (K++[(i:Int)])).pure
   rwa [qpt]at this) (fun e he=>by
   have:=h.lg e he;have nd:=h.nd;rw[jr]at nd;have e1:pb≠e.1:=fun x=>nd.1 (ji.2 ⟨e,he,x.symm⟩);have e2:k≠e.1:=fun x=>h.lk.2 (by rw[x];exact jp _ (ji.2 ⟨e,he,rfl⟩));simp[zG,qaw (show m+15≠e.1 by omega),qaw (show m+20+d≠e.1 by omega),qaw e1,qaw e2,qse nd.2 he])
 refine .fit (idn m) [(m+20+d,(K++[(i:Int)]).map qbm)] (s':=(⟨[0,1,2,3,8],[.ptr pb pre.length,.int .i64 (u:Int),.int .i64 (a:Int),.int .i64 (i:Int),uD],[],71,⟨m,[[],VE pb pre k 7 ((qcr t u (K++[(i:Int)])).map qa6) post g]⟩⟩ : St)) ⟨rfl,rfl,rfl,by simp[qaz,qat,qd4 h.lp,qab],fk⟩ ?_;have h':=h.mono (jc m) (qbk (qcr t u (K++[(i:Int)])));have hi':i < (qcr t u (K++[(i:Int)])).length:=by rw[qdq hu];exact hi
 have rdN':=fun n=>(qqk (n:=n) h' nf).2;have ix':qav PG 22 (qdo k 7 ((qcr t u (K++[(i:Int)])).map qa6)) (.int .i64 (i:Int))=some (.ptr k (i * 7)):=by rw[qch hes'];simp[qav,qbz hi']
 have hw':=fun n=>za8 (n:=n) h' hi' (u:Int) nf;have hes2:(qgy (qcr t u (K++[(i:Int)])) i (u:Int)).map qa6≠[]:=by simp[qgy]
 have h2:=h'.mono (jc m) (qbk (qgy (qcr t u (K++[(i:Int)])) i (u:Int)));have hfit:=fit_W (H:=⟨m,[[],VE pb pre k 7 ((qgy (qcr t u (K++[(i:Int)])) i (u:Int)).map qa6) post g]⟩) h2 (jc m) hes2 (qbk _) (by
  simp only[Heap.get,getFs];rw[nf pb h.lp,VE_p]) (by
  simp only[Heap.get,getFs];rw[nf k h.lk.1,VE_k h2 hes2]) (fun e he=>by have nd:=h.nd;rw[jr]at nd;have e1:pb≠e.1:=fun x=>nd.1 (ji.2 ⟨e,he,x.symm⟩);have e2:k≠e.1:=fun x=>h.lk.2 (by rw[x];exact jp _ (ji.2 ⟨e,he,rfl⟩));simp[Heap.get,getFs,VE,qci hes2,getF,qaw e1,qaw e2,qse nd.2 he])
 apply qR;simp[zS,rdN',ix',hw'];rw[<- hK];refine⟨_,rfl,_,_,?_,hfit⟩;simp[oneOr,qat,qaz]
theorem qrd{t:Tr} {x:Int} (hup:∀i:Int,isB t i=true->i < x->(qa0 t i).up < x):∀(n:Nat) (kid:Int),kid < x->qli t x n kid=false
 |0,kid,_=>rfl
 |n+1,kid,h=>by
  unfold qli;cases hb:isB t kid with
  |false=>simp
  |true=>have h1:¬ kid=x:=(by omega);simp only[if_true,if_neg h1];exact qrd hup n _ (hup kid hb h)
theorem qz8{t:Tr} {x kid:Int} (hup:∀i:Int,isB t i=true->i < x->(qa0 t i).up < x) (h:kid < x):qk6 t x kid=false:=by unfold qk6;rw[qrd hup _ _ h,Bool.and_false]
section
variable {m n pb k sz:Nat} {pre post es:List AV} {g f:List (Nat × Blk)}
theorem Eok.extra(h:Eok m pb pre k sz es post g) {m' q:Nat} {b:Blk} (hq:m<=q) (hm:q < m') (hb:SelfB m' b):Eok m' pb pre k sz es post (g++[(q,b)]) where
 lp:=by have:=h.lp;omega
 lk:=⟨by have:=h.lk.1;omega,fun hx=>by
  simp only[j3,jj,ye]at hx;rw[<- List.cons_append,jl]at hx;rcases hx with hx|hx
  ·exact h.lk.2 hx
  ·simp only[ju]at hx;have:=h.lk.1;omega⟩
 lg:=fun e he=>by
  rcases jl.1 he with he|he
  ·have:=h.lg e he;omega
  ·simp only[ju]at he;subst he;exact hm
 nd:=by
  simp only[j3,jj,ye];rw[<- List.cons_append,yb];refine⟨h.nd,by simp,fun a ha b hb=>?_⟩;simp only[ju]at hb;subst hb;rcases ja.1 ha with rfl|ha
  ·have:=h.lp;omega
  ·obtain⟨e,he,rfl⟩:=ji.1 ha;have:=h.lg e he;omega
 sg:=fun e he=>by
  rcases jl.1 he with he|he
  ·exact(h.sg e he).mono (by omega)
  ·simp only[ju]at he;subst he;exact hb
 sp:=fun σ hσ=>h.sp σ fun i hi=>hσ i (by omega)
 sq:=fun σ hσ=>h.sq σ fun i hi=>hσ i (by omega)
 el:=h.el
theorem rd_nodes(hf:getF pb f=none) :
  qb3 PG ⟨n,[f,VE pb pre k 7 es post g]⟩ 24 (.ptr pb pre.length)=some (.agg [qdo k 7 es])/\qb3 PG ⟨n,[f,VE pb pre k 7 es post g]⟩ 22 (.ptr pb pre.length)=some (qdo k 7 es):=by
 have hgv:Heap.get ⟨n,[f,VE pb pre k 7 es post g]⟩ pb=some (.cells (pre++qdo k 7 es::post)):=by simp only[Heap.get,getFs];rw[hf,VE_p]
 have gx:qcy (pre++qdo k 7 es::post) pre.length=some (qdo k 7 es):=by rw[qf4 (by simp),jv (by omega)];simp
 have sx:qek pre.length 1 (pre++qdo k 7 es::post)=some [qdo k 7 es]:=by simp[qek,qef]
 constructor
 ·simp[qb3,hgv,gx,sx,readCells,Blk.rd]
 ·simp[hgv,gx]
theorem qon{e:Nat × Blk}:(⟨n,[[e],VE pb pre k sz es post g]⟩ : Heap).ents.Perm (⟨n,[VE pb pre k sz es post (g++[e])]⟩ : Heap).ents:=by simp only[Heap.ents,je,js,jg,VE];have:∀l:List (Nat × Blk),([e]++l).Perm (l++[e]):=fun l=>yv;refine(this _).trans ?_;simp
end
def qhf(t:Tr) (u:Nat) (nd:Nd):Tr:=qgy (qcr (t++[fresh nd]) u ((qa0 t (u:Int)).kids++[(t.length:Int)])) t.length (u:Int)
structure UpOk (t:Tr):Prop where
 up:∀n,n∈t->n.up < (t.length:Int)
 kids:∀n,n∈t->n.kids.length<=t.length
theorem qo0{t:Tr} {nd:Nd} {u:Nat} (hu:u < t.length):qa0 (t++[nd]) (u:Int)=qa0 t (u:Int):=by rw[qba (by simp;omega),qba hu,j6 hu]
theorem qo1{t:Tr} {nd:Nd}:qa0 (t++[nd]) (t.length:Int)=nd:=by rw[qba (by simp)];simp
