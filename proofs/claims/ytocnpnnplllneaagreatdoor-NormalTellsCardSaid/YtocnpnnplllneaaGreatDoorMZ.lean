/- ref12.New; ref34.Tree. No condition. -/
import Derived.Test.YtocnpnnplllneaaGreatDoorMW
namespace Go.Proofs.YtocnpnnplllneaaGreatDoor
noncomputable section
set_option linter.unusedSimpArgs false
set_option linter.unusedVariables false
open Go Go.RowKit Go.ChangeShapes Go.WideShapes Go.ChangeAt
set_option maxRecDepth 100000
def rP(out:Tr) (k:Nat) (q:List Bool):List (Nat × Blk):=VE 0 [] k 7 (out.map qa3) [] [(1,.cells (bls q))]
section
variable {out:Tr} {m n k:Nat} {q:List Bool} {f:List (Nat × Blk)}
theorem qtd(k1:1 < k) (km:k < m):Eok m 0 [] k 7 (out.map qa3) [] [(1,.cells (bls q))] where
 lp:=by omega
 lk:=⟨km,by simp;omega⟩
 lg:=fun e he=>by simp at he;subst he;simp only;omega
 nd:=by simp
 sg:=fun e he=>by simp at he;subst he;exact qjo (qg1 q)
 sp:=fun σ hσ=>qak rfl
 sq:=fun σ hσ=>qak rfl
 el:=qbg out
theorem rP_0:getF 0 (rP out k q)=some (.cells [qcx k 7 (out.map qa3)]):=VE_p
theorem rP_k(k1:1 < k) (hne:out≠[]):getF k (rP out k q)=some (.cells (qa6 (out.map qa3))):=
 qx1 (qtd (m:=k+1) k1 (by omega)) (by simpa using hne)
theorem rP_1(k1:1 < k):getF 1 (rP out k q)=some (.cells (bls q)):=by
 unfold rP VE;have b0:Nat.beq 0 1=false:=rfl;cases out with
 |nil=>simp[getF,qdd]
 |cons x r=>rw[qbn (by simp)];simp[getF,qao (show k≠1 by omega)]
theorem zaq{pb:Nat} {pre post:List AV} {g:List (Nat × Blk)} {t:Tr} (h:Eok m pb pre k 7 (t.map qa3) post g) {i:Nat} (hi:i < t.length) (x:Str) (hf:∀j,j < m->getF j f=none) :
  writeVar PG ⟨n,[f,VE pb pre k 7 (t.map qa3) post g]⟩ 9 (.ptr k (i * 7+4)) (.str x)=some ⟨n,[f,VE pb pre k 7 ((qdg t i x).map qa3) post g]⟩:=by
 have hne:t.map qa3≠[]:=by intro e;have:=congrArg List.length e;simp at this;subst this;simp at hi
 have hne':(qdg t i x).map qa3≠[]:=by simp[qdg]
 have hk:getF k f=none:=hf k h.lk.1;have hg:Heap.get ⟨n,[f,VE pb pre k 7 (t.map qa3) post g]⟩ k=some (.cells (qa6 (t.map qa3))):=by simp only[Heap.get,getFs];rw[hk,qx1 h hne]
 have hs:Heap.set ⟨n,[f,VE pb pre k 7 (t.map qa3) post g]⟩ k (.cells (qa6 ((qdg t i x).map qa3)))=some ⟨n,[f,VE pb pre k 7 ((qdg t i x).map qa3) post g]⟩:=by have b1:Nat.beq pb k=false:=h.k_p;have hl:=qpe hi x;simp only[Heap.set,setFs];rw[qjp hk];unfold VE;rw[qbd hne,qbn hne,qbd hne',qbn hne'];simp[setF,setFs,b1,hl]
 unfold writeVar;simp[AV.cells,allSingle,AV.single,writeCells,hg,Blk.wt,qzs hi x,Heap.ready,refs,hs,Blk.re]
end
theorem zb8{t:Tr} {i:Nat} (h:i < t.length) {u:Int} (hu:(qa1 t (i:Int)).up=u):qey t i u=t:=by
 subst hu
 conv=>rhs;rw[qdn h]
 rfl
theorem qzb{t:Tr} {u:Nat} (hu:u < t.length) (ok:UpOk t) (nd:Nd) {a:Int} (ha:(t.length:Int)<=a):putT (t++[fresh nd]) (u:Int) a (t.length:Int)=qf5 t u nd:=by
 obtain⟨t1,ht1⟩ : ∃t1,t1=t++[fresh nd]:=⟨_,rfl⟩;have l1:t1.length=t.length+1:=by rw[ht1];simp
 have nu:qa1 t1 (u:Int)=qa1 t (u:Int):=by rw[ht1];exact qkn hu
 have nl:qa1 t1 (t.length:Int)=fresh nd:=by rw[ht1];exact qs1
 have hh:qg6 t1 (t.length:Int) (u:Int)=false:=qqc (fun i hi hlt=>by obtain⟨i0,i1⟩:=isB_iff.1 hi;obtain⟨j,rfl⟩ : ∃j:Nat,i=j:=⟨i.toNat,by omega⟩;rw[ht1,qkn (by omega)];exact ok.up _ (qb3 (by omega) (by omega))) (by omega);have b1:isB t1 (u:Int)=true:=isB_iff.2 ⟨by omega,by omega⟩;have b2:isB t1 (t.length:Int)=true:=isB_iff.2 ⟨by omega,by omega⟩;have b3:isB t1 (-1)=false:=by
  cases h:isB t1 (-1)with
  |false=>rfl
  |true=>have:=(isB_iff.1 h).1;omega
 have h0:¬ (t.length:Int)=0:=by omega
 have hput:zbe t1 (u:Int) (t.length:Int)=true:=by unfold zbe;rw[b1,b2,hh];simp;intro e;subst e;simp at hu
 have hpl:qgp t1 (t.length:Int) = -1:=by unfold qgp;rw[nl];have:(fresh nd).up = -1:=rfl;rw[this,b3];simp
 have hck:zck t1 (t.length:Int)=t1:=by unfold zck;rw[hpl];simp
 have hct:qqr t1 (t.length:Int)=t1:=by unfold qqr;rw[if_pos ⟨h0,b2⟩,hck,Int.toNat_natCast];exact zb8 (by omega) (by rw[nl];rfl)
 have hkl:(qa1 t (u:Int)).kids.length<=t.length:=ok.kids _ (qb3 (by omega) (by omega));rw[<- ht1];unfold putT;rw[if_pos hput,hct,nu,Int.toNat_natCast,Int.toNat_natCast];have hi:insP (qa1 t (u:Int)).kids a (t.length:Int)=(qa1 t (u:Int)).kids++[(t.length:Int)]:=by
  unfold insP;have:(min (max a 0) ((qa1 t (u:Int)).kids.length:Int)).toNat=(qa1 t (u:Int)).kids.length:=by omega
  rw[this];simp[qiy]
 rw[hi,ht1];rfl
set_option maxHeartbeats 1000000
section
variable {out:Tr} {m n k:Nat} {q:List Bool} {f:List (Nat × Blk)}
theorem zbw{N k' m':Nat} {σ:List (Nat × Nat)} (hσ:σ=[(k,k'),(0,0),(1,1)]) (hN:(k=k'\/N<=k')/\N<=m') (h':1 < k'/\k' < m') (k1:1 < k) (hne:out≠[]) {H:Heap} (h0:H.get 0=some (.cells [qcx k 7 (out.map qa3)])) (hk:H.get k=some (.cells (qa6 (out.map qa3)))) (h1:H.get 1=some (.cells (bls q))) (fs:List (List (Nat × Blk))) (hfs:fs.flatten=rP out k' q) :
  FitH N σ [] H ⟨m',fs⟩ where
 nd1:=by subst hσ;simp;omega
 nd2:=by subst hσ;simp;omega
 nd3:=by have:=qnr (qtd (out:=out) (q:=q) (m:=m') h'.1 h'.2);simp only[Heap.ents,hfs];exact this
 lt:=by subst hσ;simp;omega
 idn:=by subst hσ;obtain⟨h1,h2⟩:=hN;simp;omega
 num:=hN.2
 src:=fun e he=>by
  subst hσ;have hne':out.map qa3≠[]:=by simpa using hne
  simp only[Heap.ents,hfs,rP,VE,qbn hne',List.mem_cons,List.mem_append,List.not_mem_nil,or_false,List.cons_append,List.nil_append]at he;rcases he with rfl|rfl|rfl
  ·exact⟨0,_,by simp,h0,by rw[qbd hne',qbd hne'];simp[qi1,qax,qas,qb2]⟩
  ·exact⟨k,_,by simp,hk,qak (qbg out).pure⟩
  ·exact⟨1,_,by simp,h1,qak (qg1 q)⟩
 frz:=fun y hy=>by cases hy
end
theorem zgg{T:List (Entry PG)} (hX:qIn 59 T e59) (hC:qIn 44 T e44) (hP:qIn 45 T e45) (hS:qIn 30 T e30) (hH:qIn 31 T e31) (hW:qIn 33 T e33)
  {out:Tr} {P:List Nd} {up:Nat} {s:Str} {q:List Bool} (hs:s.length<=30000) (hu:up < out.length) (hn:out.length+1<=100000) (ok:UpOk out) (hda:∀n,n∈out->n.data.length<=1000000000) (hp:okP P) (hk:∀k,k∈(qa1 out up).kids->0<=k/\k < (out.length:Int)) :
  CA T 38 [.ptr 0 0,.int .i64 (up:Int),qaa P,.str s] ⟨3,[rP out 2 q]⟩ (.tup []) ⟨4,[rP (qef P up s out) 3 q]⟩:=by
 have hne:out≠[]:=by intro e;subst e;simp at hu
 have hm:=qtd (out:=out) (q:=q) (m:=3) (k:=2) (by omega) (by omega);have nf:∀j,j < 3->getF j ([]:List (Nat × Blk))=none:=fun _ _=>rfl;have rdT:=fun n=>(qeh (n:=n) hm nf).1;have rdN:=fun n=>(qeh (n:=n) hm nf).2;have hkg:∀n,Heap.get ⟨n,[[],rP out 2 q]⟩ 2=some (.cells (qa6 (out.map qa3))):=fun n=>by simp only[Heap.get,getFs];rw[nf 2 (by omega),rP_k (by omega) hne]
 have kX:=fun n=>q59 hX (qe2 hne (hkg n)) up s hu (by omega);have hdl:=qi3 _ s (Nat.le_refl _);have hx:(qgn out up s).length<=900000:=by unfold qgn;have:=qoj (qgu s);split<;>omega
 have kC:=fun H=>k44 hC P (qgn out up s) hp hx H;obtain⟨x,hxe⟩ : ∃x,x=qgn out up s:=⟨_,rfl⟩;obtain⟨b2,hb2⟩ : ∃b,b=qfv P x:=⟨_,rfl⟩;rw[<- hxe,<- hb2]at kC;rw[<- hxe]at kX hx;have e0:qef P up s out=if b2=true then qr8 out up x (qvy out up) else out:=by rw[hb2,hxe];unfold qef qr8;cases qvy out up<;>rfl
 rw[e0];clear e0 hdl hxe hb2;have ends:∀{n k:Nat} {t':Tr} {f:List (Nat × Blk)},1 < k->t'≠[]->(∀j,j=0\/j=1\/j=k->getF j f=none)->FitH 3 [(k,3),(0,0),(1,1)] [] ⟨n,[f,rP t' k q]⟩ ⟨4,[rP t' 3 q]⟩:=fun h1 h2 h3=>
  zbw rfl (by omega) (by omega) h1 h2 (by simp only[Heap.get,getFs];rw[h3 0 (by simp),rP_0]) (by simp only[Heap.get,getFs];rw[h3 _ (by simp),rP_k h1 h2]) (by simp only[Heap.get,getFs];rw[h3 1 (by simp),rP_1 h1]) _ (by simp)
 have ix:∀{i:Nat},i < out.length->qat PG 22 (qcx 2 7 (out.map qa3)) (.int .i64 (i:Int))=some (.ptr 2 (i * 7)):=fun hi=>by rw[qbd (by simpa using hne)];simp[qat,qbv hi]
 have rdK:∀n,qaw PG ⟨n,[[],rP out 2 q]⟩ 30 (.ptr 2 (up * 7+6))=some (qbc (qa1 out up).kids):=fun n=>by simp[hkg n,qqe hu]
 change ∀n,qaw PG ⟨n,[[],rP out 2 q]⟩ 24 (.ptr 0 0)=_ at rdT;change ∀n,qaw PG ⟨n,[[],rP out 2 q]⟩ 22 (.ptr 0 0)=_ at rdN;refine qa0 (s0:=⟨[0,1,2,3,8,9],[.ptr 0 0,.int .i64 (up:Int),qaa P,.str s,uD,uD],[],77,⟨3,[]::[rP out 2 q]⟩⟩) Tryz.func38 rfl rfl rfl ?_;apply ra;simp[zS,rdT,kX];apply ra;simp[zS,kC];cases b2 with
 |false=>apply qai rfl;apply qa5;simp[zQ,Tryz.f38];exact⟨_,_,by simp[qas,qax],ends (by omega) hne fun _ _=>rfl⟩
 |true=>
  apply qag rfl;apply qa4;simp only[qam];apply ra;simp[zS,rdN,ix hu,rdK];have lK:∀H,qf6 PG H 30 (qbc (qa1 out up).kids)=some (qa1 out up).kids.length:=fun H=>ql8;obtain⟨K,hK⟩ : ∃K,K=(qa1 out up).kids:=⟨_,rfl⟩;have eK:qvy out up=K.getLast?:=by rw[hK];rfl
  rw[eK];rw[<- hK]at lK hk;simp only[<- hK];have hkl:K.length<=out.length:=by rw[hK];exact ok.kids _ (qb3 (by omega) (by omega))
  have last:∀(K0:List Int) (kn:Nat),K=K0++[(kn:Int)]->kn < out.length/\wr .i64 (K0.length:Int)=some (K0.length:Int)/\qat PG 30 (qbc (K0++[(kn:Int)])) (.int .i64 (K0.length:Int))=some (.fptr [.int .i64 (kn:Int)] 0):=by
   rintro K0 kn rfl;obtain⟨q0,q1⟩:=hk (kn:Int) (by simp);refine⟨by omega,?_,by rw[atI (by simp)];simp⟩;have:=qt2 (q:=K0.length) (by simp at hkl;omega)
   rwa [show (((K0.length+1:Nat):Int) - 1)=(K0.length:Int) by omega]at this
  have rdKi:∀{kn:Nat},kn < out.length->∀n,qaw PG ⟨n,[[],rP out 2 q]⟩ 3 (.ptr 2 (kn * 7))=some (.int .i64 (qa1 out (kn:Int)).kind):=fun {kn} h n=>by have:=getm h (c:=0) (by omega);simp only[Nat.add_zero]at this;simp[hkg n,this,Nd.cs,qb9]
  by_cases hd:∃k,K.getLast? = some k/\(qa1 out k).kind=2
  ·obtain⟨k,hk1,hk2⟩:=hd;have ea:qr8 out up x K.getLast? = qdg out k.toNat ((qa1 out k).data++x):=(by rw[hk1];simp only[qr8,hk2,if_true];have:=(hk k (List.mem_of_getLast? hk1)).1;unfold qib qdg;rw[show ((k.toNat:Nat):Int)=k by omega]);rw[ea];clear ea;obtain⟨K0,e⟩:=List.getLast?_eq_some_iff.1 hk1;obtain⟨kn,rfl⟩ : ∃kn:Nat,k=(kn:Int):=⟨k.toNat,by have:=(hk k (List.mem_of_getLast? hk1)).1;omega⟩;obtain⟨hkn,hw,hat⟩:=last K0 kn e;clear last;subst e;have hl:(K0++[(kn:Int)]).length=K0.length+1:=(by simp);have hlp:(0:Int) < ((K0.length+1:Nat):Int):=(by omega);rw[hl]at lK;have hcat:=zgk (x:=(qa1 out (kn:Int)).data) (y:=x) (by have:=hda _ (qb3 (t:=out) (i:=(kn:Int)) (by omega) (by omega));omega);have hsb:wr .i64 ((K0.length:Int)+1 - 1)=some (K0.length:Int):=(by rwa [Int.add_sub_cancel]);have rk:=rdKi hkn;rw[hk2]at rk;repeat apply wq
   refine qc8 mixed qbf (by decide +kernel) fun B_ hB_=>?_;apply qi9 B_;simp[zS,qdl,qc6,qc3,qbk,qap,qb4,qaz,Heap.lay,qd9,qi7,qi6,qfa,qf9,qf7,qf8,qfo,qfc,qdv,qdw,qfi,qfh,qff,qfg,qfl,qfm,qfk,qfj,lK,hlp,hsb,hw,hat,ix hkn,rdN,rk];exact rfl;refine⟨_,rfl,?_,?_⟩;simp[zS,qbk,qap,qc7,qcl,qdy,lK,hlp,hsb,hw,hat,ix hkn,rdN,rk];simp[qc5,Heap.lay,qd9,qam];refine qai (by simp[qbp,St.get,qd5]) ?_;have rdD:∀n,qaw PG ⟨n,[[],rP out 2 q]⟩ 9 (.ptr 2 (kn * 7+4))=some (.str (qa1 out (kn:Int)).data):=fun n=>(by have:=getm hkn (c:=4) (by omega);simp[hkg n,this,Nd.cs]);have hwD:=fun n=>zaq (n:=n) hm hkn ((qa1 out (kn:Int)).data++x) nf;change ∀n,writeVar PG ⟨n,[[],rP out 2 q]⟩ 9 (.ptr 2 (kn * 7+4)) (.str ((qa1 out (kn:Int)).data++x))=some ⟨n,[[],rP (qdg out kn ((qa1 out (kn:Int)).data++x)) 2 q]⟩at hwD;have hm3:=qtd (out:=qdg out kn ((qa1 out (kn:Int)).data++x)) (q:=q) (m:=3) (k:=2) (by omega) (by omega);have rdN3:=fun n=>(qeh (n:=n) hm3 nf).2;change ∀n,qaw PG ⟨n,[[],rP (qdg out kn ((qa1 out (kn:Int)).data++x)) 2 q]⟩ 22 (.ptr 0 0)=_ at rdN3;repeat apply wq
   refine qc8 mixed qbf (by decide +kernel) fun B_ hB_=>?_;have hD_:ahead B_ 3 17=true/\ahead B_ 6 17=true/\ahead B_ 9 17=true/\ahead B_ 12 17=true/\ahead B_ 17 3=false/\ahead B_ 17 6=false/\ahead B_ 17 9=false/\ahead B_ 17 12=false:=(by rw[hB_];decide +kernel);apply qi9 B_;simp[zS,qdl,qc6,qc3,qbk,qap,qb4,qaz,Heap.lay,qd9,qi7,qi6,qfa,qf9,qf7,qf8,qfo,qfc,qdv,qdw,qfi,qfh,qff,qfg,qfl,qfm,qfk,qfj,hD_,lK,hlp,hsb,hw,hat,ix hkn,rdN,rdD,hcat,hwD,rdN3];exact rfl;refine⟨_,rfl,?_,?_⟩;simp[zS,qbk,qap,qc7,qcl,qdy,hD_,lK,hlp,hsb,hw,hat,ix hkn,rdN,rdD,hcat,hwD,rdN3];simp[qc5,Heap.lay,qd9,qam];apply qa5;simp[zQ,Tryz.f38];exact⟨_,_,by simp[qas,qax],ends (by omega) (by simp[qdg]) fun _ _=>rfl⟩
  ·have ea:qr8 out up x K.getLast? = qf5 out up ⟨2,0,[],[],x,0,[]⟩:=by
    cases hg:K.getLast? with
    |some k=>exact if_neg fun h=>hd ⟨k,hg,h⟩
    |none=>rfl
   rw[ea];clear ea;refine qp2 ((⟨[0,1,2,3,8,9],[.ptr 0 0,.int .i64 (up:Int),uD,.str x,uD,uD],[],77,⟨3,[[],rP out 2 q]⟩⟩ : St)) ?_ fun hj=>?_
   rotate_left
   ·have hfv:∀n,FitH 3 (idn 3) [] ⟨n,[[],rP out 2 q]⟩ ⟨3,[[],rP out 2 q]⟩:=fun n=>qwf hm (by omega) (by omega) fun i hi=>rfl;rcases List.eq_nil_or_concat K with rfl|⟨K0,k,e⟩
    ·repeat apply wq
     refine qc8 mixed qbf (by decide +kernel) fun B_ hB_=>?_;apply qi9 B_;simp[zS,qdl,qc6,qc3,qbk,qap,qb4,qaz,Heap.lay,qd9,qi7,qi6,qfa,qf9,qf7,qf8,qfo,qfc,qdv,qdw,qfi,qfh,qff,qfg,qfl,qfm,qfk,qfj,lK];exact rfl;refine⟨_,rfl,?_,?_⟩;simp[zS,qbk,qap,qc7,qcl,qdy,lK];simp[qc5,Heap.lay,qd9,qam];refine qag (by simp[qbp,St.get,qd5]) ?_;apply qa4;exact hj _ ⟨idn 3,[],rfl,rfl,rfl,by simp[qax,qas,qc1,qab],hfv _⟩
    ·rw[List.concat_eq_append]at e;obtain⟨kn,rfl⟩ : ∃kn:Nat,k=(kn:Int):=⟨k.toNat,by have:=(hk k (by rw[e];simp)).1;omega⟩;obtain⟨hkn,hw,hat⟩:=last K0 kn e;clear last;subst e;have hk2:¬ (qa1 out (kn:Int)).kind=2:=fun h=>hd ⟨_,by simp,h⟩;have hl:(K0++[(kn:Int)]).length=K0.length+1:=(by simp);have hlp:(0:Int) < ((K0.length+1:Nat):Int):=(by omega);rw[hl]at lK;have hsb:wr .i64 ((K0.length:Int)+1 - 1)=some (K0.length:Int):=(by rwa [Int.add_sub_cancel]);have rk:=rdKi hkn;repeat apply wq
     refine qc8 mixed qbf (by decide +kernel) fun B_ hB_=>?_;apply qi9 B_;simp[zS,qdl,qc6,qc3,qbk,qap,qb4,qaz,Heap.lay,qd9,qi7,qi6,qfa,qf9,qf7,qf8,qfo,qfc,qdv,qdw,qfi,qfh,qff,qfg,qfl,qfm,qfk,qfj,lK,hlp,hsb,hw,hat,ix hkn,rdN,rk,hk2];exact rfl;refine⟨_,rfl,?_,?_⟩;simp[zS,qbk,qap,qc7,qcl,qdy,lK,hlp,hsb,hw,hat,ix hkn,rdN,rk,hk2];simp[qc5,Heap.lay,qd9,qam];refine qag (by simp[qbp,St.get,qd5]) ?_;apply qa4;exact hj _ ⟨idn 3,[],rfl,rfl,rfl,by simp[qax,qas,qc1,qab],hfv _⟩
   clear last hd;obtain⟨nd,hnd⟩ : ∃nd:Nd,nd=⟨2,0,[],[],x,0,[]⟩:=⟨_,rfl⟩;have hadd0:=(c18 (T:=T) hm (by omega) nd (by rw[hnd];simp)).perm (H2:=⟨3,[[],rP out 2 q]⟩) (H2':=⟨4,[[],rP (out++[fresh nd]) 3 q]⟩) rfl rfl (by simp[Heap.ents,rP]) (by simp[Heap.ents,rP]);have hadd:CA T 18 [.ptr 0 0,.agg [.int .i64 2,.int .i64 0,.str [],.nilS,.str x,.int .i64 0,.nilS]] ⟨3,[[],rP out 2 q]⟩ (.int .i64 (out.length:Int)) ⟨4,[[],rP (out++[fresh nd]) 3 q]⟩:=
    hadd0.nilD hm (by simp[hnd,qax,qas,qc1 hm.lp,qab,qa3,Nd.cs,qb9,qbc,qaf])
   have bld:qgq PG 34 [(0,.int .i64 2),(4,.str x)]=some (.agg [.int .i64 2,.int .i64 0,.str [],.nilS,.str x,.int .i64 0,.nilS]):=rfl;have hput0:=fun(t1:Tr) (ht1:t1=out++[fresh nd])=>ht1;obtain⟨t1,ht1⟩ : ∃t1,t1=out++[fresh nd]:=⟨_,rfl⟩;have l1:t1.length=out.length+1:=(by rw[ht1];simp);have hm4:=qtd (out:=t1) (q:=q) (m:=4) (k:=3) (by omega) (by omega);have hne1:t1≠[]:=(by rw[ht1];simp);have hpl:=qzb hu ok nd (a:=((out.length+1:Nat):Int)) (by omega);have hkl1:qjy t1 999999:=fun n hn=>by
    rw[ht1]at hn;rcases List.mem_append.1 hn with h|h
    ·have:=ok.kids n h;omega
    ·simp at h;subst h;simp[fresh]
   rw[<- ht1]at hadd hpl;clear hput0;repeat apply wq
   refine qah (qbh [⟨18,_,_,_,_,hadd⟩]) ?_;simp[zS,qcc,bld];have nf4:∀j,j < 4->getF j ([]:List (Nat × Blk))=none:=fun _ _=>rfl;have rdN4:=fun n=>(qeh (n:=n) hm4 nf4).2;change ∀n,qaw PG ⟨n,[[],rP t1 3 q]⟩ 22 (.ptr 0 0)=_ at rdN4;have ln:∀H,qf6 PG H 22 (qcx 3 7 (t1.map qa3))=some (out.length+1):=fun H=>(by rw[qbd (by simpa using hne1)];simp[qf6,l1]);have hput:=(c17 (T:=T) hP hS hH hW hm4 hne1 (by omega) hkl1 (up:Int) ((out.length+1:Nat):Int) (out.length:Int)).perm (H2:=⟨4,[[],rP t1 3 q]⟩) (H2':=⟨4,[[],rP (qf5 out up nd) 3 q]⟩) rfl rfl (by simp[Heap.ents,rP]) (by rw[hpl];simp[Heap.ents,rP]);change CA T 17 [.ptr 0 0,_,_,_] _ _ _ at hput;have e1:((out.length+1:Nat):Int)=(out.length:Int)+1:=(by omega);rw[e1]at hput;rw[<- hnd];refine qah (qbh [⟨17,_,_,_,_,hput⟩]) ?_;simp[zS,qcc,rdN4,ln];simp[zQ,Tryz.f38];exact⟨_,_,by simp[qas,qax],ends (by omega) (by simp[qf5,qey]) fun _ _=>rfl⟩
def goD(rec:List Nd->Int->Nat->Tr->List Bool->Tr × List Bool) (t:Tr) (P:List Nd) (up:Nat):List Int->Tr->List Bool->Tr × List Bool
 |[],out,q=>(out,q)
 |k::r,out,q=>
  if 0<=k/\k < (t.length:Int)/\q.getD k.toNat true=false then
   if (qa1 t k).kind=2 then goD rec t P up r (qef P up (qa1 t k).data out) (q.set k.toNat true)
   else if (qa1 t k).kind=1 then
    if qny P (elN (qa1 t k))=true then
     goD rec t P up r (rec (P++[elN (qa1 t k)]) k out.length (qf5 out up (elN (qa1 t k))) q).1 (rec (P++[elN (qa1 t k)]) k out.length (qf5 out up (elN (qa1 t k))) q).2
    else goD rec t P up r (rec P k up out q).1 (rec P k up out q).2
   else goD rec t P up r out (q.set k.toNat true)
  else goD rec t P up r out q
def qn6:Nat->Tr->List Nd->Int->Nat->Tr->List Bool->Tr × List Bool
 |0,_,_,_,_,out,q=>(out,q)
 |f+1,t,P,i,up,out,q=>goD (qn6 f t) t P up (qa1 t i).kids out (q.set i.toNat true)
structure InD (n:Nat) (out:Tr) (q:List Bool) (D:Nat) (out':Tr) (q':List Bool):Prop where
 mo:MoOk out' (D+90000 * (qfp q - qfp q'))
 le:out.length<=out'.length
 un:qfp q'<=qfp q
 ln:out'.length+qfp q'<=out.length+qfp q
 ql:q'.length=n
theorem InD.trans{n:Nat} {o1 o2 o3:Tr} {q1 q2 q3:List Bool} {D:Nat} (a:InD n o1 q1 D o2 q2) (b:InD n o2 q2 (D+90000 * (qfp q1 - qfp q2)) o3 q3):InD n o1 q1 D o3 q3 where
 mo:=by have:=b.mo;have h1:=a.un;have h2:=b.un;rw[show D+90000 * (qfp q1 - qfp q3)=D+90000 * (qfp q1 - qfp q2)+90000 * (qfp q2 - qfp q3) by omega];exact this
 le:=Nat.le_trans a.le b.le
 un:=Nat.le_trans b.un a.un
 ln:=Nat.le_trans b.ln a.ln
 ql:=b.ql
theorem InD.refl{n:Nat} {o:Tr} {q:List Bool} {D:Nat} (h:MoOk o D) (hq:q.length=n):InD n o q D o q:=⟨by simpa using h,Nat.le_refl _,Nat.le_refl _,Nat.le_refl _,hq⟩
section
variable {t:Tr}
theorem qsa(hv:LookOk t) {F:Nat} {rec:List Nd->Int->Nat->Tr->List Bool->Tr × List Bool}
  (hrec:∀P k up out q D,0<=k->k < (t.length:Int)->q.length=t.length->q.getD k.toNat true=false->qfp q<=F->MoOk out D->up < out.length->InD t.length out q D (rec P k up out q).1 (rec P k up out q).2/\(rec P k up out q).1.length+qfp (rec P k up out q).2+1<=out.length+qfp q) (P:List Nd) (up:Nat) :
  ∀(K:List Int) (out:Tr) (q:List Bool) (D:Nat),q.length=t.length->qfp q<=F->MoOk out D->up < out.length->InD t.length out q D (goD rec t P up K out q).1 (goD rec t P up K out q).2
 |[],out,q,D,hq,hF,h,hu=>.refl h hq
 |k::r,out,q,D,hq,hF,h,hu=>by
  unfold goD;split
  ·rename_i hk;obtain⟨k0,k1,k2⟩:=hk;have hs:=qev k2;have hdl:=hv.d _ (qb3 k0 k1);split
   ·obtain⟨m1,m2,m3⟩:=qor (P:=P) h hu hdl;have a:InD t.length out q D (qef P up (qa1 t k).data out) (q.set k.toNat true):=⟨by rw[show qfp q - qfp (q.set k.toNat true)=1 by omega];simpa using m1,m2,by omega,by omega,by simpa using hq⟩;exact a.trans (qsa hv hrec P up r _ _ _ (by simpa using hq) (by omega) a.mo (by omega))
   ·split
    ·split
     ·have hl:=qgy out hu (elN (qa1 t k));have mp:=qvn h hu (n:=elN (qa1 t k)) (Nat.zero_le _);obtain⟨b,b2⟩:=hrec (P++[elN (qa1 t k)]) k out.length (qf5 out up (elN (qa1 t k))) q D k0 k1 hq k2 hF mp (by omega);have a:InD t.length out q D (rec (P++[elN (qa1 t k)]) k out.length (qf5 out up (elN (qa1 t k))) q).1 (rec (P++[elN (qa1 t k)]) k out.length (qf5 out up (elN (qa1 t k))) q).2:=
       ⟨b.mo,by have:=b.le;omega,b.un,by omega,b.ql⟩
      exact a.trans (qsa hv hrec P up r _ _ _ a.ql (by have:=a.un;omega) a.mo (by have:=a.le;omega))
     ·obtain⟨a,a2⟩:=hrec P k up out q D k0 k1 hq k2 hF h hu;exact a.trans (qsa hv hrec P up r _ _ _ a.ql (by have:=a.un;omega) a.mo (by have:=a.le;omega))
    ·have a:InD t.length out q D out (q.set k.toNat true):=⟨qiv h (by omega),Nat.le_refl _,by omega,by omega,by simpa using hq⟩;exact a.trans (qsa hv hrec P up r _ _ _ (by simpa using hq) (by omega) a.mo hu)
  ·exact qsa hv hrec P up r out q D hq hF h hu
theorem qto(hv:LookOk t):∀(f:Nat) (P:List Nd) (i:Int) (up:Nat) (out:Tr) (q:List Bool) (D:Nat),0<=i->i < (t.length:Int)->q.length=t.length->q.getD i.toNat true=false->qfp q<=f->MoOk out D->up < out.length ->
  InD t.length out q D (qn6 f t P i up out q).1 (qn6 f t P i up out q).2/\(qn6 f t P i up out q).1.length+qfp (qn6 f t P i up out q).2+1<=out.length+qfp q
 |0,P,i,up,out,q,D,_,_,_,hs,hf,_,_=>by have:=qev hs;omega
 |f+1,P,i,up,out,q,D,i0,i1,hq,hs,hf,h,hu=>by have hu1:=qev hs;have b:=qsa hv (F:=f) (rec:=qn6 f t) (fun P k up out q D a b c d e g h=>qto hv f P k up out q D a b c d e g h) P up (qa1 t i).kids out (q.set i.toNat true) D (by simpa using hq) (by omega) h hu;have b1:=b.un;have b2:=b.ln;unfold qn6;exact⟨⟨qiv b.mo (by omega),b.le,by omega,by omega,b.ql⟩,by omega⟩
end
set_option maxHeartbeats 1000000
section
variable {out out':Tr} {m n k:Nat} {q q':List Bool} {f fr:List (Nat × Blk)}
theorem qu2(hne:out≠[]):∀e,e∈rP out k q->e=(0,.cells [qcx k 7 (out.map qa3)])\/e=(k,.cells (qa6 (out.map qa3)))\/e=(1,.cells (bls q)):=by
 have hne':out.map qa3≠[]:=by simpa using hne
 intro e he;simpa[rP,VE,qbn hne']using he
theorem mem_rP(hne:out≠[]):(0,Blk.cells [qcx k 7 (out.map qa3)])∈rP out k q/\(k,Blk.cells (qa6 (out.map qa3)))∈rP out k q/\(1,Blk.cells (bls q))∈rP out k q:=by
 have hne':out.map qa3≠[]:=by simpa using hne
 simp[rP,VE,qbn hne']
theorem zfe{b:Nat} (h:∀e,e∈fr->e.1≠b):getF b fr=none:=qxz fun hx=>by obtain⟨e,he,hh⟩:=List.mem_map.1 hx;exact h e he hh
theorem qu8{C:Ctx} {f:FuncId} {args:List AV} (h:CallAt C f args ⟨3,[rP out 2 q]⟩ (.tup []) ⟨4,[rP out' 3 q']⟩) (ha:qax [(k,2),(0,0),(1,1)] [] args args) (k1:1 < k) (hk:k < n) (hne:out≠[]) (hne':out'≠[]) (hfr:∀e,e∈fr->e.1≠0/\e.1≠1/\e.1≠k) :
  CallAt C f args ⟨n,[fr,rP out k q]⟩ (.tup []) ⟨n+1,[fr,rP out' n q']⟩:=by
 have fh:FitH 0 [(k,2),(0,0),(1,1)] [] ⟨n,[fr,rP out k q]⟩ ⟨3,[rP out 2 q]⟩:=zbw rfl (by omega) (by omega) k1 hne
  (by simp only[Heap.get,getFs];rw[zfe fun e he=>(hfr e he).1,rP_0]) (by simp only[Heap.get,getFs];rw[zfe fun e he=>(hfr e he).2.2,rP_k k1 hne]) (by simp only[Heap.get,getFs];rw[zfe fun e he=>(hfr e he).2.1,rP_1 k1]) _ (by simp)
 have:=h.framed (H':=⟨n+1,[fr,rP out' n q']⟩) (args:=args) fh ha ?_ (by simp)
 ·simpa[qja,qho]using this
 ·have e0:qje [(k,2),(0,0),(1,1)] n 3 0=0:=by simp[qje,qf1]
  have e1:qje [(k,2),(0,0),(1,1)] n 3 1=1:=by simp[qje,qf1]
  have e3:qje [(k,2),(0,0),(1,1)] n 3 3=n:=by simp[qje,qf1]
  refine⟨by simp,?_,?_⟩
  ·intro nd lt;have nd2:=qnr (qtd (out:=out') (q:=q') (m:=n+1) (k:=n) (by omega) (by omega));simp only[Heap.ents,List.flatten_cons,List.flatten_nil,List.append_nil,List.map_append]at nd ⊢;rw[List.nodup_append]at nd ⊢;refine⟨nd.1,nd2,fun a ha b hb=>?_⟩;obtain⟨e,he,rfl⟩:=List.mem_map.1 ha;obtain⟨e2,he2,rfl⟩:=List.mem_map.1 hb;have l1:=lt e (by simp[Heap.ents,he]);have l2:=hfr e he;simp only at l1;rcases qu2 hne' e2 he2 with rfl|rfl|rfl
   ·exact l2.1
   ·simp only;omega
   ·exact l2.2.1
  ·intro e he;simp only[Heap.ents,List.flatten_cons,List.flatten_nil,List.append_nil,List.mem_append]at he ⊢;rcases he with he|he
   ·refine .inr ⟨.inl he,fun x hx=>?_⟩;have:=hfr e he;simp at hx;rcases hx with rfl|rfl|rfl
    ·exact fun h=>this.2.2 h.symm
    ·exact fun h=>this.1 h.symm
    ·exact fun h=>this.2.1 h.symm
   ·obtain⟨m0,mk,m1⟩:=mem_rP (k:=3) (q:=q') hne';have hne'':out'.map qa3≠[]:=(by simpa using hne');rcases qu2 hne' e he with rfl|rfl|rfl
    ·refine .inl ⟨_,m0,?_⟩;rw[qbd hne'',qbd hne''];simp[qn0,qho,qja,e0,e3]
    ·refine .inl ⟨_,mk,?_⟩;simp only[qn0,e3,qcd _ (qbg out').pure]
    ·refine .inl ⟨_,m1,?_⟩;simp only[qn0,e1,qcd _ (qg1 q')]
theorem zdj(k1:1 < k) (j:Nat):setF 1 (.cells (bls (q.set j true))) (rP out k q)=some (rP out k (q.set j true)):=by
 unfold rP VE;cases out with
 |nil=>simp[setF,qdd]
 |cons x r=>rw[qbn (by simp)];simp[setF,qao (show k≠1 by omega)]
end
theorem FitH.more{n:Nat} {σ:List (Nat × Nat)} {Φ:List (Nat × List AV)} {H H':Heap} (h:FitH n σ [] H H') (nd:(σ.map (·.1)++Φ.map (·.1)).Nodup) (fz:∀x,x∈Φ->H.get x.1=some (.cells x.2)/\qa9 x.2=true):FitH n σ Φ H H' where
 nd1:=nd
 nd2:=h.nd2
 nd3:=h.nd3
 lt:=h.lt
 idn:=h.idn
 num:=h.num
 src:=fun e he=>by obtain⟨b,k,h1,h2,h3⟩:=h.src e he;exact⟨b,k,h1,h2,qmt h3⟩
 frz:=fun x hx=>⟨x.2,(fz x hx).1,qak (fz x hx).2,(fz x hx).2⟩
theorem qwu{C:Ctx} {f:FuncId} {t out P:Tr} {k up:Int} {n N b c l:Nat} {q:List Bool} {fr:List (Nat × Blk)} {H':Heap} (hl:l=P.length) (h1:1 < c) (hc:c < N) (hbc:b≠c/\b≠0/\b≠1) (hne:out≠[]) (hb:getF b fr=some (.cells (qa6 (P.map qa3)))) (hfr:∀j,j=0\/j=1\/j=c->getF j fr=none)
  (h:CallAt C f [qav t,.int .i64 k,.ptr 0 0,.int .i64 up,qaa P,.slc 1 0 n (.ex n)] ⟨N,[[],rP out c q]⟩ (.tup []) H') :
  CallAt C f [qav t,.int .i64 k,.ptr 0 0,.int .i64 up,.slc b 0 l (.rest 7),.slc 1 0 n (.ex n)] ⟨N,[fr,rP out c q]⟩ (.tup []) H':=by
 subst hl;have hel:=qbg P;have hl:=hel.len;rw[List.length_map]at hl;refine h.drop (σ:=[(c,c),(0,0),(1,1)]) (Φ:=[(b,qa6 (P.map qa3))]) (fun _=>FitH.more (zbw (q:=q) rfl ⟨.inl rfl,Nat.le_refl _⟩ ⟨h1,hc⟩ h1 hne ?_ ?_ ?_ _ (by simp)) ?_ ?_) ?_
 ·simp only[Heap.get,getFs];rw[hfr 0 (by simp),rP_0]
 ·simp only[Heap.get,getFs];rw[hfr c (by simp),rP_k h1 hne]
 ·simp only[Heap.get,getFs];rw[hfr 1 (by simp),rP_1 h1]
 ·obtain⟨a1,a2,a3⟩:=hbc;simp;omega
 ·intro x hx;simp at hx;subst hx;exact⟨by simp only[Heap.get,getFs];rw[hb],hel.pure⟩
 ·have hv:qas [(c,c),(0,0),(1,1)] [(b,qa6 (P.map qa3))] (.slc b 0 P.length (.rest 7)) (qaa P):=by simp only[qaa,qas,qca,if_true];refine .inl ⟨_,rfl,?_,by simp,hel.size⟩;unfold qex;rw[List.drop_zero,<- hl,qco]
  have ht:qas [(c,c),(0,0),(1,1)] [(b,qa6 (P.map qa3))] (qav t) (qav t):=qb5 (by simp);have c0:¬ c=0:=by omega
  have c1:¬ c=1:=by omega
  simp only[qax,and_true];exact⟨ht,qb5 rfl,by simp[qas,qb2,c0],qb5 rfl,hv,by simp[qas,qb2,c1]⟩
theorem app_new1{m b c:Nat} {cs:List AV} {R:List (List (Nat × Blk))} (hcl:cs.length=7) (hq:allSingle cs=true) (hbc:c≠b) :
  qbz PG ⟨m,[(c,.cells cs),(b,.cells [])]::R⟩ 34 (.slc b 0 0 (.ex 0)) (.slc c 0 1 (.ex 1))=some (.slc m 0 1 (.rest 7),⟨m+1,[(m,.cells cs),(c,.cells cs),(b,.cells [])]::R⟩):=by
 have hrow:∀cs,qom PG 34 cs=.cells cs:=by intro cs;rfl
 have htk:qew 7 cs=some cs:=by rw[<- hcl];exact qco cs
 obtain⟨by_,hby⟩ : ∃b,qcq PG 34=some b:=⟨_,qub⟩;have hbv:0 < by_/\by_<=1000:=by have:=hby.symm.trans qub;simp at this;omega
 obtain⟨zz,hzz,hzl⟩ : ∃b,qc0 PG 34=some b/\b.cells.length=7:=⟨_,qx5,rfl⟩;have hb1:Nat.blt 0 by_=true:=by simp;omega
 have hr:qcw 1 by_=true:=by unfold qcw;rw[Nat.ble_eq];omega
 have q1:Nat.beq c b=false:=qao hbc;unfold qbz;simp[qt0,hby,hzz,hzl,qc9,hb1,hr,qba,readCells,zG,qex,htk,hcl,hrow,Heap.new,pushF,hq,q1]
set_option maxHeartbeats 2000000
structure PuT (T:List (Entry PG)):Prop where
 x:qa8 59 T=some e59.g
 c:qa8 44 T=some e44.g
 p:qa8 45 T=some e45.g
 s:qa8 30 T=some e30.g
 h:qa8 31 T=some e31.g
 w:qa8 33 T=some e33.g
 a:qa8 39 T=some e39.g
 m:qa8 40 T=some e40.g
theorem zds{T:List (Entry PG)} (hT:PuT T) {t:Tr} (hv:LookOk t) (htl:t.length<=1000000):∀(f:Nat) (i:Nat) (P:List Nd) (up:Nat) (out:Tr) (q:List Bool) (D:Nat),i < t.length->q.length=t.length->q.getD i true=false->qfp q<=f->MoOk out D->up < out.length ->
  okP P->P.length+f<=1000->out.length+qfp q<=90001->D+90000 * qfp q<=1000000000 ->
  CA T 23 [qav t,.int .i64 (i:Int),.ptr 0 0,.int .i64 (up:Int),qaa P,.slc 1 0 t.length (.ex t.length)] ⟨3,[rP out 2 q]⟩ (.tup []) ⟨4,[rP (qn6 f t P i up out q).1 3 (qn6 f t P i up out q).2]⟩
 |0,i,P,up,out,q,D,hi,hq,hs,hf,_,_,_,_,_,_=>by have:=qev hs;omega
 |f+1,i,P,up,out,q,D,hi,hq,hs,hf,hmo,hu,hp,hlen,hN,hD=>by
  have ih:=zds hT hv htl f;have hun:=qev hs;have hne:out≠[]:=by intro e;subst e;simp at hu
  have hix:=atX (t:=t) (i:=(i:Int)) (by omega) (by omega);obtain⟨hkl,hkr⟩:=hv.k _ (qb3 (t:=t) (i:=(i:Int)) (by omega) (by omega));obtain⟨K,hK⟩ : ∃K,K=(qa1 t i).kids:=⟨_,rfl⟩;have gk:qck (qa1 t i).cs 6=some (qbc K):=by rw[hK];rfl
  rw[<- hK]at hkl hkr;obtain⟨R,hR⟩ : ∃R,R=goD (qn6 f t) t P up K out (q.set i true):=⟨_,rfl⟩;have eR:qn6 (f+1) t P i up out q=R:=by rw[hR,hK];rfl
  rw[eR];clear eR hK;have hly:qh7 [.bool true] i (bls q)=some (bls (q.set i true)):=layB (by omega);have hxi:=ixB (b:=1) (cap:=.ex t.length) hi;have r1:=rP_1 (out:=out) (k:=2) (q:=q) (by omega);have s1:=zdj (out:=out) (k:=2) (q:=q) (by omega) i;have b1:Nat.beq 3 1=false:=rfl;generalize (qa1 t i).cs=ics at *;refine qa0 (s0:=⟨[0,1,2,3,4,5,6,12,13,14,15],[qav t,.int .i64 (i:Int),.ptr 0 0,.int .i64 (up:Int),qaa P,.slc 1 0 t.length (.ex t.length),uD,uD,uD,uD,uD],[],116,⟨3,[]::[rP out 2 q]⟩⟩) Tryz.func23 rfl rfl rfl ?_;apply ra;simp[zS,qav];apply ra;simp[zS,hly,hxi,r1,s1];apply ra;simp[zS];have hq1:(q.set i true).length=t.length:=by simpa using hq
  have hD1:D+90000 * qfp (q.set i true)<=1000000000:=by omega
  have hN1:out.length+qfp (q.set i true)<=90000:=by omega
  have hF1:qfp (q.set i true)<=f:=by omega
  clear hly hxi r1 s1 hun hs hq hD hN hf;refine qa7 (qb1 (fun x:Nat × Tr × List Bool=>(⟨[0,1,2,3,4,5,6,12,13,14,15],[uD,.int .i64 (i:Int),.ptr 0 0,.int .i64 (up:Int),qaa P,.slc 1 0 t.length (.ex t.length),.fptr [qaa t] 0,.int .i64 (x.1:Int),uD,uD,uD],[],116,⟨4,[[],rP x.2.1 3 x.2.2]⟩⟩ : St))
   (fun x=>x.1<=K.length/\x.2.2.length=t.length/\qfp x.2.2<=f/\up < x.2.1.length/\x.2.1.length+qfp x.2.2<=90000/\(∃D',MoOk x.2.1 D'/\D'+90000 * qfp x.2.2<=1000000000)/\goD (qn6 f t) t P up (K.drop x.1) x.2.1 x.2.2=R) (fun x=>K.length - x.1) [(2,3),(0,0),(1,1)] [(3,[qaa t])] (0,out,q.set i true)
   ⟨Nat.zero_le _,hq1,hF1,hu,hN1,⟨D,hmo,hD1⟩,hR.symm⟩ ⟨rfl,rfl,rfl,?_,?_⟩ ?_)
  ·simp[qax,qas,qb2,qca,qab,qa9]
  ·have r0:=rP_0 (out:=out) (k:=2) (q:=q.set i true);have rk:=rP_k (out:=out) (k:=2) (q:=q.set i true) (by omega) hne;have r1:=rP_1 (out:=out) (k:=2) (q:=q.set i true) (by omega);have hN:=qdh t;refine FitH.more (zbw (q:=q.set i true) rfl (by omega) (by omega) (by omega) hne ?_ ?_ ?_ _ (by simp)) (by simp) ?_
   ·simp[zG,r0]
   ·simp[zG,rk]
   ·simp[zG,r1]
   ·intro x hx;simp at hx;subst hx;exact⟨by simp[zG],by simp[qa9]⟩
  clear hR hq1 hD1 hN1 hF1 hmo hu hne;rintro⟨j,ot,s⟩ ⟨hj,hsl,hsf,hu,hN,⟨D',hmo,hD⟩,hx⟩ B hB;simp only at hj hsl hsf hu hN hmo hD hx ⊢;have hrnd:∀{n k:Nat} {o:Tr} {q:List Bool} {f:List (Nat × Blk)},1 < k->o≠[]->getF 0 f=none->getF 1 f=none->getF k f=none->FitH 3 [(k,3),(0,0),(1,1)] [] ⟨n,[f,rP o k q]⟩ ⟨4,[[],rP o 3 q]⟩:=fun h1 h2 h3 h4 h5=>
   zbw rfl (by omega) (by omega) h1 h2 (by simp only[Heap.get,getFs];rw[h3,rP_0]) (by simp only[Heap.get,getFs];rw[h5,rP_k h1 h2]) (by simp only[Heap.get,getFs];rw[h4,rP_1 h1]) _ (by simp)
  have lenT:∀H,qf6 PG H 22 (qaa t)=some t.length:=fun H=>by simp[qf6]
  have hne:ot≠[]:=by intro e;subst e;simp at hu
  by_cases h:j < K.length
  ·have hc:(j:Int) < (K.length:Int):=(by omega);have hik:=atI h;have hkm:=List.getElem_mem h;rw[List.drop_eq_getElem_cons h]at hx;unfold goD at hx;obtain⟨k0,k1⟩:=hkr _ hkm;have hac:=qbb (show j<=1000000000 by omega);generalize K[j]=k at *;obtain⟨kn,rfl⟩ : ∃kn:Nat,k=(kn:Int):=⟨k.toNat,by omega⟩;have kl:kn < t.length:=(by omega);have hixk:=atX k0 k1;have kneg:¬ (kn:Int) < 0:=(by omega);have kge:¬ (kn:Int) >= (t.length:Int):=(by omega);have kge2:¬ (t.length:Int)<=(kn:Int):=(by omega);simp only[Int.toNat_natCast]at hx;have r1:=rP_1 (out:=ot) (k:=3) (q:=s) (by omega);have hxk:=ixB (b:=1) (cap:=.ex t.length) kl;have hgb:=getB (s:=s) (i:=kn) (by omega);have hks:s.getD kn true=s[kn]'(by omega):=(by simp[List.getD,show kn < s.length by omega]);rw[<- hks]at hgb;apply ra;simp[zS,hix,gk,ql8,hc,h];refine qai (by simp[qbp,St.get,qd5,h]) ?_;apply qa4;simp only[qam];repeat apply wq
   apply qa7;apply ra;simp[zS,hix,gk,hik];cases k2:s.getD kn true with
   |true=>rw[k2]at hgb;rw[if_neg (by rw[k2];simp)]at hx;apply ra;simp[zS,lenT,kneg,kge,kge2,r1,hxk,hgb];refine qai (by simp[qbp,St.get,qd5]) ?_;apply qar;simp only[qam,qgk,if_true];apply ra;simp[zS,hac];exact hB _ (j+1,ot,s) (by simp only;omega) ⟨by simp only;omega,hsl,hsf,hu,hN,⟨D',hmo,hD⟩,hx⟩ ⟨[(3,3),(0,0),(1,1)],[],rfl,rfl,rfl,by simp[qax,qas,qb2,qab,qa9],hrnd (by omega) hne rfl rfl rfl⟩
   |false=>
    rw[k2]at hgb;rw[if_pos ⟨k0,k1,k2⟩]at hx;have hsu:=qev k2;apply ra;simp[zS,lenT,kneg,kge,kge2,r1,hxk,hgb];refine qag (by simp[qbp,St.get,qd5]) ?_;apply qa4;simp only[qam];have hm:qa1 t (kn:Int)∈t:=qb3 k0 k1;have hdl:=hv.d _ hm;have hee:=hv.e _ hm;have hmm:=hv.m _ hm;apply ra;simp[zS,hixk,qaq];obtain⟨x,hxn⟩ : ∃x,x=qa1 t (kn:Int):=⟨_,rfl⟩;rw[<- hxn]at hx hdl hee hmm hixk ⊢;have e0:qck x.cs 0=some (.int .i64 x.kind):=rfl;have e4:qck x.cs 4=some (.str x.data):=rfl;have hly:qh7 [.bool true] kn (bls s)=some (bls (s.set kn true)):=layB (by omega);have hs1:(s.set kn true).length=t.length:=(by simpa using hsl);clear hgb r1 hks;apply ra;simp[zS,e0];by_cases q2:x.kind=2
    ·rw[if_pos q2]at hx;have hch:=zgg hT.x hT.c hT.p hT.s hT.h hT.w (q:=s) (P:=P) (s:=x.data) hdl hu (by omega) hmo.up (fun n hn=>by have:=hmo.da n hn;omega) hp (fun q hq=>hmo.kd _ (qb3 (by omega) (by omega)) q hq);obtain⟨m1,m2,m3⟩:=qor (P:=P) hmo hu hdl;have hne2:qef P up x.data ot≠[]:=(by intro e;rw[e]at m2;simp at m2;exact hne m2);have hcc:=qu8 (n:=5) (k:=3) (fr:=[(4,.cells x.cs)]) hch (by simp[qax,qas,qb2,qab]) (by omega) (by omega) hne hne2 (by simp);generalize qef P up x.data ot=o2 at *;have r1:=rP_1 (out:=o2) (k:=5) (q:=s) (by omega);have s1:=zdj (out:=o2) (k:=5) (q:=s) (by omega) kn;refine qai (by simp[qbp,St.get,qd5,q2]) ?_;repeat apply wq
     refine qah (qbh [⟨38,_,_,_,_,hcc⟩]) ?_;simp[zS,qcc,e4];apply ra;simp[zS,hly,hxk,r1,s1];apply qar;simp only[qam,qgk,if_true];apply ra;simp[zS,hac];exact hB _ (j+1,o2,s.set kn true) (by simp only;omega) ⟨by simp only;omega,hs1,by simp only;omega,by simp only;omega,by simp only;omega,⟨_,m1,by simp only;omega⟩,hx⟩ ⟨[(5,3),(0,0),(1,1)],[],rfl,rfl,rfl,by simp[qax,qas,qb2,qab,qa9],hrnd (by omega) hne2 (by simp[getF]) (by simp[getF]) (by simp[getF])⟩
    ·rw[if_neg q2]at hx;refine qag (by simp[qbp,St.get,qd5,q2]) ?_;apply qa4;simp only[qam];apply ra;simp[zS,e0];by_cases q1:x.kind=1
     ·rw[if_pos q1]at hx;refine qag (by simp[qbp,St.get,qd5,q1]) ?_;apply qa4;simp only[qam];have kA:=fun H=>k39 hT.a x hmm H;have kM:=fun H=>k40 hT.m P (elN x) hp hee H;have l3:qh7 [qaf (qic x)] 3 x.cs=some [qb9 x.kind,qb9 x.space,.str x.name,qaf (qic x),.str x.data,qb9 x.up,qbc x.kids]:=rfl;have e7:[qb9 x.kind,qb9 x.space,.str x.name,qaf (qic x),.str [],qb9 x.up,qbc x.kids]=(elN x).cs:=rfl;have cA:(qaf (qic x)).cells=[qaf (qic x)]:=rfl;have sA:(qaf (qic x)).single=true:=rfl;have rA:∀n,refs n (qaf (qic x))=[]:=fun n=>qig n _ (by simp);apply ra;simp[zS,qaq,kA,cA,sA,rA,allSingle,l3,qcb];rw[e7];refine WpSr.fit [(3,3),(0,0),(1,1)] [(4,(elN x).cs)] (s':=(⟨[0,1,2,3,4,5,6,12,13,14,15],[uD,.int .i64 (i:Int),.ptr 0 0,.int .i64 (up:Int),qaa P,.slc 1 0 t.length (.ex t.length),.fptr [qaa t] 0,.int .i64 (j:Int),.int .i64 (kn:Int),.fptr (elN x).cs 0,uD],[],116,⟨4,[[],rP ot 3 s]⟩⟩ : St)) ⟨rfl,rfl,rfl,by simp[qax,qas,qb2,qca,qab,qa9],?_⟩ ?_
      ·refine FitH.more (hrnd (by omega) hne (by simp[getF]) (by simp[getF]) (by simp[getF])) (by simp) ?_;intro y hy;simp at hy;subst hy;exact⟨by simp[zG],qe4 _⟩
      obtain⟨y,hy⟩ : ∃y,y=elN x:=⟨_,rfl⟩;rw[<- hy]at hx hee kM ⊢;clear kA l3 e7 cA sA rA;apply ra;simp[zS,kM,qaq];cases hb:qny P y with
      |false=>
       rw[if_neg (by rw[hb];simp)]at hx;have hih:=ih kn P up ot s D' kl hsl k2 hsf hmo hu hp (by omega) (by omega) hD;obtain⟨m1,m2⟩:=qto hv f P (kn:Int) up ot s D' k0 k1 hsl (by simpa using k2) hsf hmo hu;have hne2:(qn6 f t P (kn:Int) up ot s).1≠[]:=(by intro e;have:=m1.le;rw[e]at this;simp at this;exact hne this);have hcc:=qu8 (n:=4) (k:=3) (fr:=[]) hih (by have ht:qas [(3,2),(0,0),(1,1)] [] (qav t) (qav t):=qb5 (by simp);simp[qax,qas,qb2,qab,ht]) (by omega) (by omega) hne hne2 (by simp);generalize qn6 f t P (kn:Int) up ot s=a at *;refine qai (by simp[qbp,St.get,qd5,hb]) ?_;simp only[qav]at hcc;repeat apply wq
       refine qah (qbh [⟨23,_,_,_,_,hcc⟩]) ?_;simp[zS,qcc];apply qar;simp only[qam,qgk,if_true];apply ra;simp[zS,hac];have hu2:=m1.un;have hl2:=m1.le;exact hB _ (j+1,a.1,a.2) (by simp only;omega) ⟨by simp only;omega,m1.ql,by simp only;omega,by simp only;omega,by simp only;omega,⟨_,m1.mo,by simp only;omega⟩,hx⟩ ⟨[(4,3),(0,0),(1,1)],[],rfl,rfl,rfl,by simp[qax,qas,qb2,qab,qa9],hrnd (by omega) hne2 rfl rfl rfl⟩
      |true=>
       rw[if_pos hb]at hx;refine qag (by simp[qbp,St.get,qd5,hb]) ?_;apply qa4;simp only[qam];have hyd:y.data.length<=D':=(by rw[hy];exact Nat.zero_le _);have hP2:okP (P++[y]):=⟨by simp;omega,fun n hn=>by
        rcases List.mem_append.1 hn with hn|hn
        ·exact hp.2 n hn
        ·simp at hn;subst hn;exact hee⟩
       have mp:=qvn hmo hu (n:=y) hyd;have hl:=qgy ot hu y;have hm4:=qtd (out:=ot) (q:=s) (m:=4) (k:=3) (by omega) (by omega);have hadd:=(c18 (T:=T) hm4 (by omega) y (by have:=hee.2.1;omega)).perm (H2:=⟨4,[[],rP ot 3 s]⟩) (H2':=⟨5,[[],rP (ot++[fresh y]) 4 s]⟩) rfl rfl (by simp[Heap.ents,rP]) (by simp[Heap.ents,rP]);change CA T 18 [.ptr 0 0,qa3 y] _ _ _ at hadd;obtain⟨t1,ht1⟩ : ∃t1,t1=ot++[fresh y]:=⟨_,rfl⟩;have l1:t1.length=ot.length+1:=(by rw[ht1];simp);have hm5:=qtd (out:=t1) (q:=s) (m:=5) (k:=4) (by omega) (by omega);have hne1:t1≠[]:=(by rw[ht1];simp);have hpl:=qzb hu hmo.up y (a:=((ot.length+1:Nat):Int)) (by omega);have hkl1:qjy t1 999999:=fun n hn=>by
        rw[ht1]at hn;rcases List.mem_append.1 hn with h|h
        ·have:=hmo.up.kids n h;omega
        ·simp at h;subst h;simp[fresh]
       rw[<- ht1]at hadd hpl;have nf5:∀j,j < 5->getF j ([]:List (Nat × Blk))=none:=fun _ _=>rfl;have rdN5:=fun n=>(qeh (n:=n) hm5 nf5).2;change ∀n,qaw PG ⟨n,[[],rP t1 4 s]⟩ 22 (.ptr 0 0)=_ at rdN5;have ln:∀H,qf6 PG H 22 (qcx 4 7 (t1.map qa3))=some (ot.length+1):=fun H=>(by rw[qbd (by simpa using hne1)];simp[qf6,l1]);have hput:=(c17 (T:=T) hT.p hT.s hT.h hT.w hm5 hne1 (by omega) hkl1 (up:Int) ((ot.length+1:Nat):Int) (ot.length:Int)).perm (H2:=⟨5,[[],rP t1 4 s]⟩) (H2':=⟨5,[[],rP (qf5 ot up y) 4 s]⟩) rfl rfl (by simp[Heap.ents,rP]) (by rw[hpl];simp[Heap.ents,rP]);change CA T 17 [.ptr 0 0,_,_,_] _ _ _ at hput;have e1:((ot.length+1:Nat):Int)=(ot.length:Int)+1:=(by omega);rw[e1]at hput;have hih:=ih kn (P++[y]) ot.length (qf5 ot up y) s D' kl hsl k2 hsf mp (by omega) hP2 (by simp;omega) (by omega) hD;obtain⟨m1,m2⟩:=qto hv f (P++[y]) (kn:Int) ot.length (qf5 ot up y) s D' k0 k1 hsl (by simpa using k2) hsf mp (by omega);have hne2:qf5 ot up y≠[]:=(by intro e;rw[e]at hl;simp at hl);have hne3:(qn6 f t (P++[y]) (kn:Int) ot.length (qf5 ot up y) s).1≠[]:=(by intro e;have:=m1.le;rw[e]at this;simp at this;exact hne2 this);generalize qn6 f t (P++[y]) (kn:Int) ot.length (qf5 ot up y) s=a at *;have hol:(qf5 ot up y).length=ot.length+1:=hl;generalize qf5 ot up y=o2 at *;repeat apply wq
       refine qah (qbh [⟨18,_,_,_,_,hadd⟩]) ?_;simp[zS,qcc,qaq];repeat apply wq
       refine qah (qbh [⟨17,_,_,_,_,hput⟩]) ?_;simp[zS,qcc,rdN5,ln];clear hadd hput hpl hkl1 hm4 hm5 rdN5 ln nf5;have hrow:∀cs,qom PG 34 cs=.cells cs:=(by intro cs;rfl);have ht:qas [(4,2),(0,0),(1,1)] [] (qav t) (qav t):=qb5 (by simp);by_cases hP0:P=[]
       ·subst hP0;have a1:qbz PG ⟨17,[[(9,.cells [])],rP o2 4 s]⟩ 34 (.slc 9 0 0 (.ex 0)) (qaa [])=some (.slc 9 0 0 (.ex 0),⟨17,[[(9,.cells [])],rP o2 4 s]⟩):=rfl;have a2:=app_new1 (m:=17) (b:=9) (c:=13) (cs:=y.cs) (R:=[rP o2 4 s]) rfl rfl (by omega);have hcc:=qu8 (n:=18) (k:=4) (fr:=[]) hih (by simp[qax,qas,qb2,qab,ht]) (by omega) (by omega) hne2 hne3 (by simp);have hcp:=qwu (b:=17) (c:=4) (P:=[y]) (l:=1) (fr:=[(17,.cells y.cs),(13,.cells y.cs),(9,.cells [])]) rfl (by omega) (by omega) (by omega) hne2 (by simp[getF,qa6]) (by simp[getF]) hcc;simp only[qav]at hcp;have sgy:allSingle y.cs=true:=rfl;refine qc8 mixed (qbh [⟨23,_,_,_,_,hcp⟩]) (by decide +kernel) fun B_ hB_=>?_;have hD_:ahead B_ 0 6=false/\ahead B_ 0 9=false/\ahead B_ 0 11=true/\ahead B_ 4 6=true/\ahead B_ 4 9=true/\ahead B_ 4 11=true/\ahead B_ 6 0=false/\ahead B_ 6 7=false/\ahead B_ 7 6=false/\ahead B_ 7 9=true/\ahead B_ 7 11=true/\ahead B_ 8 6=false/\ahead B_ 8 9=true/\ahead B_ 8 11=true/\ahead B_ 9 0=false/\ahead B_ 9 7=false/\ahead B_ 11 0=false/\ahead B_ 11 7=false:=(by rw[hB_];decide +kernel);apply qi9 B_;simp[zS,qdl,qc6,qc3,qbk,qap,qb4,qaz,Heap.lay,qd9,qi7,qi6,qfa,qf9,qf7,qf8,qfo,qfc,qdv,qdw,qfi,qfh,qff,qfg,qfl,qfm,qfk,qfj,hD_,a1,a2,sgy,qaq,qav,qcc];exact rfl;refine⟨_,rfl,?_,?_⟩;simp[zS,qbk,qap,qc7,qcl,qdy,hD_,a1,a2,sgy,qaq,qav,qcc];simp[qc5,Heap.lay,qd9,qam];apply ra;simp[zS,hac];have hu2:=m1.un;have hl2:=m1.le;have hl3:=m1.ln;exact hB _ (j+1,a.1,a.2) (by simp only;omega) ⟨by simp only;omega,m1.ql,by simp only;omega,by simp only;omega,by simp only;omega,⟨_,m1.mo,by simp only;omega⟩,hx⟩ ⟨[(18,3),(0,0),(1,1)],[],rfl,rfl,rfl,by simp[qax,qas,qb2,qab,qa9],hrnd (by omega) hne3 rfl rfl rfl⟩
       ·have a1:=qkt (P:=PG) (elem:=34) (b:=9) (m:=17) (es:=P.map qa3) (g:=[]) (fs:=[rP o2 4 s]) qt0 qub qx5 rfl (by omega) (by omega) (qbg P) (qjk P) (by simp;omega);have hPl:(P.map qa3).length=P.length:=(by simp);have hne':P.map qa3≠[]:=(by simpa using hP0);have e1:qxi 9 17 7 (P.map qa3)=.slc 17 0 P.length (.rest 7):=by
         cases P with
         |nil=>exact absurd rfl hP0
         |cons x r=>simp[qxi]
        have e2:qtc ⟨17,[[(9,.cells [])],rP o2 4 s]⟩ (P.map qa3)=⟨18,[[(17,.cells (qa6 (P.map qa3))),(9,.cells [])],rP o2 4 s]⟩:=by
         cases P with
         |nil=>exact absurd rfl hP0
         |cons x r=>rfl
        rw[e1,e2]at a1;have a2:=qgz (P:=PG) (elem:=34) (b:=17) (t:=13) (m:=18) (es:=P.map qa3) (cs:=y.cs) (g:=[(9,.cells [])]) (fs:=[rP o2 4 s]) qt0 qub qx5 rfl (by omega) (by omega) rfl rfl (qbg P) (by simp;omega) (by omega) (by simp) (fun e he=>by simp only[List.flatten_cons,List.flatten_nil,List.append_nil]at he;rcases qu2 hne2 e he with rfl|rfl|rfl<;>simp);rw[qbd hne',qbn hne',hPl]at a2;simp only[List.cons_append,List.nil_append]at a2;have e3:qaa P=.fslc 7 (P.map qa3):=rfl;rw[<- e3]at a1;have hcc:=qu8 (n:=19) (k:=4) (fr:=[]) hih (by simp[qax,qas,qb2,qab,ht]) (by omega) (by omega) hne2 hne3 (by simp);have hcp:=qwu (b:=18) (c:=4) (P:=P++[y]) (l:=P.length+1) (fr:=[(18,.cells (qa6 (P.map qa3)++y.cs)),(13,.cells y.cs),(9,.cells [])]) (by simp) (by omega) (by omega) (by omega) hne2 (by simp[getF,qbj,qa6]) (by simp[getF]) hcc;simp only[qav]at hcp;have sgy:allSingle y.cs=true:=rfl;generalize qa6 (P.map qa3)=FP at *;refine qc8 mixed (qbh [⟨23,_,_,_,_,hcp⟩]) (by decide +kernel) fun B_ hB_=>?_;have hD_:ahead B_ 0 6=false/\ahead B_ 0 9=false/\ahead B_ 0 11=true/\ahead B_ 4 6=true/\ahead B_ 4 9=true/\ahead B_ 4 11=true/\ahead B_ 6 0=false/\ahead B_ 6 7=false/\ahead B_ 7 6=false/\ahead B_ 7 9=true/\ahead B_ 7 11=true/\ahead B_ 8 6=false/\ahead B_ 8 9=true/\ahead B_ 8 11=true/\ahead B_ 9 0=false/\ahead B_ 9 7=false/\ahead B_ 11 0=false/\ahead B_ 11 7=false:=(by rw[hB_];decide +kernel);apply qi9 B_;simp[zS,qdl,qc6,qc3,qbk,qap,qb4,qaz,Heap.lay,qd9,qi7,qi6,qfa,qf9,qf7,qf8,qfo,qfc,qdv,qdw,qfi,qfh,qff,qfg,qfl,qfm,qfk,qfj,hD_,a1,a2,sgy,qaq,qav,qcc];exact rfl;refine⟨_,rfl,?_,?_⟩;simp[zS,qbk,qap,qc7,qcl,qdy,hD_,a1,a2,sgy,qaq,qav,qcc];simp[qc5,Heap.lay,qd9,qam];apply ra;simp[zS,hac];have hu2:=m1.un;have hl2:=m1.le;have hl3:=m1.ln;exact hB _ (j+1,a.1,a.2) (by simp only;omega) ⟨by simp only;omega,m1.ql,by simp only;omega,by simp only;omega,by simp only;omega,⟨_,m1.mo,by simp only;omega⟩,hx⟩ ⟨[(19,3),(0,0),(1,1)],[],rfl,rfl,rfl,by simp[qax,qas,qb2,qab,qa9],hrnd (by omega) hne3 rfl rfl rfl⟩
     ·rw[if_neg q1]at hx;refine qai (by simp[qbp,St.get,qd5,q1]) ?_;have r1:=rP_1 (out:=ot) (k:=3) (q:=s) (by omega);have s1:=zdj (out:=ot) (k:=3) (q:=s) (by omega) kn;apply ra;simp[zS,hly,hxk,r1,s1];apply qar;simp only[qam,qgk,if_true];apply ra;simp[zS,hac];exact hB _ (j+1,ot,s.set kn true) (by simp only;omega) ⟨by simp only;omega,hs1,by simp only;omega,hu,by simp only;omega,⟨_,hmo,by simp only;omega⟩,hx⟩ ⟨[(3,3),(0,0),(1,1)],[],rfl,rfl,rfl,by simp[qax,qas,qb2,qab,qa9],hrnd (by omega) hne (by simp[getF]) (by simp[getF]) (by simp[getF])⟩
  ·have hc:¬ (j:Int) < (K.length:Int):=(by omega);rw[List.drop_eq_nil_of_le (by omega)]at hx;simp only[goD]at hx;subst hx;apply ra;simp[zS,hix,gk,ql8,hc,h];refine qag (by simp[qbp,St.get,qd5,h]) ?_;apply qar;simp only[qam,qgk,if_true];exact⟨.inl trivial,[],rfl,_,_,by simp[oneOr,qas,qax],zbw (N:=3) (k:=3) (k':=3) (m':=4) (q:=s) rfl (by omega) (by omega) (by omega) hne (by simp[zG,rP_0]) (by simp[zG,rP_k,hne]) (by simp[zG,rP_1]) _ (by simp)⟩
section
variable {t v:Tr} {pos:Int->Int}
structure SeR (t:Tr) (q:List Bool) (S:Int->Prop) (q':List Bool):Prop where
 ln:q'.length=t.length
 un:qfp q'<=qfp q
 sn:∀x:Nat,x < t.length->q.getD x true=false->¬ S (x:Int)->q'.getD x true=false
theorem za0(h:qbx t=true) {i:Nat} (hi:i < t.length) {f:Nat}
  (hrec:∀k,k∈(qa1 t i).kids->∀(P:List Nd) (up:Nat) (out:Tr) (q:List Bool),q.length=t.length->qfp q<=f->(∀x,Bel t.length (fun x=>(qa1 t x).up) (qlv t (t.length+1)) k x->q.getD x.toNat true=false) ->
   (qn6 f t P k up out q).1=qel f t P k up out/\SeR t q (Bel t.length (fun x=>(qa1 t x).up) (qlv t (t.length+1)) k) (qn6 f t P k up out q).2) (P:List Nd) (up:Nat) :
  ∀(K:List Int),(∀k,k∈K->k∈(qa1 t i).kids)->K.Nodup->∀(out:Tr) (q:List Bool),q.length=t.length->qfp q<=f->(∀k,k∈K->∀x,Bel t.length (fun x=>(qa1 t x).up) (qlv t (t.length+1)) k x->q.getD x.toNat true=false) ->
   (goD (qn6 f t) t P up K out q).1=goM (qel f t) t P up K out/\SeR t q (fun x=>∃k,k∈K/\Bel t.length (fun x=>(qa1 t x).up) (qlv t (t.length+1)) k x) (goD (qn6 f t) t P up K out q).2
 |[],_,_,out,q,hq,hf,hu=>⟨rfl,hq,Nat.le_refl _,fun x _ h _=>h⟩
 |k::r,hK,hnd,out,q,hq,hf,hu=>by
  have ht:=qdo h;have hkm:=hK k (by simp);obtain⟨k0,k1,k2,_⟩:=qeq h hi hkm;rw[List.nodup_cons]at hnd;have hks:∀k,k∈(qa1 t i).kids->k∈qbs t i:=fun k hk=>by rw[<- qee hi,<- qbt hi];exact hk
  have hks0:=hu k (by simp) k (qfq k0 k1);have hmem:∀k2,k2∈r->k2∈(qa1 t i).kids:=fun k2 hk2=>hK k2 (by simp[hk2]);have hdis:∀k2,k2∈r->∀x,Bel t.length (fun x=>(qa1 t x).up) (qlv t (t.length+1)) k x->¬ Bel t.length (fun x=>(qa1 t x).up) (qlv t (t.length+1)) k2 x:=fun k2 hk2 x hx=>qyj ht hi (hks k hkm) (hks k2 (hmem k2 hk2)) (fun e=>hnd.1 (e ▸ hk2)) hx;have hset:=qev hks0;have next:∀(out2:Tr) (q2:List Bool),SeR t q (Bel t.length (fun x=>(qa1 t x).up) (qlv t (t.length+1)) k) q2->(goD (qn6 f t) t P up r out2 q2).1=goM (qel f t) t P up r out2/\SeR t q (fun x=>∃k',k'∈k::r/\Bel t.length (fun x=>(qa1 t x).up) (qlv t (t.length+1)) k' x) (goD (qn6 f t) t P up r out2 q2).2:=fun out2 q2 s=>by obtain⟨a,b⟩:=za0 h hi hrec P up r hmem hnd.2 out2 q2 s.ln (Nat.le_trans s.un hf) (fun k2 hk2 x hx=>by have hx0:=hx.1;have hx1:=hx.2.1;refine s.sn x.toNat (by omega) (hu k2 (by simp[hk2]) x hx) ?_;rw[show ((x.toNat:Nat):Int)=x by omega];exact fun hb=>hdis k2 hk2 x hb hx);refine⟨a,b.ln,Nat.le_trans b.un s.un,fun x hx h1 h2=>?_⟩;refine b.sn x hx (s.sn x hx h1 fun hb=>h2 ⟨k,by simp,hb⟩) ?_;rintro⟨k',hk',hb⟩;exact h2 ⟨k',by simp[hk'],hb⟩
  have seen1:SeR t q (Bel t.length (fun x=>(qa1 t x).up) (qlv t (t.length+1)) k) (q.set k.toNat true):=⟨by simpa using hq,by omega,fun x hx h1 h2=>by rw[qpd (by omega)];refine⟨h1,fun e=>h2 ?_⟩;subst e;rw[show ((k.toNat:Nat):Int)=k by omega];exact qfq k0 k1⟩;unfold goD goM;rw[if_pos ⟨k0,k1,hks0⟩];split
  ·exact next _ _ seen1
  ·split
   ·split
    ·obtain⟨a,b⟩:=hrec k hkm (P++[elN (qa1 t k)]) out.length (qf5 out up (elN (qa1 t k))) q hq hf (hu k (by simp));rw[a];exact next _ _ b
    ·obtain⟨a,b⟩:=hrec k hkm P up out q hq hf (hu k (by simp));rw[a];exact next _ _ b
   ·exact next _ _ seen1
theorem qvc (h : qbx t = true) : ∀ (f i : Nat), i < t.length -> ∀ (P : List Nd) (up : Nat) (out : Tr) (q : List Bool), q.length = t.length -> qfp q <= f -> (∀ x, Bel t.length (fun x => (qa1 t x).up) (qlv t (t.length + 1)) (i : Int) x -> q.getD x.toNat true = false) ->
      (qn6 f t P (i:Int) up out q).1=qel f t P (i:Int) up out/\SeR t q (Bel t.length (fun x=>(qa1 t x).up) (qlv t (t.length+1)) (i:Int)) (qn6 f t P (i:Int) up out q).2
 |0,i,hi,P,up,out,q,hq,hf,hu=>by have h1:=hu i (qfq (by omega) (by omega));have:=qm0 (s:=q) (by omega) (i:Int).toNat;rw[this]at h1;cases h1
 |f+1,i,hi,P,up,out,q,hq,hf,hu=>by
  have ht:=qdo h;have h1:=hu i (qfq (by omega) (by omega));simp only[Int.toNat_natCast]at h1;have hus:=qev h1;have hkk:(qa1 t i).kids=qbs t i:=by rw[qbt hi,qee hi]
  obtain⟨a,b⟩:=za0 h hi (f:=f) (fun k hk P up out q c d e=>by
   obtain⟨k0,k1,k2,_⟩:=qeq h hi hk;have eN:((k.toNat:Nat):Int)=k:=(by omega);have:=qvc h f k.toNat (by omega) P up out q c d (by rw[eN];exact e)
   rwa [eN]at this) P up (qa1 t i).kids (fun _ h=>h) (qsy fun k hk=>(qeq h hi hk).2.2.2.1) out (q.set i true) (by simpa using hq) (by omega) (fun k hk x hx=>by
   have hx0:=hx.1;rw[qpd (by omega)];have hb:=qwy ht hi (by rw[<- hkk];exact hk) hx;refine⟨hu x hb,fun e=>?_⟩;have:x=(i:Int):=(by omega);subst this;exact que ht hi (by rw[<- hkk];exact hk) hx)
  unfold qn6 qel;simp only[Int.toNat_natCast];refine⟨a,b.ln,by have:=b.un;omega,fun x hx h2 h3=>b.sn x hx ?_ ?_⟩
  ·rw[qpd (by omega)];refine⟨h2,fun e=>h3 ?_⟩;subst e;exact qfq (by omega) (by omega)
  ·rintro⟨k,hk,hb⟩;exact h3 (qwy ht hi (by rw[<- hkk];exact hk) hb)
theorem qs8:∀(f:Nat) (P:List Nd) (i:Int) (up:Nat) (out:Tr),qqm v f i->qel (f+1) v P i up out=qel f v P i up out
 |0,P,i,up,out,h=>absurd h (fun h=>h)
 |f+1,P,i,up,out,h=>by
  rw[qel,qel];have key:∀(K:List Int),(∀k,k∈K->k∈(qa1 v i).kids)->∀out,goM (qel (f+1) v) v P up K out=goM (qel f v) v P up K out:=by
   intro K;induction K with
   |nil=>intro _ _;rfl
   |cons k r ih=>
    intro hK out;have ih:=ih fun k hk=>hK k (by simp[hk]);unfold goM;by_cases hk1:(qa1 v k).kind=1
    ·have hf:=h k (hK k (by simp)) hk1;simp only[qs8 f _ k _ _ hf,ih]
    ·simp only[hk1,if_false,ih]
  exact key _ (fun _ h=>h) _
theorem qwd:∀(f:Nat) (i:Int),qqm v f i->qqm v (f+1) i
 |0,i,h=>absurd h (fun h=>h)
 |f+1,i,h=>fun k hk hk1=>qwd f k (h k hk hk1)
theorem qs9{f:Nat} {i:Int} (h:qqm v f i) (P:List Nd) (up:Nat) (out:Tr):∀d,qel (f+d) v P i up out=qel f v P i up out/\qqm v (f+d) i
 |0=>⟨rfl,h⟩
 |d+1=>by obtain⟨a,b⟩:=qs9 h P up out d;exact⟨by rw[show f+(d+1)=(f+d)+1 by omega,qs8 _ _ _ _ _ b,a],qwd _ _ b⟩
theorem qls{n n':Nd} (h:n.space=n'.space/\n.kind=n'.kind/\n.name=n'.name/\n.data=n'.data):∀(L out:List At1),qj7 n out L=qj7 n' out L
 |[],out=>rfl
 |a::r,out=>by
  have e:qg8 { n with attrs:=[(a.1,qgu a.2)] }=qg8 { n' with attrs:=[(a.1,qgu a.2)] }:=by unfold qg8;simp only[h.1]
  unfold qj7;rw[e,qls h r,qls h r]
theorem el_same{n n':Nd} (h:qcs n=qcs n'):qcs (elN n)=qcs (elN n')/\fresh (elN n)=fresh (elN n'):=by
 have h1:=congrArg Nd.kind h;have h2:=congrArg Nd.space h;have h3:=congrArg Nd.name h;have h4:=congrArg Nd.attrs h;have h5:=congrArg Nd.data h;simp only[qcs]at h1 h2 h3 h4 h5;have e:qic n=qic n':=by unfold qic;rw[qls ⟨h2,h1,h3,h5⟩,h4]
 simp only[qcs,elN,fresh,e,h1,h2,h3,and_self]
theorem qzz{rec rec':List Nd->Int->Nat->Tr->Tr} {P P':List Nd} (hP:P.map qcs=P'.map qcs) (up:Nat):∀(K:List Int),(∀k,k∈K->qcs (qa1 t k)=qcs (qa1 v (pos k))/\∀Q Q' up out,Q.map qcs=Q'.map qcs->rec Q k up out=rec' Q' (pos k) up out) ->
  ∀out,goM rec t P up K out=goM rec' v P' up (K.map pos) out
 |[],_,_=>rfl
 |k::r,h,out=>by
  obtain⟨h1,h2⟩:=h k (by simp);have ih:=qzz hP up r (fun k hk=>h k (by simp[hk]));have e1:(qa1 t k).kind=(qa1 v (pos k)).kind:=by have:=congrArg Nd.kind h1;exact this
  have e2:(qa1 t k).data=(qa1 v (pos k)).data:=by have:=congrArg Nd.data h1;exact this
  obtain⟨e3,e4⟩:=el_same h1;have e5:=may_same hP e3;have e6:∀s out,qef P up s out=qef P' up s out:=fun s out=>by unfold qef;rw[zc6 hP]
  have e7:qf5 out up (elN (qa1 t k))=qf5 out up (elN (qa1 v (pos k))):=by unfold qf5;rw[e4]
  have e8:rec (P++[elN (qa1 t k)]) k out.length (qf5 out up (elN (qa1 t k)))=rec' (P'++[elN (qa1 v (pos k))]) (pos k) out.length (qf5 out up (elN (qa1 v (pos k)))):=by rw[e7];refine h2 _ _ _ _ ?_;rw[List.map_append,List.map_append,hP,List.map_cons,List.map_cons,e3,List.map_nil]
  rw[List.map_cons];unfold goM;rw[ih,ih,ih,e1,e2,e5,e6,e8,h2 P P' up out hP]
theorem qs7{S:Int->Prop} (hS:∀x,S x->∀k,k∈(qa1 t x).kids->S k) (hn:∀x,S x->qcs (qa1 t x)=qcs (qa1 v (pos x))/\(qa1 v (pos x)).kids=(qa1 t x).kids.map pos) :
  ∀(f:Nat) (P P':List Nd) (i:Int) (up:Nat) (out:Tr),S i->P.map qcs=P'.map qcs->qel f t P i up out=qel f v P' (pos i) up out
 |0,_,_,_,_,_,_,_=>rfl
 |f+1,P,P',i,up,out,hi,hP=>by rw[qel,qel,(hn i hi).2];exact qzz hP up _ (fun k hk'=>⟨(hn k (hS i hi k hk')).1,fun Q Q' up out hQ=>qs7 hS hn f Q Q' k up out (hS i hi k hk') hQ⟩) _
end
def qxf(t:Tr):Tr:=(qn6 (t.length+2) t [] 0 0 [root0] (List.replicate t.length false)).1
theorem zec{t:Tr} (h:qbx t=true):qxf t=qgg t:=by
 have hp:=qep h;have e0:((0:Nat):Int)=0:=rfl;have h1:=(qvc h (t.length+2) 0 hp [] 0 [root0] (List.replicate t.length false) (by simp) (by rw[qgv];omega) (fun x hx=>by
  have h1:x.toNat < t.length:=by have:=hx.1;have:=hx.2.1;omega
  simp[List.getD_eq_getElem?_getD,h1])).1
 rw[e0]at h1;unfold qxf;rw[h1];have w:=qko h;have hle:(qd2 t).length<=t.length:=by rw[w.len];exact qps
 obtain⟨d,hd⟩:=Nat.exists_eq_add_of_le hle;have key:=qs7 (t:=t) (v:=qd2 t) (S:=fun x=>x∈qcn t.length (qbs t)) (fun x hx=>w.cl x hx) (fun x hx=>by rw[w.nd x hx];exact⟨rfl,rfl⟩) (t.length+2) [] [] 0 0 [root0] w.zero.1 rfl;rw[w.zero.2]at key;rw[key];have e:=(qs9 (qwc h) [] 0 [root0] d).1;unfold qgg;rw[<- e,show (qd2 t).length+2+d=t.length+2 by omega]
set_option maxHeartbeats 1000000
theorem c16{T:List (Entry PG)}:CA T 16 [] zH (.agg [.slc 0 0 1 (.rest 7)]) ⟨1,[[(0,.cells root0.cs)]]⟩:=by
 refine CallAt.rest ?_ rfl (by simp[root0,Nd.cs,qb9,qaf,qa9,qab]) (by omega);have b5:qgq PG 34 [(5,.int .i64 (-1))]=some (.agg [.int .i64 0,.int .i64 0,.str [],.nilS,.str [],.int .i64 (-1),.nilS]):=rfl;refine qa0 (s0:=⟨[0],[uD],[],4,⟨0,[[]]⟩⟩) Tryz.func16 rfl rfl rfl ?_;have bt:∀b n c,qgq PG 24 [(0,.slc b 0 n c)]=some (.agg [.slc b 0 n c]):=fun b n c=>rfl;have pr:qcy 0 [1] [] [[(1,.cells [.int .i64 0,.int .i64 0,.str [],.nilS,.str [],.int .i64 (-1),.nilS]),(0,.cells [.nilS])]]=[[(1,.cells [.int .i64 0,.int .i64 0,.str [],.nilS,.str [],.int .i64 (-1),.nilS]),(0,.cells [.nilS])]]:=rfl;apply ra;simp[zS,b5,bt,pr];apply ra;simp[zS,b5,bt,pr];apply qa5;simp[retVal,Tryz.f16,oneOr];refine⟨_,rfl,[(1,0)],[],?_,⟨by simp,by simp,by simp[Heap.ents],by simp,fun x hx h=>absurd h (Nat.not_lt_zero _),by simp,fun e he=>?_,fun x hx=>by cases hx⟩⟩
 ·simp[qas,qax,qb2,readCells]
 ·simp only[Heap.ents,List.flatten_cons,List.flatten_nil,List.append_nil,List.mem_singleton]at he;subst he;exact⟨1,_,by simp,rfl,by simp[qi1,qax,qas,root0,Nd.cs,qb9,qaf,qab]⟩
theorem newD_at{T:List (Entry PG)} (m:Nat) (f:List (Nat × Blk)) (fs:List (List (Nat × Blk))):CA T 16 [] ⟨m,f::fs⟩ (.agg [.slc m 0 1 (.rest 7)]) ⟨m+1,((m,.cells root0.cs)::f)::fs⟩:=by
 have fh:FitH 0 [] [] ⟨m,f::fs⟩ zH:=⟨by simp,by simp,by simp[Heap.ents],fun x h=>(by cases h),fun x h=>(by cases h),Nat.zero_le _,fun e he=>by simp[Heap.ents]at he,fun x h=>by cases h⟩;have pr:qa9 root0.cs=true:=by simp[root0,Nd.cs,qb9,qaf,qa9,qab]
 have:=(c16 (T:=T)).framed (args:=[]) (H:=⟨m,f::fs⟩) (H':=⟨m+1,((m,.cells root0.cs)::f)::fs⟩) fh (by simp[qax]) ⟨by simp,fun nd lt=>?_,fun e he=>?_⟩ (by simp)
 ·simpa[qja,qho,qje,qf1]using this
 ·simp only[Heap.ents,List.flatten_cons,List.cons_append,List.map_cons,List.nodup_cons]at nd ⊢;refine⟨fun hx=>?_,nd⟩;obtain⟨e,he,hx⟩:=List.mem_map.1 hx;have:=lt e (by simpa[Heap.ents]using he);simp only at this;omega
 ·simp only[Heap.ents,List.flatten_cons,List.cons_append,List.mem_cons]at he;rcases he with rfl|he
  ·refine .inl ⟨(0,.cells root0.cs),by simp[Heap.ents],?_⟩;simp[qje,qf1,qn0,qcd _ pr]
  ·exact .inr ⟨by simpa[Heap.ents]using he,fun x hx=>by cases hx⟩
theorem mo_root:MoOk [root0] 0:=⟨⟨by simp[root0],by simp[root0]⟩,fun n hn k hk=>by simp at hn;subst hn;simp[root0]at hk,by simp[root0]⟩
theorem treeD_at{T:List (Entry PG)} (hT:PuT T) {t:Tr} (hv:LookOk t) (hl:t.length<=900) (hne:t≠[]):CA T 10 [qav t] zH (qav (qxf t)) zH:=by
 have hpos:0 < t.length:=List.length_pos_iff.2 hne;have lenT:∀H,qf6 PG H 22 (qaa t)=some t.length:=fun H=>by simp[qf6]
 have hz:(0:Int) < (t.length:Int):=by omega
 have hms:=msBool (n:=t.length) (by omega);have hsi:(List.replicate t.length false).getD 0 true=false:=by simp[List.getD,hpos]
 have hput:=zds hT hv (by omega) (t.length+2) 0 [] 0 [root0] (List.replicate t.length false) 0 hpos (by simp) hsi (by rw[qgv];omega) mo_root (by simp) ⟨by simp,fun n hn=>by cases hn⟩ (by simp;omega) (by rw[qgv];simp;omega) (by rw[qgv];omega);obtain⟨m1,m2⟩:=qto hv (t.length+2) [] ((0:Nat):Int) 0 [root0] (List.replicate t.length false) 0 (by omega) (by omega) (by simp) (by simpa using hsi) (by rw[qgv];omega) mo_root (by simp);obtain⟨a,ha⟩ : ∃a,a=qn6 (t.length+2) t [] ((0:Nat):Int) 0 [root0] (List.replicate t.length false):=⟨_,rfl⟩;have eN:qxf t=a.1:=by rw[ha];rfl
 rw[<- ha]at hput m1;rw[eN];have hne2:a.1≠[]:=by intro e;have:=m1.le;rw[e]at this;simp at this
 have hne2':a.1.map qa3≠[]:=by simpa using hne2
 obtain⟨F,hF⟩ : ∃F,F=qa6 (a.1.map qa3):=⟨_,rfl⟩;have hFp:qa9 F=true:=by rw[hF];exact(qbg a.1).pure
 have hb:=qg1 (List.replicate t.length false);have hb':=qg1 a.2;have hN:=qdh t;have hr0:qa9 root0.cs=true:=qe4 root0;have hfh:FitH 0 [(3,0),(2,2),(8,1)] [] ⟨10,[[(8,.cells (bls (List.replicate t.length false))),(3,.cells [.slc 2 0 1 (.rest 7)]),(2,.cells root0.cs),(1,.cells [.nilS]),(0,.cells [qaa t])]]⟩ ⟨3,[rP [root0] 2 (List.replicate t.length false)]⟩:={
  nd1:=by simp
  nd2:=by simp
  nd3:=by have:=qnr (qtd (out:=[root0]) (q:=List.replicate t.length false) (m:=3) (k:=2) (by omega) (by omega));simpa[Heap.ents,rP]using this
  lt:=by simp
  idn:=by simp
  num:=by simp
  src:=by
   intro e he;simp only[Heap.ents,List.flatten_cons,List.flatten_nil,List.append_nil]at he;rcases qu2 (by simp) e he with rfl|rfl|rfl
   ·exact⟨3,.cells [.slc 2 0 1 (.rest 7)],by simp,by simp[zG],by rw[qbd (by simp)];simp[qi1,qax,qas,qb2]⟩
   ·exact⟨2,.cells root0.cs,by simp,by simp[zG],by simp only[List.map_cons,List.map_nil,qa6,List.append_nil,qi1];exact qak hr0⟩
   ·exact⟨8,.cells (bls (List.replicate t.length false)),by simp,by simp[zG],qak hb⟩
  frz:=fun x h=>by cases h }
 have hcall:=hput.framed (H':=⟨11,[[(10,.cells F),(8,.cells (bls a.2)),(3,.cells [.slc 10 0 a.1.length (.rest 7)]),(1,.cells [.nilS]),(0,.cells [qaa t])]]⟩)
  (args:=[qav t,.int .i64 0,.ptr 3 0,.int .i64 0,.nilS,.slc 8 0 t.length (.ex t.length)]) hfh (by
   have ht:qas [(3,0),(2,2),(8,1)] [] (qav t) (qav t):=qb5 (by simp);simp[qax,qas,qb2,qab,ht,qaa]) (by
  refine⟨by simp,fun _ _=>by simp[Heap.ents],?_⟩;intro e he;obtain⟨τ,hτ⟩ : ∃τ,τ=qje [(3,0),(2,2),(8,1)] 10 3:=⟨_,rfl⟩;have t8:τ 3=10/\τ 0=3/\τ 1=8:=by rw[hτ];simp[qje,qf1]
  have hb2:=qcd τ hb';have hF2:=qcd τ hFp;obtain⟨w0,wk,w1⟩:=mem_rP (k:=3) (q:=a.2) hne2;rw[<- hF]at wk;rw[qbd hne2',List.length_map]at w0;simp only[Heap.ents,List.flatten_cons,List.flatten_nil,List.append_nil,List.mem_cons,List.not_mem_nil,or_false]at he;rcases he with rfl|rfl|rfl|rfl|rfl
  ·exact .inl ⟨(3,.cells F),by simpa[Heap.ents]using wk,by simp only[<- hτ,t8,qn0,hF2]⟩
  ·exact .inl ⟨(1,.cells (bls a.2)),by simpa[Heap.ents]using w1,by simp only[<- hτ,t8,qn0,hb2]⟩
  ·exact .inl ⟨(0,.cells [.slc 3 0 a.1.length (.rest 7)]),by simpa[Heap.ents]using w0,by simp only[<- hτ,t8,qn0,qho,qja]⟩
  ·exact .inr ⟨by simp[Heap.ents],by simp⟩
  ·exact .inr ⟨by simp[Heap.ents],by simp⟩) (by simp)
 simp only[qja,qho]at hcall;have hnew:=newD_at (T:=T) 2 [(1,.cells [.nilS]),(0,.cells [qaa t])] [];refine qa0 (s0:=⟨[0,1,2,3],[qav t,uD,uD,uD],[],16,⟨0,[[]]⟩⟩) Tryz.func10 rfl rfl rfl ?_;apply ra;simp[zS,qav];repeat apply wq
 refine qah (qbh [⟨16,_,_,_,_,hnew⟩]) ?_;simp[zS,qcc,qcb];apply ra;simp[zS,lenT,hz];refine qai (by simp[qbp,St.get,qd5,hpos]) ?_;simp only[qav]at hcall;refine qc8 mixed (qbh [⟨23,_,_,_,_,hcall⟩]) (by decide +kernel) fun B_ hB_=>?_;have hD_:ahead B_ 0 5=true/\ahead B_ 2 5=true/\ahead B_ 3 5=true/\ahead B_ 4 5=true/\ahead B_ 5 0=false/\ahead B_ 5 2=false/\ahead B_ 5 3=false:=by rw[hB_];decide +kernel
 apply qi9 B_;simp[zS,qdl,qc6,qc3,qbk,qap,qb4,qaz,Heap.lay,qd9,qi7,qi6,qfa,qf9,qf7,qf8,qfo,qfc,qdv,qdw,qfi,qfh,qff,qfg,qfl,qfm,qfk,qfj,hD_,qcc,lenT,hms,qcb];exact rfl;refine⟨_,rfl,?_,?_⟩;simp[zS,qbk,qap,qc7,qcl,qdy,hD_,qcc,lenT,hms,qcb];simp[qc5,Heap.lay,qd9,qam];apply ra;simp[zS,qcb];apply qa5;simp[zQ,Tryz.f10,readCells,zG,qex,qew];have el:=qbg a.1;have hl:=el.len;rw[List.length_map]at hl;have hsz:=el.size;rw[<- hF]at hl;show ∃σ Φ,qas σ Φ _ (.agg [.fslc 7 (a.1.map qa3)])/\_;refine⟨[],[(10,F)],?_,?_⟩
 ·simp only[qas,qax,qca,if_true];exact .inl ⟨.inl ⟨F,rfl,by unfold qex;rw[List.drop_zero,<- hl,qco,hF],by simp,hsz⟩,trivial⟩
 ·exact {
   nd1:=by simp
   nd2:=by simp
   nd3:=by simp[Heap.ents]
   lt:=by simp
   idn:=by simp
   num:=by simp
   src:=by intro e he;simp[Heap.ents]at he
   frz:=fun y hy=>by simp at hy;subst hy;exact⟨F,by simp[zG],qak hFp,hFp⟩ }
theorem c10{T:List (Entry PG)} (hc0:qIn 59 T e59) (hc1:qIn 44 T e44) (hc2:qIn 45 T e45) (hc3:qIn 30 T e30) (hc4:qIn 31 T e31) (hc5:qIn 33 T e33) (hc6:qIn 39 T e39) (hc7:qIn 40 T e40) (t:Tr) (hv:LookOk t) (hl:t.length<=900) (hne:t≠[]):CA T 10 [qav t] zH (qav (qxf t)) zH:=by exact treeD_at ⟨hc0,hc1,hc2,hc3,hc4,hc5,hc6,hc7⟩ hv hl hne
def e10:Entry PG:=mkE 10 [[7]] (fun z:Tr=>[qav z]) (fun z=>(LookOk z)/\(z.length<=900)/\(z≠[])) (fun z=>qav (qxf z)) fun z h=>c10 (T:=[e59,e44,e45,e30,e31,e33,e39,e40]) rfl rfl rfl rfl rfl rfl rfl rfl z h.1 h.2.1 h.2.2
theorem k10{T:List (Entry PG)} (hT:qIn 10 T e10) (t:Tr) (hv:LookOk t) (hl:t.length<=900) (hne:t≠[]) (H:Heap):qb6 (ctx T) (.fn 10) [qav t] H=some (qav (qxf t),H):=
 qd1 hT inj_20 (t) ⟨hv,hl,hne⟩ (by simp[qa9,qab,qan]) (by simp[qan]) H
theorem zek{t:Tr} {m:Int} (q:qkz t m=true) (h:qbx t=true):LookOk t:=by
 have q2:=q;simp only[qkz,Bool.and_eq_true,decide_eq_true_eq,List.all_eq_true]at q2;have few:=q2.2;refine⟨fun n hn=>zfw (few_M (few n hn)),fun n hn=>zfx (few_M (few n hn)),fun n hn=>?_,fun n hn=>⟨?_,qoo h n hn⟩⟩
 ·have:=(few_M (few n hn)).2.1;omega
 ·have:=few n hn;simp only[ql0,Bool.and_eq_true,decide_eq_true_eq]at this;have:=this.2.2.1;omega
theorem at_put{p:Nd->Prop} (hp:∀n n':Nd,n.attrs=n'.attrs->p n->p n') {t:Tr} (h:∀n,n∈t->p n) {u:Nat} (hu:u < t.length) {n:Nd} (hn:p n):∀m,m∈qf5 t u n->p m:=by
 have k0:∀x,x∈t++[fresh n]->p x:=fun x hx=>by
  rcases List.mem_append.1 hx with hx|hx
  ·exact h x hx
  ·simp at hx;subst hx;exact hp n _ rfl hn
 have key:∀m,m∈qb8 (t++[fresh n]) u ((qa1 t (u:Int)).kids++[(t.length:Int)])->p m:=fun m hm=>by
  rcases qg4 hm with hm|rfl
  ·exact k0 m hm
  ·exact hp (qa1 (t++[fresh n]) (u:Int)) _ rfl (k0 (qa1 (t++[fresh n]) (u:Int)) (qb3 (by omega) (by simp;omega)))
 intro m hm;unfold qf5 at hm;rcases qg4 hm with hm|rfl
 ·exact key m hm
 ·exact hp (qa1 (qb8 (t++[fresh n]) u ((qa1 t (u:Int)).kids++[(t.length:Int)])) (t.length:Int)) _ rfl (key (qa1 (qb8 (t++[fresh n]) u ((qa1 t (u:Int)).kids++[(t.length:Int)])) (t.length:Int)) (qb3 (t:=qb8 (t++[fresh n]) u ((qa1 t (u:Int)).kids++[(t.length:Int)])) (i:=(t.length:Int)) (by omega) (by rw[qcv (by simp;omega)];simp;omega)))
theorem at_chars{p:Nd->Prop} (hp:∀n n':Nd,n.attrs=n'.attrs->p n->p n') (h0:∀n:Nd,n.attrs=[]->p n) {t:Tr} (h:∀n,n∈t->p n) (hk:qym t) {u:Nat} (hu:u < t.length) {P:List Nd} {s:Str}:∀m,m∈qef P u s t->p m:=by
 have hq:=at_put hp h hu (n:=⟨2,0,[],[],qgn t u s,0,[]⟩) (h0 _ rfl);unfold qef;split
 ·split
  ·rename_i k hk2;have hkr:=qxn hk hu hk2;split
   ·intro m hm;rcases qg4 hm with hm|rfl
    ·exact h m hm
    ·exact hp (qa1 t ((k.toNat:Nat):Int)) _ rfl (h _ (qb3 (by omega) (by omega)))
   ·exact hq
  ·exact hq
 ·exact h
theorem zh2{p:Nd->Prop} (hp:∀n n':Nd,n.attrs=n'.attrs->p n->p n') (h0:∀n:Nd,n.attrs=[]->p n) {v:Tr} (hv:LookOk v) (hvp:∀n,n∈v->p (elN n)) {f:Nat} {rec:List Nd->Int->Nat->Tr->Tr}
  (hrec:∀P k up out,0<=k->k < (v.length:Int)->(∀n,n∈out->p n)->qym out->up < out.length->(∀n,n∈rec P k up out->p n)/\qym (rec P k up out)/\out.length<=(rec P k up out).length) (P:List Nd) (up:Nat) :
  ∀(K:List Int),(∀k,k∈K->0<=k/\k < (v.length:Int))->∀out,(∀n,n∈out->p n)->qym out->up < out.length->(∀n,n∈goM rec v P up K out->p n)/\qym (goM rec v P up K out)/\out.length<=(goM rec v P up K out).length
 |[],_,out,h,hk,hu=>⟨h,hk,Nat.le_refl _⟩
 |k::r,hK,out,h,hk,hu=>by
  obtain⟨k0,k1⟩:=hK k (by simp);have hr:=fun k hk=>hK k (List.mem_cons_of_mem _ hk);have hm:qa1 v k∈v:=qb3 k0 k1;unfold goM;split
  ·obtain⟨m1,m2,m3⟩:=chars_ok (P:=P) (s:=(qa1 v k).data) hk hu;obtain⟨a,b,c⟩:=zh2 hp h0 hv hvp (f:=f) hrec P up r hr _ (at_chars hp h0 h hk hu) m1 (by omega);exact⟨a,b,by omega⟩
  ·split
   ·split
    ·have hl:=qgy out hu (elN (qa1 v k));obtain⟨a,b,c⟩:=hrec (P++[elN (qa1 v k)]) k out.length (qf5 out up (elN (qa1 v k))) k0 k1 (at_put hp h hu (hvp _ hm)) (qzu hk hu _) (by omega);obtain⟨a2,b2,c2⟩:=zh2 hp h0 hv hvp (f:=f) hrec P up r hr _ a b (by omega);exact⟨a2,b2,by omega⟩
    ·obtain⟨a,b,c⟩:=hrec P k up out k0 k1 h hk hu;obtain⟨a2,b2,c2⟩:=zh2 hp h0 hv hvp (f:=f) hrec P up r hr _ a b (by omega);exact⟨a2,b2,by omega⟩
   ·exact zh2 hp h0 hv hvp (f:=f) hrec P up r hr _ h hk hu
theorem zh1{p:Nd->Prop} (hp:∀n n':Nd,n.attrs=n'.attrs->p n->p n') (h0:∀n:Nd,n.attrs=[]->p n) {v:Tr} (hv:LookOk v) (hvp:∀n,n∈v->p (elN n)):∀(f:Nat) (P:List Nd) (i:Int) (up:Nat) (out:Tr),0<=i->i < (v.length:Int)->(∀n,n∈out->p n)->qym out->up < out.length ->
  (∀n,n∈qel f v P i up out->p n)/\qym (qel f v P i up out)/\out.length<=(qel f v P i up out).length
 |0,P,i,up,out,_,_,h,hk,hu=>⟨h,hk,Nat.le_refl _⟩
 |f+1,P,i,up,out,i0,i1,h,hk,hu=>by rw[qel];exact zh2 hp h0 hv hvp (f:=f) (fun P k up out a b c d e=>zh1 hp h0 hv hvp f P k up out a b c d e) P up _ (hv.k _ (qb3 i0 i1)).2 out h hk hu
theorem norm_mo{t:Tr} (hr:qbx t=true) (hv:LookOk (qd2 t)):MoOk (qgg t) (90000 * t.length)/\(qgg t).length<=t.length/\0 < (qgg t).length/\∀n,n∈qgg t->n.attrs.length<=1000:=by
 have hp:=qep (qjr hr (qko hr));obtain⟨a,a2,b⟩:=qpx hv ((qd2 t).length+2) (mL none) 0 0 [root0] 0 (Int.le_refl 0) (by omega) mo_root (by simp);have hct:=zaf hr;have htl:=zcz hr;have e:qgg t=qel ((qd2 t).length+2) (qd2 t) (mL none) 0 0 [root0]:=rfl;rw[<- e]at a b a2;simp only[List.length_cons,List.length_nil]at b a2;obtain⟨c,_⟩:=zh1 (p:=fun n=>n.attrs.length<=1000) (fun n n' h hn=>by rw[<- h];exact hn) (fun n h=>by rw[h];simp) hv (fun n hn=>(hv.e n hn).2.1) ((qd2 t).length+2) (mL none) 0 0 [root0] (Int.le_refl 0) (by omega) (by simp[root0]) mo_root.kd (by simp);rw[<- e]at c;refine⟨qiv a ?_,by omega,by omega,c⟩;have:qx4 (qd2 t) ((qd2 t).length+2) 0<=t.length:=by omega
 have:=Nat.mul_le_mul_left 90000 this;omega
structure M34 (T:List (Entry PG)):Prop where
 hP:qa8 6 T=some e6.g
 hW:qa8 7 T=some e7.g
 hN:qa8 9 T=some e9.g
 hD:qa8 10 T=some e10.g
 hE:qa8 8 T=some e8.g
theorem c3{T:List (Entry PG)} (hT:M34 T) (t:Tr):CA T 3 [qav t] zH (.bool true) zH:=by
 have k0:=fun H=>k6 hT.hP t (m:=40) (by omega) H;have k1:=fun H=>k7 hT.hW H;cases q:qrb t 40 with
 |false=>
  rw[q]at k0;simp only[qav]at k0;refine qa0 (s0:=⟨[0,1,2],[qav t,uD,uD],[],15,⟨0,[[]]⟩⟩) Tryz.func3 rfl rfl rfl ?_
  (repeat' (first
   |with_reducible apply qal
   |(with_reducible apply rE;simp[zS, *,qav];exact rfl)
   |(with_reducible apply qay;simp only[qam,qaj])
   |apply qai rfl
   |(with_reducible apply qa5;simp[zQ,Tryz.f3])))
  all_goals first|exact qa2 rfl (by rfl)|(exfalso;omega)
 |true=>
  obtain⟨hr,hok,hlk,hl40,hs,hn⟩:=zeg q;have q2:qkz t 40=true:=by unfold qrb at q;simp only[Bool.and_eq_true]at q;exact q.1
  rw[q]at k0;have k2:=may_tree hT.hN q;have k3:=fun H=>k10 hT.hD t (zek q2 hr) (by omega) (qt7 hr) H;rw[zec hr]at k3;obtain⟨n1,n2,n3,n4⟩:=norm_mo hr hlk;have k4:=fun H=>k8 hT.hE (qgg t) (qgg t) (by omega) (fun n hn=>⟨n4 n hn,by have:=n1.up.kids n hn;omega⟩) n4 H;simp only[decide_true]at k4;generalize qgg t=u at *;simp only[qav]at k0 k2 k3 k4;refine qa0 (s0:=⟨[0,1,2],[qav t,uD,uD],[],15,⟨0,[[]]⟩⟩) Tryz.func3 rfl rfl rfl ?_;apply ra;simp[zS,qav];apply ra;simp[zS,k0];apply qag rfl;apply qa4;simp only[qam];repeat apply wq
  refine qc8 mixed qbf (by decide +kernel) fun B_ hB_=>?_;have hD_:ahead B_ 0 1=true/\ahead B_ 0 3=true/\ahead B_ 0 4=true/\ahead B_ 0 6=true/\ahead B_ 1 0=false/\ahead B_ 1 2=false/\ahead B_ 2 1=false/\ahead B_ 2 3=true/\ahead B_ 2 4=true/\ahead B_ 2 6=true/\ahead B_ 3 0=false/\ahead B_ 3 2=false/\ahead B_ 4 0=false/\ahead B_ 4 2=false/\ahead B_ 6 0=false/\ahead B_ 6 2=false:=by rw[hB_];decide +kernel
  apply qi9 B_;simp[zS,qdl,qc6,qc3,qbk,qap,qb4,qaz,Heap.lay,qd9,qi7,qi6,qfa,qf9,qf7,qf8,qfo,qfc,qdv,qdw,qfi,qfh,qff,qfg,qfl,qfm,qfk,qfj,hD_,k1,k2,k3,k4];exact rfl;refine⟨_,rfl,?_,?_⟩;simp[zS,qbk,qap,qc7,qcl,qdy,hD_,k1,k2,k3,k4];simp[qc5,Heap.lay,qd9,qam];apply qa5;simp[zQ,Tryz.f3];exact qa2 rfl (by rfl)
def zha:List (Entry PG):=[e6,e7,e9,e10,e8]
theorem qxb:∀t,t∈[24]->PG.readableRec t=true/\t < PG.types.size:=by intro t ht;simp at ht;subst ht;exact⟨by kernel_rfl,by decide +kernel⟩
theorem qpv(H:Type) (enc:TypeId × Value->H) (W:World) (base:Nat) (args:Array Value) (ds gs:List (DataW H)) (before:List MemPlace)
  (hval:∀(j:Nat) t v,Tryz.f3.params[j]? = some t->args[j]? = some v->Value.okWide PG W .any base t v)
  (hW:DataW.Whole enc PG Tryz.f3.params.toList Rows.normalTellsSpec.vars false W args.toList ds gs before) (hsh:W.ShapedOpen PG) (hL:laidMetH PG qxo W) :
  Calls PG 3 args W fun e W'=>∃v,e=.returned v/\Rows.normalTellsSpec.post enc PG Tryz.f3 false true false false W args v W':=by
 have hg:=hgs hsh hL;have hW':=hW;obtain⟨p,q,hA0,hV,rfl,hfz,hnd⟩:=hW;have hA:DataW.TrodAll enc PG W 0 (fun _=>true) true Tryz.f3.params.toList args.toList ds p:=hA0;rw[Tryz.params3]at hA hval;obtain⟨v0,vs0,d0,ds0,p0,q0,hargs,rfl,rfl,h0,r0⟩:=trodAll_cons hA;obtain⟨rfl,rfl,rfl⟩:=trodAll_nil r0;obtain rfl:args = #[v0]:=by cases args;simp_all
 obtain⟨rfl,rfl⟩:=trodVars_none hV;obtain⟨t,ht⟩:=argTree (hg:=hg) h0 (hval 0 24 v0 rfl rfl);refine(zem (hg:=hg) (C:=ctx zha) Tryz.func3 rfl rfl (c3 ⟨rfl,rfl,rfl,rfl,rfl⟩ t) (.cons ht .nil)).mono fun e W' ⟨he,hg⟩=>⟨_,he,?_⟩;exact law_post (tb:=4) laid_ (by rw[Tryz.params3];exact qxb) Tryz.underlying4 rfl rfl ⟨rfl,rfl,rfl⟩ hW' hg
theorem qte(os:Os) (started:os.Started) (H:Type) (enc:TypeId × Value->H) :
  ReturnsInHanded {} Tryz.checked os 3 .any (fun w args=>(Rows.normalTellsSpec.pre enc PG Tryz.f3 [] false w args/\laidMetH PG qxo w)/\sizedMet enc PG Tryz.f3 (OpenSpec.ofChange Rows.normalTellsSpec) false w args) (Rows.normalTellsSpec.post enc PG Tryz.f3 false true false false):=by
 refine qm9 (C:=Tryz.checked) (X:=fun w _=>laidMetH PG qxo w) (fun _ _ _ hh h=>h.of_heap hh) own_ started (by kernel_rfl) Tryz.func3
  (ChangeSpec.witness_shaped (enc:=enc) (C:=Tryz.checked) (os:=os) (X:=fun w _=>laidMetH PG qxo w) false (doorW os) #[.agg #[.slice none 0 0]] 8 rfl (qy7 os _) (by kernel_rfl) (by kernel_rfl) (by kernel_rfl) (door_met os _)) ?_
 intro W base args ds gs before hval hW hsh hL;exact qpv H enc W base args ds gs before hval hW hsh hL
theorem zbl:Rows.NormalTellsSaid:=
 OpenClaim.holds_of_wide 3 Tryz.f3 rfl rfl rfl rfl rfl rfl rfl ⟨rfl,rfl,rfl,rfl,rfl⟩ rfl rfl rfl rfl rfl (by kernel_rfl) Tryz.func3 (by kernel_rfl)
  (of_decide_eq_true (by kernel_rfl)) (by unfold Func.isWrapper;first|(rw[if_pos (by decide +kernel)];kernel_rfl)|(rw[if_neg (by decide +kernel)];exact⟨rfl,rfl⟩))
  (fun os started H enc _=>qte os started H enc)
theorem ntells_holds:Rows.NormalTellsCardSaid:=
 Claim7.holds_tied_plain_at .later [] [.data,.pinned] true Rows.normalTellsCard.stood.harness false
  zbl (fun _ h=>by cases h) (by kernel_rfl) (fun _ h=>by cases h) normalTells_row_tie rfl ⟨rfl,rfl⟩ (by kernel_rfl) rfl
  (fun f fn hf hfn=>by
   obtain rfl : f = 3 := Option.some.inj ((show PG.funcNamed "hoarding/hoardinglaw34.NormalTells" = some 3 by kernel_rfl).symm.trans hf) |>.symm
   obtain rfl:fn=Tryz.f3:=(Option.some.inj (Tryz.func3.symm.trans hfn)).symm;exact⟨by kernel_rfl,fun j t ht=>by rw[Tryz.params3]at ht;have hm:t∈[24]:=(by simpa using Array.mem_of_getElem? ht);have hall:([24].all fun u=>!PG.wantsStandIn u)=true:=(by kernel_rfl);exact(show PG.wantsStandIn t=false by simpa using List.all_eq_true.1 hall t hm)⟩)
  (by kernel_rfl)
