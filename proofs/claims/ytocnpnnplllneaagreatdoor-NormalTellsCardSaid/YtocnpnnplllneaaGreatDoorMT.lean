/- utf8.DecodeRune, told by the reference's reading of a character. No condition. -/
import Derived.Test.YtocnpnnplllneaaGreatDoorMS
import Derived.Shelf.Spec.DecodeRune
namespace Go.Proofs.YtocnpnnplllneaaGreatDoor
noncomputable section
set_option linter.unusedSimpArgs false
set_option linter.unusedVariables false
open Go Go.RowKit
def qob(L:List At1) (a:At1):List At1:=if qih L a.1 < 0 then L++[a] else L
def qj7(n:Nd):List At1->List At1->List At1
 |out,[]=>out
 |out,a::r=>if qg8 { n with attrs:=[(a.1,qgu a.2)] }=true then qj7 n (qob out (a.1,qgu a.2)) r else qj7 n out r
def qic(n:Nd):List At1:=qj7 n [] n.attrs
def qmc(n:Nd):Bool:=decide (n.kind=1) && (decide (n.space=0) && (decide (n.kids=[]) && (decide (n.name=[112,114,101]) || decide (n.name=[116,101,120,116,97,114,101,97]))))
def qgm:Str->Str
 |[]=>[]
 |c::r=>if c=10 then qgm r else c::r
def qib(t:Tr) (i:Nat) (s:Str):Tr:=t.take i++{ qa1 t i with data:=(qa1 t i).data++s }::t.drop (i+1)
def qgn(out:Tr) (up:Nat) (s:Str):Str:=if qmc (qa1 out up)=true then qgm (qgu s) else qgu s
def qvy(out:Tr) (up:Nat):Option Int:=(qa1 out up).kids.getLast?
def qef(P:List Nd) (up:Nat) (s:Str) (out:Tr):Tr:=
 if qfv P (qgn out up s)=true then
  match qvy out up with
  |some k=>if (qa1 out k).kind=2 then qib out k.toNat (qgn out up s) else qf5 out up ⟨2,0,[],[],qgn out up s,0,[]⟩
  |none=>qf5 out up ⟨2,0,[],[],qgn out up s,0,[]⟩
 else out
def elN(n:Nd):Nd:={ n with attrs:=qic n,data:=[] }
def goM(rec:List Nd->Int->Nat->Tr->Tr) (v:Tr) (P:List Nd) (up:Nat):List Int->Tr->Tr
 |[],out=>out
 |k::r,out=>
  if (qa1 v k).kind=2 then goM rec v P up r (qef P up (qa1 v k).data out)
  else if (qa1 v k).kind=1 then
   goM rec v P up r (if qny P (elN (qa1 v k))=true then rec (P++[elN (qa1 v k)]) k out.length (qf5 out up (elN (qa1 v k))) else rec P k up out)
  else goM rec v P up r out
def qel:Nat->Tr->List Nd->Int->Nat->Tr->Tr
 |0,_,_,_,_,out=>out
 |f+1,v,P,i,up,out=>goM (qel f v) v P up (qa1 v i).kids out
set_option maxRecDepth 100000
@[simp]theorem szT42:qce PG 42=some 3:=rfl
@[simp]theorem agT42:qia PG 42=some true:=rfl
@[simp]theorem byT42:qcq PG 42=some 72:=rfl
@[simp]theorem alT42(H:Heap):alV PG H 42=some (.ptr H.n 0,H.new (.cells [.nilS,.nilS,.nilS])):=rfl
@[simp]theorem zeT42:qc0 PG 42=some (.agg [.nilS,.nilS,.nilS]):=rfl
attribute [simp] Tryz.underlying42
@[simp 500]theorem rvF42(H:Heap) (cs:List AV) (o:Nat):qaw PG H 42 (.fptr cs o)=(qex o 3 cs).bind fun cs=>some (.agg cs):=rfl
@[simp 500]theorem rvP42(H:Heap) (b o:Nat):qaw PG H 42 (.ptr b o)=(readCells H b o 3).bind fun cs=>some (.agg cs):=rfl
@[simp]theorem fa42_0(x:AV):qby PG 42 x 0=(match x with | .ptr b o=>some (.ptr b (o+0)) | .fptr cs o=>some (.fptr cs (o+0))|_=>none):=rfl
@[simp]theorem fd42_0(cs:List AV):qdt PG 42 (.agg cs) 0=(qex 0 1 cs).bind fun r=>some (.agg r):=rfl
@[simp]theorem fa42_1(x:AV):qby PG 42 x 1=(match x with | .ptr b o=>some (.ptr b (o+1)) | .fptr cs o=>some (.fptr cs (o+1))|_=>none):=rfl
@[simp]theorem fd42_1(cs:List AV):qdt PG 42 (.agg cs) 1=(qex 1 1 cs).bind fun r=>some (.agg r):=rfl
@[simp]theorem fa42_2(x:AV):qby PG 42 x 2=(match x with | .ptr b o=>some (.ptr b (o+2)) | .fptr cs o=>some (.fptr cs (o+2))|_=>none):=rfl
@[simp]theorem fd42_2(cs:List AV):qdt PG 42 (.agg cs) 2=qck cs 2:=rfl
@[simp]theorem szT55:qce PG 55=some 1:=rfl
@[simp]theorem agT55:qia PG 55=some false:=rfl
@[simp]theorem byT55:qcq PG 55=some 8:=rfl
@[simp]theorem alT55(H:Heap):alV PG H 55=some (.ptr H.n 0,H.new (.cells [.nilP])):=rfl
@[simp]theorem zeT55:qc0 PG 55=some (.nilP):=rfl
attribute [simp] Tryz.underlying55
@[simp 500]theorem rvF55(H:Heap) (cs:List AV) (o:Nat):qaw PG H 55 (.fptr cs o)=qck cs o:=rfl
@[simp 500]theorem rvP55(H:Heap) (b o:Nat):qaw PG H 55 (.ptr b o)=(H.get b).bind fun k=>k.rd.bind fun cs=>qck cs o:=rfl
theorem c56{T:List (Entry PG)} (hA:qIn 51 T e51) (hP:qIn 154 T e154) (hS:qIn 124 T e124) (hH:qIn 125 T e125) (hC:qIn 128 T e128)
  {m pb k:Nat} {A Z:AV} {g:List (Nat × Blk)} {t:Tr} (h:Eok m pb [A] k 7 (t.map qa3) [Z] g) (ht:t.length+1<=1000000) {u:Nat} (hu:u < t.length) (ok:UpOk t) (nd:Nd) (ha:nd.attrs.length<=1000000) :
  CA T 56 [.ptr pb 0,.int .i64 (u:Int),qa3 nd] ⟨m,[VE pb [A] k 7 (t.map qa3) [Z] g]⟩ (.int .i64 (t.length:Int)) ⟨m+1,[VE pb [A] m 7 ((qf5 t u nd).map qa3) [Z] g]⟩:=by
 have pn:qa9 nd.cs=true:=by simp[Nd.cs,qb9,qaf,qa9,qab]
 have h1:=h.extra (m':=m+1+6) (q:=m) (b:=.cells nd.cs) (Nat.le_refl m) (by omega) (qjo pn);have hadd:=(c87 (T:=T) hA h1 ht nd ha).perm (H2:=⟨m+1+6,[[(m,.cells nd.cs)],VE pb [A] k 7 (t.map qa3) [Z] g]⟩) (H2':=⟨m+1+6+1,[[(m,.cells nd.cs)],VE pb [A] (m+1+6) 7 ((t++[fresh nd]).map qa3) [Z] g]⟩) rfl rfl qnq qnq;obtain⟨t1,ht1⟩ : ∃t1,t1=t++[fresh nd]:=⟨_,rfl⟩;have l1:t1.length=t.length+1:=by rw[ht1];simp
 have nu:qa1 t1 (u:Int)=qa1 t (u:Int):=by rw[ht1];exact qkn hu
 have nl:qa1 t1 (t.length:Int)=fresh nd:=by rw[ht1];exact qs1
 have h2:Eok (m+1+6+1+12) pb [A] (m+1+6) 7 (t1.map qa3) [Z] (g++[(m,.cells nd.cs)]):=(h1.next (qbg t1)).mono (by omega) (qbg t1);have mu:qa1 t (u:Int)∈t:=qb3 (by omega) (by omega);have hh:qg6 t1 (t.length:Int) (u:Int)=false:=qqc (fun i hi hlt=>by simp only[isB,Bool.and_eq_true,decide_eq_true_eq]at hi;obtain⟨j,rfl⟩ : ∃j:Nat,i=j:=⟨i.toNat,by omega⟩;rw[ht1,qkn (by omega)];exact ok.up _ (qb3 (by omega) (by omega))) (by omega);have hput:=(c88 (T:=T) hP hS hH hC h2 (by omega) (u:=u) (i:=t.length) (a:=t1.length) (by omega) (by omega) (by omega) hh (by rw[nl];rfl) (by rw[nu];have:=ok.kids _ mu;omega) (by omega)).perm (H2:=⟨m+1+6+1+12,[[(m,.cells nd.cs)],VE pb [A] (m+1+6) 7 (t1.map qa3) [Z] g]⟩) (H2':=⟨m+1+6+1+12,[[(m,.cells nd.cs)],VE pb [A] (m+1+6) 7 ((qf5 t u nd).map qa3) [Z] g]⟩) rfl rfl qnq (by rw[nu,ht1];exact qnq);rw[<- ht1]at hadd;have rd:∀n,qaw PG ⟨n,[[(m,.cells nd.cs)],VE pb [A] (m+1+6) 7 (t1.map qa3) [Z] g]⟩ 22 (.ptr pb 1)=some (qcx (m+1+6) 7 (t1.map qa3)):=fun n=>(rd_nodes (n:=n) (f:=[(m,.cells nd.cs)]) (pb:=pb) (pre:=[A]) (k:=m+1+6) (post:=[Z]) (g:=g) (es:=t1.map qa3) (by have:=h.lp;simp[getF,qao (show m≠pb by omega)])).2;have hne:t1.map qa3≠[]:=by simp[ht1]
 have ln:∀H,qf6 PG H 22 (qcx (m+1+6) 7 (t1.map qa3))=some t1.length:=fun H=>by rw[qbd hne];simp[qf6]
 refine qa0 (s0:=⟨[0,1,2,5,6,7],[.ptr pb 0,.int .i64 (u:Int),qa3 nd,uD,uD,uD],[],26,⟨m,[]::[VE pb [A] k 7 (t.map qa3) [Z] g]⟩⟩) Tryz.func56 rfl rfl rfl ?_;apply ra;simp[zS,qa3];repeat apply wq
 refine qc8 mixed (qbh [⟨87,_,_,_,_,hadd⟩]) (by decide +kernel) fun B_ hB_=>?_;have hD_:ahead B_ 3 4=true/\ahead B_ 4 3=false:=by rw[hB_];decide +kernel
 apply qi9 B_;simp[zS,qdl,qc6,qc3,qbk,qap,qb4,qaz,Heap.lay,qd9,qi7,qi6,qfa,qf9,qf7,qf8,qfo,qfc,qdv,qdw,qfi,qfh,qff,qfg,qfl,qfm,qfk,qfj,hD_,qcc,qa3];exact rfl;refine⟨_,rfl,?_,?_⟩;simp[zS,qbk,qap,qc7,qcl,qdy,hD_,qcc,qa3];simp[qc5,Heap.lay,qd9,qam];repeat apply wq
 refine qc8 mixed (qbh [⟨88,_,_,_,_,hput⟩]) (by decide +kernel) fun B_ hB_=>?_;have hD_:ahead B_ 8 11=true/\ahead B_ 9 11=true/\ahead B_ 11 8=false/\ahead B_ 11 9=false:=by rw[hB_];decide +kernel
 apply qi9 B_;simp[zS,qdl,qc6,qc3,qbk,qap,qb4,qaz,Heap.lay,qd9,qi7,qi6,qfa,qf9,qf7,qf8,qfo,qfc,qdv,qdw,qfi,qfh,qff,qfg,qfl,qfm,qfk,qfj,hD_,qcc,rd,ln];exact rfl;refine⟨_,rfl,?_,?_⟩;simp[zS,qbk,qap,qc7,qcl,qdy,hD_,qcc,rd,ln];simp[qc5,Heap.lay,qd9,qam];apply ra;simp[zS];apply qa5;have hes':(qf5 t u nd).map qa3≠[]:=by simp[qf5,qey]
 have hk':(qf5 t u nd).length=t.length+1:=by unfold qf5;rw[qm7 (by rw[qcv (by simp;omega)];simp),qcv (by simp;omega)];simp
 have nP:pb < m:=h.lp;have q1:Nat.beq m pb=false:=qao (by omega);have q2:Nat.beq m (m+1+6)=false:=qao (by omega);have q3:Nat.beq pb (m+1+6)=false:=qao (by omega);have nd0:=h.nd;rw[List.nodup_cons]at nd0;have hfit:=fit_E (es':=(qf5 t u nd).map qa3) (c:=m+1+6) (cs0:=qa6 ((qf5 t u nd).map qa3)) (H:=⟨m+1+6+1+12,[[(m,.cells nd.cs)],VE pb [A] (m+1+6) 7 ((qf5 t u nd).map qa3) [Z] g]⟩) h (by omega) hes' (fun σ=>qak (qbg _).pure)
  (by simp[zG,VE,q1,qbd hes'])
  (by simp[zG,VE,q2,q3,qbn hes'])
  (fun e he=>by have:=h.lg e he;have e1:pb≠e.1:=fun x=>nd0.1 (List.mem_map.2 ⟨e,he,x.symm⟩);simp[Heap.get,getFs,VE,qbn hes',getF,qao e1,qao (show m≠e.1 by omega),qao (show m+1+6≠e.1 by omega),qmq nd0.2 he])
 simp[zQ,Tryz.f56];refine⟨_,_,?_,hfit⟩;simp[qas,qab]
def mV(j:Nat):Option (List Nd)->AV
 |none=>.nilS
 |some P=>.slc j 0 P.length (.rest 7)
def mL(o:Option (List Nd)):List Nd:=o.getD []
def mG(j:Nat):Option (List Nd)->List (Nat × Blk)
 |none=>[]
 |some P=>[(j,.cells (qa6 (P.map qa3)))]
def mR(v:Tr) (k:Nat) (out:Tr) (j:Nat) (o:Option (List Nd)):List (Nat × Blk):=VE 0 [qaa v] k 7 (out.map qa3) [mV j o] (mG j o)
section
variable {v out:Tr} {m n k j:Nat} {o:Option (List Nd)} {f:List (Nat × Blk)}
theorem zea(k0:0 < k) (km:k < m) (j0:0 < j) (jm:j < m) (h:k≠j):Eok m 0 [qaa v] k 7 (out.map qa3) [mV j o] (mG j o) where
 lp:=by omega
 lk:=⟨km,by cases o<;>simp[mG]<;>omega⟩
 lg:=fun e he=>by
  cases o with
  |none=>simp[mG]at he
  |some P=>simp[mG]at he;subst he;exact jm
 nd:=by cases o<;>simp[mG];omega
 sg:=fun e he=>by
  cases o with
  |none=>simp[mG]at he
  |some P=>simp[mG]at he;subst he;exact qjo (qbg P).pure
 sp:=fun σ hσ=>qak (by simp[qa9,qdh])
 sq:=fun σ hσ=>by
  cases o with
  |none=>exact qak rfl
  |some P=>simp[mV,qax,qas,hσ j jm]
 el:=qbg out
theorem mR_0:getF 0 (mR v k out j o)=some (.cells [qaa v,qcx k 7 (out.map qa3),mV j o]):=VE_p
theorem mR_k(k0:0 < k) (j0:0 < j) (h:k≠j) (hne:out≠[]):getF k (mR v k out j o)=some (.cells (qa6 (out.map qa3))):=
 qx1 (zea (m:=k+j+1) k0 (by omega) j0 (by omega) h) (by simpa using hne)
theorem mget0(hf:getF 0 f=none):Heap.get ⟨n,[f,mR v k out j o]⟩ 0=some (.cells [qaa v,qcx k 7 (out.map qa3),mV j o]):=by simp only[Heap.get,getFs,hf,mR_0]
theorem zef(k0:0 < k) (j0:0 < j) (h:k≠j) (hne:out≠[]) (hf:getF k f=none):Heap.get ⟨n,[f,mR v k out j o]⟩ k=some (.cells (qa6 (out.map qa3))):=by simp only[Heap.get,getFs,hf,mR_k k0 j0 h hne]
theorem rdm_v(hf:getF 0 f=none):qaw PG ⟨n,[f,mR v k out j o]⟩ 22 (.ptr 0 0)=some (qaa v):=by simp[mget0 hf]
theorem zdo(hf:getF 0 f=none):qaw PG ⟨n,[f,mR v k out j o]⟩ 22 (.ptr 0 1)=some (qcx k 7 (out.map qa3)):=by simp[mget0 hf]
theorem zbd(hf:getF 0 f=none):qaw PG ⟨n,[f,mR v k out j o]⟩ 22 (.ptr 0 2)=some (mV j o):=by simp[mget0 hf]
theorem ixm{i:Nat} (hi:i < out.length):qat PG 22 (qcx k 7 (out.map qa3)) (.int .i64 (i:Int))=some (.ptr k (i * 7)):=by rw[qbd (by intro e;have:=congrArg List.length e;simp at this;subst this;simp at hi)];simp[qat,qbv hi]
theorem split7{i:Nat} (hi:i < out.length):qa6 (out.map qa3)=qa6 ((out.take i).map qa3)++(qa1 out i).cs++qa6 ((out.drop (i+1)).map qa3)/\(qa6 ((out.take i).map qa3)).length=i * 7:=by
 constructor
 ·conv=>lhs;rw[qdn hi]
  simp[qbj,qa6]
 ·rw[(qbg _).len];simp;omega
theorem getm{i c:Nat} (hi:i < out.length) (hc:c < 7):qck (qa6 (out.map qa3)) (i * 7+c)=qck (qa1 out i).cs c:=by obtain⟨e,l⟩:=split7 hi;have l7:(qa1 out i).cs.length=7:=rfl;rw[e];generalize qa6 ((out.take i).map qa3)=A at *;generalize qa6 ((out.drop (i+1)).map qa3)=B at *;generalize (qa1 out i).cs=C at *;rw[qe0 (by simp[l,l7];omega),qe0 (by omega),List.getElem_append_left (by simp[l,l7];omega),List.getElem_append_right (by omega)];simp[l]
theorem subm{i:Nat} (hi:i < out.length):qex (i * 7) 7 (qa6 (out.map qa3))=some (qa1 out i).cs:=by obtain⟨e,l⟩:=split7 hi;have l7:(qa1 out i).cs.length=7:=rfl;rw[e];generalize qa6 ((out.take i).map qa3)=A at *;generalize qa6 ((out.drop (i+1)).map qa3)=B at *;generalize (qa1 out i).cs=C at *;rw[<- l];exact qyu rfl l7
theorem rdm_n{i:Nat} (k0:0 < k) (j0:0 < j) (h:k≠j) (hi:i < out.length) (hf:getF k f=none):qaw PG ⟨n,[f,mR v k out j o]⟩ 34 (.ptr k (i * 7))=some (qa3 (qa1 out i)):=by
 have hne:out≠[]:=by intro e;subst e;simp at hi
 simp[readCells,zef k0 j0 h hne hf,Blk.rd,subm hi,qa3]
theorem rdm_ks{i:Nat} (k0:0 < k) (j0:0 < j) (h:k≠j) (hi:i < out.length) (hf:getF k f=none):qaw PG ⟨n,[f,mR v k out j o]⟩ 30 (.ptr k (i * 7+6))=some (qbc (qa1 out i).kids):=by
 have hne:out≠[]:=by intro e;subst e;simp at hi
 simp[zef k0 j0 h hne hf,getm hi,Nd.cs]
theorem rdm_i{i:Nat} (k0:0 < k) (j0:0 < j) (h:k≠j) (hi:i < out.length) (hf:getF k f=none):qaw PG ⟨n,[f,mR v k out j o]⟩ 3 (.ptr k (i * 7))=some (.int .i64 (qa1 out i).kind):=by
 have hne:out≠[]:=by intro e;subst e;simp at hi
 have:=getm (c:=0) hi (by omega);simp at this;simp[zef k0 j0 h hne hf,this,Nd.cs,qb9]
theorem rdm_d{i:Nat} (k0:0 < k) (j0:0 < j) (h:k≠j) (hi:i < out.length) (hf:getF k f=none):qaw PG ⟨n,[f,mR v k out j o]⟩ 9 (.ptr k (i * 7+4))=some (.str (qa1 out i).data):=by
 have hne:out≠[]:=by intro e;subst e;simp at hi
 simp[zef k0 j0 h hne hf,getm hi,Nd.cs]
theorem thm_p(j0:0 < j) (h:k≠j) (hne:out≠[]) (hf:getF j f=none):qe9 ⟨n,[f,mR v k out j o]⟩ [7] (mV j o)=some (qaa (mL o)):=by
 cases o with
 |none=>exact zau (by omega)
 |some P=>
  have hg:Heap.get ⟨n,[f,mR v k out j (some P)]⟩ j=some (.cells (qa6 (P.map qa3))):=by have b1:Nat.beq 0 j=false:=qao (by omega);simp[Heap.get,getFs,hf,mR,VE,qbn (show out.map qa3≠[] by simpa using hne),getF,b1,qao h,mG]
  have:=qp7 (H:=⟨n,[f,mR v k out j (some P)]⟩) (b:=j) (cap:=.rest 7) (r:=[]) (qbg P) (by rw[hg]);simpa[mV,mL]using this
def qdg(t:Tr) (i:Nat) (s:Str):Tr:=t.take i++{ qa1 t i with data:=s }::t.drop (i+1)
theorem qzs{t:Tr} {i:Nat} (h:i < t.length) (x:Str):qh7 [.str x] (i * 7+4) (qa6 (t.map qa3))=some (qa6 ((qdg t i x).map qa3)):=by
 have hl:(qa6 ((t.take i).map qa3)).length=i * 7:=by rw[(qbg _).len];simp;omega
 have e1:qa6 (t.map qa3)=(qa6 ((t.take i).map qa3)++[qb9 (qa1 t i).kind,qb9 (qa1 t i).space,.str (qa1 t i).name,qaf (qa1 t i).attrs])++[.str (qa1 t i).data]++([qb9 (qa1 t i).up,qbc (qa1 t i).kids]++qa6 ((t.drop (i+1)).map qa3)):=by
  conv=>lhs;rw[qdn h]
  simp[qbj,qa6,Nd.cs]
 have e2:qa6 ((qdg t i x).map qa3)=(qa6 ((t.take i).map qa3)++[qb9 (qa1 t i).kind,qb9 (qa1 t i).space,.str (qa1 t i).name,qaf (qa1 t i).attrs])++[.str x]++([qb9 (qa1 t i).up,qbc (qa1 t i).kids]++qa6 ((t.drop (i+1)).map qa3)):=by unfold qdg;simp[qbj,qa6,Nd.cs]
 rw[e1,e2];have:=qhw (a:=qa6 ((t.take i).map qa3)++[qb9 (qa1 t i).kind,qb9 (qa1 t i).space,.str (qa1 t i).name,qaf (qa1 t i).attrs]) (b:=[.str (qa1 t i).data]) (b':=[.str x]) (c:=[qb9 (qa1 t i).up,qbc (qa1 t i).kids]++qa6 ((t.drop (i+1)).map qa3)) rfl;rw[List.length_append,hl]at this;exact this
theorem qpe{t:Tr} {i:Nat} (h:i < t.length) (x:Str):(qdg t i x).length=t.length:=by simp[qdg];omega
theorem setm{i:Nat} (k0:0 < k) (hi:i < out.length) (x:Str):setF k (.cells (qa6 ((qdg out i x).map qa3))) (mR v k out j o)=some (mR v k (qdg out i x) j o):=by
 have hne:out≠[]:=by intro e;subst e;simp at hi
 have hne':(qdg out i x).map qa3≠[]:=by simp[qdg]
 have b1:Nat.beq 0 k=false:=qao (by omega);unfold mR VE;rw[qbn (show out.map qa3≠[] by simpa using hne),qbn hne',qbd (show out.map qa3≠[] by simpa using hne),qbd hne'];simp[setF,b1,qpe hi]
theorem zbx{N k' j' m':Nat} (hN:N<=k'/\N<=j'/\N<=m') (h':0 < k'/\0 < j'/\k' < m'/\j' < m'/\k'≠j') (k0:0 < k) (j0:0 < j) (h:k≠j) (hne:out≠[]) (hf0:getF 0 f=none) (hfk:getF k f=none) (hfj:getF j f=none):FitH N [(k,k'),(j,j'),(0,0)] [] ⟨n,[f,mR v k out j o]⟩ ⟨m',[mR v k' out j' o]⟩ where
 nd1:=by simp;omega
 nd2:=by simp;omega
 nd3:=by have:=(zea (v:=v) (out:=out) (o:=o) (m:=m') (k:=k') (j:=j') (by omega) (by omega) (by omega) (by omega) (by omega));simpa[Heap.ents,mR]using qnr this
 lt:=by simp;omega
 idn:=by simp;omega
 num:=by simp;omega
 src:=by
  intro e he;have hne':out.map qa3≠[]:=by simpa using hne
  simp only[Heap.ents,List.flatten_cons,List.flatten_nil,List.append_nil,mR,VE,qbn hne',List.cons_append,List.nil_append,List.mem_cons]at he;rcases he with rfl|rfl|he
  ·refine⟨0,_,by simp,mget0 hf0,?_⟩;simp only[qi1,List.cons_append,List.nil_append,qax];refine⟨qb5 (qdh v),?_,?_,trivial⟩
   ·rw[qbd hne',qbd hne'];simp[qas,qb2]
   ·cases o with
    |none=>exact qb5 rfl
    |some P=>simp[mV,qas,qb2,h]
  ·exact⟨k,_,by simp,zef k0 j0 h hne hfk,qak (qbg out).pure⟩
  ·cases o with
   |none=>simp[mG]at he
   |some P=>simp[mG]at he;subst he;have b1:Nat.beq 0 j=false:=qao (by omega);exact⟨j,.cells (qa6 (P.map qa3)),by simp,by simp[Heap.get,getFs,hfj,mR,VE,qbn hne',getF,b1,qao h,mG],qak (qbg P).pure⟩
 frz:=fun x h=>by cases h
theorem fitm{N:Nat} (hN:N<=3) (k0:0 < k) (j0:0 < j) (h:k≠j) (hne:out≠[]) (hf0:getF 0 f=none) (hfk:getF k f=none) (hfj:getF j f=none):FitH N [(k,3),(j,4),(0,0)] [] ⟨n,[f,mR v k out j o]⟩ ⟨5,[mR v 3 out 4 o]⟩:=
 zbx (by omega) (by omega) k0 j0 h hne hf0 hfk hfj
end
theorem c53{T:List (Entry PG)} (n:Nd):CA T 53 [qa3 n] zH (.bool (qmc n)) zH:=by
 have hk:((n.kids.length:Nat):Int)=0↔n.kids=[]:=by simp
 refine qa0 (s0:=⟨[0,1,2],[qa3 n,uD,uD],[],27,⟨0,[[]]⟩⟩) Tryz.func53 rfl rfl rfl ?_;apply ra;simp[zS];by_cases h1:n.kind=1
 ·by_cases h2:n.space=0
  ·by_cases h3:n.kids=[]
   ·by_cases h4:n.name=[112,114,101]
    ·apply ra;simp[zS,h1,h2,ql8,h3,h4];apply qa5;simp[zQ,Tryz.f53];exact qa2 rfl (by simp[qmc, *])
    ·apply ra;simp[zS,h1,h2,ql8,h3,h4];apply qa5;simp[zQ,Tryz.f53];exact qa2 rfl (by simp[qmc, *])
   ·apply ra;simp[zS,h1,h2,ql8,hk,h3];apply qa5;simp[zQ,Tryz.f53];exact qa2 rfl (by simp[qmc, *])
  ·apply ra;simp[zS,h1,h2];apply qa5;simp[zQ,Tryz.f53];exact qa2 rfl (by simp[qmc, *])
 ·apply ra;simp[zS,h1];apply qa5;simp[zQ,Tryz.f53];exact qa2 rfl (by simp[qmc, *])
def e53:Entry PG:=mkE 53 [[0,0,0,2,0,0,1]] (fun z:Nd=>[qa3 z]) (fun z=>True) (fun z=>.bool (qmc z)) fun z h=>c53 (T:=[])  z 
theorem k53{T:List (Entry PG)} (hT:qIn 53 T e53) (n:Nd) (H:Heap):qb6 (ctx T) (.fn 53) [qa3 n] H=some (.bool (qmc n),H):=
 qac hT inj_92 (n) trivial rfl (by simp[qan])
theorem c78{T:List (Entry PG)} (s:Str) (c:UInt8) (hs:s.length<=1000000000):CA T 78 [.str s,.int .u8 (c.toNat:Int)] zH (.str (s.dropWhile fun x=>decide (x=c))) zH:=by
 refine qa0 (s0:=⟨[0,1,4],[.str s,.int .u8 c.toNat,uD],[],17,⟨0,[[]]⟩⟩) Tryz.func78 rfl rfl rfl ?_;apply ra;simp[zS];repeat apply wq
 refine qa7 (qb1 (fun x:Str=>(⟨[0,1,4],[.str x,.int .u8 (c.toNat:Int),.str []],[],17,⟨0,[[]]⟩⟩ : St))
  (fun x=>x.length<=1000000000/\(x.dropWhile fun y=>decide (y=c))=(s.dropWhile fun y=>decide (y=c))) (fun x=>x.length) [] [] s ⟨hs,rfl⟩ ⟨rfl,rfl,rfl,by simp[qax,qas,qab,qa9],FitH.nothing⟩ ?_)
 rintro x ⟨hx,he⟩ B hB
 match x,hx,he,hB with
 |[],hx,he,hB=>apply ra;simp[zS];apply qag rfl;apply qar;simp;apply ra;simp[zS];apply qa5;simp[zQ,Tryz.f78];exact qa2 rfl (by rw[<- he];rfl)
 |d::r,hx,he,hB=>
  have i0:qhy PG 9 (.str (d::r)) (.int .i64 0)=some (.int .u8 d.toNat):=qjz (s:=d::r) (i:=0) (by simp);have hsl:∀H:Heap,qdx PG H 9 (.str (d::r)) (some (.int .i64 1)) none none=some (.str r):=fun H=>slStr (H:=H) (s:=d::r) (i:=1) (by simp);have hp:(0:Int) < ((r.length:Nat):Int)+1:=by omega
  have hdc:((d.toNat:Int)=(c.toNat:Int))↔d=c:=⟨fun h=>UInt8.toNat_inj.1 (Int.ofNat_inj.1 h),fun h=>by rw[h]⟩;by_cases h:d=c
  ·subst h;apply ra;simp[zS,i0,hp];apply qai rfl;apply qa4;simp;apply qa7;apply ra;simp[zS,hsl];refine hB _ r (by simp) ⟨by simp at hx;omega,by rw[<- he];simp[List.dropWhile]⟩ ⟨[],[],⟨rfl,rfl,rfl,by simp[qax,qas,qab,qa9],FitH.nothing⟩⟩
  ·apply ra;simp[zS,i0,hp,hdc,h];apply qag rfl;apply qar;simp;apply ra;simp[zS];apply qa5;simp[zQ,Tryz.f78];exact qa2 rfl (by rw[<- he];simp[List.dropWhile,h])
theorem inj_78(x y:Str × UInt8) (h:(fun z:Str × UInt8=>([.str z.1,.int .u8 (z.2.toNat:Int)]:List AV)) x=(fun z:Str × UInt8=>([.str z.1,.int .u8 (z.2.toNat:Int)]:List AV)) y):x=y:=by obtain⟨x0,x1⟩:=x;obtain⟨y0,y1⟩:=y;simp only[List.cons.injEq,and_true]at h;obtain⟨h0,h1⟩:=h;have g0:x0=y0:=AV.str.inj h0;have g1:x1=y1:=UInt8.toNat_inj.1 (Int.ofNat_inj.1 (AV.int.inj h1).2);subst g0 g1;rfl
def e78:Entry PG:=mkE 78 [[],[]] (fun z:Str × UInt8=>[.str z.1,.int .u8 (z.2.toNat:Int)]) (fun z=>(z.1.length<=1000000000)) (fun z=>.str (z.1.dropWhile fun x=>decide (x=z.2))) fun z h=>c78 (T:=[])  z.1 z.2 h
theorem k78{T:List (Entry PG)} (hT:qIn 78 T e78) (s:Str) (c:UInt8) (hs:s.length<=1000000000) (H:Heap):qb6 (ctx T) (.fn 78) [.str s,.int .u8 (c.toNat:Int)] H=some (.str (s.dropWhile fun x=>decide (x=c)),H):=
 qac hT inj_78 (s,c) hs rfl (by simp[qan])
theorem qp5:∀s:Str,qgm s=s.dropWhile fun x=>decide (x=10)
 |[]=>rfl
 |c::r=>by
  unfold qgm;by_cases h:c=10
  ·simp[List.dropWhile,h,qp5 r]
  ·simp[List.dropWhile,h]
theorem c54{T:List (Entry PG)} (h0:qIn 78 T e78) (s:Str) (hs:s.length<=1000000000):CA T 54 [.str s,.str [10]] zH (.str (qgm s)) zH:=by
 have k:∀H,qb6 (ctx T) (.fn 78) [.str s,.int .u8 10] H=some (.str (qgm s),H):=fun H=>by rw[qp5];exact k78 h0 s 10 hs H
 match s,k with
 |[],k=>refine qa0 (s0:=⟨[0,1,4,5,6],[.str [],.str [10],uD,uD,uD],[],37,⟨0,[[]]⟩⟩) Tryz.func54 rfl rfl rfl ?_;apply ra;simp[zS];apply ra;simp[zS];apply qai rfl;apply ra;simp[zS];apply qa5;simp[zQ,Tryz.f54];exact qa2 rfl (by rfl)
 |c::r,k=>generalize qgm (c::r)=z at *;refine qa0 (s0:=⟨[0,1,4,5,6],[.str (c::r),.str [10],uD,uD,uD],[],37,⟨0,[[]]⟩⟩) Tryz.func54 rfl rfl rfl ?_;apply ra;simp[zS];apply ra;simp[zS];apply qag rfl;apply qa4;simp;have i0:qhy PG 9 (.str [10]) (.int .i64 0)=some (.int .u8 10):=qjz (s:=[10]) (i:=0) (by simp);apply ra;simp[zS,i0];apply qai rfl;apply ra;simp[zS,i0,k];apply qa5;simp[zQ,Tryz.f54];exact qa2 rfl (by rfl)
def WF(wb:Nat) (ty:TypeId) (a:AV) (b:Bs) (cs:List AV) (g:List (Nat × Blk)):List (Nat × Blk):=(wb,.obj ty (a::bV b::cs))::(bF b++g)
structure Wok (m wb:Nat) (b:Bs) (cs:List AV) (g:List (Nat × Blk)):Prop where
 lw:wb < m
 lg:∀e,e∈g->e.1 < m
 nd:(wb::g.map (·.1)).Nodup
 hk:b.out≠[]->b.k ∉ wb::g.map (·.1)/\b.k < m
 sg:∀e,e∈g->SelfB m e.2
 sc:∀σ,Idl m σ->qax σ [] cs cs
section
variable {m wb:Nat} {ty:TypeId} {a:AV} {b:Bs} {cs:List AV} {g:List (Nat × Blk)}
theorem Wok.mono(h:Wok m wb b cs g) {m':Nat} (hm:m<=m'):Wok m' wb b cs g where
 lw:=Nat.lt_of_lt_of_le h.lw hm
 lg:=fun e he=>Nat.lt_of_lt_of_le (h.lg e he) hm
 nd:=h.nd
 hk:=fun hne=>⟨(h.hk hne).1,Nat.lt_of_lt_of_le (h.hk hne).2 hm⟩
 sg:=fun e he=>(h.sg e he).mono hm
 sc:=fun σ hσ=>h.sc σ fun i hi=>hσ i (by omega)
theorem Wok.upd(h:Wok m wb b cs g) (s:Str):Wok (m+1) wb (upd m b s) cs g:=by
 have h':=h.mono (Nat.le_succ m);refine⟨h'.lw,h'.lg,h'.nd,?_,h'.sg,h'.sc⟩;cases s with
 |nil=>exact h'.hk
 |cons c r=>
  intro _;refine⟨?_,Nat.lt_succ_self m⟩;intro hx;simp only[Go.Proofs.YtocnpnnplllneaaGreatDoor.upd]at hx;rcases List.mem_cons.1 hx with hx|hx
  ·have:=h.lw;omega
  ·obtain⟨e,he,hx⟩:=List.mem_map.1 hx;have:=h.lg e he;omega
theorem qoh:getF wb (WF wb ty a b cs g)=some (.obj ty (a::bV b::cs)):=by simp[WF,getF]
theorem WF_b(h:Wok m wb b cs g) (hne:b.out≠[]):getF b.k (WF wb ty a b cs g)=some (.buf 5 b.out.length (qad b.out)):=by have h1:=(h.hk hne).1;simp only[List.mem_cons,not_or]at h1;have:Nat.beq wb b.k=false:=qao fun e=>h1.1 e.symm;simp[WF,getF,this,zgw hne]
theorem WF_g(h:Wok m wb b cs g) {e:Nat × Blk} (he:e∈g):getF e.1 (WF wb ty a b cs g)=some e.2:=by
 have nd:=h.nd;rw[List.nodup_cons]at nd;have e1:¬ wb=e.1:=fun x=>nd.1 (List.mem_map.2 ⟨e,he,x.symm⟩);have b1:Nat.beq wb e.1=false:=qao e1;have key:getF e.1 g=some e.2:=by
  have:=qgj (fs:=[g]) (b:=e.1) (k:=e.2) (by simpa using nd.2) (by simpa using he);simp only[getFs]at this;revert this;cases getF e.1 g with
  |none=>intro h;cases h
  |some x=>intro h;exact h
 unfold WF getF;rw[b1];by_cases hne:b.out=[]
 ·obtain⟨k,out⟩:=b;simp only at hne;subst hne;exact key
 ·rw[zgw hne];have h1:=(h.hk hne).1;simp only[List.mem_cons,not_or]at h1;have b2:Nat.beq b.k e.1=false:=qao fun x=>h1.2 (List.mem_map.2 ⟨e,he,x.symm⟩);show getF e.1 ((b.k,_)::g)=_;unfold getF;rw[b2];exact key
theorem qqn{σ:List (Nat × Nat)} {kc k':Nat} {out:Str} (hw:qb2 wb σ=some wb) (hk:out≠[]->qb2 kc σ=some k') (hc:qax σ [] cs cs):qi1 σ [] (.obj ty (.ptr wb 0::bV ⟨kc,out⟩::cs)) (.obj ty (.ptr wb 0::bV ⟨k',out⟩::cs)):=by
 refine⟨rfl,?_⟩;simp only[qax,qas,hw,true_and,and_true];refine⟨?_,hc⟩;cases out with
 |nil=>simp[bV,qas]
 |cons c r=>simp[bV,qas,hk (by simp)]
end
theorem zdn{todo:List Nat} {acc:List (Nat × Blk)}:∀{n:Nat},qgs n todo [] acc=(acc,[])
 |0=>by unfold qgs;rfl
 |n+1=>by unfold qgs;cases todo<;>rfl
theorem promW{wb c:Nat} {f:List (Nat × Blk)} {kb:Blk} (h:getF wb f=some kb):qcy wb [c] [] [[],f]=[[],f]:=by have e2:qph []++[c]=[c]:=rfl;unfold qcy;have hn:getF wb []=none:=rfl;rw[hn];simp only[zdn,e2];unfold qcy;rw[h];rfl
@[simp]theorem pe1:qdm PG .eql 86 .nilP .nilP=some (.bool true):=rfl
@[simp]theorem pe2(b o:Nat):qdm PG .eql 86 (.ptr b o) .nilP=some (.bool false):=rfl
@[simp]theorem pe3(b:Nat):qdm PG .neq 86 (.ptr b 0) (.ptr b 0)=some (.bool false):=by have hs:qce PG 88=some 2:=szT88;have hb:Nat.blt 0 2=true:=rfl;simp[qdm,eqA,hs,Nat.beq_refl,Tryz.underlying86,hb]
theorem cv1{H:Heap} {wb:Nat} {ty:TypeId} {x:AV} {cs:List AV} (hg:H.get wb=some (.obj ty (x::cs))):qh5 PG H 86 134 (.ptr wb 0)=some (.ptr wb 0,H):=by have hs:qce PG 88=some 2:=szT88;have h1:(Nat.blt 0 2 && Nat.blt 0 (x::cs).length)=true:=rfl;simp[qh5,Tryz.underlying86,Tryz.underlying134,hs,hg,Blk.rd,h1];rfl
theorem cv2{H:Heap} {wb:Nat} {ty:TypeId} {cs:List AV} (hg:H.get wb=some (.obj ty cs)) (hl:liesAt PG PG.depth ty (cs.length / PG.cellsOf ty) 0 88 1=true):qh5 PG H 134 86 (.ptr wb 0)=some (.ptr wb 0,H):=by have hs:qce PG 88=some 2:=szT88;simp[qh5,Tryz.underlying86,Tryz.underlying134,hs,hg,hl]
theorem c116{T:List (Entry PG)} (hE:qIn 144 T e144) {m wb:Nat} {ty:TypeId} {a:AV} {b:Bs} {cs:List AV} {g:List (Nat × Blk)} (h:Wok m wb b cs g) (ha:a=.nilP\/a=.ptr wb 0)
  (hl:liesAt PG PG.depth ty ((cs.length+1+1) / PG.cellsOf ty) 0 88 1=true):CA T 116 [.ptr wb 0] ⟨m,[WF wb ty a b cs g]⟩ (.tup []) ⟨m+1,[WF wb ty (.ptr wb 0) b cs g]⟩:=by
 have hfin:∀m1,FitH m (idn m) [] ⟨m1,[[],WF wb ty (.ptr wb 0) b cs g]⟩ ⟨m+1,[WF wb ty (.ptr wb 0) b cs g]⟩:=fun m1=>by
  obtain⟨k,out⟩:=b;exact fitWr (kc:=k) (k':=k) (fz:=out.length) (out:=out) (O:=.obj ty (.ptr wb 0::bV ⟨k,out⟩::cs)) (.inl ⟨rfl,rfl,fun hne=>(h.hk hne).2⟩) (by omega) h.lw h.lg h.nd (fun hne=>(h.hk hne).1) (by simp[zG,qoh])
   (qqn (qc1 h.lw) (fun hne=>qc1 (h.hk hne).2) (h.sc _ (qln m))) (fun hne=>by simp only[zG];rw[WF_b h hne]) (Nat.le_refl _) (fun e he=>⟨by simp only[zG];rw[WF_g h he],h.sg e he⟩)
 have hset:∀x,setF wb (.obj ty (x::bV b::cs)) (WF wb ty a b cs g)=some (WF wb ty x b cs g):=fun x=>by simp[WF,setF]
 refine qa0 (s0:=⟨[0],[.ptr wb 0],[],20,⟨m,[]::[WF wb ty a b cs g]⟩⟩) Tryz.func116 rfl rfl rfl ?_;have hg:∀x,Heap.get ⟨m,[[],WF wb ty x b cs g]⟩ wb=some (.obj ty (x::bV b::cs)):=fun x=>by simp[zG,qoh]
 rcases ha with rfl|rfl
 ·have v1:=cv1 (hg .nilP);have v2:=cv2 (hg .nilP) (by simpa using hl);apply ra;simp[zS,qoh];apply qai rfl;apply ra;simp[zS,v1,v2,k144 hE,qoh,promW qoh,hset];exact⟨[],rfl,idn m,[],by simp[oneOr,qas,qax],hfin m⟩
 ·apply ra;simp[zS,qoh];apply qag rfl;apply ra;simp[zS,qoh];apply qag rfl;apply qa4;simp;exact⟨[],rfl,idn m,[],by simp[oneOr,qas,qax],hfin m⟩
theorem qv4{n b:Nat} {k:Blk} {x:Nat × Blk} {f acc:List (Nat × Blk)} (h:getF b (x::f)=some k) (hk:qr7 k=[]):qgs (Nat.succ (Nat.succ n)) [b] (x::f) acc=((b,k)::acc,killF b (x::f)):=by unfold qgs;simp only[h,hk,List.nil_append];unfold qgs;rfl
theorem prom2{wb c:Nat} {k:Blk} {x:Nat × Blk} {f1 f2:List (Nat × Blk)} {kb:Blk} (n1:getF wb (x::f1)=none) (n2:getF wb f2=some kb) (h1:getF c (x::f1)=some k) (hk:qr7 k=[]) :
  qcy wb [c] [] [x::f1,f2]=[killF c (x::f1),(c,k)::f2]:=by
 have r1:qgs 100000 [c] (x::f1) []=([(c,k)],killF c (x::f1)):=qv4 (n:=99998) h1 hk;have e1:qph [(c,k)]++[c]=[c]:=by simp[qph,hk]
 unfold qcy;rw[n1];simp only[r1,e1];unfold qcy;rw[n2];rfl
theorem qn5(t:TypeId) (fz:Nat) (s:Str):qr7 (.buf t fz (qad s))=[]:=by
 show (qad s).flatMap (refs 4)=[];induction s with
 |nil=>rfl
 |cons c r ih=>rw[qad,List.flatMap_cons,ih];rfl
theorem src_str{H:Heap} (s:Str):qc9 (.str s)=some s.length/\qba H 1 s.length (.str s)=some (qad s):=by refine⟨rfl,?_⟩;simp[qba]
theorem zel{α:Type}:∀(n:Nat) (l:List α),n<=l.length->qh7 [] n l=some l
 |0,l,_=>by unfold qh7 qij;rfl
 |n+1,[],h=>by simp at h
 |n+1,x::r,h=>by show (qh7 [] n r).bind _=_;rw[zel n r (by simpa using h)];rfl
theorem qjm{b:Nat} {k:Blk}:∀{l:List (Nat × Blk)},getF b l=some k->setF b k l=some l
 |[],h=>by cases h
 |x::r,h=>by
  unfold getF at h;unfold setF;split at h
  next hb=>simp only[sj]at h;rw[<- Nat.eq_of_beq_eq_true hb,<- h]
  next hb=>rw[qjm h];rfl
theorem zh6{m wb:Nat} {ty:TypeId} {a:AV} {b:Bs} {cs:List AV} {g:List (Nat × Blk)} (h:Wok m wb b cs g) (s:Str) (hl:b.out.length+s.length<=1000000000) (x:AV) (hx:∀H,qc9 x=some s.length/\qba H 1 s.length x=some (qad s)) :
  qbz PG ⟨m,[[],WF wb ty a b cs g]⟩ 5 (bV b) x=match (generalizing:=false) s with
   |[]=>some (bV b,⟨m,[[],WF wb ty a b cs g]⟩)
   |_::_=>some (.slc m 0 (b.out.length+s.length) (.rest 1),⟨m+1,[[(m,.buf 5 (if b.out=[] then 0 else b.out.length) (qad (b.out++s)))],(wb,.obj ty (a::bV b::cs))::g]⟩):=by
 have hsz:qce PG 5=some 1:=szT5;have hby:qcq PG 5=some 1:=byT5;have hz:qc0 PG 5=some (.int .u8 0):=zeT5;have hroom:∀n,n<=1000000000->qcw n 1=true:=fun n hn=>by simp[qcw];omega
 have c0:(Nat.beq 1 0 || !(Nat.beq (AV.cells (.int .u8 0)).length 1 && Nat.blt 0 1))=false:=rfl;have hrow:∀cs,qom PG 5 cs=.buf 5 0 cs:=fun cs=>rfl;obtain⟨hx1,hx2⟩:=hx ⟨m,[[],WF wb ty a b cs g]⟩;obtain⟨k,out⟩:=b;simp only at hl;unfold qbz;simp only[hsz,hby,hz,hx1,Option.bind_some,c0];cases out with
 |nil=>
  simp only[bV];cases s with
  |nil=>rfl
  |cons d q=>have hr:=hroom (q.length+1) (by simp at hl;omega);have hcb:Nat.beq (qad (d::q)).length ((q.length+1) * 1)=true:=(by rw[qd3];simp);simp only[List.length_cons]at hx2 ⊢;simp only[hr,hx2,Option.bind_some,hcb,hrow];simp[Heap.new,pushF,WF,bV,bF]
 |cons c r=>
  have hg:Heap.get ⟨m,[[],WF wb ty a ⟨k,c::r⟩ cs g]⟩ k=some (.buf 5 (c::r).length (qad (c::r))):=by have:=WF_b (ty:=ty) (a:=a) h (by simp);simp only[zG];rw[this]
  have hk:qcp ⟨m,[[],WF wb ty a ⟨k,c::r⟩ cs g]⟩ k=some (c::r).length:=by unfold qcp;simp only[hg,Option.bind_some,Blk.rd,qd3]
  have hr:=hroom ((c::r).length+s.length) hl;have h1:Nat.beq 1 1=true:=rfl;simp only[bV,hx2,Option.bind_some,hr,qkc,h1,hk];cases s with
  |nil=>have h2:Nat.ble (0+((c::r).length+([]:Str).length) * 1) (c::r).length=true:=(by simp);simp only[h2];have hw:writeCells ⟨m,[[],WF wb ty a ⟨k,c::r⟩ cs g]⟩ k (0+(c::r).length * 1) (qad [])=some ⟨m,[[],WF wb ty a ⟨k,c::r⟩ cs g]⟩:=(by have hs:setF k (.buf 5 (c::r).length (qad (c::r))) (WF wb ty a ⟨k,c::r⟩ cs g)=some (WF wb ty a ⟨k,c::r⟩ cs g):=qjm (WF_b (ty:=ty) (a:=a) h (by simp));have hw1:Blk.wt (.buf 5 (c::r).length (qad (c::r))) (0+(c::r).length * 1)=some (qad (c::r)):=(by have:Nat.ble (c::r).length (0+(c::r).length * 1)=true:=(by simp);simp only[Blk.wt,this]);have hl2:qh7 (qad []) (0+(c::r).length * 1) (qad (c::r))=some (qad (c::r)):=zel _ _ (by rw[qd3];simp);simp only[writeCells,hg,Option.bind_some,hw1,hl2];have hb0:qad []=[]:=rfl;rw[hb0];simp only[Heap.ready,List.flatMap_nil,Heap.set,setFs,setF,Blk.re,hs,Option.bind_some,Option.bind_none]);rw[hw];simp
  |cons d q=>have h2:Nat.ble (0+((c::r).length+(d::q).length) * 1) (c::r).length=false:=(by rw[<- Bool.not_eq_true,Nat.ble_eq];simp);have h3:Nat.beq (0+(c::r).length * 1) (c::r).length=true:=(by simp);have h4:readCells ⟨m,[[],WF wb ty a ⟨k,c::r⟩ cs g]⟩ k 0 ((c::r).length * 1)=some (qad (c::r)):=(by unfold readCells;simp only[hg,Option.bind_some,Blk.rd,qex,List.drop_zero,Nat.mul_one];rw[<- qd3 (c::r)];exact qco _);have h5:Nat.beq (qad (d::q)).length ((d::q).length * 1)=true:=(by rw[qd3];simp);have h6:goOn (.buf 5 (c::r).length (qad (c::r))) 5 0 (qad (c::r)++qad (d::q))=some (.buf 5 (c::r).length (qad (c::r)++qad (d::q))):=rfl;simp only[h2,h3,h4,h5,Option.bind_some,hg,h6];have hd:Heap.drop ⟨m,[[],WF wb ty a ⟨k,c::r⟩ cs g]⟩ k=⟨m,[[],(wb,.obj ty (a::bV ⟨k,c::r⟩::cs))::g]⟩:=(by have hkw:=(h.hk (by simp)).1;simp only[List.mem_cons,not_or]at hkw;have e1:Nat.beq wb k=false:=qao fun e=>hkw.1 e.symm;simp[Heap.drop,qen,getF,WF,e1,bF,killF]);rw[hd,<- qqy];simp[Heap.new,pushF,bV]
theorem app_bs{m wb:Nat} {ty:TypeId} {a:AV} {b:Bs} {cs:List AV} {g:List (Nat × Blk)} (h:Wok m wb b cs g) (s:Str) (hl:b.out.length+s.length<=1000000000) :
  qbz PG ⟨m,[[],WF wb ty a b cs g]⟩ 5 (bV b) (.str s)=match (generalizing:=false) s with
   |[]=>some (bV b,⟨m,[[],WF wb ty a b cs g]⟩)
   |_::_=>some (.slc m 0 (b.out.length+s.length) (.rest 1),⟨m+1,[[(m,.buf 5 (if b.out=[] then 0 else b.out.length) (qad (b.out++s)))],(wb,.obj ty (a::bV b::cs))::g]⟩):=zh6 h s hl (.str s) fun _=>src_str s
theorem qkq{m n wb:Nat} {ty:TypeId} {b:Bs} {cs:List AV} {g:List (Nat × Blk)} (h:Wok m wb b cs g):FitH m (idn m) [] ⟨n,[[],WF wb ty (.ptr wb 0) b cs g]⟩ ⟨m+1,[WF wb ty (.ptr wb 0) b cs g]⟩:=by
 obtain⟨k,out⟩:=b;exact fitWr (kc:=k) (k':=k) (fz:=out.length) (out:=out) (O:=.obj ty (.ptr wb 0::bV ⟨k,out⟩::cs)) (.inl ⟨rfl,rfl,fun hne=>(h.hk hne).2⟩) (by omega) h.lw h.lg h.nd (fun hne=>(h.hk hne).1) (by simp[zG,qoh])
  (qqn (qc1 h.lw) (fun hne=>qc1 (h.hk hne).2) (h.sc _ (qln m))) (fun hne=>by simp only[zG];rw[WF_b h hne]) (Nat.le_refl _) (fun e he=>⟨by simp only[zG];rw[WF_g h he],h.sg e he⟩)
theorem zfp{m n c wb fz:Nat} {ty:TypeId} {out:Str} {b0:Bs} {cs:List AV} {g:List (Nat × Blk)} (h:Wok m wb b0 cs g) (hc:m<=c) (hne:out≠[]) (hfz:fz<=out.length) :
  FitH m ((c,m)::idn m) [] ⟨n,[[],(c,.buf 5 fz (qad out))::(wb,.obj ty (.ptr wb 0::.slc c 0 out.length (.rest 1)::cs))::g]⟩ ⟨m+1,[WF wb ty (.ptr wb 0) ⟨m,out⟩ cs g]⟩:=by
 have hw:Nat.beq c wb=false:=qao (by have:=h.lw;omega);have hbv:bV ⟨c,out⟩=.slc c 0 out.length (.rest 1):=bV_ne (b:=⟨c,out⟩) hne;have idl:=qmn (m:=m) (k:=c) (k':=m) hc;refine fitWr (kc:=c) (k':=m) (fz:=fz) (out:=out) (O:=.obj ty (.ptr wb 0::.slc c 0 out.length (.rest 1)::cs)) (.inr ⟨rfl,rfl,hc⟩) (by omega) h.lw h.lg h.nd (fun _ hx=>?_) (by simp[zG,hw]) ?_ (fun _=>by simp[zG]) hfz (fun e he=>⟨?_,h.sg e he⟩)
 ·rcases List.mem_cons.1 hx with hx|hx
  ·have:=h.lw;omega
  ·obtain⟨e,he,hx⟩:=List.mem_map.1 hx;have:=h.lg e he;omega
 ·rw[<- hbv];exact qqn (idl _ h.lw) (fun _=>by simp[qb2]) (h.sc _ idl)
 ·have nd:=h.nd;rw[List.nodup_cons]at nd;have e1:Nat.beq wb e.1=false:=qao fun x=>nd.1 (List.mem_map.2 ⟨e,he,x.symm⟩);have e2:Nat.beq c e.1=false:=qao (by have:=h.lg e he;omega);have:=qgj (fs:=[g]) (b:=e.1) (k:=e.2) (by simpa using nd.2) (by simpa using he);simp only[getFs]at this;simp only[zG,e1,e2];exact this
theorem c74{T:List (Entry PG)} (hE:qIn 144 T e144) {m wb:Nat} {ty:TypeId} {a:AV} {b:Bs} {cs:List AV} {g:List (Nat × Blk)} (h:Wok m wb b cs g) (ha:a=.nilP\/a=.ptr wb 0)
  (hl:liesAt PG PG.depth ty ((cs.length+1+1) / PG.cellsOf ty) 0 88 1=true) (s:Str) (hs:b.out.length+s.length<=1000000000) :
  CA T 74 [.ptr wb 0,.str s] ⟨m,[WF wb ty a b cs g]⟩ (.tup [.int .i64 (s.length:Nat),.nilI]) ⟨m+1,[WF wb ty (.ptr wb 0) (upd m b s) cs g]⟩:=by
 have hcc:=(c116 (T:=T) hE h ha hl).perm (H2:=⟨m,[[],WF wb ty a b cs g]⟩) (H2':=⟨m+1,[[],WF wb ty (.ptr wb 0) b cs g]⟩) rfl rfl (by simp[Heap.ents]) (by simp[Heap.ents]);have h1:=h.mono (Nat.le_succ m);have happ:=app_bs (ty:=ty) (a:=.ptr wb 0) h1 s hs;refine qa0 (s0:=⟨[0,1,4,5],[.ptr wb 0,.str s,uD,uD],[],19,⟨m,[]::[WF wb ty a b cs g]⟩⟩) Tryz.func74 rfl rfl rfl ?_;apply ra;simp[zS];repeat apply wq
 refine qah (qbh [⟨116,_,_,_,_,hcc⟩]) ?_;simp[zS,qcc];have hO:∀n,Heap.get ⟨n,[[],WF wb ty (.ptr wb 0) b cs g]⟩ wb=some (.obj ty (.ptr wb 0::bV b::cs)):=fun n=>by simp[zG,qoh]
 cases s with
 |nil=>
  simp only at happ;have hset:setF wb (.obj ty (.ptr wb 0::bV b::cs)) (WF wb ty (.ptr wb 0) b cs g)=some (WF wb ty (.ptr wb 0) b cs g):=qjm qoh;obtain⟨k,out⟩:=b;cases out with
  |nil=>simp only[bV]at happ hset;apply ra;simp[zS,qoh,bV,happ,hset];apply ra;simp[zS];apply qa5;simp[zQ,Tryz.f74];exact⟨idn m,[],by simp[qas,qax,qab,qa9],qkq h⟩
  |cons c r=>simp only[bV,List.length_cons]at happ hset;apply ra;simp[zS,qoh,bV,happ,hset,promW qoh];apply ra;simp[zS];apply qa5;simp[zQ,Tryz.f74];exact⟨idn m,[],by simp[qas,qax,qab,qa9],qkq h⟩
 |cons d q=>simp only at happ;have hbw:Nat.beq (m+1) wb=false:=qao (by have:=h.lw;omega);have pr:=prom2 (wb:=wb) (c:=m+1) (k:=.buf 5 (if b.out=[] then 0 else b.out.length) (qad (b.out++d::q))) (x:=(m+1,.buf 5 (if b.out=[] then 0 else b.out.length) (qad (b.out++d::q)))) (f1:=[]) (f2:=(wb,.obj ty (.ptr wb 0::bV b::cs))::g) (kb:=.obj ty (.ptr wb 0::bV b::cs)) (by simp[getF,hbw]) (by simp[getF]) (by simp[getF]) (qn5 _ _ _);apply ra;simp[zS,qoh,happ,hbw,pr,killF];apply ra;simp[zS];apply qa5;simp[zQ,Tryz.f74];refine⟨(m+1,m)::idn m,[],by simp[qas,qax,qab,qa9],?_⟩;have:=zfp (n:=m+1+1) (ty:=ty) (c:=m+1) (out:=b.out++d::q) (fz:=if b.out=[] then 0 else b.out.length) h (by omega) (by simp) (by split<;>simp);simpa[upd]using this
theorem src_aB{s:Str} (H:Heap):qc9 (aB s)=some s.length/\qba H 1 s.length (aB s)=some (qad s):=by
 refine⟨by simp[aB,qc9,qd3],?_⟩;have h1:(qad s).take s.length=qad s:=by rw[List.take_of_length_le];rw[qd3];exact Nat.le_refl _
 have h2:∀s:Str,qa6 (qad s)=qad s:=fun s=>by
  induction s with
  |nil=>rfl
  |cons c r ih=>simp[qad,qa6,ih]
 simp[aB,qba,h1,h2]
theorem c76{T:List (Entry PG)} (hE:qIn 144 T e144) {m wb:Nat} {ty:TypeId} {a:AV} {b:Bs} {cs:List AV} {g:List (Nat × Blk)} (h:Wok m wb b cs g) (ha:a=.nilP\/a=.ptr wb 0)
  (hl:liesAt PG PG.depth ty ((cs.length+1+1) / PG.cellsOf ty) 0 88 1=true) (s:Str) (hs:b.out.length+s.length<=1000000000) :
  CA T 76 [.ptr wb 0,aB s] ⟨m,[WF wb ty a b cs g]⟩ (.tup [.int .i64 (s.length:Nat),.nilI]) ⟨m+1,[WF wb ty (.ptr wb 0) (upd m b s) cs g]⟩:=by
 have hcc:=(c116 (T:=T) hE h ha hl).perm (H2:=⟨m,[[],WF wb ty a b cs g]⟩) (H2':=⟨m+1,[[],WF wb ty (.ptr wb 0) b cs g]⟩) rfl rfl (by simp[Heap.ents]) (by simp[Heap.ents]);have h1:=h.mono (Nat.le_succ m);have happ:=zh6 (ty:=ty) (a:=.ptr wb 0) h1 s hs (aB s) src_aB;refine qa0 (s0:=⟨[0,1,4,5],[.ptr wb 0,aB s,uD,uD],[],19,⟨m,[]::[WF wb ty a b cs g]⟩⟩) Tryz.func76 rfl rfl rfl ?_;apply ra;simp[zS];repeat apply wq
 refine qah (qbh [⟨116,_,_,_,_,hcc⟩]) ?_;simp[zS,qcc];have hO:∀n,Heap.get ⟨n,[[],WF wb ty (.ptr wb 0) b cs g]⟩ wb=some (.obj ty (.ptr wb 0::bV b::cs)):=fun n=>by simp[zG,qoh]
 cases s with
 |nil=>
  simp only at happ;have hset:setF wb (.obj ty (.ptr wb 0::bV b::cs)) (WF wb ty (.ptr wb 0) b cs g)=some (WF wb ty (.ptr wb 0) b cs g):=qjm qoh;obtain⟨k,out⟩:=b;cases out with
  |nil=>simp only[bV]at happ hset;apply ra;simp[zS,qoh,bV,happ,hset];apply ra;simp[zS,qre];apply qa5;simp[zQ,Tryz.f76];exact⟨idn m,[],by simp[qas,qax,qab,qa9],qkq h⟩
  |cons c r=>simp only[bV,List.length_cons]at happ hset;apply ra;simp[zS,qoh,bV,happ,hset,promW qoh];apply ra;simp[zS,qre];apply qa5;simp[zQ,Tryz.f76];exact⟨idn m,[],by simp[qas,qax,qab,qa9],qkq h⟩
 |cons d q=>simp only at happ;have hbw:Nat.beq (m+1) wb=false:=qao (by have:=h.lw;omega);have pr:=prom2 (wb:=wb) (c:=m+1) (k:=.buf 5 (if b.out=[] then 0 else b.out.length) (qad (b.out++d::q))) (x:=(m+1,.buf 5 (if b.out=[] then 0 else b.out.length) (qad (b.out++d::q)))) (f1:=[]) (f2:=(wb,.obj ty (.ptr wb 0::bV b::cs))::g) (kb:=.obj ty (.ptr wb 0::bV b::cs)) (by simp[getF,hbw]) (by simp[getF]) (by simp[getF]) (qn5 _ _ _);apply ra;simp[zS,qoh,happ,hbw,pr,killF];apply ra;simp[zS,qre];apply qa5;simp[zQ,Tryz.f76];refine⟨(m+1,m)::idn m,[],by simp[qas,qax,qab,qa9],?_⟩;have:=zfp (n:=m+1+1) (ty:=ty) (c:=m+1) (out:=b.out++d::q) (fz:=if b.out=[] then 0 else b.out.length) h (by omega) (by simp) (by split<;>simp);simpa[upd]using this
def qvw:Go.Shelf.Ren:=⟨fun | 32=>72 | 49=>114|n=>n,fun | 0=>0 | 3=>3 | 4=>4 | 5=>5 | 21=>21 | 25=>130 | 30=>74 | 33=>89 | 66=>129 | 68=>132 | 69=>133|n=>n,fun | 2=>0 | 3=>1|n=>n⟩
theorem lays7_32:Go.Proofs.Lays7.n32 PG qvw where
 mixed:=by kernel_rfl
 f32:=Tryz.func72.trans (congrArg some (by kernel_rfl))
 f49:=Tryz.func114.trans (congrArg some (by kernel_rfl))
 t0:=Tryz.underlying0
 a0:=Tryz.isAgg0
 z0:=Tryz.sizeOf0
 v0:=Tryz.zeroValue0
 i0:=by kernel_rfl
 t3:=Tryz.underlying3
 a3:=Tryz.isAgg3
 z3:=Tryz.sizeOf3
 v3:=Tryz.zeroValue3
 i3:=by kernel_rfl
 t4:=Tryz.underlying4
 a4:=Tryz.isAgg4
 z4:=Tryz.sizeOf4
 v4:=Tryz.zeroValue4
 i4:=by kernel_rfl
 t5:=Tryz.underlying5
 a5:=Tryz.isAgg5
 z5:=Tryz.sizeOf5
 v5:=Tryz.zeroValue5
 i5:=by kernel_rfl
 t21:=Tryz.underlying21
 a21:=Tryz.isAgg21
 z21:=Tryz.sizeOf21
 v21:=Tryz.zeroValue21
 i21:=by kernel_rfl
 t25:=Tryz.underlying130
 a25:=Tryz.isAgg130
 z25:=Tryz.sizeOf130
 v25:=Tryz.zeroValue130
 i25:=by kernel_rfl
 t30:=Tryz.underlying74
 a30:=Tryz.isAgg74
 z30:=Tryz.sizeOf74
 v30:=Tryz.zeroValue74
 i30:=by kernel_rfl
 t33:=Tryz.underlying89
 a33:=Tryz.isAgg89
 z33:=Tryz.sizeOf89
 v33:=Tryz.zeroValue89
 i33:=by kernel_rfl
 t66:=Tryz.underlying129
 a66:=Tryz.isAgg129
 z66:=Tryz.sizeOf129
 t68:=Tryz.underlying132
 a68:=Tryz.isAgg132
 z68:=Tryz.sizeOf132
 v68:=Tryz.zeroValue132
 i68:=by kernel_rfl
 t69:=Tryz.underlying133
 a69:=Tryz.isAgg133
 z69:=Tryz.sizeOf133
 v69:=Tryz.zeroValue133
 i69:=by kernel_rfl
 g2:=by kernel_rfl
 g3:=by kernel_rfl
theorem qsn:∀(s:Str) (j:Nat),(qad s).getD j .undef=if h:j < s.length then .int .u8 (s[j].toNat:Int) else .undef
 |[],j=>by simp[qad]
 |c::r,0=>by simp[qad]
 |c::r,j+1=>by have ih:=qsn r j;simp only[qad,List.getD_cons_succ,ih,List.length_cons,Nat.add_lt_add_iff_right,List.getElem_cons_succ]
theorem zgo{s:Str} {j:Nat} (h:j < s.length) (h':j < (qad s).length):(qad s)[j]=.int .u8 (s[j].toNat:Int):=by have:=qsn s j;rw[dif_pos h,List.getD_eq_getElem?_getD,List.getElem?_eq_getElem h']at this;exact this
theorem byte_at{s:Str} {j:Nat} (hj:j < s.length):((⟨s.toArray⟩ : ByteArray).get! j)=s.getD j 0:=by show s.toArray[j]! = _;simp[List.getD_eq_getElem?_getD,hj]
theorem c72{T:List (Entry PG)} (s:Str) (hne:s≠[]) (hl:s.length<=1000000):CA T 72 [aB s] zH (.tup [.int .i32 (Lib.decodeGo ⟨s.toArray⟩).1,.int .i64 (Lib.decodeGo ⟨s.toArray⟩).2]) zH:=by
 intro ρ w xs sm hx
 match xs,hx with
 |[x],hx=>
  have h0:=hx.2 0 (by simp) (by simp);simp only[List.getElem_cons_zero]at h0;have hpos:=List.length_pos_iff.2 hne;have hbl:(qad s).length=s.length:=qd3 s;unfold aB at h0;generalize hM:qad s=M at h0 hbl;cases h0 with
  |fnil=>simp at hbl;omega
  |fnone=>simp at hbl;omega
  |fslc _ _ cb off cap vs hB hcap hz hc hv=>
   have hsz:(⟨s.toArray⟩ : ByteArray).size=M.length:=(by show s.toArray.size=_;simp[hbl]);have hcell:∀j,j < (⟨s.toArray⟩ : ByteArray).size->w.cell? ⟨cb,off+j,none⟩=some (.int .u8 ((⟨s.toArray⟩ : ByteArray).get! j).toNat):=fun j hj=>(by have hj':j < M.length:=(by rw[<- hsz];exact hj);have hjs:j < s.length:=(by omega);have h1:=hc j hj' 0 (by omega);have hjc:M[j]=.int .u8 (s[j].toNat:Int):=(by subst hM;exact zgo hjs hj');have h2:=hv j hj' 0 (by rw[hjc];simp[AV.cells]);have hcs:M[j].cells=[.int .u8 (s[j].toNat:Int)]:=(by rw[hjc];rfl);simp only[hcs,List.getElem_cons_zero]at h2;have h3:vs j 0=.int .u8 (s[j].toNat:Int):=(by generalize vs j 0=z at h2;cases h2;rfl);rw[h3]at h1;have h4:w.cell? ⟨cb,off+j * 1+0,none⟩=ρ.W.cell? ⟨cb,off+j * 1+0,none⟩:=(by simp only[World.cell?];rw[sm.below cb hB]);rw[Nat.mul_one,Nat.add_zero]at h4 h1;rw[h4,h1,byte_at hjs];simp[List.getD_eq_getElem?_getD,hjs]);have hrun:(callFunc 72 #[.slice (some ⟨cb,off,none⟩) M.length cap]).run (ctx T).P w=.ok (.enter 72 #[.slice (some ⟨cb,off,none⟩) M.length cap]) w:=by
    have hf:(ctx T).P.funcs[72]? = some Tryz.f72:=Tryz.func72
    have hn : ¬ Tryz.f72.name = "runtime.NumGoroutine" := by decide +kernel
    simp[callFunc,hf,hn,Tryz.f72]
   refine .inr ⟨72,_,hrun,callsIn_wide.2 ?_⟩;rw[<- hsz];refine(Go.Proofs.Any7.utf8_DecodeRune lays7_32 ⟨s.toArray⟩ cb off cap w (zd3 sm) hcell).mono ?_;rintro e w' ⟨rfl,hb⟩;refine⟨_,ρ,rfl,.tup _ _ rfl fun i h h'=>?_,qn3 sm hb,qld hb⟩
   match i,h,h' with
   |0,_,_=>exact .int _ _
   |1,_,_=>exact .int _ _
set_option maxHeartbeats 2000000
def bndN(c:Nat):AV:=.tup [.int .i64 (qdi c:Nat),.int .u8 (if qdi c=0 then 0 else loN c:Nat),.int .u8 (if qdi c=0 then 0 else hiN c:Nat)]
theorem c115{T:List (Entry PG)} (c:Nat) (hc:c < 256):CA T 115 [.int .u8 (c:Int)] zH (bndN c) zH:=by
 refine qa0 (s0:=⟨[0,2,3,4,18],[.int .u8 (c:Int),uD,uD,uD,uD],[],30,⟨0,[[]]⟩⟩) Tryz.func115 rfl rfl rfl ?_
 (repeat' (first
  |with_reducible apply qal
  |with_reducible apply qa7
  |(with_reducible apply rE;simp[zS, *];exact rfl)
  |(with_reducible apply qay;simp only[qam,qaj])
  |(with_reducible refine qb7 (fun hc=>?_) (fun hc=>?_)<;>(have hd:=hc;(try simp at hd);(try subst hd);apply qfx;simp[zS, *];exact rfl))
  |(with_reducible refine qkm (fun hc=>?_) (fun hc=>?_)<;>(have hd:=hc;(try simp at hd);(try subst hd);apply qfx;simp[zS, *];exact rfl))
  |apply qai rfl
  |(refine qb0 rfl (fun hc=>?_) (fun hc=>?_)<;>(have hd:=hc;(try simp at hd);(try subst hd)))
  |(with_reducible apply qa4;simp only[qam,qaj])
  |(with_reducible apply qa5;simp[zQ,Tryz.f115])))
 all_goals first|exact qa2 rfl (by(simp only[bndN,qdi,loN,hiN];(repeat' split)<;>first|rfl|(exfalso;omega)))|(exfalso;omega)
def e115:Entry PG:=mkE 115 [[]] (fun c:Nat=>[.int .u8 (c:Int)]) (fun c=>c < 256) (fun c=>bndN c) fun c h=>c115 (T:=[]) c h
theorem k115{T:List (Entry PG)} (hT:qIn 115 T e115) {c:Nat} (h:c < 256) (H:Heap):qb6 (ctx T) (.fn 115) [.int .u8 (c:Int)] H=some (bndN c,H):=
 qd1 hT (fun x y h=>by simp at h;omega) c h (by simp[qa9,qab]) (by simp[qgb,qan,okV,qab]) H
theorem one_cut(s:Str) (hc:¬ qdi (cN s 0)=0):(qej s).1=(qkv s (qdi (cN s 0)) 1 (loN (cN s 0)) (hiN (cN s 0))).1:=by have h1:¬ cN s 0 < 128:=fun h=>hc (by unfold qdi;rw[if_pos (by omega)]);simp only[qej,h1,hc,if_false]
theorem one_cut0(s:Str) (hc:qdi (cN s 0)=0):(qej s).1=1:=by
 unfold qej;split
 ·rfl
 ·simp[hc]
theorem c73{T:List (Entry PG)} (hB:qIn 115 T e115) (s:Str) (hne:0 < s.length) (hl:s.length<=1000000):CA T 73 [aB s] zH (.int .i64 ((qej s).1:Nat)) zH:=by
 have h0:=atB (s:=s) (i:=0) hne;rw[qk9 hne]at h0;simp only[Int.ofNat_zero,Int.cast_ofNat_Int,Int.natCast_zero]at h0;have hb:=(s[0]'hne).toNat_lt;rw[qk9 hne]at hb;have kb:=fun H=>k115 hB hb H;simp only[bndN]at kb;obtain⟨R,hR⟩ : ∃R,R=(qej s).1:=⟨_,rfl⟩;rw[<- hR];have hRg:(qkv s (qdi (cN s 0)) 1 (if qdi (cN s 0)=0 then 0 else loN (cN s 0)) (if qdi (cN s 0)=0 then 0 else hiN (cN s 0))).1=R:=by
  rw[hR];by_cases hm:qdi (cN s 0)=0
  ·rw[one_cut0 s hm,hm];rfl
  ·rw[one_cut s hm];simp only[hm,if_false]
 have hM3:=qth (cN s 0);clear hR;generalize (if qdi (cN s 0)=0 then 0 else loN (cN s 0))=l0 at *;generalize (if qdi (cN s 0)=0 then 0 else hiN (cN s 0))=h1 at *;generalize qdi (cN s 0)=M at *;refine qa0 (s0:=⟨[0,2,3,4,5,6],[aB s,uD,uD,uD,uD,uD],[],43,⟨0,[[]]⟩⟩) Tryz.func73 rfl rfl rfl ?_;apply ra;simp[zS];apply ra;simp[zS,h0,kb];apply ra;simp[zS];try apply qal
 refine qa7 (qb1 (fun x:Nat × Nat × Nat × Nat=>(⟨[0,2,3,4,5,6],[aB s,.int .i64 0,.int .i64 (M:Nat),.int .u8 (x.2.2.1:Nat),.int .u8 (x.2.2.2:Nat),.int .i64 (x.2.1:Nat)],[],43,⟨0,[[]]⟩⟩ : St))
  (fun x=>x.2.1+x.1=M+1/\1<=x.2.1/\(qkv s x.1 x.2.1 x.2.2.1 x.2.2.2).1=R) (fun x=>x.1) [] [] (M,1,l0,h1) ⟨by simp only;omega,Nat.le_refl _,hRg⟩ ⟨rfl,rfl,rfl,by simp[qax,qas,qab,qa9,aB],FitH.nothing⟩ ?_)
 rintro⟨k,i,lo,hi⟩ ⟨hk,hi1,hg⟩ B hB;simp only at hk hi1 hg hB;clear hRg kb h0;cases k with
 |zero=>
  have hx:¬ (i:Int)<=(M:Int):=by omega
  have hx':¬ i<=M:=by omega
  apply ra;simp[zS,hx,hx'];apply qag rfl;apply qar;simp;apply ra;simp[zS];apply qa5;simp[zQ,Tryz.f73];exact qa2 rfl (by rw[<- hg];rfl)
 |succ k=>
  have hx:(i:Int)<=(M:Int):=by omega
  have hx':i<=M:=by omega
  have fail:ql1 s i lo hi=false->R=i:=fun h=>by rw[<- hg];simp[qkv,h]
  by_cases q1:i < s.length
  ·have p1:(i:Int) < (s.length:Int):=(by omega);have ha:=atB (s:=s) q1;rw[qk9 q1]at ha;by_cases q2:lo<=cN s i
   ·have p2:(lo:Int)<=(cN s i:Int):=(by omega);by_cases q3:cN s i<=hi
    ·have p3:(cN s i:Int)<=(hi:Int):=(by omega);apply ra;simp[zS,qre,hx,hx',p1,q1,ha,p2,q2,p3,q3];apply qai rfl;apply qa4;simp;apply qa7;apply ra;simp[zS,qbb (show i<=1000000000 by omega)];apply ra;simp[zS];have hcn:ql1 s i lo hi=true:=(by simp[ql1,q1,q2,q3]);exact hB _ (k,i+1,128,191) (by simp only;omega) ⟨by simp only;omega,by simp only;omega,by simp only;rw[<- hg];simp[qkv,hcn]⟩ ⟨[],[],⟨rfl,rfl,rfl,by simp[qax,qas,qab,qa9,aB],FitH.nothing⟩⟩
    ·have p3:¬ (cN s i:Int)<=(hi:Int):=(by omega);apply ra;simp[zS,qre,hx,hx',p1,q1,ha,p2,q2,p3,q3];apply qag rfl;apply qar;simp;apply ra;simp[zS];apply qa5;simp[zQ,Tryz.f73];exact qa2 rfl (by rw[fail (by simp[ql1,q3])])
   ·have p2:¬ (lo:Int)<=(cN s i:Int):=(by omega);apply ra;simp[zS,qre,hx,hx',p1,q1,ha,p2,q2];apply qag rfl;apply qar;simp;apply ra;simp[zS];apply qa5;simp[zQ,Tryz.f73];exact qa2 rfl (by rw[fail (by simp[ql1,q2])])
  ·have p1:¬ (i:Int) < (s.length:Int):=(by omega);apply ra;simp[zS,qre,hx,hx',p1,q1];apply qag rfl;apply qar;simp;apply ra;simp[zS];apply qa5;simp[zQ,Tryz.f73];exact qa2 rfl (by rw[fail (by simp[ql1,q1])])
def e73:Entry PG:=mkE 73 [[1]] (fun x:Str=>[aB x]) (fun x=>0 < x.length/\x.length<=1000000) (fun x=>.int .i64 ((qej x).1:Nat)) fun x h=>c73 (T:=[e115]) rfl x h.1 h.2
theorem k73{T:List (Entry PG)} (hT:qIn 73 T e73) {s:Str} (h1:0 < s.length) (h2:s.length<=1000000) (H:Heap):qb6 (ctx T) (.fn 73) [aB s] H=some (.int .i64 ((qej s).1:Nat),H):=
 qac hT qw1 s ⟨h1,h2⟩ rfl (by simp[aB])
theorem za1(s:Str) (j:Nat):((⟨s.toArray⟩ : ByteArray).get! j).toNat=cN s j:=by
 show (s.toArray[j]!).toNat=(s.getD j 0).toNat;congr 1;by_cases h:j < s.length
 ·simp[List.getD_eq_getElem?_getD,h]
 ·simp[List.getD_eq_getElem?_getD,h];rfl
theorem cN_lt(s:Str) (j:Nat):cN s j < 256:=(s.getD j 0).toNat_lt
theorem zg8{s:Str} (h:0 < s.length):Lib.decodeGo ⟨s.toArray⟩=Lib.decodeN s.length (cN s 0) (cN s 1) (cN s 2) (cN s 3):=by
 have hs:(⟨s.toArray⟩ : ByteArray).size=s.length:=by show s.toArray.size=_;simp
 unfold Lib.decodeGo;rw[if_neg (by rw[hs];omega),Lib.decode_at,hs,za1,za1,za1,za1];rfl
theorem zc3(n b0 b1 b2 b3:Nat) (h:¬ b0 < 128):128<=(Lib.decodeN n b0 b1 b2 b3).1:=by
 unfold Lib.decodeN;rw[if_neg h]
 (repeat' split)<;>simp only<;>omega
theorem zc2{s:Str} (h:0 < s.length):∃r n:Nat,Lib.decodeGo ⟨s.toArray⟩=(r,n)/\(((qej s).2=false/\r=65533/\n=1)\/((qej s).2=true/\n=(qej s).1/\¬ (r=65533/\n=1)/\(r=0↔cN s 0=0)/\(r=13↔cN s 0=13))):=by
 rw[zg8 h];obtain⟨⟨r,n⟩,hD⟩ : ∃D:Nat × Nat,D=Lib.decodeN s.length (cN s 0) (cN s 1) (cN s 2) (cN s 3):=⟨_,rfl⟩;refine⟨r,n,hD.symm,?_⟩;rw[qvl];rcases qs0 s.length (cN s 0) (cN s 1) (cN s 2) (cN s 3) h (cN_lt s 0) (cN_lt s 1) (cN_lt s 2) (cN_lt s 3)with⟨g1,g2⟩|⟨g1,g2,g3⟩
 ·left;rw[g2]at hD;simp only[Prod.mk.injEq]at hD;exact⟨g1,hD.1,hD.2⟩
 ·right;rw[<- hD]at g2 g3;refine⟨g1,g2,g3,?_⟩;by_cases hl:cN s 0 < 128
  ·have:(Lib.decodeN s.length (cN s 0) (cN s 1) (cN s 2) (cN s 3)).1=cN s 0:=(by simp[Lib.decodeN,hl]);rw[<- hD]at this;simp only at this;rw[this];exact⟨Iff.rfl,Iff.rfl⟩
  ·have:=zc3 s.length (cN s 0) (cN s 1) (cN s 2) (cN s 3) hl;rw[<- hD]at this;simp only at this;omega
def e72:Entry PG:=mkE 72 [[1]] (fun x:Str=>[aB x]) (fun x=>x≠[]/\x.length<=1000000) (fun x=>.tup [.int .i32 (Lib.decodeGo ⟨x.toArray⟩).1,.int .i64 (Lib.decodeGo ⟨x.toArray⟩).2]) fun x h=>c72 (T:=[]) x h.1 h.2
theorem k72{T:List (Entry PG)} (hT:qIn 72 T e72) {s:Str} (h1:s≠[]) (h2:s.length<=1000000) (H:Heap):qb6 (ctx T) (.fn 72) [aB s] H=some (.tup [.int .i32 (Lib.decodeGo ⟨s.toArray⟩).1,.int .i64 (Lib.decodeGo ⟨s.toArray⟩).2],H):=
 qac hT qw1 s ⟨h1,h2⟩ rfl (by simp[aB])
