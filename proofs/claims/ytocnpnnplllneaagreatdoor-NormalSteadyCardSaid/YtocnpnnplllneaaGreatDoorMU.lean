/- utf8.DecodeRune, told by the reference's reading of a character. No condition. -/
import Derived.Test.YtocnpnnplllneaaGreatDoorMS
import Derived.Shelf.Spec.DecodeRune
namespace Go.Proofs.YtocnpnnplllneaaGreatDoor
noncomputable section
set_option linter.unusedSimpArgs false
set_option linter.unusedVariables false
open Go Go.RowKit
variable {T:List (Entry Tryz.prog)}
def qvi(L:List At1) (a:At1):List At1:=if qjw L a.1 < 0 then L++[a] else L
def qkp(n:Nd):List At1->List At1->List At1
 |out,[]=>out
 |out,a::r=>if qdm { n with attrs:=[(a.1,qgl a.2)] }=true then qkp n (qvi out (a.1,qgl a.2)) r else qkp n out r
def qm9(n:Nd):List At1:=qkp n [] n.attrs
def qp9(n:Nd):Bool:=decide (n.kind=1) && (decide (n.space=0) && (decide (n.kids=[]) && (decide (n.name=[112,114,101]) || decide (n.name=[116,101,120,116,97,114,101,97]))))
def qg3:Str->Str
 |[]=>[]
 |c::r=>if c=10 then qg3 r else c::r
def qgj(t:Tr) (i:Nat) (s:Str):Tr:=t.take i++{ qa0 t i with data:=(qa0 t i).data++s }::t.drop (i+1)
def qia(out:Tr) (up:Nat) (s:Str):Str:=if qp9 (qa0 out up)=true then qg3 (qgl s) else qgl s
def zdj(out:Tr) (up:Nat):Option Int:=(qa0 out up).kids.getLast?
def qgp(P:List Nd) (up:Nat) (s:Str) (out:Tr):Tr:=
 if qd5 P (qia out up s)=true then
  match zdj out up with
  |some k=>if (qa0 out k).kind=2 then qgj out k.toNat (qia out up s) else qhf out up ⟨2,0,[],[],qia out up s,0,[]⟩
  |none=>qhf out up ⟨2,0,[],[],qia out up s,0,[]⟩
 else out
def elN(n:Nd):Nd:={ n with attrs:=qm9 n,data:=[] }
def goM(rec:List Nd->Int->Nat->Tr->Tr) (v:Tr) (P:List Nd) (up:Nat):List Int->Tr->Tr
 |[],out=>out
 |k::r,out=>
  if (qa0 v k).kind=2 then goM rec v P up r (qgp P up (qa0 v k).data out)
  else if (qa0 v k).kind=1 then
   goM rec v P up r (if qly P (elN (qa0 v k))=true then rec (P++[elN (qa0 v k)]) k out.length (qhf out up (elN (qa0 v k))) else rec P k up out)
  else goM rec v P up r out
def qhs:Nat->Tr->List Nd->Int->Nat->Tr->Tr
 |0,_,_,_,_,out=>out
 |f+1,v,P,i,up,out=>goM (qhs f v) v P up (qa0 v i).kids out
set_option maxRecDepth 100000
@[simp]theorem szT42:qcg PG 42=some 3:=rfl
@[simp]theorem agT42:qi8 PG 42=some true:=rfl
@[simp]theorem byT42:qco PG 42=some 72:=rfl
@[simp]theorem alT42(H:Heap):alV PG H 42=some (.ptr H.n 0,H.new (.cells [.nilS,.nilS,.nilS])):=rfl
@[simp]theorem zeT42:qc1 PG 42=some (.agg [.nilS,.nilS,.nilS]):=rfl
attribute [simp] Tryz.underlying42
@[simp 500]theorem rvF42(H:Heap) (cs:List AV) (o:Nat):qb3 PG H 42 (.fptr cs o)=(qek o 3 cs).bind fun cs=>some (.agg cs):=rfl
@[simp 500]theorem rvP42(H:Heap) (b o:Nat):qb3 PG H 42 (.ptr b o)=(readCells H b o 3).bind fun cs=>some (.agg cs):=rfl
@[simp]theorem fa42_0(x:AV):qc2 PG 42 x 0=(match x with | .ptr b o=>some (.ptr b (o+0)) | .fptr cs o=>some (.fptr cs (o+0))|_=>none):=rfl
@[simp]theorem fd42_0(cs:List AV):qe1 PG 42 (.agg cs) 0=(qek 0 1 cs).bind fun r=>some (.agg r):=rfl
@[simp]theorem fa42_1(x:AV):qc2 PG 42 x 1=(match x with | .ptr b o=>some (.ptr b (o+1)) | .fptr cs o=>some (.fptr cs (o+1))|_=>none):=rfl
@[simp]theorem fd42_1(cs:List AV):qe1 PG 42 (.agg cs) 1=(qek 1 1 cs).bind fun r=>some (.agg r):=rfl
@[simp]theorem fa42_2(x:AV):qc2 PG 42 x 2=(match x with | .ptr b o=>some (.ptr b (o+2)) | .fptr cs o=>some (.fptr cs (o+2))|_=>none):=rfl
@[simp]theorem fd42_2(cs:List AV):qe1 PG 42 (.agg cs) 2=qcy cs 2:=rfl
@[simp]theorem szT55:qcg PG 55=some 1:=rfl
@[simp]theorem agT55:qi8 PG 55=some false:=rfl
@[simp]theorem byT55:qco PG 55=some 8:=rfl
@[simp]theorem alT55(H:Heap):alV PG H 55=some (.ptr H.n 0,H.new (.cells [.nilP])):=rfl
@[simp]theorem zeT55:qc1 PG 55=some (.nilP):=rfl
attribute [simp] Tryz.underlying55
@[simp 500]theorem rvF55(H:Heap) (cs:List AV) (o:Nat):qb3 PG H 55 (.fptr cs o)=qcy cs o:=rfl
@[simp 500]theorem rvP55(H:Heap) (b o:Nat):qb3 PG H 55 (.ptr b o)=(H.get b).bind fun k=>k.rd.bind fun cs=>qcy cs o:=rfl
theorem c56(hA:qIn 51 T e51) (hP:qIn 154 T e154) (hS:qIn 124 T e124) (hH:qIn 125 T e125) (hC:qIn 128 T e128)
  {m pb k:Nat} {A Z:AV} {g:List (Nat × Blk)} {t:Tr} (h:Eok m pb [A] k 7 (t.map qa6) [Z] g) (ht:t.length+1<=1000000) {u:Nat} (hu:u < t.length) (ok:UpOk t) (nd:Nd) (ha:nd.attrs.length<=1000000) :
  CA T 56 [.ptr pb 0,.int .i64 (u:Int),qa6 nd] ⟨m,[VE pb [A] k 7 (t.map qa6) [Z] g]⟩ (.int .i64 (t.length:Int)) ⟨m+1,[VE pb [A] m 7 ((qhf t u nd).map qa6) [Z] g]⟩:=by
 have pn:qa9 nd.cs=true:=by simp[Nd.cs,qbm,qal,qa9,qab]
 have h1:=h.extra (m':=m+1+6) (q:=m) (b:=.cells nd.cs) (jc m) (by omega) (qmo pn);have hadd:=(c87 (T:=T) hA h1 ht nd ha).perm (H2:=⟨m+1+6,[[(m,.cells nd.cs)],VE pb [A] k 7 (t.map qa6) [Z] g]⟩) (H2':=⟨m+1+6+1,[[(m,.cells nd.cs)],VE pb [A] (m+1+6) 7 ((t++[fresh nd]).map qa6) [Z] g]⟩) rfl rfl qon qon;obtain⟨t1,ht1⟩ : ∃t1,t1=t++[fresh nd]:=⟨_,rfl⟩;have l1:t1.length=t.length+1:=by rw[ht1];simp
 have nu:qa0 t1 (u:Int)=qa0 t (u:Int):=by rw[ht1];exact qo0 hu
 have nl:qa0 t1 (t.length:Int)=fresh nd:=by rw[ht1];exact qo1
 have h2:Eok (m+1+6+1+12) pb [A] (m+1+6) 7 (t1.map qa6) [Z] (g++[(m,.cells nd.cs)]):=(h1.next (qbk t1)).mono (by omega) (qbk t1);have mu:qa0 t (u:Int)∈t:=qb5 (by omega) (by omega);have hh:qk6 t1 (t.length:Int) (u:Int)=false:=qz8 (fun i hi hlt=>by simp only[isB,jd,decide_eq_true_eq]at hi;obtain⟨j,rfl⟩ : ∃j:Nat,i=j:=⟨i.toNat,by omega⟩;rw[ht1,qo0 (by omega)];exact ok.up _ (qb5 (by omega) (by omega))) (by omega);have hput:=(c88 (T:=T) hP hS hH hC h2 (by omega) (u:=u) (i:=t.length) (a:=t1.length) (by omega) (by omega) (by omega) hh (by rw[nl];rfl) (by rw[nu];have:=ok.kids _ mu;omega) (by omega)).perm (H2:=⟨m+1+6+1+12,[[(m,.cells nd.cs)],VE pb [A] (m+1+6) 7 (t1.map qa6) [Z] g]⟩) (H2':=⟨m+1+6+1+12,[[(m,.cells nd.cs)],VE pb [A] (m+1+6) 7 ((qhf t u nd).map qa6) [Z] g]⟩) rfl rfl qon (by rw[nu,ht1];exact qon);rw[<- ht1]at hadd;have rd:∀n,qb3 PG ⟨n,[[(m,.cells nd.cs)],VE pb [A] (m+1+6) 7 (t1.map qa6) [Z] g]⟩ 22 (.ptr pb 1)=some (qdo (m+1+6) 7 (t1.map qa6)):=fun n=>(rd_nodes (n:=n) (f:=[(m,.cells nd.cs)]) (pb:=pb) (pre:=[A]) (k:=m+1+6) (post:=[Z]) (g:=g) (es:=t1.map qa6) (by have:=h.lp;simp[getF,qaw (show m≠pb by omega)])).2;have hne:t1.map qa6≠[]:=by simp[ht1]
 have ln:∀H,qer PG H 22 (qdo (m+1+6) 7 (t1.map qa6))=some t1.length:=fun H=>by rw[qch hne];simp[qer]
 refine qa1 (s0:=⟨[0,1,2,5,6,7],[.ptr pb 0,.int .i64 (u:Int),qa6 nd,uD,uD,uD],[],26,⟨m,[]::[VE pb [A] k 7 (t.map qa6) [Z] g]⟩⟩) Tryz.func56 rfl rfl rfl ?_;apply qR;simp[zS,qa6];repeat apply wq
 refine qcc mixed (qbo [⟨87,_,_,_,_,hadd⟩]) (by decide +kernel) fun B_ hB_=>?_;have hD_:ahead B_ 3 4=true/\ahead B_ 4 3=false:=by rw[hB_];decide +kernel
 apply qim B_;simp[zS,qdx,qc9,qc4,qbn,qas,qb4,qb0,Heap.lay,qdk,qil,qik,qfm,qfl,qfi,qfk,qfz,qfp,qea,qeb,qft,qfs,qfq,qfr,qfw,qfx,qfv,qfu,hD_,qcu,qa6];exact rfl;refine⟨_,rfl,?_,?_⟩;simp[zS,qbn,qas,qcb,qcs,qe5,hD_,qcu,qa6];simp[qc8,Heap.lay,qdk,qan];repeat apply wq
 refine qcc mixed (qbo [⟨88,_,_,_,_,hput⟩]) (by decide +kernel) fun B_ hB_=>?_;have hD_:ahead B_ 8 11=true/\ahead B_ 9 11=true/\ahead B_ 11 8=false/\ahead B_ 11 9=false:=by rw[hB_];decide +kernel
 apply qim B_;simp[zS,qdx,qc9,qc4,qbn,qas,qb4,qb0,Heap.lay,qdk,qil,qik,qfm,qfl,qfi,qfk,qfz,qfp,qea,qeb,qft,qfs,qfq,qfr,qfw,qfx,qfv,qfu,hD_,qcu,rd,ln];exact rfl;refine⟨_,rfl,?_,?_⟩;simp[zS,qbn,qas,qcb,qcs,qe5,hD_,qcu,rd,ln];simp[qc8,Heap.lay,qdk,qan];apply qR;simp[zS];apply qa3;have hes':(qhf t u nd).map qa6≠[]:=by simp[qhf,qgy]
 have hk':(qhf t u nd).length=t.length+1:=by unfold qhf;rw[qqe (by rw[qdq (by simp;omega)];simp),qdq (by simp;omega)];simp
 have nP:pb < m:=h.lp;have q1:Nat.beq m pb=false:=qaw (by omega);have q2:Nat.beq m (m+1+6)=false:=qaw (by omega);have q3:Nat.beq pb (m+1+6)=false:=qaw (by omega);have nd0:=h.nd;rw[jr]at nd0;have hfit:=fit_E (es':=(qhf t u nd).map qa6) (c:=m+1+6) (cs0:=qa5 ((qhf t u nd).map qa6)) (H:=⟨m+1+6+1+12,[[(m,.cells nd.cs)],VE pb [A] (m+1+6) 7 ((qhf t u nd).map qa6) [Z] g]⟩) h (by omega) hes' (fun σ=>qaf (qbk _).pure)
  (by simp[zG,VE,q1,qch hes'])
  (by simp[zG,VE,q2,q3,qci hes'])
  (fun e he=>by have:=h.lg e he;have e1:pb≠e.1:=fun x=>nd0.1 (ji.2 ⟨e,he,x.symm⟩);simp[Heap.get,getFs,VE,qci hes',getF,qaw e1,qaw (show m≠e.1 by omega),qaw (show m+1+6≠e.1 by omega),qse nd0.2 he])
 simp[zQ,Tryz.f56];refine⟨_,_,?_,hfit⟩;simp[qat,qab]
def mV(j:Nat):Option (List Nd)->AV
 |none=>.nilS
 |some P=>.slc j 0 P.length (.rest 7)
def mL(o:Option (List Nd)):List Nd:=o.getD []
def mG(j:Nat):Option (List Nd)->List (Nat × Blk)
 |none=>[]
 |some P=>[(j,.cells (qa5 (P.map qa6)))]
def mR(v:Tr) (k:Nat) (out:Tr) (j:Nat) (o:Option (List Nd)):List (Nat × Blk):=VE 0 [qa8 v] k 7 (out.map qa6) [mV j o] (mG j o)
section
variable {v out:Tr} {m n k j:Nat} {o:Option (List Nd)} {f:List (Nat × Blk)}
theorem zgi(k0:0 < k) (km:k < m) (j0:0 < j) (jm:j < m) (h:k≠j):Eok m 0 [qa8 v] k 7 (out.map qa6) [mV j o] (mG j o) where
 lp:=by omega
 lk:=⟨km,by cases o<;>simp[mG]<;>omega⟩
 lg:=fun e he=>by
  cases o with
  |none=>simp[mG]at he
  |some P=>simp[mG]at he;subst he;exact jm
 nd:=by cases o<;>simp[mG];omega
 sg:=fun e he=>by
  cases o with
  |none=>simp[mG]at he
  |some P=>simp[mG]at he;subst he;exact qmo (qbk P).pure
 sp:=fun σ hσ=>qaf (by simp[qa9,qdc])
 sq:=fun σ hσ=>by
  cases o with
  |none=>exact qaf rfl
  |some P=>simp[mV,qaz,qat,hσ j jm]
 el:=qbk out
theorem mR_0:getF 0 (mR v k out j o)=some (.cells [qa8 v,qdo k 7 (out.map qa6),mV j o]):=VE_p
theorem mR_k(k0:0 < k) (j0:0 < j) (h:k≠j) (hne:out≠[]):getF k (mR v k out j o)=some (.cells (qa5 (out.map qa6))):=
 VE_k (zgi (m:=k+j+1) k0 (by omega) j0 (by omega) h) (by simpa using hne)
theorem mget0(hf:getF 0 f=none):Heap.get ⟨n,[f,mR v k out j o]⟩ 0=some (.cells [qa8 v,qdo k 7 (out.map qa6),mV j o]):=by simp only[Heap.get,getFs,hf,mR_0]
theorem zgq(k0:0 < k) (j0:0 < j) (h:k≠j) (hne:out≠[]) (hf:getF k f=none):Heap.get ⟨n,[f,mR v k out j o]⟩ k=some (.cells (qa5 (out.map qa6))):=by simp only[Heap.get,getFs,hf,mR_k k0 j0 h hne]
theorem rdm_v(hf:getF 0 f=none):qb3 PG ⟨n,[f,mR v k out j o]⟩ 22 (.ptr 0 0)=some (qa8 v):=by simp[mget0 hf]
theorem zfs(hf:getF 0 f=none):qb3 PG ⟨n,[f,mR v k out j o]⟩ 22 (.ptr 0 1)=some (qdo k 7 (out.map qa6)):=by simp[mget0 hf]
theorem zd7(hf:getF 0 f=none):qb3 PG ⟨n,[f,mR v k out j o]⟩ 22 (.ptr 0 2)=some (mV j o):=by simp[mget0 hf]
theorem ixm{i:Nat} (hi:i < out.length):qav PG 22 (qdo k 7 (out.map qa6)) (.int .i64 (i:Int))=some (.ptr k (i * 7)):=by rw[qch (by intro e;have:=congrArg List.length e;simp at this;subst this;simp at hi)];simp[qav,qbz hi]
theorem split7{i:Nat} (hi:i < out.length):qa5 (out.map qa6)=qa5 ((out.take i).map qa6)++(qa0 out i).cs++qa5 ((out.drop (i+1)).map qa6)/\(qa5 ((out.take i).map qa6)).length=i * 7:=by
 constructor
 ·conv=>lhs;rw[qf1 hi]
  simp[qbq,qa5]
 ·rw[(qbk _).len];simp;omega
theorem getm{i c:Nat} (hi:i < out.length) (hc:c < 7):qcy (qa5 (out.map qa6)) (i * 7+c)=qcy (qa0 out i).cs c:=by obtain⟨e,l⟩:=split7 hi;have l7:(qa0 out i).cs.length=7:=rfl;rw[e];generalize qa5 ((out.take i).map qa6)=A at *;generalize qa5 ((out.drop (i+1)).map qa6)=B at *;generalize (qa0 out i).cs=C at *;rw[qf4 (by simp[l,l7];omega),qf4 (by omega),j6 (by simp[l,l7];omega),jv (by omega)];simp[l]
theorem subm{i:Nat} (hi:i < out.length):qek (i * 7) 7 (qa5 (out.map qa6))=some (qa0 out i).cs:=by obtain⟨e,l⟩:=split7 hi;have l7:(qa0 out i).cs.length=7:=rfl;rw[e];generalize qa5 ((out.take i).map qa6)=A at *;generalize qa5 ((out.drop (i+1)).map qa6)=B at *;generalize (qa0 out i).cs=C at *;rw[<- l];exact zad rfl l7
theorem rdm_n{i:Nat} (k0:0 < k) (j0:0 < j) (h:k≠j) (hi:i < out.length) (hf:getF k f=none):qb3 PG ⟨n,[f,mR v k out j o]⟩ 34 (.ptr k (i * 7))=some (qa6 (qa0 out i)):=by
 have hne:out≠[]:=by intro e;subst e;simp at hi
 simp[readCells,zgq k0 j0 h hne hf,Blk.rd,subm hi,qa6]
theorem rdm_ks{i:Nat} (k0:0 < k) (j0:0 < j) (h:k≠j) (hi:i < out.length) (hf:getF k f=none):qb3 PG ⟨n,[f,mR v k out j o]⟩ 30 (.ptr k (i * 7+6))=some (qbl (qa0 out i).kids):=by
 have hne:out≠[]:=by intro e;subst e;simp at hi
 simp[zgq k0 j0 h hne hf,getm hi,Nd.cs]
theorem rdm_i{i:Nat} (k0:0 < k) (j0:0 < j) (h:k≠j) (hi:i < out.length) (hf:getF k f=none):qb3 PG ⟨n,[f,mR v k out j o]⟩ 3 (.ptr k (i * 7))=some (.int .i64 (qa0 out i).kind):=by
 have hne:out≠[]:=by intro e;subst e;simp at hi
 have:=getm (c:=0) hi (by omega);simp at this;simp[zgq k0 j0 h hne hf,this,Nd.cs,qbm]
theorem rdm_d{i:Nat} (k0:0 < k) (j0:0 < j) (h:k≠j) (hi:i < out.length) (hf:getF k f=none):qb3 PG ⟨n,[f,mR v k out j o]⟩ 9 (.ptr k (i * 7+4))=some (.str (qa0 out i).data):=by
 have hne:out≠[]:=by intro e;subst e;simp at hi
 simp[zgq k0 j0 h hne hf,getm hi,Nd.cs]
theorem thm_p(j0:0 < j) (h:k≠j) (hne:out≠[]) (hf:getF j f=none):qet ⟨n,[f,mR v k out j o]⟩ [7] (mV j o)=some (qa8 (mL o)):=by
 cases o with
 |none=>exact zcr (by omega)
 |some P=>
  have hg:Heap.get ⟨n,[f,mR v k out j (some P)]⟩ j=some (.cells (qa5 (P.map qa6))):=by have b1:Nat.beq 0 j=false:=qaw (by omega);simp[Heap.get,getFs,hf,mR,VE,qci (show out.map qa6≠[] by simpa using hne),getF,b1,qaw h,mG]
  have:=qq6 (H:=⟨n,[f,mR v k out j (some P)]⟩) (b:=j) (cap:=.rest 7) (r:=[]) (qbk P) (by rw[hg]);simpa[mV,mL]using this
def qgt(t:Tr) (i:Nat) (s:Str):Tr:=t.take i++{ qa0 t i with data:=s }::t.drop (i+1)
theorem lay_data{t:Tr} {i:Nat} (h:i < t.length) (x:Str):qho [.str x] (i * 7+4) (qa5 (t.map qa6))=some (qa5 ((qgt t i x).map qa6)):=by
 have hl:(qa5 ((t.take i).map qa6)).length=i * 7:=by rw[(qbk _).len];simp;omega
 have e1:qa5 (t.map qa6)=(qa5 ((t.take i).map qa6)++[qbm (qa0 t i).kind,qbm (qa0 t i).space,.str (qa0 t i).name,qal (qa0 t i).attrs])++[.str (qa0 t i).data]++([qbm (qa0 t i).up,qbl (qa0 t i).kids]++qa5 ((t.drop (i+1)).map qa6)):=by
  conv=>lhs;rw[qf1 h]
  simp[qbq,qa5,Nd.cs]
 have e2:qa5 ((qgt t i x).map qa6)=(qa5 ((t.take i).map qa6)++[qbm (qa0 t i).kind,qbm (qa0 t i).space,.str (qa0 t i).name,qal (qa0 t i).attrs])++[.str x]++([qbm (qa0 t i).up,qbl (qa0 t i).kids]++qa5 ((t.drop (i+1)).map qa6)):=by unfold qgt;simp[qbq,qa5,Nd.cs]
 rw[e1,e2];have:=qh3 (a:=qa5 ((t.take i).map qa6)++[qbm (qa0 t i).kind,qbm (qa0 t i).space,.str (qa0 t i).name,qal (qa0 t i).attrs]) (b:=[.str (qa0 t i).data]) (b':=[.str x]) (c:=[qbm (qa0 t i).up,qbl (qa0 t i).kids]++qa5 ((t.drop (i+1)).map qa6)) rfl;rw[jo,hl]at this;exact this
theorem qyg{t:Tr} {i:Nat} (h:i < t.length) (x:Str):(qgt t i x).length=t.length:=by simp[qgt];omega
theorem setm{i:Nat} (k0:0 < k) (hi:i < out.length) (x:Str):setF k (.cells (qa5 ((qgt out i x).map qa6))) (mR v k out j o)=some (mR v k (qgt out i x) j o):=by
 have hne:out≠[]:=by intro e;subst e;simp at hi
 have hne':(qgt out i x).map qa6≠[]:=by simp[qgt]
 have b1:Nat.beq 0 k=false:=qaw (by omega);unfold mR VE;rw[qci (show out.map qa6≠[] by simpa using hne),qci hne',qch (show out.map qa6≠[] by simpa using hne),qch hne'];simp[setF,b1,qyg hi]
theorem zdu{N k' j' m':Nat} (hN:N<=k'/\N<=j'/\N<=m') (h':0 < k'/\0 < j'/\k' < m'/\j' < m'/\k'≠j') (k0:0 < k) (j0:0 < j) (h:k≠j) (hne:out≠[]) (hf0:getF 0 f=none) (hfk:getF k f=none) (hfj:getF j f=none):FitH N [(k,k'),(j,j'),(0,0)] [] ⟨n,[f,mR v k out j o]⟩ ⟨m',[mR v k' out j' o]⟩ where
 nd1:=by simp;omega
 nd2:=by simp;omega
 nd3:=by have:=(zgi (v:=v) (out:=out) (o:=o) (m:=m') (k:=k') (j:=j') (by omega) (by omega) (by omega) (by omega) (by omega));simpa[Heap.ents,mR]using VE_nd this
 lt:=by simp;omega
 idn:=by simp;omega
 num:=by simp;omega
 src:=by
  intro e he;have hne':out.map qa6≠[]:=by simpa using hne
  simp only[Heap.ents,je,js,jg,mR,VE,qci hne',List.cons_append,jq,ja]at he;rcases he with rfl|rfl|he
  ·refine⟨0,_,by simp,mget0 hf0,?_⟩;simp only[qhp,List.cons_append,jq,qaz];refine⟨qbe (qdc v),?_,?_,trivial⟩
   ·rw[qch hne',qch hne'];simp[qat,qb2]
   ·cases o with
    |none=>exact qbe rfl
    |some P=>simp[mV,qat,qb2,h]
  ·exact⟨k,_,by simp,zgq k0 j0 h hne hfk,qaf (qbk out).pure⟩
  ·cases o with
   |none=>simp[mG]at he
   |some P=>simp[mG]at he;subst he;have b1:Nat.beq 0 j=false:=qaw (by omega);exact⟨j,.cells (qa5 (P.map qa6)),by simp,by simp[Heap.get,getFs,hfj,mR,VE,qci hne',getF,b1,qaw h,mG],qaf (qbk P).pure⟩
 frz:=fun x h=>by cases h
theorem fitm{N:Nat} (hN:N<=3) (k0:0 < k) (j0:0 < j) (h:k≠j) (hne:out≠[]) (hf0:getF 0 f=none) (hfk:getF k f=none) (hfj:getF j f=none):FitH N [(k,3),(j,4),(0,0)] [] ⟨n,[f,mR v k out j o]⟩ ⟨5,[mR v 3 out 4 o]⟩:=
 zdu (by omega) (by omega) k0 j0 h hne hf0 hfk hfj
end
theorem c53(n:Nd):CA T 53 [qa6 n] zH (.bool (qp9 n)) zH:=by
 have hk:((n.kids.length:Nat):Int)=0↔n.kids=[]:=by simp
 refine qa1 (s0:=⟨[0,1,2],[qa6 n,uD,uD],[],27,⟨0,[[]]⟩⟩) Tryz.func53 rfl rfl rfl ?_;apply qR;simp[zS];by_cases h1:n.kind=1
 ·by_cases h2:n.space=0
  ·by_cases h3:n.kids=[]
   ·by_cases h4:n.name=[112,114,101]
    ·apply qR;simp[zS,h1,h2,qpb,h3,h4];apply qa3;simp[zQ,Tryz.f53];exact qa2 rfl (by simp[qp9, *])
    ·apply qR;simp[zS,h1,h2,qpb,h3,h4];apply qa3;simp[zQ,Tryz.f53];exact qa2 rfl (by simp[qp9, *])
   ·apply qR;simp[zS,h1,h2,qpb,hk,h3];apply qa3;simp[zQ,Tryz.f53];exact qa2 rfl (by simp[qp9, *])
  ·apply qR;simp[zS,h1,h2];apply qa3;simp[zQ,Tryz.f53];exact qa2 rfl (by simp[qp9, *])
 ·apply qR;simp[zS,h1];apply qa3;simp[zQ,Tryz.f53];exact qa2 rfl (by simp[qp9, *])
def e53:Entry PG:=mkE 53 [[0,0,0,2,0,0,1]] (fun z:Nd=>[qa6 z]) (fun z=>True) (fun z=>.bool (qp9 z)) fun z h=>c53 (T:=[])  z 
theorem k53(hT:qIn 53 T e53) (n:Nd) (H:Heap):qb7 (ctx T) (.fn 53) [qa6 n] H=some (.bool (qp9 n),H):=
 qac hT inj_92 (n) trivial rfl (by simp[qao])
theorem c78(s:Str) (c:UInt8) (hs:s.length<=1000000000):CA T 78 [.str s,.int .u8 (c.toNat:Int)] zH (.str (s.dropWhile fun x=>decide (x=c))) zH:=by
 refine qa1 (s0:=⟨[0,1,4],[.str s,.int .u8 c.toNat,uD],[],17,⟨0,[[]]⟩⟩) Tryz.func78 rfl rfl rfl ?_;apply qR;simp[zS];repeat apply wq
 refine qa7 (qb1 (fun x:Str=>(⟨[0,1,4],[.str x,.int .u8 (c.toNat:Int),.str []],[],17,⟨0,[[]]⟩⟩ : St))
  (fun x=>x.length<=1000000000/\(x.dropWhile fun y=>decide (y=c))=(s.dropWhile fun y=>decide (y=c))) (fun x=>x.length) [] [] s ⟨hs,rfl⟩ ⟨rfl,rfl,rfl,by simp[qaz,qat,qab,qa9],FitH.nothing⟩ ?_)
 rintro x ⟨hx,he⟩ B hB
 match x,hx,he,hB with
 |[],hx,he,hB=>apply qR;simp[zS];apply qag rfl;apply qau;simp;apply qR;simp[zS];apply qa3;simp[zQ,Tryz.f78];exact qa2 rfl (by rw[<- he];rfl)
 |d::r,hx,he,hB=>
  have i0:qi1 PG 9 (.str (d::r)) (.int .i64 0)=some (.int .u8 d.toNat):=qjj (s:=d::r) (i:=0) (by simp);have hsl:∀H:Heap,qee PG H 9 (.str (d::r)) (some (.int .i64 1)) none none=some (.str r):=fun H=>slStr (H:=H) (s:=d::r) (i:=1) (by simp);have hp:(0:Int) < ((r.length:Nat):Int)+1:=by omega
  have hdc:((d.toNat:Int)=(c.toNat:Int))↔d=c:=⟨fun h=>yn.1 (Int.ofNat_inj.1 h),fun h=>by rw[h]⟩;by_cases h:d=c
  ·subst h;apply qR;simp[zS,i0,hp];apply qaj rfl;apply qa4;simp;apply qa7;apply qR;simp[zS,hsl];refine hB _ r (by simp) ⟨by simp at hx;omega,by rw[<- he];simp[List.dropWhile]⟩ ⟨[],[],⟨rfl,rfl,rfl,by simp[qaz,qat,qab,qa9],FitH.nothing⟩⟩
  ·apply qR;simp[zS,i0,hp,hdc,h];apply qag rfl;apply qau;simp;apply qR;simp[zS];apply qa3;simp[zQ,Tryz.f78];exact qa2 rfl (by rw[<- he];simp[List.dropWhile,h])
theorem inj_78(x y:Str × UInt8) (h:(fun z:Str × UInt8=>([.str z.1,.int .u8 (z.2.toNat:Int)]:List AV)) x=(fun z:Str × UInt8=>([.str z.1,.int .u8 (z.2.toNat:Int)]:List AV)) y):x=y:=by obtain⟨x0,x1⟩:=x;obtain⟨y0,y1⟩:=y;simp only[j4,and_true]at h;obtain⟨h0,h1⟩:=h;have g0:x0=y0:=AV.str.inj h0;have g1:x1=y1:=yn.1 (Int.ofNat_inj.1 (AV.int.inj h1).2);subst g0 g1;rfl
def e78:Entry PG:=mkE 78 [[],[]] (fun z:Str × UInt8=>[.str z.1,.int .u8 (z.2.toNat:Int)]) (fun z=>(z.1.length<=1000000000)) (fun z=>.str (z.1.dropWhile fun x=>decide (x=z.2))) fun z h=>c78 (T:=[])  z.1 z.2 h
theorem k78(hT:qIn 78 T e78) (s:Str) (c:UInt8) (hs:s.length<=1000000000) (H:Heap):qb7 (ctx T) (.fn 78) [.str s,.int .u8 (c.toNat:Int)] H=some (.str (s.dropWhile fun x=>decide (x=c)),H):=
 qac hT inj_78 (s,c) hs rfl (by simp[qao])
theorem qq3:∀s:Str,qg3 s=s.dropWhile fun x=>decide (x=10)
 |[]=>rfl
 |c::r=>by
  unfold qg3;by_cases h:c=10
  ·simp[List.dropWhile,h,qq3 r]
  ·simp[List.dropWhile,h]
theorem c54(h0:qIn 78 T e78) (s:Str) (hs:s.length<=1000000000):CA T 54 [.str s,.str [10]] zH (.str (qg3 s)) zH:=by
 have k:∀H,qb7 (ctx T) (.fn 78) [.str s,.int .u8 10] H=some (.str (qg3 s),H):=fun H=>by rw[qq3];exact k78 h0 s 10 hs H
 match s,k with
 |[],k=>refine qa1 (s0:=⟨[0,1,4,5,6],[.str [],.str [10],uD,uD,uD],[],37,⟨0,[[]]⟩⟩) Tryz.func54 rfl rfl rfl ?_;apply qR;simp[zS];apply qR;simp[zS];apply qaj rfl;apply qR;simp[zS];apply qa3;simp[zQ,Tryz.f54];exact qa2 rfl (by rfl)
 |c::r,k=>generalize qg3 (c::r)=z at *;refine qa1 (s0:=⟨[0,1,4,5,6],[.str (c::r),.str [10],uD,uD,uD],[],37,⟨0,[[]]⟩⟩) Tryz.func54 rfl rfl rfl ?_;apply qR;simp[zS];apply qR;simp[zS];apply qag rfl;apply qa4;simp;have i0:qi1 PG 9 (.str [10]) (.int .i64 0)=some (.int .u8 10):=qjj (s:=[10]) (i:=0) (by simp);apply qR;simp[zS,i0];apply qaj rfl;apply qR;simp[zS,i0,k];apply qa3;simp[zQ,Tryz.f54];exact qa2 rfl (by rfl)
def WF(wb:Nat) (ty:TypeId) (a:AV) (b:Bs) (cs:List AV) (g:List (Nat × Blk)):List (Nat × Blk):=(wb,.obj ty (a::bV b::cs))::(bF b++g)
structure Wok (m wb:Nat) (b:Bs) (cs:List AV) (g:List (Nat × Blk)):Prop where
 lw:wb < m
 lg:∀e,e∈g->e.1 < m
 nd:(wb::g.map (·.1)).Nodup
 hk:b.out≠[]->b.k ∉ wb::g.map (·.1)/\b.k < m
 sg:∀e,e∈g->SelfB m e.2
 sc:∀σ,Idl m σ->qaz σ [] cs cs
section
variable {m wb:Nat} {ty:TypeId} {a:AV} {b:Bs} {cs:List AV} {g:List (Nat × Blk)}
theorem Wok.mono(h:Wok m wb b cs g) {m':Nat} (hm:m<=m'):Wok m' wb b cs g where
 lw:=jI h.lw hm
 lg:=fun e he=>jI (h.lg e he) hm
 nd:=h.nd
 hk:=fun hne=>⟨(h.hk hne).1,jI (h.hk hne).2 hm⟩
 sg:=fun e he=>(h.sg e he).mono hm
 sc:=fun σ hσ=>h.sc σ fun i hi=>hσ i (by omega)
theorem Wok.upd(h:Wok m wb b cs g) (s:Str):Wok (m+1) wb (upd m b s) cs g:=by
 have h':=h.mono (yK m);refine⟨h'.lw,h'.lg,h'.nd,?_,h'.sg,h'.sc⟩;cases s with
 |nil=>exact h'.hk
 |cons c r=>
  intro _;refine⟨?_,jX m⟩;intro hx;simp only[Go.Proofs.YtocnpnnplllneaaGreatDoor.upd]at hx;rcases ja.1 hx with hx|hx
  ·have:=h.lw;omega
  ·obtain⟨e,he,hx⟩:=ji.1 hx;have:=h.lg e he;omega
theorem qpf:getF wb (WF wb ty a b cs g)=some (.obj ty (a::bV b::cs)):=by simp[WF,getF]
theorem WF_b(h:Wok m wb b cs g) (hne:b.out≠[]):getF b.k (WF wb ty a b cs g)=some (.buf 5 b.out.length (qad b.out)):=by have h1:=(h.hk hne).1;simp only[ja,not_or]at h1;have:Nat.beq wb b.k=false:=qaw fun e=>h1.1 e.symm;simp[WF,getF,this,zjo hne]
theorem WF_g(h:Wok m wb b cs g) {e:Nat × Blk} (he:e∈g):getF e.1 (WF wb ty a b cs g)=some e.2:=by
 have nd:=h.nd;rw[jr]at nd;have e1:¬ wb=e.1:=fun x=>nd.1 (ji.2 ⟨e,he,x.symm⟩);have b1:Nat.beq wb e.1=false:=qaw e1;have key:getF e.1 g=some e.2:=by
  have:=qgi (fs:=[g]) (b:=e.1) (k:=e.2) (by simpa using nd.2) (by simpa using he);simp only[getFs]at this;revert this;cases getF e.1 g with
  |none=>intro h;cases h
  |some x=>intro h;exact h
 unfold WF getF;rw[b1];by_cases hne:b.out=[]
 ·obtain⟨k,out⟩:=b;simp only at hne;subst hne;exact key
 ·rw[zjo hne];have h1:=(h.hk hne).1;simp only[ja,not_or]at h1;have b2:Nat.beq b.k e.1=false:=qaw fun x=>h1.2 (ji.2 ⟨e,he,x.symm⟩);show getF e.1 ((b.k,_)::g)=_;unfold getF;rw[b2];exact key
theorem qrn{σ:List (Nat × Nat)} {kc k':Nat} {out:Str} (hw:qb2 wb σ=some wb) (hk:out≠[]->qb2 kc σ=some k') (hc:qaz σ [] cs cs):qhp σ [] (.obj ty (.ptr wb 0::bV ⟨kc,out⟩::cs)) (.obj ty (.ptr wb 0::bV ⟨k',out⟩::cs)):=by
 refine⟨rfl,?_⟩;simp only[qaz,qat,hw,true_and,and_true];refine⟨?_,hc⟩;cases out with
 |nil=>simp[bV,qat]
 |cons c r=>simp[bV,qat,hk (by simp)]
end
theorem zfr{todo:List Nat} {acc:List (Nat × Blk)}:∀{n:Nat},qgu n todo [] acc=(acc,[])
 |0=>by unfold qgu;rfl
 |n+1=>by unfold qgu;cases todo<;>rfl
theorem promW{wb c:Nat} {f:List (Nat × Blk)} {kb:Blk} (h:getF wb f=some kb):qdj wb [c] [] [[],f]=[[],f]:=by have e2:qqh []++[c]=[c]:=rfl;unfold qdj;have hn:getF wb []=none:=rfl;rw[hn];simp only[zfr,e2];unfold qdj;rw[h];rfl
@[simp]theorem pe1:qdy PG .eql 86 .nilP .nilP=some (.bool true):=rfl
@[simp]theorem pe2(b o:Nat):qdy PG .eql 86 (.ptr b o) .nilP=some (.bool false):=rfl
@[simp]theorem pe3(b:Nat):qdy PG .neq 86 (.ptr b 0) (.ptr b 0)=some (.bool false):=by have hs:qcg PG 88=some 2:=szT88;have hb:Nat.blt 0 2=true:=rfl;simp[qdy,eqA,hs,jD,Tryz.underlying86,hb]
theorem cv1{H:Heap} {wb:Nat} {ty:TypeId} {x:AV} {cs:List AV} (hg:H.get wb=some (.obj ty (x::cs))):qh7 PG H 86 134 (.ptr wb 0)=some (.ptr wb 0,H):=by have hs:qcg PG 88=some 2:=szT88;have h1:(Nat.blt 0 2 && Nat.blt 0 (x::cs).length)=true:=rfl;simp[qh7,Tryz.underlying86,Tryz.underlying134,hs,hg,Blk.rd,h1];rfl
theorem cv2{H:Heap} {wb:Nat} {ty:TypeId} {cs:List AV} (hg:H.get wb=some (.obj ty cs)) (hl:liesAt PG PG.depth ty (cs.length / PG.cellsOf ty) 0 88 1=true):qh7 PG H 134 86 (.ptr wb 0)=some (.ptr wb 0,H):=by have hs:qcg PG 88=some 2:=szT88;simp[qh7,Tryz.underlying86,Tryz.underlying134,hs,hg,hl]
theorem c116(hE:qIn 144 T e144) {m wb:Nat} {ty:TypeId} {a:AV} {b:Bs} {cs:List AV} {g:List (Nat × Blk)} (h:Wok m wb b cs g) (ha:a=.nilP\/a=.ptr wb 0)
  (hl:liesAt PG PG.depth ty ((cs.length+1+1) / PG.cellsOf ty) 0 88 1=true):CA T 116 [.ptr wb 0] ⟨m,[WF wb ty a b cs g]⟩ (.tup []) ⟨m+1,[WF wb ty (.ptr wb 0) b cs g]⟩:=by
 have hfin:∀m1,FitH m (idn m) [] ⟨m1,[[],WF wb ty (.ptr wb 0) b cs g]⟩ ⟨m+1,[WF wb ty (.ptr wb 0) b cs g]⟩:=fun m1=>by
  obtain⟨k,out⟩:=b;exact fitWr (kc:=k) (k':=k) (fz:=out.length) (out:=out) (O:=.obj ty (.ptr wb 0::bV ⟨k,out⟩::cs)) (.inl ⟨rfl,rfl,fun hne=>(h.hk hne).2⟩) (by omega) h.lw h.lg h.nd (fun hne=>(h.hk hne).1) (by simp[zG,qpf])
   (qrn (qd4 h.lw) (fun hne=>qd4 (h.hk hne).2) (h.sc _ (qm3 m))) (fun hne=>by simp only[zG];rw[WF_b h hne]) (jc _) (fun e he=>⟨by simp only[zG];rw[WF_g h he],h.sg e he⟩)
 have hset:∀x,setF wb (.obj ty (x::bV b::cs)) (WF wb ty a b cs g)=some (WF wb ty x b cs g):=fun x=>by simp[WF,setF]
 refine qa1 (s0:=⟨[0],[.ptr wb 0],[],20,⟨m,[]::[WF wb ty a b cs g]⟩⟩) Tryz.func116 rfl rfl rfl ?_;have hg:∀x,Heap.get ⟨m,[[],WF wb ty x b cs g]⟩ wb=some (.obj ty (x::bV b::cs)):=fun x=>by simp[zG,qpf]
 rcases ha with rfl|rfl
 ·have v1:=cv1 (hg .nilP);have v2:=cv2 (hg .nilP) (by simpa using hl);apply qR;simp[zS,qpf];apply qaj rfl;apply qR;simp[zS,v1,v2,k144 hE,qpf,promW qpf,hset];exact⟨[],rfl,idn m,[],by simp[oneOr,qat,qaz],hfin m⟩
 ·apply qR;simp[zS,qpf];apply qag rfl;apply qR;simp[zS,qpf];apply qag rfl;apply qa4;simp;exact⟨[],rfl,idn m,[],by simp[oneOr,qat,qaz],hfin m⟩
theorem qw6{n b:Nat} {k:Blk} {x:Nat × Blk} {f acc:List (Nat × Blk)} (h:getF b (x::f)=some k) (hk:qs5 k=[]):qgu (Nat.succ (Nat.succ n)) [b] (x::f) acc=((b,k)::acc,killF b (x::f)):=by unfold qgu;simp only[h,hk,jq];unfold qgu;rfl
theorem prom2{wb c:Nat} {k:Blk} {x:Nat × Blk} {f1 f2:List (Nat × Blk)} {kb:Blk} (n1:getF wb (x::f1)=none) (n2:getF wb f2=some kb) (h1:getF c (x::f1)=some k) (hk:qs5 k=[]) :
  qdj wb [c] [] [x::f1,f2]=[killF c (x::f1),(c,k)::f2]:=by
 have r1:qgu 100000 [c] (x::f1) []=([(c,k)],killF c (x::f1)):=qw6 (n:=99998) h1 hk;have e1:qqh [(c,k)]++[c]=[c]:=by simp[qqh,hk]
 unfold qdj;rw[n1];simp only[r1,e1];unfold qdj;rw[n2];rfl
theorem qnx(t:TypeId) (fz:Nat) (s:Str):qs5 (.buf t fz (qad s))=[]:=by
 show (qad s).flatMap (refs 4)=[];induction s with
 |nil=>rfl
 |cons c r ih=>rw[qad,yx,ih];rfl
theorem src_str{H:Heap} (s:Str):qc7 (.str s)=some s.length/\qbb H 1 s.length (.str s)=some (qad s):=by refine⟨rfl,?_⟩;simp[qbb]
theorem zgu{α:Type}:∀(n:Nat) (l:List α),n<=l.length->qho [] n l=some l
 |0,l,_=>by unfold qho qif;rfl
 |n+1,[],h=>by simp at h
 |n+1,x::r,h=>by show (qho [] n r).bind _=_;rw[zgu n r (by simpa using h)];rfl
theorem qjt{b:Nat} {k:Blk}:∀{l:List (Nat × Blk)},getF b l=some k->setF b k l=some l
 |[],h=>by cases h
 |x::r,h=>by
  unfold getF at h;unfold setF;split at h
  next hb=>simp only[sj]at h;rw[<- Nat.eq_of_beq_eq_true hb,<- h]
  next hb=>rw[qjt h];rfl
theorem zjv{m wb:Nat} {ty:TypeId} {a:AV} {b:Bs} {cs:List AV} {g:List (Nat × Blk)} (h:Wok m wb b cs g) (s:Str) (hl:b.out.length+s.length<=1000000000) (x:AV) (hx:∀H,qc7 x=some s.length/\qbb H 1 s.length x=some (qad s)) :
  qby PG ⟨m,[[],WF wb ty a b cs g]⟩ 5 (bV b) x=match (generalizing:=false) s with
   |[]=>some (bV b,⟨m,[[],WF wb ty a b cs g]⟩)
   |_::_=>some (.slc m 0 (b.out.length+s.length) (.rest 1),⟨m+1,[[(m,.buf 5 (if b.out=[] then 0 else b.out.length) (qad (b.out++s)))],(wb,.obj ty (a::bV b::cs))::g]⟩):=by
 have hsz:qcg PG 5=some 1:=szT5;have hby:qco PG 5=some 1:=byT5;have hz:qc1 PG 5=some (.int .u8 0):=zeT5;have hroom:∀n,n<=1000000000->qcf n 1=true:=fun n hn=>by simp[qcf];omega
 have c0:(Nat.beq 1 0 || !(Nat.beq (AV.cells (.int .u8 0)).length 1 && Nat.blt 0 1))=false:=rfl;have hrow:∀cs,qpi PG 5 cs=.buf 5 0 cs:=fun cs=>rfl;obtain⟨hx1,hx2⟩:=hx ⟨m,[[],WF wb ty a b cs g]⟩;obtain⟨k,out⟩:=b;simp only at hl;unfold qby;simp only[hsz,hby,hz,hx1,jb,c0];cases out with
 |nil=>
  simp only[bV];cases s with
  |nil=>rfl
  |cons d q=>have hr:=hroom (q.length+1) (by simp at hl;omega);have hcb:Nat.beq (qad (d::q)).length ((q.length+1) * 1)=true:=(by rw[qd8];simp);simp only[jx]at hx2 ⊢;simp only[hr,hx2,jb,hcb,hrow];simp[Heap.new,pushF,WF,bV,bF]
 |cons c r=>
  have hg:Heap.get ⟨m,[[],WF wb ty a ⟨k,c::r⟩ cs g]⟩ k=some (.buf 5 (c::r).length (qad (c::r))):=by have:=WF_b (ty:=ty) (a:=a) h (by simp);simp only[zG];rw[this]
  have hk:qck ⟨m,[[],WF wb ty a ⟨k,c::r⟩ cs g]⟩ k=some (c::r).length:=by unfold qck;simp only[hg,jb,Blk.rd,qd8]
  have hr:=hroom ((c::r).length+s.length) hl;have h1:Nat.beq 1 1=true:=rfl;simp only[bV,hx2,jb,hr,qko,h1,hk];cases s with
  |nil=>have h2:Nat.ble (0+((c::r).length+([]:Str).length) * 1) (c::r).length=true:=(by simp);simp only[h2];have hw:writeCells ⟨m,[[],WF wb ty a ⟨k,c::r⟩ cs g]⟩ k (0+(c::r).length * 1) (qad [])=some ⟨m,[[],WF wb ty a ⟨k,c::r⟩ cs g]⟩:=(by have hs:setF k (.buf 5 (c::r).length (qad (c::r))) (WF wb ty a ⟨k,c::r⟩ cs g)=some (WF wb ty a ⟨k,c::r⟩ cs g):=qjt (WF_b (ty:=ty) (a:=a) h (by simp));have hw1:Blk.wt (.buf 5 (c::r).length (qad (c::r))) (0+(c::r).length * 1)=some (qad (c::r)):=(by have:Nat.ble (c::r).length (0+(c::r).length * 1)=true:=(by simp);simp only[Blk.wt,this]);have hl2:qho (qad []) (0+(c::r).length * 1) (qad (c::r))=some (qad (c::r)):=zgu _ _ (by rw[qd8];simp);simp only[writeCells,hg,jb,hw1,hl2];have hb0:qad []=[]:=rfl;rw[hb0];simp only[Heap.ready,List.flatMap_nil,Heap.set,setFs,setF,Blk.re,hs,jb,yX]);rw[hw];simp
  |cons d q=>have h2:Nat.ble (0+((c::r).length+(d::q).length) * 1) (c::r).length=false:=(by rw[<- Bool.not_eq_true,jN];simp);have h3:Nat.beq (0+(c::r).length * 1) (c::r).length=true:=(by simp);have h4:readCells ⟨m,[[],WF wb ty a ⟨k,c::r⟩ cs g]⟩ k 0 ((c::r).length * 1)=some (qad (c::r)):=(by unfold readCells;simp only[hg,jb,Blk.rd,qek,jF,y8];rw[<- qd8 (c::r)];exact qcn _);have h5:Nat.beq (qad (d::q)).length ((d::q).length * 1)=true:=(by rw[qd8];simp);have h6:goOn (.buf 5 (c::r).length (qad (c::r))) 5 0 (qad (c::r)++qad (d::q))=some (.buf 5 (c::r).length (qad (c::r)++qad (d::q))):=rfl;simp only[h2,h3,h4,h5,jb,hg,h6];have hd:Heap.drop ⟨m,[[],WF wb ty a ⟨k,c::r⟩ cs g]⟩ k=⟨m,[[],(wb,.obj ty (a::bV ⟨k,c::r⟩::cs))::g]⟩:=(by have hkw:=(h.hk (by simp)).1;simp only[ja,not_or]at hkw;have e1:Nat.beq wb k=false:=qaw fun e=>hkw.1 e.symm;simp[Heap.drop,qem,getF,WF,e1,bF,killF]);rw[hd,<- qrw];simp[Heap.new,pushF,bV]
theorem app_bs{m wb:Nat} {ty:TypeId} {a:AV} {b:Bs} {cs:List AV} {g:List (Nat × Blk)} (h:Wok m wb b cs g) (s:Str) (hl:b.out.length+s.length<=1000000000) :
  qby PG ⟨m,[[],WF wb ty a b cs g]⟩ 5 (bV b) (.str s)=match (generalizing:=false) s with
   |[]=>some (bV b,⟨m,[[],WF wb ty a b cs g]⟩)
   |_::_=>some (.slc m 0 (b.out.length+s.length) (.rest 1),⟨m+1,[[(m,.buf 5 (if b.out=[] then 0 else b.out.length) (qad (b.out++s)))],(wb,.obj ty (a::bV b::cs))::g]⟩):=zjv h s hl (.str s) fun _=>src_str s
theorem ql4{m n wb:Nat} {ty:TypeId} {b:Bs} {cs:List AV} {g:List (Nat × Blk)} (h:Wok m wb b cs g):FitH m (idn m) [] ⟨n,[[],WF wb ty (.ptr wb 0) b cs g]⟩ ⟨m+1,[WF wb ty (.ptr wb 0) b cs g]⟩:=by
 obtain⟨k,out⟩:=b;exact fitWr (kc:=k) (k':=k) (fz:=out.length) (out:=out) (O:=.obj ty (.ptr wb 0::bV ⟨k,out⟩::cs)) (.inl ⟨rfl,rfl,fun hne=>(h.hk hne).2⟩) (by omega) h.lw h.lg h.nd (fun hne=>(h.hk hne).1) (by simp[zG,qpf])
  (qrn (qd4 h.lw) (fun hne=>qd4 (h.hk hne).2) (h.sc _ (qm3 m))) (fun hne=>by simp only[zG];rw[WF_b h hne]) (jc _) (fun e he=>⟨by simp only[zG];rw[WF_g h he],h.sg e he⟩)
theorem zi2{m n c wb fz:Nat} {ty:TypeId} {out:Str} {b0:Bs} {cs:List AV} {g:List (Nat × Blk)} (h:Wok m wb b0 cs g) (hc:m<=c) (hne:out≠[]) (hfz:fz<=out.length) :
  FitH m ((c,m)::idn m) [] ⟨n,[[],(c,.buf 5 fz (qad out))::(wb,.obj ty (.ptr wb 0::.slc c 0 out.length (.rest 1)::cs))::g]⟩ ⟨m+1,[WF wb ty (.ptr wb 0) ⟨m,out⟩ cs g]⟩:=by
 have hw:Nat.beq c wb=false:=qaw (by have:=h.lw;omega);have hbv:bV ⟨c,out⟩=.slc c 0 out.length (.rest 1):=bV_ne (b:=⟨c,out⟩) hne;have idl:=qps (m:=m) (k:=c) (k':=m) hc;refine fitWr (kc:=c) (k':=m) (fz:=fz) (out:=out) (O:=.obj ty (.ptr wb 0::.slc c 0 out.length (.rest 1)::cs)) (.inr ⟨rfl,rfl,hc⟩) (by omega) h.lw h.lg h.nd (fun _ hx=>?_) (by simp[zG,hw]) ?_ (fun _=>by simp[zG]) hfz (fun e he=>⟨?_,h.sg e he⟩)
 ·rcases ja.1 hx with hx|hx
  ·have:=h.lw;omega
  ·obtain⟨e,he,hx⟩:=ji.1 hx;have:=h.lg e he;omega
 ·rw[<- hbv];exact qrn (idl _ h.lw) (fun _=>by simp[qb2]) (h.sc _ idl)
 ·have nd:=h.nd;rw[jr]at nd;have e1:Nat.beq wb e.1=false:=qaw fun x=>nd.1 (ji.2 ⟨e,he,x.symm⟩);have e2:Nat.beq c e.1=false:=qaw (by have:=h.lg e he;omega);have:=qgi (fs:=[g]) (b:=e.1) (k:=e.2) (by simpa using nd.2) (by simpa using he);simp only[getFs]at this;simp only[zG,e1,e2];exact this
theorem c74(hE:qIn 144 T e144) {m wb:Nat} {ty:TypeId} {a:AV} {b:Bs} {cs:List AV} {g:List (Nat × Blk)} (h:Wok m wb b cs g) (ha:a=.nilP\/a=.ptr wb 0)
  (hl:liesAt PG PG.depth ty ((cs.length+1+1) / PG.cellsOf ty) 0 88 1=true) (s:Str) (hs:b.out.length+s.length<=1000000000) :
  CA T 74 [.ptr wb 0,.str s] ⟨m,[WF wb ty a b cs g]⟩ (.tup [.int .i64 (s.length:Nat),.nilI]) ⟨m+1,[WF wb ty (.ptr wb 0) (upd m b s) cs g]⟩:=by
 have hcc:=(c116 (T:=T) hE h ha hl).perm (H2:=⟨m,[[],WF wb ty a b cs g]⟩) (H2':=⟨m+1,[[],WF wb ty (.ptr wb 0) b cs g]⟩) rfl rfl (by simp[Heap.ents]) (by simp[Heap.ents]);have h1:=h.mono (yK m);have happ:=app_bs (ty:=ty) (a:=.ptr wb 0) h1 s hs;refine qa1 (s0:=⟨[0,1,4,5],[.ptr wb 0,.str s,uD,uD],[],19,⟨m,[]::[WF wb ty a b cs g]⟩⟩) Tryz.func74 rfl rfl rfl ?_;apply qR;simp[zS];repeat apply wq
 refine qai (qbo [⟨116,_,_,_,_,hcc⟩]) ?_;simp[zS,qcu];have hO:∀n,Heap.get ⟨n,[[],WF wb ty (.ptr wb 0) b cs g]⟩ wb=some (.obj ty (.ptr wb 0::bV b::cs)):=fun n=>by simp[zG,qpf]
 cases s with
 |nil=>
  simp only at happ;have hset:setF wb (.obj ty (.ptr wb 0::bV b::cs)) (WF wb ty (.ptr wb 0) b cs g)=some (WF wb ty (.ptr wb 0) b cs g):=qjt qpf;obtain⟨k,out⟩:=b;cases out with
  |nil=>simp only[bV]at happ hset;apply qR;simp[zS,qpf,bV,happ,hset];apply qR;simp[zS];apply qa3;simp[zQ,Tryz.f74];exact⟨idn m,[],by simp[qat,qaz,qab,qa9],ql4 h⟩
  |cons c r=>simp only[bV,jx]at happ hset;apply qR;simp[zS,qpf,bV,happ,hset,promW qpf];apply qR;simp[zS];apply qa3;simp[zQ,Tryz.f74];exact⟨idn m,[],by simp[qat,qaz,qab,qa9],ql4 h⟩
 |cons d q=>simp only at happ;have hbw:Nat.beq (m+1) wb=false:=qaw (by have:=h.lw;omega);have pr:=prom2 (wb:=wb) (c:=m+1) (k:=.buf 5 (if b.out=[] then 0 else b.out.length) (qad (b.out++d::q))) (x:=(m+1,.buf 5 (if b.out=[] then 0 else b.out.length) (qad (b.out++d::q)))) (f1:=[]) (f2:=(wb,.obj ty (.ptr wb 0::bV b::cs))::g) (kb:=.obj ty (.ptr wb 0::bV b::cs)) (by simp[getF,hbw]) (by simp[getF]) (by simp[getF]) (qnx _ _ _);apply qR;simp[zS,qpf,happ,hbw,pr,killF];apply qR;simp[zS];apply qa3;simp[zQ,Tryz.f74];refine⟨(m+1,m)::idn m,[],by simp[qat,qaz,qab,qa9],?_⟩;have:=zi2 (n:=m+1+1) (ty:=ty) (c:=m+1) (out:=b.out++d::q) (fz:=if b.out=[] then 0 else b.out.length) h (by omega) (by simp) (by split<;>simp);simpa[upd]using this
theorem src_aB{s:Str} (H:Heap):qc7 (aB s)=some s.length/\qbb H 1 s.length (aB s)=some (qad s):=by
 refine⟨by simp[aB,qc7,qd8],?_⟩;have h1:(qad s).take s.length=qad s:=by rw[jz];rw[qd8];exact jc _
 have h2:∀s:Str,qa5 (qad s)=qad s:=fun s=>by
  induction s with
  |nil=>rfl
  |cons c r ih=>simp[qad,qa5,ih]
 simp[aB,qbb,h1,h2]
theorem c76(hE:qIn 144 T e144) {m wb:Nat} {ty:TypeId} {a:AV} {b:Bs} {cs:List AV} {g:List (Nat × Blk)} (h:Wok m wb b cs g) (ha:a=.nilP\/a=.ptr wb 0)
  (hl:liesAt PG PG.depth ty ((cs.length+1+1) / PG.cellsOf ty) 0 88 1=true) (s:Str) (hs:b.out.length+s.length<=1000000000) :
  CA T 76 [.ptr wb 0,aB s] ⟨m,[WF wb ty a b cs g]⟩ (.tup [.int .i64 (s.length:Nat),.nilI]) ⟨m+1,[WF wb ty (.ptr wb 0) (upd m b s) cs g]⟩:=by
 have hcc:=(c116 (T:=T) hE h ha hl).perm (H2:=⟨m,[[],WF wb ty a b cs g]⟩) (H2':=⟨m+1,[[],WF wb ty (.ptr wb 0) b cs g]⟩) rfl rfl (by simp[Heap.ents]) (by simp[Heap.ents]);have h1:=h.mono (yK m);have happ:=zjv (ty:=ty) (a:=.ptr wb 0) h1 s hs (aB s) src_aB;refine qa1 (s0:=⟨[0,1,4,5],[.ptr wb 0,aB s,uD,uD],[],19,⟨m,[]::[WF wb ty a b cs g]⟩⟩) Tryz.func76 rfl rfl rfl ?_;apply qR;simp[zS];repeat apply wq
 refine qai (qbo [⟨116,_,_,_,_,hcc⟩]) ?_;simp[zS,qcu];have hO:∀n,Heap.get ⟨n,[[],WF wb ty (.ptr wb 0) b cs g]⟩ wb=some (.obj ty (.ptr wb 0::bV b::cs)):=fun n=>by simp[zG,qpf]
 cases s with
 |nil=>
  simp only at happ;have hset:setF wb (.obj ty (.ptr wb 0::bV b::cs)) (WF wb ty (.ptr wb 0) b cs g)=some (WF wb ty (.ptr wb 0) b cs g):=qjt qpf;obtain⟨k,out⟩:=b;cases out with
  |nil=>simp only[bV]at happ hset;apply qR;simp[zS,qpf,bV,happ,hset];apply qR;simp[zS,qsb];apply qa3;simp[zQ,Tryz.f76];exact⟨idn m,[],by simp[qat,qaz,qab,qa9],ql4 h⟩
  |cons c r=>simp only[bV,jx]at happ hset;apply qR;simp[zS,qpf,bV,happ,hset,promW qpf];apply qR;simp[zS,qsb];apply qa3;simp[zQ,Tryz.f76];exact⟨idn m,[],by simp[qat,qaz,qab,qa9],ql4 h⟩
 |cons d q=>simp only at happ;have hbw:Nat.beq (m+1) wb=false:=qaw (by have:=h.lw;omega);have pr:=prom2 (wb:=wb) (c:=m+1) (k:=.buf 5 (if b.out=[] then 0 else b.out.length) (qad (b.out++d::q))) (x:=(m+1,.buf 5 (if b.out=[] then 0 else b.out.length) (qad (b.out++d::q)))) (f1:=[]) (f2:=(wb,.obj ty (.ptr wb 0::bV b::cs))::g) (kb:=.obj ty (.ptr wb 0::bV b::cs)) (by simp[getF,hbw]) (by simp[getF]) (by simp[getF]) (qnx _ _ _);apply qR;simp[zS,qpf,happ,hbw,pr,killF];apply qR;simp[zS,qsb];apply qa3;simp[zQ,Tryz.f76];refine⟨(m+1,m)::idn m,[],by simp[qat,qaz,qab,qa9],?_⟩;have:=zi2 (n:=m+1+1) (ty:=ty) (c:=m+1) (out:=b.out++d::q) (fz:=if b.out=[] then 0 else b.out.length) h (by omega) (by simp) (by split<;>simp);simpa[upd]using this
def qww:Go.Shelf.Ren:=⟨fun | 32=>72 | 49=>114|n=>n,fun | 0=>0 | 3=>3 | 4=>4 | 5=>5 | 21=>21 | 25=>130 | 30=>74 | 33=>89 | 66=>129 | 68=>132 | 69=>133|n=>n,fun | 2=>0 | 3=>1|n=>n⟩
theorem lays7_32:Go.Proofs.Lays7.n32 PG qww where
 mixed:=by kernel_rfl
 f32:=Tryz.func72.trans (congrArg some (by kernel_rfl))
 f49:=Tryz.func114.trans (congrArg some (by kernel_rfl))
 t0:=Tryz.underlying0
 a0:=Tryz.isAgg0
 z0:=Tryz.sizeOf0
 v0:=Tryz.zeroValue0
 i0:=by kernel_rfl
 t3:=Tryz.underlying3
 a3:=Tryz.isAgg3
 z3:=Tryz.sizeOf3
 v3:=Tryz.zeroValue3
 i3:=by kernel_rfl
 t4:=Tryz.underlying4
 a4:=Tryz.isAgg4
 z4:=Tryz.sizeOf4
 v4:=Tryz.zeroValue4
 i4:=by kernel_rfl
 t5:=Tryz.underlying5
 a5:=Tryz.isAgg5
 z5:=Tryz.sizeOf5
 v5:=Tryz.zeroValue5
 i5:=by kernel_rfl
 t21:=Tryz.underlying21
 a21:=Tryz.isAgg21
 z21:=Tryz.sizeOf21
 v21:=Tryz.zeroValue21
 i21:=by kernel_rfl
 t25:=Tryz.underlying130
 a25:=Tryz.isAgg130
 z25:=Tryz.sizeOf130
 v25:=Tryz.zeroValue130
 i25:=by kernel_rfl
 t30:=Tryz.underlying74
 a30:=Tryz.isAgg74
 z30:=Tryz.sizeOf74
 v30:=Tryz.zeroValue74
 i30:=by kernel_rfl
 t33:=Tryz.underlying89
 a33:=Tryz.isAgg89
 z33:=Tryz.sizeOf89
 v33:=Tryz.zeroValue89
 i33:=by kernel_rfl
 t66:=Tryz.underlying129
 a66:=Tryz.isAgg129
 z66:=Tryz.sizeOf129
 t68:=Tryz.underlying132
 a68:=Tryz.isAgg132
 z68:=Tryz.sizeOf132
 v68:=Tryz.zeroValue132
 i68:=by kernel_rfl
 t69:=Tryz.underlying133
 a69:=Tryz.isAgg133
 z69:=Tryz.sizeOf133
 v69:=Tryz.zeroValue133
 i69:=by kernel_rfl
 g2:=by kernel_rfl
 g3:=by kernel_rfl
theorem qtd:∀(s:Str) (j:Nat),(qad s).getD j .undef=if h:j < s.length then .int .u8 (s[j].toNat:Int) else .undef
 |[],j=>by simp[qad]
 |c::r,0=>by simp[qad]
 |c::r,j+1=>by have ih:=qtd r j;simp only[qad,List.getD_cons_succ,ih,jx,Nat.add_lt_add_iff_right,ym]
theorem zja{s:Str} {j:Nat} (h:j < s.length) (h':j < (qad s).length):(qad s)[j]=.int .u8 (s[j].toNat:Int):=by have:=qtd s j;rw[dif_pos h,List.getD_eq_getElem?_getD,List.getElem?_eq_getElem h']at this;exact this
theorem byte_at{s:Str} {j:Nat} (hj:j < s.length):((⟨s.toArray⟩ : ByteArray).get! j)=s.getD j 0:=by show s.toArray[j]! = _;simp[List.getD_eq_getElem?_getD,hj]
theorem c72(s:Str) (hne:s≠[]) (hl:s.length<=1000000):CA T 72 [aB s] zH (.tup [.int .i32 (Lib.decodeGo ⟨s.toArray⟩).1,.int .i64 (Lib.decodeGo ⟨s.toArray⟩).2]) zH:=by
 intro ρ w xs sm hx
 match xs,hx with
 |[x],hx=>
  have h0:=hx.2 0 (by simp) (by simp);simp only[j5]at h0;have hpos:=j8.2 hne;have hbl:(qad s).length=s.length:=qd8 s;unfold aB at h0;generalize hM:qad s=M at h0 hbl;cases h0 with
  |fnil=>simp at hbl;omega
  |fnone=>simp at hbl;omega
  |fslc _ _ cb off cap vs hB hcap hz hc hv=>
   have hsz:(⟨s.toArray⟩ : ByteArray).size=M.length:=(by show s.toArray.size=_;simp[hbl]);have hcell:∀j,j < (⟨s.toArray⟩ : ByteArray).size->w.cell? ⟨cb,off+j,none⟩=some (.int .u8 ((⟨s.toArray⟩ : ByteArray).get! j).toNat):=fun j hj=>(by have hj':j < M.length:=(by rw[<- hsz];exact hj);have hjs:j < s.length:=(by omega);have h1:=hc j hj' 0 (by omega);have hjc:M[j]=.int .u8 (s[j].toNat:Int):=(by subst hM;exact zja hjs hj');have h2:=hv j hj' 0 (by rw[hjc];simp[AV.cells]);have hcs:M[j].cells=[.int .u8 (s[j].toNat:Int)]:=(by rw[hjc];rfl);simp only[hcs,j5]at h2;have h3:vs j 0=.int .u8 (s[j].toNat:Int):=(by generalize vs j 0=z at h2;cases h2;rfl);rw[h3]at h1;have h4:w.cell? ⟨cb,off+j * 1+0,none⟩=ρ.W.cell? ⟨cb,off+j * 1+0,none⟩:=(by simp only[World.cell?];rw[sm.below cb hB]);rw[y8,y4]at h4 h1;rw[h4,h1,byte_at hjs];simp[List.getD_eq_getElem?_getD,hjs]);have hrun:(callFunc 72 #[.slice (some ⟨cb,off,none⟩) M.length cap]).run (ctx T).P w=.ok (.enter 72 #[.slice (some ⟨cb,off,none⟩) M.length cap]) w:=by
    have hf:(ctx T).P.funcs[72]? = some Tryz.f72:=Tryz.func72
    have hn : ¬ Tryz.f72.name = "runtime.NumGoroutine" := by decide +kernel
    simp[callFunc,hf,hn,Tryz.f72]
   refine .inr ⟨72,_,hrun,callsIn_wide.2 ?_⟩;rw[<- hsz];refine(Go.Proofs.Any7.utf8_DecodeRune lays7_32 ⟨s.toArray⟩ cb off cap w (zf6 sm) hcell).mono ?_;rintro e w' ⟨rfl,hb⟩;refine⟨_,ρ,rfl,.tup _ _ rfl fun i h h'=>?_,qnt sm hb,qln hb⟩
   match i,h,h' with
   |0,_,_=>exact .int _ _
   |1,_,_=>exact .int _ _
set_option maxHeartbeats 2000000
def bndN(c:Nat):AV:=.tup [.int .i64 (qdg c:Nat),.int .u8 (if qdg c=0 then 0 else loN c:Nat),.int .u8 (if qdg c=0 then 0 else hiN c:Nat)]
theorem c115(c:Nat) (hc:c < 256):CA T 115 [.int .u8 (c:Int)] zH (bndN c) zH:=by
 refine qa1 (s0:=⟨[0,2,3,4,18],[.int .u8 (c:Int),uD,uD,uD,uD],[],30,⟨0,[[]]⟩⟩) Tryz.func115 rfl rfl rfl ?_
 (repeat' (first
  |with_reducible apply qam
  |with_reducible apply qa7
  |(with_reducible apply rE;simp[zS, *];exact rfl)
  |(with_reducible apply qax;simp only[qan,qah])
  |(with_reducible refine qb6 (fun hc=>?_) (fun hc=>?_)<;>(have hd:=hc;(try simp at hd);(try subst hd);apply qf6;simp[zS, *];exact rfl))
  |(with_reducible refine ql0 (fun hc=>?_) (fun hc=>?_)<;>(have hd:=hc;(try simp at hd);(try subst hd);apply qf6;simp[zS, *];exact rfl))
  |apply qaj rfl
  |(refine qay rfl (fun hc=>?_) (fun hc=>?_)<;>(have hd:=hc;(try simp at hd);(try subst hd)))
  |(with_reducible apply qa4;simp only[qan,qah])
  |(with_reducible apply qa3;simp[zQ,Tryz.f115])))
 all_goals first|exact qa2 rfl (by(simp only[bndN,qdg,loN,hiN];(repeat' split)<;>first|rfl|(exfalso;omega)))|(exfalso;omega)
def e115:Entry PG:=mkE 115 [[]] (fun c:Nat=>[.int .u8 (c:Int)]) (fun c=>c < 256) (fun c=>bndN c) fun c h=>c115 (T:=[]) c h
theorem k115(hT:qIn 115 T e115) {c:Nat} (h:c < 256) (H:Heap):qb7 (ctx T) (.fn 115) [.int .u8 (c:Int)] H=some (bndN c,H):=
 qd2 hT (fun x y h=>by simp at h;omega) c h (by simp[qa9,qab]) (by simp[qga,qao,okV,qab]) H
theorem one_cut(s:Str) (hc:¬ qdg (cN s 0)=0):(qdt s).1=(ql9 s (qdg (cN s 0)) 1 (loN (cN s 0)) (hiN (cN s 0))).1:=by have h1:¬ cN s 0 < 128:=fun h=>hc (by unfold qdg;rw[if_pos (by omega)]);simp only[qdt,h1,hc,if_false]
theorem one_cut0(s:Str) (hc:qdg (cN s 0)=0):(qdt s).1=1:=by
 unfold qdt;split
 ·rfl
 ·simp[hc]
theorem c73(hB:qIn 115 T e115) (s:Str) (hne:0 < s.length) (hl:s.length<=1000000):CA T 73 [aB s] zH (.int .i64 ((qdt s).1:Nat)) zH:=by
 have h0:=atB (s:=s) (i:=0) hne;rw[qkl hne]at h0;simp only[Int.ofNat_zero,Int.cast_ofNat_Int,Int.natCast_zero]at h0;have hb:=(s[0]'hne).toNat_lt;rw[qkl hne]at hb;have kb:=fun H=>k115 hB hb H;simp only[bndN]at kb;obtain⟨R,hR⟩ : ∃R,R=(qdt s).1:=⟨_,rfl⟩;rw[<- hR];have hRg:(ql9 s (qdg (cN s 0)) 1 (if qdg (cN s 0)=0 then 0 else loN (cN s 0)) (if qdg (cN s 0)=0 then 0 else hiN (cN s 0))).1=R:=by
  rw[hR];by_cases hm:qdg (cN s 0)=0
  ·rw[one_cut0 s hm,hm];rfl
  ·rw[one_cut s hm];simp only[hm,if_false]
 have hM3:=qu7 (cN s 0);clear hR;generalize (if qdg (cN s 0)=0 then 0 else loN (cN s 0))=l0 at *;generalize (if qdg (cN s 0)=0 then 0 else hiN (cN s 0))=h1 at *;generalize qdg (cN s 0)=M at *;refine qa1 (s0:=⟨[0,2,3,4,5,6],[aB s,uD,uD,uD,uD,uD],[],43,⟨0,[[]]⟩⟩) Tryz.func73 rfl rfl rfl ?_;apply qR;simp[zS];apply qR;simp[zS,h0,kb];apply qR;simp[zS];try apply qam
 refine qa7 (qb1 (fun x:Nat × Nat × Nat × Nat=>(⟨[0,2,3,4,5,6],[aB s,.int .i64 0,.int .i64 (M:Nat),.int .u8 (x.2.2.1:Nat),.int .u8 (x.2.2.2:Nat),.int .i64 (x.2.1:Nat)],[],43,⟨0,[[]]⟩⟩ : St))
  (fun x=>x.2.1+x.1=M+1/\1<=x.2.1/\(ql9 s x.1 x.2.1 x.2.2.1 x.2.2.2).1=R) (fun x=>x.1) [] [] (M,1,l0,h1) ⟨by simp only;omega,jc _,hRg⟩ ⟨rfl,rfl,rfl,by simp[qaz,qat,qab,qa9,aB],FitH.nothing⟩ ?_)
 rintro⟨k,i,lo,hi⟩ ⟨hk,hi1,hg⟩ B hB;simp only at hk hi1 hg hB;clear hRg kb h0;cases k with
 |zero=>
  have hx:¬ (i:Int)<=(M:Int):=by omega
  have hx':¬ i<=M:=by omega
  apply qR;simp[zS,hx,hx'];apply qag rfl;apply qau;simp;apply qR;simp[zS];apply qa3;simp[zQ,Tryz.f73];exact qa2 rfl (by rw[<- hg];rfl)
 |succ k=>
  have hx:(i:Int)<=(M:Int):=by omega
  have hx':i<=M:=by omega
  have fail:qld s i lo hi=false->R=i:=fun h=>by rw[<- hg];simp[ql9,h]
  by_cases q1:i < s.length
  ·have p1:(i:Int) < (s.length:Int):=(by omega);have ha:=atB (s:=s) q1;rw[qkl q1]at ha;by_cases q2:lo<=cN s i
   ·have p2:(lo:Int)<=(cN s i:Int):=(by omega);by_cases q3:cN s i<=hi
    ·have p3:(cN s i:Int)<=(hi:Int):=(by omega);apply qR;simp[zS,qsb,hx,hx',p1,q1,ha,p2,q2,p3,q3];apply qaj rfl;apply qa4;simp;apply qa7;apply qR;simp[zS,qbd (show i<=1000000000 by omega)];apply qR;simp[zS];have hcn:qld s i lo hi=true:=(by simp[qld,q1,q2,q3]);exact hB _ (k,i+1,128,191) (by simp only;omega) ⟨by simp only;omega,by simp only;omega,by simp only;rw[<- hg];simp[ql9,hcn]⟩ ⟨[],[],⟨rfl,rfl,rfl,by simp[qaz,qat,qab,qa9,aB],FitH.nothing⟩⟩
    ·have p3:¬ (cN s i:Int)<=(hi:Int):=(by omega);apply qR;simp[zS,qsb,hx,hx',p1,q1,ha,p2,q2,p3,q3];apply qag rfl;apply qau;simp;apply qR;simp[zS];apply qa3;simp[zQ,Tryz.f73];exact qa2 rfl (by rw[fail (by simp[qld,q3])])
   ·have p2:¬ (lo:Int)<=(cN s i:Int):=(by omega);apply qR;simp[zS,qsb,hx,hx',p1,q1,ha,p2,q2];apply qag rfl;apply qau;simp;apply qR;simp[zS];apply qa3;simp[zQ,Tryz.f73];exact qa2 rfl (by rw[fail (by simp[qld,q2])])
  ·have p1:¬ (i:Int) < (s.length:Int):=(by omega);apply qR;simp[zS,qsb,hx,hx',p1,q1];apply qag rfl;apply qau;simp;apply qR;simp[zS];apply qa3;simp[zQ,Tryz.f73];exact qa2 rfl (by rw[fail (by simp[qld,q1])])
def e73:Entry PG:=mkE 73 [[1]] (fun x:Str=>[aB x]) (fun x=>0 < x.length/\x.length<=1000000) (fun x=>.int .i64 ((qdt x).1:Nat)) fun x h=>c73 (T:=[e115]) rfl x h.1 h.2
theorem k73(hT:qIn 73 T e73) {s:Str} (h1:0 < s.length) (h2:s.length<=1000000) (H:Heap):qb7 (ctx T) (.fn 73) [aB s] H=some (.int .i64 ((qdt s).1:Nat),H):=
 qac hT qx2 s ⟨h1,h2⟩ rfl (by simp[aB])
theorem zbw(s:Str) (j:Nat):((⟨s.toArray⟩ : ByteArray).get! j).toNat=cN s j:=by
 show (s.toArray[j]!).toNat=(s.getD j 0).toNat;congr 1;by_cases h:j < s.length
 ·simp[List.getD_eq_getElem?_getD,h]
 ·simp[List.getD_eq_getElem?_getD,h];rfl
theorem cN_lt(s:Str) (j:Nat):cN s j < 256:=(s.getD j 0).toNat_lt
theorem ziq{s:Str} (h:0 < s.length):Lib.decodeGo ⟨s.toArray⟩=Lib.decodeN s.length (cN s 0) (cN s 1) (cN s 2) (cN s 3):=by
 have hs:(⟨s.toArray⟩ : ByteArray).size=s.length:=by show s.toArray.size=_;simp
 unfold Lib.decodeGo;rw[if_neg (by rw[hs];omega),Lib.decode_at,hs,zbw,zbw,zbw,zbw];rfl
theorem ze0(n b0 b1 b2 b3:Nat) (h:¬ b0 < 128):128<=(Lib.decodeN n b0 b1 b2 b3).1:=by
 unfold Lib.decodeN;rw[if_neg h]
 (repeat' split)<;>simp only<;>omega
theorem zdz{s:Str} (h:0 < s.length):∃r n:Nat,Lib.decodeGo ⟨s.toArray⟩=(r,n)/\(((qdt s).2=false/\r=65533/\n=1)\/((qdt s).2=true/\n=(qdt s).1/\¬ (r=65533/\n=1)/\(r=0↔cN s 0=0)/\(r=13↔cN s 0=13))):=by
 rw[ziq h];obtain⟨⟨r,n⟩,hD⟩ : ∃D:Nat × Nat,D=Lib.decodeN s.length (cN s 0) (cN s 1) (cN s 2) (cN s 3):=⟨_,rfl⟩;refine⟨r,n,hD.symm,?_⟩;rw[qou];rcases qsy s.length (cN s 0) (cN s 1) (cN s 2) (cN s 3) h (cN_lt s 0) (cN_lt s 1) (cN_lt s 2) (cN_lt s 3)with⟨g1,g2⟩|⟨g1,g2,g3⟩
 ·left;rw[g2]at hD;simp only[jf]at hD;exact⟨g1,hD.1,hD.2⟩
 ·right;rw[<- hD]at g2 g3;refine⟨g1,g2,g3,?_⟩;by_cases hl:cN s 0 < 128
  ·have:(Lib.decodeN s.length (cN s 0) (cN s 1) (cN s 2) (cN s 3)).1=cN s 0:=(by simp[Lib.decodeN,hl]);rw[<- hD]at this;simp only at this;rw[this];exact⟨Iff.rfl,Iff.rfl⟩
  ·have:=ze0 s.length (cN s 0) (cN s 1) (cN s 2) (cN s 3) hl;rw[<- hD]at this;simp only at this;omega
def e72:Entry PG:=mkE 72 [[1]] (fun x:Str=>[aB x]) (fun x=>x≠[]/\x.length<=1000000) (fun x=>.tup [.int .i32 (Lib.decodeGo ⟨x.toArray⟩).1,.int .i64 (Lib.decodeGo ⟨x.toArray⟩).2]) fun x h=>c72 (T:=[]) x h.1 h.2
theorem k72(hT:qIn 72 T e72) {s:Str} (h1:s≠[]) (h2:s.length<=1000000) (H:Heap):qb7 (ctx T) (.fn 72) [aB s] H=some (.tup [.int .i32 (Lib.decodeGo ⟨s.toArray⟩).1,.int .i64 (Lib.decodeGo ⟨s.toArray⟩).2],H):=
 qac hT qx2 s ⟨h1,h2⟩ rfl (by simp[aB])
theorem zcd:∀(s:Str),qtf (qad s)=some s
 |[]=>rfl
 |c::r=>by
  have h1:=zcd r;have h2:zce (.int .u8 c.toNat)=some c:=by show (idx (c.toNat:Int) 256).bind _=_;rw[qbz (by have:=c.toNat_lt;omega)];simp
  simp only[qad,qtf,h1,h2,jb]
theorem sd0{H:Heap} {ts:Array TypeId}:qc5 PG H .unsafeSliceData ts [.nilS]=some (.nilP,H):=rfl
theorem sd1{H:Heap} {ts:Array TypeId} {k n:Nat} {cap:Cap}:qc5 PG H .unsafeSliceData ts [.slc k 0 (n+1) cap]=some (.ptr k 0,H):=rfl
theorem us0{H:Heap}:qc5 PG H .unsafeString #[119,3] [.nilP,.int .i64 0]=some (.str [],H):=rfl
theorem us1{H:Heap} {k:Nat} {out:Str} (hg:H.get k=some (.buf 5 out.length (qad out))) (hs:H.set k (.buf 5 out.length (qad out))=some H) (hne:out≠[]) (hl:out.length<=1000000000) :
  qc5 PG H .unsafeString #[119,3] [.ptr k 0,.int .i64 (out.length:Nat)]=some (.str out,H):=by
 have h0:idx (out.length:Int) 140737488355328=some out.length:=qbz (by omega);have hpos:Nat.blt 0 out.length=true:=by have:=j8.2 hne;simpa using this
 have h1:(Nat.beq 5 5 && Nat.beq 0 0 && Nat.blt 0 out.length)=true:=by rw[hpos];rfl
 have hc:Nat.beq (PG.cellsOf 5) 1=true:=by kernel_rfl
 have ht:qef out.length (qad out)=some (qad out):=by
  have:=qcn (qad out)
  rwa [qd8]at this
 have hu:PG.underlying 119=some (.pointer 5):=Tryz.underlying119;have hv:PG.underlying 5=some (.int .u8):=Tryz.underlying5;have hts:(#[119,3]:Array TypeId)[0]? = some 119:=rfl;unfold qc5;simp only[h0,jb,hts,hu,hg,h1,hv,hc,ht,zcd,Nat.max_self,hs]
theorem c77{m wb:Nat} {ty:TypeId} {b:Bs} {cs:List AV} {g:List (Nat × Blk)} (h:Wok m wb b cs g) (hlen:b.out.length<=1000000000) :
  CA T 77 [.ptr wb 0] ⟨m,[WF wb ty (.ptr wb 0) b cs g]⟩ (.str b.out) ⟨m+1,[WF wb ty (.ptr wb 0) b cs g]⟩:=by
 refine qa1 (s0:=⟨[0,2],[.ptr wb 0,uD],[],14,⟨m,[]::[WF wb ty (.ptr wb 0) b cs g]⟩⟩) Tryz.func77 rfl rfl rfl ?_;apply qR;simp[zS];obtain⟨k,out⟩:=b;cases out with
 |nil=>
  repeat apply wq
  refine qbh mixed qbc (by decide +kernel) (by decide +kernel) ?_;simp[zS,qc6,qbf,qb9,qpf,bV,qer,sd0,us0];apply qa3;simp[zQ,Tryz.f77];exact⟨idn m,[],qbe rfl,ql4 h⟩
 |cons c r=>
  have hg:∀n,Heap.get ⟨n,[[],WF wb ty (.ptr wb 0) ⟨k,c::r⟩ cs g]⟩ k=some (.buf 5 (c::r).length (qad (c::r))):=fun n=>by have:=WF_b (ty:=ty) (a:=.ptr wb 0) h (by simp);simp only[zG];rw[this]
  have hs:∀n,Heap.set ⟨n,[[],WF wb ty (.ptr wb 0) ⟨k,c::r⟩ cs g]⟩ k (.buf 5 (c::r).length (qad (c::r)))=some ⟨n,[[],WF wb ty (.ptr wb 0) ⟨k,c::r⟩ cs g]⟩:=fun n=>by have:=qjt (WF_b (ty:=ty) (a:=.ptr wb 0) h (by simp));simp only at this;simp only[Heap.set,setFs,setF,this,jb,yX]
  have hu:=fun n=>us1 (hg n) (hs n) (by simp) hlen;simp only[jx,Int.natCast_add,Int.natCast_one]at hu;repeat apply wq
  refine qbh mixed qbc (by decide +kernel) (by decide +kernel) ?_;simp[zS,qc6,qbf,qb9,qpf,bV,qer,sd1,hu];apply qa3;simp[zQ,Tryz.f77];exact⟨idn m,[],qbe rfl,ql4 h⟩
theorem app_byte{m n t wb:Nat} {ty:TypeId} {a:AV} {b:Bs} {cs:List AV} {g:List (Nat × Blk)} (h:Wok m wb b cs g) (d:UInt8) (ht:m<=t) (hl:b.out.length+1<=1000000000) :
  qby PG ⟨n,[[(t,.cells [.int .u8 d.toNat])],WF wb ty a b cs g]⟩ 5 (bV b) (.slc t 0 1 (.ex 1)) =
   some (.slc n 0 (b.out.length+1) (.rest 1),⟨n+1,[[(n,.buf 5 (if b.out=[] then 0 else b.out.length) (qad (b.out++[d]))),(t,.cells [.int .u8 d.toNat])],(wb,.obj ty (a::bV b::cs))::g]⟩):=by
 have hsz:qcg PG 5=some 1:=szT5;have hby:qco PG 5=some 1:=byT5;have hz:qc1 PG 5=some (.int .u8 0):=zeT5;have hroom:∀n,n<=1000000000->qcf n 1=true:=fun n hn=>by simp[qcf];omega
 have c0:(Nat.beq 1 0 || !(Nat.beq (AV.cells (.int .u8 0)).length 1 && Nat.blt 0 1))=false:=rfl;have hrow:∀cs,qpi PG 5 cs=.buf 5 0 cs:=fun cs=>rfl;have hx1:qc7 (.slc t 0 1 (.ex 1))=some 1:=rfl;have hx2:qbb ⟨n,[[(t,.cells [.int .u8 d.toNat])],WF wb ty a b cs g]⟩ 1 1 (.slc t 0 1 (.ex 1))=some (qad [d]):=by simp[qbb,readCells,zG,qek,qef,qad]
 obtain⟨k,out⟩:=b;simp only at hl;unfold qby;simp only[hsz,hby,hz,hx1,jb,c0];cases out with
 |nil=>simp only[bV];have hr:=hroom 1 (by omega);have hcb:Nat.beq (qad [d]).length (1 * 1)=true:=rfl;simp only[hr,hx2,jb,hcb,hrow];simp[Heap.new,pushF,WF,bV,bF]
 |cons c r=>
  have hkl:=(h.hk (by simp)).2;simp only at hkl;have htk:Nat.beq t k=false:=qaw (by omega);have hg:Heap.get ⟨n,[[(t,.cells [.int .u8 d.toNat])],WF wb ty a ⟨k,c::r⟩ cs g]⟩ k=some (.buf 5 (c::r).length (qad (c::r))):=by have:=WF_b (ty:=ty) (a:=a) h (by simp);simp only[zG,htk];rw[this]
  have hk:qck ⟨n,[[(t,.cells [.int .u8 d.toNat])],WF wb ty a ⟨k,c::r⟩ cs g]⟩ k=some (c::r).length:=by unfold qck;simp only[hg,jb,Blk.rd,qd8]
  have hr:=hroom ((c::r).length+1) hl;have h1:Nat.beq 1 1=true:=rfl;simp only[bV,hx2,jb,hr,qko,h1,hk];have h2:Nat.ble (0+((c::r).length+1) * 1) (c::r).length=false:=by rw[<- Bool.not_eq_true,jN];simp
  have h3:Nat.beq (0+(c::r).length * 1) (c::r).length=true:=by simp
  have h4:readCells ⟨n,[[(t,.cells [.int .u8 d.toNat])],WF wb ty a ⟨k,c::r⟩ cs g]⟩ k 0 ((c::r).length * 1)=some (qad (c::r)):=by unfold readCells;simp only[hg,jb,Blk.rd,qek,jF,y8];rw[<- qd8 (c::r)];exact qcn _
  have h5:Nat.beq (qad [d]).length (1 * 1)=true:=rfl;have h6:goOn (.buf 5 (c::r).length (qad (c::r))) 5 0 (qad (c::r)++qad [d])=some (.buf 5 (c::r).length (qad (c::r)++qad [d])):=rfl;simp only[h2,h3,h4,h5,jb,hg,h6];have hd:Heap.drop ⟨n,[[(t,.cells [.int .u8 d.toNat])],WF wb ty a ⟨k,c::r⟩ cs g]⟩ k=⟨n,[[(t,.cells [.int .u8 d.toNat])],(wb,.obj ty (a::bV ⟨k,c::r⟩::cs))::g]⟩:=by have hkw:=(h.hk (by simp)).1;simp only[ja,not_or]at hkw;have e1:Nat.beq wb k=false:=qaw fun e=>hkw.1 e.symm;simp[Heap.drop,qem,getF,WF,e1,bF,killF,htk]
  rw[hd,<- qrw];simp[Heap.new,pushF,bV]
theorem fit_newF{f:List (Nat × Blk)} {m n c wb fz:Nat} {ty:TypeId} {out:Str} {b0:Bs} {cs:List AV} {g:List (Nat × Blk)} (h:Wok m wb b0 cs g) (hc:m<=c) (hne:out≠[]) (hfz:fz<=out.length) (hf:∀i,i < m->getF i f=none) (hfc:getF c f=none) :
  FitH m ((c,m)::idn m) [] ⟨n,[f,(c,.buf 5 fz (qad out))::(wb,.obj ty (.ptr wb 0::.slc c 0 out.length (.rest 1)::cs))::g]⟩ ⟨m+1,[WF wb ty (.ptr wb 0) ⟨m,out⟩ cs g]⟩:=by
 have hw:Nat.beq c wb=false:=qaw (by have:=h.lw;omega);have hbv:bV ⟨c,out⟩=.slc c 0 out.length (.rest 1):=bV_ne (b:=⟨c,out⟩) hne;have idl:=qps (m:=m) (k:=c) (k':=m) hc;refine fitWr (kc:=c) (k':=m) (fz:=fz) (out:=out) (O:=.obj ty (.ptr wb 0::.slc c 0 out.length (.rest 1)::cs)) (.inr ⟨rfl,rfl,hc⟩) (by omega) h.lw h.lg h.nd (fun _ hx=>?_) (by simp[zG,hw,hf wb h.lw]) ?_ (fun _=>by simp[zG,hfc]) hfz (fun e he=>⟨?_,h.sg e he⟩)
 ·rcases ja.1 hx with hx|hx
  ·have:=h.lw;omega
  ·obtain⟨e,he,hx⟩:=ji.1 hx;have:=h.lg e he;omega
 ·rw[<- hbv];exact qrn (idl _ h.lw) (fun _=>by simp[qb2]) (h.sc _ idl)
 ·have nd:=h.nd;rw[jr]at nd;have e1:Nat.beq wb e.1=false:=qaw fun x=>nd.1 (ji.2 ⟨e,he,x.symm⟩);have e2:Nat.beq c e.1=false:=qaw (by have:=h.lg e he;omega);have:=qgi (fs:=[g]) (b:=e.1) (k:=e.2) (by simpa using nd.2) (by simpa using he);simp only[getFs]at this;simp only[zG,e1,e2,hf e.1 (h.lg e he)];exact this
theorem c75(hE:qIn 144 T e144) {m wb:Nat} {ty:TypeId} {a:AV} {b:Bs} {cs:List AV} {g:List (Nat × Blk)} (h:Wok m wb b cs g) (ha:a=.nilP\/a=.ptr wb 0)
  (hl:liesAt PG PG.depth ty ((cs.length+1+1) / PG.cellsOf ty) 0 88 1=true) (d:UInt8) (hs:b.out.length+1<=1000000000) :
  CA T 75 [.ptr wb 0,.int .u8 d.toNat] ⟨m,[WF wb ty a b cs g]⟩ .nilI ⟨m+1,[WF wb ty (.ptr wb 0) (upd m b [d]) cs g]⟩:=by
 have hcc:=(c116 (T:=T) hE h ha hl).perm (H2:=⟨m,[[],WF wb ty a b cs g]⟩) (H2':=⟨m+1,[[],WF wb ty (.ptr wb 0) b cs g]⟩) rfl rfl (by simp[Heap.ents]) (by simp[Heap.ents]);have happ:=app_byte (n:=m+2) (t:=m+1) (ty:=ty) (a:=.ptr wb 0) h d (by omega) hs;have hO:∀n,Heap.get ⟨n,[[],WF wb ty (.ptr wb 0) b cs g]⟩ wb=some (.obj ty (.ptr wb 0::bV b::cs)):=fun n=>by simp[zG,qpf]
 have hbw:Nat.beq (m+2) wb=false:=qaw (by have:=h.lw;omega);have hbw1:Nat.beq (m+1) wb=false:=qaw (by have:=h.lw;omega);have pr:=prom2 (wb:=wb) (c:=m+2) (k:=.buf 5 (if b.out=[] then 0 else b.out.length) (qad (b.out++[d]))) (x:=(m+2,.buf 5 (if b.out=[] then 0 else b.out.length) (qad (b.out++[d])))) (f1:=[(m+1,.cells [.int .u8 d.toNat])]) (f2:=(wb,.obj ty (.ptr wb 0::bV b::cs))::g) (kb:=.obj ty (.ptr wb 0::bV b::cs))
  (by simp[getF,hbw,hbw1]) (by simp[getF]) (by simp[getF]) (qnx _ _ _)
 refine qa1 (s0:=⟨[0,1,4],[.ptr wb 0,.int .u8 d.toNat,uD],[],17,⟨m,[]::[WF wb ty a b cs g]⟩⟩) Tryz.func75 rfl rfl rfl ?_;apply qR;simp[zS];repeat apply wq
 refine qai (qbo [⟨116,_,_,_,_,hcc⟩]) ?_;simp[zS,qcu];apply qR;simp[zS,qpf,happ,hbw,hbw1,pr,killF];apply qR;simp[zS];apply qa3;simp[zQ,Tryz.f75];refine⟨(m+2,m)::idn m,[],by simp[qat,qab],?_⟩;have hne:b.out++[d]≠[]:=by simp
 have q:Nat.beq (m+1) (m+2)=false:=qaw (by omega);have:=fit_newF (f:=[(m+1,.cells [.int .u8 d.toNat])]) (n:=m+2+1) (ty:=ty) (c:=m+2) (out:=b.out++[d]) (fz:=if b.out=[] then 0 else b.out.length) h (by omega) hne (by split<;>simp)
  (fun i hi=>by have:Nat.beq (m+1) i=false:=qaw (by omega);simp[getF,this]) (by simp[getF,q])
 have hl:(b.out++[d]).length=b.out.length+1:=by simp
 rw[hl]at this;simpa[upd]using this
set_option maxHeartbeats 1000000
theorem liesZ:liesAt PG PG.depth 88 ((([]:List AV).length+1+1) / PG.cellsOf 88) 0 88 1=true:=by show liesAt PG PG.depth 88 (2 / PG.cellsOf 88) 0 88 1=true;decide +kernel
abbrev WZ(a:AV) (b:Bs):List (Nat × Blk):=WF 0 88 a b [] []
def aZ(z:Bool):AV:=if z=true then .nilP else .ptr 0 0
def HZ(z:Bool) (out:Str):Heap:=⟨2,[WZ (aZ z) ⟨1,out⟩]⟩
theorem okZ{m k:Nat} (hk:0 < k) (hm:k < m) (out:Str):Wok m 0 ⟨k,out⟩ [] []:=⟨by omega,by simp,by simp,fun _=>⟨by simp;omega,hm⟩,by simp,fun _ _=>by simp[qaz]⟩
theorem fitZ{n k:Nat} {out:Str} (hk:0 < k) (hne:out≠[]):FitH 0 [(0,0),(k,1)] [] ⟨n,[WZ (.ptr 0 0) ⟨k,out⟩]⟩ (HZ false out) where
 nd1:=by simp;omega
 nd2:=by simp
 nd3:=by simp[HZ,aZ,Heap.ents,WF,zjo (b:=⟨1,out⟩) hne]
 lt:=fun x hx=>by simp at hx;rcases hx with rfl|rfl<;>simp[HZ]
 idn:=fun x hx h=>absurd h (jk _)
 num:=jh _
 src:=fun e he=>by
  have he:e=(0,.obj 88 (.ptr 0 0::bV ⟨1,out⟩::[]))\/e=(1,.buf 5 out.length (qad out)):=by simpa[HZ,aZ,Heap.ents,WF,zjo (b:=⟨1,out⟩) hne]using he
  have w:=okZ (m:=k+1) hk (by omega) out;rcases he with rfl|rfl
  ·refine⟨0,.obj 88 (.ptr 0 0::bV ⟨k,out⟩::[]),by simp,by simp[Heap.get,getFs,qpf],?_⟩;refine qrn (by simp[qb2]) (fun _=>?_) (by simp[qaz]);have:¬ (0:Nat)=k:=(by omega);simp[qb2,this]
  ·refine⟨k,.buf 5 out.length (qad out),by simp,?_,rfl,jc _,by rw[qd8];exact jc _,qaf (qoj _)⟩;have:=WF_b (ty:=88) (a:=.ptr 0 0) w hne;simp only[Heap.get,getFs];rw[this]
 frz:=fun x h=>by cases h
theorem fitZ0{n:Nat} {H:Heap} (h:H.get 0=some (.obj 88 [.nilP,.nilS])):FitH 0 [(0,0)] [] H (HZ true []) where
 nd1:=by simp
 nd2:=by simp
 nd3:=by simp[HZ,aZ,Heap.ents,WF,bF]
 lt:=by simp[HZ]
 idn:=fun x hx h=>absurd h (jk _)
 num:=jh _
 src:=fun e he=>by simp[HZ,aZ,Heap.ents,WF,bF,bV]at he;subst he;exact⟨0,_,by simp,h,rfl,by simp[qaz,qat]⟩
 frz:=fun x h=>by cases h
section
variable {T:List (Entry PG)} {z:Bool} {out:Str}
theorem aZ_or(z:Bool):aZ z=.nilP\/aZ z=.ptr 0 0:=by cases z<;>simp[aZ]
theorem wsZ(hE:qIn 144 T e144) (s:Str) (hs:out.length+s.length<=1000000000) (hne:s≠[]):CA T 74 [.ptr 0 0,.str s] (HZ z out) (.tup [.int .i64 (s.length:Nat),.nilI]) ⟨3,[WZ (.ptr 0 0) ⟨2,out++s⟩]⟩:=by
 have h:=c74 (T:=T) (ty:=88) hE (okZ (m:=2) (k:=1) (by omega) (by omega) out) (aZ_or z) liesZ s hs;cases s with
 |nil=>exact absurd rfl hne
 |cons c r=>exact h
theorem wpZ(hE:qIn 144 T e144) (s:Str) (hs:out.length+s.length<=1000000000) (hne:s≠[]):CA T 76 [.ptr 0 0,aB s] (HZ z out) (.tup [.int .i64 (s.length:Nat),.nilI]) ⟨3,[WZ (.ptr 0 0) ⟨2,out++s⟩]⟩:=by
 have h:=c76 (T:=T) (ty:=88) hE (okZ (m:=2) (k:=1) (by omega) (by omega) out) (aZ_or z) liesZ s hs;cases s with
 |nil=>exact absurd rfl hne
 |cons c r=>exact h
theorem wbZ(hE:qIn 144 T e144) (d:UInt8) (hs:out.length+1<=1000000000):CA T 75 [.ptr 0 0,.int .u8 d.toNat] (HZ z out) .nilI ⟨3,[WZ (.ptr 0 0) ⟨2,out++[d]⟩]⟩:=
 c75 (T:=T) (ty:=88) hE (okZ (m:=2) (k:=1) (by omega) (by omega) out) (aZ_or z) liesZ d hs
end
theorem zi7(H:Heap):FitH 0 [] [] H zH where
 nd1:=by simp
 nd2:=by simp
 nd3:=by simp[Heap.ents]
 lt:=by simp
 idn:=by simp
 num:=by simp
 src:=by intro e he;simp[Heap.ents]at he
 frz:=fun x h=>by cases h
theorem strZ:CA T 77 [.ptr 0 0] (HZ true []) (.str []) ⟨3,[[(0,.obj 88 [.nilP,.nilS])]]⟩:=by
 refine qa1 (s0:=⟨[0,2],[.ptr 0 0,uD],[],14,⟨2,[]::[[(0,.obj 88 [.nilP,.nilS])]]⟩⟩) Tryz.func77 rfl rfl rfl ?_;apply qR;simp[zS];repeat apply wq
 refine qbh mixed qbc (by decide +kernel) (by decide +kernel) ?_;simp[zS,qc6,qbf,qb9,qer,sd0,us0];apply qa3;simp[zQ,Tryz.f77];refine⟨[(0,0)],[],qbe rfl,?_⟩;exact {
  nd1:=by simp
  nd2:=by simp
  nd3:=by simp[Heap.ents]
  lt:=by simp
  idn:=by simp
  num:=by simp[HZ]
  src:=by intro e he;simp[Heap.ents]at he;subst he;exact⟨0,.obj 88 [.nilP,.nilS],by simp,by simp[zG],rfl,by simp[qaz,qat]⟩
  frz:=fun x h=>by cases h }
theorem slB1{H:Heap} {s:Str} {j:Nat} (hj:j<=s.length):qee PG H 74 (aB s) none (some (.int .i64 (j:Int))) none=some (aB (s.take j)):=by have h:=slB2 (H:=H) (s:=s) (i:=0) (j:=j) (jh _) hj;rw[jF]at h;rw[<- h];rfl
theorem oneR4(s:Str):(qdt s).1<=4:=by
 rw[qou];unfold qu2
 (repeat' split)<;>simp
theorem c52(hE:qIn 144 T e144) (hD:qIn 72 T e72) (hC:qIn 73 T e73) (s:Str) (hl:s.length<=1000000) :
  CA T 52 [aB s] zH (.str (qgl s)) zH:=by
 refine qa1 (s0:=⟨[0,2,3,4,5],[aB s,uD,uD,uD,uD],[],49,⟨0,[[]]⟩⟩) Tryz.func52 rfl rfl rfl ?_;apply qR;simp[zS];apply qR;simp[zS];try apply qam
 refine qa7 (qb1 (fun x:Bool × Str × Str=>(⟨[0,2,3,4,5],[aB x.2.2,.str [],.ptr 0 0,uD,uD],[],49,HZ x.1 x.2.1⟩ : St))
  (fun x=>(x.1=true->x.2.1=[])/\x.2.2.length<=s.length/\x.2.1.length+3 * x.2.2.length<=3 * s.length/\x.2.1++qgl x.2.2=qgl s) (fun x=>x.2.2.length) [(0,0)] [] (true,[],s) ⟨by simp,jc _,by simp,rfl⟩
  ⟨rfl,rfl,rfl,by simp[qaz,qat,qb2,qab,qa9,aB],fitZ0 (n:=0) rfl⟩ ?_)
 rintro⟨z,out,rest⟩ ⟨hz2,hr,ho,hx⟩ B hB;simp only at hz2 hr ho hx ⊢;by_cases h:rest=[]
 ·subst h;apply qR;simp[zS,qsb];apply qag rfl;apply qau;simp;have hd:qgl s=out:=by rw[<- hx];simp[qgl,qj3]
  cases z with
  |false=>
   have hS:CA T 77 [.ptr 0 0] (HZ false out) (.str out) ⟨3,[WZ (.ptr 0 0) ⟨1,out⟩]⟩:=c77 (T:=T) (ty:=88) (okZ (m:=2) (k:=1) (by omega) (by omega) out) (by simp at ho ⊢;omega);repeat apply wq
   refine qai (qbo [⟨77,_,_,_,_,hS⟩]) ?_;simp[zS,qcu];apply qa3;simp[zQ,Tryz.f52];exact⟨[],[],by rw[hd];exact qbe rfl,zi7 _⟩
  |true=>
   have ho':out=[]:=hz2 rfl;subst ho';have hS:=strZ (T:=T);repeat apply wq
   refine qai (qbo [⟨77,_,_,_,_,hS⟩]) ?_;simp[zS,qcu];apply qa3;simp[zQ,Tryz.f52];exact⟨[],[],by rw[hd];exact qbe rfl,zi7 _⟩
 ·have hpos:=j8.2 h;have hc:(0:Int) < (rest.length:Int):=by omega
  obtain⟨r,n,hrn,hcase⟩:=zdz hpos;have kd:=fun H=>k72 hD h (by omega) H;simp only[hrn]at kd;have kc:=fun H=>k73 hC hpos (by omega) H;obtain⟨o1,o2⟩:=qlv hpos;rw[qkf h]at hx;apply qR;simp[zS,qsb,hc,hpos];apply qaj rfl;apply qa4;simp;apply qa7;have inv:∀(w:Str) (k:Nat),qbp rest=(w,k)->1<=k->k<=rest.length->w≠[]->w.length<=3 * k->(rest.drop k).length < rest.length/\out++w≠[]/\(rest.drop k).length<=s.length/\(out++w).length+3 * (rest.drop k).length<=3 * s.length/\(out++w)++qgl (rest.drop k)=qgl s:=by intro w k hs k1 k2 hw hwl;rw[hs]at hx;simp only[j9,jo];refine⟨by omega,by simp[hw],by omega,by omega,by rw[<- hx];simp⟩
  have hol:out.length+3<=1000000000:=by omega
  apply qR;simp[zS,kd];try apply qam
  apply qa7;rcases hcase with⟨g,rfl,rfl⟩|⟨g,g1,g2,g3,g4⟩
  ·apply qR;simp[zS];apply qaj rfl;apply qR;simp[zS,kc];have hw:=wsZ hE (z:=z) (out:=out) enc3 (by simp[enc3];omega) (by decide);have e3:enc3=[239,191,189]:=rfl;rw[e3]at hw;try apply qam
   refine qai (qbo [⟨74,_,_,_,_,hw⟩]) ?_;simp[zS,qcu];apply qR;simp[zS,slB o2];obtain⟨v1,v2,v3,v4,v5⟩:=inv _ _ (by unfold qbp;rw[if_pos (.inl g)]) o1 o2 (by decide) (by have:enc3.length=3:=rfl;omega);exact hB _ (false,_,rest.drop (qdt rest).1) v1 ⟨fun e=>(by cases e),v3,v4,v5⟩ ⟨[(0,0),(2,1)],[],rfl,rfl,rfl,by simp[qaz,qat,qb2,qab,qa9,aB],fitZ (k:=2) (by omega) v2⟩
  ·subst g1;have n65:¬ ((r:Int)=65533/\(((qdt rest).1:Nat):Int)=1):=(by omega);by_cases z0:cN rest 0=0
   ·have hr0:=g3.2 z0;subst hr0;apply qR;simp[zS];apply qag rfl;apply qR;simp[zS];apply qaj rfl;have hw:=wsZ hE (z:=z) (out:=out) enc3 (by simp[enc3];omega) (by decide);have e3:enc3=[239,191,189]:=rfl;rw[e3]at hw;try apply qam
    refine qai (qbo [⟨74,_,_,_,_,hw⟩]) ?_;simp[zS,qcu];apply qR;simp[zS,slB o2];obtain⟨v1,v2,v3,v4,v5⟩:=inv _ _ (by unfold qbp;rw[if_pos (.inr z0)]) o1 o2 (by decide) (by have:enc3.length=3:=rfl;omega);exact hB _ (false,_,rest.drop (qdt rest).1) v1 ⟨fun e=>(by cases e),v3,v4,v5⟩ ⟨[(0,0),(2,1)],[],rfl,rfl,rfl,by simp[qaz,qat,qb2,qab,qa9,aB],fitZ (k:=2) (by omega) v2⟩
   ·have hr0:¬ (r:Int)=0:=fun e=>z0 (g3.1 (by omega));have hr0':¬ r=0:=fun e=>z0 (g3.1 e);by_cases z13:cN rest 0=13
    ·have hr13:=g4.2 z13;subst hr13;apply qR;simp[zS];apply qag rfl;apply qR;simp[zS];apply qag rfl;apply qR;simp[zS];apply qaj rfl;have hw:=wbZ hE (z:=z) (out:=out) 10 (by omega);have e10:((10:UInt8).toNat:Int)=10:=rfl;rw[e10]at hw;try apply qam
     refine qai (qbo [⟨75,_,_,_,_,hw⟩]) ?_;simp[zS,qcu];by_cases l1:1 < rest.length
     ·have l1':(1:Int) < (rest.length:Int):=(by omega);have ha:=atB (s:=rest) (i:=1) l1;rw[qkl l1]at ha;simp only[Int.cast_ofNat_Int,Int.natCast_one]at ha;by_cases b1:cN rest 1=10
      ·rw[b1]at ha;apply qR;simp[zS,qsb,l1,l1',ha];apply qaj rfl;apply qR;simp[zS];have sl2:∀H,qee PG H 74 (aB rest) (some (.int .i64 2)) none none=some (aB (rest.drop 2)):=fun H=>slB (H:=H) (s:=rest) (i:=2) (by omega);apply qR;simp[zS,sl2];obtain⟨v1,v2,v3,v4,v5⟩:=inv _ _ (by unfold qbp;rw[if_neg (by rw[g];simp[z0]),if_pos z13,if_pos ⟨l1,b1⟩]) (by omega) (by omega) (by decide) (by simp);exact hB _ (false,_,rest.drop 2) v1 ⟨fun e=>(by cases e),v3,v4,v5⟩ ⟨[(0,0),(2,1)],[],rfl,rfl,rfl,by simp[qaz,qat,qb2,qab,qa9,aB],fitZ (k:=2) (by omega) v2⟩
      ·have b1':¬ (cN rest 1:Int)=10:=(by omega);apply qR;simp[zS,qsb,l1,l1',ha,b1,b1'];apply qag rfl;apply qa4;simp;apply qR;simp[zS,slB o2];obtain⟨v1,v2,v3,v4,v5⟩:=inv _ _ (by unfold qbp;rw[if_neg (by rw[g];simp[z0]),if_pos z13,if_neg (fun e=>b1 e.2)]) o1 o2 (by decide) (by simp only[y6];omega);exact hB _ (false,_,rest.drop (qdt rest).1) v1 ⟨fun e=>(by cases e),v3,v4,v5⟩ ⟨[(0,0),(2,1)],[],rfl,rfl,rfl,by simp[qaz,qat,qb2,qab,qa9,aB],fitZ (k:=2) (by omega) v2⟩
     ·have l1':¬ (1:Int) < (rest.length:Int):=(by omega);apply qR;simp[zS,qsb,l1,l1'];apply qag rfl;apply qa4;simp;apply qR;simp[zS,slB o2];obtain⟨v1,v2,v3,v4,v5⟩:=inv _ _ (by unfold qbp;rw[if_neg (by rw[g];simp[z0]),if_pos z13,if_neg (fun e=>l1 e.1)]) o1 o2 (by decide) (by simp only[y6];omega);exact hB _ (false,_,rest.drop (qdt rest).1) v1 ⟨fun e=>(by cases e),v3,v4,v5⟩ ⟨[(0,0),(2,1)],[],rfl,rfl,rfl,by simp[qaz,qat,qb2,qab,qa9,aB],fitZ (k:=2) (by omega) v2⟩
    ·have hr13:¬ (r:Int)=13:=fun e=>z13 (g4.1 (by omega));have hr13':¬ r=13:=fun e=>z13 (g4.1 e);have hst:qbp rest=(rest.take (qdt rest).1,(qdt rest).1):=(by unfold qbp;rw[if_neg (by rw[g];simp[z0]),if_neg z13]);have hcond:(if (r:Int)=65533 then decide ((((qdt rest).1:Nat):Int)=1) else false)=false:=by
      split
      next e=>exact decide_eq_false fun e2=>n65 ⟨e,e2⟩
      ·rfl
     have hnt:rest.take (qdt rest).1≠[]:=fun e=>(by have:=congrArg List.length e;rw[yh,jW]at this;omega);clear hcond;by_cases r5:r=65533
     ·subst r5;have k1:¬ (((qdt rest).1:Nat):Int)=1:=fun e=>n65 ⟨rfl,e⟩;have k1':¬ (qdt rest).1=1:=fun e=>k1 (by omega);apply qR;simp[zS,k1,k1'];apply qag rfl;apply qR;simp[zS];apply qag rfl;apply qR;simp[zS];apply qag rfl;have hw:=wpZ hE (z:=z) (out:=out) (rest.take (qdt rest).1) (by have:=oneR4 rest;simp;omega) hnt;refine qai (qbo [⟨76,_,_,_,_,hw⟩]) ?_;simp[zS,qcu,slB1 o2];apply qR;simp[zS,slB o2];obtain⟨v1,v2,v3,v4,v5⟩:=inv _ _ hst o1 o2 hnt (by rw[yh];omega);exact hB _ (false,_,rest.drop (qdt rest).1) v1 ⟨fun e=>(by cases e),v3,v4,v5⟩ ⟨[(0,0),(2,1)],[],rfl,rfl,rfl,by simp[qaz,qat,qb2,qab,qa9,aB],fitZ (k:=2) (by omega) v2⟩
     ·have r5':¬ (r:Int)=65533:=(by omega);apply qR;simp[zS,r5,r5'];apply qag rfl;apply qR;simp[zS,hr0,hr0'];apply qag rfl;apply qR;simp[zS,hr13,hr13'];apply qag rfl;have hw:=wpZ hE (z:=z) (out:=out) (rest.take (qdt rest).1) (by have:=oneR4 rest;simp;omega) hnt;refine qai (qbo [⟨76,_,_,_,_,hw⟩]) ?_;simp[zS,qcu,slB1 o2];apply qR;simp[zS,slB o2];obtain⟨v1,v2,v3,v4,v5⟩:=inv _ _ hst o1 o2 hnt (by rw[yh];omega);exact hB _ (false,_,rest.drop (qdt rest).1) v1 ⟨fun e=>(by cases e),v3,v4,v5⟩ ⟨[(0,0),(2,1)],[],rfl,rfl,rfl,by simp[qaz,qat,qb2,qab,qa9,aB],fitZ (k:=2) (by omega) v2⟩
def e52:Entry PG:=mkE 52 [[1]] (fun x:Str=>[aB x]) (fun x=>x.length<=1000000) (fun x=>.str (qgl x)) fun x h=>c52 (T:=[e144,e72,e73]) rfl rfl rfl x h
theorem k52(hT:qIn 52 T e52) {s:Str} (hl:s.length<=1000000) {cap:Cap} {b:Nat} (H:Heap) (hb:H.get b=some (.cells (qad s))):qb7 (ctx T) (.fn 52) [.slc b 0 s.length cap] H=some (.str (qgl s),H):=by refine qac hT qx2 s hl rfl ?_;have:=qq6 (r:=[]) (cap:=cap) (zc7 s) (by rw[ql3];exact hb);rw[qj7]at this;simp[this,aB]
theorem c51o(L:List At1) (hl:L.length<=1000):CA T 51 [qal L] zH (qdo 0 2 (L.map qcq)) ⟨1,[qe4 0 (L.map qcq)]⟩:=by
 have happ:=qvd (P:=PG) (elem:=71) (b:=0) (m:=1) (es:=L.map qcq) (g:=[]) (fs:=[]) szT71 zjb zeT71 rfl (by omega) (by omega) (qfg _) (qit _) (by simp;omega);cases L with
 |nil=>
  refine qa1 (s0:=⟨[0,2],[.fslc 2 [],uD],[],8,⟨0,[[]]⟩⟩) Tryz.func51 rfl rfl rfl ?_;apply qR;simp[zS];refine qq0 (pre:=[]) ?_ ?_
  ·apply qR;simp[zS];apply qaj rfl;apply qR;simp[zS];apply qa3;simp[zQ,Tryz.f51];exact qkd (.inl rfl)
  ·apply qR;simp[zS];apply qag rfl;apply qa4;simp;have happ:qby PG ⟨1,[[(0,.cells [])]]⟩ 71 (.slc 0 0 0 (.ex 0)) .eslc=some (.slc 0 0 0 (.ex 0),⟨1,[[(0,.cells [])]]⟩):=rfl;apply qR;simp[zS,happ];apply qa3;simp[zQ,Tryz.f51];exact qkd (.inr (.inr ⟨_,rfl⟩))
 |cons x r=>
  have e1:litV 0 1 2 ((x::r).map qcq)=.slc 1 0 (r.length+1) (.rest 2):=by simp[litV]
  have e2:qy8 ⟨1,[[(0,.cells [])]]⟩ ((x::r).map qcq)=⟨2,[[(1,.cells (qa5 ((x::r).map qcq))),(0,.cells [])]]⟩:=rfl;rw[e1,e2]at happ;refine qa1 (s0:=⟨[0,2],[qal (x::r),uD],[],8,⟨0,[[]]⟩⟩) Tryz.func51 rfl rfl rfl ?_;apply qR;simp[zS,qal];apply qR;simp[zS,qal];apply qag rfl;apply qa4;simp;simp only[jj]at happ;apply qR;simp[zS,happ];apply qa3;simp[zQ,Tryz.f51];exact qpw (b:=1) (es:=(x::r).map qcq) (qfg _) (by simp) (by simp) (by simp[zG])
def e51o:Entry PG:=mkOwn 51 [[2]] (fun L:List At1=>[qal L]) (fun L=>L.length<=1000) 2 (fun L=>L.map qcq) qfg fun L hl=>c51o (T:=[]) L hl
theorem k51o(hT:qaa 51 T=some e51o.g) {L:List At1} (hl:L.length<=1000) (H:Heap):qb7 (ctx T) (.fn 51) [qal L] H=some (qdo H.n 2 (L.map qcq),qy8 H (L.map qcq)):=
 zbc hT (fun x y h=>by simp at h;exact qf3 h) L hl (by simp[qa9]) (by simp[qga,qao]) H
theorem c90(hP:qIn 130 T e130) (hC:qaa 51 T=some e51o.g) (L:List At1) (a:At1) (hl:L.length<=900):CA T 90 [qal L,qcq a] zH (qal (qvi L a)) zH:=by
 refine CallAt.froze (es:=(qvi L a).map qcq) (qfg _) ?_;refine qa1 (s0:=⟨[0,1,3,4,5],[qal L,qcq a,uD,uD,uD],[],18,⟨0,[[]]⟩⟩) Tryz.func90 rfl rfl rfl ?_;apply qR;simp[zS,qcq];apply qR;simp[zS,k51o hC (show L.length<=1000 by omega)];repeat apply wq
 refine .fit (s':=(⟨[0,1,3,4,5],[qal L,uD,.ptr 0 0,uD,qdo 1 2 (L.map qcq)],[],18,⟨2,[qe4 1 (L.map qcq)++[(0,Blk.cells [.str a.1,.str a.2])]]⟩⟩ : St)) [(1,1),(0,0)] [] ⟨rfl,rfl,rfl,?_,.canon (b:=1) (g:=[(0,.cells [.str a.1,.str a.2])]) (qfg L) (by simp[qhp,qaz,qat,qab]) (by simp)⟩ ?_
 ·simp[qaz,qat,qb2,qh5]
 ·have hp:=k130 hP (L:=L) a.1 (show L.length<=1000 by omega) (H:=⟨2,[qe4 1 (L.map qcq)++[(0,.cells [.str a.1,.str a.2])]]⟩) (qjq _ L);have hg:getF 0 (qe4 1 (L.map qcq)++[(0,.cells [.str a.1,.str a.2])])=some (.cells [.str a.1,.str a.2]):=by cases L<;>rfl
  apply qR;simp[zS,hp,hg];refine qay rfl (fun h=>?_) fun h=>?_
  ·simp at h;have happ:=qmw (P:=PG) (elem:=71) (b:=1) (t:=2) (m:=3) (es:=L.map qcq) (cs:=[.str a.1,.str a.2]) (g:=[(0,.cells [.str a.1,.str a.2])]) (fs:=[]) szT71 zjb zeT71 rfl (by omega) (by omega) rfl rfl (qfg L) (by simp;omega) (by omega) (by simp) (by simp);apply qR;simp[zS,hg,happ];apply qR;simp[zS];apply qa3;simp[zQ,Tryz.f90];have e:qvi L a=L++[a]:=if_pos h;have e2:(qvi L a).map qcq=L.map qcq++[qcq a]:=(by rw[e];simp);exact qpw (b:=3) (es:=(qvi L a).map qcq) (qfg _) (by rw[e2];simp) (by rw[e2];simp) (by rw[e2,qbq];simp[zG,qa5,Heap.new,pushF,qcq])
  ·simp at h;apply qa4;simp;apply qR;simp[zS];apply qa3;simp[zQ,Tryz.f90];have e:qvi L a=L:=if_neg (by omega);rw[e];cases L with
   |nil=>exact qkd (.inr (.inl rfl))
   |cons b r=>exact qpw (b:=1) (es:=(b::r).map qcq) (qfg _) (by simp) rfl (by simp[zG,qe4])
def e90:Entry PG:=mkE 90 [[2],[0,0]] (fun x:List At1 × At1=>[qal x.1,qcq x.2]) (fun x=>x.1.length<=900) (fun x=>qal (qvi x.1 x.2)) fun x hx=>c90 (T:=[e130,e51o]) rfl rfl x.1 x.2 hx
set_option maxHeartbeats 1000000
theorem step_len{s:Str} (h:0 < s.length):1<=(qbp s).2/\(qbp s).2<=s.length/\(qbp s).1.length<=3 * (qbp s).2:=by
 obtain⟨o1,o2⟩:=qlv h;unfold qbp;split
 ·exact⟨o1,o2,by have:enc3.length=3:=rfl;simp only;omega⟩
 ·split
  ·split
   next hh=>exact⟨by simp only;omega,by simp only;omega,by simp⟩
   ·exact⟨o1,o2,by simp only[y6];omega⟩
  ·exact⟨o1,o2,by simp only[yh];omega⟩
theorem qi5:∀(n:Nat) (s:Str),s.length<=n->(qgl s).length<=3 * s.length
 |0,s,h=>by have:s=[]:=yd (by omega);subst this;simp[qgl,qj3]
 |n+1,s,h=>by
  by_cases hs:s=[]
  ·subst hs;simp[qgl,qj3]
  ·obtain⟨a,b,c⟩:=step_len (j8.2 hs);have ih:=qi5 n (s.drop (qbp s).2) (by rw[j9];omega);rw[qkf hs,jo];rw[j9]at ih;omega
theorem convG{H:Heap} {s:Str} (h:s.length<=1000000):qh7 PG H 9 74 (.str s)=some (.slc H.n 0 s.length (.rest 1),H.new (.cells (qad s))):=by
 have:qcf s.length 1=true:=by simp[qcf];omega
 simp[qh7,this]
theorem k90(hT:qIn 90 T e90) {L:List At1} {a:At1} (hl:L.length<=900) (H:Heap):qb7 (ctx T) (.fn 90) [qal L,qcq a] H=some (qal (qvi L a),H):=
 qd2 hT (fun x y h=>by simp only[j4,and_true]at h;exact yz (qf3 h.1) (qx3 h.2)) (L,a) hl (by simp[qa9]) (by simp[qga,qao]) H
theorem zci(L:List At1) (a:At1):(qvi L a).length<=L.length+1:=by unfold qvi;split<;>simp
def qu3(n:Nd) (a:At1):Nd:={ n with attrs:=[a] }
theorem fit_at{n:Nd} {a:At1} {H:Heap} (h4:H.get 4=some (.cells [.str a.1,.str a.2])) (h3:H.get 3=some (.cells [qbm n.kind,qbm n.space,.str n.name,.slc 4 0 1 (.ex 1),.str n.data,qbm n.up,qbl n.kids])) (h1:H.get 1=some (.cells [.str a.1,.str a.2])) (h0:H.get 0=some (.cells n.cs)) :
  FitH 0 [(3,2),(1,1),(0,0)] [(4,[.str a.1,.str a.2])] H ⟨3,[[(2,.cells (qu3 n a).cs),(1,.cells [.str a.1,.str a.2]),(0,.cells n.cs)]]⟩ where
 nd1:=by simp
 nd2:=by simp
 nd3:=by simp[Heap.ents]
 lt:=by simp
 idn:=by simp
 num:=by simp
 src:=by
  intro e he;simp[Heap.ents]at he;rcases he with rfl|rfl|rfl
  ·refine⟨3,_,by simp,h3,?_⟩;simp only[qhp,qu3,Nd.cs,qaz];refine⟨qbe rfl,qbe rfl,qbe rfl,?_,qbe rfl,qbe rfl,qbe (by simp),trivial⟩;simp only[qal,qat];exact .inl ⟨_,rfl,rfl,rfl,rfl⟩
  ·exact⟨1,_,by simp,h1,qaf rfl⟩
  ·exact⟨0,_,by simp,h0,qaf (qf8 n)⟩
 frz:=fun y hy=>by simp at hy;subst hy;exact⟨_,h4,qaf rfl,rfl⟩
theorem zi3{n:Nd} {H:Heap} (h0:H.get 0=some (.cells n.cs)):FitH 0 [(0,0)] [] H ⟨1,[[(0,.cells n.cs)]]⟩ where
 nd1:=by simp
 nd2:=by simp
 nd3:=by simp[Heap.ents]
 lt:=by simp
 idn:=by simp
 num:=by simp
 src:=by intro e he;simp[Heap.ents]at he;subst he;exact⟨0,_,by simp,h0,qaf (qf8 n)⟩
 frz:=fun x h=>by cases h
def okM(n:Nd):Prop:=okN n/\n.attrs.length<=900/\∀a,a∈n.attrs->a.2.length<=30000
theorem c57(hD:qIn 52 T e52) (hS:qIn 89 T e89) (hA:qIn 90 T e90) (n:Nd) (hn:okM n) :
  CA T 57 [qa6 n] zH (qal (qm9 n)) zH:=by
 obtain⟨hn,ha,hv⟩:=hn;refine qa1 (s0:=⟨[0,1,2,3,5,6,8,9,10],[qa6 n,uD,uD,uD,uD,uD,uD,uD,uD],[],30,⟨0,[[]]⟩⟩) Tryz.func57 rfl rfl rfl ?_;apply qR;simp[zS,qaq];apply qR;simp[zS];apply qR;simp[zS,qh2];try apply qam
 refine qa7 (qb1 (fun x:Nat × List At1=>(⟨[0,1,2,3,5,6,8,9,10],[uD,.ptr 0 0,.nilS,qal x.2,uD,uD,qal n.attrs,.int .i64 (n.attrs.length:Nat),.int .i64 (x.1:Int)],[],30,⟨1,[[(0,.cells n.cs)]]⟩⟩ : St))
  (fun x=>x.1<=n.attrs.length/\x.2.length<=x.1/\qkp n x.2 (n.attrs.drop x.1)=qm9 n) (fun x=>n.attrs.length - x.1) [(0,0)] [] (0,[]) ⟨jh _,jc _,rfl⟩
  ⟨rfl,rfl,rfl,by simp[qaz,qat,qb2,qab,qa9,qal],zi3 rfl⟩ ?_)
 rintro⟨i,L⟩ ⟨hi,hL,hx⟩ B hB;simp only at hi hL hx ⊢;by_cases h:i < n.attrs.length
 ·have hc:(i:Int) < (n.attrs.length:Int):=by omega
  have hat:=atA h;have hmem:=jy h;have hav:=hn.2.2.2 _ hmem;have hvv:=hv _ hmem;rw[List.drop_eq_getElem_cons h]at hx;obtain⟨d,hd⟩ : ∃d,d=qgl n.attrs[i].2:=⟨_,rfl⟩;have hdl:=qi5 _ n.attrs[i].2 (jc _);rw[<- hd]at hdl;have kd:=fun(H:Heap) (b:Nat) (cap:Cap) (hb:H.get b=some (.cells (qad n.attrs[i].2)))=>k52 hD (s:=n.attrs[i].2) (cap:=cap) (b:=b) (by omega) H hb;have cv:=fun H=>convG (H:=H) (s:=n.attrs[i].2) (by omega);rw[<- hd]at kd;have hone:okN (qu3 n (n.attrs[i].1,d)):=⟨hn.1,by simp[qu3],hn.2.2.1,fun a ha=>by simp[qu3]at ha;subst ha;exact⟨hav.1,by simp only;omega⟩⟩;have ks:=fun H=>k89 hS (qu3 n (n.attrs[i].1,d)) hone H;have kA:=fun H=>k90 hA (L:=L) (a:=(n.attrs[i].1,d)) (by omega) H;have hac:=qbd (show i<=1000000000 by omega);have hx2:(if qdm (qu3 n (n.attrs[i].1,d))=true then qkp n (qvi L (n.attrs[i].1,d)) (n.attrs.drop (i+1)) else qkp n L (n.attrs.drop (i+1)))=qm9 n:=by rw[<- hx,qkp,<- hd];rfl
  generalize qdm (qu3 n (n.attrs[i].1,d))=b1 at *;generalize n.attrs[i]=a at *;apply qR;simp[zS,hc,h];repeat apply wq
  apply qaj rfl;apply qa4;simp;repeat apply wq
  apply qa7;apply qR;simp[zS,hat];have kd0:=kd ⟨3,[[(2,.cells (qad a.2)),(1,.cells [.str a.1,.str a.2]),(0,.cells n.cs)]]⟩ 2 (.rest 1) rfl;apply qR;simp[zS,cv,kd0,qc3];apply qR;simp[zS];have hlay:qho [.slc 4 0 1 (.ex 1)] 3 n.cs=some [qbm n.kind,qbm n.space,.str n.name,.slc 4 0 1 (.ex 1),.str n.data,qbm n.up,qbl n.kids]:=rfl;apply qR;simp[zS,hlay,qc3];refine WpSr.fit [(3,2),(1,1),(0,0)] [(4,[.str a.1,.str d])] (s':=(⟨[0,1,2,3,5,6,8,9,10],[uD,.ptr 0 0,.nilS,qal L,.ptr 1 0,.ptr 2 0,qal n.attrs,.int .i64 (n.attrs.length:Nat),.int .i64 (i:Int)],[],30,⟨3,[[(2,.cells (qu3 n (a.1,d)).cs),(1,.cells [.str a.1,.str d]),(0,.cells n.cs)]]⟩⟩ : St)) ⟨rfl,rfl,rfl,by simp[qaz,qat,qb2,qab,qa9,qal],fit_at (a:=(a.1,d)) rfl rfl rfl rfl⟩ ?_;have hat1:AV.agg [.str a.1,.str d]=qcq (a.1,d):=rfl;apply qR;simp[zS,ks,qaq];cases b1 with
  |true=>apply qaj rfl;apply qR;simp[zS,hat1,kA];apply qR;simp[zS,hac];exact hB _ (i+1,qvi L (a.1,d)) (by simp only;omega) ⟨by simp only;omega,by have:=zci L (a.1,d);simp only;omega,by simpa using hx2⟩ ⟨[(0,0)],[],rfl,rfl,rfl,by simp[qaz,qat,qb2,qab,qa9,qal],zi3 rfl⟩
  |false=>apply qag rfl;apply qa4;apply qR;simp[zS,hac];exact hB _ (i+1,L) (by simp only;omega) ⟨by simp only;omega,by simp only;omega,by simpa using hx2⟩ ⟨[(0,0)],[],rfl,rfl,rfl,by simp[qaz,qat,qb2,qab,qa9,qal],zi3 rfl⟩
 ·have hc:¬ (i:Int) < (n.attrs.length:Int):=by omega
  apply qR;simp[zS,hc,h];repeat apply wq
  apply qag rfl;apply qau;simp;apply qR;simp[zS];have he:L=qm9 n:=by rw[<- hx,jt (by omega)];rfl
  apply qa3;simp[zQ,Tryz.f57];exact⟨[],[],by rw[he];exact qbe (by simp),zi7 _⟩
def e57:Entry PG:=mkE 57 [[0,0,0,2,0,0,1]] (fun z:Nd=>[qa6 z]) (fun z=>(okM z)) (fun z=>qal (qm9 z)) fun z h=>c57 (T:=[e52,e89,e90]) rfl rfl rfl z h
theorem k57(hT:qIn 57 T e57) (n:Nd) (h:okM n) (H:Heap):qb7 (ctx T) (.fn 57) [qa6 n] H=some (qal (qm9 n),H):=
 qd2 hT inj_92 (n) h (by simp[qa9,qab,qao]) (by simp[qao]) H
def e54:Entry PG:=mkE 54 [[],[]] (fun x:Str=>[.str x,.str [10]]) (fun x=>x.length<=1000000000) (fun x=>.str (qg3 x)) fun x h=>c54 (T:=[e78]) rfl x h
theorem k54(hT:qIn 54 T e54) {s:Str} (hl:s.length<=1000000000) (H:Heap):qb7 (ctx T) (.fn 54) [.str s,.str [10]] H=some (.str (qg3 s),H):=
 qd2 hT (fun x y h=>by simpa using h) s hl (by simp[qa9,qab]) (by simp[qga,qao]) H
theorem qto:∀s:Str,(qg3 s).length<=s.length
 |[]=>jc _
 |c::r=>by
  unfold qg3;have:=qto r;split
  ·simp only[jx];omega
  ·exact jc _
def zfw(out:Tr) (up:Nat) (x:Str):Option Int->Tr
 |some k=>if (qa0 out k).kind=2 then qgj out k.toNat x else qhf out up ⟨2,0,[],[],x,0,[]⟩
 |none=>qhf out up ⟨2,0,[],[],x,0,[]⟩
theorem CallAt.nilD{C:Ctx} {f:FuncId} {args args':List AV} {m pb k sz:Nat} {pre post es:List AV} {g:List (Nat × Blk)} {v:AV} {H':Heap} (h:Eok m pb pre k sz es post g)
  (hc:CallAt C f args' ⟨m,[[],VE pb pre k sz es post g]⟩ v H') (hf:qaz (idn m) [] args args'):CallAt C f args ⟨m,[[],VE pb pre k sz es post g]⟩ v H':=
 hc.drop (σ:=idn m) (Φ:=[]) (fun nd=>zi5 h (jc m) (jc m) fun _ _=>rfl) hf
theorem qvl{C:Ctx} {n:Nat} {r:Option Nat} {c d:Code} {s:St} {Q:Out->St->Prop} (s0:St) (h1:WpSr C n r d s0 Q) (h2:(∀s',(∃σ Φ,Fit n σ Φ s' s0)->WpSr C n r d s' Q)->WpSr C n r c s (qan (fun s=>WpSr C n r d s Q) Q)):WpSr C n r c s (qan (fun s=>WpSr C n r d s Q) Q):=
 h2 fun _ ⟨σ,Φ,f⟩=>.fit σ Φ f h1
theorem chars_at(hD:qIn 52 T e52) (hO:qIn 53 T e53) (hL:qIn 54 T e54) (hC:qIn 55 T e55)
  (hA:qIn 51 T e51) (hP:qIn 154 T e154) (hS:qIn 124 T e124) (hH:qIn 125 T e125) (hCl:qIn 128 T e128)
  {v out:Tr} {o:Option (List Nd)} {up:Nat} {s:Str} (hs:s.length<=40000) (hu:up < out.length) (hn:out.length+1<=100000) (ok:UpOk out) (hda:∀n,n∈out->n.data.length<=1000000000) (hp:okP (mL o)) (hk:∀k,k∈(qa0 out up).kids->0<=k/\k < (out.length:Int)) :
  CA T 36 [.ptr 0 0,.int .i64 (up:Int),.str s] ⟨3,[mR v 1 out 2 o]⟩ (.tup []) ⟨5,[mR v 3 (qgp (mL o) up s out) 4 o]⟩:=by
 have hne:out≠[]:=by intro e;subst e;simp at hu
 have cv:=fun H=>convG (H:=H) (s:=s) (by omega);have kd:=fun(n:Nat) (fs:List (List (Nat × Blk)))=>k52 hD (s:=s) (cap:=.rest 1) (b:=3) (by omega) ⟨n,[(3,.cells (qad s))]::fs⟩ (by simp[zG]);have hdl:=qi5 _ s (jc _);have kO:=fun H=>k53 hO (qa0 out up) H;have kT:=fun H=>k54 hL (s:=qgl s) (by omega) H;have hx:(qia out up s).length<=900000:=by unfold qia;have:=qto (qgl s);split<;>omega
 have kC:=fun(n:Nat) (f:List (Nat × Blk)) (h:getF 2 f=none)=>q55 hC (thm_p (v:=v) (out:=out) (n:=n) (k:=1) (j:=2) (o:=o) (by omega) (by omega) hne h) (qia out up s) hp hx;obtain⟨x,hxe⟩ : ∃x,x=qia out up s:=⟨_,rfl⟩;obtain⟨b1,hb1⟩ : ∃b,b=qp9 (qa0 out up):=⟨_,rfl⟩;obtain⟨b2,hb2⟩ : ∃b,b=qd5 (mL o) x:=⟨_,rfl⟩;rw[<- hxe,<- hb2]at kC;rw[<- hxe]at hx;rw[<- hb1]at kO;have kC:=fun n=>kC n [] rfl;have hm:=zgi (v:=v) (out:=out) (o:=o) (m:=3) (k:=1) (j:=2) (by omega) (by omega) (by omega) (by omega) (by omega);have e0:qgp (mL o) up s out=if b2=true then zfw out up x (zdj out up) else out:=by rw[hb2,hxe];unfold qgp zfw;cases zdj out up<;>rfl
 rw[e0];clear e0;refine qa1 (s0:=⟨[0,1,2,6,7],[.ptr 0 0,.int .i64 (up:Int),.str s,uD,uD],[],71,⟨3,[]::[mR v 1 out 2 o]⟩⟩) Tryz.func36 rfl rfl rfl ?_;apply qR;simp[zS,cv,kd];apply qR;simp[zS,zfs,ixm hu,rdm_n,hu,kO];refine qvl ((⟨[0,1,2,6,7],[.ptr 0 0,.int .i64 (up:Int),.str x,uD,uD],[],71,⟨3,[[],mR v 1 out 2 o]⟩⟩ : St)) ?_ fun hj=>?_
 rotate_left
 ·have hfv:∀n,FitH 3 (idn 3) [] ⟨n,[[(3,.cells (qad s))],mR v 1 out 2 o]⟩ ⟨3,[[],mR v 1 out 2 o]⟩:=fun n=>zi5 hm (by omega) (by omega) fun i hi=>by simp[getF,qaw (show 3≠i by omega)]
  cases b1 with
  |true=>have e:qg3 (qgl s)=x:=(by rw[hxe,qia,<- hb1];rfl);rw[e]at kT;apply qaj rfl;apply qR;simp[zS,kT];exact hj _ ⟨idn 3,[],rfl,rfl,rfl,by simp[qaz,qat,qd4,qab],hfv _⟩
  |false=>have e:qgl s=x:=(by rw[hxe,qia,<- hb1];rfl);apply qag rfl;apply qa4;exact hj _ ⟨idn 3,[],rfl,rfl,rfl,by simp[qaz,qat,qd4,qab,e],hfv _⟩
 clear cv kd kO kT hdl;have ends:∀{n k:Nat} {t':Tr},0 < k->k≠2->t'≠[]->FitH 3 [(k,3),(2,4),(0,0)] [] ⟨n,[[],mR v k t' 2 o]⟩ ⟨5,[mR v 3 t' 4 o]⟩:=fun h1 h2 h3=>fitm (by omega) h1 (by omega) h2 h3 rfl rfl rfl;apply qR;simp[zS,zd7,kC];cases b2 with
 |false=>apply qaj rfl;apply qa3;simp[zQ,Tryz.f36];exact⟨_,_,by simp[qat,qaz],ends (by omega) (by omega) hne⟩
 |true=>
  apply qag rfl;apply qa4;simp;apply qR;simp[zS,zfs,ixm hu,rdm_ks,hu];have lK:∀H,qer PG H 30 (qbl (qa0 out up).kids)=some (qa0 out up).kids.length:=fun H=>qpb;obtain⟨K,hK⟩ : ∃K,K=(qa0 out up).kids:=⟨_,rfl⟩;have eK:zdj out up=K.getLast?:=by rw[hK];rfl
  rw[eK];rw[<- hK]at lK hk;simp only[<- hK];have hkl:K.length<=out.length:=by rw[hK];exact ok.kids _ (qb5 (by omega) (by omega))
  apply qR;simp[zS,lK];have last:∀(K0:List Int) (kn:Nat),K=K0++[(kn:Int)]->kn < out.length/\wr .i64 (K0.length:Int)=some (K0.length:Int)/\qav PG 30 (qbl (K0++[(kn:Int)])) (.int .i64 (K0.length:Int))=some (.fptr [.int .i64 (kn:Int)] 0):=by
   rintro K0 kn rfl;obtain⟨q0,q1⟩:=hk (kn:Int) (by simp);refine⟨by omega,?_,by rw[atI (by simp)];simp⟩;have:=qyb (q:=K0.length) (by simp at hkl;omega)
   rwa [show (((K0.length+1:Nat):Int) - 1)=(K0.length:Int) by omega]at this
  by_cases hd:∃k,K.getLast? = some k/\(qa0 out k).kind=2
  ·obtain⟨k,hk1,hk2⟩:=hd;have ea:zfw out up x K.getLast? = qgt out k.toNat ((qa0 out k).data++x):=(by rw[hk1];simp only[zfw,hk2,if_true];have:=(hk k (List.mem_of_getLast? hk1)).1;unfold qgj qgt;rw[show ((k.toNat:Nat):Int)=k by omega]);rw[ea];clear ea;obtain⟨K0,e⟩:=List.getLast?_eq_some_iff.1 hk1;obtain⟨kn,rfl⟩ : ∃kn:Nat,k=(kn:Int):=⟨k.toNat,by have:=(hk k (List.mem_of_getLast? hk1)).1;omega⟩;obtain⟨hkn,hw,hat⟩:=last K0 kn e;clear last;subst e;have hl:(K0++[(kn:Int)]).length=K0.length+1:=(by simp);have hlp:(0:Int) < ((K0.length+1:Nat):Int):=(by omega);rw[hl]at lK;simp only[hl];have hcat:=catStr (x:=(qa0 out (kn:Int)).data) (y:=x) (by have:=hda _ (qb5 (t:=out) (i:=(kn:Int)) (by omega) (by omega));omega);refine qaj (by simp[hlp]) ?_;have hsb:wr .i64 ((K0.length:Int)+1 - 1)=some (K0.length:Int):=(by rwa [Int.add_sub_cancel]);repeat apply wq
   refine qbh mixed qbc (by decide +kernel) (by decide +kernel) ?_;simp[zS,qc6,qbf,qb9,zfs,lK,hat,hsb,hw,ixm hkn];apply qR;simp[zS,rdm_i,hkn];refine qaj (by simp[hk2]) ?_;have hg1:=mR_k (v:=v) (out:=out) (k:=1) (j:=2) (o:=o) (by omega) (by omega) (by omega) hne;have hlay:=lay_data hkn ((qa0 out (kn:Int)).data++x);have hset:=setm (v:=v) (k:=1) (j:=2) (o:=o) (by omega) hkn ((qa0 out (kn:Int)).data++x);apply qR;simp[zS,rdm_d,hkn,hg1,hlay,hset,hcat];apply qa3;simp[zQ,Tryz.f36];exact⟨_,_,by simp[qat,qaz],ends (by omega) (by omega) (by simp[qgt])⟩
  ·have ea:zfw out up x K.getLast? = qhf out up ⟨2,0,[],[],x,0,[]⟩:=by
    cases hg:K.getLast? with
    |some k=>exact if_neg fun h=>hd ⟨k,hg,h⟩
    |none=>rfl
   rw[ea];clear ea;refine qvl ((⟨[0,1,2,6,7],[.ptr 0 0,.int .i64 (up:Int),.str x,uD,uD],[],71,⟨3,[[],mR v 1 out 2 o]⟩⟩ : St)) ?_ fun hj=>?_
   rotate_left
   ·have hfv:∀n,FitH 3 (idn 3) [] ⟨n,[[],mR v 1 out 2 o]⟩ ⟨3,[[],mR v 1 out 2 o]⟩:=fun n=>zi5 hm (by omega) (by omega) fun i hi=>rfl;rcases List.eq_nil_or_concat K with rfl|⟨K0,k,e⟩
    ·repeat apply wq
     apply qag rfl;apply qa4;exact hj _ ⟨idn 3,[],rfl,rfl,rfl,by simp[qaz,qat,qd4,qab],hfv _⟩
    ·rw[List.concat_eq_append]at e;obtain⟨kn,rfl⟩ : ∃kn:Nat,k=(kn:Int):=⟨k.toNat,by have:=(hk k (by rw[e];simp)).1;omega⟩;obtain⟨hkn,hw,hat⟩:=last K0 kn e;clear last;subst e;have hk2:¬ (qa0 out (kn:Int)).kind=2:=fun h=>hd ⟨_,by simp,h⟩;have hl:(K0++[(kn:Int)]).length=K0.length+1:=(by simp);have hlp:(0:Int) < ((K0.length+1:Nat):Int):=(by omega);rw[hl]at lK;simp only[hl];refine qaj (by simp[hlp]) ?_;have hsb:wr .i64 ((K0.length:Int)+1 - 1)=some (K0.length:Int):=(by rwa [Int.add_sub_cancel]);repeat apply wq
     refine qbh mixed qbc (by decide +kernel) (by decide +kernel) ?_;simp[zS,qc6,qbf,qb9,zfs,lK,hat,hsb,hw,ixm hkn];apply qR;simp[zS,rdm_i,hkn];refine qag (by simp[hk2]) ?_;apply qa4;exact hj _ ⟨idn 3,[],rfl,rfl,rfl,by simp[qaz,qat,qd4,qab],hfv _⟩
   clear last hd;have hput:=(c56 (T:=T) hA hP hS hH hCl hm (by omega) hu ok ⟨2,0,[],[],x,0,[]⟩ (by simp)).perm (H2:=⟨3,[[],mR v 1 out 2 o]⟩) (H2':=⟨4,[[],mR v 3 (qhf out up ⟨2,0,[],[],x,0,[]⟩) 2 o]⟩) rfl rfl (by simp[Heap.ents,mR]) (by simp[Heap.ents,mR]);have hput':CA T 56 [.ptr 0 0,.int .i64 (up:Int),.agg [.int .i64 2,.int .i64 0,.str [],.nilS,.str x,.int .i64 0,.nilS]] ⟨3,[[],mR v 1 out 2 o]⟩ (.int .i64 (out.length:Int)) ⟨4,[[],mR v 3 (qhf out up ⟨2,0,[],[],x,0,[]⟩) 2 o]⟩:=
    hput.nilD hm (by simp[qaz,qat,qd4 hm.lp,qab,qa6,Nd.cs,qbm,qbl,qal])
   have bld:qgq PG 34 [(0,.int .i64 2),(4,.str x)]=some (.agg [.int .i64 2,.int .i64 0,.str [],.nilS,.str x,.int .i64 0,.nilS]):=rfl;refine qai (qbo [⟨56,_,_,_,_,hput'⟩]) ?_;simp[zS,qcu,bld];simp[zQ,Tryz.f36];exact⟨_,_,by simp[qat,qaz],ends (by omega) (by omega) (by simp[qhf,qgy])⟩
section
variable {v out out':Tr} {m n k j:Nat} {o o':Option (List Nd)} {fr:List (Nat × Blk)}
theorem qul{b:Nat}:∀{f:List (Nat × Blk)},(∀e,e∈f->e.1≠b)->getF b f=none
 |[],_=>rfl
 |e::r,h=>by have h1:=h e (by simp);unfold getF;rw[qaw h1];exact qul fun x hx=>h x (by simp[hx])
theorem qv0(hne:out≠[]):∀e,e∈mR v k out j o->e=(0,Blk.cells [qa8 v,.slc k 0 out.length (.rest 7),mV j o])\/e=(k,.cells (qa5 (out.map qa6)))\/∃P,o=some P/\e=(j,.cells (qa5 (P.map qa6))):=by
 intro e he;have hne':out.map qa6≠[]:=by simpa using hne
 simp only[mR,VE,qci hne',qch hne',List.cons_append,jq,ja,jJ]at he;rcases he with rfl|rfl|he
 ·exact .inl rfl
 ·exact .inr (.inl rfl)
 ·cases o with
  |none=>simp[mG]at he
  |some P=>simp[mG]at he;exact .inr (.inr ⟨P,rfl,he⟩)
theorem mem_mR(hne:out≠[]):(0,Blk.cells [qa8 v,.slc k 0 out.length (.rest 7),mV j o])∈mR v k out j o/\(k,Blk.cells (qa5 (out.map qa6)))∈mR v k out j o/\∀P,o=some P->(j,Blk.cells (qa5 (P.map qa6)))∈mR v k out j o:=by
 have hne':out.map qa6≠[]:=by simpa using hne
 refine⟨?_,?_,?_⟩
 ·simp[mR,VE,qch hne']
 ·simp[mR,VE,qci hne']
 ·rintro P rfl;simp[mR,VE,mG]
theorem qhb{C:Ctx} {f:FuncId} {args:List AV} (h:CallAt C f args ⟨3,[mR v 1 out 2 o]⟩ (.tup []) ⟨5,[mR v 3 out' 4 o']⟩) (ha:qaz [(k,1),(j,2),(0,0)] [] args args) (k0:0 < k) (j0:0 < j) (hkj:k≠j) (hk:k < n) (hj:j < n) (hne:out≠[]) (hne':out'≠[]) (hfr:∀e,e∈fr->e.1≠0/\e.1≠k/\e.1≠j) :
  CallAt C f args ⟨n,[fr,mR v k out j o]⟩ (.tup []) ⟨n+2,[fr,mR v n out' (n+1) o']⟩:=by
 have fh:FitH 0 [(k,1),(j,2),(0,0)] [] ⟨n,[fr,mR v k out j o]⟩ ⟨3,[mR v 1 out 2 o]⟩:=zdu (by omega) (by omega) k0 j0 hkj hne (qul fun e he=>(hfr e he).1) (qul fun e he=>(hfr e he).2.1) (qul fun e he=>(hfr e he).2.2);have:=h.framed (H':=⟨n+2,[fr,mR v n out' (n+1) o']⟩) (args:=args) fh ha ?_ (by simp)
 ·simpa[qiu,qgr]using this
 ·have e0:qg9 [(k,1),(j,2),(0,0)] n 3 0=0:=by simp[qg9,qdr]
  have e3:qg9 [(k,1),(j,2),(0,0)] n 3 3=n:=by simp[qg9,qdr]
  have e4:qg9 [(k,1),(j,2),(0,0)] n 3 4=n+1:=by simp[qg9,qdr]
  refine⟨by simp,?_,?_⟩
  ·intro nd lt;have nd2:=VE_nd (zgi (v:=v) (out:=out') (o:=o') (m:=n+2) (k:=n) (j:=n+1) (by omega) (by omega) (by omega) (by omega) (by omega));simp only[Heap.ents,je,js,jg,j3]at nd ⊢;rw[yb]at nd ⊢;refine⟨nd.1,nd2,fun a ha b hb=>?_⟩;obtain⟨e,he,rfl⟩:=ji.1 ha;obtain⟨e2,he2,rfl⟩:=ji.1 hb;have l1:=lt e (by simp[Heap.ents,he]);have l2:=(hfr e he).1;simp only at l1;rcases qv0 hne' e2 he2 with rfl|rfl|⟨P,_,rfl⟩
   ·exact l2
   ·simp only;omega
   ·simp only;omega
  ·intro e he;simp only[Heap.ents,je,js,jg,jl]at he ⊢;rcases he with he|he
   ·refine .inr ⟨.inl he,fun x hx=>?_⟩;have:=hfr e he;simp at hx;rcases hx with rfl|rfl|rfl
    ·exact fun h=>this.2.1 h.symm
    ·exact fun h=>this.2.2 h.symm
    ·exact fun h=>this.1 h.symm
   ·obtain⟨m0,mk,mj⟩:=mem_mR (v:=v) (k:=3) (j:=4) (o:=o') hne';rcases qv0 hne' e he with rfl|rfl|⟨P,hP,rfl⟩
    ·refine .inl ⟨_,m0,?_⟩;have hv:=qid (qg9 [(k,1),(j,2),(0,0)] n 3) (qdc v);simp only[qky,qgr,hv,qiu,e0,e3];cases o' with
     |none=>simp[mV,qiu]
     |some P=>simp[mV,qiu,e4]
    ·refine .inl ⟨_,mk,?_⟩;simp only[qky,e3,qbt _ (qbk out').pure]
    ·refine .inl ⟨_,mj P hP,?_⟩;simp only[qky,e4,qbt _ (qbk P).pure]
end
set_option maxHeartbeats 1000000
theorem elem_no(hA:qIn 57 T e57) (hM:qIn 58 T e58)
  {v out res:Tr} {o o2:Option (List Nd)} {up:Nat} {k:Int} {x:Nd} (hx:okM x) (hx2:okN (elN x)) (hp:okP (mL o)) (hne:out≠[]) (hres:res≠[]) (hb:qly (mL o) (elN x)=false)
  (hc:CA T 22 [.ptr 0 0,.int .i64 k,.int .i64 (up:Int)] ⟨3,[mR v 1 out 2 o]⟩ (.tup []) ⟨5,[mR v 3 res 4 o2]⟩) :
  CA T 37 [.ptr 0 0,.int .i64 k,.int .i64 (up:Int),qa6 x] ⟨3,[mR v 1 out 2 o]⟩ (.tup []) ⟨5,[mR v 3 res 4 o2]⟩:=by
 have kA:=fun H=>k57 hA x hx H;have kM:=fun(n:Nat) (f:List (Nat × Blk)) (h:getF 2 f=none)=>q58 hM (thm_p (v:=v) (out:=out) (n:=n) (f:=f) (k:=1) (j:=2) (o:=o) (by omega) (by omega) hne h) (qao (H:=⟨n,[f,mR v 1 out 2 o]⟩) (ss:=[0,0,0,2,0,0,1]) (v:=qa6 (elN x)) (by simp)) hp hx2;rw[hb]at kM;have kM:=fun n=>kM n [(3,.cells (elN x).cs)] rfl;have l3:qho [qal (qm9 x)] 3 x.cs=some [qbm x.kind,qbm x.space,.str x.name,qal (qm9 x),.str x.data,qbm x.up,qbl x.kids]:=rfl;have e7:[qbm x.kind,qbm x.space,.str x.name,qal (qm9 x),.str [],qbm x.up,qbl x.kids]=(elN x).cs:=rfl;have hc':=qhb (n:=11) (k:=1) (j:=2) (fr:=[(3,.cells (elN x).cs)]) hc (by simp[qaz,qat,qb2,qab]) (by omega) (by omega) (by omega) (by omega) (by omega) hne hres (by simp);have cA:(qal (qm9 x)).cells=[qal (qm9 x)]:=rfl;have sA:(qal (qm9 x)).single=true:=rfl;have rA:∀n,refs n (qal (qm9 x))=[]:=fun n=>qms n _ (by simp);refine qa1 (s0:=⟨[0,1,2,3,7,8],[.ptr 0 0,.int .i64 k,.int .i64 (up:Int),qa6 x,uD,uD],[],55,⟨3,[]::[mR v 1 out 2 o]⟩⟩) Tryz.func37 rfl rfl rfl ?_;apply qR;simp[zS,qaq];apply qR;simp[zS,qaq,kA,cA,sA,rA,allSingle,l3,qc3];rw[e7];repeat apply wq
 refine qbh mixed qbc (by decide +kernel) (by decide +kernel) ?_;simp[zS,qc6,qbf,qb9,zd7,qaq,kM];apply qaj rfl;repeat apply wq
 refine qai (qbo [⟨22,_,_,_,_,hc'⟩]) ?_;simp[zS,qcu];apply qa3;simp[zQ,Tryz.f37];exact⟨_,_,by simp[qat,qaz],fitm (by omega) (by omega) (by omega) (by omega) hres (by simp[getF]) (by simp[getF]) (by simp[getF])⟩
section
variable {v out:Tr} {m n k j:Nat} {o:Option (List Nd)} {P:List Nd} {fr:List (Nat × Blk)}
theorem qqo(P:List Nd):qa9 (qa5 (P.map qa6))=true:=(qbk P).pure
theorem app_m{x:Nd} {A:Blk} (hne:out≠[]) (hl:P.length<=100000) (ho:o=none/\P=[]\/o=some P) :
  qby PG ⟨22,[[(17,.cells x.cs),(3,A)],mR v 1 out 2 o]⟩ 34 (mV 2 o) (.slc 17 0 1 (.ex 1)) =
   some (.slc 22 0 (P.length+1) (.rest 7),⟨23,[[(22,.cells (qa5 ((P++[x]).map qa6))),(17,.cells x.cs),(3,A)],[(0,.cells [qa8 v,.slc 1 0 out.length (.rest 7),mV 2 o]),(1,.cells (qa5 (out.map qa6)))]]⟩):=by
 have eR:mR v 1 out 2 o=[(0,.cells [qa8 v,.slc 1 0 out.length (.rest 7),mV 2 o]),(1,.cells (qa5 (out.map qa6)))]++mG 2 o:=by
  have hne':out.map qa6≠[]:=by simpa using hne
  simp[mR,VE,qci hne',qch hne']
 rw[eR];generalize qa5 (out.map qa6)=F;rcases ho with⟨rfl,rfl⟩|rfl
 ·rfl
 ·cases P with
  |nil=>rfl
  |cons y r=>
   have h:=qie (P:=PG) (H:=⟨22,[[(17,.cells x.cs),(3,A)],[(0,.cells [qa8 v,.slc 1 0 out.length (.rest 7),mV 2 (some (y::r))]),(1,.cells F)]++mG 2 (some (y::r))]⟩) (elem:=34) (b:=2) (n:=0) (es:=(y::r).map qa6) (cs:=x.cs) (x:=.slc 17 0 1 (.ex 1)) qvr qzs zei
    rfl (by omega) (by omega) rfl (by simp[qbb,readCells,zG,Blk.rd]) rfl rfl (qbk _) (by simp at hl ⊢;omega) (fun _=>by simp[zG,mG]) (fun he=>absurd he (by simp)) (by intro cs;rfl)
   have hd:Heap.drop ⟨22,[[(17,.cells x.cs),(3,A)],[(0,.cells [qa8 v,.slc 1 0 out.length (.rest 7),mV 2 (some (y::r))]),(1,.cells F)]++mG 2 (some (y::r))]⟩ 2=⟨22,[[(17,.cells x.cs),(3,A)],[(0,.cells [qa8 v,.slc 1 0 out.length (.rest 7),mV 2 (some (y::r))]),(1,.cells F)]]⟩:=rfl;rw[hd,qch (by simp)]at h;have e:qa5 ((y::r).map qa6)++x.cs=qa5 ((y::r++[x]).map qa6):=(by rw[j3,qbq];simp[qa5]);rw[e]at h;simpa[Heap.new,pushF,mV]using h
theorem put_m{c m n:Nat} {Q:List Nd} {A B:Nat × Blk} {a w u:AV} {R:Blk} (hc:c≠0) (hA:A.1≠0) (hB:B.1≠0) :
  writeVar PG ⟨n,[(c,.cells (qa5 (Q.map qa6)))::[A,B],[(0,.cells [a,w,u]),(1,R)]]⟩ 22 (.ptr 0 2) (.slc c 0 m (.rest 7)) =
   some ⟨n,[[A,B],[(c,.cells (qa5 (Q.map qa6))),(0,.cells [a,w,.slc c 0 m (.rest 7)]),(1,R)]]⟩:=by
 have b1:Nat.beq c 0=false:=qaw hc;have b2:Nat.beq A.1 0=false:=qaw hA;have b3:Nat.beq B.1 0=false:=qaw hB;have hk:qs5 (.cells (qa5 (Q.map qa6)))=[]:=qe7 4 _ (qqo Q);have r1:qgu 100000 [c] ((c,.cells (qa5 (Q.map qa6)))::[A,B]) []=([(c,.cells (qa5 (Q.map qa6)))],[A,B]):=by have:=qw6 (n:=99998) (b:=c) (k:=.cells (qa5 (Q.map qa6))) (x:=(c,.cells (qa5 (Q.map qa6)))) (f:=[A,B]) (acc:=[]) (by simp[getF]) hk;rw[this];simp[killF]
 have e1:qqh [((c,.cells (qa5 (Q.map qa6))):Nat × Blk)]++[c]=[c]:=by simp[qqh,hk]
 have n1:getF 0 ((c,Blk.cells (qa5 (Q.map qa6)))::[A,B])=none:=by simp[getF,b1,b2,b3]
 have hp:qdj 0 [c] [] [(c,.cells (qa5 (Q.map qa6)))::[A,B],[(0,.cells [a,w,u]),(1,R)]]=[[A,B],[(c,.cells (qa5 (Q.map qa6))),(0,.cells [a,w,u]),(1,R)]]:=by unfold qdj;rw[n1];simp only[r1,e1];unfold qdj;simp[getF]
 have hg:Heap.get ⟨n,[(c,.cells (qa5 (Q.map qa6)))::[A,B],[(0,.cells [a,w,u]),(1,R)]]⟩ 0=some (.cells [a,w,u]):=by simp[zG,b1,b2,b3]
 have hrd:Heap.ready ⟨n,[(c,.cells (qa5 (Q.map qa6)))::[A,B],[(0,.cells [a,w,u]),(1,R)]]⟩ 0 [.slc c 0 m (.rest 7)]=⟨n,[[A,B],[(c,.cells (qa5 (Q.map qa6))),(0,.cells [a,w,u]),(1,R)]]⟩:=by show (⟨n,qdj 0 [c] [] _⟩ : Heap)=_;rw[hp]
 have hs1:setF 0 (.cells [a,w,.slc c 0 m (.rest 7)]) [A,B]=none:=qnu (by simp[getF,b2,b3]);unfold writeVar;simp only[szT22,jb,zj4,jx,jW];simp[allSingle,AV.single,writeCells,hg,Blk.wt,hrd,Heap.set,setFs,setF,b1,b2,b3,Blk.re]
theorem sl_m{H:Heap} {cs:List AV} {b q kn:Nat} (hb:H.get b=some (.cells cs)) (hl:cs.length=kn * 7) (hq:q+1<=kn) :
  qee PG H 22 (.slc b 0 (q+1) (.rest 7)) none (some (.int .i64 (q:Int))) none=some (.slc b 0 q (.rest 7)):=by
 have hs:qcg PG 34=some 7:=qvr;have hk:qck H b=some (kn * 7):=by simp[qck,hb,Blk.rd,hl]
 simp only[qee,zdn,Tryz.underlying22,jb,hs];have e2:kn * 7 / 7=kn:=by omega
 have hi1:idx (q:Int) (Nat.succ kn)=some q:=qbz (by omega);have hn:Nat.ble (kn * 7) 0=false:=by cases kn with
  |zero=>omega
  |succ m=>rfl
 simp only[qkv,hk,jb,qdd,jD,Nat.sub_zero,e2,hi1,Nat.zero_mul,hn,y4]
end
set_option maxHeartbeats 1000000
theorem len_m{j:Nat} {o:Option (List Nd)} {H:Heap}:qer PG H 22 (mV j o)=some (mL o).length:=by cases o<;>simp[mV,mL,qer]
theorem fit_up{v out:Tr} {y:Nd} {Q:List Nd} {n:Nat} (hne:out≠[]):FitH 3 [(3,4),(1,1),(22,3),(0,0)] [] ⟨n,[[(17,.cells y.cs),(3,.cells y.cs)],[(22,.cells (qa5 (Q.map qa6))),(0,.cells [qa8 v,.slc 1 0 out.length (.rest 7),.slc 22 0 Q.length (.rest 7)]),(1,.cells (qa5 (out.map qa6)))]]⟩ ⟨5,[[(4,.cells y.cs)],mR v 1 out 3 (some Q)]⟩ where
 nd1:=by simp
 nd2:=by simp
 nd3:=by
  have hne':out.map qa6≠[]:=by simpa using hne
  simp[Heap.ents,mR,VE,qci hne',mG]
 lt:=by simp
 idn:=by simp
 num:=by simp
 src:=by
  intro e he;simp only[Heap.ents,je,js,jg,jl,ju]at he;rcases he with rfl|he
  ·exact⟨3,.cells y.cs,by simp,by simp[zG],qaf (qf8 y)⟩
  ·rcases qv0 hne e he with rfl|rfl|⟨P,hP,rfl⟩
   ·exact⟨0,.cells [qa8 v,.slc 1 0 out.length (.rest 7),.slc 22 0 Q.length (.rest 7)],by simp,by simp[zG],by simp[qhp,qaz,qat,qb2,mV,qbe (qdc v)]⟩
   ·exact⟨1,.cells (qa5 (out.map qa6)),by simp,by simp[zG],qaf (qqo out)⟩
   ·simp only[sj]at hP;subst hP;exact⟨22,.cells (qa5 (Q.map qa6)),by simp,by simp[zG],qaf (qqo Q)⟩
 frz:=fun x h=>by cases h
theorem FitH.drop0{N n:Nat} {σ:List (Nat × Nat)} {Φ:List (Nat × List AV)} {fs:List (List (Nat × Blk))} {H':Heap} (h:FitH N σ Φ ⟨n,[]::fs⟩ H'):FitH N σ Φ ⟨n,fs⟩ H':=
 ⟨h.nd1,h.nd2,h.nd3,h.lt,h.idn,h.num,h.src,h.frz⟩
theorem WpSr.shrQ{C:Ctx} {n:Nat} {r:Option Nat} {c:Code} {s:St} {Q:Out->St->Prop} (h:WpSr C n r c s (fun x s'=>∃H',Shr s'.H H'/\Q x (s'.wH H'))):WpSr C n r c s Q:=
 fun b a w hb ha K hK=>h b a w hb ha K fun x s2 a2 w2 q1 q2=>by obtain⟨H',k,q⟩:=q1;exact hK x _ a2 w2 q (q2.shr k)
theorem elem_yes(hA:qIn 57 T e57) (hM:qIn 58 T e58)
  (hAc:qIn 51 T e51) (hP:qIn 154 T e154) (hS:qIn 124 T e124) (hH:qIn 125 T e125) (hCl:qIn 128 T e128)
  {v out res:Tr} {o:Option (List Nd)} {up:Nat} {k:Int} {x:Nd} (hx:okM x) (hx2:okN (elN x)) (hxa:(qm9 x).length<=1000000) (hp:okP (mL o)) (hu:up < out.length) (hn:out.length+1<=100000) (ok:UpOk out) (hres:res≠[]) (hb:qly (mL o) (elN x)=true)
  (hc:CA T 22 [.ptr 0 0,.int .i64 k,.int .i64 (out.length:Int)] ⟨3,[mR v 1 (qhf out up (elN x)) 2 (some (mL o++[elN x]))]⟩ (.tup []) ⟨5,[mR v 3 res 4 (some (mL o++[elN x]))]⟩) :
  CA T 37 [.ptr 0 0,.int .i64 k,.int .i64 (up:Int),qa6 x] ⟨3,[mR v 1 out 2 o]⟩ (.tup []) ⟨5,[mR v 3 res 4 (some (mL o))]⟩:=by
 have hne:out≠[]:=by intro e;subst e;simp at hu
 have hput0:qhf out up (elN x)≠[]:=by simp[qhf,qgy]
 have kA:=fun H=>k57 hA x hx H;have kM:=fun(n:Nat) (f:List (Nat × Blk)) (h:getF 2 f=none)=>q58 hM (thm_p (v:=v) (out:=out) (n:=n) (f:=f) (k:=1) (j:=2) (o:=o) (by omega) (by omega) hne h) (qao (H:=⟨n,[f,mR v 1 out 2 o]⟩) (ss:=[0,0,0,2,0,0,1]) (v:=qa6 (elN x)) (by simp)) hp hx2;rw[hb]at kM;have kM:=fun n=>kM n [(3,.cells (elN x).cs)] rfl;have l3:qho [qal (qm9 x)] 3 x.cs=some [qbm x.kind,qbm x.space,.str x.name,qal (qm9 x),.str x.data,qbm x.up,qbl x.kids]:=rfl;have e7:[qbm x.kind,qbm x.space,.str x.name,qal (qm9 x),.str [],qbm x.up,qbl x.kids]=(elN x).cs:=rfl;have cA:(qal (qm9 x)).cells=[qal (qm9 x)]:=rfl;have sA:(qal (qm9 x)).single=true:=rfl;have rA:∀n,refs n (qal (qm9 x))=[]:=fun n=>qms n _ (by simp);obtain⟨y,hy⟩ : ∃y,y=elN x:=⟨_,rfl⟩;have hya:y.attrs.length<=1000000:=by rw[hy];exact hxa
 rw[<- hy]at hx2 hb hc kM e7 hput0;obtain⟨P,hPo⟩ : ∃P,P=mL o:=⟨_,rfl⟩;rw[<- hPo]at hp hb hc ⊢;have ho:o=none/\P=[]\/o=some P:=by
  cases o with
  |none=>exact .inl ⟨rfl,by rw[hPo];rfl⟩
  |some q=>exact .inr (by rw[hPo];rfl)
 obtain⟨Q,hQ⟩ : ∃Q,Q=P++[y]:=⟨_,rfl⟩;have hQl:Q.length=P.length+1:=by rw[hQ];simp
 rw[<- hQ]at hc;have happ:=app_m (v:=v) (x:=y) (A:=.cells y.cs) hne hp.1 ho;rw[<- hQ,<- hQl]at happ;have hst:=fun n=>put_m (c:=22) (m:=Q.length) (n:=n) (Q:=Q) (A:=(17,.cells y.cs)) (B:=(3,.cells y.cs)) (a:=qa8 v) (w:=.slc 1 0 out.length (.rest 7)) (u:=mV 2 o) (R:=.cells (qa5 (out.map qa6))) (by omega) (by simp) (by simp);have hm:=(zgi (v:=v) (out:=out) (o:=some Q) (m:=4) (k:=1) (j:=3) (by omega) (by omega) (by omega) (by omega) (by omega)).extra (m':=5) (q:=4) (b:=.cells y.cs) (jc _) (by omega) (qmo (qf8 y));have hput:=(c56 (T:=T) hAc hP hS hH hCl hm (by omega) hu ok y hya).perm (H2:=⟨5,[[(4,.cells y.cs)],mR v 1 out 3 (some Q)]⟩) (H2':=⟨6,[[(4,.cells y.cs)],mR v 5 (qhf out up y) 3 (some Q)]⟩) rfl rfl qon qon;have hc':=qhb (n:=6) (k:=5) (j:=3) (fr:=[(4,.cells y.cs)]) hc (by simp[qaz,qat,qb2,qab]) (by omega) (by omega) (by omega) (by omega) (by omega) hput0 hres (by simp);have hln:=fun H=>len_m (j:=2) (o:=o) (H:=H);rw[<- hPo]at hln;refine qa1 (s0:=⟨[0,1,2,3,7,8],[.ptr 0 0,.int .i64 k,.int .i64 (up:Int),qa6 x,uD,uD],[],55,⟨3,[]::[mR v 1 out 2 o]⟩⟩) Tryz.func37 rfl rfl rfl ?_;apply qR;simp[zS,qaq];apply qR;simp[zS,qaq,kA,cA,sA,rA,allSingle,l3,qc3];rw[e7];repeat apply wq
 refine qbh mixed qbc (by decide +kernel) (by decide +kernel) ?_;simp[zS,qc6,qbf,qb9,zd7,qaq,kM];apply qag rfl;apply qa4;simp;apply qR;simp[zS,zd7,hln];repeat apply wq
 refine qcc mixed qbc (by decide +kernel) fun B_ hB_=>?_;have hD_:ahead B_ 4 7=true/\ahead B_ 4 10=true/\ahead B_ 5 7=true/\ahead B_ 5 10=true/\ahead B_ 6 7=true/\ahead B_ 6 10=true/\ahead B_ 7 4=false/\ahead B_ 7 5=false/\ahead B_ 10 4=false/\ahead B_ 10 5=false:=by rw[hB_];decide +kernel
 apply qim B_;simp[zS,qdx,qc9,qc4,qbn,qas,qb4,qb0,Heap.lay,qdk,qil,qik,qfm,qfl,qfi,qfk,qfz,qfp,qea,qeb,qft,qfs,qfq,qfr,qfw,qfx,qfv,qfu,hD_,zd7,qaq,happ,hst];exact rfl;refine⟨_,rfl,?_,?_⟩;simp[zS,qbn,qas,qcb,qcs,qe5,hD_,zd7,qaq,happ,hst];simp[qc8,Heap.lay,qdk,qan];refine WpSr.fit [(3,4),(1,1),(22,3),(0,0)] [] (s':=(⟨[0,1,2,3,7,8],[.ptr 0 0,.int .i64 k,.int .i64 (up:Int),uD,.ptr 4 0,.int .i64 (P.length:Nat)],[],55,⟨5,[[(4,.cells y.cs)],mR v 1 out 3 (some Q)]⟩⟩ : St)) ⟨rfl,rfl,rfl,by simp[qaz,qat,qb2,qab],fit_up hne⟩ ?_;repeat apply wq
 refine qai (qbo [⟨56,_,_,_,_,hput⟩,⟨22,_,_,_,_,hc'⟩]) ?_;simp[zS,qcu,qaq];refine WpSr.fit [(6,3),(7,4),(0,0)] [] (s':=(⟨[0,1,2,3,7,8],[.ptr 0 0,uD,uD,uD,uD,.int .i64 (P.length:Nat)],[],55,⟨5,[mR v 3 res 4 (some Q)]⟩⟩ : St)) ⟨rfl,rfl,rfl,by simp[qaz,qat,qb2,qab],zdu (by omega) (by omega) (by omega) (by omega) (by omega) hres (by simp[getF]) (by simp[getF]) (by simp[getF])⟩ ?_;have hres':res.map qa6≠[]:=by simpa using hres
 have eR:mR v 3 res 4 (some Q)=[(0,.cells [qa8 v,.slc 3 0 res.length (.rest 7),.slc 4 0 Q.length (.rest 7)]),(3,.cells (qa5 (res.map qa6))),(4,.cells (qa5 (Q.map qa6)))]:=by simp[mR,VE,qci hres',qch hres',mV,mG]
 have eR2:mR v 3 res 4 (some P)=[(0,.cells [qa8 v,.slc 3 0 res.length (.rest 7),.slc 4 0 P.length (.rest 7)]),(3,.cells (qa5 (res.map qa6))),(4,.cells (qa5 (P.map qa6)))]:=by simp[mR,VE,qci hres',qch hres',mV,mG]
 rw[eR];have hsl:∀n:Nat,qee PG ⟨n,[[(0,.cells [qa8 v,.slc 3 0 res.length (.rest 7),.slc 4 0 Q.length (.rest 7)]),(3,.cells (qa5 (res.map qa6))),(4,.cells (qa5 (Q.map qa6)))]]⟩ 22 (.slc 4 0 Q.length (.rest 7)) none (some (.int .i64 (P.length:Int))) none=some (.slc 4 0 P.length (.rest 7)):=fun n=>by rw[hQl];exact sl_m (cs:=qa5 (Q.map qa6)) (kn:=P.length+1) (by simp[zG]) (by rw[(qbk Q).len];simp[hQl]) (by omega)
 refine WpSr.shrQ ?_;apply qR;simp[zS,hsl,qc3];have hsh:Shr ⟨5,[[(0,.cells [qa8 v,.slc 3 0 res.length (.rest 7),.slc 4 0 P.length (.rest 7)]),(3,.cells (qa5 (res.map qa6))),(4,.cells (qa5 (Q.map qa6)))]]⟩ ⟨5,[mR v 3 res 4 (some P)]⟩:=by rw[eR2];exact⟨rfl,⟨rfl,.inl rfl,rfl,.inl rfl,rfl,.inr ⟨qa5 (P.map qa6),qa5 ([y].map qa6),by rw[hQ,j3,qbq],rfl⟩,trivial⟩⟩
 refine⟨_,hsh,?_⟩;simp[zQ,Tryz.f37,St.wH];exact⟨_,_,by simp[qat,qaz],.drop0 (fitm (k:=3) (j:=4) (f:=[]) (by omega) (by omega) (by omega) (by omega) hres rfl rfl rfl)⟩
theorem qiv(t:Tr) {u:Nat} (hu:u < t.length) (n:Nd):(qhf t u n).length=t.length+1:=by unfold qhf;rw[qqe (by rw[qdq (by simp;omega)];simp),qdq (by simp;omega)];simp
theorem qhl(t:Tr) {i:Nat} (hi:i < t.length) (s:Str):(qgj t i s).length=t.length:=by unfold qgj;simp;omega
def za5(t:Tr):Prop:=∀n,n∈t->∀k,k∈n.kids->0<=k/\k < (t.length:Int)
theorem mem_mid{a b:List Nd} {x n:Nd} (h:n∈a++x::b):n∈a\/n=x\/n∈b:=by simpa using h
theorem qg6{t:Tr} {i:Nat} {x n:Nd} (h:n∈t.take i++x::t.drop (i+1)):n∈t\/n=x:=by
 rcases mem_mid h with h|h|h
 ·exact .inl (List.mem_of_mem_take h)
 ·exact .inr h
 ·exact .inl (List.mem_of_mem_drop h)
theorem zbo{t:Tr} (h:za5 t) {u:Nat} (hu:u < t.length) (n:Nd):za5 (qhf t u n):=by
 have hl:=qiv t hu n;intro m hm k hk;rw[hl];have old:∀x,x∈t->∀k,k∈x.kids->0<=k/\k < ((t.length+1:Nat):Int):=fun x hx k hk=>by have:=h x hx k hk;omega
 have hun:qa0 t (u:Int)∈t:=qb5 (by omega) (by omega);have key:∀m,m∈qcr (t++[fresh n]) u ((qa0 t (u:Int)).kids++[(t.length:Int)])->∀k,k∈m.kids->0<=k/\k < ((t.length+1:Nat):Int):=fun m hm k hk=>by
  rcases qg6 hm with hm|rfl
  ·rcases jl.1 hm with hm|hm
   ·exact old m hm k hk
   ·simp at hm;subst hm;simp[fresh]at hk
  ·simp only[jl,ju]at hk;rcases hk with hk|rfl
   ·exact old _ hun k hk
   ·omega
 unfold qhf at hm;rcases qg6 hm with hm|rfl
 ·exact key m hm k hk
 ·exact key _ (qb5 (by omega) (by rw[qdq (by simp;omega)];simp;omega)) k hk
theorem zh4{t:Tr} (h:za5 t) {i:Nat} (hi:i < t.length) (s:Str):za5 (qgj t i s):=by
 intro m hm k hk;rw[qhl t hi];rcases qg6 hm with hm|rfl
 ·exact h m hm k hk
 ·exact h _ (qb5 (by omega) (by omega)) k hk
theorem qyy{t:Tr} (h:za5 t) {u:Nat} (hu:u < t.length) {k:Int} (hk:zdj t u=some k):0<=k/\k < (t.length:Int):=
 h _ (qb5 (by omega) (by omega)) k (List.mem_of_getLast? hk)
theorem up_put{t:Tr} (h:UpOk t) {u:Nat} (hu:u < t.length) (n:Nd):UpOk (qhf t u n):=by
 have hl:=qiv t hu n;have hun:qa0 t (u:Int)∈t:=qb5 (by omega) (by omega);have key:∀m,m∈qcr (t++[fresh n]) u ((qa0 t (u:Int)).kids++[(t.length:Int)])->m.up < (t.length:Int)+1/\m.kids.length<=t.length+1:=fun m hm=>by
  have old:∀x,x∈t++[fresh n]->x.up < (t.length:Int)+1/\x.kids.length<=t.length+1:=fun x hx=>by
   rcases jl.1 hx with hx|hx
   ·have:=h.up x hx;have:=h.kids x hx;exact⟨by omega,by omega⟩
   ·simp at hx;subst hx;exact⟨by simp[fresh];omega,by simp[fresh]⟩
  rcases qg6 hm with hm|rfl
  ·exact old m hm
  ·have h1:=old (qa0 (t++[fresh n]) (u:Int)) (qb5 (by omega) (by simp;omega));have h2:=h.kids _ hun;exact⟨h1.1,by simp;omega⟩
 constructor
 ·intro m hm;unfold qhf at hm;rcases qg6 hm with hm|rfl
  ·have:=(key m hm).1;omega
  ·show (u:Int) < _;omega
 ·intro m hm;unfold qhf at hm;rcases qg6 hm with hm|rfl
  ·have:=(key m hm).2;omega
  ·have:=(key _ (qb5 (t:=qcr (t++[fresh n]) u ((qa0 t (u:Int)).kids++[(t.length:Int)])) (i:=(t.length:Int)) (by omega) (by rw[qdq (by simp;omega)];simp;omega))).2;show (qa0 _ _).kids.length<=_;omega
theorem up_data{t:Tr} (h:UpOk t) {i:Nat} (hi:i < t.length) (s:Str):UpOk (qgj t i s):=by
 have hl:=qhl t hi s;have hn:qa0 t (i:Int)∈t:=qb5 (by omega) (by omega);constructor
 ·intro m hm;rcases qg6 hm with hm|rfl
  ·have:=h.up m hm;omega
  ·have:=h.up _ hn;show (qa0 t (i:Int)).up < _;omega
 ·intro m hm;rcases qg6 hm with hm|rfl
  ·have:=h.kids m hm;omega
  ·have:=h.kids _ hn;show (qa0 t (i:Int)).kids.length<=_;omega
theorem da_put{t:Tr} {D:Nat} (h:∀n,n∈t->n.data.length<=D) {u:Nat} (hu:u < t.length) {n:Nd} (hn:n.data.length<=D):∀m,m∈qhf t u n->m.data.length<=D:=by
 have k0:∀x,x∈t++[fresh n]->x.data.length<=D:=fun x hx=>by
  rcases jl.1 hx with hx|hx
  ·exact h x hx
  ·simp at hx;subst hx;exact hn
 have key:∀m,m∈qcr (t++[fresh n]) u ((qa0 t (u:Int)).kids++[(t.length:Int)])->m.data.length<=D:=fun m hm=>by
  rcases qg6 hm with hm|rfl
  ·exact k0 m hm
  ·exact k0 (qa0 (t++[fresh n]) (u:Int)) (qb5 (by omega) (by simp;omega))
 intro m hm;unfold qhf at hm;rcases qg6 hm with hm|rfl
 ·exact key m hm
 ·exact key (qa0 (qcr (t++[fresh n]) u ((qa0 t (u:Int)).kids++[(t.length:Int)])) (t.length:Int)) (qb5 (t:=qcr (t++[fresh n]) u ((qa0 t (u:Int)).kids++[(t.length:Int)])) (i:=(t.length:Int)) (by omega) (by rw[qdq (by simp;omega)];simp;omega))
theorem da_data{t:Tr} {D:Nat} (h:∀n,n∈t->n.data.length<=D) {i:Nat} (hi:i < t.length) (s:Str):∀m,m∈qgj t i s->m.data.length<=D+s.length:=by
 intro m hm;rcases qg6 hm with hm|rfl
 ·have:=h m hm;omega
 ·have:=h _ (qb5 (t:=t) (i:=(i:Int)) (by omega) (by omega));simp;omega
structure MoOk (out:Tr) (D:Nat):Prop where
 up:UpOk out
 kd:za5 out
 da:∀n,n∈out->n.data.length<=D
theorem zgo{t:Tr} {D:Nat} (h:MoOk t D) {u:Nat} (hu:u < t.length) {n:Nd} (hn:n.data.length<=D):MoOk (qhf t u n) D:=⟨up_put h.up hu n,zbo h.kd hu n,da_put h.da hu hn⟩
theorem zf5(out:Tr) (up:Nat) {s:Str} (hs:s.length<=40000):(qia out up s).length<=120000:=by have hdl:=qi5 _ s (jc _);unfold qia;have:=qto (qgl s);split<;>omega
theorem zbb{t:Tr} {D:Nat} (h:MoOk t D) {u:Nat} (hu:u < t.length) {P:List Nd} {s:Str} (hs:s.length<=40000):MoOk (qgp P u s t) (D+120000)/\t.length<=(qgp P u s t).length/\(qgp P u s t).length<=t.length+1:=by
 have hx:=zf5 t u hs;have wk:∀{t':Tr},MoOk t' D->MoOk t' (D+120000):=fun h=>⟨h.up,h.kd,fun n hn=>by have:=h.da n hn;omega⟩;have hp:MoOk (qhf t u ⟨2,0,[],[],qia t u s,0,[]⟩) (D+120000):=zgo (wk h) hu (by simp;omega);have hl:=qiv t hu ⟨2,0,[],[],qia t u s,0,[]⟩;unfold qgp;split
 ·split
  ·rename_i k hk;have hkr:=qyy h.kd hu hk;split
   ·have hi:k.toNat < t.length:=(by omega);refine⟨⟨up_data h.up hi _,zh4 h.kd hi _,fun n hn=>?_⟩,by rw[qhl _ hi];exact jc _,by rw[qhl _ hi];omega⟩;have:=da_data h.da hi _ n hn;omega
   ·exact⟨hp,by omega,by omega⟩
  ·exact⟨hp,by omega,by omega⟩
 ·exact⟨wk h,jc _,by omega⟩
def qt2(L:List Nd):List (Int × Str):=(L.filter fun n=>decide (n.kind=1)).map fun n=>(n.space,n.name)
theorem qna(a b:List Nd):qt2 (a++b)=qt2 a++qt2 b:=by simp[qt2]
theorem qn9(n:Nd):qt2 [n]=if n.kind=1 then [(n.space,n.name)] else []:=by unfold qt2;by_cases h:n.kind=1<;>simp[h]
theorem quc(a b:List Nd) (n m:Nd) (h:n.kind=m.kind/\n.space=m.space/\n.name=m.name):qt2 (a++n::b)=qt2 (a++m::b):=by have e:∀x:Nd,a++x::b=a++([x]++b):=fun x=>rfl;rw[e,e,qna,qna,qna,qna,qn9,qn9,h.1,h.2.1,h.2.2]
theorem zgy(t:Tr) {i:Nat} (hi:i < t.length) (K:List Int):qt2 (qcr t i K)=qt2 t:=by
 conv=>rhs;rw[qf1 hi]
 exact quc _ _ _ _ ⟨rfl,rfl,rfl⟩
theorem labs_up(t:Tr) {i:Nat} (hi:i < t.length) (u:Int):qt2 (qgy t i u)=qt2 t:=by
 conv=>rhs;rw[qf1 hi]
 exact quc _ _ _ _ ⟨rfl,rfl,rfl⟩
theorem zgz(t:Tr) {i:Nat} (hi:i < t.length) (s:Str):qt2 (qgj t i s)=qt2 t:=by
 conv=>rhs;rw[qf1 hi]
 exact quc _ _ _ _ ⟨rfl,rfl,rfl⟩
theorem labs_put(t:Tr) {u:Nat} (hu:u < t.length) (n:Nd):qt2 (qhf t u n)=qt2 t++qt2 [n]:=by unfold qhf;rw[labs_up _ (by rw[qdq (by simp;omega)];simp),zgy _ (by simp;omega),qna,qn9,qn9];rfl
theorem chars_ok{P:List Nd} {up:Nat} {s:Str} {out:Tr} (h:za5 out) (hu:up < out.length):za5 (qgp P up s out)/\out.length<=(qgp P up s out).length/\qt2 (qgp P up s out)=qt2 out:=by
 have hp:=labs_put out hu ⟨2,0,[],[],qia out up s,0,[]⟩;have hl:=qiv out hu ⟨2,0,[],[],qia out up s,0,[]⟩;have hz:qt2 [(⟨2,0,[],[],qia out up s,0,[]⟩ : Nd)]=[]:=by rw[qn9];simp
 rw[hz,jg]at hp;unfold qgp;split
 ·split
  ·rename_i k hk;have hkr:=qyy h hu hk;split
   ·have hi:k.toNat < out.length:=(by omega);exact⟨zh4 h hi _,by rw[qhl _ hi];exact jc _,zgz _ hi _⟩
   ·exact⟨zbo h hu _,by rw[hl];omega,hp⟩
  ·exact⟨zbo h hu _,by rw[hl];omega,hp⟩
 ·exact⟨h,jc _,rfl⟩
section
variable {v:Tr}
end
def root0:Nd:=⟨0,0,[],[],[],-1,[]⟩
def qdw(t:Tr):Tr:=qhs ((qbx t).length+2) (qbx t) [] 0 0 [root0]
section
variable {v:Tr}
def qvh(v:Tr):Nat->Int->Nat
 |0,_=>0
 |f+1,i=>((qa0 v i).kids.map fun k=>1+qvh v f k).sum
def sumM(v:Tr) (f:Nat) (K:List Int):Nat:=(K.map fun k=>1+qvh v f k).sum
theorem qq8(f:Nat) (k:Int) (r:List Int):sumM v f (k::r)=1+qvh v f k+sumM v f r:=by simp[sumM]
def zeb(rec:Int->Bool) (v:Tr) (P:List Nd) (K:List Int):Bool:=K.any fun k=>decide ((qa0 v k).kind=1) && (qly P (elN (qa0 v k)) || rec k)
def zcn(v:Tr) (P:List Nd):Nat->Int->Bool
 |0,_=>false
 |f+1,i=>zeb (zcn v P f) v P (qa0 v i).kids
def qs1(o:Option (List Nd)) (b:Bool):Option (List Nd):=if o=none/\b=true then some [] else o
theorem mL_opt(o:Option (List Nd)) (b:Bool):mL (qs1 o b)=mL o:=by
 unfold qs1;split
 next h=>rw[h.1];rfl
 ·rfl
theorem opt_or(o:Option (List Nd)) (a b:Bool):qs1 (qs1 o a) b=qs1 o (a || b):=by unfold qs1;cases o<;>cases a<;>cases b<;>simp
theorem zb6(P:List Nd) (b:Bool):qs1 (some P) b=some P:=by simp[qs1]
theorem opt_true(o:Option (List Nd)):qs1 o true=some (mL o):=by cases o<;>simp[qs1,mL]
structure LookOk (v:Tr):Prop where
 m:∀n,n∈v->okM n
 e:∀n,n∈v->okN (elN n)
 d:∀n,n∈v->n.data.length<=40000
 k:∀n,n∈v->n.kids.length<=100000/\∀k,k∈n.kids->0<=k/\k < (v.length:Int)
theorem qlx{t:Tr} {D D':Nat} (h:MoOk t D) (hd:D<=D'):MoOk t D':=⟨h.up,h.kd,fun n hn=>by have:=h.da n hn;omega⟩
theorem zgp(hv:LookOk v) {f:Nat} {rec:List Nd->Int->Nat->Tr->Tr}
  (hrec:∀P k up out D,0<=k->k < (v.length:Int)->MoOk out D->up < out.length->MoOk (rec P k up out) (D+120000 * qvh v f k)/\out.length<=(rec P k up out).length/\(rec P k up out).length<=out.length+qvh v f k)
  (P:List Nd) (up:Nat):∀(K:List Int),(∀k,k∈K->0<=k/\k < (v.length:Int))->∀out D,MoOk out D->up < out.length ->
   MoOk (goM rec v P up K out) (D+120000 * sumM v f K)/\out.length<=(goM rec v P up K out).length/\(goM rec v P up K out).length<=out.length+sumM v f K
 |[],_,out,D,h,hu=>⟨qlx h (by omega),jc _,by simp[goM]⟩
 |k::r,hK,out,D,h,hu=>by
  obtain⟨k0,k1⟩:=hK k (by simp);have hr:=fun k hk=>hK k (jp _ hk);have hm:qa0 v k∈v:=qb5 k0 k1;rw[qq8];unfold goM;split
  ·obtain⟨a1,a2,a3⟩:=zbb (P:=P) h hu (hv.d _ hm);obtain⟨b1,b2,b3⟩:=zgp hv hrec P up r hr _ _ a1 (by omega);exact⟨qlx b1 (by omega),by omega,by omega⟩
  ·split
   ·split
    ·have hp:MoOk (qhf out up (elN (qa0 v k))) D:=zgo h hu (jh _);have hl:=qiv out hu (elN (qa0 v k));obtain⟨a1,a2,a3⟩:=hrec (P++[elN (qa0 v k)]) k out.length _ D k0 k1 hp (by omega);obtain⟨b1,b2,b3⟩:=zgp hv hrec P up r hr _ _ a1 (by omega);exact⟨qlx b1 (by omega),by omega,by omega⟩
    ·obtain⟨a1,a2,a3⟩:=hrec P k up out D k0 k1 h hu;obtain⟨b1,b2,b3⟩:=zgp hv hrec P up r hr _ _ a1 (by omega);exact⟨qlx b1 (by omega),by omega,by omega⟩
   ·obtain⟨b1,b2,b3⟩:=zgp hv hrec P up r hr out D h hu;exact⟨qlx b1 (by omega),by omega,by omega⟩
theorem qqx(hv:LookOk v):∀(f:Nat) (P:List Nd) (i:Int) (up:Nat) (out:Tr) (D:Nat),0<=i->i < (v.length:Int)->MoOk out D->up < out.length ->
  MoOk (qhs f v P i up out) (D+120000 * qvh v f i)/\out.length<=(qhs f v P i up out).length/\(qhs f v P i up out).length<=out.length+qvh v f i
 |0,P,i,up,out,D,_,_,h,hu=>⟨qlx h (by omega),jc _,by simp[qhs]⟩
 |f+1,P,i,up,out,D,i0,i1,h,hu=>by have hm:qa0 v i∈v:=qb5 i0 i1;rw[qhs];exact zgp hv (fun P k up out D a b c d=>qqx hv f P k up out D a b c d) P up _ (hv.k _ hm).2 out D h hu
end
set_option maxHeartbeats 2000000
structure MaT (T:List (Entry PG)):Prop where
 d:qaa 52 T=some e52.g
 o:qaa 53 T=some e53.g
 l:qaa 54 T=some e54.g
 c:qaa 55 T=some e55.g
 a:qaa 51 T=some e51.g
 p:qaa 154 T=some e154.g
 s:qaa 124 T=some e124.g
 h:qaa 125 T=some e125.g
 i:qaa 128 T=some e128.g
 t:qaa 57 T=some e57.g
 m:qaa 58 T=some e58.g
def zdt(v:Tr):Nat->Int->Prop
 |0,_=>False
 |f+1,i=>∀k,k∈(qa0 v i).kids->(qa0 v k).kind=1->zdt v f k
theorem zh2(hT:MaT T) {v:Tr} (hv:LookOk v):∀(f:Nat) (i:Int) (up:Nat) (out:Tr) (o:Option (List Nd)) (D:Nat),zdt v f i->0<=i->i < (v.length:Int)->up < out.length->MoOk out D->okP (mL o)->(mL o).length+f<=1000->out.length+qvh v f i<=90000->D+120000 * qvh v f i<=1000000000 ->
  CA T 22 [.ptr 0 0,.int .i64 i,.int .i64 (up:Int)] ⟨3,[mR v 1 out 2 o]⟩ (.tup []) ⟨5,[mR v 3 (qhs f v (mL o) i up out) 4 (qs1 o (zcn v (mL o) f i))]⟩
 |0,i,up,out,o,D,hf,_,_,_,_,_,_,_,_=>absurd hf (by simp[zdt])
 |f+1,i,up,out,o,D,hf,i0,i1,hu,hmo,hp,hlen,hN,hD=>by
  have ih:=zh2 hT hv f;have hix:=atX i0 i1;have hne:out≠[]:=by intro e;subst e;simp at hu
  obtain⟨P,hPo⟩ : ∃P,P=mL o:=⟨_,rfl⟩;rw[<- hPo]at hp hlen ⊢;obtain⟨hkl,hkr⟩:=hv.k _ (qb5 i0 i1);obtain⟨K,hK⟩ : ∃K,K=(qa0 v i).kids:=⟨_,rfl⟩;have gk:qcy (qa0 v i).cs 6=some (qbl K):=by rw[hK];rfl
  have eN:qvh v (f+1) i=sumM v f K:=by rw[hK];rfl
  rw[eN]at hN hD;simp only[zdt]at hf;rw[<- hK]at hf hkr hkl;obtain⟨R,hR⟩ : ∃R,R=goM (qhs f v) v P up K out:=⟨_,rfl⟩;obtain⟨oF,hoF⟩ : ∃oF,oF=qs1 o (zeb (zcn v P f) v P K):=⟨_,rfl⟩;have eR:qhs (f+1) v P i up out=R:=by rw[hR,hK];rfl
  have eO:qs1 o (zcn v P (f+1) i)=oF:=by rw[hoF,hK];rfl
  rw[eR,eO];clear eR eO eN hK;have r0:qb3 PG ⟨3,[[],mR v 1 out 2 o]⟩ 22 (.ptr 0 0)=some (qa8 v):=rdm_v rfl;generalize (qa0 v i).cs=ics at *;refine qa1 (s0:=⟨[0,1,2,7,8,17,18,19,32],[.ptr 0 0,.int .i64 i,.int .i64 (up:Int),uD,uD,uD,uD,uD,uD],[],48,⟨3,[]::[mR v 1 out 2 o]⟩⟩) Tryz.func22 rfl rfl rfl ?_;apply qR;simp[zS,r0,hix,gk,qpb];refine qa7 (qb1 (fun x:Nat × Tr × Option (List Nd)=>(⟨[0,1,2,7,8,17,18,19,32],[.ptr 0 0,.int .i64 i,.int .i64 (up:Int),uD,uD,qbl K,.int .i64 (K.length:Nat),.int .i64 (x.1:Int),uD],[],48,⟨5,[[],mR v 3 x.2.1 4 x.2.2]⟩⟩ : St))
   (fun x=>x.1<=K.length/\mL x.2.2=P/\up < x.2.1.length/\(∃D',MoOk x.2.1 D'/\D'+120000 * sumM v f (K.drop x.1)<=1000000000)/\x.2.1.length+sumM v f (K.drop x.1)<=90000/\goM (qhs f v) v P up (K.drop x.1) x.2.1=R/\qs1 x.2.2 (zeb (zcn v P f) v P (K.drop x.1))=oF) (fun x=>K.length - x.1) [(1,3),(2,4),(0,0)] [] (0,out,o)
   ⟨jh _,hPo.symm,hu,⟨D,hmo,hD⟩,hN,hR.symm,hoF.symm⟩
   ⟨rfl,rfl,rfl,by simp[qaz,qat,qb2,qab,qa9],(zdu (f:=[]) (by omega) (by omega) (by omega) (by omega) (by omega) hne rfl rfl rfl).fsV (by simp)⟩ ?_)
  clear hR hoF hmo hD hN r0 hu hne;rintro⟨j,ot,oc⟩ ⟨hj,ho,hu,⟨D',hmo,hD⟩,hN,hx,hy⟩ B hB;simp only at hj ho hu hmo hD hN hx hy ⊢;by_cases h:j < K.length
  ·have hc:(j:Int) < (K.length:Int):=(by omega);have hik:=atI h;have hkm:=jy h;rw[List.drop_eq_getElem_cons h]at hx hy hD hN;rw[qq8]at hD hN;unfold goM at hx;obtain⟨k0,k1⟩:=hkr _ hkm;have hfk:=hf _ hkm;have hixk:=atX k0 k1;have hac:=qbd (show j<=1000000000 by omega);generalize K[j]=k at *;apply qR;simp[zS,hc,h];repeat apply wq
   apply qaj rfl;apply qa4;simp;repeat apply wq
   apply qa7;apply qR;simp[zS,hik];apply qR;simp[zS,rdm_v,hixk,qaq];apply qR;simp[zS];apply qa7;subst ho;have hm:qa0 v k∈v:=qb5 k0 k1;have hdl:=hv.d _ hm;have hne:ot≠[]:=(by intro e;subst e;simp at hu);have hda:∀n,n∈ot->n.data.length<=1000000000:=fun n hn=>(by have:=hmo.da n hn;omega);have hrnd:∀{n:Nat} {t':Tr} {o':Option (List Nd)},t'≠[]->FitH 3 [(6,3),(7,4),(0,0)] [] ⟨n,[[(5,.cells (qa0 v k).cs)],mR v 6 t' 7 o']⟩ ⟨5,[[],mR v 3 t' 4 o']⟩:=fun h=>(zdu (by omega) (by omega) (by omega) (by omega) (by omega) h (by simp[getF]) (by simp[getF]) (by simp[getF])).fsV (by simp);have nil_of:∀{t':Tr},ot.length<=t'.length->t'≠[]:=fun h e=>(by rw[e]at h;simp at h;exact hne h);by_cases hk2:(qa0 v k).kind=2
   ·rw[if_pos hk2]at hx;have hch:=chars_at hT.d hT.o hT.l hT.c hT.a hT.p hT.s hT.h hT.i (v:=v) (s:=(qa0 v k).data) hdl hu (by omega) hmo.up hda hp (fun q hq=>hmo.kd _ (qb5 (by omega) (by omega)) q hq);obtain⟨m1,m2,m3⟩:=zbb (P:=mL oc) hmo hu hdl;have hcc:=qhb (n:=6) (k:=3) (j:=4) (fr:=[(5,.cells (qa0 v k).cs)]) hch (by simp[qaz,qat,qb2,qab]) (by omega) (by omega) (by omega) (by omega) (by omega) hne (nil_of m2) (by simp);have hy2:qs1 oc (zeb (zcn v (mL oc) f) v (mL oc) (K.drop (j+1)))=oF:=(by rw[<- hy];simp[zeb,hk2]);generalize qgp (mL oc) up (qa0 v k).data ot=ot2 at *;have g4:qcy (qa0 v k).cs 4=some (.str (qa0 v k).data):=rfl;apply qR;simp[zS,hk2];refine qaj (by simp[hk2]) ?_;refine qai (qbo [⟨36,_,_,_,_,hcc⟩]) ?_;simp[zS,qcu,g4];apply qR;simp[zS,hac];exact hB _ (j+1,ot2,oc) (by simp only;omega) ⟨by simp only;omega,rfl,by simp only;omega,⟨_,m1,by simp only;omega⟩,by simp only;omega,hx,hy2⟩ ⟨[(6,3),(7,4),(0,0)],[],rfl,rfl,rfl,by simp[qaz,qat,qb2,qab,qa9],hrnd (nil_of m2)⟩
   ·rw[if_neg hk2]at hx;by_cases hk1:(qa0 v k).kind=1
    ·rw[if_pos hk1]at hx;have hfk:=hfk hk1;have hee:=hv.e _ hm;have hmm:=hv.m _ hm;have hxa:(qm9 (qa0 v k)).length<=1000000:=(by have:(qm9 (qa0 v k)).length<=1000:=hee.2.1;omega);have pn:=zd9 (qa0 v k);cases hb:qly (mL oc) (elN (qa0 v k))with
     |true=>
      rw[if_pos hb]at hx;have hP2:okP (mL oc++[elN (qa0 v k)]):=⟨by simp;omega,fun n hn=>by
       rcases jl.1 hn with hn|hn
       ·exact hp.2 n hn
       ·simp at hn;subst hn;exact hee⟩
      have mp:=zgo hmo hu (n:=elN (qa0 v k)) (jh _);have hl:=qiv ot hu (elN (qa0 v k));have hih:=ih k ot.length (qhf ot up (elN (qa0 v k))) (some (mL oc++[elN (qa0 v k)])) D' hfk k0 k1 (by omega) mp hP2 (by simp[mL]at hlen ⊢;omega) (by omega) (by omega);rw[zb6]at hih;obtain⟨m1,m2,m3⟩:=qqx hv f (mL oc++[elN (qa0 v k)]) k ot.length (qhf ot up (elN (qa0 v k))) D' k0 k1 mp (by omega);have hr:qhs f v (mL oc++[elN (qa0 v k)]) k ot.length (qhf ot up (elN (qa0 v k)))≠[]:=nil_of (by omega);have hel:=elem_yes hT.t hT.m hT.a hT.p hT.s hT.h hT.i (v:=v) (o:=oc) hmm hee hxa hp hu (by omega) hmo.up hr hb hih;have hcc:=qhb (n:=6) (k:=3) (j:=4) (fr:=[(5,.cells (qa0 v k).cs)]) hel (by simp[qaz,qat,qb2,qab,qbe pn]) (by omega) (by omega) (by omega) (by omega) (by omega) hne hr (by simp);have hy2:qs1 (some (mL oc)) (zeb (zcn v (mL oc) f) v (mL oc) (K.drop (j+1)))=oF:=(by rw[<- hy,zb6,<- opt_true];simp[zeb,hk1,hb]);generalize qhs f v (mL oc++[elN (qa0 v k)]) k ot.length (qhf ot up (elN (qa0 v k)))=ot2 at *;apply qR;simp[zS,hk2];refine qag (by simp[hk2]) ?_;apply qR;simp[zS,hk1];refine qaj (by simp[hk1]) ?_;refine qai (qbo [⟨37,_,_,_,_,hcc⟩]) ?_;simp[zS,qcu,qaq];apply qR;simp[zS,hac];exact hB _ (j+1,ot2,some (mL oc)) (by simp only;omega) ⟨by simp only;omega,rfl,by simp only;omega,⟨_,m1,by simp only;omega⟩,by simp only;omega,hx,hy2⟩ ⟨[(6,3),(7,4),(0,0)],[],rfl,rfl,rfl,by simp[qaz,qat,qb2,qab,qa9],hrnd (nil_of (by omega))⟩
     |false=>rw[if_neg (by rw[hb];simp)]at hx;have hih:=ih k up ot oc D' hfk k0 k1 hu hmo hp (by omega) (by omega) (by omega);obtain⟨m1,m2,m3⟩:=qqx hv f (mL oc) k up ot D' k0 k1 hmo hu;have hel:=elem_no hT.t hT.m (v:=v) (o:=oc) hmm hee hp hne (nil_of m2) hb hih;have hcc:=qhb (n:=6) (k:=3) (j:=4) (fr:=[(5,.cells (qa0 v k).cs)]) hel (by simp[qaz,qat,qb2,qab,qbe pn]) (by omega) (by omega) (by omega) (by omega) (by omega) hne (nil_of m2) (by simp);have hy2:qs1 (qs1 oc (zcn v (mL oc) f k)) (zeb (zcn v (mL oc) f) v (mL oc) (K.drop (j+1)))=oF:=(by rw[<- hy,opt_or];simp[zeb,hk1,hb]);have hmo2:=mL_opt oc (zcn v (mL oc) f k);generalize qs1 oc (zcn v (mL oc) f k)=oc2 at *;generalize qhs f v (mL oc) k up ot=ot2 at *;apply qR;simp[zS,hk2];refine qag (by simp[hk2]) ?_;apply qR;simp[zS,hk1];refine qaj (by simp[hk1]) ?_;refine qai (qbo [⟨37,_,_,_,_,hcc⟩]) ?_;simp[zS,qcu,qaq];apply qR;simp[zS,hac];exact hB _ (j+1,ot2,oc2) (by simp only;omega) ⟨by simp only;omega,hmo2,by simp only;omega,⟨_,m1,by simp only;omega⟩,by simp only;omega,hx,hy2⟩ ⟨[(6,3),(7,4),(0,0)],[],rfl,rfl,rfl,by simp[qaz,qat,qb2,qab,qa9],hrnd (nil_of m2)⟩
    ·rw[if_neg hk1]at hx;have hy2:qs1 oc (zeb (zcn v (mL oc) f) v (mL oc) (K.drop (j+1)))=oF:=(by rw[<- hy];simp[zeb,hk1]);apply qR;simp[zS,hk2];refine qag (by simp[hk2]) ?_;apply qR;simp[zS,hk1];refine qag (by simp[hk1]) ?_;apply qa4;simp;apply qR;simp[zS,hac];exact hB _ (j+1,ot,oc) (by simp only;omega) ⟨by simp only;omega,rfl,hu,⟨_,hmo,by simp only;omega⟩,by simp only;omega,hx,hy2⟩ ⟨[(3,3),(4,4),(0,0)],[],rfl,rfl,rfl,by simp[qaz,qat,qb2,qab,qa9],(zdu (by omega) (by omega) (by omega) (by omega) (by omega) hne (by simp[getF]) (by simp[getF]) (by simp[getF])).fsV (by simp)⟩
  ·have hc:¬ (j:Int) < (K.length:Int):=(by omega);rw[jt (by omega)]at hx hy;have hne:ot≠[]:=(by intro e;subst e;simp at hu);apply qR;simp[zS,hc,h];repeat apply wq
   apply qag rfl;apply qau;simp[zQ,Tryz.f22];have hx:ot=R:=hx;have hy:oc=oF:=(by rw[<- hy];simp[zeb,qs1]);rw[<- hx,<- hy];exact⟨_,_,by simp[qat,qaz],fitm (k:=3) (j:=4) (f:=[]) (by omega) (by omega) (by omega) (by omega) hne rfl rfl rfl⟩
theorem zc3(v:Tr):∀(f:Nat) (i:Int),fits f v i->zdt v f i
 |0,i,h=>h
 |f+1,i,h=>fun k hk hk1=>zc3 v f k (h k hk hk1)
theorem ziy{v:Tr} (hv:∀n,n∈v->∀k,k∈n.kids->0<=k/\k < (v.length:Int)):∀(f:Nat) (i:Int),0<=i->i < (v.length:Int)->1+qvh v f i=(qe3 (qar v) (f+1) i.toNat).length
 |0,i,i0,i1=>by
  have hz:∀L:List Int,(L.map fun _=>0).sum=0:=fun L=>by induction L<;>simp_all
  simp[qvh,qe3,hz]
 |f+1,i,i0,i1=>by
  have hm:qa0 v i∈v:=qb5 i0 i1;have ei:((i.toNat:Nat):Int)=i:=by omega
  have ek:(qa0 v i).kids=qar v i.toNat:=by rw[<- qd7 (by omega),<- qba (by omega),ei]
  rw[qe3,jx,List.length_flatMap,qvh,ek];have:((qar v i.toNat).map fun k=>1+qvh v f k)=(qar v i.toNat).map fun c=>(qe3 (qar v) (f+1) c.toNat).length:=by refine yM fun k hk=>?_;have hk2:=hv _ hm k (by rw[ek];exact hk);exact ziy hv f k hk2.1 hk2.2
  rw[this];omega
theorem qv4{t:Tr} (h:qbi t=true):1+qvh (qbx t) ((qbx t).length+2) 0=(qbx t).length:=by have w:=qn0 h;have hr:=qjv h w;have e1:=qpl hr 3;have e3:=zgb h w;rw[qfa (qd0 hr) (qdf hr),<- e1]at e3;have hp:=qdf hr;rw[ziy (qpk hr) _ 0 (y9 0) (by omega)];show (qe3 (qar (qbx t)) ((qbx t).length+3) 0).length=_;rw[e3];simp
theorem zhz{t:Tr} (h:qbi t=true):zdt (qbx t) ((qbx t).length+2) 0:=
 have hr:=qjv h (qn0 h)
 zc3 _ _ _ (qze hr _ 0 (qdf hr) (by omega))
theorem qy5(n:Nd) {q:At1->Prop}:∀(L out:List At1),(∀a,a∈out->q a)->(∀a,a∈L->q (a.1,qgl a.2))->(qkp n out L).length<=out.length+L.length/\∀a,a∈qkp n out L->q a
 |[],out,h,_=>⟨by simp[qkp],by simpa[qkp]using h⟩
 |a::r,out,h,hL=>by
  have h0:=hL a (by simp);have hr:=fun b hb=>hL b (jp a hb);have hadd:∀b,b∈qvi out (a.1,qgl a.2)->q b:=fun b hb=>by
   unfold qvi at hb;split at hb
   ·rcases jl.1 hb with hb|hb
    ·exact h b hb
    ·simp at hb;subst hb;exact h0
   ·exact h b hb
  have hl:=zci out (a.1,qgl a.2);unfold qkp;split
  ·obtain⟨i1,i2⟩:=qy5 n r (qvi out (a.1,qgl a.2)) hadd hr;exact⟨by simp only[jx];omega,i2⟩
  ·obtain⟨i1,i2⟩:=qy5 n r out h hr;exact⟨by simp only[jx];omega,i2⟩
def FewM(n:Nd):Prop:=n.name.length<=40/\n.data.length<=300/\n.attrs.length<=14/\∀a,a∈n.attrs->a.1.length<=40/\a.2.length<=150
theorem few_M{n:Nd} (h:qlc n=true):FewM n:=by simp only[qlc,qk8,jd,decide_eq_true_eq,ya]at h;refine⟨h.1,h.2.1,h.2.2.2.1,fun a ha=>?_⟩;have:=h.2.2.2.2 a ha;simpa[qro]using this
theorem few_okM{n:Nd} (h:FewM n):okM n:=
 ⟨⟨by have:=h.1;omega,by have:=h.2.2.1;omega,by have:=h.2.1;omega,fun a ha=>by have:=h.2.2.2 a ha;exact⟨by omega,by omega⟩⟩,by have:=h.2.2.1;omega,fun a ha=>by have:=h.2.2.2 a ha;omega⟩
theorem few_elN{n:Nd} (h:FewM n):okN (elN n):=by obtain⟨i1,i2⟩:=qy5 n (q:=fun a=>a.1.length<=100000/\a.2.length<=100000) n.attrs [] (by simp) (fun a ha=>by have:=h.2.2.2 a ha;have hd:=qi5 _ a.2 (jc _);exact⟨by simp only;omega,by simp only;omega⟩);refine⟨by have:=h.1;show n.name.length<=_;omega,?_,jh _,i2⟩;show (qm9 n).length<=1000;have:=h.2.2.1;unfold qm9;simp at i1;omega
theorem qi9{t:Tr} (h:qbi t=true) (hf:∀n,n∈t->qlc n=true) {n:Nd} (hn:n∈qbx t):FewM n/\n.kids.length<=60:=by rw[qtr h]at hn;obtain⟨x,hx,rfl⟩:=ji.1 hn;have hr:=qhg hx;have hm:qa0 t x∈t:=qb5 hr.1 hr.2;have hM:=few_M (hf _ hm);have hk:=hf _ hm;simp only[qlc,jd,decide_eq_true_eq]at hk;exact⟨hM,by simp[newN];exact hk.2.2.1⟩
theorem zgt{t:Tr} (h:qbi t=true) (hf:∀n,n∈t->qlc n=true):LookOk (qbx t) where
 m:=fun n hn=>few_okM (qi9 h hf hn).1
 e:=fun n hn=>few_elN (qi9 h hf hn).1
 d:=fun n hn=>by have:=(qi9 h hf hn).1.2.1;omega
 k:=fun n hn=>⟨by have:=(qi9 h hf hn).2;omega,qpk (qjv h (qn0 h)) n hn⟩
set_option maxHeartbeats 1000000
theorem VR.slcInv{ρ:Place} {b o n c:Nat} {x:Value} (h:VR ρ (.slc b o n (.ex c)) x):∃l,ρ b=some l/\x=.slice (some ⟨l.cb,l.off+o,none⟩) n c/\n<=c:=by
 cases h with
 |slcE b o len c l h hc=>exact⟨l,h,rfl,hc⟩
theorem VR.aggInv1{ρ:Place} {v:AV} {x:Value} (h:VR ρ (.agg [v]) x):∃y,x=.agg #[y]/\VR ρ v y:=by
 cases h with
 |agg cs vs hl hv=>
  have h0:0 < vs.size:=by rw[hl];simp
  refine⟨vs[0],?_,hv 0 (by simp) h0⟩;congr 1;apply Array.ext
  ·rw[hl];rfl
  ·intro i h1 h2;have:i=0:=(by simp at h2;omega);subst this;rfl
theorem CallAt.rest{C:Ctx} {f:FuncId} {args:List AV} {n sz:Nat} {cs:List AV} (h:CallAt C f args zH (.agg [.slc 0 0 n (.ex n)]) ⟨1,[[(0,.cells cs)]]⟩) (hc:cs.length=n * sz) (hp:qa9 cs=true) (hn:n<=9223372036854775807) :
  CallAt C f args zH (.agg [.slc 0 0 n (.rest sz)]) ⟨1,[[(0,.cells cs)]]⟩:=by
 intro ρ w xs sm hx;have key:∀{x:Value} {ρ':Place} {w':World},VR ρ' (.agg [.slc 0 0 n (.ex n)]) x->Sim ρ' ⟨1,[[(0,.cells cs)]]⟩ w'->Step ρ zH w ρ' ⟨1,[[(0,.cells cs)]]⟩ w'->∃ρ'',VR ρ'' (.agg [.slc 0 0 n (.rest sz)]) x/\Sim ρ'' ⟨1,[[(0,.cells cs)]]⟩ w'/\Step ρ zH w ρ'' ⟨1,[[(0,.cells cs)]]⟩ w':=fun {x ρ' w'} h1 h2 h3=>by
  obtain⟨y,rfl,hy⟩:=h1.aggInv1;obtain⟨l,hl,rfl,_⟩:=hy.slcInv;obtain⟨l',hl',g2,g3,g4⟩:=h2.live (0,.cells cs) (by simp[Heap.ents]);rw[hl]at hl';cases hl';obtain⟨r1,r2,r3⟩:=g4;obtain⟨ρ'',e⟩ : ∃ρ'':Place,ρ''=ρ'.upd 0 ⟨l.cb,l.off,l.off+cs.length⟩:=⟨_,rfl⟩;have u0:ρ'' 0=some ⟨l.cb,l.off,l.off+cs.length⟩:=by rw[e];exact Place.upd_same
  have uo:∀b,b≠0->ρ'' b=ρ' b:=fun b hb=>by rw[e];exact Place.upd_other hb
  have eB:ρ''.B=ρ'.B:=by rw[e];rfl
  have eW:ρ''.W=ρ'.W:=by rw[e];rfl
  have ebare:ρ''.bare=ρ'.bare:=by rw[e];rfl
  have hd:∀b,ρ b=none:=fun b=>sm.dom b (jh _);have only:∀e,e∈(⟨1,[[(0,.cells cs)]]⟩ : Heap).ents->e=(0,.cells cs):=fun e he=>by simpa[Heap.ents]using he
  refine⟨ρ'',?_,⟨?_,?_,?_,?_,?_,?_,?_,?_,?_⟩,⟨⟨?_,?_,?_,?_,?_⟩,h3.size,?_,?_,h3.num,?_,?_⟩⟩
  ·refine .agg _ _ (by simp) fun i hi hi'=>?_;have:i=0:=(by simp at hi;omega);subst this;exact .slcR 0 0 n sz n ⟨l.cb,l.off,l.off+cs.length⟩ u0 (jc _) ⟨by simp[hc],hn⟩
  ·rw[eB];exact h2.base
  ·rw[eB,eW];exact h2.below
  ·rw[eW];exact h2.os
  ·rw[eW];exact h2.tape
  ·rw[eW];exact h2.output
  ·intro b hb;rw[uo b (by simp at hb;omega)];exact h2.dom b hb
  ·exact h2.nodup
  ·intro e he;rw[only e he];refine⟨_,u0,by rw[eB];exact g2,g3,⟨by simp,fun i hi=>r2 i (by simp at hi;omega),fun i hi=>?_⟩⟩;obtain⟨x,hx1,hx2⟩:=r3 i hi;refine⟨x,hx1,?_⟩;have:=hx2.pure (qf9 hp i hi);rw[<- ebare]at this;exact this.mono ρ''.bare_le
  ·intro e e' he he' _ _ _ _ _;rw[only e he,only e' he']
  ·intro b l0 hb;rw[hd b]at hb;cases hb
  ·intro k hk;rw[eB,eW];exact h3.le.fz k hk
  ·rw[eW];exact h3.le.os
  ·rw[eW];exact h3.le.tape
  ·rw[eW];exact h3.le.output
  ·exact h3.keeps
  ·intro e he l0 hl0;rw[only e he]at hl0;rw[u0]at hl0;cases hl0;exact h3.rows (0,.cells cs) (by simp[Heap.ents]) l hl
  ·intro b hb;exact absurd hb (jk b)
  ·intro k hk;rw[eB]at hk;exact h3.cold k hk
 rcases h ρ w xs sm hx with⟨x,ρ',w',h0,h1,h2,h3⟩|⟨g,ys,h0,h1⟩
 ·obtain⟨ρ'',k1,k2,k3⟩:=key h1 h2 h3;exact .inl ⟨x,ρ'',w',h0,k1,k2,k3⟩
 ·refine .inr ⟨g,ys,h0,h1.mono ?_⟩;rintro e w' ⟨x,ρ',rfl,m1,m2,m3⟩;obtain⟨ρ'',k1,k2,k3⟩:=key m1 m2 m3;exact⟨x,ρ'',rfl,k1,k2,k3⟩
theorem c21:CA T 21 [] zH (.agg [.slc 0 0 1 (.rest 7)]) ⟨1,[[(0,.cells root0.cs)]]⟩:=by
 refine CallAt.rest ?_ rfl (by simp[root0,Nd.cs,qbm,qal,qa9,qab]) (by omega);have b5:qgq PG 34 [(5,.int .i64 (-1))]=some (.agg [.int .i64 0,.int .i64 0,.str [],.nilS,.str [],.int .i64 (-1),.nilS]):=rfl;refine qa1 (s0:=⟨[0],[uD],[],4,⟨0,[[]]⟩⟩) Tryz.func21 rfl rfl rfl ?_;have bt:∀b n c,qgq PG 24 [(0,.slc b 0 n c)]=some (.agg [.slc b 0 n c]):=fun b n c=>rfl;have pr:qdj 0 [1] [] [[(1,.cells [.int .i64 0,.int .i64 0,.str [],.nilS,.str [],.int .i64 (-1),.nilS]),(0,.cells [.nilS])]]=[[(1,.cells [.int .i64 0,.int .i64 0,.str [],.nilS,.str [],.int .i64 (-1),.nilS]),(0,.cells [.nilS])]]:=rfl;apply qR;simp[zS,b5,bt,pr];apply qR;simp[zS,b5,bt,pr];apply qa3;simp[retVal,Tryz.f21,oneOr];refine⟨_,rfl,[(1,0)],[],?_,⟨by simp,by simp,by simp[Heap.ents],by simp,fun x hx h=>absurd h (jk _),by simp,fun e he=>?_,fun x hx=>by cases hx⟩⟩
 ·simp[qat,qaz,qb2,readCells]
 ·simp only[Heap.ents,je,js,jg,ju]at he;subst he;exact⟨1,_,by simp,rfl,by simp[qhp,qaz,qat,root0,Nd.cs,qbm,qal,qab]⟩
theorem new_at(m:Nat) (f:List (Nat × Blk)) (fs:List (List (Nat × Blk))):CA T 21 [] ⟨m,f::fs⟩ (.agg [.slc m 0 1 (.rest 7)]) ⟨m+1,((m,.cells root0.cs)::f)::fs⟩:=by
 have fh:FitH 0 [] [] ⟨m,f::fs⟩ zH:=⟨by simp,by simp,by simp[Heap.ents],fun x h=>(by cases h),fun x h=>(by cases h),jh _,fun e he=>by simp[Heap.ents]at he,fun x h=>by cases h⟩;have pr:qa9 root0.cs=true:=by simp[root0,Nd.cs,qbm,qal,qa9,qab]
 have:=(c21 (T:=T)).framed (args:=[]) (H:=⟨m,f::fs⟩) (H':=⟨m+1,((m,.cells root0.cs)::f)::fs⟩) fh (by simp[qaz]) ⟨by simp,fun nd lt=>?_,fun e he=>?_⟩ (by simp)
 ·simpa[qiu,qgr,qg9,qdr]using this
 ·simp only[Heap.ents,je,List.cons_append,jj,jr]at nd ⊢;refine⟨fun hx=>?_,nd⟩;obtain⟨e,he,hx⟩:=ji.1 hx;have:=lt e (by simpa[Heap.ents]using he);simp only at this;omega
 ·simp only[Heap.ents,je,List.cons_append,ja]at he;rcases he with rfl|he
  ·refine .inl ⟨(0,.cells root0.cs),by simp[Heap.ents],?_⟩;simp[qg9,qdr,qky,qbt _ pr]
  ·exact .inr ⟨by simpa[Heap.ents]using he,fun x hx=>by cases hx⟩
theorem tree_at(hT:MaT T) {t:Tr} (h:qbi t=true) (hv:LookOk (qbx t)) (hl:(qbx t).length<=900) (kTi:∀H,qb7 (ctx T) (.fn 20) [qak t] H=some (qak (qbx t),H)) :
  CA T 9 [qak t] zH (qak (qdw t)) zH:=by
 refine qa1 (s0:=⟨[0,1,2,3],[qak t,uD,uD,uD],[],11,⟨0,[[]]⟩⟩) Tryz.func9 rfl rfl rfl ?_;have kTi':∀H,qb7 (ctx T) (.fn 20) [.agg [qa8 t]] H=some (.agg [qa8 (qbx t)],H):=kTi;have bld:qgq PG 42 [(0,.agg [qa8 (qbx t)]),(1,.agg [.slc 2 0 1 (.rest 7)])]=some (.agg [qa8 (qbx t),.slc 2 0 1 (.rest 7),.nilS]):=rfl;have lay3:∀a b:AV,qho [a,b,.nilS] 0 [.nilS,.nilS,.nilS]=some [a,b,.nilS]:=fun _ _=>rfl;have hnew:=new_at (T:=T) 2 [(1,.cells [.nilS]),(0,.cells [qa8 t])] [];apply qR;simp[zS];repeat apply wq
 refine qai (qbo [⟨21,_,_,_,_,hnew⟩]) ?_;simp[zS,qcu,kTi',bld,qc3,lay3,allSingle,AV.single];refine WpSr.fit [(3,0),(2,1),(1,3)] [] (s':=(⟨[0,1,2,3],[uD,uD,.ptr 3 0,.ptr 0 0],[],11,⟨4,[[(3,.cells [.nilS])],mR (qbx t) 1 [root0] 2 none]⟩⟩ : St)) ⟨rfl,rfl,rfl,by simp[qaz,qat,qb2,qab],?_⟩ ?_
 ·refine⟨by simp,by simp,by simp[Heap.ents,mR,VE,mG,qe4,qa5],by simp,fun x hx hlt=>absurd hlt (jk _),by simp,fun e he=>?_,fun x hx=>by cases hx⟩;simp only[Heap.ents,je,js,jg,jl,ju]at he;rcases he with rfl|he
  ·exact⟨1,.cells [.nilS],by simp,by simp[zG],qaf rfl⟩
  ·rcases qv0 (by simp) e he with rfl|rfl|⟨P,hP,rfl⟩
   ·exact⟨3,.cells [qa8 (qbx t),.slc 2 0 1 (.rest 7),.nilS],by simp,by simp[zG],by simp[qhp,qaz,qat,qb2,mV,qbe (qdc (qbx t))]⟩
   ·exact⟨2,.cells root0.cs,by simp,by simp[zG],by simp only[jj,ye,qa5,jg,qhp];exact qaf (qf8 root0)⟩
   ·cases hP
 have hmo:MoOk [root0] 0:=⟨⟨by simp[root0],by simp[root0]⟩,fun n hn k hk=>by simp at hn;subst hn;simp[root0]at hk,by simp[root0]⟩;have hct:=qv4 h;have hk:=zh2 hT hv ((qbx t).length+2) 0 0 [root0] none 0 (zhz h) (y9 0) (by omega) (by simp) hmo ⟨by simp[mL],by simp[mL]⟩ (by simp[mL];omega) (by simp;omega) (by omega);obtain⟨m1,m2,m3⟩:=qqx hv ((qbx t).length+2) (mL none) 0 0 [root0] 0 (y9 0) (by omega) hmo (by simp);have hkc:=qhb (n:=4) (k:=1) (j:=2) (fr:=[(3,.cells [.nilS])]) hk (by simp[qaz,qat,qb2,qab]) (by omega) (by omega) (by omega) (by omega) (by omega) (by simp) (fun e=>by rw[e]at m2;simp at m2) (by simp);repeat apply wq
 refine qai (qbo [⟨22,_,_,_,_,hkc⟩]) ?_;simp[zS,qcu];have eN:qhs ((qbx t).length+2) (qbx t) (mL none) 0 0 [root0]=qdw t:=rfl;rw[eN]at m2 ⊢;have hne:qdw t≠[]:=fun e=>by rw[e]at m2;simp at m2
 have hne':(qdw t).map qa6≠[]:=by simpa using hne
 generalize qs1 none (zcn (qbx t) (mL none) ((qbx t).length+2) 0)=o2;have r1:=fun n=>zfs (v:=qbx t) (out:=qdw t) (k:=4) (j:=4+1) (o:=o2) (n:=n) (f:=[(3,.cells [.nilS])]) rfl;rw[qch hne']at r1;have g0:getF 0 (mR (qbx t) 4 (qdw t) 5 o2)=some (.cells [qa8 (qbx t),.slc 4 0 (qdw t).length (.rest 7),mV 5 o2]):=by rw[mR_0,qch hne',jJ]
 apply qR;simp[zS,g0,qc3];apply qa3;have g4:getF 4 (mR (qbx t) 4 (qdw t) 5 o2)=some (.cells (qa5 ((qdw t).map qa6))):=mR_k (by omega) (by omega) (by omega) hne;simp[retVal,Tryz.f9,oneOr,readCells,zG,Blk.rd];have hel:=qbk (qdw t);refine⟨[],[(4,qa5 ((qdw t).map qa6))],?_,{ nd1:=by simp,nd2:=by simp,nd3:=by simp[Heap.ents],lt:=by simp,idn:=by simp,num:=jh _,src:=by simp[Heap.ents],frz:=?_ }⟩
 ·have hl:=hel.len;rw[jJ]at hl;simp only[qak,qa8,qat,qaz,qca,if_true,and_true];exact .inl (.inl ⟨qa5 ((qdw t).map qa6),rfl,by unfold qek;rw[jF,<- hl,qcn],by simp,hel.size⟩)
 ·intro y hy;simp at hy;subst hy;exact⟨qa5 ((qdw t).map qa6),by simp[zG,g4],qaf (qqo _),qqo _⟩
@[simp]theorem szT43:qcg PG 43=some 1:=rfl
@[simp]theorem agT43:qi8 PG 43=some false:=rfl
@[simp]theorem byT43:qco PG 43=some 8:=rfl
@[simp]theorem alT43(H:Heap):alV PG H 43=some (.ptr H.n 0,H.new (.cells [.nilF])):=rfl
@[simp]theorem zeT43:qc1 PG 43=some (.nilF):=rfl
attribute [simp] Tryz.underlying43
@[simp 500]theorem rvF43(H:Heap) (cs:List AV) (o:Nat):qb3 PG H 43 (.fptr cs o)=qcy cs o:=rfl
@[simp 500]theorem rvP43(H:Heap) (b o:Nat):qb3 PG H 43 (.ptr b o)=(H.get b).bind fun k=>k.rd.bind fun cs=>qcy cs o:=rfl
def cR(t:Tr) (s:List Bool) (v:AV):List (Nat × Blk):=[(2,.cells [v]),(4,.cells [.slc 3 0 t.length (.ex t.length)]),(3,.cells (bls s)),(0,.cells [qa8 t]),(5,.cells [.func (.func 50) [] [.ptr 4 0,.ptr 2 0,.ptr 0 0,.ptr 5 0]])]
abbrev CpO:=Option (List AV × List Int × List Nd)
def cV(z:Nat):CpO->AV
 |none=>.nilS
 |some _=>.slc 6 0 z (.rest 7)
def zj9(b:Nat):CpO->List AV
 |none=>[]
 |some x=>x.1++(lA b x.2.1::qa5 (x.2.2.map qa6))
def cI:CpO->List (Nat × Blk)
 |none=>[]
 |some x=>[(6,.cells (zj9 7 (some x)))]
def cK:CpO->List (Nat × Blk)
 |none=>[]
 |some x=>lF 7 x.2.1
def cU(c:Nat):CpO->List AV
 |none=>[]
 |some x=>x.1++(.slc c 0 (x.2.1.length+1) (.rest 1)::qa5 (x.2.2.map qa6))
def cG(c z:Nat):CpO->List (Nat × Blk)
 |none=>[]
 |some x=>[(c,.cells (qcd (x.2.1++[(z:Int)])))]
def cOk(up:Int) (z:Nat):CpO->Prop
 |none=>up = -1/\z=0
 |some x=>qa9 x.1=true/\allSingle x.1=true/\(∃u:Nat,up=(u:Int)/\x.1.length=u * 7+6/\z=u+1+x.2.2.length)/\x.2.1.length<=100000
theorem cRow_len{up:Int} {z b:Nat} {o:CpO} (h:cOk up z o):(zj9 b o).length=z * 7:=by
 cases o with
 |none=>obtain⟨_,rfl⟩:=h;rfl
 |some x=>obtain⟨_,_,⟨u,_,h1,h2⟩,_⟩:=h;have:=(qbk x.2.2).len;simp only[zj9,jo,jx,this,jJ];omega
theorem cU_len{up:Int} {z b:Nat} {o:CpO} (h:cOk up z o):(cU b o).length=z * 7:=by
 cases o with
 |none=>obtain⟨_,rfl⟩:=h;rfl
 |some x=>obtain⟨_,_,⟨u,_,h1,h2⟩,_⟩:=h;have:=(qbk x.2.2).len;simp only[cU,jo,jx,this,jJ];omega
theorem zj8{up:Int} {z b:Nat} {o:CpO} (h:cOk up z o):allSingle (cU b o)=true:=by
 cases o with
 |none=>rfl
 |some x=>
  obtain⟨_,h2,_⟩:=h;have e:allSingle (AV.slc b 0 (x.2.1.length+1) (.rest 1)::qa5 (x.2.2.map qa6))=true:=by show allSingle (qa5 (x.2.2.map qa6))=true;exact qjr _
  simp only[cU,qd1,h2,e];rfl
theorem cU_fit{up:Int} {z b c:Nat} {o:CpO} {σ:List (Nat × Nat)} {Φ:List (Nat × List AV)} (h:cOk up z o) (hl:qb2 b σ=some c):qaz σ Φ (cU b o) (cU c o):=by
 cases o with
 |none=>trivial
 |some x=>obtain⟨h1,_⟩:=h;exact qdv (qaf h1) ⟨by simp[qat,hl],qaf (qbk _).pure⟩
theorem app_cp{t:Tr} {s:List Bool} {up:Int} {z:Nat} {nc:List AV} {o:CpO} (ho:cOk up z o) (hnl:nc.length=7) (hns:allSingle nc=true) (hz:z<=100000) :
  qby PG ⟨10,[(9,.cells nc)::(8,.cells nc)::(cR t s (cV z o)++cI o),cK o]⟩ 34 (cV z o) (.slc 9 0 1 (.ex 1)) =
   some (.slc 10 0 (z+1) (.rest 7),⟨11,[(10,.cells (zj9 7 o++nc))::(9,.cells nc)::(8,.cells nc)::cR t s (cV z o),cK o]⟩):=by
 have hrow:∀cs,qpi PG 34 cs=.cells cs:=by intro cs;rfl
 have htk:qef 7 nc=some nc:=by rw[<- hnl];exact qcn nc
 obtain⟨by_,hby⟩ : ∃b,qco PG 34=some b:=⟨_,qzs⟩;have hbv:0 < by_/\by_<=1000:=by have:=hby.symm.trans qzs;simp at this;omega
 obtain⟨zz,hzz,hzl⟩ : ∃b,qc1 PG 34=some b/\b.cells.length=7:=⟨_,zei,rfl⟩;have hb1:Nat.blt 0 by_=true:=by simp;omega
 have hpl:=cRow_len (b:=7) ho;cases o with
 |none=>
  obtain⟨_,rfl⟩:=ho;have hr:qcf 1 by_=true:=by unfold qcf;rw[jN];omega
  unfold qby;simp[cV,cI,cK,zj9,qvr,hby,hzz,hzl,qc7,hb1,hr,qbb,readCells,zG,qek,htk,hnl,hrow,Heap.new,pushF]
 |some x=>
  generalize hq:zj9 7 (some x)=pre at *;have hr:qcf (z+1) by_=true:=by unfold qcf;rw[jN];have:(z+1) * by_<=100001 * 1000:=Nat.mul_le_mul (by omega) hbv.2;omega
  have h2:Nat.ble ((z+1) * 7) (z * 7)=false:=by rw[<- Bool.not_eq_true,jN];omega
  have htp:qef (z * 7) pre=some pre:=by rw[<- hpl];exact qcn pre
  have hI:cI (some x)=[(6,.cells pre)]:=by rw[<- hq];rfl
  rw[hI];unfold qby;simp[cV,cR,qvr,hby,hzz,hzl,qc7,hb1,hr,qbb,readCells,zG,qek,htk,hnl,hrow,Heap.new,pushF,hns,qck,hpl,h2,htp,Heap.drop,qem,killF]
def cH(t:Tr) (s:List Bool) (zz:Nat) (row:List AV) (g:List (Nat × Blk)):List (Nat × Blk):=cR t s (.slc 8 0 zz (.rest 7))++((8,.cells row)::g)
theorem qrq{t:Tr} {s:List Bool} {zz z:Nat} {up:Int} {o:CpO} (ho:cOk up z o) {H:Heap} {a b c:Nat} {hd:List AV} {L:List Int} {D:List Nd} {v6:AV} (hhd:qa9 hd=true)
  (hv6:v6=lA b L\/(v6=.nilS/\L=[])) (h1:a≠b/\a≠c/\b≠c/\a ∉ [0,2,3,4,5]/\b ∉ [0,2,3,4,5]/\c ∉ [0,2,3,4,5])
  (ga:H.get a=some (.cells (cU c o++(hd++(v6::qa5 (D.map qa6)))))) (g2:H.get 2=some (.cells [.slc a 0 zz (.rest 7)])) (g4:H.get 4=some (.cells [.slc 3 0 t.length (.ex t.length)])) (g3:H.get 3=some (.cells (bls s)))
  (g0:H.get 0=some (.cells [qa8 t])) (g5:H.get 5=some (.cells [.func (.func 50) [] [.ptr 4 0,.ptr 2 0,.ptr 0 0,.ptr 5 0]])) (gb:L≠[]->H.get b=some (.cells (qcd L))) (gc:∀y:List AV × List Int × List Nd,o=some y->H.get c=some (.cells (qcd (y.2.1++[(z:Int)])))) :
  FitH 8 [(a,8),(b,11),(c,9),(0,0),(2,2),(3,3),(4,4),(5,5)] [] H ⟨12,[cH t s zz (cU 9 o++(hd++(lA 11 L::qa5 (D.map qa6)))) (cG 9 z o),lF 11 L]⟩ where
 nd1:=by obtain⟨h1,h2,h3,h4,h5,h6⟩:=h1;simp at h4 h5 h6;simp;omega
 nd2:=by simp
 nd3:=by
  have hL:lF 11 L=[]\/lF 11 L=[(11,.cells (qcd L))]:=by
   by_cases hL:L=[]
   ·subst hL;exact .inl rfl
   ·exact .inr (qhh hL)
  cases o<;>rcases hL with hL|hL<;>simp[Heap.ents,hL,cH,cR,cG]
 lt:=by simp
 idn:=by simp
 num:=by simp
 src:=by
  intro e he;have hN:=qdc t;simp only[Heap.ents,cH,cR,je,js,jg,ja,jl,jL,or_false]at he;rcases he with((rfl|rfl|rfl|rfl|rfl)|rfl|he)|he
  ·exact⟨2,_,by simp,g2,by simp[qhp,qaz,qat,qb2]⟩
  ·obtain⟨k1,k2,k3,k4,k5,k6⟩:=h1;simp at k4 k5 k6;have m1:¬ a=3:=(by omega);have m2:¬ b=3:=(by omega);have m3:¬ c=3:=(by omega);exact⟨4,_,by simp,g4,by simp[qhp,qaz,qat,qb2,m1,m2,m3]⟩
  ·exact⟨3,_,by simp,g3,qaf (qeg s)⟩
  ·exact⟨0,_,by simp,g0,qaf (by simp[qa9])⟩
  ·obtain⟨k1,k2,k3,k4,k5,k6⟩:=h1;simp at k4 k5 k6;exact⟨5,_,by simp,g5,by simp[qhp,qaz,qat,qb2,k4,k5,k6]⟩
  ·refine⟨a,_,by simp,ga,?_⟩;have hlc:qb2 c [(a,8),(b,11),(c,9),(0,0),(2,2),(3,3),(4,4),(5,5)]=some 9:=(by have m1:¬ a=c:=h1.2.1;have m2:¬ b=c:=h1.2.2.1;simp[qb2,m1,m2]);refine qdv (cU_fit ho hlc) (qdv (qaf hhd) ⟨?_,qaf (qbk _).pure⟩);by_cases hL:L=[]
   ·subst hL;rcases hv6 with rfl|⟨rfl,_⟩<;>simp[lA,qdo,qcd,qat]
   ·rcases hv6 with rfl|⟨_,h⟩
    ·rw[qnb hL,qnb hL];have:¬ a=b:=h1.1;simp[qat,qb2,this]
    ·exact absurd h hL
  ·cases o with
   |none=>cases he
   |some x=>simp[cG]at he;subst he;exact⟨c,_,by simp,gc x rfl,by simp only[qhp];exact qaf (qbj _)⟩
  ·by_cases hL:L=[]
   ·subst hL;cases he
   ·rw[qhh hL]at he;simp at he;subst he;exact⟨b,_,by simp,gb hL,qaf (qbj L)⟩
 frz:=fun y hy=>by cases hy
theorem cp_fitE{t:Tr} {s:List Bool} {zz z:Nat} {up:Int} {o:CpO} (ho:cOk up z o) {L:List Int} {x:Nd} {pu:Int} {D:List Nd} {H:Heap}
  (g8:H.get 8=some (.cells (cU 9 o++([qbm x.kind,qbm x.space,.str x.name,qal x.attrs,.str x.data,qbm pu]++(lA 11 L::qa5 (D.map qa6)))))) (g2:H.get 2=some (.cells [.slc 8 0 zz (.rest 7)])) (g4:H.get 4=some (.cells [.slc 3 0 t.length (.ex t.length)])) (g3:H.get 3=some (.cells (bls s)))
  (g0:H.get 0=some (.cells [qa8 t])) (g5:H.get 5=some (.cells [.func (.func 50) [] [.ptr 4 0,.ptr 2 0,.ptr 0 0,.ptr 5 0]])) (gb:L≠[]->H.get 11=some (.cells (qcd L))) (gc:∀y:List AV × List Int × List Nd,o=some y->H.get 9=some (.cells (qcd (y.2.1++[(z:Int)])))) :
  ∃σ Φ,qat σ Φ (.tup []) (.tup [])/\FitH 8 σ Φ H ⟨10,[cH t s zz (cU 9 o++qa5 ((({ x with up:=pu,kids:=L }:Nd)::D).map qa6)) (cG 9 z o)]⟩:=by
 have key:∀Φ,(Φ=[]\/(Φ=[(11,qcd L)]/\L≠[]))->qat [(8,8),(9,9),(0,0),(2,2),(3,3),(4,4),(5,5)] Φ (lA 11 L) (qbl L)->FitH 8 [(8,8),(9,9),(0,0),(2,2),(3,3),(4,4),(5,5)] Φ H ⟨10,[cH t s zz (cU 9 o++qa5 ((({ x with up:=pu,kids:=L }:Nd)::D).map qa6)) (cG 9 z o)]⟩:=fun Φ hΦ hv=>{
  nd1:=by rcases hΦ with rfl|⟨rfl,_⟩<;>simp
  nd2:=by simp
  nd3:=by cases o<;>simp[Heap.ents,cH,cR,cG]
  lt:=by simp
  idn:=by simp
  num:=by simp
  src:=by
   intro e he;have hN:=qdc t;simp only[Heap.ents,cH,cR,je,js,jg,ja,jl,jL,or_false]at he;rcases he with(rfl|rfl|rfl|rfl|rfl)|rfl|he
   ·exact⟨2,_,by simp,g2,by simp[qhp,qaz,qat,qb2]⟩
   ·exact⟨4,_,by simp,g4,by simp[qhp,qaz,qat,qb2]⟩
   ·exact⟨3,_,by simp,g3,qaf (qeg s)⟩
   ·exact⟨0,_,by simp,g0,qaf (by simp[qa9])⟩
   ·exact⟨5,_,by simp,g5,by simp[qhp,qaz,qat,qb2]⟩
   ·refine⟨8,_,by simp,g8,?_⟩;refine qdv (cU_fit ho (by simp[qb2])) ?_;show qaz _ _ _ ([qbm x.kind,qbm x.space,.str x.name,qal x.attrs,.str x.data,qbm pu]++(qbl L::qa5 (D.map qa6)));exact qdv (qaf (by simp[qa9,qab,qbm])) ⟨hv,qaf (qbk D).pure⟩
   ·cases o with
    |none=>cases he
    |some x=>simp[cG]at he;subst he;exact⟨9,_,by simp,gc x rfl,by simp only[qhp];exact qaf (qbj _)⟩
  frz:=fun y hy=>by
   rcases hΦ with rfl|⟨rfl,hL⟩
   ·cases hy
   ·simp at hy;subst hy;exact⟨qcd L,gb hL,qaf (qbj L),qbj L⟩ }
 by_cases hL:L=[]
 ·exact⟨_,[],by simp[qat,qaz],key [] (.inl rfl) (by subst hL;simp[lA,qdo,qcd,qat])⟩
 ·refine⟨_,[(11,qcd L)],by simp[qat,qaz],key _ (.inr ⟨rfl,hL⟩) ?_⟩;rw[qnb hL];simp only[qat,qca,if_true];refine .inl ⟨_,rfl,?_,by simp,(qgx L).size⟩;have h2:(qcd L).length=L.length:=by simp[qcd]
  show qek 0 (L.length * 1) (qcd L)=some (qa5 (qcd L));rw[qey,y8,<- h2];unfold qek;rw[jF,qcn]
