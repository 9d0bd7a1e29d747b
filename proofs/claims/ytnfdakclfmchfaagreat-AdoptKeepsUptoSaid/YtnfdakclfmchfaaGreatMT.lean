/- ref16.Push. No condition. -/
import Derived.Test.YtnfdakclfmchfaaGreatMR
namespace Go.Proofs.YtnfdakclfmchfaaGreat
noncomputable section
set_option linter.unusedSimpArgs false
set_option linter.unusedVariables false
open Go Go.RowKit
set_option maxRecDepth 100000
variable {T:List (Entry Tryz.prog)}
theorem c95(hP:qIn 177 T e177) (hS:qIn 93 T e93)
  {m pb k:Nat} {pre post:List AV} {g:List (Nat × Blk)} {t:Tr} (h:Eok m pb pre k 7 (t.map qa9) post g) (hne:t≠[]) (hk:∀n,n∈t->n.kids.length<=1000000) (i:Int) :
  CA T 95 [.ptr pb pre.length,.int .i64 i] ⟨m,[VE pb pre k 7 (t.map qa9) post g]⟩ (.tup []) ⟨m,[VE pb pre k 7 ((qec t i).map qa9) post g]⟩:=by
 have hne':t.map qa9≠[]:=by simpa using hne
 have nf:∀j,j < m->getF j ([]:List (Nat × Blk))=none:=fun _ _=>rfl;have rdT:=fun n=>(qcs (n:=n) h nf).1;have rdN:=fun n=>(qcs (n:=n) h nf).2;have hkg:∀n,Heap.get ⟨n,[[],VE pb pre k 7 (t.map qa9) post g]⟩ k=some (.cells (qaa (t.map qa9))):=fun n=>by simp only[Heap.get,getFs];rw[nf k h.lk.1,qso h hne']
 have kp:=fun n=>q177 hP (qcx hne (hkg n)) hk i;by_cases hp:0<=qd6 t i
 ·have hp0:=hp;unfold qd6 at hp;split at hp
  case isFalse=>omega
  rename_i hb;obtain⟨i0,i1⟩:=isB_iff.1 hb.1;obtain⟨u0,u1⟩:=isB_iff.1 hb.2;have hpe:qd6 t i=atP (qa0 t (qa0 t i).up).kids i:=by unfold qd6;rw[jo hb]
  obtain⟨I,rfl⟩:=jy i0;obtain⟨u,hu⟩:=jy u0;obtain⟨a,ha⟩:=jy hp0;obtain⟨A,D,hAD,hA⟩:=quh (hpe.symm.trans ha);rw[hu]at hAD u1;have hI:I < t.length:=by omega
  have hU:u < t.length:=by omega
  have hkU:=hk _ (qdo (t:=t) (i:=(u:Int)) (by omega) (by omega));rw[hAD]at hkU;have ecut:cutK t (I:Int)=setKids t u (A++D):=by unfold cutK;rw[jo hp0,hu,ha,hAD];simp only[jr];rw[qsc,<- hA,List.take_left' rfl,show A.length+1=(A++[(I:Int)]).length by simp,show A++(I:Int)::D=(A++[(I:Int)])++D by simp,yX]
  have gu:=get_up hI;have gk:=qif hU;rw[hu]at gu;rw[hAD]at gk;have ixI:qaq PG 35 (qce k 7 (t.map qa9)) (.int .i64 (I:Int))=some (.ptr k (I * 7)):=by rw[qbr hne'];simp[qaq,qbn hI]
  have ixU:qaq PG 35 (qce k 7 (t.map qa9)) (.int .i64 (u:Int))=some (.ptr k (u * 7)):=by rw[qbr hne'];simp[qaq,qbn hU]
  have rdU:∀n,qb2 PG ⟨n,[[],VE pb pre k 7 (t.map qa9) post g]⟩ 3 (.ptr k (I * 7+5))=some (.int .i64 (u:Int)):=fun n=>by simp[hkg,gu]
  have rdK:∀n,qb2 PG ⟨n,[[],VE pb pre k 7 (t.map qa9) post g]⟩ 38 (.ptr k (u * 7+6))=some (qa8 (A++(I:Int)::D)):=fun n=>by simp[hkg,gk]
  have hw:=fun n=>qh8 (n:=n) h hU (A++D) nf;rw[ha]at kp;obtain⟨K,hK⟩ : ∃K,K=A++(I:Int)::D:=⟨_,rfl⟩;have hKl:K.length<=1000000:=by rw[hK];exact hkU
  have hEr:K.eraseIdx a=A++D:=by rw[hK,<- hA,qsc,List.take_left' rfl,show A.length+1=(A++[(I:Int)]).length by simp,show A++(I:Int)::D=(A++[(I:Int)])++D by simp,yX]
  have hfO:∀(O:List Int) (i:Nat),i < m->getF i (qcg m (qay O))=none:=fun O i hi=>by cases O<;>simp[qcg,qay,getF,qax (show m≠i by omega)]
  have rdNO:=fun n O=>(qcs (n:=n) h (hfO O)).2;have hkgO:∀n O,Heap.get ⟨n,[qcg m (qay O),VE pb pre k 7 (t.map qa9) post g]⟩ k=some (.cells (qaa (t.map qa9))):=fun n O=>by simp only[Heap.get,getFs];rw[hfO O k h.lk.1,qso h hne']
  rw[<- hK]at gk;have rdKO:∀n O,qb2 PG ⟨n,[qcg m (qay O),VE pb pre k 7 (t.map qa9) post g]⟩ 38 (.ptr k (u * 7+6))=some (qa8 K):=fun n O=>by simp[hkgO,gk]
  refine qa1 (s0:=⟨[0,1,4,5,6,7],[.ptr pb pre.length,.int .i64 (I:Int),uD,uD,uD,uD],[],77,⟨m,[]::[VE pb pre k 7 (t.map qa9) post g]⟩⟩) Tryz.func95 rfl rfl rfl ?_;apply qR;simp[zS,rdT,kp];apply qR;simp[zS];apply qag rfl;apply qR;simp[zS,rdN,ixI,rdU];apply qR;simp[zS];apply qR;simp[zS];refine qa3 (qb6 (fun j:Nat=>(⟨[0,1,4,5,6,7],[.ptr pb pre.length,.int .i64 (I:Int),.int .i64 (a:Int),.int .i64 (u:Int),qce m 1 (qay ((K.take j).eraseIdx a)),.int .i64 (j:Int)],[],77,⟨m+1,[qcg m (qay ((K.take j).eraseIdx a)),VE pb pre k 7 (t.map qa9) post g]⟩⟩ : St))
   (fun j=>j<=K.length) (fun j=>K.length - j) ((m,m)::idn m) [] 0 (jx _)
   ⟨rfl,rfl,rfl,by simp[qb8,qas,qaw,qcm h.lp,qa2,qce,qay,qcn],qvh h (ja m) [] (fun h=>absurd rfl h) (zct h nf)⟩ ?_)
  rintro j hj B hB;obtain⟨O,hO⟩ : ∃O,O=(K.take j).eraseIdx a:=⟨_,rfl⟩;have hOl:O.length<=K.length:=by rw[hO];exact j6 (Jt _ _) (by simp;omega)
  by_cases hj2:j < K.length
  ·have hst:=cutW_at (a:=a) hj2;rw[<- hO]at hst ⊢;have hix:=atIx hj2;generalize K[j]=c at *;have hn:(j:Int) < (K.length:Int):=(by omega);apply qR;simp[zS,rdNO,ixU,rdKO,qgi,hn,hj2];apply qag rfl;apply qa5;simp;repeat apply wq
   apply qa3;by_cases q:j=a
   ·rw[jo q,jh]at hst;have qi:(j:Int)=(a:Int):=(by omega);apply qR;simp[zS];refine qaj (by simp[qc5,St.get,q]) ?_;apply qa5;simp;apply qR;simp[zS,qbb (show j<=1000000000 by omega)];refine hB _ (j+1) (by omega) (by omega) ?_;simp only[hst];exact⟨(m,m)::idn m,[],rfl,rfl,rfl,by simp[qb8,qas,qaw,qcm h.lp,qa2,qcn],qvh h (ja m) O (fun hne=>by simp only[Heap.get,getFs];rw[qd4 (by simp[qay,hne]),qbf];simp[getF]) (zct h (hfO O))⟩
   ·rw[jm q]at hst;have qi:¬ (j:Int)=(a:Int):=(by omega);apply qR;simp[zS,qi,q];refine qag (by simp[qc5,St.get,q]) ?_;have happ:=qf0 (P:=PG) (elem:=3) (b:=m) (t:=m+1) (m:=m+2) (es:=qay O) (cs:=[.int .i64 c]) (g:=[]) (fs:=[VE pb pre k 7 (t.map qa9) post g]) qhz qk2 qjw rfl (by omega) (by omega) rfl rfl (qca _) (by rw[qcc];omega) (by omega) (by simp) (fun e he=>by have:=(qix h e (by simpa using he)).1;omega);simp only[jh]at happ;apply qR;simp[zS,rdNO,ixU,rdKO,hix,happ];apply qR;simp[zS,qbb (show j<=1000000000 by omega)];refine hB _ (j+1) (by omega) (by omega) ⟨(m+2,m)::idn m,[],rfl,rfl,rfl,?_,?_⟩
    ·rw[hst,qbr (es:=qay (O++[c])) (by simp[qay])];simp[qb8,qas,qaw,qcm h.lp,qa2,qay];have:=h.lp;omega
    ·rw[hst];exact qvh h (by omega) (O++[c]) (fun _=>by simp[zG,qay,qat]) (zct h fun i hi=>by simp[getF,qax (show m+2≠i by omega),qax (show m+1≠i by omega)])
  ·have ej:j=K.length:=(by omega);have hOe:O=A++D:=(by rw[hO,ej,yx,hEr]);rw[<- hO];have hn:¬ (j:Int) < (K.length:Int):=(by omega);apply qR;simp[zS,rdNO,ixU,rdKO,qgi,hn,hj2];apply qaj rfl;apply qak;simp;refine .fit (idn m) (frzΦ m O) (s':=(⟨[0,1,4,5,6,7],[.ptr pb pre.length,.int .i64 (I:Int),.int .i64 (a:Int),.int .i64 (u:Int),qa8 O,.int .i64 (j:Int)],[],77,⟨m,[[],VE pb pre k 7 (t.map qa9) post g]⟩⟩ : St)) ⟨rfl,rfl,rfl,?_,fit_frz h (ja m) (ja m) (ja m) O⟩ ?_
   ·refine⟨?_,?_⟩
    ·simp[qas,qcm h.lp]
    ·exact⟨qbo rfl,qbo rfl,qbo rfl,fitV_frz m O,qbo rfl,by simp[qb8]⟩
   have hbI:=hb.1;rw[hOe];apply qR;simp[zS,rdN,ixU,hw];have hX:=h.mono (ja m) (qbg (setKids t u (A++D)));have lX:(setKids t u (A++D)).length=t.length:=(by rw[<- ecut];exact qhx t _);have hXne:(setKids t u (A++D))≠[]:=(by intro e;rw[e]at lX;exact hne (jO.1 lX.symm));have hXne':(setKids t u (A++D)).map qa9≠[]:=(by simpa using hXne);have hkgX:∀n,Heap.get ⟨n,[[],VE pb pre k 7 ((setKids t u (A++D)).map qa9) post g]⟩ k=some (.cells (qaa ((setKids t u (A++D)).map qa9))):=fun n=>(by simp only[Heap.get,getFs];rw[nf k hX.lk.1,qso hX hXne']);have rdTX:=fun n=>(qcs (n:=n) hX nf).1;have rdNX:=fun n=>(qcs (n:=n) hX nf).2;have ksX:=fun n=>q93 hS (qcx hXne (hkgX n)) (I:Int);have bX:isB (setKids t u (A++D)) (I:Int)=isB t (I:Int):=(by simp only[isB,lX]);simp only[bX,hbI]at ksX;have hJX:I < (setKids t u (A++D)).length:=(by have:=(isB_iff.1 hbI).2;rw[lX];omega);have ixX:qaq PG 35 (qce k 7 ((setKids t u (A++D)).map qa9)) (.int .i64 (I:Int))=some (.ptr k (I * 7)):=(by rw[qbr hXne'];have:=qbn hJX;simp[qaq,this]);by_cases hz:I=0
   ·have ec:qec t (I:Int)=setKids t u (A++D):=(by unfold qec;rw[jm (by simp[hz])];exact ecut);rw[ec];apply qR;simp[zS,rdTX,ksX];refine qaj (by simp[qc5,St.get,hz]) ?_;apply qa5;simp;refine⟨[],rfl,_,_,by simp[oneOr,qas,qb8,qa6],qcv hX (ja m) (ja m) fun _ _=>rfl⟩
   ·have ec:qec t (I:Int)=setUp (setKids t u (A++D)) I (-1):=(by unfold qec;rw[jo ⟨by omega,hbI⟩,ecut];rfl);have hwX:=fun n=>qho (n:=n) hX hJX (-1) nf;have hU2:=hX.mono (ja m) (qbg (setUp (setKids t u (A++D)) I (-1)));rw[ec];apply qR;simp[zS,rdTX,ksX,hz];apply qag rfl;apply qR;simp[zS,rdNX,ixX,hwX];refine⟨[],rfl,_,_,by simp[oneOr,qas,qb8,qa6],qcv hU2 (ja m) (ja m) fun _ _=>rfl⟩
 ·have ecut:cutK t i=t:=by unfold cutK;rw[jm hp]
  have hp':¬ (0:Int)<=qd6 t i:=hp;refine qa1 (s0:=⟨[0,1,4,5,6,7],[.ptr pb pre.length,.int .i64 i,uD,uD,uD,uD],[],77,⟨m,[]::[VE pb pre k 7 (t.map qa9) post g]⟩⟩) Tryz.func95 rfl rfl rfl ?_;apply qR;simp[zS,rdT,kp];apply qR;simp[zS,hp];refine qaj (by simp[qc5,St.get,hp]) ?_;apply qa5;simp;rcases yy (isB t i)with hbI|hbI
  ·obtain⟨J,rfl⟩:=jy (isB_iff.1 hbI).1;have hX:=h;have hXne:=hne;have hXne':=hne';have hkgX:=hkg;have rdTX:=rdT;have rdNX:=rdN;have lX:t.length=t.length:=rfl;have ksX:=fun n=>q93 hS (qcx hXne (hkgX n)) (J:Int);simp only[hbI]at ksX;have hJX:J < (t).length:=(by have:=(isB_iff.1 hbI).2;rw[lX];omega);have ixX:qaq PG 35 (qce k 7 ((t).map qa9)) (.int .i64 (J:Int))=some (.ptr k (J * 7)):=(by rw[qbr hXne'];have:=qbn hJX;simp[qaq,this]);by_cases hz:J=0
   ·have ec:qec t (J:Int)=t:=(by unfold qec;rw[jm (by simp[hz])];exact ecut);rw[ec];apply qR;simp[zS,rdTX,ksX];refine qaj (by simp[qc5,St.get,hz]) ?_;apply qa5;simp;refine⟨[],rfl,_,_,by simp[oneOr,qas,qb8,qa6],qcv hX (ja m) (ja m) fun _ _=>rfl⟩
   ·have ec:qec t (J:Int)=setUp (t) J (-1):=(by unfold qec;rw[jo ⟨by omega,hbI⟩,ecut];rfl);have hwX:=fun n=>qho (n:=n) hX hJX (-1) nf;have hU2:=hX.mono (ja m) (qbg (setUp (t) J (-1)));rw[ec];apply qR;simp[zS,rdTX,ksX,hz];apply qag rfl;apply qR;simp[zS,rdNX,ixX,hwX];refine⟨[],rfl,_,_,by simp[oneOr,qas,qb8,qa6],qcv hU2 (ja m) (ja m) fun _ _=>rfl⟩
  ·skip
   have hX:=h;have hXne:=hne;have hXne':=hne';have hkgX:=hkg;have rdTX:=rdT;have rdNX:=rdN;have lX:t.length=t.length:=rfl;have ksX:=fun n=>q93 hS (qcx hXne (hkgX n)) i;simp only[hbI]at ksX;have ec:qec t i=t:=(by unfold qec;rw[jm (by simp[hbI])];exact ecut);rw[ec];by_cases hz:i=0
   ·apply qR;simp[zS,rdTX,ksX];apply qaj rfl;apply qa5;simp;refine⟨[],rfl,_,_,by simp[oneOr,qas,qb8,qa6],qcv hX (ja m) (ja m) fun _ _=>rfl⟩
   ·apply qR;simp[zS,rdTX,ksX];apply qaj rfl;apply qa5;simp;refine⟨[],rfl,_,_,by simp[oneOr,qas,qb8,qa6],qcv hX (ja m) (ja m) fun _ _=>rfl⟩
theorem inj_LNI(x y:List Int × Nat × Int) (h:[qa8 x.1,.int .i64 (x.2.1:Int),.int .i64 x.2.2]=[qa8 y.1,.int .i64 (y.2.1:Int),.int .i64 y.2.2]):x=y:=by simp only[jl,jJ,AV.int.injEq,yc]at h;obtain⟨h1,h2,h3⟩:=h;have e:=qou x.1 y.1 (by rw[h1]);exact yv e (yv (by omega) h3)
def e96:Entry PG:=mkE 96 [[1],[],[]] (fun x:List Int × Nat × Int=>[qa8 x.1,.int .i64 (x.2.1:Int),.int .i64 x.2.2]) (fun x=>x.1.length<=1000000/\x.2.1<=x.1.length) (fun x=>qa8 (qdb x.1 x.2.1 x.2.2)) fun x h=>c96 (T:=[]) x.1 h.1 x.2.1 h.2 x.2.2
theorem k96(hT:qIn 96 T e96) {L:List Int} {a:Nat} (x:Int) (hl:L.length<=1000000) (ha:a<=L.length) (H:Heap):qb5 (ctx T) (.fn 96) [qa8 L,.int .i64 (a:Int),.int .i64 x] H=some (qa8 (qdb L a x),H):=
 qds hT inj_LNI (L,a,x) ⟨hl,ha⟩ (by simp[qa6,qa2]) (by simp[qbl,qam,okV,qa2]) H
theorem c31(hP:qIn 177 T e177) (hS:qIn 93 T e93) (hH:qIn 94 T e94) (hW:qIn 96 T e96)
  {m pb k:Nat} {pre post:List AV} {g:List (Nat × Blk)} {t:Tr} (h:Eok m pb pre k 7 (t.map qa9) post g) (hne:t≠[]) (ht:t.length<=1000000) (hk:qcf t 999999) (up at_ kid:Int) :
  CA T 31 [.ptr pb pre.length,.int .i64 up,.int .i64 at_,.int .i64 kid] ⟨m,[VE pb pre k 7 (t.map qa9) post g]⟩ (.tup []) ⟨m,[VE pb pre k 7 ((qgh t up at_ kid).map qa9) post g]⟩:=by
 have hne':t.map qa9≠[]:=by simpa using hne
 have nf:∀j,j < m->getF j ([]:List (Nat × Blk))=none:=fun _ _=>rfl;have rdT:=fun n=>(qcs (n:=n) h nf).1;have hkg:∀n,Heap.get ⟨n,[[],VE pb pre k 7 (t.map qa9) post g]⟩ k=some (.cells (qaa (t.map qa9))):=fun n=>by simp only[Heap.get,getFs];rw[nf k h.lk.1,qso h hne']
 have ksi:=fun n=>q93 hS (qcx hne (hkg n)) kid;have ksu:=fun n=>q93 hS (qcx hne (hkg n)) up;have kh:=fun n=>q94 hH (qcx hne (hkg n)) ht kid up;by_cases hok:qi9 t up kid=true
 case neg=>
  have e:qgh t up at_ kid=t:=by unfold qgh;rw[jm hok]
  rw[e];cases bu:isB t up with
  |false=>rw[bu]at ksu;refine qa1 (s0:=⟨[0,1,2,3,8],[.ptr pb pre.length,.int .i64 up,.int .i64 at_,.int .i64 kid,uD],[],69,⟨m,[]::[VE pb pre k 7 (t.map qa9) post g]⟩⟩) Tryz.func31 rfl rfl rfl ?_;apply qR;simp[zS,rdT,ksu];apply qag rfl;apply qa7;simp[zQ,Tryz.f31];exact⟨_,_,by simp[qas,qb8,qa6],qcv h (ja m) (ja m) fun _ _=>rfl⟩
  |true=>cases bi:isB t kid with
   |false=>rw[bu]at ksu;rw[bi]at ksi;refine qa1 (s0:=⟨[0,1,2,3,8],[.ptr pb pre.length,.int .i64 up,.int .i64 at_,.int .i64 kid,uD],[],69,⟨m,[]::[VE pb pre k 7 (t.map qa9) post g]⟩⟩) Tryz.func31 rfl rfl rfl ?_;apply qR;simp[zS,rdT,ksu,ksi];apply qag rfl;apply qa7;simp[zQ,Tryz.f31];exact⟨_,_,by simp[qas,qb8,qa6],qcv h (ja m) (ja m) fun _ _=>rfl⟩
   |true=>
    by_cases h0:kid=0
    ·subst h0;rw[bu]at ksu;rw[bi]at ksi;refine qa1 (s0:=⟨[0,1,2,3,8],[.ptr pb pre.length,.int .i64 up,.int .i64 at_,.int .i64 0,uD],[],69,⟨m,[]::[VE pb pre k 7 (t.map qa9) post g]⟩⟩) Tryz.func31 rfl rfl rfl ?_;apply qR;simp[zS,rdT,ksu,ksi];apply qag rfl;apply qa7;simp[zQ,Tryz.f31];exact⟨_,_,by simp[qas,qb8,qa6],qcv h (ja m) (ja m) fun _ _=>rfl⟩
    ·have bh:qft t kid up=true:=(by simpa[qi9,bu,bi,h0]using hok);rw[bu]at ksu;rw[bi]at ksi;rw[bh]at kh;refine qa1 (s0:=⟨[0,1,2,3,8],[.ptr pb pre.length,.int .i64 up,.int .i64 at_,.int .i64 kid,uD],[],69,⟨m,[]::[VE pb pre k 7 (t.map qa9) post g]⟩⟩) Tryz.func31 rfl rfl rfl ?_;apply qR;simp[zS,rdT,ksu,ksi,kh,h0];apply qag rfl;apply qa7;simp[zQ,Tryz.f31];exact⟨_,_,by simp[qas,qb8,qa6],qcv h (ja m) (ja m) fun _ _=>rfl⟩
 case pos=>
  have ep:qgh t up at_ kid=setUp (setKids (qec t kid) up.toNat (qgx (qa0 (qec t kid) up).kids at_ kid)) kid.toNat up:=by unfold qgh;rw[jo hok]
  rw[ep];simp only[qi9,jf,yn,yh]at hok;obtain⟨⟨⟨bu,bi⟩,h0⟩,bh⟩:=hok;rw[bu]at ksu;rw[bi]at ksi;rw[bh]at kh;have hcut:=(c95 (T:=T) hP hS h hne (fun n hn=>j6 (hk n hn) (by omega)) kid).perm (H2:=⟨m,[[],VE pb pre k 7 (t.map qa9) post g]⟩) (H2':=⟨m,[[],VE pb pre k 7 ((qec t kid).map qa9) post g]⟩) rfl rfl (by simp[Heap.ents]) (by simp[Heap.ents]);have lX:=qf7 t kid;have kX:=zc9 hk kid;generalize qec t kid=X at *;obtain⟨u,rfl⟩:=jy (isB_iff.1 bu).1;obtain⟨i,rfl⟩:=jy (isB_iff.1 bi).1;have hu:u < X.length:=by have:=(isB_iff.1 bu).2;omega
  have hi:i < X.length:=by have:=(isB_iff.1 bi).2;omega
  simp only[jr];have hX:=h.mono (ja m) (qbg X);have hXne:X≠[]:=by intro e;rw[e]at lX;exact hne (jO.1 lX.symm)
  have hXne':X.map qa9≠[]:=by simpa using hXne
  have hkgX:∀n (f:List (Nat × Blk)),(∀j,j < m->getF j f=none)->Heap.get ⟨n,[f,VE pb pre k 7 (X.map qa9) post g]⟩ k=some (.cells (qaa (X.map qa9))):=fun n f hf=>by simp only[Heap.get,getFs];rw[hf k hX.lk.1,qso hX hXne']
  have rdN:=fun n=>(qcs (n:=n) hX nf).2;have ix:qaq PG 35 (qce k 7 (X.map qa9)) (.int .i64 (u:Int))=some (.ptr k (u * 7)):=by rw[qbr hXne'];simp[qaq,qbn hu]
  obtain⟨K,hK⟩ : ∃K,K=(qa0 X (u:Int)).kids:=⟨_,rfl⟩;have hKl:K.length<=999999:=by rw[hK];exact qfr kX _
  rw[<- hK];obtain⟨p,hp⟩ : ∃p:Nat,min (max at_ 0) (K.length:Int)=(p:Int):=jy (by omega);have hpl:p<=K.length:=by omega
  have eins:qgx K at_ (i:Int)=qdb K p (i:Int):=by unfold qgx;rw[hp];rfl
  rw[eins];have rdK:∀(n:Nat) (f:List (Nat × Blk)),(∀j,j < m->getF j f=none)->qb2 PG ⟨n,[f,VE pb pre k 7 (X.map qa9) post g]⟩ 38 (.ptr k (u * 7+6))=some (qa8 K):=fun n f hf=>by simp[hkgX n f hf,qif hu,hK]
  have rdK0:=fun n=>rdK n [] nf;have kw:=fun H=>k96 hW (L:=K) (a:=p) (i:Int) (by omega) hpl H;have lK:∀H,qf3 PG H 38 (qa8 K)=some K.length:=fun H=>by simp[qf3,qa8]
  have mn:qkv true (.int .i64 at_) [.int .i64 (K.length:Int)]=some (.int .i64 (min at_ (K.length:Int))):=rfl;have mx:qkv false (.int .i64 0) [.int .i64 (min at_ (K.length:Int))]=some (.int .i64 (p:Int)):=by have:max 0 (min at_ (K.length:Int))=(p:Int):=(by omega);simp[qkv,this]
  have hw:=fun n=>qh8 (n:=n) hX hu (qdb K p (i:Int)) nf;have hX2:=hX.mono (ja m) (qbg (setKids X u (qdb K p (i:Int))));have lX2:(setKids X u (qdb K p (i:Int))).length=X.length:=qbt hu _;have hX2ne:(setKids X u (qdb K p (i:Int))).map qa9≠[]:=by simp[setKids]
  have rdN2:=fun n=>(qcs (n:=n) hX2 nf).2;have ix2:qaq PG 35 (qce k 7 ((setKids X u (qdb K p (i:Int))).map qa9)) (.int .i64 (i:Int))=some (.ptr k (i * 7)):=by have:=qbn (show i < (setKids X u (qdb K p (i:Int))).length by omega);rw[qbr hX2ne];simp[qaq,this]
  have hw2:=fun n=>qho (n:=n) hX2 (show i < (setKids X u (qdb K p (i:Int))).length by omega) (u:Int) nf;have hX3:=hX2.mono (ja m) (qbg (setUp (setKids X u (qdb K p (i:Int))) i (u:Int)));generalize qdb K p (i:Int)=K' at *;have h0':¬ i=0:=by omega
  refine qa1 (s0:=⟨[0,1,2,3,8],[.ptr pb pre.length,.int .i64 (u:Int),.int .i64 at_,.int .i64 (i:Int),uD],[],69,⟨m,[]::[VE pb pre k 7 (t.map qa9) post g]⟩⟩) Tryz.func31 rfl rfl rfl ?_;apply qR;simp[zS,rdT,ksi,ksu,kh,h0,h0'];apply qaj rfl;apply qa5;simp;repeat apply wq
  refine qb0 (qci [⟨95,_,_,_,_,hcut⟩]) ?_;simp[zS,qdz];apply qR;simp[zS,rdN,ix,rdK0];repeat apply wq
  refine qc4 mixed qaz (by decide +kernel) fun B_ hB_=>?_;have hD_:ahead B_ 3 12=false/\ahead B_ 3 15=true/\ahead B_ 8 12=true/\ahead B_ 8 15=true/\ahead B_ 12 3=false/\ahead B_ 12 8=false/\ahead B_ 15 3=false/\ahead B_ 15 8=false:=by rw[hB_];decide +kernel
  apply qhi B_;simp[zS,qbc,qar,qb4,qbh,qan,qbd,qba,Heap.lay,qap,qhh,qhg,qei,qeh,qef,qeg,qew,qel,qdj,qdk,qeq,qep,qen,qeo,qet,qeu,qes,qer,hD_,hw,rdN,ix,kw,lK,mx,mn];exact rfl;refine⟨_,rfl,?_,?_⟩;simp[zS,qbh,qan,qc1,qc9,qd2,hD_,hw,rdN,ix,kw,lK,mx,mn];try simp[allPend,Heap.lay,qap,qab]
  apply qR;simp[zS,rdN2,ix2,hw2];exact⟨[],rfl,_,_,by simp[oneOr,qas,qb8,qa6],qcv hX3 (ja m) (ja m) fun _ _=>rfl⟩
set_option maxHeartbeats 1000000
@[simp]theorem szT25:qcj PG 25=some 1:=rfl
@[simp]theorem agT25:qh4 PG 25=some false:=rfl
@[simp]theorem byT25:qch PG 25=some 8:=rfl
@[simp]theorem alT25(H:Heap):alV PG H 25=some (.ptr H.n 0,H.new (.cells [.nilP])):=rfl
@[simp]theorem zeT25:qby PG 25=some (.nilP):=rfl
attribute [simp] Tryz.underlying25
@[simp 500]theorem rvF25(H:Heap) (cs:List AV) (o:Nat):qb2 PG H 25 (.fptr cs o)=qcb cs o:=rfl
@[simp 500]theorem rvP25(H:Heap) (b o:Nat):qb2 PG H 25 (.ptr b o)=(H.get b).bind fun k=>k.rd.bind fun cs=>qcb cs o:=rfl
@[simp]theorem szT52:qcj PG 52=some 11:=rfl
@[simp]theorem agT52:qh4 PG 52=some true:=rfl
@[simp]theorem byT52:qch PG 52=some 136:=rfl
@[simp]theorem alT52(H:Heap):alV PG H 52=some (.ptr H.n 0,H.new (.cells [.nilS,.nilS,.nilS,.int .i64 0,.int .i64 0,.int .i64 0,.int .i64 0,.int .i64 0,.bool false,.bool false,.str []])):=rfl
@[simp]theorem zeT52:qby PG 52=some (.agg [.nilS,.nilS,.nilS,.int .i64 0,.int .i64 0,.int .i64 0,.int .i64 0,.int .i64 0,.bool false,.bool false,.str []]):=rfl
attribute [simp] Tryz.underlying52
@[simp 500]theorem rvF52(H:Heap) (cs:List AV) (o:Nat):qb2 PG H 52 (.fptr cs o)=(qfe o 11 cs).bind fun cs=>some (.agg cs):=rfl
@[simp 500]theorem rvP52(H:Heap) (b o:Nat):qb2 PG H 52 (.ptr b o)=(readCells H b o 11).bind fun cs=>some (.agg cs):=rfl
@[simp]theorem fa52_0(x:AV):qb1 PG 52 x 0=(match x with | .ptr b o=>some (.ptr b (o+0)) | .fptr cs o=>some (.fptr cs (o+0))|_=>none):=rfl
@[simp]theorem fd52_0(cs:List AV):qbu PG 52 (.agg cs) 0=(qfe 0 1 cs).bind fun r=>some (.agg r):=rfl
@[simp]theorem fa52_1(x:AV):qb1 PG 52 x 1=(match x with | .ptr b o=>some (.ptr b (o+1)) | .fptr cs o=>some (.fptr cs (o+1))|_=>none):=rfl
@[simp]theorem fd52_1(cs:List AV):qbu PG 52 (.agg cs) 1=qcb cs 1:=rfl
@[simp]theorem fa52_2(x:AV):qb1 PG 52 x 2=(match x with | .ptr b o=>some (.ptr b (o+2)) | .fptr cs o=>some (.fptr cs (o+2))|_=>none):=rfl
@[simp]theorem fd52_2(cs:List AV):qbu PG 52 (.agg cs) 2=qcb cs 2:=rfl
@[simp]theorem fa52_3(x:AV):qb1 PG 52 x 3=(match x with | .ptr b o=>some (.ptr b (o+3)) | .fptr cs o=>some (.fptr cs (o+3))|_=>none):=rfl
@[simp]theorem fd52_3(cs:List AV):qbu PG 52 (.agg cs) 3=qcb cs 3:=rfl
@[simp]theorem fa52_4(x:AV):qb1 PG 52 x 4=(match x with | .ptr b o=>some (.ptr b (o+4)) | .fptr cs o=>some (.fptr cs (o+4))|_=>none):=rfl
@[simp]theorem fd52_4(cs:List AV):qbu PG 52 (.agg cs) 4=qcb cs 4:=rfl
@[simp]theorem fa52_5(x:AV):qb1 PG 52 x 5=(match x with | .ptr b o=>some (.ptr b (o+5)) | .fptr cs o=>some (.fptr cs (o+5))|_=>none):=rfl
@[simp]theorem fd52_5(cs:List AV):qbu PG 52 (.agg cs) 5=qcb cs 5:=rfl
@[simp]theorem fa52_6(x:AV):qb1 PG 52 x 6=(match x with | .ptr b o=>some (.ptr b (o+6)) | .fptr cs o=>some (.fptr cs (o+6))|_=>none):=rfl
@[simp]theorem fd52_6(cs:List AV):qbu PG 52 (.agg cs) 6=qcb cs 6:=rfl
@[simp]theorem fa52_7(x:AV):qb1 PG 52 x 7=(match x with | .ptr b o=>some (.ptr b (o+7)) | .fptr cs o=>some (.fptr cs (o+7))|_=>none):=rfl
@[simp]theorem fd52_7(cs:List AV):qbu PG 52 (.agg cs) 7=qcb cs 7:=rfl
@[simp]theorem fa52_8(x:AV):qb1 PG 52 x 8=(match x with | .ptr b o=>some (.ptr b (o+8)) | .fptr cs o=>some (.fptr cs (o+8))|_=>none):=rfl
@[simp]theorem fd52_8(cs:List AV):qbu PG 52 (.agg cs) 8=qcb cs 8:=rfl
@[simp]theorem fa52_9(x:AV):qb1 PG 52 x 9=(match x with | .ptr b o=>some (.ptr b (o+9)) | .fptr cs o=>some (.fptr cs (o+9))|_=>none):=rfl
@[simp]theorem fd52_9(cs:List AV):qbu PG 52 (.agg cs) 9=qcb cs 9:=rfl
@[simp]theorem fa52_10(x:AV):qb1 PG 52 x 10=(match x with | .ptr b o=>some (.ptr b (o+10)) | .fptr cs o=>some (.fptr cs (o+10))|_=>none):=rfl
@[simp]theorem fd52_10(cs:List AV):qbu PG 52 (.agg cs) 10=qcb cs 10:=rfl
theorem c30S{s:SS} (ne:s.tree≠[]) (nd:Nd) (hl:s.tree.length+1<=1000000) (ha:nd.attrs.length<=1000000):SC T 30 [qa9 nd] s (.int .i64 (s.tree.length:Int)) ({ s with tree:=qed s.tree nd }):=by have g0:=@vg0;have v0:=@vset;exact c30 (T:=T) (ok_S s (k:=1) (m:=2) (by omega) (by omega)) hl nd ha
def e30S:Entry PG:=mkS 30 [[0,0,0,2,0,0,1]] (fun z:Nd=>[qa9 z]) (fun z s=>(s.tree.length+1<=1000000)/\(z.attrs.length<=1000000)) (fun z s=>.int .i64 (s.tree.length:Int)) (fun z s=>{ s with tree:=qed s.tree z }) fun z s ne h=>⟨c30S (T:=[])  ne z h.1 h.2,by simp[qa6,qa2],by simp[qa2,qa6],qev _ _⟩
theorem c31S(hc0:qIn 177 T e177) (hc1:qIn 93 T e93) (hc2:qIn 94 T e94) (hc3:qIn 96 T e96) {s:SS} (ne:s.tree≠[]) (up:Int) (at_:Int) (kid:Int) (ht:s.tree.length<=1000000) (hk:qcf s.tree 999999):SC T 31 [.int .i64 up,.int .i64 at_,.int .i64 kid] s (.tup []) ({ s with tree:=qgh s.tree up at_ kid }):=by have g0:=@vg0;have v0:=@vset;exact SC.of (c31 (T:=T) hc0 hc1 hc2 hc3 (ok_S s (k:=1) (m:=2) (by omega) (by omega)) ne ht hk up at_ kid) rfl (qfl ne _ _ _)
def e31S:Entry PG:=mkS 31 [[],[],[]] (fun z:Int × Int × Int=>[.int .i64 z.1,.int .i64 z.2.1,.int .i64 z.2.2]) (fun z s=>(s.tree.length<=1000000)/\(qcf s.tree 999999)) (fun z s=>.tup []) (fun z s=>{ s with tree:=qgh s.tree z.1 z.2.1 z.2.2 }) fun z s ne h=>⟨c31S (T:=[e177,e93,e94,e96]) rfl rfl rfl rfl ne z.1 z.2.1 z.2.2 h.1 h.2,by simp[qa6,qa2],by simp[qa2,qa6],qfl ne _ _ _⟩
theorem k31S(hT:qac 31 T=some e31S.g) {s:SS} (ne:s.tree≠[]) (up:Int) (at_:Int) (kid:Int) (ht:s.tree.length<=1000000) (hk:qcf s.tree 999999) {n k:Nat} {fr:List (Nat × Blk)} (k0:0 < k) (kn:k < n) (of:qg5 k fr):qb5 (ctx T) (.fn 31) [.ptr 0 0,.int .i64 up,.int .i64 at_,.int .i64 kid] ⟨n,[fr,VS k s]⟩=some (.tup [],⟨n+1,[fr,VS n ({ s with tree:=qgh s.tree up at_ kid })]⟩):=
 qcr hT inj_26S (up,at_,kid) ne ⟨ht,hk⟩ (by simp[qa6,qa2]) (by simp[qbl,qam]) k0 kn of
theorem c95S(hc0:qIn 177 T e177) (hc1:qIn 93 T e93) {s:SS} (ne:s.tree≠[]) (kid:Int) (hk:qcf s.tree 1000000):SC T 95 [.int .i64 kid] s (.tup []) ({ s with tree:=qec s.tree kid }):=by have g0:=@vg0;have v0:=@vset;exact SC.of (c95 (T:=T) hc0 hc1 (ok_S s (k:=1) (m:=2) (by omega) (by omega)) ne hk kid) rfl (qmk ne _)
def e95S:Entry PG:=mkS 95 [[]] (fun z:Int=>[.int .i64 z]) (fun z s=>(qcf s.tree 1000000)) (fun z s=>.tup []) (fun z s=>{ s with tree:=qec s.tree z }) fun z s ne h=>⟨c95S (T:=[e177,e93]) rfl rfl ne z h,by simp[qa6,qa2],by simp[qa2,qa6],qmk ne _⟩
theorem k95S(hT:qac 95 T=some e95S.g) {s:SS} (ne:s.tree≠[]) (kid:Int) (hk:qcf s.tree 1000000) {n k:Nat} {fr:List (Nat × Blk)} (k0:0 < k) (kn:k < n) (of:qg5 k fr):qb5 (ctx T) (.fn 95) [.ptr 0 0,.int .i64 kid] ⟨n,[fr,VS k s]⟩=some (.tup [],⟨n+1,[fr,VS n ({ s with tree:=qec s.tree kid })]⟩):=
 qcr hT inj_162 (kid) ne hk (by simp[qa6,qa2]) (by simp[qbl,qam]) k0 kn of
theorem c110(hc0:qIn 109 T e109) (hc1:qIn 80 T e80) {s:SS} (ne:s.tree≠[]) (W:Str) (hl:W.length<=100000) (ho:s.opn.length<=100000):SC T 110 [.str W] s (.bool (qcy (qbp s.tree (qdw s.opn)) W)) (s):=by
 have g0:=@vg0;have v0:=@vset;have kT:=fun H=>k109 hc0 (L:=s.opn) (by omega) H;have kI:=fun n k f (k0:0 < k) (hf:getF k f=none)=>q80 hc1 (thS (n:=n) k0 ne hf) (qdw s.opn) hl;refine qa1 (s0:=⟨[0,1,4],[.ptr 0 0,.str W,uD],[],16,⟨2,[]::[VS 1 s]⟩⟩) Tryz.func110 rfl rfl rfl ?_
 exact zL0
def e110:Entry PG:=mkS 110 [[]] (fun z:Str=>[.str z]) (fun z s=>(z.length<=100000)/\(s.opn.length<=100000)) (fun z s=>.bool (qcy (qbp s.tree (qdw s.opn)) z)) (fun z s=>s) fun z s ne h=>⟨c110 (T:=[e109,e80]) rfl rfl ne z h.1 h.2,by simp[qa6,qa2],by simp[qa2,qa6],ne⟩
theorem k110(hT:qIn 110 T e110) {s:SS} (ne:s.tree≠[]) (W:Str) (hl:W.length<=100000) (ho:s.opn.length<=100000) {n k:Nat} {fr:List (Nat × Blk)} (k0:0 < k) (kn:k < n) (of:qg5 k fr):qb5 (ctx T) (.fn 110) [.ptr 0 0,.str W] ⟨n,[fr,VS k s]⟩=some (.bool (qcy (qbp s.tree (qdw s.opn)) W),⟨n+1,[fr,VS n (s)]⟩):=
 qcr hT inj_54 (W) ne ⟨hl,ho⟩ (by simp[qa6,qa2]) (by simp[qbl,qam]) k0 kn of
theorem c100(hc0:qIn 179 T e179) {s:SS} (ne:s.tree≠[]) (W:Str) (hl:W.length<=100000) (ho:s.opn.length<=100000):SC T 100 [.str W] s (.tup []) ({ s with opn:=qiu s.tree s.opn W }):=by
 have g0:=@vg0;have v0:=@vset;have kI:=fun n k f (k0:0 < k) (hf:getF k f=none)=>k179 hc0 hl (L:=s.opn) (by omega) (thS (n:=n) k0 ne hf);refine qa1 (s0:=⟨[0,1],[.ptr 0 0,.str W],[],17,⟨2,[]::[VS 1 s]⟩⟩) Tryz.func100 rfl rfl rfl ?_
 exact zL0
def e100:Entry PG:=mkS 100 [[]] (fun z:Str=>[.str z]) (fun z s=>(z.length<=100000)/\(s.opn.length<=100000)) (fun z s=>.tup []) (fun z s=>{ s with opn:=qiu s.tree s.opn z }) fun z s ne h=>⟨c100 (T:=[e179]) rfl ne z h.1 h.2,by simp[qa6,qa2],by simp[qa2,qa6],ne⟩
theorem k100(hT:qIn 100 T e100) {s:SS} (ne:s.tree≠[]) (W:Str) (hl:W.length<=100000) (ho:s.opn.length<=100000) {n k:Nat} {fr:List (Nat × Blk)} (k0:0 < k) (kn:k < n) (of:qg5 k fr):qb5 (ctx T) (.fn 100) [.ptr 0 0,.str W] ⟨n,[fr,VS k s]⟩=some (.tup [],⟨n+1,[fr,VS n ({ s with opn:=qiu s.tree s.opn W })]⟩):=
 qcr hT inj_54 (W) ne ⟨hl,ho⟩ (by simp[qa6,qa2]) (by simp[qbl,qam]) k0 kn of
theorem c102(hc0:qIn 181 T e181) {s:SS} (ne:s.tree≠[]) (W:Str) (hl:W.length<=100000) (ho:s.opn.length<=100000):SC T 102 [.str W] s (.tup []) ({ s with opn:=toL s.tree s.opn W }):=by
 have g0:=@vg0;have v0:=@vset;have kI:=fun n k f (k0:0 < k) (hf:getF k f=none)=>k181 hc0 hl (L:=s.opn) (by omega) (thS (n:=n) k0 ne hf);refine qa1 (s0:=⟨[0,1],[.ptr 0 0,.str W],[],17,⟨2,[]::[VS 1 s]⟩⟩) Tryz.func102 rfl rfl rfl ?_
 exact zL0
def e102:Entry PG:=mkS 102 [[]] (fun z:Str=>[.str z]) (fun z s=>(z.length<=100000)/\(s.opn.length<=100000)) (fun z s=>.tup []) (fun z s=>{ s with opn:=toL s.tree s.opn z }) fun z s ne h=>⟨c102 (T:=[e181]) rfl ne z h.1 h.2,by simp[qa6,qa2],by simp[qa2,qa6],ne⟩
theorem k102(hT:qIn 102 T e102) {s:SS} (ne:s.tree≠[]) (W:Str) (hl:W.length<=100000) (ho:s.opn.length<=100000) {n k:Nat} {fr:List (Nat × Blk)} (k0:0 < k) (kn:k < n) (of:qg5 k fr):qb5 (ctx T) (.fn 102) [.ptr 0 0,.str W] ⟨n,[fr,VS k s]⟩=some (.tup [],⟨n+1,[fr,VS n ({ s with opn:=toL s.tree s.opn W })]⟩):=
 qcr hT inj_54 (W) ne ⟨hl,ho⟩ (by simp[qa6,qa2]) (by simp[qbl,qam]) k0 kn of
theorem qqr{s:SS} (ne:s.tree≠[]) {u:Nat} (hul:u < s.tree.length):getF 1 (VS 1 s)=some (.cells (qaa (s.tree.map qa9)))/\qaq PG 35 (nV 1 s.tree) (.int .i64 (u:Int))=some (.ptr 1 (u * 7))/\qcb (qaa (s.tree.map qa9)) (u * 7+6)=some (qa8 (qa0 s.tree (u:Int)).kids) /\
  (∀H,qf3 PG H 38 (qa8 (qa0 s.tree (u:Int)).kids)=some (qa0 s.tree (u:Int)).kids.length)/\whV s.tree (u:Int)=.tup [.int .i64 (u:Int),.int .i64 ((qa0 s.tree (u:Int)).kids.length:Int)]:=
 ⟨vgk (k:=1) (s:=s) (by omega) ne,ixN (k:=1) hul,by rw[getN (c:=6) hul (by omega)];rfl,fun H=>qgi,rfl⟩
theorem c117{s:SS} (ne:s.tree≠[]) (i:Int) (hf:s.foster=false):SC T 117 [.int .i64 i] s (whV s.tree (whP s.tree i)) (s):=by
 have g0:=@vg0;have v0:=@vset;have ln:=fun H=>lenN' (k:=1) (t:=s.tree) H;have hp:=List.length_pos_iff.2 ne;by_cases hb:0<=i/\i < (s.tree.length:Int)
 ·obtain⟨u,rfl⟩ : ∃u:Nat,i=u:=⟨i.toNat,by omega⟩;have e:whP s.tree (u:Int)=(u:Int):=by unfold whP;rw[jo (isB_iff.2 hb)]
  obtain⟨f1,f2,f3,f4,f5⟩:=qqr ne (u:=u) (by omega);have h0:¬ ((u:Int) < 0):=by omega
  have h1:¬ ((s.tree.length:Int)<=(u:Int)):=by omega
  have h1':¬ (s.tree.length<=u):=by omega
  rw[e,f5];clear e f5 hb;refine qa1 (s0:=⟨[0,1,4,5,6,7,8],[.ptr 0 0,.int .i64 (u:Int),uD,uD,uD,uD,uD],[],126,⟨2,[]::[VS 1 s]⟩⟩) Tryz.func117 rfl rfl rfl ?_
  exact zL0
 ·have e:whP s.tree i=((0:Nat):Int):=by unfold whP;rw[jm (fun h=>hb (isB_iff.1 h))];rfl
  obtain⟨f1,f2,f3,f4,f5⟩:=qqr ne (u:=0) (by omega);rw[e,f5];have e0:((0:Nat):Int)=0:=rfl;rw[e0]at f2 f4 f5 ⊢;rw[e0]at f3;by_cases h0:i < 0
  ·clear e f5 hb;refine qa1 (s0:=⟨[0,1,4,5,6,7,8],[.ptr 0 0,.int .i64 i,uD,uD,uD,uD,uD],[],126,⟨2,[]::[VS 1 s]⟩⟩) Tryz.func117 rfl rfl rfl ?_
   exact zL0
  ·have h1:(s.tree.length:Int)<=i:=(by omega);clear e f5 hb;refine qa1 (s0:=⟨[0,1,4,5,6,7,8],[.ptr 0 0,.int .i64 i,uD,uD,uD,uD,uD],[],126,⟨2,[]::[VS 1 s]⟩⟩) Tryz.func117 rfl rfl rfl ?_
   exact zL0
def e117:Entry PG:=mkS 117 [[]] (fun z:Int=>[.int .i64 z]) (fun z s=>(s.foster=false)) (fun z s=>whV s.tree (whP s.tree z)) (fun z s=>s) fun z s ne h=>⟨c117 (T:=[])  ne z h,by simp[qa6,qa2],by simp[qa2,qa6],ne⟩
theorem k117(hT:qIn 117 T e117) {s:SS} (ne:s.tree≠[]) (i:Int) (hf:s.foster=false) {n k:Nat} {fr:List (Nat × Blk)} (k0:0 < k) (kn:k < n) (of:qg5 k fr):qb5 (ctx T) (.fn 117) [.ptr 0 0,.int .i64 i] ⟨n,[fr,VS k s]⟩=some (whV s.tree (whP s.tree i),⟨n+1,[fr,VS n (s)]⟩):=
 qcr hT inj_162 (i) ne hf (by simp[qa6,qa2]) (by simp[qbl,qam]) k0 kn of
theorem addR(hT:qac 30 T=some e30S.g) {s:SS} (ne:s.tree≠[]) (sp:Int) (x:Str) (L:List At1) (hl:s.tree.length+1<=1000000) (ha:L.length<=1000000) {n k:Nat} {fr:List (Nat × Blk)} (k0:0 < k) (kn:k < n) (of:qg5 k fr) :
  qb5 (ctx T) (.fn 30) [.ptr 0 0,.agg [.int .i64 1,.int .i64 sp,.str x,qae L,.str [],.int .i64 0,.nilS]] ⟨n,[fr,VS k s]⟩=some (.int .i64 (s.tree.length:Int),⟨n+1,[fr,VS n { s with tree:=qed s.tree ⟨1,sp,x,L,[],0,[]⟩ }]⟩):=
 qcr hT zbf ⟨1,sp,x,L,[],0,[]⟩ ne ⟨hl,ha⟩ (by simp[qa6,qa2]) (by simp[qbl,qco,qk9,qiy,okV,qa9,Nd.cs,qat,qae,qa8,qa2,qa6]) k0 kn of
theorem addR0(hT:qac 30 T=some e30S.g) {s:SS} (ne:s.tree≠[]) (kd:Int) (x:Str) (hl:s.tree.length+1<=1000000) {n k:Nat} {fr:List (Nat × Blk)} (k0:0 < k) (kn:k < n) (of:qg5 k fr) :
  qb5 (ctx T) (.fn 30) [.ptr 0 0,.agg [.int .i64 kd,.int .i64 0,.str [],.nilS,.str x,.int .i64 0,.nilS]] ⟨n,[fr,VS k s]⟩=some (.int .i64 (s.tree.length:Int),⟨n+1,[fr,VS n { s with tree:=qed s.tree ⟨kd,0,[],[],x,0,[]⟩ }]⟩):=
 qcr hT zbf ⟨kd,0,[],[],x,0,[]⟩ ne ⟨hl,by simp⟩ (by simp[qa6,qa2]) (by simp[qbl,qco,qk9,qiy,okV,qa9,Nd.cs,qat,qae,qa8,qa2,qa6]) k0 kn of
theorem putR(hT:qac 31 T=some e31S.g) {s:SS} (ok:SOk s) (nd:Nd) (up at_:Int) {n k:Nat} {fr:List (Nat × Blk)} (k0:0 < k) (kn:k < n) (of:qg5 k fr) :
  qb5 (ctx T) (.fn 31) [.ptr 0 0,.int .i64 up,.int .i64 at_,.int .i64 (s.tree.length:Int)] ⟨n,[fr,VS k { s with tree:=qed s.tree nd }]⟩=some (.tup [],⟨n+1,[fr,VS n { s with tree:=qm8 s.tree up at_ nd }]⟩):=
 qcr hT inj_26S (up,at_,(s.tree.length:Int)) (s:={ s with tree:=qed s.tree nd }) (qev _ _) ⟨by have:=ok.ln;simp[qed];omega,qqd (fun n hn=>j6 (ok.kd n hn) (by omega)) nd⟩ (by simp[qa6,qa2]) (by simp[qbl,qco,okV,qa2]) k0 kn of
theorem c99(hc0:qIn 109 T e109) (hc1:qIn 117 T e117) (hc2:qac 30 T=some e30S.g) (hc3:qac 31 T=some e31S.g) {s:SS} (ne:s.tree≠[]) (data:Str) (up:Int) (hf:s.foster=false) (ok:SOk s):SC T 99 [.str data,.int .i64 up] s (.tup []) ({ s with tree:=ntT s.tree (ntP s up) data }):=by
 have kc1:=@k117 T hc1;have g0:=@vg0;have v0:=@vset;have hl:=ok.ln;have kT:=fun H=>k109 hc0 (L:=s.opn) (by have:=ok.op;omega) H;have bld:qe6 PG 65 [(0,.int .i64 3),(4,.str data)]=some (.agg [.int .i64 3,.int .i64 0,.str [],.nilS,.str data,.int .i64 0,.nilS]):=rfl;have kA:=fun n k fr=>@addR0 T hc2 s ne 3 data (by omega) n k fr;have kP:=fun up at_ n k fr=>@putR T hc3 s ok ⟨3,0,[],[],data,0,[]⟩ up at_ n k fr;simp only[hf]at kA kP;have ln:=fun H=>lenN' (k:=1) (t:=s.tree) H;by_cases hb:0<=up/\up < (s.tree.length:Int)
 ·obtain⟨u,rfl⟩ : ∃u:Nat,up=u:=⟨up.toNat,by omega⟩;have e:ntP s (u:Int)=(u:Int):=by unfold ntP;rw[jo (isB_iff.2 hb)]
  obtain⟨f1,f2,f3,f4,f5⟩:=qqr ne (u:=u) (by omega);have h0:¬ ((u:Int) < 0):=by omega
  have h1:¬ ((s.tree.length:Int)<=(u:Int)):=by omega
  have h1':¬ (s.tree.length<=u):=by omega
  rw[e];clear e f5 hb;refine qa1 (s0:=⟨[0,1,2,6],[.ptr 0 0,.str data,.int .i64 (u:Int),uD],[],51,⟨2,[]::[VS 1 s]⟩⟩) Tryz.func99 rfl rfl rfl ?_
  exact zL0
 ·have e:ntP s up=whP s.tree (qdw s.opn):=by unfold ntP;rw[jm (fun h=>hb (isB_iff.1 h))]
  rw[e];by_cases h0:up < 0
  ·clear e hb;refine qa1 (s0:=⟨[0,1,2,6],[.ptr 0 0,.str data,.int .i64 up,uD],[],51,⟨2,[]::[VS 1 s]⟩⟩) Tryz.func99 rfl rfl rfl ?_
   exact zL1
  ·have h1:(s.tree.length:Int)<=up:=(by omega);clear e hb;refine qa1 (s0:=⟨[0,1,2,6],[.ptr 0 0,.str data,.int .i64 up,uD],[],51,⟨2,[]::[VS 1 s]⟩⟩) Tryz.func99 rfl rfl rfl ?_
   exact zL1
def e99:Entry PG:=mkS 99 [[],[]] (fun z:Str × Int=>[.str z.1,.int .i64 z.2]) (fun z s=>(s.foster=false)/\(SOk s)) (fun z s=>.tup []) (fun z s=>{ s with tree:=ntT s.tree (ntP s z.2) z.1 }) fun z s ne h=>⟨c99 (T:=[e109,e117,e30S,e31S]) rfl rfl rfl rfl ne z.1 z.2 h.1 h.2,by simp[qa6,qa2],by simp[qa2,qa6],qdi _ _ _ _⟩
theorem k99(hT:qIn 99 T e99) {s:SS} (ne:s.tree≠[]) (data:Str) (up:Int) (hf:s.foster=false) (ok:SOk s) {n k:Nat} {fr:List (Nat × Blk)} (k0:0 < k) (kn:k < n) (of:qg5 k fr):qb5 (ctx T) (.fn 99) [.ptr 0 0,.str data,.int .i64 up] ⟨n,[fr,VS k s]⟩=some (.tup [],⟨n+1,[fr,VS n ({ s with tree:=ntT s.tree (ntP s up) data })]⟩):=
 qcr hT inj_84 (data,up) ne ⟨hf,ok⟩ (by simp[qa6,qa2]) (by simp[qbl,qam]) k0 kn of
theorem qlq{b m:Nat} (g:List (Nat × Blk)) (fs:List (List (Nat × Blk))) {L:List Int} (h:L≠[]) (hb:b < m) (hM:L.length<=1000000):qbs PG ⟨m,((b,.cells [])::g)::fs⟩ 3 (.slc b 0 0 (.ex 0)) (qa8 L)=some (.slc m 0 L.length (.rest 1),⟨m+1,((m,.cells (L.map qat))::(b,.cells [])::g)::fs⟩):=by
 have:=qh3 (P:=PG) (elem:=3) (b:=b) (m:=m) (es:=L.map qat) (g:=g) (fs:=fs) qhz qk2 qjw rfl (by omega) (by omega) (qiw _) (qfq _) (by simp;omega);rw[show AV.fslc 1 (L.map qat)=qa8 L from rfl]at this;rw[this];obtain⟨x,r,rfl⟩ : ∃x r,L=x::r:=by cases L;exact absurd rfl h;exact⟨_,_,rfl⟩
 have e2:qki ⟨m,((b,.cells [])::g)::fs⟩ ((x::r).map qat)=⟨m+1,((m,.cells (qay (x::r)))::(b,.cells [])::g)::fs⟩:=(ql7 [] r x ⟨m,((b,.cells [])::g)::fs⟩).trans rfl;rw[e2];simp[qsp,qay]
theorem qsl{b t m:Nat} (g:List (Nat × Blk)) (fs:List (List (Nat × Blk))) {L:List Int} (h:L≠[]) (hM:L.length<=1000000) (htb:t≠b) (hg:∀e,e∈g->e.1≠b) (hfs:∀e,e∈fs.flatten->e.1≠b) (x:Int) :
  qbs PG ⟨m,((t,.cells [.int .i64 x])::(b,.cells (L.map qat))::g)::fs⟩ 3 (.slc b 0 L.length (.rest 1)) (.slc t 0 1 (.ex 1))=some (.slc m 0 (L.length+1) (.rest 1),⟨m+1,((m,.cells ((L++[x]).map qat))::(t,.cells [.int .i64 x])::g)::fs⟩):=by
 have:=qf0 (P:=PG) (elem:=3) (b:=b) (t:=t) (m:=m) (es:=L.map qat) (cs:=[.int .i64 x]) (g:=g) (fs:=fs) qhz qk2 qjw rfl (by omega) (by omega) rfl rfl (qca _) (by simp;omega) htb hg hfs;rw[(qib h).1,(qib h).2]at this;simp only[List.cons_append,jv,jD,qe8]at this;rw[this];simp[qat]
theorem vs_ids{s:SS} {k:Nat} (ne:s.tree≠[]):∀e,e∈([VS k s]:List (List (Nat × Blk))).flatten->e.1=0\/e.1=k:=by intro e he;rw[qdv ne]at he;simp at he;rcases he with rfl|rfl<;>simp
theorem c66(hc0:qIn 109 T e109) (hc1:qIn 117 T e117) (hc2:qac 30 T=some e30S.g) (hc3:qac 31 T=some e31S.g) {s:SS} (ne:s.tree≠[]) (t:Tk) (sp:Int) (hf:s.foster=false) (ok:SOk s) (ha:t.attrs.length<=1000000) (ho:s.opn≠[]):SC T 66 [qlx t,.int .i64 sp] s (.int .i64 (s.tree.length:Int)) (elS s sp t.name t.attrs):=by
 have kc1:=@k117 T hc1;have g0:=@vg0;have v0:=@vset;have hl:=ok.ln;have kT:=fun H=>k109 hc0 (L:=s.opn) (by have:=ok.op;omega) H;have bld:qe6 PG 65 [(0,.int .i64 1),(1,.int .i64 sp),(2,.str t.name),(3,qae t.attrs)]=some (.agg [.int .i64 1,.int .i64 sp,.str t.name,qae t.attrs,.str [],.int .i64 0,.nilS]):=rfl;have kA:=fun n k fr=>@addR T hc2 s ne sp t.name t.attrs (by omega) ha n k fr;have kP:=fun up at_ n k fr=>@putR T hc3 s ok ⟨1,sp,t.name,t.attrs,[],0,[]⟩ up at_ n k fr;simp only[hf]at kA kP;have rS:=@prom_S;have sR:=@setR;clear v0;have lI:=fun H=>qgi (H:=H) (L:=s.opn);have aL:=fun g fs=>qlq (b:=17) (m:=18) g fs ho (by omega) (by have:=ok.op;omega);have aO:=fun c (s':SS) (ne':s'.tree≠[]) x=>qsl (b:=18) (t:=19) (m:=20) [(17,.cells []),(2,.cells c)] [VS 16 s'] ho (by have:=ok.op;omega) (by omega) (by simp) (fun e he=>by rcases vs_ids ne' e he with h|h<;>omega) x;have ec:t.cs=[.int .i64 t.kind,.str t.name,qae t.attrs,.bool t.self,.str t.data]:=rfl;refine qa1 (s0:=⟨[0,1,2,4,6,7,8,9],[.ptr 0 0,qlx t,.int .i64 sp,uD,uD,uD,uD,uD],[],50,⟨2,[]::[VS 1 s]⟩⟩) Tryz.func66 rfl rfl rfl ?_
 exact zL1
def e66:Entry PG:=mkS 66 [[0,0,2,0,0],[]] (fun z:Tk × Int=>[qlx z.1,.int .i64 z.2]) (fun z s=>(s.foster=false)/\(SOk s)/\(z.1.attrs.length<=1000000)/\(s.opn≠[])) (fun z s=>.int .i64 (s.tree.length:Int)) (fun z s=>elS s z.2 z.1.name z.1.attrs) fun z s ne h=>⟨c66 (T:=[e109,e117,e30S,e31S]) rfl rfl rfl rfl ne z.1 z.2 h.1 h.2.1 h.2.2.1 h.2.2.2,by simp[qa6,qa2],by simp[qa2,qa6],qdi _ _ _ _⟩
theorem k66(hT:qIn 66 T e66) {s:SS} (ne:s.tree≠[]) (t:Tk) (sp:Int) (hf:s.foster=false) (ok:SOk s) (ha:t.attrs.length<=1000000) (ho:s.opn≠[]) {n k:Nat} {fr:List (Nat × Blk)} (k0:0 < k) (kn:k < n) (of:qg5 k fr):qb5 (ctx T) (.fn 66) [.ptr 0 0,qlx t,.int .i64 sp] ⟨n,[fr,VS k s]⟩=some (.int .i64 (s.tree.length:Int),⟨n+1,[fr,VS n (elS s sp t.name t.attrs)]⟩):=
 qcr hT inj_53 (t,sp) ne ⟨hf,ok,ha,ho⟩ (by simp[qa6,qa2]) (by simp[qbl,qam]) k0 kn of
theorem c98(hc0:qIn 109 T e109) (hc1:qIn 117 T e117) (hc2:qac 30 T=some e30S.g) (hc3:qac 31 T=some e31S.g) {s:SS} (ne:s.tree≠[]) (x:Str) (hf:s.foster=false) (ok:SOk s) (kk:KOk s.tree) (hx:x.length<=1000000000):SC T 98 [.str x] s (.tup []) ({ s with tree:=chT s.tree (qdw s.opn) x }):=by
 have kc1:=@k117 T hc1;have g0:=@vg0;have v0:=@vset;have hln:=ok.ln;have kT:=fun H=>k109 hc0 (L:=s.opn) (by have:=ok.op;omega) H;have bld:qe6 PG 65 [(0,.int .i64 2),(4,.str x)]=some (.agg [.int .i64 2,.int .i64 0,.str [],.nilS,.str x,.int .i64 0,.nilS]):=rfl;have kA:=fun n k fr=>@addR0 T hc2 s ne 2 x (by omega) n k fr;have kP:=fun up at_ n k fr=>@putR T hc3 s ok ⟨2,0,[],[],x,0,[]⟩ up at_ n k fr;simp only[hf]at kA kP;obtain⟨u,hu,hul⟩:=qut ne (qdw s.opn);obtain⟨K,hK⟩ : ∃K,K=(qa0 s.tree (u:Int)).kids:=⟨_,rfl⟩;have kr:∀k,k∈K->0<=k/\k < (s.tree.length:Int):=fun k hk=>kk.kr _ (qdo (by omega) (by omega)) k (hK ▸ hk);have hwv:whV s.tree (u:Int)=.tup [.int .i64 (u:Int),.int .i64 (K.length:Int)]:=by rw[hK];rfl
 have hKl:K.length<=100000:=hK ▸ ok.kd _ (qdo (by omega) (by omega));by_cases h1:x=[]
 ·have e:chT s.tree (qdw s.opn) x=s.tree:=by unfold chT;rw[jo (.inl h1)]
  rw[e];refine qa1 (s0:=⟨[0,1,4,5,6],[.ptr 0 0,.str x,uD,uD,uD],[],73,⟨2,[]::[VS 1 s]⟩⟩) Tryz.func98 rfl rfl rfl ?_
  exact zL0
 ·by_cases h0:u=0
  ·have e:chT s.tree (qdw s.opn) x=s.tree:=(by unfold chT;rw[jo (.inr (by rw[hu,h0];rfl))]);rw[e];subst h0;rw[show (((0:Nat)):Int)=0 from rfl]at hwv;refine qa1 (s0:=⟨[0,1,4,5,6],[.ptr 0 0,.str x,uD,uD,uD],[],73,⟨2,[]::[VS 1 s]⟩⟩) Tryz.func98 rfl rfl rfl ?_
   exact zL0
  ·have h0':¬ ((u:Int)=0):=(by omega);have e:chT s.tree (qdw s.opn) x=match K.getLast? with
     |some k=>if (qa0 s.tree k).kind=2 then qhl s.tree k.toNat ((qa0 s.tree k).data++x) else chN s.tree (u:Int) x
     |none=>chN s.tree (u:Int) x:=by unfold chT;rw[jm (by rw[hu];exact fun h=>h.elim h1 h0'),hu,<- hK];rfl
   rw[e];clear e;rcases List.eq_nil_or_concat K with hn|⟨K0,k,hc⟩
   ·rw[hn];simp only[List.getLast?_nil];have e2:chN s.tree (u:Int) x=qm8 s.tree (u:Int) (0:Nat) ⟨2,0,[],[],x,0,[]⟩:=(by unfold chN;rw[<- hK,hn];rfl);rw[e2];subst hn;clear e2 hK kr;refine qa1 (s0:=⟨[0,1,4,5,6],[.ptr 0 0,.str x,uD,uD,uD],[],73,⟨2,[]::[VS 1 s]⟩⟩) Tryz.func98 rfl rfl rfl ?_
    exact zL0
   ·rw[List.concat_eq_append]at hc;obtain⟨kn,rfl⟩ : ∃kn:Nat,k=(kn:Int):=⟨k.toNat,by have:=(kr k (by rw[hc];simp)).1;omega⟩;have hkn:kn < s.tree.length:=(by have:=(kr (kn:Int) (by rw[hc];simp)).2;omega);rw[hc];simp only[List.getLast?_append,List.getLast?_singleton,Option.some_or];have hlen:K.length=K0.length+1:=(by rw[hc];simp);have hw:wr .i64 ((K0.length:Int)+1 - 1)=some (K0.length:Int):=by
     have:=qi0 (q:=K0.length) (by omega)
     rwa [show (((K0.length+1:Nat):Int) - 1)=(K0.length:Int)+1 - 1 by omega]at this
    have hw2:wr .i64 (K0.length:Int)=some (K0.length:Int):=(by rwa [Int.add_sub_cancel]at hw);have hat:qaq PG 38 (qa8 K) (.int .i64 (K0.length:Int))=some (.fptr [.int .i64 (kn:Int)] 0):=(by rw[atI (by omega)];simp[hc]);have lK:∀H,qf3 PG H 38 (qa8 K)=some (K0.length+1):=fun H=>(by rw[qgi,hlen]);have hpos:(0:Int) < (K0.length:Int)+1:=(by omega);have gk:=fun k=>vgk (k:=k) (s:=s);have ix:=fun k=>ixN (k:=k) hul;have gN:=getN (c:=6) hul (by omega);rw[show (qa0 s.tree (u:Int)).cs=[qat (qa0 s.tree (u:Int)).kind,qat (qa0 s.tree (u:Int)).space,.str (qa0 s.tree (u:Int)).name,qae (qa0 s.tree (u:Int)).attrs,.str (qa0 s.tree (u:Int)).data,qat (qa0 s.tree (u:Int)).up,qa8 K] by rw[hK];rfl]at gN;have ix2:=fun k=>ixN (k:=k) hkn;have gN0:=getN (c:=0) hkn (by omega);rw[yD]at gN0;have gN4:=getN (c:=4) hkn (by omega);have hcat:=zcf (x:=(qa0 s.tree (kn:Int)).data) (y:=x) (by have:=kk.dl _ (qdo (t:=s.tree) (i:=(kn:Int)) (by omega) (by omega));omega);have hld:=lay_dt hkn ((qa0 s.tree (kn:Int)).data++x);have hsk:=fun k k0=>@set_k s k (qhl s.tree kn ((qa0 s.tree (kn:Int)).data++x)) k0 ne (qo4 hkn _);have hwv':whV s.tree (u:Int)=.tup [.int .i64 (u:Int),.int .i64 ((K0.length:Int)+1)]:=(by rw[hwv,hlen];rfl);clear hwv;by_cases h2:(qa0 s.tree (kn:Int)).kind=2
    ·rw[jo h2];have e3:(kn:Int).toNat=kn:=(by simp);rw[e3];clear e3 hK hc kr hlen;refine qa1 (s0:=⟨[0,1,4,5,6],[.ptr 0 0,.str x,uD,uD,uD],[],73,⟨2,[]::[VS 1 s]⟩⟩) Tryz.func98 rfl rfl rfl ?_
     exact zL2
    ·rw[jm h2];have e2:chN s.tree (u:Int) x=qm8 s.tree (u:Int) ((K0.length:Int)+1) ⟨2,0,[],[],x,0,[]⟩:=(by unfold chN;rw[<- hK,hlen];rfl);rw[e2];clear e2 hK hc kr hlen;refine qa1 (s0:=⟨[0,1,4,5,6],[.ptr 0 0,.str x,uD,uD,uD],[],73,⟨2,[]::[VS 1 s]⟩⟩) Tryz.func98 rfl rfl rfl ?_
     exact zL2
def e98:Entry PG:=mkS 98 [[]] (fun z:Str=>[.str z]) (fun z s=>(s.foster=false)/\(SOk s)/\(KOk s.tree)/\(z.length<=1000000000)) (fun z s=>.tup []) (fun z s=>{ s with tree:=chT s.tree (qdw s.opn) z }) fun z s ne h=>⟨c98 (T:=[e109,e117,e30S,e31S]) rfl rfl rfl rfl ne z h.1 h.2.1 h.2.2.1 h.2.2.2,by simp[qa6,qa2],by simp[qa2,qa6],zcc ne _ _⟩
theorem k98(hT:qIn 98 T e98) {s:SS} (ne:s.tree≠[]) (x:Str) (hf:s.foster=false) (ok:SOk s) (kk:KOk s.tree) (hx:x.length<=1000000000) {n k:Nat} {fr:List (Nat × Blk)} (k0:0 < k) (kn:k < n) (of:qg5 k fr):qb5 (ctx T) (.fn 98) [.ptr 0 0,.str x] ⟨n,[fr,VS k s]⟩=some (.tup [],⟨n+1,[fr,VS n ({ s with tree:=chT s.tree (qdw s.opn) x })]⟩):=
 qcr hT inj_54 (x) ne ⟨hf,ok,kk,hx⟩ (by simp[qa6,qa2]) (by simp[qbl,qam]) k0 kn of
def qwm(pb:Nat) (pre:List AV) (k:Nat) (t:Tr) (i:Nat) (v:AV) (post:List AV) (g:List (Nat × Blk)):List (Nat × Blk):=(pb,.cells (pre++qce k 7 (t.map qa9)::post))::(k,.cells (qgj t i v))::g
theorem qnu{m n pb k c:Nat} {pre post:List AV} {g f:List (Nat × Blk)} {t:Tr} (h:Eok m pb pre k 7 (t.map qa9) post g) {i:Nat} (hi:i < t.length) {cs:List AV} (hcs:qa6 cs=true) (len:Nat) (cap:Cap) (hc:m<=c) (hf:∀j,j < m->getF j f=none) :
  writeVar PG ⟨n,[(c,.cells cs)::f,VE pb pre k 7 (t.map qa9) post g]⟩ 38 (.ptr k (i * 7+6)) (.slc c 0 len cap)=some ⟨n,[f,(c,.cells cs)::qwm pb pre k t i (.slc c 0 len cap) post g]⟩:=by
 have hne:t.map qa9≠[]:=by intro e;have:=jR List.length e;simp at this;subst this;simp at hi
 have b1:Nat.beq c k=false:=qax (by have:=h.lk.1;omega);have hk:getF k ((c,.cells cs)::f)=none:=by unfold getF;rw[b1];exact hf k h.lk.1
 have hg:Heap.get ⟨n,[(c,.cells cs)::f,VE pb pre k 7 (t.map qa9) post g]⟩ k=some (.cells (qaa (t.map qa9))):=by simp only[Heap.get,getFs];rw[hk,qso h hne]
 have hp:qd3 k [c] [] [(c,.cells cs)::f,VE pb pre k 7 (t.map qa9) post g]=[f,(c,.cells cs)::VE pb pre k 7 (t.map qa9) post g]:=by have h1:=qr5 (n:=99998) (b:=c) (g:=f) hcs;have h3:qgv 100000 [c] ((c,.cells cs)::f) []=([(c,.cells cs)],f):=h1;unfold qd3;simp only[hk,h3];unfold qd3;rw[qso h hne];rfl
 have hs:Heap.set ⟨n,[f,(c,.cells cs)::VE pb pre k 7 (t.map qa9) post g]⟩ k (.cells (qgj t i (.slc c 0 len cap)))=some ⟨n,[f,(c,.cells cs)::qwm pb pre k t i (.slc c 0 len cap) post g]⟩:=by simp only[Heap.set,setFs];rw[qke (hf k h.lk.1)];unfold VE;rw[qd4 hne];simp[setF,h.k_p,b1,qwm]
 have hl:=qrj hi (.slc c 0 len cap);unfold writeVar;simp[AV.cells,allSingle,AV.single,writeCells,hg,Blk.wt,hl,Heap.ready,refs,hp,hs,Blk.re]
theorem fit_rawS{N m m' n pb k c:Nat} {pre post:List AV} {g f:List (Nat × Blk)} {t:Tr} (h:Eok m pb pre k 7 (t.map qa9) post g) {i:Nat} (hi:i < t.length) (K:List Int) (cap:Cap) (hc:m<=c) (hN:N<=m) (hm:m<=m') (hf:∀j,j < m->getF j f=none) (hfc:getF c f=none) :
  FitH N (idn m) [(c,K.map qat)] ⟨n,[f,(c,.cells (K.map qat))::qwm pb pre k t i (.slc c 0 K.length cap) post g]⟩ ⟨m',[[],VE pb pre k 7 ((setKids t i K).map qa9) post g]⟩:=by
 have h2:=h.mono (ja m) (qbg (setKids t i K));have hne:t.map qa9≠[]:=by intro e;have:=jR List.length e;simp at this;subst this;simp at hi
 have hne2:(setKids t i K).map qa9≠[]:=by simp[setKids]
 have nd:=qpu h2;have ov:qce k 7 ((setKids t i K).map qa9)=qce k 7 (t.map qa9):=by rw[qbr hne,qbr hne2,jD,jD,qbt hi]
 have hx:∀e,e∈qwm pb pre k t i (.slc c 0 K.length cap) post g->Heap.get ⟨n,[f,(c,.cells (K.map qat))::qwm pb pre k t i (.slc c 0 K.length cap) post g]⟩ e.1=some e.2/\e.1 < m:=fun e he=>by
  have nd':((qwm pb pre k t i (.slc c 0 K.length cap) post g).map (·.1)).Nodup:=by have:(qwm pb pre k t i (.slc c 0 K.length cap) post g).map (·.1)=(VE pb pre k 7 ((setKids t i K).map qa9) post g).map (·.1):=(by unfold qwm VE;rw[qd4 hne2];rfl);rw[this];exact nd
  have hl:e.1 < m:=by
   simp only[qwm,jd]at he;rcases he with rfl|rfl|he
   ·exact h.lp
   ·exact h.lk.1
   ·exact h.lg e he
  refine⟨?_,hl⟩;simp only[Heap.get,getFs];rw[hf _ hl];simp only[getF,qax (show c≠e.1 by omega)];rw[qlh nd' he]
 have hall:=qix h2;constructor
 case nd1=>
  rw[j4];refine⟨by simpa using qie m,by simp,fun a ha b hb=>?_⟩;simp at hb;subst hb;obtain⟨x,hx,rfl⟩:=jw.1 ha;obtain⟨i,hi,rfl⟩:=jw.1 hx;have:i < m:=by simpa using hi
  have e:((i,i):Nat × Nat).1=i:=rfl;rw[e];omega
 case nd2=>exact qkm m
 case nd3=>simpa[Heap.ents]using nd
 case lt=>
  intro x hx;obtain⟨i,hi,rfl⟩:=jw.1 hx;have:i < m:=by simpa using hi
  show i < m';omega
 case idn=>
  intro x hx hlt;obtain⟨i,hi,rfl⟩:=jw.1 hx;rfl
 case num=>exact j6 hN hm
 case src=>
  intro e he;simp only[Heap.ents,jq,j7,jh,jv]at he;obtain⟨h1,hs⟩:=hall e he;unfold VE at he;rw[qd4 hne2]at he;simp only[jd,List.cons_append,jv]at he;have mono:∀b b',qkw (idn m) [] b b'->qkw (idn m) [(c,K.map qat)] b b':=fun b b' hb=>qp6 hb;rcases he with rfl|rfl|he
  ·obtain⟨e1,e2⟩:=hx (pb,.cells (pre++qce k 7 (t.map qa9)::post)) (by simp[qwm]);refine⟨pb,_,qe4 h1,e1,mono _ _ ?_⟩;have:=hs _ (qmf m);simp only[qkw,ov]at this ⊢;exact this
  ·obtain⟨e1,e2⟩:=hx (k,.cells (qgj t i (.slc c 0 K.length cap))) (by simp[qwm]);refine⟨k,_,qe4 h1,e1,?_⟩;have key:qb8 (idn m) [(c,K.map qat)] (qgj t i (.slc c 0 K.length cap)) (qgj t i (qa8 K)):=by
    unfold qgj;refine qgz (qgz (qau ?_) ?_) (qau (qbg _).pure)
    ·rw[qdr,(qbg _).pure];simp[qa6,qa2,qat]
    ·simp only[qb8,qas,qa8,jJ];refine .inl ⟨K.map qat,by simp[qcp],?_,by simp,(qca K).size⟩;rw[qe8];have:=ql0 (a:=[]) (b:=K.map qat) (c:=[]) rfl rfl;simpa using this
   rw[qmd]at key;exact key
  ·obtain⟨e1,e2⟩:=hx e (by simp[qwm,he]);exact⟨e.1,_,qe4 h1,e1,mono _ _ (hs _ (qmf m))⟩
 case frz=>
  intro x h;simp at h;subst h;refine⟨K.map qat,?_,qau (ql6 K),ql6 K⟩;simp[Heap.get,getFs,hfc,getF]
theorem c119(hS:qIn 93 T e93) (hH:qIn 94 T e94)
  {m pb k:Nat} {pre post:List AV} {g:List (Nat × Blk)} {t:Tr} (h:Eok m pb pre k 7 (t.map qa9) post g) (hne:t≠[]) (ht:t.length<=1000000) (hk:qcf t 400000) (fr to:Int) (hto:(qa0 t to).kids=[]) :
  CA T 119 [.ptr pb pre.length,.int .i64 fr,.int .i64 to] ⟨m,[VE pb pre k 7 (t.map qa9) post g]⟩ (.tup []) ⟨m,[VE pb pre k 7 ((qjx t fr to).map qa9) post g]⟩:=by
 have nf:∀j,j < m->getF j ([]:List (Nat × Blk))=none:=fun _ _=>rfl;have thX:∀(X:Tr),X≠[]->∀n,qco ⟨n,[[],VE pb pre k 7 (X.map qa9) post g]⟩ [7] (.agg [qce k 7 (X.map qa9)])=some (qao X):=fun X hX n=>by have hX2:=h.mono (ja m) (qbg X);refine qcx hX ?_;simp only[Heap.get,getFs];rw[nf k hX2.lk.1,qso hX2 (by simpa using hX)]
 have rdT:=fun n=>(qcs (n:=n) h nf).1;have rdN0:=fun n=>(qcs (n:=n) h nf).2;have ksf:=fun n=>q93 hS (thX t hne n) fr;have kst:=fun n=>q93 hS (thX t hne n) to;have kh:=fun n=>q94 hH (thX t hne n) ht fr to;by_cases hok:qjy t fr to=true
 case neg=>
  have e:qjx t fr to=t:=by unfold qjx;rw[jm hok]
  rw[e];cases bu:isB t fr with
  |false=>rw[bu]at ksf;refine qa1 (s0:=⟨[0,1,2,6,7],[.ptr pb pre.length,.int .i64 fr,.int .i64 to,uD,uD],[],89,⟨m,[]::[VE pb pre k 7 (t.map qa9) post g]⟩⟩) Tryz.func119 rfl rfl rfl ?_;apply qR;simp[zS,rdT,ksf];apply qag rfl;apply qa7;simp[zQ,Tryz.f119];exact⟨_,_,by simp[qas,qb8,qa6],qcv h (ja m) (ja m) fun _ _=>rfl⟩
  |true=>cases bi:isB t to with
   |false=>rw[bu]at ksf;rw[bi]at kst;refine qa1 (s0:=⟨[0,1,2,6,7],[.ptr pb pre.length,.int .i64 fr,.int .i64 to,uD,uD],[],89,⟨m,[]::[VE pb pre k 7 (t.map qa9) post g]⟩⟩) Tryz.func119 rfl rfl rfl ?_;apply qR;simp[zS,rdT,ksf,kst];apply qag rfl;apply qa7;simp[zQ,Tryz.f119];exact⟨_,_,by simp[qas,qb8,qa6],qcv h (ja m) (ja m) fun _ _=>rfl⟩
   |true=>have bh:qft t fr to=true:=(by simpa[qjy,bu,bi]using hok);rw[bu]at ksf;rw[bi]at kst;rw[bh]at kh;refine qa1 (s0:=⟨[0,1,2,6,7],[.ptr pb pre.length,.int .i64 fr,.int .i64 to,uD,uD],[],89,⟨m,[]::[VE pb pre k 7 (t.map qa9) post g]⟩⟩) Tryz.func119 rfl rfl rfl ?_;apply qR;simp[zS,rdT,ksf,kst,kh];apply qag rfl;apply qa7;simp[zQ,Tryz.f119];exact⟨_,_,by simp[qas,qb8,qa6],qcv h (ja m) (ja m) fun _ _=>rfl⟩
 case pos=>
  have ep:qjx t fr to=setKids (setKids (qpp t fr to) to.toNat ((qa0 (qpp t fr to) to).kids++(qa0 t fr).kids)) fr.toNat []:=by unfold qjx;rw[jo hok]
  rw[ep];simp only[qjy,jf,yn]at hok;obtain⟨⟨bu,bi⟩,bh⟩:=hok;rw[bu]at ksf;rw[bi]at kst;rw[bh]at kh;obtain⟨a,rfl⟩:=jy (isB_iff.1 bu).1;obtain⟨b,rfl⟩:=jy (isB_iff.1 bi).1;have ha:a < t.length:=by have:=(isB_iff.1 bu).2;omega
  have hb:b < t.length:=by have:=(isB_iff.1 bi).2;omega
  simp only[jr];obtain⟨K,hK⟩ : ∃K,K=(qa0 t (a:Int)).kids:=⟨_,rfl⟩;have hKl:K.length<=400000:=by rw[hK];exact qfr hk _
  have hbl:(qa0 t (b:Int)).kids.length<=400000:=qfr hk _;have eX:qpp t (a:Int) (b:Int)=qna t K b:=by unfold qpp;rw[<- hK]
  rw[eX,<- hK];have ixT:∀(X:Tr) (i:Nat),X≠[]->i < X.length->qaq PG 35 (qce k 7 (X.map qa9)) (.int .i64 (i:Int))=some (.ptr k (i * 7)):=fun X i hX hi=>by rw[qbr (by simpa using hX)];simp[qaq,qbn hi]
  have rdKf:∀(X:Tr) (i:Nat),X≠[]->i < X.length->∀n (f:List (Nat × Blk)),(∀j,j < m->getF j f=none)->qb2 PG ⟨n,[f,VE pb pre k 7 (X.map qa9) post g]⟩ 38 (.ptr k (i * 7+6))=some (qa8 (qa0 X (i:Int)).kids):=fun X i hX hi n f hf=>by have hX2:=h.mono (ja m) (qbg X);have hg:Heap.get ⟨n,[f,VE pb pre k 7 (X.map qa9) post g]⟩ k=some (.cells (qaa (X.map qa9))):=(by simp only[Heap.get,getFs];rw[hf k hX2.lk.1,qso hX2 (by simpa using hX)]);simp[hg,qif hi]
  have rdK:=fun X i hX hi n=>rdKf X i hX hi n [] nf;have rdKa:=rdK t a hne ha;rw[<- hK]at rdKa;have ixa:=ixT t a hne ha;have lK:∀H,qf3 PG H 38 (qa8 K)=some K.length:=fun H=>by simp[qf3,qa8]
  obtain⟨Ut,hUt⟩ : ∃Ut:Nat->Tr,Ut=fun j=>qna t (K.take j) b:=⟨_,rfl⟩;have S0:Ut 0=t:=by rw[hUt];rfl
  have Sn:Ut K.length=qna t K b:=by rw[hUt];simp
  have Sl:∀j,(Ut j).length=t.length:=fun j=>by rw[hUt];exact qij _ _ _
  have Sne:∀j,Ut j≠[]:=fun j e=>by have:=Sl j;rw[e]at this;exact hne (jO.1 this.symm)
  have Ss:∀j (hj:j < K.length),Ut (j+1)=upT b (Ut j) K[j]:=fun j hj=>by rw[hUt];show qna t (K.take (j+1)) b=_;unfold qna;rw[jj hj,yE];rfl
  have Sk:∀j i,(qa0 (Ut j) i).kids=(qa0 t i).kids:=fun j i=>by rw[hUt];exact qj0 _ _ _ _
  rw[<- Sn];clear hUt Sn eX ep;refine qa1 (s0:=⟨[0,1,2,6,7],[.ptr pb pre.length,.int .i64 (a:Int),.int .i64 (b:Int),uD,uD],[],89,⟨m,[]::[VE pb pre k 7 (t.map qa9) post g]⟩⟩) Tryz.func119 rfl rfl rfl ?_;apply qR;simp[zS,rdT,ksf,kst,kh];apply qaj rfl;apply qa5;simp;apply qR;simp[zS,rdN0,ixa,rdKa];apply qR;simp[zS];apply qa3;refine qb6 (fun j:Nat=>(⟨[0,1,2,6,7],[.ptr pb pre.length,.int .i64 (a:Int),.int .i64 (b:Int),qa8 K,.int .i64 (j:Int)],[],89,⟨m,[[],VE pb pre k 7 ((Ut j).map qa9) post g]⟩⟩ : St)) (fun j=>j<=K.length) (fun j=>K.length - j) (idn m) [] 0 (jx _)
   ⟨rfl,rfl,rfl,by simp[qb8,qas,qcm h.lp,qa2,qa8],by rw[S0];exact qp4 h (ja m) (ja m) fun _ _=>rfl⟩ ?_
  intro j hj B hB;have hX:=h.mono (ja m) (qbg (Ut j));have qfa:=fun n=>(qcs (n:=n) hX nf).1;have rdN1:=fun n=>(qcs (n:=n) hX nf).2;by_cases hlt:j < K.length
  ·have hc:(j:Int) < (K.length:Int):=(by omega);have hat:=atI hlt;have es:=Ss j hlt;have hak:=qbb (show j<=1000000000 by omega);generalize K[j]=x at *;have ksx:=fun n=>q93 hS (thX (Ut j) (Sne j) n) x;cases bx:isB (Ut j) x with
   |false=>
    rw[bx]at ksx;have es:Ut (j+1)=Ut j:=(by rw[es];unfold upT;rw[bx];rfl);have hB:=fun s' hf=>hB s' (j+1) (by omega) (by omega) hf;have fin:∀n,FitH m (idn m) [] ⟨n,[[],VE pb pre k 7 ((Ut j).map qa9) post g]⟩ ⟨m,[[],VE pb pre k 7 ((Ut (j+1)).map qa9) post g]⟩:=fun n=>(by rw[es];exact qp4 hX (ja m) (ja m) fun _ _=>rfl);have lp:=qcm h.lp;clear es bx hK hto S0 Ss Sk Sl;generalize Ut (j+1)=Y at *;generalize Ut j=X at *
    (repeat' (first
     |with_reducible apply qad
     |with_reducible apply qa3
     |(with_reducible apply rE;simp[zS, *,lK];exact rfl)
     |(with_reducible apply qaf;simp only[qab,qa4])
     |(refine qal mixed qaz (by decide +kernel) (by decide +kernel) rfl ?_;apply qdm;simp[zS,zW,qb4,qbc,qar,Heap.lay,qap, *,lK];exact rfl)
     |(with_reducible apply qav;refine⟨by repeat first|exact qc6|refine qc7 (by decide +kernel) ?_,?_⟩;simp only[qab,qa4,allPend,Heap.lay,qap])
     |apply qag rfl
     |apply qaj rfl
     |(with_reducible apply qa5;simp only[qab,qa4])))
    all_goals first|(exact hB _ ⟨idn m,[],rfl,rfl,rfl,by simp[qb8,qas,lp,qa2,qa8],fin _⟩)|(exfalso;omega)
   |true=>
    rw[bx]at ksx;obtain⟨i,rfl⟩:=jy (isB_iff.1 bx).1;have hi:i < (Ut j).length:=(by have:=(isB_iff.1 bx).2;omega);have es:Ut (j+1)=setUp (Ut j) i b:=(by rw[es];unfold upT;rw[jo bx];rfl);have ixx:=ixT (Ut j) i (Sne j) hi;have hw:=fun n=>qho (n:=n) hX hi (b:Int) nf;have hX3:=hX.mono (ja m) (qbg (setUp (Ut j) i (b:Int)));have hB:=fun s' hf=>hB s' (j+1) (by omega) (by omega) hf;have fin:∀n,FitH m (idn m) [] ⟨n,[[],VE pb pre k 7 ((setUp (Ut j) i b).map qa9) post g]⟩ ⟨m,[[],VE pb pre k 7 ((Ut (j+1)).map qa9) post g]⟩:=fun n=>(by rw[es];exact qp4 hX3 (ja m) (ja m) fun _ _=>rfl);have lp:=qcm h.lp;clear es bx hK hto S0 Ss Sk Sl;generalize setUp (Ut j) i (b:Int)=Z at *;generalize Ut (j+1)=Y at *;generalize Ut j=X at *
    (repeat' (first
     |with_reducible apply qad
     |with_reducible apply qa3
     |(with_reducible apply rE;simp[zS, *,lK];exact rfl)
     |(with_reducible apply qaf;simp only[qab,qa4])
     |(refine qal mixed qaz (by decide +kernel) (by decide +kernel) rfl ?_;apply qdm;simp[zS,zW,qb4,qbc,qar,Heap.lay,qap, *,lK];exact rfl)
     |(with_reducible apply qav;refine⟨by repeat first|exact qc6|refine qc7 (by decide +kernel) ?_,?_⟩;simp only[qab,qa4,allPend,Heap.lay,qap])
     |apply qag rfl
     |(with_reducible apply qa5;simp only[qab,qa4])))
    all_goals first|(exact hB _ ⟨idn m,[],rfl,rfl,rfl,by simp[qb8,qas,lp,qa2,qa8],fin _⟩)|(exfalso;omega)
  ·have hjn:j=K.length:=(by omega);subst hjn;have la:a < (Ut K.length).length:=(by rw[Sl];exact ha);have lb:b < (Ut K.length).length:=(by rw[Sl];exact hb);have kb:(qa0 (Ut K.length) (b:Int)).kids=[]:=(by rw[Sk _ _];exact hto);have rdKb:=rdK (Ut K.length) b (Sne _) lb;have ixb:=ixT (Ut K.length) b (Sne _) lb;rw[kb]at rdKb ⊢;rw[jv];have hX2:=hX.mono (ja m) (qbg (setKids (Ut K.length) b K));have lX2:(setKids (Ut K.length) b K).length=(Ut K.length).length:=qbt lb _;have nX2:setKids (Ut K.length) b K≠[]:=(by simp[setKids]);have rdN2:=fun n=>(qcs (n:=n) hX2 nf).2;have ixa2:=ixT (setKids (Ut K.length) b K) a nX2 (by omega);have hw2:=fun n=>qnv (n:=n) hX2 (show a < (setKids (Ut K.length) b K).length by omega) nf;have hfr:=fun n=>qxf (n:=n) hX2 (show a < (setKids (Ut K.length) b K).length by omega) (ja m) (ja m) nf;have hX3:=hX2.mono (ja m) (qbg (setKids (setKids (Ut K.length) b K) a []));generalize hXX:Ut K.length=X at *;apply qR;simp[zS,lK];refine qaj (by simp[qc5,St.get]) ?_;apply qak;simp;have sne:X≠[]:=(by rw[<- hXX];exact Sne _);have rdX:=fun n=>rdN1 n;have nf5:∀j,j < m->getF j [(m+5,Blk.cells [])]=none:=fun j hj=>(by simp[getF,qax (show m+5≠j by omega)]);have rd5:=fun n=>(qcs (n:=n) hX nf5).2;have rk5:=fun n=>rdKf X b sne lb n _ nf5;have nf20:∀c,∀j,j < m->getF j [(m+20,Blk.cells c),(m+5,Blk.cells [])]=none:=fun c j hj=>(by simp[getF,qax (show m+5≠j by omega),qax (show m+20≠j by omega)]);have rd20:=fun n=>(qcs (n:=n) hX (nf20 (K.map qat))).2;have rk20:=fun n=>rdKf X b sne lb n _ (nf20 (K.map qat));rw[kb]at rk5 rk20;have ap0:∀n,qbs PG ⟨n,[[(m+5,.cells [])],VE pb pre k 7 (X.map qa9) post g]⟩ 3 (.slc (m+5) 0 0 (.ex 0)) (qa8 [])=some (.slc (m+5) 0 0 (.ex 0),⟨n,[[(m+5,.cells [])],VE pb pre k 7 (X.map qa9) post g]⟩):=fun n=>
    qh3 (P:=PG) (elem:=3) (b:=m+5) (m:=n) (es:=[]) (g:=[]) (fs:=[VE pb pre k 7 (X.map qa9) post g]) qhz qk2 qjw rfl (by omega) (by omega) (qiw []) (qfq []) (by simp)
   have fin:∀n f c cap,m<=c->(∀j,j < m->getF j f=none)->getF c f=none->FitH m (idn m) [(c,K.map qat)] ⟨n,[f,(c,.cells (K.map qat))::qwm pb pre k X b (.slc c 0 K.length cap) post g]⟩ ⟨m,[[],VE pb pre k 7 ((setKids X b K).map qa9) post g]⟩:=fun n f c cap h1 h2 h3=>fit_rawS hX lb K cap h1 (ja m) (ja m) h2 h3;have lp:=qcm h.lp;by_cases hK0:K=[]
   ·subst hK0;have hws:=fun n=>qnu (n:=n) (c:=m+5) (f:=[]) hX lb (cs:=[]) rfl 0 (.ex 0) (by omega) nf;clear hK S0 Ss Sk Sl hto rdKa ixa;repeat apply wq
    refine qc4 mixed qaz (by decide +kernel) fun B_ hB_=>?_;have hD_:ahead B_ 3 14=false/\ahead B_ 3 16=false/\ahead B_ 3 19=true/\ahead B_ 5 14=true/\ahead B_ 5 16=true/\ahead B_ 5 19=true/\ahead B_ 9 14=true/\ahead B_ 9 16=true/\ahead B_ 9 19=true/\ahead B_ 13 14=true/\ahead B_ 13 16=true/\ahead B_ 13 19=true/\ahead B_ 14 3=false/\ahead B_ 14 9=false/\ahead B_ 14 13=false/\ahead B_ 16 3=false/\ahead B_ 16 9=false/\ahead B_ 16 13=false/\ahead B_ 19 3=false/\ahead B_ 19 9=false/\ahead B_ 19 13=false:=(by rw[hB_];decide +kernel);apply qhi B_;simp[zS,qbc,qar,qb4,qbh,qan,qbd,qba,Heap.lay,qap,qhh,qhg,qei,qeh,qef,qeg,qew,qel,qdj,qdk,qeq,qep,qen,qeo,qet,qeu,qes,qer,hD_,rdX,ixb,rdKb,ap0,hws,rd5,rk5];exact rfl;refine⟨_,rfl,?_,?_⟩;simp[zS,qbh,qan,qc1,qc9,qd2,hD_,rdX,ixb,rdKb,ap0,hws,rd5,rk5];try simp[allPend,Heap.lay,qap,qab]
    refine .fit (s':=(⟨[0,1,2,6,7],[.ptr pb pre.length,.int .i64 (a:Int),.int .i64 (b:Int),qa8 [],.int .i64 0],[],89,⟨m,[[],VE pb pre k 7 ((setKids X b []).map qa9) post g]⟩⟩ : St)) (idn m) [(m+5,[])] ⟨rfl,rfl,rfl,by simp[qb8,qas,lp,qa2,qa8],fin _ [] (m+5) (.ex 0) (by omega) nf rfl⟩ ?_;apply qR;simp[zS,rdN2,ixa2,hw2];exact⟨[],rfl,_,_,by simp[oneOr,qas,qb8,qa6],hfr _⟩
   ·have apK:=qlq (b:=m+5) (m:=m+20) [] [VE pb pre k 7 (X.map qa9) post g] hK0 (by omega) (by omega);have hws:=fun n=>qnu (n:=n) (c:=m+20) (f:=[(m+5,.cells [])]) hX lb (cs:=K.map qat) (ql6 K) K.length (.rest 1) (by omega) nf5;clear hK S0 Ss Sk Sl hto rdKa ixa;repeat apply wq
    refine qc4 mixed qaz (by decide +kernel) fun B_ hB_=>?_;have hD_:ahead B_ 3 14=false/\ahead B_ 3 16=false/\ahead B_ 3 19=true/\ahead B_ 5 14=true/\ahead B_ 5 16=true/\ahead B_ 5 19=true/\ahead B_ 9 14=true/\ahead B_ 9 16=true/\ahead B_ 9 19=true/\ahead B_ 13 14=true/\ahead B_ 13 16=true/\ahead B_ 13 19=true/\ahead B_ 14 3=false/\ahead B_ 14 9=false/\ahead B_ 14 13=false/\ahead B_ 16 3=false/\ahead B_ 16 9=false/\ahead B_ 16 13=false/\ahead B_ 19 3=false/\ahead B_ 19 9=false/\ahead B_ 19 13=false:=(by rw[hB_];decide +kernel);apply qhi B_;simp[zS,qbc,qar,qb4,qbh,qan,qbd,qba,Heap.lay,qap,qhh,qhg,qei,qeh,qef,qeg,qew,qel,qdj,qdk,qeq,qep,qen,qeo,qet,qeu,qes,qer,hD_,rdX,ixb,rdKb,ap0,apK,hws,rd5,rk5,rd20,rk20];exact rfl;refine⟨_,rfl,?_,?_⟩;simp[zS,qbh,qan,qc1,qc9,qd2,hD_,rdX,ixb,rdKb,ap0,apK,hws,rd5,rk5,rd20,rk20];try simp[allPend,Heap.lay,qap,qab]
    refine .fit (s':=(⟨[0,1,2,6,7],[.ptr pb pre.length,.int .i64 (a:Int),.int .i64 (b:Int),qa8 K,.int .i64 (K.length:Int)],[],89,⟨m,[[],VE pb pre k 7 ((setKids X b K).map qa9) post g]⟩⟩ : St)) (idn m) [(m+20,K.map qat)] ⟨rfl,rfl,rfl,by simp[qb8,qas,lp,qa2,qa8],fin _ [(m+5,.cells [])] (m+20) (.rest 1) (by omega) nf5 (by simp[getF,qax (show m+5≠m+20 by omega)])⟩ ?_;apply qR;simp[zS,rdN2,ixa2,hw2];exact⟨[],rfl,_,_,by simp[oneOr,qas,qb8,qa6],hfr _⟩
theorem c119S(hc0:qIn 93 T e93) (hc1:qIn 94 T e94) {s:SS} (ne:s.tree≠[]) (a1:Int) (b1:Int) (ht:s.tree.length<=1000000) (hk:qcf s.tree 400000) (hto:(qa0 s.tree b1).kids=[]):SC T 119 [.int .i64 a1,.int .i64 b1] s (.tup []) ({ s with tree:=qjx s.tree a1 b1 }):=by have g0:=@vg0;have v0:=@vset;exact SC.of (c119 (T:=T) hc0 hc1 (ok_S s (k:=1) (m:=2) (by omega) (by omega)) ne ht hk a1 b1 hto) rfl (qma ne _ _)
def e119S:Entry PG:=mkS 119 [[],[]] (fun z:Int × Int=>[.int .i64 z.1,.int .i64 z.2]) (fun z s=>(s.tree.length<=1000000)/\(qcf s.tree 400000)/\((qa0 s.tree z.2).kids=[])) (fun z s=>.tup []) (fun z s=>{ s with tree:=qjx s.tree z.1 z.2 }) fun z s ne h=>⟨c119S (T:=[e93,e94]) rfl rfl ne z.1 z.2 h.1 h.2.1 h.2.2,by simp[qa6,qa2],by simp[qa2,qa6],qma ne _ _⟩
theorem k119S(hT:qac 119 T=some e119S.g) {s:SS} (ne:s.tree≠[]) (a1:Int) (b1:Int) (ht:s.tree.length<=1000000) (hk:qcf s.tree 400000) (hto:(qa0 s.tree b1).kids=[]) {n k:Nat} {fr:List (Nat × Blk)} (k0:0 < k) (kn:k < n) (of:qg5 k fr):qb5 (ctx T) (.fn 119) [.ptr 0 0,.int .i64 a1,.int .i64 b1] ⟨n,[fr,VS k s]⟩=some (.tup [],⟨n+1,[fr,VS n ({ s with tree:=qjx s.tree a1 b1 })]⟩):=
 qcr hT inj_140 (a1,b1) ne ⟨ht,hk,hto⟩ (by simp[qa6,qa2]) (by simp[qbl,qam]) k0 kn of
theorem eqAg(a b:At1):qex PG .eql 105 (.agg [.str a.1,.str a.2]) (.agg [.str b.1,.str b.2])=some (.bool (decide (a=b))):=by have h:qex PG .eql 105 (.agg [.str a.1,.str a.2]) (.agg [.str b.1,.str b.2])=(eqA PG 105 (qct a) (qct b)).bind fun e=>some (.bool e):=rfl;rw[h,eqAt];rfl
theorem c211(A:List At1) (B:List At1) (ha:A.length<=100000) (hb:B.length<=100000):CA T 211 [qae A,qae B] zH (.bool (qfb A B)) zH:=by
 refine qa1 (s0:=⟨[0,1,4,5,6,7],[qae A,qae B,uD,uD,uD,uD],[],34,⟨0,[[]]⟩⟩) Tryz.func211 rfl rfl rfl ?_;apply qR;simp[zS];apply qR;simp[zS];refine qa3 (qb6 (fun i:Nat=>(⟨[0,1,4,5,6,7],[qae A,qae B,.bool false,.int .i64 (i:Int),uD,uD],[],34,⟨0,[[]]⟩⟩ : St))
  (fun i=>i<=A.length/\qfb (A.drop i) B=qfb A B) (fun i=>A.length - i) [] [] 0 ⟨jx _,by simp⟩ ⟨rfl,rfl,rfl,by simp[qb8,qas,qa2,qa6,qae],FitH.nothing⟩ ?_)
 rintro i ⟨hi,hinv⟩ S hS;by_cases h:i < A.length
 ·have hc:(i:Int) < (A.length:Int):=by omega
  have hix:=atA h;have hak:=qbb (show i<=1000000000 by omega);have e1:qfb (A.drop i) B=(B.contains A[i] && qfb (A.drop (i+1)) B):=by rw[List.drop_eq_getElem_cons h];rfl
  rw[e1]at hinv;generalize A[i]=a at *
  (repeat' (first
   |with_reducible apply qad
   |with_reducible apply qa3
   |(with_reducible apply rE;simp[zS, *,qiq];exact rfl)
   |(with_reducible apply qaf;simp only[qab,qa4])
   |apply qag rfl
   |(with_reducible apply qa5;simp only[qab,qa4])))
  all_goals first|(skip)|(exfalso;omega)
  refine(qb6 (fun j:Nat=>(⟨[0,1,4,5,6,7],[qae A,qae B,.bool false,.int .i64 (i:Int),.bool ((B.take j).contains a),.int .i64 (j:Int)],[],34,⟨0,[[]]⟩⟩ : St))
   (fun j=>j<=B.length) (fun j=>B.length - j) [] [] 0 (jx _) ⟨rfl,rfl,rfl,by simp[qb8,qas,qa2,qa6,qae],FitH.nothing⟩ ?_)
  rintro j hj S2 hS2;by_cases h2:j < B.length
  ·have hc2:(j:Int) < (B.length:Int):=(by omega);have hix2:=atA h2;have hak2:=qbb (show j<=1000000000 by omega);have e2:(B.take (j+1)).contains a=((B.take j).contains a || decide (a=B[j])):=(by rw[qjo h2,List.contains_append];congr 1;simp[List.contains_cons]);generalize B[j]=b at *;have q:=eqAg a b;have hn:=hS2;generalize (B.take j).contains a=f at *;have fin:∀s',(∃σ Φ,Fit 0 σ Φ s' (⟨[0,1,4,5,6,7],[qae A,qae B,.bool false,.int .i64 (i:Int),.bool (or f (decide (a=b))),.int .i64 ((j+1:Nat):Int)],[],34,⟨0,[[]]⟩⟩ : St))->S2 s':=fun s' hf=>(by rw[show or f (decide (a=b))=(B.take (j+1)).contains a from e2.symm]at hf;exact hS2 s' (j+1) (by omega) (by omega) hf);clear hS2 hn e2;generalize decide (a=b)=d at *;cases f with
   |true=>
    (repeat' (first
     |with_reducible apply qad
     |with_reducible apply qa3
     |(with_reducible apply rE;simp[zS, *,qiq,q];exact rfl)
     |(with_reducible apply qaf;simp only[qab,qa4])
     |(refine qal mixed qaz (by decide +kernel) (by decide +kernel) rfl ?_;apply qdm;simp[zS,zW,qb4,qbc,qar,Heap.lay,qap, *,qiq,q];exact rfl)
     |(with_reducible apply qav;refine⟨by repeat first|exact qc6|refine qc7 (by decide +kernel) ?_,?_⟩;simp only[qab,qa4,allPend,Heap.lay,qap])
     |apply qag rfl
     |(with_reducible apply qa5;simp only[qab,qa4])))
    all_goals first|(exact fin _ ⟨[],[],⟨rfl,rfl,rfl,by simp[qb8,qas,qa2,qa6,qae],FitH.nothing⟩⟩)|(exfalso;omega)
   |false=>
    cases d with
    |true=>
     (repeat' (first
      |with_reducible apply qad
      |with_reducible apply qa3
      |(with_reducible apply rE;simp[zS, *,qiq,q];exact rfl)
      |(with_reducible apply qaf;simp only[qab,qa4])
      |(refine qal mixed qaz (by decide +kernel) (by decide +kernel) rfl ?_;apply qdm;simp[zS,zW,qb4,qbc,qar,Heap.lay,qap, *,qiq,q];exact rfl)
      |(with_reducible apply qav;refine⟨by repeat first|exact qc6|refine qc7 (by decide +kernel) ?_,?_⟩;simp only[qab,qa4,allPend,Heap.lay,qap])
      |apply qag rfl
      |(with_reducible apply qa5;simp only[qab,qa4])))
     all_goals first|(exact fin _ ⟨[],[],⟨rfl,rfl,rfl,by simp[qb8,qas,qa2,qa6,qae],FitH.nothing⟩⟩)|(exfalso;omega)
    |false=>
     (repeat' (first
      |with_reducible apply qad
      |with_reducible apply qa3
      |(with_reducible apply rE;simp[zS, *,qiq,q];exact rfl)
      |(with_reducible apply qaf;simp only[qab,qa4])
      |(refine qal mixed qaz (by decide +kernel) (by decide +kernel) rfl ?_;apply qdm;simp[zS,zW,qb4,qbc,qar,Heap.lay,qap, *,qiq,q];exact rfl)
      |(with_reducible apply qav;refine⟨by repeat first|exact qc6|refine qc7 (by decide +kernel) ?_,?_⟩;simp only[qab,qa4,allPend,Heap.lay,qap])
      |apply qag rfl
      |(with_reducible apply qa5;simp only[qab,qa4])))
     all_goals first|(exact fin _ ⟨[],[],⟨rfl,rfl,rfl,by simp[qb8,qas,qa2,qa6,qae],FitH.nothing⟩⟩)|(exfalso;omega)
  ·have hc2:¬ (j:Int) < (B.length:Int):=(by omega);have e3:(B.take j).contains a=B.contains a:=(by rw[ju (by omega)]);rw[e3];cases hf:B.contains a with
   |false=>
    rw[hf]at hinv;simp only[yY]at hinv;rw[<- hinv];clear hinv e1 e3 hf hS hS2
    exact zL1
   |true=>
    rw[hf]at hinv;simp only[yT]at hinv
    exact zL1
 ·have hc:¬ (i:Int) < (A.length:Int):=by omega
  have e:qfb A B=true:=by rw[<- hinv,List.drop_of_length_le (by omega)];rfl
  rw[e];clear hinv e hS
  exact zL1
theorem inj_211(x y:List At1 × List At1) (h:(fun z:List At1 × List At1=>([qae z.1,qae z.2]:List AV)) x=(fun z:List At1 × List At1=>([qae z.1,qae z.2]:List AV)) y):x=y:=by obtain⟨x0,x1⟩:=x;obtain⟨y0,y1⟩:=y;simp only[jl,jJ]at h;obtain⟨h0,h1⟩:=h;have g0:x0=y0:=qdp h0;have g1:x1=y1:=qdp h1;subst g0 g1;rfl
def e211:Entry PG:=mkE 211 [[2],[2]] (fun z:List At1 × List At1=>[qae z.1,qae z.2]) (fun z=>(z.1.length<=100000)/\(z.2.length<=100000)) (fun z=>.bool (qfb z.1 z.2)) fun z h=>c211 (T:=[])  z.1 z.2 h.1 h.2
theorem k211(hT:qIn 211 T e211) (A:List At1) (B:List At1) (ha:A.length<=100000) (hb:B.length<=100000) (H:Heap):qb5 (ctx T) (.fn 211) [qae A,qae B] H=some (.bool (qfb A B),H):=
 qb9 hT inj_211 (A,B) ⟨ha,hb⟩ rfl (by simp[qam])
theorem c183(hc0:qIn 211 T e211) (A:List At1) (B:List At1) (ha:A.length<=100000) (hb:B.length<=100000):CA T 183 [qae A,qae B] zH (.bool (qgp A B)) zH:=by
 have kc0:=@k211 T hc0;have k1:=fun H=>kc0 A B ha hb H;have k2:=fun H=>kc0 B A hb ha H;have e:qgp A B=(decide (A.length=B.length) && qfb A B && qfb B A):=rfl;rw[e];clear kc0 e;generalize qfb A B=b1 at *;generalize qfb B A=b2 at *;refine qa1 (s0:=⟨[0,1,4],[qae A,qae B,uD],[],20,⟨0,[[]]⟩⟩) Tryz.func183 rfl rfl rfl ?_
 (repeat' (first
  |with_reducible apply qad
  |(with_reducible apply rE;simp[zS, *,qiq];exact rfl)
  |(with_reducible apply qaf;simp only[qab,qa4])
  |(with_reducible refine qdd (fun hc=>?_) (fun hc=>?_)<;>(have hd:=hc;(try simp at hd);(try subst hd);apply qpn;simp[zS, *,qiq];exact rfl))
  |(with_reducible apply qa7;simp[zQ,Tryz.f183])))
 all_goals first|exact qai rfl (by first|(simp[Int.natCast_inj, *];done)|(simp_all [Int.natCast_inj];done))|(exfalso;omega)
def e183:Entry PG:=mkE 183 [[2],[2]] (fun z:List At1 × List At1=>[qae z.1,qae z.2]) (fun z=>(z.1.length<=100000)/\(z.2.length<=100000)) (fun z=>.bool (qgp z.1 z.2)) fun z h=>c183 (T:=[e211]) rfl z.1 z.2 h.1 h.2
theorem k183(hT:qIn 183 T e183) (A:List At1) (B:List At1) (ha:A.length<=100000) (hb:B.length<=100000) (H:Heap):qb5 (ctx T) (.fn 183) [qae A,qae B] H=some (.bool (qgp A B),H):=
 qb9 hT inj_211 (A,B) ⟨ha,hb⟩ rfl (by simp[qam])
theorem qrb{t:Tr} {i:Int} (h:isB t i=true):qcd t i=qa0 t i:=by unfold qcd;rw[jo h]
theorem c108(hc0:qIn 182 T e182) (hc1:qIn 183 T e183) (t:Tr) (a:Int) (b:Int) (hk:∀n,n∈t->n.attrs.length<=100000):CA T 108 [qao t,.int .i64 a,.int .i64 b] zH (.bool (zcr t b a)) zH:=by
 have kc1:=@k183 T hc1;have ki:=fun x H=>k182 hc0 t x H;simp only[qao]at ki;have e:zcr t b a=(isB t b && isB t a && alkN (qcd t a) (qcd t b)):=rfl;rw[e];clear e;cases h1:isB t a with
 |false=>
  have k1:=fun H=>ki a H;rw[h1]at k1;clear ki;refine qa1 (s0:=⟨[0,1,2,3,6,7,8],[qao t,.int .i64 a,.int .i64 b,uD,uD,uD,uD],[],48,⟨0,[[]]⟩⟩) Tryz.func108 rfl rfl rfl ?_
  exact zL1
 |true=>
  cases h2:isB t b with
  |false=>
   have k1:=fun H=>ki a H;have k2:=fun H=>ki b H;rw[h1]at k1;rw[h2]at k2;clear ki;refine qa1 (s0:=⟨[0,1,2,3,6,7,8],[qao t,.int .i64 a,.int .i64 b,uD,uD,uD,uD],[],48,⟨0,[[]]⟩⟩) Tryz.func108 rfl rfl rfl ?_
   exact zL1
  |true=>
   have k1:=fun H=>ki a H;have k2:=fun H=>ki b H;rw[h1]at k1;rw[h2]at k2;obtain⟨p1,p2⟩:=isB_iff.1 h1;obtain⟨q1,q2⟩:=isB_iff.1 h2;have x1:=atX p1 p2;have x2:=atX q1 q2;have m1:=hk _ (qdo p1 p2);have m2:=hk _ (qdo q1 q2);rw[qrb h1,qrb h2];generalize qa0 t a=x at *;generalize qa0 t b=y at *;have kA:=fun H=>kc1 x.attrs y.attrs m1 m2 H;clear ki kc1;have e:alkN x y=(decide (x.space=y.space) && decide (x.name=y.name) && qgp x.attrs y.attrs):=rfl;rw[e];clear e;generalize qgp x.attrs y.attrs=b1 at *;have hob:zax 65 objs=false:=rfl;have sA:∀L,(qae L).single=true:=fun _=>rfl;have sI:∀L,(qa8 L).single=true:=fun _=>rfl;have rA:∀L,refs 6 (qae L)=[]:=fun _=>rfl;have rI:∀L,refs 6 (qa8 L)=[]:=fun _=>rfl;refine qa1 (s0:=⟨[0,1,2,3,6,7,8],[qao t,.int .i64 a,.int .i64 b,uD,uD,uD,uD],[],48,⟨0,[[]]⟩⟩) Tryz.func108 rfl rfl rfl ?_;apply qR;simp[zS,qao];apply qR;simp[zS,k1,k2];apply qaj rfl;apply qa5;simp;repeat apply wq
   refine qc4 mixed qaz (by decide +kernel) fun B_ hB_=>?_;have hD_:ahead B_ 1 12=true/\ahead B_ 1 13=true/\ahead B_ 4 12=true/\ahead B_ 4 13=true/\ahead B_ 6 12=false/\ahead B_ 6 13=true/\ahead B_ 9 12=false/\ahead B_ 9 13=true/\ahead B_ 10 12=true/\ahead B_ 10 13=true/\ahead B_ 11 12=true/\ahead B_ 11 13=true/\ahead B_ 12 1=false/\ahead B_ 12 4=false/\ahead B_ 12 6=false/\ahead B_ 12 9=false/\ahead B_ 13 1=false/\ahead B_ 13 4=false/\ahead B_ 13 6=false/\ahead B_ 13 9=false:=(by rw[hB_];decide +kernel);apply qhi B_;simp[zS,qbc,qar,qb4,qbh,qan,qbd,qba,Heap.lay,qap,qhh,qhg,qei,qeh,qef,qeg,qew,qel,qdj,qdk,qeq,qep,qen,qeo,qet,qeu,qes,qer,hD_,x1,x2,Nd.cs,qat,sA,sI,rA,rI,hob];exact rfl;refine⟨_,rfl,?_,?_⟩;simp[zS,qbh,qan,qc1,qc9,qd2,hD_,x1,x2,Nd.cs,qat,sA,sI,rA,rI,hob];try simp[allPend,Heap.lay,qap,qab]
   exact zL0
theorem inj_108(x y:Tr × Int × Int) (h:(fun z:Tr × Int × Int=>([qao z.1,.int .i64 z.2.1,.int .i64 z.2.2]:List AV)) x=(fun z:Tr × Int × Int=>([qao z.1,.int .i64 z.2.1,.int .i64 z.2.2]:List AV)) y):x=y:=by obtain⟨x0,x1,x2⟩:=x;obtain⟨y0,y1,y2⟩:=y;simp only[jl,jJ]at h;obtain⟨h0,h1,h2⟩:=h;have g0:x0=y0:=qem h0;have g1:x1=y1:=AV.int.inj h1 |>.2;have g2:x2=y2:=AV.int.inj h2 |>.2;subst g0 g1 g2;rfl
def e108:Entry PG:=mkE 108 [[7],[],[]] (fun z:Tr × Int × Int=>[qao z.1,.int .i64 z.2.1,.int .i64 z.2.2]) (fun z=>(∀n,n∈z.1->n.attrs.length<=100000)) (fun z=>.bool (zcr z.1 z.2.2 z.2.1)) fun z h=>c108 (T:=[e182,e183]) rfl rfl z.1 z.2.1 z.2.2 h
theorem q108(hT:qIn 108 T e108) {H:Heap} {a0:AV} {t:Tr} (b0:qco H [7] a0=some (qao t)) (a:Int) (b:Int) (hk:∀n,n∈t->n.attrs.length<=100000):qb5 (ctx T) (.fn 108) [a0,.int .i64 a,.int .i64 b] H=some (.bool (zcr t b a),H):=
 qb9 hT inj_108 (t,a,b) hk rfl (by simp[b0])
theorem za2{ρ:Type} (f:Nat->Option ρ) (n:Nat) (d:ρ):(qm6 f (n+1)).getD d=match f n with
  |some r=>r
  |none=>(qm6 f n).getD d:=by
 show (match f n with
  |some r=>some r
  |none=>qm6 f n).getD d=_
 cases f n<;>rfl
theorem c112(hc0:qIn 182 T e182) (hc1:qIn 107 T e107) (t:Tr) (L:List Int) (W:Str) (hL:L.length<=1000000):CA T 112 [qao t,qa8 L,.str W] zH (.int .i64 (qfc t L W)) zH:=by
 have ki:=fun x H=>k182 hc0 t x H;simp only[qao]at ki;have ke:=fun H=>k107 hc1 hL H;obtain⟨e0,e1⟩:=qse L;obtain⟨e,he⟩ : ∃e:Nat,qsq L=(e:Int):=jy e0;have ef:qfc t L W=(qm6 (fun j=>qtx t W ((L.drop e).getD j 0)) (L.length - e)).getD (-1):=by unfold qfc qvj;rw[he];simp
 rw[he]at ke e1;have lnL:=fun H=>qgi (H:=H) (L:=L);have hw0:wr .i64 ((L.length:Int) - 1)=some ((L.length:Int) - 1):=qbi (by omega) (by omega);refine qa1 (s0:=⟨[0,1,2,3,6,7],[qao t,qa8 L,.str W,uD,uD,uD],[],64,⟨0,[[]]⟩⟩) Tryz.func112 rfl rfl rfl ?_;apply qR;simp[zS,qao];apply qR;simp[zS,lnL,hw0];refine qa3 (qb6 (fun q:Nat=>(⟨[0,1,2,3,6,7],[uD,qa8 L,.str W,.ptr 0 0,.int .i64 0,.int .i64 ((q:Int) - 1)],[],64,⟨1,[[(0,.cells [qb3 t])]]⟩⟩ : St)) (fun q=>e<=q/\q<=L.length/\(qm6 (fun j=>qtx t W ((L.drop e).getD j 0)) (q - e)).getD (-1)=qfc t L W) (fun q=>q) [(0,0)] [] L.length ⟨by omega,ja _,ef.symm⟩
  ⟨rfl,rfl,rfl,by simp[qb8,qas,qaw,qa2,qa6],FitH.id1 (g:=[(0,.cells [qb3 t])]) (by simp) (by simp) (by simp[zG,qa6])⟩ ?_)
 rintro q ⟨hq,hq2,hinv⟩ B hB;by_cases h:e=q
 ·have hlt:¬ ((e:Int)<=(q:Int) - 1):=by omega
  rw[show q - e=0 by omega]at hinv;simp only[qm6,yj]at hinv;rw[<- hinv];subst h;clear hinv ef hB he hlt
  exact zL0
 ·obtain⟨p,rfl⟩ : ∃p,q=p+1:=⟨q - 1,by omega⟩;have hlt:((e:Int)<=(p:Int)):=by omega
  have eq1:(((p+1:Nat):Int) - 1)=(p:Int):=by omega
  rw[eq1];have hp:p < L.length:=by omega
  have hwp:wr .i64 ((p:Int) - 1)=some ((p:Int) - 1):=qbi (by omega) (by omega);have hat:=atI hp;have hg:(L.drop e).getD (p - e) 0=L[p]:=by rw[List.getD_eq_getElem?_getD,List.getElem?_drop,show e+(p - e)=p by omega,List.getElem?_eq_getElem hp];rfl
  have hr:=za2 (fun j=>qtx t W ((L.drop e).getD j 0)) (p - e) (-1);rw[hg,show p - e+1=p+1 - e by omega]at hr;rw[hr]at hinv;have kii:=fun H=>ki L[p] H;clear ki hr hg;have hn:=fun(h:(qm6 (fun j=>qtx t W ((L.drop e).getD j 0)) (p - e)).getD (-1)=qfc t L W) s' hf=>hB s' p (by omega) ⟨by omega,by omega,h⟩ hf;have fin:∀n,FitH 0 [(0,0)] [] ⟨n,[[(0,.cells [qb3 t])]]⟩ ⟨1,[[(0,.cells [qb3 t])]]⟩:=fun n=>FitH.id1 (g:=[(0,.cells [qb3 t])]) (by simp) (by simp) (by simp[zG,qa6]);clear hB;generalize qm6 (fun j=>qtx t W ((L.drop e).getD j 0)) (p - e)=R at *;generalize qfc t L W=F at *;generalize L[p]=i at *;have hgo:qtx t W i=if (isB t i && decide ((qcd t i).kind=1) && decide ((qcd t i).space=0) && decide ((qcd t i).name=W))=true then some i else none:=rfl;rw[hgo]at hinv;clear hgo;cases h1:isB t i with
  |false=>
   rw[h1]at hinv kii;simp only[yY,jz,jM]at hinv;have hn:=hn hinv;clear hinv
   exact zL0
  |true=>
   obtain⟨p1,p2⟩:=isB_iff.1 h1;have x1:=atX p1 p2;rw[h1]at hinv kii;rw[qrb h1]at hinv;generalize qa0 t i=x at *;simp only[yT]at hinv;by_cases c1:x.kind=1
   ·by_cases c2:x.space=0
    ·by_cases c3:x.name=W
     ·simp only[c1,c2,c3,yz,Jd,jQ]at hinv;rw[<- hinv];clear hn hinv
      exact zL1
     ·simp only[c1,c2,c3,yz,yr,Bool.and_false,jz,jM]at hinv;have hn:=hn hinv;clear hinv
      exact zL1
    ·simp only[c1,c2,yz,yr,Bool.and_false,yY,jz,jM]at hinv;have hn:=hn hinv;clear hinv
     exact zL1
   ·simp only[c1,yr,yY,jz,jM]at hinv;have hn:=hn hinv;clear hinv
    exact zL1
def e112:Entry PG:=mkE 112 [[7],[1],[]] (fun z:Tr × List Int × Str=>[qao z.1,qa8 z.2.1,.str z.2.2]) (fun z=>(z.2.1.length<=1000000)) (fun z=>.int .i64 (qfc z.1 z.2.1 z.2.2)) fun z h=>c112 (T:=[e182,e107]) rfl rfl z.1 z.2.1 z.2.2 h
theorem q112(hT:qIn 112 T e112) {H:Heap} {a0:AV} {t:Tr} (b0:qco H [7] a0=some (qao t)) {a1:AV} {L:List Int} (b1:qco H [1] a1=some (qa8 L)) (W:Str) (hL:L.length<=1000000):qb5 (ctx T) (.fn 112) [a0,a1,.str W] H=some (.int .i64 (qfc t L W),H):=
 qb9 hT inj_46 (t,L,W) hL rfl (by simp[b0,b1])
def dkD(mn f:Nat) (M:List Int):List Int:=if 3<=mn then M.eraseIdx f else M
theorem dkD_go{mn f:Nat} {M:List Int} (x:Int) (h:mn < 3\/M.length≠f):dkD mn f (M++[x])=dkD mn f M++[x]:=by
 unfold dkD;split
 ·rename_i h3;have hf:M.length≠f:=h.resolve_left (by omega);rcases jF f M.length with h1|h1
  ·rw[List.eraseIdx_append_of_lt_length h1]
  ·rw[List.eraseIdx_append_of_length_le h1,Jp (by omega:M.length<=f)];obtain⟨q,hq⟩ : ∃q,f - M.length=q+1:=⟨f - M.length - 1,by omega⟩;rw[hq];rfl
 ·rfl
theorem dkD_stop{mn f:Nat} {M:List Int} (x:Int) (h:¬ mn < 3) (e:M.length=f):dkD mn f (M++[x])=dkD mn f M:=by unfold dkD;rw[jo (by omega),jo (by omega),List.eraseIdx_append_of_length_le (by omega),Jp (by omega:M.length<=f),e];simp
theorem dkD_len{mn f:Nat} (M:List Int):(dkD mn f M).length<=M.length:=by
 unfold dkD;split
 ·exact Jt _ _
 ·exact ja _
theorem zbk{p:Int->Bool}:∀{M:List Int} {k:Nat},0 < M.countP p->0<=qb7 p M k
 |[],_,h=>by simp at h
 |x::r,k,h=>by
  unfold qb7;split
  ·omega
  next hx=>rw[Js,jm hx]at h;exact zbk h
theorem c37(hE:qIn 107 T e107) (hA:qIn 108 T e108) (t:Tr) (L:List Int) (i:Int) (hL:L.length<=100000) (hk:∀n,n∈t->n.attrs.length<=100000) :
  CA T 37 [qao t,qa8 L,.int .i64 i] zH (qce 0 1 ((qg9 t L i).map qat)) ⟨1,[qcg 0 ((qg9 t L i).map qat)]⟩:=by
 have ke:=fun H=>k107 hE (L:=L) (by omega) H;have ka:=fun H x=>q108 hA (H:=H) (a0:=.agg [qb3 t]) (t:=t) (by simp[qco,okV,qa6,qao]) x i hk;obtain⟨e0,e1⟩:=qse L;obtain⟨e,he⟩ : ∃e:Nat,qsq L=(e:Int):=jy e0;rw[he]at ke e1;have lnL:=fun H=>qgi (H:=H) (L:=L);have hw0:wr .i64 ((L.length:Int) - 1)=some ((L.length:Int) - 1):=qbi (by omega) (by omega);obtain⟨p,hp⟩ : ∃p,p=zcr t i:=⟨_,rfl⟩;obtain⟨F,hF⟩ : ∃F,F=qb7 p (L.drop e) e:=⟨_,rfl⟩;obtain⟨mn,hmn⟩ : ∃mn,mn=(L.drop e).countP p:=⟨_,rfl⟩;have eP:qg9 t L i=dkD mn F.toNat L++[i]:=by unfold qg9 qr7 dkD;rw[he,<- hp,hF,hmn];rfl
 rw[eP];have kap:=fun H x=>ka H x;rw[<- hp]at kap;clear ka eP;have mnl:mn<=100000:=by rw[hmn];exact j6 List.countP_le_length (by simp;omega)
 refine qa1 (s0:=⟨[0,1,2,3,6,7,8,9,10,11],[qao t,qa8 L,.int .i64 i,uD,uD,uD,uD,uD,uD,uD],[],55,⟨0,[[]]⟩⟩) Tryz.func37 rfl rfl rfl ?_;apply qR;simp[zS,qao];apply qR;simp[zS];apply qR;simp[zS,lnL,hw0];refine qa3 (qb6 (fun q:Nat=>(⟨[0,1,2,3,6,7,8,9,10,11],[uD,qa8 L,.int .i64 i,.ptr 0 0,.nilS,.int .i64 (qb7 p (L.drop q) q),.int .i64 ((L.drop q).countP p:Nat),.int .i64 ((q:Int) - 1),uD,uD],[],55,⟨1,[[(0,.cells [qb3 t])]]⟩⟩ : St)) (fun q=>e<=q/\q<=L.length) (fun q=>q) [(0,0)] [] L.length ⟨by omega,ja _⟩
  ⟨rfl,rfl,rfl,by simp[qb8,qas,qaw,qa2,qa6,qb7],FitH.id1 (g:=[(0,.cells [qb3 t])]) (by simp) (by simp) (by simp[zG,qa6])⟩ ?_)
 rintro q ⟨hq,hq2⟩ B hB;by_cases h:e=q
 ·subst h;rw[<- hF,<- hmn];clear hB;have hfalse:¬ ((e:Int)<=(e:Int) - 1):=by omega
  apply qR;simp[zS,ke,lnL];refine qbe (t:=false) (by simp[qc5,St.get];omega) (fun h=>by cases h) fun _=>?_;apply qak;simp;apply qR;simp[zS];apply qR;simp[zS];have fits:∀(k:Nat) (O:List Int) (n:Nat) (f:List (Nat × Blk)),(O≠[]->Heap.get ⟨n,[f]⟩ k=some (.cells (O.map qat)))->Heap.get ⟨n,[f]⟩ 0=some (.cells [qb3 t])->k≠0->FitH 0 [(k,1),(0,0)] [] ⟨n,[f]⟩ ⟨2,[qcg 1 (O.map qat)++[(0,.cells [qb3 t])]]⟩:=fun k O n f h1 h2 h3=>
   FitH.own1 (k:=1) (b:=k) (m':=2) (τ:=[(0,0)]) (g:=[(0,.cells [qb3 t])]) (qca O) (fun h=>by rw[qe8];exact h1 fun e=>h (by rw[e];rfl)) (by simp;omega) (by simp) (by simp) (by simp) (fun e he=>by simp at he;subst he;exact⟨0,_,by simp,h2,rfl,by simp[qa6]⟩)
  have hF0:3<=mn->0<=F:=fun h3=>by rw[hF];exact zbk (by rw[<- hmn];omega)
  refine qa3 (qb6 (fun j:Nat=>(⟨[0,1,2,3,6,7,8,9,10,11],[uD,qa8 L,.int .i64 i,.ptr 0 0,.nilS,.int .i64 F,.int .i64 (mn:Nat),uD,qce 1 1 ((dkD mn F.toNat (L.take j)).map qat),.int .i64 (j:Int)],[],55,⟨2,[qcg 1 ((dkD mn F.toNat (L.take j)).map qat)++[(0,.cells [qb3 t])]]⟩⟩ : St)) (fun j=>j<=L.length) (fun j=>L.length - j) [(1,1),(0,0)] [] 0 (jx _)
   ⟨rfl,rfl,rfl,by simp[qb8,qas,qaw,qa2,qa6,dkD,qce],?_⟩ ?_)
  ·have:=fits 1 (dkD mn F.toNat (L.take 0)) 1 [(0,.cells [qb3 t])] (fun h=>absurd (by simp[dkD]) h) (by simp[zG]) (by omega);exact this
  rintro j hj B hB;have hlen:(dkD mn F.toNat (L.take j)).length<=j:=j6 (dkD_len _) (by simp;omega);have hak:=qbb (show j<=1000000000 by omega);have lmn:((mn:Int) < 3)↔mn < 3:=by omega
  by_cases hlt:j < L.length
  ·have hc:(j:Int) < (L.length:Int):=(by omega);have hat:=atI hlt;have hgo:=dkD_go (mn:=mn) (f:=F.toNat) (M:=L.take j) L[j];have hst:=dkD_stop (mn:=mn) (f:=F.toNat) (M:=L.take j) L[j];rw[<- qm0 hlt,qnx (by omega)]at hgo hst;have hB:=fun s' hf=>hB s' (j+1) (by omega) (by omega) hf;generalize L[j]=x at *;obtain⟨O,hO⟩ : ∃O,O=dkD mn F.toNat (L.take j):=⟨_,rfl⟩;obtain⟨O2,hO2⟩ : ∃O,O=dkD mn F.toNat (L.take (j+1)):=⟨_,rfl⟩;rw[<- hO]at hgo hst hlen ⊢;rw[<- hO2]at hgo hst hB;have happ:=qf0 (P:=PG) (elem:=3) (b:=1) (t:=2) (m:=3) (es:=O.map qat) (cs:=[.int .i64 x]) (g:=[(0,.cells [qb3 t])]) (fs:=[]) qhz qk2 qjw rfl (by omega) (by omega) rfl rfl (qca _) (by simp;omega) (by omega) (by simp) (by simp);have e2:∀(hne:O2=O++[x]),qaa (O.map qat)++[.int .i64 x]=O2.map qat/\O.length+1=O2.length:=fun h=>(by rw[h,qe8];simp[qat]);have f1:FitH 0 [(1,1),(0,0)] [] ⟨2,[qcg 1 (O.map qat)++[(0,.cells [qb3 t])]]⟩ ⟨2,[qcg 1 (O.map qat)++[(0,.cells [qb3 t])]]⟩:=fits 1 O 2 _ (fun h=>by
    have:=qm7 (b:=1) (es:=O.map qat) (g:=[(0,.cells [qb3 t])]) (by simpa using h);simp only[Heap.get,getFs,this,qe8]) (by
    cases O with
    |nil=>simp[qcg,zG]
    |cons y r=>simp[qcg,zG]) (by omega)
   have v1:qas [(1,1),(0,0)] [] (qce 1 1 (O.map qat)) (qce 1 1 (O.map qat)):=qcn (by simp[qaw]);have grow:∀(h:O2=O++[x]),qce 1 1 (O2.map qat)=.slc 1 0 (O.length+1) (.rest 1)/\FitH 0 [(3,1),(0,0)] [] ⟨4,[[(3,.cells (qaa (O.map qat)++[.int .i64 x])),(2,.cells [.int .i64 x]),(0,.cells [qb3 t])]]⟩ ⟨2,[qcg 1 (O2.map qat)++[(0,.cells [qb3 t])]]⟩:=fun h=>(by obtain⟨q1,q2⟩:=e2 h;have hne:O2≠[]:=(by rw[h];simp);rw[q1];refine⟨?_,fits 3 O2 4 _ (fun _=>by simp[zG]) (by simp[zG]) (by omega)⟩;rw[(qib hne).1,q2]);simp only[jD]at happ;clear fits e2 hlen kap hF hmn hp he;by_cases c1:mn < 3
   ·have g2:=grow (hgo (.inl c1));obtain⟨g3,g4⟩:=g2;rw[g3]at hB;have c1':(mn:Int) < 3:=(by omega);clear grow hgo hst hO2 hO hF0 f1 v1;generalize qaa (O.map qat)=R at *;clear g3;generalize qcg 1 (O2.map qat)=F2 at *
    exact zL0
   ·have c1':¬ ((mn:Int) < 3):=(by omega);obtain⟨Fn,hFn⟩ : ∃Fn:Nat,F=(Fn:Int):=jy (hF0 (by omega));rw[hFn]at hgo hst;simp only[jr]at hgo hst;rw[hFn]at hB ⊢;try simp only[jr]at hB
    by_cases c2:j=Fn
    ·have en:=hst c1 c2;rw[en]at hB;clear grow hgo hst hO2 hO hF0 en hFn;subst c2;generalize qce 1 1 (O.map qat)=V2 at *;generalize qcg 1 (O.map qat)=F2 at *
     exact zL0
    ·obtain⟨g3,g4⟩:=grow (hgo (.inr c2));rw[g3]at hB;have c2':¬ ((j:Int)=(Fn:Int)):=(by omega);clear grow hgo hst hO2 hO hF0 f1 v1 hFn;generalize qaa (O.map qat)=R at *;clear g3;generalize qcg 1 (O2.map qat)=F2 at *
     exact zL0
  ·have ej:L.take j=L:=ju (by omega);rw[ej]at hlen ⊢;have hc:¬ ((j:Int) < (L.length:Int)):=(by omega);obtain⟨O,hO⟩ : ∃O,O=dkD mn F.toNat L:=⟨_,rfl⟩;rw[<- hO]at hlen ⊢;have happ:=qf0 (P:=PG) (elem:=3) (b:=1) (t:=2) (m:=3) (es:=O.map qat) (cs:=[.int .i64 i]) (g:=[(0,.cells [qb3 t])]) (fs:=[]) qhz qk2 qjw rfl (by omega) (by omega) rfl rfl (qca _) (by simp;omega) (by omega) (by simp) (by simp);have fin:∃σ Φ,qas σ Φ (.slc 3 0 (O.length+1) (.rest 1)) (qce 0 1 ((O++[i]).map qat))/\FitH 0 σ Φ ⟨4,[[(3,.cells (qaa (O.map qat)++[.int .i64 i])),(2,.cells [.int .i64 i]),(0,.cells [qb3 t])]]⟩ ⟨1,[qcg 0 ((O++[i]).map qat)]⟩:=(by have:=qgy (H:=⟨4,[[(3,.cells (qaa (O.map qat)++[.int .i64 i])),(2,.cells [.int .i64 i]),(0,.cells [qb3 t])]]⟩) (b:=3) (L:=O++[i]) (fun _=>by simp[zG,qe8,qat]);rw[(qib (k:=3) (by simp:O++[i]≠[])).1]at this;simpa using this);simp only[jD]at happ;clear fits hlen kap hF hmn hp he hB hF0 hO;generalize qaa (O.map qat)=R at *;simp only[j5,List.map_cons,jP]at fin
   exact zL0
 ·obtain⟨r,rfl⟩ : ∃r,q=r+1:=⟨q - 1,by omega⟩;have hlt:((e:Int)<=(r:Int)):=by omega
  have eq1:(((r+1:Nat):Int) - 1)=(r:Int):=by omega
  rw[eq1];have hr:r < L.length:=by omega
  have hwp:wr .i64 ((r:Int) - 1)=some ((r:Int) - 1):=qbi (by omega) (by omega);have hat:=atI hr;have e2:=qfs (p:=p) (L:=L) hr;have e3:(L.drop r).countP p=(L.drop (r+1)).countP p+(if p L[r]=true then 1 else 0):=by rw[List.drop_eq_getElem_cons hr,Js]
  have cl:(L.drop (r+1)).countP p<=100000:=j6 List.countP_le_length (by simp;omega);have kx:=fun H=>kap H L[r];have hB:=fun s' hf=>hB s' r (by omega) ⟨by omega,by omega⟩ hf;simp only[e2,e3]at hB;have fin:∀n,FitH 0 [(0,0)] [] ⟨n,[[(0,.cells [qb3 t])]]⟩ ⟨1,[[(0,.cells [qb3 t])]]⟩:=fun n=>FitH.id1 (g:=[(0,.cells [qb3 t])]) (by simp) (by simp) (by simp[zG,qa6]);have haw:=qbb (show (L.drop (r+1)).countP p<=1000000000 by omega);generalize (L.drop (r+1)).countP p=cn at *;generalize qb7 p (L.drop (r+1)) (r+1)=ff at *;clear e2 e3 kap hF hmn hp he;generalize L[r]=x at *;generalize p x=b at *;cases b with
  |true=>
   simp only[jQ]at hB
   exact zL0
  |false=>
   simp only[jz,jM,yD]at hB
   exact zL0
def e37:Entry PG:=mkL 37 [[7],[1],[]] (fun x:Tr × List Int × Int=>[qao x.1,qa8 x.2.1,.int .i64 x.2.2]) (fun x=>x.2.1.length<=100000/\∀n,n∈x.1->n.attrs.length<=100000) (fun x=>qg9 x.1 x.2.1 x.2.2) fun x h=>c37 (T:=[e107,e108]) rfl rfl x.1 x.2.1 x.2.2 h.1 h.2
theorem k37(hT:qIn 37 T e37) {t:Tr} {L:List Int} (i:Int) (hL:L.length<=100000) (hk:∀n,n∈t->n.attrs.length<=100000) {a:AV} {H:Heap} (ha:qco H [7] a=some (qao t)) :
  qb5 (ctx T) (.fn 37) [a,qa8 L,.int .i64 i] H=some (qa8 (qg9 t L i),H):=
 qj7 hT zb9 (t,L,i) ⟨hL,hk⟩ (by simp[qbl,ha,qam,okV,qa2])
set_option maxHeartbeats 1000000
theorem qul{m b:Nat} (g:List (Nat × Blk)) (fs:List (List (Nat × Blk))) {L D:List Int} (hL:L≠[]) (hD:D≠[]) (hl:L.length<=1000000) (hd:D.length<=1000000) :
  qbs PG ⟨m,((b,.cells (L.map qat))::g)::fs⟩ 3 (.slc b 0 L.length (.rest 1)) (qa8 D)=some (.slc m 0 (L.length+D.length) (.rest 1),⟨m+1,((m,.cells ((L++D).map qat))::g)::fs⟩):=by
 obtain⟨n,hn⟩ : ∃n,D.length=n+1:=by cases D with
  |nil=>exact absurd rfl hD
  |cons x r=>exact⟨r.length,rfl⟩
 have h:=qia (P:=PG) (H:=⟨m,((b,.cells (L.map qat))::g)::fs⟩) (elem:=3) (b:=b) (n:=n) (es:=L.map qat) (cs:=D.map qat) (x:=qa8 D) qhz qk2 qjw rfl (by omega) (by omega)
  (by simp[qd5,qa8,hn]) (by
   have:(D.map qat).take (n+1)=D.map qat:=ju (by simp[hn]);simp[qbj,qa8,this,qe8]) (by simp[hn]) (by
    clear hn hD hd;induction D with
    |nil=>rfl
    |cons x r ih=>simp[allSingle,ih,qat,AV.single]) (qca L) (by simp;omega)
  (fun _=>by simp[zG,qe8]) (fun h=>absurd h (by simpa using hL)) (fun _=>rfl)
 rw[(qib hL).1]at h;rw[h];have hk:Heap.drop ⟨m,((b,.cells (L.map qat))::g)::fs⟩ b=⟨m,g::fs⟩:=by simp[Heap.drop,qg0,getF,killF]
 rw[hk];simp[Heap.new,pushF,qe8,hn]
theorem quk{m b:Nat} (g:List (Nat × Blk)) (fs:List (List (Nat × Blk))) (L:List Int) (hl:L.length<=1000000) :
  qbs PG ⟨m,((b,.cells (L.map qat))::g)::fs⟩ 3 (.slc b 0 L.length (.rest 1)) (qa8 [])=some (.slc b 0 L.length (.rest 1),⟨m,((b,.cells (L.map qat))::g)::fs⟩):=by
 have hr:qdg L.length 8=true:=by unfold qdg;rw[jW];omega
 have hn:qiz ([]:List AV) L.length (L.map qat)=some (L.map qat):=by
  clear hl hr;induction L with
  |nil=>rfl
  |cons x r ih=>simp[qiz,ih]
 have hs:qcj PG 3=some 1:=qhz;have hb:qch PG 3=some 8:=qk2;have hz:qby PG 3=some (.int .i64 0):=qjw;have c0:(Nat.beq 1 0 || !(Nat.beq (AV.cells (.int .i64 0)).length 1 && Nat.blt 0 8))=false:=rfl;have hk:qbx ⟨m,((b,.cells (L.map qat))::g)::fs⟩ b=some L.length:=by simp[qbx,zG]
 simp only[qbs,hs,hb,hz,jc,qd5,qa8,jP,yd,c0,yD,hr,qbj,jC,List.take_nil,qaa,allSingle,hk];have hb2:L.length.ble L.length=true:=by simp
 simp[writeCells,zG,hn,Heap.ready,Heap.set,setFs,setF,hb2]
theorem ap_ex0{m b t:Nat} (hbt:t≠b) (fs:List (List (Nat × Blk))) (x:Int) :
  qbs PG ⟨m,[(t,.cells [.int .i64 x]),(b,.cells [])]::fs⟩ 3 (.slc b 0 0 (.ex 0)) (.slc t 0 1 (.ex 1))=some (.slc m 0 1 (.rest 1),⟨m+1,[(m,.cells [.int .i64 x]),(t,.cells [.int .i64 x]),(b,.cells [])]::fs⟩):=by
 have hs:qcj PG 3=some 1:=qhz;have hb:qch PG 3=some 8:=qk2;have hz:qby PG 3=some (.int .i64 0):=qjw;have c0:(Nat.beq 1 0 || !(Nat.beq (AV.cells (.int .i64 0)).length 1 && Nat.blt 0 8))=false:=rfl;have hr:qdg (0+1) 8=true:=rfl;have hx:qbj ⟨m,[(t,.cells [.int .i64 x]),(b,.cells [])]::fs⟩ 1 1 (.slc t 0 1 (.ex 1))=some [.int .i64 x]:=by simp[qbj,readCells,zG]
 have hq:readCells ⟨m,[(t,.cells [.int .i64 x]),(b,.cells [])]::fs⟩ b 0 0=some []:=by simp[readCells,zG,qax hbt]
 have h1:Nat.ble (0+1) 0=false:=rfl;have h2:Nat.beq ([AV.int .i64 x]).length (1 * 1)=true:=rfl;have hrow:∀cs,qpj PG 3 cs=.cells cs:=fun _=>rfl;simp only[qbs,hs,hb,hz,jc,qd5,c0,hx,hr,allSingle,AV.single,h1,h2,Nat.zero_mul,hq,jv,hrow];simp[Heap.new,pushF]
theorem c121(L:List Int) (at_ i:Int) (hl:L.length<=900000):CA T 121 [qa8 L,.int .i64 at_,.int .i64 i] zH (qa8 (qgx L at_ i)) zH:=by
 obtain⟨a,ha⟩ : ∃a:Nat,max 0 (min at_ (L.length:Int))=(a:Int):=jy (by omega);have hal:a<=L.length:=by omega
 have e:qgx L at_ i=(L.take a++[i])++L.drop a:=by unfold qgx qdb;rw[show (min (max at_ 0) (L.length:Int)).toNat=a by omega];simp
 rw[e];have mn:qkv true (.int .i64 at_) [.int .i64 (L.length:Int)]=some (.int .i64 (min at_ (L.length:Int))):=by simp[qkv]
 have mx:qkv false (.int .i64 0) [.int .i64 (min at_ (L.length:Int))]=some (.int .i64 (a:Int)):=by simp[qkv,ha]
 have lnL:=fun H=>qgi (H:=H) (L:=L);have s1:=fun H=>qx9 (H:=H) (L:=L) (k:=a) hal;have s2:=fun H=>qno (H:=H) (L:=L) (k:=a) hal;have lA:(L.take a).length<=900000:=by simp;omega
 have lD:(L.drop a).length<=900000:=by simp;omega
 clear e ha hal;generalize L.take a=A at *;generalize L.drop a=D at *;have frz:∀(M:List Int) n c f,M≠[]->∃σ Φ,qas σ Φ (.slc c 0 M.length (.rest 1)) (qa8 M)/\FitH 0 σ Φ ⟨n,[(c,.cells (M.map qat))::f]⟩ zH:=fun M n c f hM=>
  qh7 (es:=qay M) (fr:=qay M) (qca _) (by rw[qbf];simp[zG,qay]) (by simp[qay]) (by rw[ju (by simp[qay])])
 by_cases hA:A=[]
 ·subst hA;have a0:∀n,qbs PG ⟨n,[[(0,.cells [])]]⟩ 3 (.slc 0 0 0 (.ex 0)) (qa8 [])=some (.slc 0 0 0 (.ex 0),⟨n,[[(0,.cells [])]]⟩):=fun n=>
   qh3 (P:=PG) (elem:=3) (b:=0) (m:=n) (es:=[]) (g:=[]) (fs:=[]) qhz qk2 qjw rfl (by omega) (by omega) (qiw []) (qfq []) (by simp)
  have a1:=ap_ex0 (m:=13) (b:=0) (t:=6) (by omega) [] i;by_cases hD:D=[]
  ·subst hD;have a2:=quk (m:=14) (b:=13) [(6,.cells [.int .i64 i]),(0,.cells [])] [] [i] (by simp);have fin:=frz [i] 14 13 [(6,.cells [.int .i64 i]),(0,.cells [])] (by simp);simp only[List.map_cons,jP,qat,yo]at a2;refine qa1 (s0:=⟨[0,1,2,6],[qa8 L,.int .i64 at_,.int .i64 i,uD],[],24,⟨0,[[]]⟩⟩) Tryz.func121 rfl rfl rfl ?_;apply qR;simp[zS];apply qR;simp[zS,mn,mx,lnL];repeat apply wq
   refine qc4 mixed qaz (by decide +kernel) fun B_ hB_=>?_;have hD_:ahead B_ 0 4=true/\ahead B_ 0 7=true/\ahead B_ 0 11=true/\ahead B_ 3 4=true/\ahead B_ 3 7=true/\ahead B_ 3 11=true/\ahead B_ 4 3=false/\ahead B_ 4 10=false/\ahead B_ 6 4=false/\ahead B_ 6 7=true/\ahead B_ 6 11=true/\ahead B_ 7 3=false/\ahead B_ 7 10=false/\ahead B_ 10 4=false/\ahead B_ 10 7=false/\ahead B_ 10 11=true/\ahead B_ 11 3=false/\ahead B_ 11 10=false:=(by rw[hB_];decide +kernel);apply qhi B_;simp[zS,qbc,qar,qb4,qbh,qan,qbd,qba,Heap.lay,qap,qhh,qhg,qei,qeh,qef,qeg,qew,qel,qdj,qdk,qeq,qep,qen,qeo,qet,qeu,qes,qer,hD_,s1,s2,a0,a1,a2];exact rfl;refine⟨_,rfl,?_,?_⟩;simp[zS,qbh,qan,qc1,qc9,qd2,hD_,s1,s2,a0,a1,a2];try simp[allPend,Heap.lay,qap,qab]
   apply qa7;simp[zQ,Tryz.f121];exact fin
  ·have a2:=qul (m:=14) (b:=13) [(6,.cells [.int .i64 i]),(0,.cells [])] [] (L:=[i]) (D:=D) (by simp) hD (by simp) (by omega);have fin:=frz ([i]++D) 15 14 [(6,.cells [.int .i64 i]),(0,.cells [])] (by simp);simp only[List.map_cons,jP,qat,yo]at a2;refine qa1 (s0:=⟨[0,1,2,6],[qa8 L,.int .i64 at_,.int .i64 i,uD],[],24,⟨0,[[]]⟩⟩) Tryz.func121 rfl rfl rfl ?_;apply qR;simp[zS];apply qR;simp[zS,mn,mx,lnL];repeat apply wq
   refine qc4 mixed qaz (by decide +kernel) fun B_ hB_=>?_;have hD_:ahead B_ 0 4=true/\ahead B_ 0 7=true/\ahead B_ 0 11=true/\ahead B_ 3 4=true/\ahead B_ 3 7=true/\ahead B_ 3 11=true/\ahead B_ 4 3=false/\ahead B_ 4 10=false/\ahead B_ 6 4=false/\ahead B_ 6 7=true/\ahead B_ 6 11=true/\ahead B_ 7 3=false/\ahead B_ 7 10=false/\ahead B_ 10 4=false/\ahead B_ 10 7=false/\ahead B_ 10 11=true/\ahead B_ 11 3=false/\ahead B_ 11 10=false:=(by rw[hB_];decide +kernel);apply qhi B_;simp[zS,qbc,qar,qb4,qbh,qan,qbd,qba,Heap.lay,qap,qhh,qhg,qei,qeh,qef,qeg,qew,qel,qdj,qdk,qeq,qep,qen,qeo,qet,qeu,qes,qer,hD_,s1,s2,a0,a1,a2];exact rfl;refine⟨_,rfl,?_,?_⟩;simp[zS,qbh,qan,qc1,qc9,qd2,hD_,s1,s2,a0,a1,a2];try simp[allPend,Heap.lay,qap,qab]
   apply qa7;simp[zQ,Tryz.f121];simpa[qat,Nat.add_comm]using fin
 ·have a0:=qlq (b:=0) (m:=13) [] [] hA (by omega) (by omega);have a1:=qsl (b:=13) (t:=6) (m:=14) [(0,.cells [])] [] hA (by omega) (by omega) (by simp) (by simp) i;by_cases hD:D=[]
  ·subst hD;have a2:=quk (m:=15) (b:=14) [(6,.cells [.int .i64 i]),(0,.cells [])] [] (A++[i]) (by simp;omega);have fin:=frz (A++[i]) 15 14 [(6,.cells [.int .i64 i]),(0,.cells [])] (by simp);simp only[js,yo,j5,List.map_cons,jP]at a2;refine qa1 (s0:=⟨[0,1,2,6],[qa8 L,.int .i64 at_,.int .i64 i,uD],[],24,⟨0,[[]]⟩⟩) Tryz.func121 rfl rfl rfl ?_;apply qR;simp[zS];apply qR;simp[zS,mn,mx,lnL];repeat apply wq
   refine qc4 mixed qaz (by decide +kernel) fun B_ hB_=>?_;have hD_:ahead B_ 0 4=true/\ahead B_ 0 7=true/\ahead B_ 0 11=true/\ahead B_ 3 4=true/\ahead B_ 3 7=true/\ahead B_ 3 11=true/\ahead B_ 4 3=false/\ahead B_ 4 10=false/\ahead B_ 6 4=false/\ahead B_ 6 7=true/\ahead B_ 6 11=true/\ahead B_ 7 3=false/\ahead B_ 7 10=false/\ahead B_ 10 4=false/\ahead B_ 10 7=false/\ahead B_ 10 11=true/\ahead B_ 11 3=false/\ahead B_ 11 10=false:=(by rw[hB_];decide +kernel);apply qhi B_;simp[zS,qbc,qar,qb4,qbh,qan,qbd,qba,Heap.lay,qap,qhh,qhg,qei,qeh,qef,qeg,qew,qel,qdj,qdk,qeq,qep,qen,qeo,qet,qeu,qes,qer,hD_,s1,s2,a0,a1,a2];exact rfl;refine⟨_,rfl,?_,?_⟩;simp[zS,qbh,qan,qc1,qc9,qd2,hD_,s1,s2,a0,a1,a2];try simp[allPend,Heap.lay,qap,qab]
   apply qa7;simp[zQ,Tryz.f121];simpa[qat]using fin
  ·have a2:=qul (m:=15) (b:=14) [(6,.cells [.int .i64 i]),(0,.cells [])] [] (L:=A++[i]) (D:=D) (by simp) hD (by simp;omega) (by omega);have fin:=frz (A++[i]++D) 16 15 [(6,.cells [.int .i64 i]),(0,.cells [])] (by simp);simp only[js,yo,j5,List.map_cons,jP]at a2;refine qa1 (s0:=⟨[0,1,2,6],[qa8 L,.int .i64 at_,.int .i64 i,uD],[],24,⟨0,[[]]⟩⟩) Tryz.func121 rfl rfl rfl ?_;apply qR;simp[zS];apply qR;simp[zS,mn,mx,lnL];repeat apply wq
   refine qc4 mixed qaz (by decide +kernel) fun B_ hB_=>?_;have hD_:ahead B_ 0 4=true/\ahead B_ 0 7=true/\ahead B_ 0 11=true/\ahead B_ 3 4=true/\ahead B_ 3 7=true/\ahead B_ 3 11=true/\ahead B_ 4 3=false/\ahead B_ 4 10=false/\ahead B_ 6 4=false/\ahead B_ 6 7=true/\ahead B_ 6 11=true/\ahead B_ 7 3=false/\ahead B_ 7 10=false/\ahead B_ 10 4=false/\ahead B_ 10 7=false/\ahead B_ 10 11=true/\ahead B_ 11 3=false/\ahead B_ 11 10=false:=(by rw[hB_];decide +kernel);apply qhi B_;simp[zS,qbc,qar,qb4,qbh,qan,qbd,qba,Heap.lay,qap,qhh,qhg,qei,qeh,qef,qeg,qew,qel,qdj,qdk,qeq,qep,qen,qeo,qet,qeu,qes,qer,hD_,s1,s2,a0,a1,a2];exact rfl;refine⟨_,rfl,?_,?_⟩;simp[zS,qbh,qan,qc1,qc9,qd2,hD_,s1,s2,a0,a1,a2];try simp[allPend,Heap.lay,qap,qab]
   apply qa7;simp[zQ,Tryz.f121];have el:A.length+1+D.length=A.length+(D.length+1):=(by omega);simpa[qat,el]using fin
def e121:Entry PG:=mkE 121 [[1],[],[]] (fun x:List Int × Int × Int=>[qa8 x.1,.int .i64 x.2.1,.int .i64 x.2.2]) (fun x=>x.1.length<=900000) (fun x=>qa8 (qgx x.1 x.2.1 x.2.2)) fun x h=>c121 (T:=[]) x.1 x.2.1 x.2.2 h
theorem k121(hT:qIn 121 T e121) {L:List Int} (hl:L.length<=900000) (a b:Int) (H:Heap):qb5 (ctx T) (.fn 121) [qa8 L,.int .i64 a,.int .i64 b] H=some (qa8 (qgx L a b),H):=
 qds hT qro (L,a,b) hl (by simp[qa6,qa2]) (by simp[qbl,qam,okV,qa2]) H
theorem c81(hc0:qIn 160 T e160) {s:SS} (ne:s.tree≠[]) (W:Str) (hl:W.length<=100000) (ho:s.opn.length<=100000):SC T 81 [.str W] s (.tup []) ({ s with opn:=qk0 s.tree s.opn W }):=by
 have g0:=@vg0;have v0:=@vset;have kI:=fun n k f (k0:0 < k) (hf:getF k f=none)=>k160 hc0 hl (L:=s.opn) (by omega) (thS (n:=n) k0 ne hf);refine qa1 (s0:=⟨[0,1],[.ptr 0 0,.str W],[],17,⟨2,[]::[VS 1 s]⟩⟩) Tryz.func81 rfl rfl rfl ?_
 exact zL0
def e81:Entry PG:=mkS 81 [[]] (fun z:Str=>[.str z]) (fun z s=>(z.length<=100000)/\(s.opn.length<=100000)) (fun z s=>.tup []) (fun z s=>{ s with opn:=qk0 s.tree s.opn z }) fun z s ne h=>⟨c81 (T:=[e160]) rfl ne z h.1 h.2,by simp[qa6,qa2],by simp[qa2,qa6],ne⟩
theorem k81(hT:qIn 81 T e81) {s:SS} (ne:s.tree≠[]) (W:Str) (hl:W.length<=100000) (ho:s.opn.length<=100000) {n k:Nat} {fr:List (Nat × Blk)} (k0:0 < k) (kn:k < n) (of:qg5 k fr):qb5 (ctx T) (.fn 81) [.ptr 0 0,.str W] ⟨n,[fr,VS k s]⟩=some (.tup [],⟨n+1,[fr,VS n ({ s with opn:=qk0 s.tree s.opn W })]⟩):=
 qcr hT inj_54 (W) ne ⟨hl,ho⟩ (by simp[qa6,qa2]) (by simp[qbl,qam]) k0 kn of
def tokN(n:Nd):Tk:=⟨1,n.name,n.attrs,false,[]⟩
theorem c125(n:Nd):CA T 125 [qa9 n] zH (qlx (tokN n)) zH:=by have bld:qe6 PG 48 [(0,.int .i64 1),(1,.str n.name),(2,qae n.attrs)]=some (.agg [.int .i64 1,.str n.name,qae n.attrs,.bool false,.str []]):=rfl;have sA:∀L,(qae L).single=true:=fun _=>rfl;have sI:∀L,(qa8 L).single=true:=fun _=>rfl;have rA:∀L,refs 6 (qae L)=[]:=fun _=>rfl;have rI:∀L,refs 6 (qa8 L)=[]:=fun _=>rfl;refine qa1 (s0:=⟨[0,1,2],[qa9 n,uD,uD],[],8,⟨0,[[]]⟩⟩) Tryz.func125 rfl rfl rfl ?_;apply qR;simp[zS,Nd.cs,qa9,qat,sA,sI,rA,rI];apply qR;simp[zS,bld,sA,sI,rA,rI];apply qa7;simp[zQ,Tryz.f125,readCells,zG,Blk.rd,qfe,qey];refine⟨[],[],?_,FitH.empty⟩;simp[qlx,Tk.cs,tokN,qas,qb8,qa2]
theorem inj_nd1(x y:Nd) (h:[qa9 x]=[qa9 y]):x=y:=qgk (by simpa using h)
def e125:Entry PG:=mkE 125 [[]] (fun n:Nd=>[qa9 n]) (fun _=>True) (fun n=>qlx (tokN n)) fun n _=>c125 (T:=[]) n
theorem k125(hT:qIn 125 T e125) (n:Nd) (H:Heap):qb5 (ctx T) (.fn 125) [qa9 n] H=some (qlx (tokN n),H):=
 qds hT inj_nd1 n trivial (by simp[qa6]) (by simp[qbl,qam]) H
theorem c118(hc0:qac 30 T=some e30S.g) {s:SS} (ne:s.tree≠[]) (i:Int) (h0:0<=i) (hi:i < (s.tree.length:Int)) (hl:s.tree.length+1<=1000000) (ha:(qa0 s.tree i).attrs.length<=1000000):SC T 118 [.int .i64 i] s (.int .i64 (s.tree.length:Int)) ({ s with tree:=qed s.tree (qe0 s.tree i) }):=by
 have g0:=@vg0;have v0:=@vset;obtain⟨u,eu⟩ : ∃u:Nat,i=(u:Int):=⟨i.toNat,by omega⟩;have hu:u < s.tree.length:=by omega
 have ix:=ixN (k:=1) (t:=s.tree) hu;have sb:=subN (t:=s.tree) hu;rw[<- eu]at ix sb;clear eu hu;have gk:=vgk (k:=1) (s:=s) (by omega) ne;have kA:=fun n k fr=>@addR T hc0 s ne (qa0 s.tree i).space (qa0 s.tree i).name (qa0 s.tree i).attrs hl ha n k fr;have eb:qe0 s.tree i=⟨1,(qa0 s.tree i).space,(qa0 s.tree i).name,(qa0 s.tree i).attrs,[],0,[]⟩:=rfl;rw[eb];clear eb h0 hi hl ha;have l7:(qa0 s.tree i).cs=[.int .i64 (qa0 s.tree i).kind,.int .i64 (qa0 s.tree i).space,.str (qa0 s.tree i).name,qae (qa0 s.tree i).attrs,.str (qa0 s.tree i).data,.int .i64 (qa0 s.tree i).up,qa8 (qa0 s.tree i).kids]:=rfl;rw[l7]at sb;clear l7;generalize (qa0 s.tree i).kind=n1 at *;generalize (qa0 s.tree i).space=n2 at *;generalize (qa0 s.tree i).name=n3 at *;generalize (qa0 s.tree i).attrs=n4 at *;generalize (qa0 s.tree i).data=n5 at *;generalize (qa0 s.tree i).up=n6 at *;generalize (qa0 s.tree i).kids=n7 at *;have bld:qe6 PG 65 [(0,.int .i64 1),(1,.int .i64 n2),(2,.str n3),(3,qae n4)]=some (.agg [.int .i64 1,.int .i64 n2,.str n3,qae n4,.str [],.int .i64 0,.nilS]):=rfl;have ta:=qev s.tree ⟨1,n2,n3,n4,[],0,[]⟩;refine qa1 (s0:=⟨[0,1,4,5],[.ptr 0 0,.int .i64 i,uD,uD],[],25,⟨2,[]::[VS 1 s]⟩⟩) Tryz.func118 rfl rfl rfl ?_
 exact zL0
def e118:Entry PG:=mkS 118 [[]] (fun z:Int=>[.int .i64 z]) (fun z s=>(0<=z)/\(z < (s.tree.length:Int))/\(s.tree.length+1<=1000000)/\((qa0 s.tree z).attrs.length<=1000000)) (fun z s=>.int .i64 (s.tree.length:Int)) (fun z s=>{ s with tree:=qed s.tree (qe0 s.tree z) }) fun z s ne h=>⟨c118 (T:=[e30S]) rfl ne z h.1 h.2.1 h.2.2.1 h.2.2.2,by simp[qa6,qa2],by simp[qa2,qa6],qev _ _⟩
theorem k118(hT:qIn 118 T e118) {s:SS} (ne:s.tree≠[]) (i:Int) (h0:0<=i) (hi:i < (s.tree.length:Int)) (hl:s.tree.length+1<=1000000) (ha:(qa0 s.tree i).attrs.length<=1000000) {n k:Nat} {fr:List (Nat × Blk)} (k0:0 < k) (kn:k < n) (of:qg5 k fr):qb5 (ctx T) (.fn 118) [.ptr 0 0,.int .i64 i] ⟨n,[fr,VS k s]⟩=some (.int .i64 (s.tree.length:Int),⟨n+1,[fr,VS n ({ s with tree:=qed s.tree (qe0 s.tree i) })]⟩):=
 qcr hT inj_162 (i) ne ⟨h0,hi,hl,ha⟩ (by simp[qa6,qa2]) (by simp[qbl,qam]) k0 kn of
theorem c120(hc0:qac 31 T=some e31S.g) {s:SS} (ne:s.tree≠[]) (up:Int) (kid:Int) (u0:0<=up) (u1:up < (s.tree.length:Int)) (ht:s.tree.length<=1000000) (hk:qcf s.tree 999999):SC T 120 [.int .i64 up,.int .i64 kid] s (.tup []) ({ s with tree:=qgh s.tree up ((qa0 s.tree up).kids.length:Int) kid }):=by
 have kc0:=@k31S T hc0;have g0:=@vg0;have v0:=@vset;obtain⟨u,eu⟩ : ∃u:Nat,up=(u:Int):=⟨up.toNat,by omega⟩;have hu:u < s.tree.length:=by omega
 have ix:=ixN (k:=1) (t:=s.tree) hu;have gN:=getN (c:=6) hu (by omega);rw[<- eu]at ix gN;clear eu hu;have gk:=vgk (k:=1) (s:=s) (by omega) ne;have lI:∀H,qf3 PG H 38 (qa8 (qa0 s.tree up).kids)=some (qa0 s.tree up).kids.length:=fun H=>qgi;have kP:=fun n k fr=>@kc0 s ne up ((qa0 s.tree up).kids.length:Int) kid ht hk n k fr;have n1:qgh s.tree up ((qa0 s.tree up).kids.length:Int) kid≠[]:=qfl ne _ _ _;have e6:qcb (qa0 s.tree up).cs 6=some (qa8 (qa0 s.tree up).kids):=rfl;rw[e6]at gN;clear e6 kc0 u0 u1 ht hk;generalize qgh s.tree up ((qa0 s.tree up).kids.length:Int) kid=t1 at *;generalize (qa0 s.tree up).kids=K at *;refine qa1 (s0:=⟨[0,1,2],[.ptr 0 0,.int .i64 up,.int .i64 kid],[],22,⟨2,[]::[VS 1 s]⟩⟩) Tryz.func120 rfl rfl rfl ?_
 exact zL0
def e120:Entry PG:=mkS 120 [[],[]] (fun z:Int × Int=>[.int .i64 z.1,.int .i64 z.2]) (fun z s=>(0<=z.1)/\(z.1 < (s.tree.length:Int))/\(s.tree.length<=1000000)/\(qcf s.tree 999999)) (fun z s=>.tup []) (fun z s=>{ s with tree:=qgh s.tree z.1 ((qa0 s.tree z.1).kids.length:Int) z.2 }) fun z s ne h=>⟨c120 (T:=[e31S]) rfl ne z.1 z.2 h.1 h.2.1 h.2.2.1 h.2.2.2,by simp[qa6,qa2],by simp[qa2,qa6],by(try exact n1);(all_goals exact qfl ne _ _ _)⟩
theorem k120(hT:qIn 120 T e120) {s:SS} (ne:s.tree≠[]) (up:Int) (kid:Int) (u0:0<=up) (u1:up < (s.tree.length:Int)) (ht:s.tree.length<=1000000) (hk:qcf s.tree 999999) {n k:Nat} {fr:List (Nat × Blk)} (k0:0 < k) (kn:k < n) (of:qg5 k fr):qb5 (ctx T) (.fn 120) [.ptr 0 0,.int .i64 up,.int .i64 kid] ⟨n,[fr,VS k s]⟩=some (.tup [],⟨n+1,[fr,VS n ({ s with tree:=qgh s.tree up ((qa0 s.tree up).kids.length:Int) kid })]⟩):=
 qcr hT inj_140 (up,kid) ne ⟨u0,u1,ht,hk⟩ (by simp[qa6,qa2]) (by simp[qbl,qam]) k0 kn of
theorem qrs{α:Type} {p:α->Bool}:∀{L:List α} {k:Nat},(∀x,x∈L->p x=false)->qb7 p L k = -1
 |[],_,_=>rfl
 |x::r,k,h=>by unfold qb7;rw[jm (by rw[h x (by simp)];simp)];exact qrs fun y hy=>h y (by simp[hy])
theorem qrr{α:Type} {p:α->Bool}:∀{L:List α} {k:Nat} {x:α},x∈L->p x=true->0<=qb7 p L k
 |[],_,_,h,_=>by cases h
 |y::r,k,x,h,hp=>by
  unfold qb7;split
  ·omega
  ·rename_i hy;rcases jd.1 h with rfl|h
   ·exact absurd hp hy
   ·exact qrr h hp
theorem qyp{s:SS} (ne:s.tree≠[]) {n:Nat} {f:List (Nat × Blk)} (h0:getF 0 f=none) (h1:getF 1 f=none):FitH 2 [(1,1),(0,0)] [] ⟨n,[f,VS 1 s]⟩ ⟨2,[[],VS 1 s]⟩:=qyn (k:=1) (k':=1) (m':=2) (N:=2) ⟨fun _=>rfl,by omega,by omega⟩ (by omega) (by omega) ne h0 h1
theorem cs_ex(n:Nd):n.cs=[.int .i64 n.kind,.int .i64 n.space,.str n.name,qae n.attrs,.str n.data,.int .i64 n.up,qa8 n.kids]:=rfl
theorem c114(hc0:qIn 184 T e184) {s:SS} (ne:s.tree≠[]) (a:Nat) (ho:s.opn.length<=100000) (hr:∀i,i∈s.opn->0<=i/\i < (s.tree.length:Int)):SC T 114 [.int .i64 ((a:Nat):Int)] s (.bool (decide (qi6 s qph a < 0))) (s):=by
 have kc0:=@k184 T hc0;have g0:=@vg0;have v0:=@vset;have g0:=vg0 (k:=1) ne;have gk:=vgk (k:=1) (s:=s) (by omega) ne;have lO:=fun H=>qgi (H:=H) (L:=s.opn);have hw0:wr .i64 ((s.opn.length:Int) - 1)=some ((s.opn.length:Int) - 1):=qbi (by omega) (by omega);obtain⟨R,hR⟩ : ∃R,R=decide (qi6 s qph a < 0):=⟨_,rfl⟩;have hyes:(∀k (hk:k < s.opn.length),a < k->qph (qa0 s.tree s.opn[k])=false)->R=true:=fun h=>by rw[hR];unfold qi6;rw[qrs fun x hx=>by obtain⟨k,hk,e⟩:=yG hx;rw[<- e,jU];exact h _ (by simp at hk;omega) (by omega)];rfl
 have hno:∀k (hk:k < s.opn.length),a < k->qph (qa0 s.tree s.opn[k])=true->R=false:=fun k hk h1 h2=>by
  rw[hR];have:0<=qi6 s qph a:=by unfold qi6;refine qrr (x:=s.opn[k]) ?_ h2;rw[List.mem_iff_getElem];exact⟨k - (a+1),by simp;omega,by rw[jU];congr 1;omega⟩
  simp;exact this
 rw[<- hR];clear hR;refine qa1 (s0:=⟨[0,1,4,5,6],[.ptr 0 0,.int .i64 (a:Int),uD,uD,uD],[],37,⟨2,[]::[VS 1 s]⟩⟩) Tryz.func114 rfl rfl rfl ?_
 (repeat' (first
  |with_reducible apply qad
  |with_reducible apply qa3
  |(with_reducible apply rE;simp[zS, *,SS.post];exact rfl)
  |(with_reducible apply qaf;simp only[qab,qa4])))
 all_goals first|(skip)|(exfalso;omega)
 refine(qb6 (fun q:Nat=>(⟨[0,1,4,5,6],[.ptr 0 0,.int .i64 (a:Int),.bool false,.int .i64 ((q:Int) - 1),uD],[],37,⟨2,[[],VS 1 s]⟩⟩ : St)) (fun q=>q<=s.opn.length/\∀k (hk:k < s.opn.length),a < k->q<=k->qph (qa0 s.tree s.opn[k])=false) (fun q=>q) [(1,1),(0,0)] [] s.opn.length ⟨ja _,fun k hk _ h=>by omega⟩
  ⟨rfl,rfl,rfl,by simp[qb8,qas,qaw,qa2],qyp ne rfl rfl⟩ ?_)
 rintro q ⟨hq,hinv⟩ B hB;by_cases h:q<=a+1
 ·have hc:¬ ((a:Int) < (q:Int) - 1):=by omega
  have hR:=hyes fun k hk h1=>hinv k hk h1 (by omega);rw[hR];clear hyes hno hinv hB hR
  exact zL0
 ·obtain⟨p,rfl⟩ : ∃p,q=p+1:=⟨q - 1,by omega⟩;have hp:p < s.opn.length:=by omega
  have eq1:(((p+1:Nat):Int) - 1)=(p:Int):=by omega
  rw[eq1];have hc:((a:Int) < (p:Int)):=by omega
  have hwp:wr .i64 ((p:Int) - 1)=some ((p:Int) - 1):=qbi (by omega) (by omega);have hat:=atI hp;obtain⟨r0,r1⟩:=hr _ (jA hp);have hn:=hno p hp (by omega);have hB:=fun(h:qph (qa0 s.tree s.opn[p])=false) s' hf=>hB s' p (by omega) ⟨by omega,fun k hk h1 h2=>by
   rcases jF p k with h3|h3
   ·exact hinv k hk h1 (by omega)
   ·have:k=p:=(by omega);subst this;exact h⟩ hf
  have fin:=fun n f h0 h1=>qyp ne (n:=n) (f:=f) h0 h1;clear hinv hyes hno hr;generalize s.opn[p]=i at *;obtain⟨u,rfl⟩ : ∃u:Nat,i=u:=⟨i.toNat,by omega⟩;have hu:u < s.tree.length:=by omega
  have ix:=ixN (k:=1) (t:=s.tree) hu;have sb:=subN (t:=s.tree) hu;have kS:=fun H=>kc0 0 (qa0 s.tree (u:Int)).space (qa0 s.tree (u:Int)).name H;rw[show qph (qa0 s.tree (u:Int))=qgn 0 (qa0 s.tree (u:Int)).space (qa0 s.tree (u:Int)).name from rfl]at hn hB;rw[cs_ex]at sb;clear kc0 r0 r1 hu;have hob:zax 65 objs=false:=rfl;have sA:∀L,(qae L).single=true:=fun _=>rfl;have sI:∀L,(qa8 L).single=true:=fun _=>rfl;generalize qgn 0 (qa0 s.tree (u:Int)).space (qa0 s.tree (u:Int)).name=b at *;generalize qa0 s.tree (u:Int)=nd at *;cases b with
  |true=>
   rw[hn rfl];clear hn hB fin
   exact zL0
  |false=>
   have hB:=hB rfl;clear hn
   exact zL0
theorem inj_114(x y:Nat) (h:(fun z:Nat=>([.int .i64 ((z:Nat):Int)]:List AV)) x=(fun z:Nat=>([.int .i64 ((z:Nat):Int)]:List AV)) y):x=y:=by simp only[jl,jJ]at h;exact(by have:=(AV.int.inj h).2;omega)
def e114:Entry PG:=mkS 114 [[]] (fun z:Nat=>[.int .i64 ((z:Nat):Int)]) (fun z s=>(s.opn.length<=100000)/\(∀i,i∈s.opn->0<=i/\i < (s.tree.length:Int))) (fun z s=>.bool (decide (qi6 s qph z < 0))) (fun z s=>s) fun z s ne h=>⟨c114 (T:=[e184]) rfl ne z h.1 h.2,by simp[qa6,qa2],by simp[qa2,qa6],ne⟩
theorem k114(hT:qIn 114 T e114) {s:SS} (ne:s.tree≠[]) (a:Nat) (ho:s.opn.length<=100000) (hr:∀i,i∈s.opn->0<=i/\i < (s.tree.length:Int)) {n k:Nat} {fr:List (Nat × Blk)} (k0:0 < k) (kn:k < n) (of:qg5 k fr):qb5 (ctx T) (.fn 114) [.ptr 0 0,.int .i64 ((a:Nat):Int)] ⟨n,[fr,VS k s]⟩=some (.bool (decide (qi6 s qph a < 0)),⟨n+1,[fr,VS n (s)]⟩):=
 qcr hT inj_114 (a) ne ⟨ho,hr⟩ (by simp[qa6,qa2]) (by simp[qbl,qam]) k0 kn of
theorem c115(hc0:qIn 83 T e83) {s:SS} (ne:s.tree≠[]) (a:Nat) (ha:a<=100000) (ho:s.opn.length<=100000) (hr:∀i,i∈s.opn->0<=i/\i < (s.tree.length:Int)):SC T 115 [.int .i64 ((a:Nat):Int)] s (.int .i64 (qi6 s qpi a)) (s):=by
 have kc0:=@k83 T hc0;have g0:=@vg0;have v0:=@vset;have g0:=vg0 (k:=1) ne;have gk:=vgk (k:=1) (s:=s) (by omega) ne;have lO:=fun H=>qgi (H:=H) (L:=s.opn);have hak0:=qbb (show a<=1000000000 by omega);obtain⟨R,hR⟩ : ∃R,R=qi6 s qpi a:=⟨_,rfl⟩;rw[<- hR];refine qa1 (s0:=⟨[0,1,4,5,6],[.ptr 0 0,.int .i64 (a:Int),uD,uD,uD],[],38,⟨2,[]::[VS 1 s]⟩⟩) Tryz.func115 rfl rfl rfl ?_
 (repeat' (first
  |with_reducible apply qad
  |with_reducible apply qa3
  |(with_reducible apply rE;simp[zS, *,SS.post];exact rfl)
  |(with_reducible apply qaf;simp only[qab,qa4])))
 all_goals first|(skip)|(exfalso;omega)
 refine(qb6 (fun q:Nat=>(⟨[0,1,4,5,6],[.ptr 0 0,.int .i64 (a:Int),.int .i64 0,.int .i64 (q:Int),uD],[],38,⟨2,[[],VS 1 s]⟩⟩ : St)) (fun q=>(q<=s.opn.length\/q=a+1)/\R=qb7 (fun i=>qpi (qa0 s.tree i)) (s.opn.drop q) q) (fun q=>s.opn.length - q) [(1,1),(0,0)] [] (a+1) ⟨.inr rfl,hR⟩
  ⟨rfl,rfl,rfl,by simp[qb8,qas,qaw,qa2],qyp ne rfl rfl⟩ ?_)
 rintro q ⟨hq,hinv⟩ B hB;by_cases h:q < s.opn.length
 case neg=>
  have hc:¬ ((q:Int) < (s.opn.length:Int)):=by omega
  have e:R = -1:=by rw[hinv,ya (by omega)];rfl
  rw[e];clear hinv hB hR e
  exact zL0
 case pos=>
  have hc:((q:Int) < (s.opn.length:Int)):=by omega
  have hat:=atI h;have hak:=qbb (show q<=1000000000 by omega);obtain⟨r0,r1⟩:=hr _ (jA h);rw[qfs h]at hinv;have hB:=fun(e:R=qb7 (fun i=>qpi (qa0 s.tree i)) (s.opn.drop (q+1)) (q+1)) s' hf=>hB s' (q+1) (by omega) ⟨.inl (by omega),e⟩ hf;have fin:=fun n f h0 h1=>qyp ne (n:=n) (f:=f) h0 h1;clear hr hR;generalize qb7 (fun i=>qpi (qa0 s.tree i)) (s.opn.drop (q+1)) (q+1)=R2 at *;generalize s.opn[q]=i at *;obtain⟨u,rfl⟩ : ∃u:Nat,i=u:=⟨i.toNat,by omega⟩;have hu:u < s.tree.length:=by omega
  have ix:=ixN (k:=1) (t:=s.tree) hu;have sb:=subN (t:=s.tree) hu;have kS:=fun H=>kc0 (qa0 s.tree (u:Int)).space (qa0 s.tree (u:Int)).name H;rw[show qpi (qa0 s.tree (u:Int))=qdl (qa0 s.tree (u:Int)).space (qa0 s.tree (u:Int)).name from rfl]at hinv;rw[cs_ex]at sb;clear kc0 r0 r1 hu;have hob:zax 65 objs=false:=rfl;have sA:∀L,(qae L).single=true:=fun _=>rfl;have sI:∀L,(qa8 L).single=true:=fun _=>rfl;generalize qdl (qa0 s.tree (u:Int)).space (qa0 s.tree (u:Int)).name=b at *;generalize qa0 s.tree (u:Int)=nd at *;cases b with
  |true=>
   simp only[jQ]at hinv;rw[hinv];clear hinv hB fin
   exact zL0
  |false=>
   simp only[jz,jM]at hinv;have hB:=hB hinv;clear hinv
   exact zL0
def e115:Entry PG:=mkS 115 [[]] (fun z:Nat=>[.int .i64 ((z:Nat):Int)]) (fun z s=>(z<=100000)/\(s.opn.length<=100000)/\(∀i,i∈s.opn->0<=i/\i < (s.tree.length:Int))) (fun z s=>.int .i64 (qi6 s qpi z)) (fun z s=>s) fun z s ne h=>⟨c115 (T:=[e83]) rfl ne z h.1 h.2.1 h.2.2,by simp[qa6,qa2],by simp[qa2,qa6],ne⟩
theorem k115(hT:qIn 115 T e115) {s:SS} (ne:s.tree≠[]) (a:Nat) (ha:a<=100000) (ho:s.opn.length<=100000) (hr:∀i,i∈s.opn->0<=i/\i < (s.tree.length:Int)) {n k:Nat} {fr:List (Nat × Blk)} (k0:0 < k) (kn:k < n) (of:qg5 k fr):qb5 (ctx T) (.fn 115) [.ptr 0 0,.int .i64 ((a:Nat):Int)] ⟨n,[fr,VS k s]⟩=some (.int .i64 (qi6 s qpi a),⟨n+1,[fr,VS n (s)]⟩):=
 qcr hT inj_114 (a) ne ⟨ha,ho,hr⟩ (by simp[qa6,qa2]) (by simp[qbl,qam]) k0 kn of
def Kept(p:Prop):Prop:=p
theorem atP_mem{o:List Int} {i:Int}:(0<=atP o i)↔i∈o:=by
 unfold atP;constructor
 ·intro h;by_cases hm:i∈o
  ·exact hm
  ·rw[qrs fun x hx=>by have:¬ x=i:=fun e=>hm (e ▸ hx);simpa using this]at h;omega
 ·intro h;exact qrr h (by simp)
theorem qnk(o:List Int) (i:Int):qfv o i=(!decide (i = -1) && decide (atP o i < 0)):=by
 unfold qfv;by_cases h:i∈o
 ·have:=atP_mem.2 h;have h2:¬ atP o i < 0:=by omega
  simp[h,h2]
 ·have:¬ 0<=atP o i:=fun e=>h (atP_mem.1 e);have h2:atP o i < 0:=by omega
  simp[h,h2]
theorem rec_len(s:SS):∀l:List Int,(l.foldl qgg s).act.length=s.act.length:=by
 intro l;induction l generalizing s with
 |nil=>rfl
 |cons x r ih=>rw[yi,ih];simp[qgg]
theorem rec_op{s:SS} (h:s.opn≠[]):∀l:List Int,(l.foldl qgg s).opn≠[]:=by
 intro l;induction l generalizing s with
 |nil=>exact h
 |cons x r ih=>rw[yi];exact ih (by simp[qgg,elS])
theorem rec_at{f0:Nat}:∀{l:List Int} {s:SS},l.Nodup->(∀j (h:j < l.length),s.act.getD (f0+j) 0=l[j])->∀j j' (h:j' < l.length),j<=j'->((l.take j).foldl qgg s).act.getD (f0+j') 0=l[j']
 |l,s,nd,h,0,j',h1,_=>h j' h1
 |l,s,nd,h,j+1,j',h1,h2=>by
  have ih:=rec_at nd h j j' h1 (by omega);have hj:j < l.length:=by omega
  rw[jj hj,yE];generalize (l.take j).foldl qgg s=x at *;show (x.act.map (swp l[j] (x.tree.length:Int))).getD (f0+j') 0=l[j'];have hne:l[j']≠l[j]:=fun e=>List.pairwise_iff_getElem.1 nd j j' hj h1 (by omega) e.symm;rw[List.getD_eq_getElem?_getD,List.getElem?_map];rw[List.getD_eq_getElem?_getD]at ih;cases hq:x.act[f0+j']? with
  |none=>rw[hq]at ih;simp only[yj]at ih;simp only[Option.map_none,yj];exact ih
  |some y=>rw[hq]at ih;simp only[yg]at ih;simp only[yt,yg];rw[ih];unfold swp;rw[jm hne]
theorem c40(hc0:qIn 111 T e111) (hc1:qIn 66 T e66) (hc2:qIn 126 T e126) (hc3:qIn 125 T e125) {s:SS} (ne:s.tree≠[])  (h:RcOk s) (hd:(qhc s).Nodup) (hr:∀i,i∈qhc s->0<=i) (hop0:s.opn≠[]):SC T 40 [] s (.tup []) (qr4 s):=by
 have kc1:=@k66 T hc1;have g0:=@vg0;have v0:=@vset;have lA:=fun H=>qgi (H:=H) (L:=s.act);have fS:∀(s:SS) (f:List (Nat × Blk)) (n k:Nat),0 < k->s.tree≠[]->getF 0 f=none->getF k f=none->FitH 2 [(k,2),(0,0)] [] ⟨n,[f,VS k s]⟩ ⟨3,[[],VS 2 s]⟩:=fun s f n k k0 ne h1 h2=>qyn ⟨by omega,by omega,by omega⟩ (by omega) k0 ne h1 h2;have n9:(qr4 s).tree≠[]:=qkp _ ne;have hop:=h.op;have hac:=h.ac;have kI:=fun i H=>k111 hc0 (L:=s.opn) (by omega) i H;have hw0:wr .i64 ((s.act.length:Int) - 1)=some ((s.act.length:Int) - 1):=qbi (by omega) (by omega);obtain⟨f0,hf0⟩ : ∃f0,f0=qpk s.opn s.act s.act.length:=⟨_,rfl⟩;have hfl:f0<=s.act.length:=by rw[hf0];exact qo8 _ _ _
 have g0:=vg0 (k:=1) ne;have eL:qhc s=s.act.drop f0:=by unfold qhc;rw[<- hf0]
 by_cases hz:f0=s.act.length
 ·have e:qr4 s=s:=by unfold qr4;rw[eL,hz,List.drop_length];rfl
  rw[e];cases hn:s.act.length with
  |zero=>
   rw[hn]at hw0 lA;have hw1:wr .i64 (-1)=some (-1):=rfl;clear e hf0 eL kI hz hr h;refine qa1 (s0:=⟨[0,2,3,4],[.ptr 0 0,uD,uD,uD],[],100,⟨2,[]::[VS 1 s]⟩⟩) Tryz.func40 rfl rfl rfl ?_
   exact zL0
  |succ m=>
   rw[hn]at hw0 lA;have hm:m < s.act.length:=(by omega);have hat:=atI hm;have hg:s.act.getD m 0=s.act[m]:=(by simp[List.getD_eq_getElem?_getD,hm]);have hlost:qfv s.opn s.act[m]=false:=by
    rw[hz,hn]at hf0;have hf0:m+1=if qfv s.opn (s.act.getD m 0)=true then qpk s.opn s.act m else m+1:=hf0;cases hb:qfv s.opn s.act[m]with
    |false=>rfl
    |true=>rw[hg,hb]at hf0;have:=qo8 s.opn s.act m;simp at hf0;omega
   have hwm:wr .i64 (m:Int)=some (m:Int):=qbi (by omega) (by omega);rw[qnk]at hlost;replace kI:=fun H=>kI s.act[m] H;clear e hf0 eL hz hr h hg;generalize s.act[m]=i at *;generalize atP s.opn i=w at *;by_cases c1:i = -1
   ·subst c1;refine qa1 (s0:=⟨[0,2,3,4],[.ptr 0 0,uD,uD,uD],[],100,⟨2,[]::[VS 1 s]⟩⟩) Tryz.func40 rfl rfl rfl ?_
    exact zL0
   ·have c2:0<=w:=(by simp[c1]at hlost;exact hlost);clear hlost;refine qa1 (s0:=⟨[0,2,3,4],[.ptr 0 0,uD,uD,uD],[],100,⟨2,[]::[VS 1 s]⟩⟩) Tryz.func40 rfl rfl rfl ?_
    exact zL0
 ·obtain⟨m,hn⟩ : ∃m,s.act.length=m+1:=⟨s.act.length - 1,by omega⟩;have rec0:qpk s.opn s.act (m+1)=f0:=by rw[hf0,hn]
  have hst:=h.st;have hrg:=h.rg;obtain⟨l,hl⟩ : ∃l,l=qhc s:=⟨_,rfl⟩;have hl':s.act.drop f0=l:=by rw[hl,eL]
  rw[<- hl]at hst hd hr;have hrg:∀j (h:j < l.length),0<=l[j]/\l[j] < (((l.take j).foldl qgg s).tree.length:Int)/\(qa0 ((l.take j).foldl qgg s).tree l[j]).attrs.length<=1000000:=by subst hl;exact hrg
  have eE:qr4 s=(l.take l.length).foldl qgg s:=by rw[yx,hl];rfl
  have hat0:∀j (h:j < l.length),s.act.getD (f0+j) 0=l[j]:=fun j h=>by subst hl';rw[jU,List.getD_eq_getElem?_getD,List.getElem?_eq_getElem (by simp at h;omega)];rfl
  have hat1:=fun j (h:j < l.length)=>rec_at (f0:=f0) hd hat0 j j h (ja j);have hal:=fun j=>rec_len s (l.take j);have hll:l.length+f0=s.act.length:=by rw[<- hl'];simp;omega
  have eN:∀j (h:j < l.length),(l.take (j+1)).foldl qgg s=qgg ((l.take j).foldl qgg s) l[j]:=fun j h=>by rw[jj h,yE];rfl
  have nS:∀j,((l.take j).foldl qgg s).tree≠[]:=fun j=>qkp _ ne;have ho:∀j,j<=l.length->((l.take j).foldl qgg s).opn≠[]:=fun j _=>rec_op hop0 _;have e0:(l.take 0).foldl qgg s=s:=rfl;rw[eE];obtain⟨st,hst0⟩ : ∃st:Nat->SS,st=fun j=>(l.take j).foldl qgg s:=⟨_,rfl⟩;have hst:∀j,j<=l.length->SOk (st j)/\(st j).foster=false/\(st j).act.length<=100000:=by rw[hst0];exact hst
  have hrg:∀j (h:j < l.length),0<=l[j]/\l[j] < ((st j).tree.length:Int)/\(qa0 (st j).tree l[j]).attrs.length<=1000000:=by rw[hst0];exact hrg
  have hat1:∀j (h:j < l.length),(st j).act.getD (f0+j) 0=l[j]:=by rw[hst0];exact hat1
  have hal:∀j,(st j).act.length=s.act.length:=by rw[hst0];exact hal
  have eN:∀j (h:j < l.length),st (j+1)=qgg (st j) l[j]:=by rw[hst0];exact eN
  have nS:∀j,(st j).tree≠[]:=by rw[hst0];exact nS
  have ho:∀j,j<=l.length->(st j).opn≠[]:=by rw[hst0];exact ho
  clear hop0;have e0:st 0=s:=by rw[hst0];rfl
  rw[show (l.take l.length).foldl qgg s=st l.length by rw[hst0]];have hm:m < s.act.length:=by omega
  have hat:=atI hm;have hg:s.act.getD m 0=s.act[m]:=by simp[List.getD_eq_getElem?_getD,hm]
  have hlost:qfv s.opn s.act[m]=true:=by
   have hx:f0=if qfv s.opn (s.act.getD m 0)=true then qpk s.opn s.act m else m+1:=rec0.symm;cases hb:qfv s.opn s.act[m]with
   |true=>rfl
   |false=>rw[hg,hb]at hx;simp at hx;omega
  have hfm:qpk s.opn s.act m=f0:=by have hx:f0=if qfv s.opn (s.act.getD m 0)=true then qpk s.opn s.act m else m+1:=rec0.symm;rw[hg,jo hlost]at hx;exact hx.symm
  clear hst0 eE hl hl' hat0 rec0 eL n9 hg hf0 h;rw[qnk]at hlost;have kI0:=fun H=>kI s.act[m] H;rw[hn]at hw0;have hwm:wr .i64 (m:Int)=some (m:Int):=qbi (by omega) (by omega);rw[hn]at lA;generalize s.act[m]=x at *;have c1:¬ x = -1:=by intro e;rw[e]at hlost;simp at hlost
  have c2:¬ 0<=atP s.opn x:=by simp at hlost;omega
  clear hlost;obtain⟨kk,hkk⟩ : ∃kk:Unit->Prop,kk=fun _=>∀i (H:Heap),qb5 (ctx T) (.fn 111) [qa8 s.opn,.int .i64 i] H=some (.int .i64 (atP s.opn i),H):=⟨_,rfl⟩;have kI':kk ():=by rw[hkk];exact kI
  clear kI;refine qa1 (s0:=⟨[0,2,3,4],[.ptr 0 0,uD,uD,uD],[],100,⟨2,[]::[VS 1 s]⟩⟩) Tryz.func40 rfl rfl rfl ?_
  (repeat' (first
   |with_reducible apply qad
   |with_reducible apply qa3
   |(with_reducible apply rE;simp[zS, *,SS.post];exact rfl)
   |(with_reducible apply qaf;simp only[qab,qa4])
   |(refine qal mixed qaz (by decide +kernel) (by decide +kernel) rfl ?_;apply qdm;simp[zS,zW,qb4,qbc,qar,Heap.lay,qap, *,SS.post];exact rfl)
   |(with_reducible apply qav;refine⟨by repeat first|exact qc6|refine qc7 (by decide +kernel) ?_,?_⟩;simp only[qab,qa4,allPend,Heap.lay,qap])
   |(with_reducible refine qfm (fun hc=>?_) (fun hc=>?_)<;>(have hd:=hc;(try simp at hd);(try subst hd);apply qdm;simp[zS,zW,qb4,qbc,qar,Heap.lay,qap, *,SS.post];exact rfl))
   |(with_reducible refine qim (fun hc=>?_) (fun hc=>?_)<;>(have hd:=hc;(try simp at hd);(try subst hd);apply qdm;simp[zS,zW,qb4,qbc,qar,Heap.lay,qap, *,SS.post];exact rfl))
   |apply qag rfl
   |apply qaj rfl
   |(with_reducible apply qa5;simp only[qab,qa4])
   |(with_reducible apply qa7;simp[zQ,Tryz.f40])))
  all_goals first|(first|(exfalso;omega)|skip)|(exfalso;omega)
  have kI:∀i (H:Heap),qb5 (ctx T) (.fn 111) [qa8 s.opn,.int .i64 i] H=some (.int .i64 (atP s.opn i),H):=by rw[hkk]at kI';exact kI'
  clear kI' hkk hat c1 c2 kI0;refine qb6 (fun k:Nat=>(⟨[0,2,3,4],[.ptr 0 0,qa8 s.act,.int .i64 (k:Int),uD],[],100,⟨2,[[],VS 1 s]⟩⟩ : St)) (fun k=>k<=m/\qpk s.opn s.act k=f0) (fun k=>k) [(1,1),(0,0)] [] m ⟨ja _,hfm⟩
   ⟨rfl,rfl,rfl,by simp[qb8,qas,qaw,qa2],qyp ne rfl rfl⟩ ?_
  rintro k ⟨hk,he⟩ B hB;by_cases hk0:k=f0
  ·subst hk0;have lj:=fun j H=>qgi (H:=H) (L:=(st j).act);have gj:=fun j=>vg0 (k:=2) (nS j);clear hB hfm;have hj:k - 1 < s.act.length:=(by omega);have hat:=atI hj;have hwj:0 < k->wr .i64 ((k:Int) - 1)=some ((k - 1:Nat):Int):=fun h0=>(by rw[show (k:Int) - 1=((k - 1:Nat):Int) by omega];exact qbi (by omega) (by omega));have key:k=0\/s.act[k - 1] = -1\/0<=atP s.opn s.act[k - 1]:=by
    cases k with
    |zero=>exact .inl rfl
    |succ j=>
     right;have hg:s.act.getD j 0=s.act[j]:=(by simp[List.getD_eq_getElem?_getD,show j < s.act.length by omega]);have hx:(if qfv s.opn (s.act.getD j 0)=true then qpk s.opn s.act j else j+1)=j+1:=he;rw[hg]at hx;simp only[Nat.add_sub_cancel];cases hb:qfv s.opn s.act[j]with
     |true=>rw[hb]at hx;have:=qo8 s.opn s.act j;simp at hx;omega
     |false=>
      rw[qnk]at hb;by_cases e:s.act[j] = -1
      ·exact .inl e
      ·right;simp[e]at hb;omega
   have kx:=fun H=>kI s.act[k - 1] H;have hkb:k<=100000:=(by omega);clear he kI;generalize s.act[k - 1]=x at *;clear hj;generalize atP s.opn x=w at *;generalize k - 1=kj at *;obtain⟨K0,hK0⟩ : ∃K0,Kept (k=K0):=⟨_,rfl⟩;have hll':Kept (l.length+K0=s.act.length):=(by have:k=K0:=hK0;unfold Kept;omega);have hat1':Kept (∀j (h:j < l.length),(st j).act.getD (K0+j) 0=l[j]):=(by have:k=K0:=hK0;unfold Kept;rw[<- this];exact hat1);clear hat1 hll
   (repeat' (first
    |with_reducible apply qad
    |with_reducible apply qa3
    |(with_reducible apply rE;simp[zS, *,SS.post];exact rfl)
    |(with_reducible apply qaf;simp only[qab,qa4])
    |(refine qal mixed qaz (by decide +kernel) (by decide +kernel) rfl ?_;apply qdm;simp[zS,zW,qb4,qbc,qar,Heap.lay,qap, *,SS.post];exact rfl)
    |(with_reducible apply qav;refine⟨by repeat first|exact qc6|refine qc7 (by decide +kernel) ?_,?_⟩;simp only[qab,qa4,allPend,Heap.lay,qap])
    |(with_reducible refine qfm (fun hc=>?_) (fun hc=>?_)<;>(have hd:=hc;(try simp at hd);(try subst hd);apply qdm;simp[zS,zW,qb4,qbc,qar,Heap.lay,qap, *,SS.post];exact rfl))
    |apply qaj rfl
    |(refine qbe rfl (fun hc=>?_) (fun hc=>?_)<;>(have hd:=hc;(try simp at hd);(try subst hd)))
    |(with_reducible apply qa5;simp only[qab,qa4])
    |(with_reducible apply qak;simp)))
   all_goals first|(first|(exfalso;omega)|skip)|(exfalso;omega)
   all_goals clear hat hwj key kx
   all_goals replace hK0:_=K0:=hK0
   all_goals replace hll':l.length+K0=s.act.length:=hll'
   all_goals replace hat1':∀j (h:j < l.length),(st j).act.getD (K0+j) 0=l[j]:=hat1'
   all_goals refine qb6 (fun j:Nat=>(⟨[0,2,3,4],[.ptr 0 0,uD,.int .i64 ((K0+j:Nat):Int),uD],[],100,⟨3,[[],VS 2 (st j)]⟩⟩ : St)) (fun j=>j<=l.length) (fun j=>l.length - j) [(1,2),(0,0)] [] 0 (jx _) ⟨rfl,rfl,rfl,by simp[qb8,qas,qaw,qa2,qa8,<- hK0],by rw[e0];exact qyn ⟨by omega,by omega,by omega⟩ (by omega) (by omega) ne rfl rfl⟩ ?_
   all_goals replace hK0:Kept (_=K0):=hK0
   all_goals
    intro j hj B hB;by_cases hjl:j < l.length
    ·obtain⟨o1,o2,o3⟩:=hst j (by omega);obtain⟨r1,r2,r3⟩:=hrg j hjl;have en:=eN j hjl;have hoj:=ho j (by omega);have hv:=hat1' j hjl;have hla:=hal j;have nj:=nS j;have nj1:=nS (j+1);have hak:=qbb (show K0+j<=1000000000 by omega);have hix:K0+j < (st j).act.length:=(by omega);have hat:=atI hix;rw[show (st j).act[K0+j]=l[j] by rw[<- hv,List.getD_eq_getElem?_getD,List.getElem?_eq_getElem hix];rfl]at hat;have hB:=fun s' hf=>hB s' (j+1) (by omega) (by omega) hf;rw[show K0+(j+1)=K0+j+1 by omega]at hB;have hm2:K0+j < m+1:=(by omega);have hq1:K0+j<=100000:=(by omega);clear hv hst hrg eN nS hat1' hal gj lj e0 hK0;generalize K0+j=q at *;generalize l[j]=i at *;obtain⟨u,rfl⟩ : ∃u:Nat,i=u:=⟨i.toNat,by omega⟩;generalize st (j+1)=y at *;generalize st j=x at *;have g2:=vg0 (k:=2) nj;have gk2:=vgk (k:=2) (s:=x) (by omega) nj;have lx:=fun H=>qgi (H:=H) (L:=x.act);rw[hla]at lx;have ix:=ixN (k:=2) (t:=x.tree) (i:=u) (by omega);have sb:=subN (t:=x.tree) (i:=u) (by omega);have kT:=fun H=>k125 hc3 (qa0 x.tree (u:Int)) H;have l7:(qa0 x.tree (u:Int)).cs=[.int .i64 (qa0 x.tree u).kind,.int .i64 (qa0 x.tree u).space,.str (qa0 x.tree u).name,qae (qa0 x.tree u).attrs,.str (qa0 x.tree u).data,.int .i64 (qa0 x.tree u).up,qa8 (qa0 x.tree u).kids]:=rfl;have kT:∀H,qb5 (ctx T) (.fn 125) [.agg [.int .i64 (qa0 x.tree u).kind,.int .i64 (qa0 x.tree u).space,.str (qa0 x.tree u).name,qae (qa0 x.tree u).attrs,.str (qa0 x.tree u).data,.int .i64 (qa0 x.tree u).up,qa8 (qa0 x.tree u).kids]] H=some (.agg [.int .i64 1,.str (qa0 x.tree u).name,qae (qa0 x.tree u).attrs,.bool false,.str []],H):=kT;have kE:=fun n k fr=>@kc1 x nj ⟨1,(qa0 x.tree u).name,(qa0 x.tree u).attrs,false,[]⟩ 0 o2 o1 r3 hoj n k fr;have kW:=fun H=>k126 hc2 (L:=x.act) (by omega) (u:Int) (x.tree.length:Int) H;have e1:elS x 0 (qa0 x.tree u).name (qa0 x.tree u).attrs={x with tree:=(elS x 0 (qa0 x.tree u).name (qa0 x.tree u).attrs).tree,opn:=(elS x 0 (qa0 x.tree u).name (qa0 x.tree u).attrs).opn}:=rfl;have q1:(elS x 0 (qa0 x.tree u).name (qa0 x.tree u).attrs).tree≠[]:=qdi _ _ _ _;rw[e1]at kE;simp only[qlx,Tk.cs]at kE;have er:qgg x (u:Int)={x with tree:=(elS x 0 (qa0 x.tree u).name (qa0 x.tree u).attrs).tree,opn:=(elS x 0 (qa0 x.tree u).name (qa0 x.tree u).attrs).opn,act:=x.act.map (swp u (x.tree.length:Int))}:=rfl;rw[er]at en;rw[l7]at sb;generalize (elS x 0 (qa0 x.tree u).name (qa0 x.tree u).attrs).tree=t1 at *;generalize (elS x 0 (qa0 x.tree u).name (qa0 x.tree u).attrs).opn=p1 at *;generalize x.act.map (swp (u:Int) (x.tree.length:Int))=A2 at *;generalize (qa0 x.tree u).kind=n1 at *;generalize (qa0 x.tree u).space=n2 at *;generalize (qa0 x.tree u).name=n3 at *;generalize (qa0 x.tree u).attrs=n4 at *;generalize (qa0 x.tree u).data=n5 at *;generalize (qa0 x.tree u).up=n6 at *;generalize (qa0 x.tree u).kids=n7 at *;have fin:=fun n f k k0 h1 h2=>fS {x with tree:=t1,opn:=p1,act:=A2} f n k k0 q1 h1 h2;subst en;clear l7 er e1 o1 o2 o3 r1 r2 r3 ho hoj
     exact zL1
    ·have ej:j=l.length:=(by omega);subst ej;have hc:¬ (((K0+l.length:Nat):Int) < (s.act.length:Int)):=(by omega);have hla:=lj l.length;rw[hal l.length]at hla;have nx:=nS l.length;have gx:=gj l.length;clear hB hst hrg eN nS hat1' hal gj lj e0 hK0;generalize st l.length=y at *
     exact zL0
  ·obtain⟨j,rfl⟩ : ∃j,k=j+1:=⟨k - 1,by
    cases k with
    |zero=>exact absurd he hk0
    |succ j=>rfl⟩
   have hj:j < s.act.length:=(by omega);have hat:=atI hj;have hg:s.act.getD j 0=s.act[j]:=(by simp[List.getD_eq_getElem?_getD,hj]);have hlost:qfv s.opn s.act[j]=true/\qpk s.opn s.act j=f0:=by
    have hx:(if qfv s.opn (s.act.getD j 0)=true then qpk s.opn s.act j else j+1)=f0:=he;rw[hg]at hx;cases hb:qfv s.opn s.act[j]with
    |true=>rw[hb]at hx;exact⟨rfl,hx⟩
    |false=>rw[hb]at hx;simp at hx;omega
   obtain⟨hlost,he2⟩:=hlost;have kx:=fun H=>kI s.act[j] H;have hwj:wr .i64 (((j+1:Nat):Int) - 1)=some (j:Int):=qi0 (by omega);have hwj2:wr .i64 (j:Int)=some (j:Int):=qbi (by omega) (by omega);rw[qnk]at hlost;have hB:=fun s' hf=>hB s' j (by omega) ⟨by omega,he2⟩ hf;have hp:(0:Int) < ((j+1:Nat):Int):=(by omega);have fin:=fun n f h0 h1=>qyp ne (n:=n) (f:=f) h0 h1;clear kI hg he he2 hk0;generalize s.act[j]=x at *;have c1:¬ x = -1:=(by intro e;rw[e]at hlost;simp at hlost);have c2:atP s.opn x < 0:=(by simp at hlost;omega);clear hlost
   exact zL0
def e40:Entry PG:=mkS 40 [] (fun z:Unit=>[]) (fun z s=>(RcOk s)/\((qhc s).Nodup)/\(∀i,i∈qhc s->0<=i)/\(s.opn≠[])) (fun z s=>.tup []) (fun z s=>qr4 s) fun z s ne h=>⟨c40 (T:=[e111,e66,e126,e125]) rfl rfl rfl rfl ne  h.1 h.2.1 h.2.2.1 h.2.2.2,by simp[qa6,qa2],by simp[qa2,qa6],by(try exact n9);(all_goals exact qkp _ ne)⟩
theorem k40(hT:qIn 40 T e40) {s:SS} (ne:s.tree≠[])  (h:RcOk s) (hd:(qhc s).Nodup) (hr:∀i,i∈qhc s->0<=i) (hop0:s.opn≠[]) {n k:Nat} {fr:List (Nat × Blk)} (k0:0 < k) (kn:k < n) (of:qg5 k fr):qb5 (ctx T) (.fn 40) [.ptr 0 0] ⟨n,[fr,VS k s]⟩=some (.tup [],⟨n+1,[fr,VS n (qr4 s)]⟩):=
 qcr hT inj_39 () ne ⟨h,hd,hr,hop0⟩ (by simp[qa6,qa2]) (by simp[qbl,qam]) k0 kn of
set_option maxHeartbeats 2000000
theorem c13(hc0:qIn 42 T e42) (hc1:qIn 44 T e44) (hc2:qIn 43 T e43) (hc3:qIn 45 T e45) (hc4:qIn 46 T e46) (hc5:qIn 47 T e47) (hc6:qIn 48 T e48) (hc7:qac 49 T=some e49R.g) (hc8:qIn 52 T e52) {s:SS} (ne:s.tree≠[]) (nm:Str) (h:BI 70000 1000000 850 900 900 s) (hl:nm.length<=1100000):SC T 13 [.str nm] s (.bool (qih nm s).2) ((qih nm s).1):=by
 have kc0:=@k42 T hc0;have kc1:=@k44 T hc1;have kc2:=@k43 T hc2;have kc3:=@k45 T hc3;have kc5:=@k47 T hc5;have kc6:=@k48 T hc6;have kc7:=@k49R T hc7;have kc8:=@k52 T hc8;have g0:=@vg0;have v0:=@vset;have gk:=@vgk;have ol:=h.ol;have al:=h.al;have kI:=fun n k fr=>@kc0 s ne nm trivial hl h.tb.nm (by omega) n k fr;have kT:=fun H=>kc1 (L:=s.opn) (by omega) H;have kL:=fun n k ab fr=>@kc2 s 0 0 ne (qdw s.opn) (by omega) n k ab fr;have kP:=fun n k fr=>@kc3 s ne nm trivial hl h.tb.nm (by omega) n k fr;have bld:qe6 PG 78 [(0,.ptr 0 0)]=some (.agg [.ptr 0 0,.int .i64 0,.int .i64 0]):=rfl;have fS:∀(s:SS) (el mk:Int) (f:List (Nat × Blk)) (n k:Nat),k=1\/3<=k->s.tree≠[]->getF 0 f=none->getF k f=none->getF 2 f=some (.cells [.ptr 0 0,.int .i64 el,.int .i64 mk])->FitH 2 [(k,3),(0,0),(2,2)] [] ⟨n,[f,VS k s]⟩ ⟨4,[[(2,.cells [.ptr 0 0,.int .i64 el,.int .i64 mk])],VS 3 s]⟩:=fun s el mk f n k hk ne h1 h2 h3=>fitA2 (x:=⟨s,el,mk⟩) (by omega) (by omega) (by omega) ne h1 h2 h3;refine qa1 (s0:=⟨[0,1,4,5,6,7],[.ptr 0 0,.str nm,uD,uD,uD,uD],[],79,⟨2,[]::[VS 1 s]⟩⟩) Tryz.func13 rfl rfl rfl ?_;apply qR;simp[zS];by_cases hq:qcy (qbp s.tree (qdw s.opn)) nm=true/\qdw s.opn ∉ s.act
 case pos=>
  refine qpw (fun _:Unit=>(⟨[0,1,4,5,6,7],[.ptr 0 0,uD,uD,uD,uD,uD],[],79,⟨0,[[]]⟩⟩ : St)) (fun _=>False) (fun _=>0) 0 0 rfl (fun x hx=>hx.elim) (fun x hx=>hx.elim) fun B hB=>?_;have e:qih nm s=({s with opn:=qiu s.tree s.opn nm},false):=by unfold qih;rw[jo hq]
  rw[e];obtain⟨q1,q2⟩:=hq;rw[q1]at kI;simp only[decide_eq_false q2]at kL;clear hB kc0 kc1 kc2 kc3 e q1 q2 h;generalize qdw s.opn=tp at *;generalize qiu s.tree s.opn nm=O1 at *
  exact zL0
 refine qpw (fun x:Nat × SS × Int × Int=>(⟨[0,1,4,5,6,7],[.ptr 0 0,.str nm,uD,.ptr 2 0,.int .i64 ((8 - x.1:Nat):Int),uD],[],79,⟨4,[[(2,.cells [.ptr 0 0,.int .i64 x.2.2.1,.int .i64 x.2.2.2])],VS 3 x.2.1]⟩⟩ : St)) (fun x=>x.1<=8/\BI (70000+8 * (8 - x.1)) 1000000 850 900 900 x.2.1/\qih nm s=runF nm x.1 x.2.1) (fun x=>x.1) 8 0 rfl (fun x hx=>hx.1) ?key ?first
 case first=>
  intro B hB;have fin:∀(f:List (Nat × Blk)) (n k:Nat) (ts:List (Nat × AV)),k=1\/3<=k->getF 0 f=none->getF k f=none->getF 2 f=some (.cells [.ptr 0 0,.int .i64 0,.int .i64 0])->Fit 2 [(k,3),(0,0),(2,2)] [] (⟨[0,1,4,5,6,7],[.ptr 0 0,.str nm,.bool false,.ptr 2 0,.int .i64 0,.int .i64 0],ts,79,⟨n,[f,VS k s]⟩⟩ : St) ((⟨[0,1,4,5,6,7],[.ptr 0 0,.str nm,uD,.ptr 2 0,.int .i64 0,uD],[],79,⟨4,[[(2,.cells [.ptr 0 0,.int .i64 0,.int .i64 0])],VS 3 s]⟩⟩ : St)):=fun f n k ts hk a1 a2 a3=>⟨rfl,rfl,rfl,by(have hk2:¬ k=2:=by omega);(have hk0:¬ 0=k:=by omega);(have hk1:¬ 2=k:=by omega);(have hk3:¬ k=0:=by omega);simp[hk3,qb8,qas,qaw,qa2,hk0,hk1,hk2],fS s 0 0 f n k hk ne a1 a2 a3⟩;have hb:=hB (8,s,0,0) ⟨ja 8,h,by unfold qih;rw[jm hq]⟩;simp only[Jg,Int.natCast_zero]at hb;cases hn:qcy (qbp s.tree (qdw s.opn)) nm with
  |false=>
   rw[hn]at kI;generalize qdw s.opn=tp at *;apply qR;simp[zS,bld];apply qR;simp[zS];apply qR;simp[zS,g0,ne,SS.post,kI,kT,kL];apply qaj rfl;apply qa5;simp only[qab,qa4];try apply qad
   apply qdf;simp only[qab,qa4];exact .fit _ _ (fin _ _ _ _ (by omega) (by simp[getF]) (by simp[getF]) (by simp[getF])) hb
  |true=>
   have q2:qdw s.opn∈s.act:=yR fun h=>hq ⟨hn,h⟩;rw[hn]at kI;simp only[decide_eq_true q2]at kL;generalize qdw s.opn=tp at *;apply qR;simp[zS,bld];apply qR;simp[zS];apply qR;simp[zS,g0,ne,SS.post,kI,kT,kL];apply qaj rfl;apply qa5;simp only[qab,qa4];try apply qad
   apply qdf;simp only[qab,qa4];exact .fit _ _ (fin _ _ _ _ (by omega) (by simp[getF]) (by simp[getF]) (by simp[getF])) hb
 case key=>
  rintro⟨r,s1,el,mk⟩ ⟨h1,h2,h3⟩ B hB;simp only at h1 h2 h3 hB ⊢;clear kI kT kL kP bld ol al hl kc0 kc1 kc2 kc3;have ne1:=h2.ne;have ol:=h2.ol;have al:=h2.al;have tl:=h2.tb.n1;have h2a:=h2;have h3b:=h3;rw[h3];clear h3 h hq ne;generalize qih nm s=Q0 at *;cases r with
  |zero=>
   have e:runF nm 0 s1=(s1,false):=rfl;rw[e];clear e h3b hB h2 h2a kc5 kc6 kc7 kc8
   exact zL0
  |succ r=>
   obtain⟨i,hi⟩ : ∃i,i=qfc s1.tree s1.act nm:=⟨_,rfl⟩;obtain⟨x,hx⟩ : ∃x,x=qhe s1.opn i:=⟨_,rfl⟩;have er:runF nm (r+1) s1=if i < 0 then (s1,true) else if x < 0 then ({ s1 with act:=qbz s1.act i },false) else if 0<=qi6 s1 qph x.toNat then (s1,false) else if rnB s1 x.toNat=true then runF nm r (rnS s1 i x.toNat) else (rnS s1 i x.toNat,false):=(by rw[hx,hi];rfl);have kF:=fun n k f (k0:0 < k) (hf:getF k f=none)=>q46 hc4 (thS (n:=n) k0 ne1 hf) (a1:=qa8 s1.act) (L:=s1.act) (qam (by simp[okV,qa2])) nm (by omega);have kX:=fun H=>kc5 (L:=s1.opn) i (by omega) H;rw[show qb7 (fun y=>decide (i=y)) s1.opn 0=x from hx.symm]at kX;rw[<- hi]at kF;have kD:=fun H=>kc6 (L:=s1.act) (by omega) i H;have w1:((8 - (r+1):Nat):Int)≠8:=(by omega);have w2:wr .i64 (((8 - (r+1):Nat):Int)+1)=some ((8 - r:Nat):Int):=(by rw[show (((8 - (r+1):Nat):Int)+1)=((8 - r:Nat):Int) by omega];exact qbi (by omega) (by omega));generalize ((8 - (r+1):Nat):Int)=rr at *;rw[er]at h3b ⊢;clear er;by_cases c1:i < 0
   ·rw[jo c1];clear h3b;clear hB h2 h2a kc5 kc6 kc7 kc8 kX kD hx hi
    exact zL0
   rw[jm c1]at h3b ⊢;by_cases c2:x < 0
   ·rw[jo c2];clear h3b;clear hB h2 h2a kc5 kc6 kc7 kc8 hx hi;generalize qbz s1.act i=A1 at *
    exact zL0
   rw[jm c2]at h3b ⊢;have hr0:=rd_of h2 (nm:=nm) (by rw[<- hi];exact c1) (by rw[<- hi,<- hx];exact c2);rw[<- hi,<- hx]at hr0;obtain⟨p,hp⟩ : ∃p:Nat,x=(p:Int):=⟨x.toNat,by omega⟩;have ep:x.toNat=p:=(by omega);rw[ep]at hr0 h3b ⊢;have hpl:=hr0.pl;have kB:=fun n k ab fr=>@kc7 s1 i mk ne1 p (by omega) (by omega) h2.r0 h2.tb.nm n k ab fr;simp only[<- hp]at kB;by_cases c3:0<=qi6 s1 qph p
   ·rw[jo c3];clear h3b;clear hB h2 h2a kc5 kc6 kc7 kc8 hx hi kD hr0 hp ep;generalize qi6 s1 qph p=v at *
    exact zL0
   rw[jm c3]at h3b ⊢;have hrn:=BI.rn hr0 (by omega);have nr:=hrn.ne;have kR:=fun n k ab fr=>@kc8 s1 i mk ne1 x ⟨by omega,by rw[ep];exact⟨h2.mono (by omega) (ja _) (ja _) (ja _) (ja _),hr0.pl,hr0.at_,hr0.ea⟩⟩ n k ab fr;simp only[ep]at kR;cases hb:rnB s1 p with
   |false=>
    rw[hb]at kR;simp only[jz,jM];clear h3b hB h2 h2a kc5 kc6 kc7 kc8 hx hi kD hr0 hp ep hrn;generalize qi6 s1 qph p=v at *;generalize rnS s1 i p=s2 at *;generalize rnM s1 i p mk=m2 at *
    exact zL0
   |true=>
    rw[hb]at kR h3b;simp only[jQ]at h3b ⊢;have hB2:=fun(s':St) (mk':Int) h=>hB s' (r,rnS s1 i p,i,mk') (by simp) ⟨by simp only;omega,hrn.mono (by simp only;omega) (ja _) (ja _) (ja _) (ja _),h3b⟩ h;simp only at hB2;have fT:=fS (rnS s1 i p) i (rnM s1 i p mk);clear hB h2 h2a kc5 kc6 kc7 kc8 hx hi kD hr0 hp ep hrn h3b;generalize qi6 s1 qph p=v at *;generalize rnS s1 i p=s2 at *;generalize rnM s1 i p mk=m2 at *;generalize ((8 - r:Nat):Int)=rr2 at *
    (repeat' (first
     |with_reducible apply qad
     |(with_reducible apply rE;simp[zS, *,SS.post];exact rfl)
     |(with_reducible apply qaf;simp only[qab,qa4])
     |(refine qal mixed qaz (by decide +kernel) (by decide +kernel) rfl ?_;apply qdm;simp[zS,zW,qb4,qbc,qar,Heap.lay,qap, *,SS.post];exact rfl)
     |(with_reducible apply qav;refine⟨by repeat first|exact qc6|refine qc7 (by decide +kernel) ?_,?_⟩;simp only[qab,qa4,allPend,Heap.lay,qap])
     |apply qag rfl
     |apply qaj rfl
     |(with_reducible apply qa5;simp only[qab,qa4])))
    all_goals first|(skip)|(exfalso;omega)
    all_goals
     apply wps_goto;refine⟨rfl,rfl,hB2 _ m2 ⟨[(_,3),(0,0),(2,2)],[],rfl,rfl,rfl,by simp[qb8,qas,qaw,qa2],fT _ _ _ (by omega) nr (by simp[getF]) (by simp[getF]) (by simp[getF])⟩⟩
def e13:Entry PG:=mkS 13 [[]] (fun z:Str=>[.str z]) (fun z s=>(BI 70000 1000000 850 900 900 s)/\(z.length<=1100000)) (fun z s=>.bool (qih z s).2) (fun z s=>(qih z s).1) fun z s ne h=>⟨c13 (T:=[e42,e44,e43,e45,e46,e47,e48,e49R,e52]) rfl rfl rfl rfl rfl rfl rfl rfl rfl ne z h.1 h.2,by simp[qa6,qa2],by simp[qa2,qa6],(BI.run h.1 (by omega) _).1.ne⟩
theorem k13(hT:qIn 13 T e13) {s:SS} (ne:s.tree≠[]) (nm:Str) (h:BI 70000 1000000 850 900 900 s) (hl:nm.length<=1100000) {n k:Nat} {fr:List (Nat × Blk)} (k0:0 < k) (kn:k < n) (of:qg5 k fr):qb5 (ctx T) (.fn 13) [.ptr 0 0,.str nm] ⟨n,[fr,VS k s]⟩=some (.bool (qih nm s).2,⟨n+1,[fr,VS n ((qih nm s).1)]⟩):=
 qcr hT inj_54 (nm) ne ⟨h,hl⟩ (by simp[qa6,qa2]) (by simp[qbl,qam]) k0 kn of
theorem qsk(L:List Int) (i:Int):atP L i=qhe L i:=by
 unfold atP qhe;congr 1;funext y;by_cases h:y=i
 ·simp[h]
 ·have h2:¬ i=y:=fun e=>h e.symm;simp[h,h2]
theorem qsj{L:List Int} {i:Int} (h:i ∉ L):atP L i = -1:=by have h1:=zco L i;have h2:¬ 0<=atP L i:=fun e=>h (atP_mem.1 e);omega
theorem zc2{L:List Int} {i:Int} (h:i ∉ L):qbz L i=L:=by unfold qbz;rw[yI];intro x hx;have:x≠i:=fun e=>h (e ▸ hx);simp[this]
theorem c116(hc0:qIn 111 T e111) (hc1:qIn 113 T e113) (hc2:qIn 122 T e122) (hc3:qIn 118 T e118) (hc4:qIn 126 T e126) (hc5:qIn 120 T e120) {s:SS} (ne:s.tree≠[]) (el:Int) (bk:Int) (mk:Int) (h:ClOk el bk s mk):SC T 116 [.int .i64 el,.int .i64 bk,.int .i64 mk] s (.tup [.int .i64 (qdy el bk s mk).last,.int .i64 (qdy el bk s mk).mr]) ((qdy el bk s mk).s):=by
 have kc3:=@k118 T hc3;have kc5:=@k120 T hc5;have g0:=@vg0;have v0:=@vset;obtain⟨p0,hp0,h0⟩:=h;have eR:qdy el bk s mk=qfi el bk p0 1 ⟨s,mk,bk⟩:=by unfold qdy;rw[hp0];rfl
 rw[eR];have hol:s.opn.length<=900:=by obtain⟨n,_,bi⟩:=h0.bi;exact bi.ol
 have kX:=fun H=>k111 hc0 (L:=s.opn) (by omega) bk H;rw[show atP s.opn bk=(p0:Int) by rw[qsk];exact hp0]at kX;have hp0l:p0<=900:=by have:=h0.pl;simp only at this;omega
 clear hp0 eR;obtain⟨R,hR⟩ : ∃R,R=qfi el bk p0 1 ⟨s,mk,bk⟩:=⟨_,rfl⟩;have neR:R.s.tree≠[]:=by obtain⟨⟨q,j,hq⟩,_⟩:=CI.all (by omega) p0 1 h0 (ja 1);obtain⟨n,_,bi⟩:=hq.bi;rw[hR];exact bi.ne
 rw[<- hR];have gk:=@vgk;have fS:∀(s:SS) (f:List (Nat × Blk)) (n k:Nat),0 < k->s.tree≠[]->getF 0 f=none->getF k f=none->FitH 2 [(k,2),(0,0)] [] ⟨n,[f,VS k s]⟩ ⟨3,[[],VS 2 s]⟩:=fun s f n k k0 ne h1 h2=>qyn ⟨by omega,by omega,by omega⟩ (by omega) k0 ne h1 h2;refine qa1 (s0:=⟨[0,1,2,3,8,9,10,11,12,13,14,15],[.ptr 0 0,.int .i64 el,.int .i64 bk,.int .i64 mk,uD,uD,uD,uD,uD,uD,uD,uD],[],119,⟨2,[]::[VS 1 s]⟩⟩) Tryz.func116 rfl rfl rfl ?_;apply qR;simp[zS];apply qR;simp[zS];apply qR;simp[zS,g0,ne,SS.post,kX];apply qR;simp[zS];apply qa3;refine qb6 (fun x:Nat × Nat × CS=>(⟨[0,1,2,3,8,9,10,11,12,13,14,15],[.ptr 0 0,.int .i64 el,.int .i64 bk,.int .i64 x.2.2.mr,.int .i64 0,.int .i64 0,.int .i64 x.2.2.last,.int .i64 (x.1:Int),.int .i64 (x.2.1:Int),uD,uD,uD],[],119,⟨3,[[],VS 2 x.2.2.s]⟩⟩ : St)) (fun x=>CI el bk 90000 1000000 850 900 900 x.1 x.2.1 x.2.2/\1<=x.2.1/\x.2.1+x.1<=p0+1/\R=qfi el bk x.1 x.2.1 x.2.2) (fun x=>x.1) [(1,2),(0,0)] [] (p0,1,⟨s,mk,bk⟩) ⟨h0,ja 1,by simp only;omega,hR⟩
  ⟨rfl,rfl,rfl,by simp[qb8,qas,qaw,qa2],fS s _ _ 1 (by omega) ne (by simp[getF]) (by simp[getF])⟩ ?_
 rintro⟨p,k,⟨s0,mk0,last⟩⟩ ⟨hc,hk1,hkp,hx⟩ B hB;simp only at hc hk1 hkp hx hB ⊢;clear hR kX ne h0 hol s;obtain⟨n,hn,bi⟩:=hc.bi;have bi:BI n 1000000 850 900 900 s0:=bi;have ne:=bi.ne;have hpl:=hc.pl;have hml:=hc.ml;have hal:=bi.al;have hol2:=bi.ol;have hll:=hc.ll;have htl:=bi.tb.n1;simp only at hpl hml hll;cases p with
 |zero=>have:=hc.eo;simp at this
 |succ p=>
  have hp:p < s0.opn.length:=by omega
  have hat:=atI hp;have hg:s0.opn.getD p 0=s0.opn[p]:=by simp[List.getD_eq_getElem?_getD,hp]
  have hrg:=bi.rg _ (jA hp);have hst:s0.opn[p]≠el->CI el bk 90000 1000000 850 900 900 p (k+1) (qd8 bk k s0.opn[p] ⟨s0,mk0,last⟩):=fun hi=>by have:=(hc.step hk1 (by omega) (by simp only;rw[hg];exact hi)).1;simp only[hg]at this;exact this
  have hx2:R=if s0.opn[p]=el then ⟨s0,mk0,last⟩ else qfi el bk p (k+1) (qd8 bk k s0.opn[p] ⟨s0,mk0,last⟩):=by rw[hx];show (if s0.opn.getD p 0=el then _ else qfi el bk p (k+1) (qd8 bk k (s0.opn.getD p 0) _))=_;rw[hg]
  have hatt:=(bi.tb.at_ (i:=s0.opn[p]) (by omega) (by omega)).1;have hws:wr .i64 (((p+1:Nat):Int) - 1)=some (p:Int):=by rw[show (((p+1:Nat):Int) - 1)=(p:Int) by omega];exact qbi (by omega) (by omega)
  obtain⟨pp,hpp⟩ : ∃pp:Int,pp=((p+1:Nat):Int):=⟨_,rfl⟩;rw[<- hpp]at hws ⊢;clear hpp;generalize s0.opn[p]=i at *;by_cases hi:i=el
  ·rw[jo hi]at hx2;subst hx2 hi;clear hB hst hx hc bi
   exact zL0
  ·rw[jm hi]at hx2;have hst:=hst hi;have hB2:=fun s' hh=>hB s' (p,k+1,qd8 bk k i ⟨s0,mk0,last⟩) (by simp only;omega) ⟨hst,by simp only;omega,by simp only;omega,hx2⟩ hh;have nst:(qd8 bk k i ⟨s0,mk0,last⟩).s.tree≠[]:=(by obtain⟨_,_,b2⟩:=hst.bi;exact b2.ne);have fT:=fS (qd8 bk k i ⟨s0,mk0,last⟩).s;have hkw:wr .i64 ((k:Int)+1)=some ((k+1:Nat):Int):=qbb (by omega);have kI:=fun H=>k111 hc0 (L:=s0.act) (by omega) i H;have kD:=fun H=>k122 hc2 (L:=s0.opn) (by omega) i H;simp only at hB2;clear hB hx hx2 hst;by_cases h3:3 < k
   ·have h3':(3:Int) < (k:Int):=(by omega);have kE:=fun H=>k113 hc1 (L:=s0.act) (by omega) i H;have kI2:=fun H=>k111 hc0 (L:=qbz s0.act i) (by have:(qbz s0.act i).length<=s0.act.length:=yp _ _;omega) i H;rw[qsj (qti (by omega))]at kI2;have hmw:wr .i64 (mk0 - 1)=some (mk0 - 1)\/True:=.inr trivial;by_cases hia:i∈s0.act
    ·have ha0:=atP_mem.2 hia;by_cases hlt:atP s0.act i < mk0
     ·have e:qd8 bk k i ⟨s0,mk0,last⟩=⟨{s0 with opn:=qbm s0.opn i,act:=qbz s0.act i},mk0 - 1,last⟩:=(by unfold qd8 clD clU clM;rw[jo (.inl h3),jo h3,jo h3];unfold qlz;rw[jo ⟨ha0,hlt⟩]);rw[e]at hB2 nst fT;have hmw:wr .i64 (mk0 - 1)=some (mk0 - 1):=qbi (by omega) (by omega);clear kc3 kc5 e hc bi hg hia hatt;generalize qbm s0.opn i=O1 at *;generalize qbz s0.act i=A1 at *;generalize atP s0.act i=v at *
      exact zL0
     ·have e:qd8 bk k i ⟨s0,mk0,last⟩=⟨{s0 with opn:=qbm s0.opn i,act:=qbz s0.act i},mk0,last⟩:=(by unfold qd8 clD clU clM;rw[jo (.inl h3),jo h3,jo h3];unfold qlz;rw[jm fun e=>hlt e.2]);rw[e]at hB2 nst fT;clear kc3 kc5 e hc bi hg hia hatt;generalize qbm s0.opn i=O1 at *;generalize qbz s0.act i=A1 at *;generalize atP s0.act i=v at *
      exact zL0
    ·have e:qd8 bk k i ⟨s0,mk0,last⟩=⟨{s0 with opn:=qbm s0.opn i},mk0,last⟩:=(by unfold qd8 clD clU clM;rw[jo (.inl h3),jo h3,jo h3];unfold qlz;rw[jm fun e=>hia (atP_mem.1 e.1),zc2 hia]);rw[e]at hB2 nst fT;rw[qsj hia]at kI;clear kc3 kc5 e hc bi hg hia hatt kI2 kE;generalize qbm s0.opn i=O1 at *
     exact zL0
   ·have h3':¬ (3:Int) < (k:Int):=(by omega);by_cases hia:i∈s0.act
    ·have ha0:=atP_mem.2 hia;have e:qd8 bk k i ⟨s0,mk0,last⟩=clR bk i ⟨s0,mk0,last⟩:=(by unfold qd8;rw[jm (fun h=>h.elim h3 (fun h=>h hia))]);have kC:=fun n k fr=>@kc3 s0 ne i (by omega) (by omega) (by omega) (by omega) n k fr;have kS1:=fun H=>k126 hc4 (L:=s0.act) (by omega) i (s0.tree.length:Int) H;have kS2:=fun H=>k126 hc4 (L:=s0.opn) (by omega) i (s0.tree.length:Int) H;have kA:=fun H=>k111 hc0 (L:=s0.act.map (swp i (s0.tree.length:Int))) (by rw[jD];omega) (s0.tree.length:Int) H;have hal2:=qui (s0.act.map (swp i (s0.tree.length:Int))) (s0.tree.length:Int);rw[jD]at hal2;have hal3:=zco (s0.act.map (swp i (s0.tree.length:Int))) (s0.tree.length:Int);have rne:(qha s0 i).tree≠[]:=qev _ _;have rle:qcf (qha s0 i).tree 999999:=(bi.tb.add (qe0 s0.tree i) (by have:=(bi.tb.at_ (i:=i) (by omega) (by omega)).2.1;exact this) (by simp[qe0]) hatt).le (by omega);have rln:(qha s0 i).tree.length=s0.tree.length+1:=qg3 _;have kL:=fun n k fr=>@kc5 (qha s0 i) rne (s0.tree.length:Int) last (by omega) (by rw[rln];omega) (by rw[rln];omega) rle n k fr;have eI:({ qha s0 i with tree:=qgh (qha s0 i).tree (s0.tree.length:Int) ((qa0 (qha s0 i).tree (s0.tree.length:Int)).kids.length:Int) last }:SS)={ qha s0 i with tree:=clT s0 i last }:=rfl;simp only[eI]at kL;have er:qha s0 i={s0 with tree:=qed s0.tree (qe0 s0.tree i),opn:=s0.opn.map (swp i (s0.tree.length:Int)),act:=s0.act.map (swp i (s0.tree.length:Int))}:=rfl;have na:qed s0.tree (qe0 s0.tree i)≠[]:=qev _ _;by_cases hlb:last=bk
     ·have e2:clR bk i ⟨s0,mk0,last⟩=⟨{s0 with tree:=clT s0 i last,opn:=s0.opn.map (swp i (s0.tree.length:Int)),act:=s0.act.map (swp i (s0.tree.length:Int))},atP (s0.act.map (swp i (s0.tree.length:Int))) (s0.tree.length:Int)+1,(s0.tree.length:Int)⟩:=(by unfold clR;simp only;rw[jo hlb];rfl);rw[e,e2]at hB2 nst fT;clear e e2;subst hlb;rw[er]at kL rne;have haw:wr .i64 (atP (s0.act.map (swp i (s0.tree.length:Int))) (s0.tree.length:Int)+1)=some (atP (s0.act.map (swp i (s0.tree.length:Int))) (s0.tree.length:Int)+1):=qbi (by omega) (by omega);clear kc3 kc5 er eI bi hc hatt rle rln hia hg rne;simp only at kL;generalize clT s0 i last=t1 at *;generalize qed s0.tree (qe0 s0.tree i)=t2 at *;generalize atP (s0.act.map (swp i (s0.tree.length:Int))) (s0.tree.length:Int)=v at *;generalize s0.act.map (swp i (s0.tree.length:Int))=A1 at *;generalize s0.opn.map (swp i (s0.tree.length:Int))=O1 at *;generalize atP s0.act i=w at *
      exact zL0
     ·have e2:clR bk i ⟨s0,mk0,last⟩=⟨{s0 with tree:=clT s0 i last,opn:=s0.opn.map (swp i (s0.tree.length:Int)),act:=s0.act.map (swp i (s0.tree.length:Int))},mk0,(s0.tree.length:Int)⟩:=(by unfold clR;simp only;rw[jm hlb];rfl);rw[e,e2]at hB2 nst fT;rw[er]at kL rne;clear kc3 kc5 e e2 er eI bi hc hatt rle rln hia hg kA hal2 hal3 rne;simp only at kL;generalize clT s0 i last=t1 at *;generalize qed s0.tree (qe0 s0.tree i)=t2 at *;generalize s0.act.map (swp i (s0.tree.length:Int))=A1 at *;generalize s0.opn.map (swp i (s0.tree.length:Int))=O1 at *;generalize atP s0.act i=w at *
      exact zL0
    ·have e:qd8 bk k i ⟨s0,mk0,last⟩=⟨{s0 with opn:=qbm s0.opn i},mk0,last⟩:=(by unfold qd8 clD clU clM;rw[jo (.inr hia),jm h3,jm h3]);rw[e]at hB2 nst fT;rw[qsj hia]at kI;clear kc3 kc5 e hc bi hia hg hatt;generalize qbm s0.opn i=O1 at *
     exact zL0
def e116:Entry PG:=mkS 116 [[],[],[]] (fun z:Int × Int × Int=>[.int .i64 z.1,.int .i64 z.2.1,.int .i64 z.2.2]) (fun z s=>(ClOk z.1 z.2.1 s z.2.2)) (fun z s=>.tup [.int .i64 (qdy z.1 z.2.1 s z.2.2).last,.int .i64 (qdy z.1 z.2.1 s z.2.2).mr]) (fun z s=>(qdy z.1 z.2.1 s z.2.2).s) fun z s ne h=>⟨c116 (T:=[e111,e113,e122,e118,e126,e120]) rfl rfl rfl rfl rfl rfl ne z.1 z.2.1 z.2.2 h,by simp[qa6,qa2],by simp[qa2,qa6],qu8 h⟩
theorem k116(hT:qIn 116 T e116) {s:SS} (ne:s.tree≠[]) (el:Int) (bk:Int) (mk:Int) (h:ClOk el bk s mk) {n k:Nat} {fr:List (Nat × Blk)} (k0:0 < k) (kn:k < n) (of:qg5 k fr):qb5 (ctx T) (.fn 116) [.ptr 0 0,.int .i64 el,.int .i64 bk,.int .i64 mk] ⟨n,[fr,VS k s]⟩=some (.tup [.int .i64 (qdy el bk s mk).last,.int .i64 (qdy el bk s mk).mr],⟨n+1,[fr,VS n ((qdy el bk s mk).s)]⟩):=
 qcr hT inj_26S (el,bk,mk) ne h (by simp[qa6,qa2]) (by simp[qbl,qam]) k0 kn of
theorem c38(hc0:qIn 109 T e109) (hc1:qIn 110 T e110) (hc2:qIn 111 T e111) (hc3:qIn 100 T e100) (hc4:qIn 112 T e112) (hc5:qIn 113 T e113) (hc6:qIn 114 T e114) (hc7:qIn 115 T e115) (hc8:qIn 116 T e116) (hc9:qac 95 T=some e95S.g) (hc10:qIn 117 T e117) (hc11:qac 31 T=some e31S.g) (hc12:qIn 118 T e118) (hc13:qac 119 T=some e119S.g) (hc14:qIn 120 T e120) (hc15:qIn 121 T e121) (hc16:qIn 122 T e122) {s:SS} (ne:s.tree≠[]) (nm:Str) (h:BI 70000 1000000 850 900 900 s) (hl:nm.length<=100000):SC T 38 [.str nm] s (.bool (qih nm s).2) ((qih nm s).1):=by
 have kc1:=@k110 T hc1;have kc3:=@k100 T hc3;have kc6:=@k114 T hc6;have kc7:=@k115 T hc7;have kc8:=@k116 T hc8;have kc9:=@k95S T hc9;have kc10:=@k117 T hc10;have kc11:=@k31S T hc11;have kc12:=@k118 T hc12;have kc13:=@k119S T hc13;have kc14:=@k120 T hc14;have g0:=@vg0;have v0:=@vset;have gk:=@vgk;have ol:=h.ol;have al:=h.al;have kI:=fun n k fr=>@kc1 s ne nm hl (by omega) n k fr;have kT:=fun H=>k109 hc0 (L:=s.opn) (by omega) H;have kL:=fun H=>k111 hc2 (L:=s.act) (by omega) (qdw s.opn) H;have kP:=fun n k fr=>@kc3 s ne nm hl (by omega) n k fr;have fS:∀(s:SS) (f:List (Nat × Blk)) (n k:Nat),0 < k->s.tree≠[]->getF 0 f=none->getF k f=none->FitH 2 [(k,2),(0,0)] [] ⟨n,[f,VS k s]⟩ ⟨3,[[],VS 2 s]⟩:=fun s f n k k0 ne h1 h2=>qyn ⟨by omega,by omega,by omega⟩ (by omega) k0 ne h1 h2;refine qa1 (s0:=⟨[0,1,4,5,6,7,8,9,10,11,12,13,14,15,16],[.ptr 0 0,.str nm,uD,uD,uD,uD,uD,uD,uD,uD,uD,uD,uD,uD,uD],[],206,⟨2,[]::[VS 1 s]⟩⟩) Tryz.func38 rfl rfl rfl ?_;by_cases hq:qcy (qbp s.tree (qdw s.opn)) nm=true/\qdw s.opn ∉ s.act
 case pos=>
  have e:qih nm s=({s with opn:=qiu s.tree s.opn nm},false):=by unfold qih;rw[jo hq]
  rw[e];obtain⟨q1,q2⟩:=hq;rw[q1]at kI;rw[qsj q2]at kL;clear kc1 kc3 kc6 kc7 kc8 kc9 kc10 kc11 kc12 kc13 kc14 e q1 q2 h;generalize qdw s.opn=tp at *;generalize qiu s.tree s.opn nm=O1 at *
  exact zL0
 have er0:qih nm s=runF nm 8 s:=by unfold qih;rw[jm hq]
 rw[er0];obtain⟨tp,htp⟩ : ∃tp,tp=qdw s.opn:=⟨_,rfl⟩;rw[<- htp]at kT kL kI hq;have hq2:qcy (qbp s.tree tp) nm=true->0<=atP s.act tp:=fun e=>atP_mem.2 (yR fun h=>hq ⟨e,h⟩);clear hq htp er0;obtain⟨b,hb⟩ : ∃b,b=qcy (qbp s.tree tp) nm:=⟨_,rfl⟩;rw[<- hb]at hq2 kI;clear hb;generalize atP s.act tp=w0 at *;obtain⟨Q0,hQ0⟩ : ∃Q0,Q0=runF nm 8 s:=⟨_,rfl⟩;rw[<- hQ0];have hQ0:Kept (Q0=runF nm 8 s):=hQ0;have h:Kept (BI 70000 1000000 850 900 900 s):=h;clear kc1 kc3;have key:b=false\/(b=true/\¬ w0 < 0):=by
  cases b with
  |false=>exact .inl rfl
  |true=>exact .inr ⟨rfl,by have:=hq2 rfl;omega⟩
 clear hq2;rcases key with rfl|⟨rfl,hw0⟩
 all_goals (repeat' (first
             |with_reducible apply qad
             |with_reducible apply qa3
             |(with_reducible apply qdf;simp only[qab,qa4])
             |(with_reducible apply rE;simp[zS, *,SS.post];exact rfl)
             |(with_reducible apply qaf;simp only[qab,qa4])
             |(refine qal mixed qaz (by decide +kernel) (by decide +kernel) rfl ?_;apply qdm;simp[zS,zW,qb4,qbc,qar,Heap.lay,qap, *,SS.post];exact rfl)
             |(with_reducible apply qav;refine⟨by repeat first|exact qc6|refine qc7 (by decide +kernel) ?_,?_⟩;simp only[qab,qa4,allPend,Heap.lay,qap])
             |(with_reducible refine qfm (fun hc=>?_) (fun hc=>?_)<;>(have hd:=hc;(try simp at hd);(try subst hd);apply qdm;simp[zS,zW,qb4,qbc,qar,Heap.lay,qap, *,SS.post];exact rfl))
             |(with_reducible refine qvc (fun hc=>?_) (fun hc=>?_)<;>(have hd:=hc;(try simp at hd);(try subst hd);apply qdm;simp[zS,zW,qb4,qbc,qar,Heap.lay,qap, *,SS.post];exact rfl))
             |(with_reducible refine qim (fun hc=>?_) (fun hc=>?_)<;>(have hd:=hc;(try simp at hd);(try subst hd);apply qdm;simp[zS,zW,qb4,qbc,qar,Heap.lay,qap, *,SS.post];exact rfl))
             |(with_reducible refine qdd (fun hc=>?_) (fun hc=>?_)<;>(have hd:=hc;(try simp at hd);(try subst hd);apply qpn;simp[zS, *,SS.post];exact rfl))
             |(with_reducible refine qjs (fun hc=>?_) (fun hc=>?_)<;>(have hd:=hc;(try simp at hd);(try subst hd);apply qpn;simp[zS, *,SS.post];exact rfl))
             |apply qag rfl
             |apply qaj rfl
             |(refine qbe rfl (fun hc=>?_) (fun hc=>?_)<;>(have hd:=hc;(try simp at hd);(try subst hd)))
             |(with_reducible apply qa5;simp only[qab,qa4])
             |(with_reducible apply qak;simp)
             |(with_reducible apply qa7;simp[zQ,Tryz.f38])))
           all_goals first|(skip)|(exfalso;omega)
 all_goals refine qb6 (fun x:Nat × SS=>(⟨[0,1,4,5,6,7,8,9,10,11,12,13,14,15,16],[.ptr 0 0,.str nm,uD,uD,.int .i64 ((8 - x.1:Nat):Int),uD,uD,uD,uD,uD,uD,uD,uD,uD,uD],[],206,⟨3,[[],VS 2 x.2]⟩⟩ : St)) (fun x=>x.1<=8/\BI (70000+8 * (8 - x.1)) 1000000 850 900 900 x.2/\Q0=runF nm x.1 x.2) (fun x=>x.1) [(2,2),(0,0)] [] (8,s) ⟨ja 8,BI.mono (show BI 70000 1000000 850 900 900 s from h) (Nat.le_add_right _ _) (ja _) (ja _) (ja _) (ja _),show Q0=runF nm 8 s from hQ0⟩ ⟨rfl,rfl,rfl,by simp[qb8,qas,qaw,qa2],fS s _ _ 2 (by omega) ne rfl rfl⟩ ?_
 all_goals clear hQ0 h kI kT kL kP ol al
 all_goals rintro⟨r,s1⟩ ⟨h1,h2,h3⟩ B hB
 all_goals simp only at h1 h2 h3 hB ⊢
 all_goals
  have ne1:=h2.ne;have ol:=h2.ol;have al:=h2.al;have tl:=h2.tb.n1;rw[h3]at hB ⊢;clear h3;cases r with
  |zero=>
   have e:runF nm 0 s1=(s1,false):=rfl;rw[e];clear e hB h2
   exact zL0
  |succ r=>
   have w1:(((8 - (r+1):Nat):Int)) < 8:=(by omega);have w2:wr .i64 (((8 - (r+1):Nat):Int)+1)=some ((8 - r:Nat):Int):=(by rw[show (((8 - (r+1):Nat):Int)+1)=((8 - r:Nat):Int) by omega];exact qbi (by omega) (by omega));obtain⟨i,hi⟩ : ∃i,i=qfc s1.tree s1.act nm:=⟨_,rfl⟩;obtain⟨x,hx⟩ : ∃x,x=qhe s1.opn i:=⟨_,rfl⟩;have er:runF nm (r+1) s1=if i < 0 then (s1,true) else if x < 0 then ({ s1 with act:=qbz s1.act i },false) else if 0<=qi6 s1 qph x.toNat then (s1,false) else if rnB s1 x.toNat=true then runF nm r (rnS s1 i x.toNat) else (rnS s1 i x.toNat,false):=(by rw[hx,hi];rfl);have kF:=fun n k f (k0:0 < k) (hf:getF k f=none)=>q112 hc4 (thS (n:=n) k0 ne1 hf) (a1:=qa8 s1.act) (L:=s1.act) (qam (by simp[okV,qa2])) nm (by omega);have kX:=fun H=>k111 hc2 (L:=s1.opn) (by omega) i H;rw[qsk,<- hx]at kX;rw[<- hi]at kF;have kD:=fun H=>k113 hc5 (L:=s1.act) (by omega) i H;generalize ((8 - (r+1):Nat):Int)=rr at *;have hB:=fun s2 (e:runF nm (r+1) s1=runF nm r s2) (h:BI (70000+8 * (8 - r)) 1000000 850 900 900 s2) s' hf=>hB s' (r,s2) (by simp only;omega) ⟨by simp only;omega,h,e⟩ hf;simp only at hB;rw[er]at hB ⊢;clear er;by_cases c1:i < 0
   ·rw[jo c1];clear hB h2 hx hi kc6 kc7 kc8 kc9 kc10 kc11 kc12 kc13 kc14 kX kD
    exact zL0
   rw[jm c1]at hB ⊢;by_cases c2:x < 0
   ·rw[jo c2];clear hB h2 hx hi kc6 kc7 kc8 kc9 kc10 kc11 kc12 kc13 kc14;generalize qbz s1.act i=A1 at *
    exact zL0
   rw[jm c2]at hB ⊢;have hr0:=rd_of h2 (nm:=nm) (by rw[<- hi];exact c1) (by rw[<- hi,<- hx];exact c2);rw[<- hi,<- hx]at hr0;obtain⟨p,hp⟩ : ∃p:Nat,x=(p:Int):=⟨x.toNat,by omega⟩;have ep:x.toNat=p:=(by omega);rw[ep]at hr0 hB ⊢;have hpl:=hr0.pl;have kSc:=fun n k fr=>@kc6 s1 ne1 p (by omega) (fun i hi=>by have:=h2.r0 i hi;omega) n k fr;have kBl:=fun n k fr=>@kc7 s1 ne1 p (by omega) (by omega) (fun i hi=>by have:=h2.r0 i hi;omega) n k fr;simp only[<- hp]at kSc kBl;by_cases c3:0<=qi6 s1 qph p
   ·rw[jo c3];simp only[show decide (qi6 s1 qph p < 0)=false from decide_eq_false (by omega)]at kSc;clear hB h2 hx hi kc6 kc7 kc8 kc9 kc10 kc11 kc12 kc13 kc14 kD hr0 hp ep hpl kBl c3
    exact zL0
   rw[jm c3]at hB ⊢;simp only[show decide (qi6 s1 qph p < 0)=true from decide_eq_true (by omega)]at kSc;clear c3;have hrn:=BI.rn hr0 (by omega);have nr:=hrn.ne;by_cases hb:qi6 s1 qpi p < 0
   ·have e1:rnS s1 i p={s1 with opn:=s1.opn.take p,act:=qbz s1.act i}:=(by unfold rnS;rw[jo hb]);have e3:rnB s1 p=false:=(by unfold rnB;simp;omega);rw[e3,jm (by simp),e1];have p1:=hr0.p1;have hot:s1.opn.take p≠[]:=fun e=>(by have:=jR List.length e;rw[jL]at this;simp only[yd]at this;omega);have sl:=fun H=>qx9 (H:=H) (L:=s1.opn) (k:=p) (by omega);simp only[<- hp]at sl;have rS:=@prom_S;have sR:=@setR;have aL:=fun b m g fs hb=>qlq (b:=b) (m:=m) g fs hot hb (by simp;omega);clear hB h2 hx hi kc6 kc7 kc8 kc9 kc10 kc11 kc12 kc13 kc14 hr0 hp ep hpl hrn nr e1 e3 hot p1;generalize qi6 s1 qpi p=v at *;generalize s1.opn.take p=O1 at *;generalize qbz s1.act i=A1 at *
    (repeat' (first
     |with_reducible apply qad
     |with_reducible apply qa3
     |(with_reducible apply rE;simp[zS, *,SS.post,qa6,qa2,qat];exact rfl)
     |(with_reducible apply qaf;simp only[qab,qa4])
     |(refine qal mixed qaz (by decide +kernel) (by decide +kernel) rfl ?_;apply qdm;simp[zS,zW,qb4,qbc,qar,Heap.lay,qap, *,SS.post,qa6,qa2,qat];exact rfl)
     |(with_reducible apply qav;refine⟨by repeat first|exact qc6|refine qc7 (by decide +kernel) ?_,?_⟩;simp only[qab,qa4,allPend,Heap.lay,qap])
     |apply qag rfl
     |apply qaj rfl
     |(with_reducible apply qa5;simp only[qab,qa4])
     |(with_reducible apply qa7;simp[zQ,Tryz.f38])))
    all_goals first|(skip)|(exfalso;omega)
    all_goals exact qvm (k:=15) (c:=17) rfl rfl ne1 (by decide) (by simp[zG,SS.post,qa8,qat]) (by simp[zG]) (by simp[zG])
   have e3:rnB s1 p=true:=(by unfold rnB;simp;omega);have e1:rnS s1 i p=rdS (clC s1 i p) (qtg s1 p) i (qjk s1 p):=(by unfold rnS;rw[jm hb]);rw[e3,jo rfl]at hB;have hB:=hB (rnS s1 i p) rfl (hrn.mono (by omega) (ja _) (ja _) (ja _) (ja _));rw[e3,jo rfl,e1];rw[e1]at hB hrn nr;obtain⟨f,ef,f1,f2,f3,f4⟩:=hr0.cl (by omega) hb;obtain⟨⟨q,j,hq⟩,_⟩:=hr0.end_ (by omega) hb;obtain⟨n2,hn2,b2⟩:=hq.bi;have p1:=hr0.p1;have hel:=b2.rg i (yf hq.eo);have hbl:=b2.rg (qjk s1 p) (jZ hq.bk);obtain⟨t1,t2,t3,t4,t5⟩:=rd_tb b2 (outer:=qtg s1 p) (block:=qjk s1 p) (el:=i) (by omega) hel.2;obtain⟨l1,l2,l3,l4,l5⟩:=qwl (clC s1 i p) (qtg s1 p) i (qjk s1 p);have fo2:=b2.fo;have ol2:=b2.ol;have al2:=b2.al;have ml2:=hq.ml;have ne2:=b2.ne;have tl2:=b2.tb.n1;have kd2:qcf (clC s1 i p).s.tree 1000000:=b2.le (by omega);have hea:=hq.ea;have atF:=atI f2;have eb:s1.opn[f]=qjk s1 p:=(by unfold qjk;rw[ef,jr,List.getD_eq_getElem?_getD,List.getElem?_eq_getElem f2];rfl);rw[eb]at atF;have atP1:=atI (L:=s1.opn) (i:=p - 1) (by omega);have eo:s1.opn[p - 1]=qtg s1 p:=(by unfold qtg;rw[List.getD_eq_getElem?_getD,List.getElem?_eq_getElem (by omega)];rfl);rw[eo]at atP1;have hw1:wr .i64 (x - 1)=some (((p - 1:Nat):Int)):=(by rw[hp,show ((p:Int) - 1)=((p - 1:Nat):Int) by omega];exact qbi (by omega) (by omega));have mx:qkv false (.int .i64 0) [.int .i64 ((p - 1:Nat):Int)]=some (.int .i64 ((p - 1:Nat):Int)):=(by simp[qkv]);have kA:=fun H=>k111 hc2 (L:=s1.act) (by omega) i H;have kcl:=fun n k fr=>@kc8 s1 ne1 i (qjk s1 p) (atP s1.act i) ⟨f,f3,f4.mono (by omega)⟩ n k fr;rw[show qdy i (qjk s1 p) s1 (atP s1.act i)=clC s1 i p from rfl]at kcl;generalize clC s1 i p=C at *;generalize qjk s1 p=bk at *;generalize qtg s1 p=ou at *;have n1:qfa C≠[]:=qmk ne2 _;have n2:qfu C ou≠[]:=qfl n1 _ _ _;have n3:qku C ou i≠[]:=qev _ _;have n4:qkg C ou i bk≠[]:=qma n3 _ _;have n5:qmt C ou i bk≠[]:=qfl n4 _ _ _;have bel:=(t2.at_ (i:=i) (by omega) (by omega)).1;have hto:(qa0 (qku C ou i) ((qfu C ou).length:Int)).kids=[]:=(by unfold qku;rw[qoh,jo (by simp)];rfl);have kCut:∀(n k:Nat) (fr:List (Nat × Blk)) (k0:0 < k) (kn:k < n) (of:qg5 k fr),qb5 (ctx T) (.fn 95) [.ptr 0 0,.int .i64 C.last] ⟨n,[fr,VS k C.s]⟩=some (.tup [],⟨n+1,[fr,VS n ({C.s with tree:=qfa C} : SS)]⟩):=fun n k fr=>@kc9 C.s ne2 C.last kd2 n k fr;have kWh:∀(n k:Nat) (fr:List (Nat × Blk)) (k0:0 < k) (kn:k < n) (of:qg5 k fr),qb5 (ctx T) (.fn 117) [.ptr 0 0,.int .i64 ou] ⟨n,[fr,VS k ({C.s with tree:=qfa C} : SS)]⟩=some (.tup [.int .i64 (whP (qfa C) ou),.int .i64 ((qa0 (qfa C) (whP (qfa C) ou)).kids.length:Int)],⟨n+1,[fr,VS n ({C.s with tree:=qfa C} : SS)]⟩):=fun n k fr=>@kc10 ({C.s with tree:=qfa C} : SS) n1 ou fo2 n k fr;have kPut:∀(n k:Nat) (fr:List (Nat × Blk)) (k0:0 < k) (kn:k < n) (of:qg5 k fr),qb5 (ctx T) (.fn 31) [.ptr 0 0,.int .i64 (whP (qfa C) ou),.int .i64 ((qa0 (qfa C) (whP (qfa C) ou)).kids.length:Int),.int .i64 C.last] ⟨n,[fr,VS k ({C.s with tree:=qfa C} : SS)]⟩=some (.tup [],⟨n+1,[fr,VS n ({C.s with tree:=qfu C ou} : SS)]⟩):=fun n k fr=>@kc11 ({C.s with tree:=qfa C} : SS) n1 (whP (qfa C) ou) ((qa0 (qfa C) (whP (qfa C) ou)).kids.length:Int) C.last (by simp only;omega) (t1.le (by omega)) n k fr;have kBar:∀(n k:Nat) (fr:List (Nat × Blk)) (k0:0 < k) (kn:k < n) (of:qg5 k fr),qb5 (ctx T) (.fn 118) [.ptr 0 0,.int .i64 i] ⟨n,[fr,VS k ({C.s with tree:=qfu C ou} : SS)]⟩=some (.int .i64 ((qfu C ou).length:Int),⟨n+1,[fr,VS n ({C.s with tree:=qku C ou i} : SS)]⟩):=fun n k fr=>@kc12 ({C.s with tree:=qfu C ou} : SS) n2 i (by omega) (by simp only;omega) (by simp only;omega) (j6 bel (by omega)) n k fr;have kMov:∀(n k:Nat) (fr:List (Nat × Blk)) (k0:0 < k) (kn:k < n) (of:qg5 k fr),qb5 (ctx T) (.fn 119) [.ptr 0 0,.int .i64 bk,.int .i64 ((qfu C ou).length:Int)] ⟨n,[fr,VS k ({C.s with tree:=qku C ou i} : SS)]⟩=some (.tup [],⟨n+1,[fr,VS n ({C.s with tree:=qkg C ou i bk} : SS)]⟩):=fun n k fr=>@kc13 ({C.s with tree:=qku C ou i} : SS) n3 bk ((qfu C ou).length:Int) (by simp only;omega) (t3.le (by omega)) hto n k fr;have kLas:∀(n k:Nat) (fr:List (Nat × Blk)) (k0:0 < k) (kn:k < n) (of:qg5 k fr),qb5 (ctx T) (.fn 120) [.ptr 0 0,.int .i64 bk,.int .i64 ((qfu C ou).length:Int)] ⟨n,[fr,VS k ({C.s with tree:=qkg C ou i bk} : SS)]⟩=some (.tup [],⟨n+1,[fr,VS n ({C.s with tree:=qmt C ou i bk} : SS)]⟩):=fun n k fr=>@kc14 ({C.s with tree:=qkg C ou i bk} : SS) n4 bk ((qfu C ou).length:Int) (by omega) (by simp only;omega) (by simp only;omega) (t4.le (by omega)) n k fr;have dal:(qbz C.s.act i).length<=900:=(by have:(qbz C.s.act i).length<=C.s.act.length:=yp _ _;omega);have dol:(qbm C.s.opn i).length<=900:=(by have:(qbm C.s.opn i).length<=C.s.opn.length:=yp _ _;omega);have kAt:=fun H=>k111 hc2 (L:=C.s.act) (by omega) i H;have kDr:=fun H=>k113 hc5 (L:=C.s.act) (by omega) i H;have kInA:=fun H=>k121 hc15 (L:=qbz C.s.act i) (by omega) (qlz C.s.act i C.mr) ((qfu C ou).length:Int) H;have kDro:=fun H=>k122 hc16 (L:=C.s.opn) (by omega) i H;have kIdx:=fun H=>k111 hc2 (L:=qbm C.s.opn i) (by omega) bk H;rw[qsk]at kIdx;have kInO:=fun H=>k121 hc15 (L:=qbm C.s.opn i) (by omega) (qhe (qbm C.s.opn i) bk+1) ((qfu C ou).length:Int) H;have hix : -1<=qhe (qbm C.s.opn i) bk/\qhe (qbm C.s.opn i) bk < 1000:=(by refine⟨qx5 _ _,?_⟩;have:=qtt (p:=fun y=>decide (bk=y)) (qbm C.s.opn i) 0;unfold qhe;omega);have hw2:wr .i64 (qhe (qbm C.s.opn i) bk+1)=some (qhe (qbm C.s.opn i) bk+1):=qbi (by omega) (by omega);have eS:rdS C ou i bk={C.s with tree:=qmt C ou i bk,opn:=qgx (qbm C.s.opn i) (qhe (qbm C.s.opn i) bk+1) ((qfu C ou).length:Int),act:=qgx (qbz C.s.act i) (qlz C.s.act i C.mr) ((qfu C ou).length:Int)}:=rfl;rw[eS]at hB;have ha0:=atP_mem.2 hea;have haL:=qui C.s.act i;rw[ef]at kBl;have hf0:¬ (f:Int) < 0:=(by omega);have hw3:wr .i64 (C.mr - 1)=some (C.mr - 1)\/C.mr - 1 < - 10000:=by
    by_cases h:C.mr - 1 < -10000
    ·exact .inr h
    ·exact .inl (qbi (by omega) (by omega))
   have fin:=fun(n k:Nat) (f:List (Nat × Blk)) k0 h1 h2=>fS ({C.s with tree:=qmt C ou i bk,opn:=qgx (qbm C.s.opn i) (qhe (qbm C.s.opn i) bk+1) ((qfu C ou).length:Int),act:=qgx (qbz C.s.act i) (qlz C.s.act i C.mr) ((qfu C ou).length:Int)} : SS) f n k k0 n5 h1 h2;clear kc6 kc7 kc8 kc9 kc10 kc11 kc12 kc13 kc14 hrn nr hr0 hx hi kD h2 hb e1 e3 eS eb eo ep;have hcs:(atP C.s.act i < C.mr/\qlz C.s.act i C.mr=C.mr - 1)\/(¬ atP C.s.act i < C.mr/\qlz C.s.act i C.mr=C.mr):=by
    unfold qlz;by_cases h:atP C.s.act i < C.mr
    ·exact .inl ⟨h,by rw[jo ⟨ha0,h⟩]⟩
    ·exact .inr ⟨h,by rw[jm fun e=>h e.2]⟩
   have hk2:¬ C.mr - 1 < -10000\/¬ atP C.s.act i < C.mr:=(by omega);clear hp f1 f2 f3 f4 hq b2 hn2 hel hbl t1 t2 t3 t4 t5 l1 l2 l3 l4 l5 fo2 ol2 al2 ml2 tl2 kd2 hea bel hto dal dol hix haL;rcases hcs with⟨hc,eu⟩|⟨hc,eu⟩
   ·have hw3:wr .i64 (C.mr - 1)=some (C.mr - 1):=by
     rcases hw3 with h|h
     ·exact h
     ·omega
    rw[eu]at kInA hB fin;clear eu hk2 ha0;generalize qmt C ou i bk=T5 at *;generalize qkg C ou i bk=T4 at *;generalize qku C ou i=T3 at *;generalize ((qfu C ou).length:Int)=by_ at *;generalize qfu C ou=T2 at *;generalize ((qa0 (qfa C) (whP (qfa C) ou)).kids.length:Int)=wl at *;generalize whP (qfa C) ou=wu at *;generalize qfa C=T1 at *;generalize qgx (qbm C.s.opn i) (qhe (qbm C.s.opn i) bk+1) by_=O2 at *;generalize qhe (qbm C.s.opn i) bk=ix at *;generalize qbm C.s.opn i=O1 at *;generalize qgx (qbz C.s.act i) (C.mr - 1) by_=A2 at *;generalize qbz C.s.act i=A1 at *;generalize atP s1.act i=m1 at *;generalize atP C.s.act i=m2 at *;generalize ((p - 1:Nat):Int)=pm at *;generalize (f:Int)=fi at *;generalize rdS C ou i bk=S9 at *;generalize ((8 - r:Nat):Int)=rr2 at *
    exact zL0
   ·rw[eu]at kInA hB fin;clear eu hk2 ha0 hw3;generalize qmt C ou i bk=T5 at *;generalize qkg C ou i bk=T4 at *;generalize qku C ou i=T3 at *;generalize ((qfu C ou).length:Int)=by_ at *;generalize qfu C ou=T2 at *;generalize ((qa0 (qfa C) (whP (qfa C) ou)).kids.length:Int)=wl at *;generalize whP (qfa C) ou=wu at *;generalize qfa C=T1 at *;generalize qgx (qbm C.s.opn i) (qhe (qbm C.s.opn i) bk+1) by_=O2 at *;generalize qhe (qbm C.s.opn i) bk=ix at *;generalize qbm C.s.opn i=O1 at *;generalize qgx (qbz C.s.act i) C.mr by_=A2 at *;generalize qbz C.s.act i=A1 at *;generalize atP s1.act i=m1 at *;generalize atP C.s.act i=m2 at *;generalize ((p - 1:Nat):Int)=pm at *;generalize (f:Int)=fi at *;generalize rdS C ou i bk=S9 at *;generalize ((8 - r:Nat):Int)=rr2 at *
    exact zL0
def e38:Entry PG:=mkS 38 [[]] (fun z:Str=>[.str z]) (fun z s=>(BI 70000 1000000 850 900 900 s)/\(z.length<=100000)) (fun z s=>.bool (qih z s).2) (fun z s=>(qih z s).1) fun z s ne h=>⟨c38 (T:=[e109,e110,e111,e100,e112,e113,e114,e115,e116,e95S,e117,e31S,e118,e119S,e120,e121,e122]) rfl rfl rfl rfl rfl rfl rfl rfl rfl rfl rfl rfl rfl rfl rfl rfl rfl ne z h.1 h.2,by simp[qa6,qa2],by simp[qa2,qa6],(BI.run h.1 (by omega) _).1.ne⟩
theorem k38(hT:qIn 38 T e38) {s:SS} (ne:s.tree≠[]) (nm:Str) (h:BI 70000 1000000 850 900 900 s) (hl:nm.length<=100000) {n k:Nat} {fr:List (Nat × Blk)} (k0:0 < k) (kn:k < n) (of:qg5 k fr):qb5 (ctx T) (.fn 38) [.ptr 0 0,.str nm] ⟨n,[fr,VS k s]⟩=some (.bool (qih nm s).2,⟨n+1,[fr,VS n ((qih nm s).1)]⟩):=
 qcr hT inj_54 (nm) ne ⟨h,hl⟩ (by simp[qa6,qa2]) (by simp[qbl,qam]) k0 kn of
