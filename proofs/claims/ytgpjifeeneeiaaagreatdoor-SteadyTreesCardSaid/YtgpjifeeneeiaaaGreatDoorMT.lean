/- Closed runs: calls that answer a scalar, at what the heap holds, however nested. No condition. -/
import Derived.Test.YtgpjifeeneeiaaaGreatDoorMS
import Derived.Test.YtgpjifeeneeiaaaGreatDoorMH
import Derived.Test.YtgpjifeeneeiaaaGreatDoorMR
import Derived.Test.YtgpjifeeneeiaaaGreatDoorMK
import Derived.Test.YtgpjifeeneeiaaaGreatDoorMN
namespace Go.Proofs.YtgpjifeeneeiaaaGreatDoor
set_option linter.unusedSimpArgs false
set_option linter.unusedVariables false
open Go Go.RowKit
set_option maxRecDepth 100000
@[simp] theorem szT46:qc7 Tryz.prog 46=some 2:=rfl
@[simp] theorem agT46:qgs Tryz.prog 46=some true:=rfl
@[simp] theorem byT46:qce Tryz.prog 46=some 48:=rfl
@[simp] theorem alT46 (H:Heap):alV Tryz.prog H 46=some (.ptr H.n 0,H.new (.cells [.nilS,.nilS])):=rfl
@[simp] theorem zeT46:qbt Tryz.prog 46=some (.agg [.nilS,.nilS]):=rfl
attribute [simp] Tryz.underlying46
@[simp 500] theorem rvF46 (H:Heap) (cs:List AV) (o:Nat):qb5 Tryz.prog H 46 (.fptr cs o)=(qeu o 2 cs).bind fun cs=>some (.agg cs):=rfl
@[simp 500] theorem rvP46 (H:Heap) (b o:Nat):qb5 Tryz.prog H 46 (.ptr b o)=(readCells H b o 2).bind fun cs=>some (.agg cs):=rfl
@[simp] theorem fa46_0 (x:AV):qbm Tryz.prog 46 x 0=(match x with | .ptr b o=>some (.ptr b (o+0)) | .fptr cs o=>some (.fptr cs (o+0)) | _=>none):=rfl
@[simp] theorem fd46_0 (cs:List AV):qcy Tryz.prog 46 (.agg cs) 0=(qeu 0 1 cs).bind fun r=>some (.agg r):=rfl
@[simp] theorem fa46_1 (x:AV):qbm Tryz.prog 46 x 1=(match x with | .ptr b o=>some (.ptr b (o+1)) | .fptr cs o=>some (.fptr cs (o+1)) | _=>none):=rfl
@[simp] theorem fd46_1 (cs:List AV):qcy Tryz.prog 46 (.agg cs) 1=qcl cs 1:=rfl
theorem c37p {T:List (Entry Tryz.prog)} {t:Tr} {x:Nd} (o:Option (List Nd)) (hl:(oL o).length≤100000) :
  CallAt (ctx T) 37 [pV 2 o] ⟨21,[[(3,.cells x.cs)],kR t 2 o]⟩ (qaj (qap (oL o))) ⟨21,[[(3,.cells x.cs)],kR t 2 o]⟩:=by
 have hfit:∀ A,FitH 21 [(3,3),(2,2),(0,0)] [] ⟨22,[[(21,A)],[(3,.cells x.cs)],kR t 2 o]⟩ ⟨21,[[(3,.cells x.cs)],kR t 2 o]⟩:=fun A=>{
  nd1:=by simp
  nd2:=by simp
  nd3:=by cases o <;> simp [kR,Heap.ents]
  lt:=by simp
  idn:=by simp
  num:=by simp
  src:=by
   intro e he
   cases o with
   | none=>
    simp [kR,Heap.ents] at he
    rcases he with rfl | rfl
    ·exact ⟨3,.cells x.cs,by simp,by simp [Heap.get,getFs,getF],qak (qev x)⟩
    ·exact ⟨0,.cells [qa5 t,.nilS],by simp,by simp [kR,Heap.get,getFs,getF],by simp [qi0,qb6,qay]⟩
   | some P=>
    simp [kR,Heap.ents] at he
    rcases he with rfl | rfl | rfl
    ·exact ⟨3,.cells x.cs,by simp,by simp [Heap.get,getFs,getF],qak (qev x)⟩
    ·exact ⟨2,.cells (qan (P.map qaj)),by simp,by simp [kR,Heap.get,getFs,getF],qij P⟩
    ·exact ⟨0,.cells [qa5 t,.slc 2 0 P.length (.rest 7)],by simp,by simp [kR,Heap.get,getFs,getF],by simp [qi0,qb6,qay,qb2]⟩
  frz:=fun x h=>by cases h }
 by_cases he:oL o=[]
 ·have lp:∀ H,qe3 Tryz.prog H 22 (pV 2 o)=some 0:=fun H=>by rw [len_path,he];rfl
  have hpn:qap (oL o)=⟨1,0,[100,105,118],[],[],0,[]⟩:=by rw [he];rfl
  have bld:qff Tryz.prog 31 [(0,.int .i64 1),(2,.str [100,105,118])]=some (.agg [.int .i64 1,.int .i64 0,.str [100,105,118],.nilS,.str [],.int .i64 0,.nilS]):=rfl
  rw [hpn]
  refine qa3 (fn:=Tryz.f37) (s0:=⟨[0,2,3],[pV 2 o,.undef,.undef],[],14,⟨21,[]::[[(3,.cells x.cs)],kR t 2 o]⟩⟩) Tryz.func37 rfl rfl rfl ?_
  repeat apply wq
  refine qa0 qa1 ?_
  simp [zS]
  repeat apply wq
  refine qa0 qa1 ?_
  simp [zS,lp]
  repeat apply wq
  refine qa0 qa1 ?_
  simp [zS,lp]
  refine qal rfl ?_
  refine qa7 ?_
  simp
  repeat apply wq
  refine qa0 qa1 ?_
  simp [zS,bld]
  refine qa8 ?_
  simp [qab,Tryz.f37,oneOr,readCells,Heap.get,getFs,getF,Blk.rd]
  refine ⟨_,[],?_,hfit _⟩
  simp [qaj,Nd.cs,qbw,qbs,qb7,qay,qb6,qaf]
 ·cases o with
  | none=>exact absurd rfl he
  | some P=>
   simp only [oL,Option.getD_some] at he hl ⊢
   have h:0 < P.length:=List.length_pos_iff.2 he
   have hi:(0:Int) < (P.length:Int):=by omega
   have hs:=qnf h (by omega)
   have lp:∀ H,qe3 Tryz.prog H 22 (.slc 2 0 P.length (.rest 7))=some P.length:=fun H=>by simp [qe3]
   have hp:qap P=qa6 P ((P.length - 1:Nat):Int):=by unfold qap;rw [if_neg he]
   have hix:qb1 Tryz.prog 22 (.slc 2 0 P.length (.rest 7)) (.int .i64 ((P.length - 1:Nat):Int))=some (.ptr 2 ((P.length - 1) * 7)):=by
    simp [qb1,qc0 (show P.length - 1 < P.length by omega)]
   have hsb:qeu ((P.length - 1) * 7) 7 (qan (P.map qaj))=some (qa6 P ((P.length - 1:Nat):Int)).cs:=by
    have:=sub_at (qec P) (i:=P.length - 1) (by simp;omega)
    rw [qc3 (by omega)]
    simpa using this
   have rd:∀ n f,getF 2 f=none→qb5 Tryz.prog ⟨n,[f,[(3,.cells x.cs)],kR t 2 (some P)]⟩ 31 (.ptr 2 ((P.length - 1) * 7))=some (qaj (qa6 P ((P.length - 1:Nat):Int))):=fun n f hf=>by
    simp [readCells,Heap.get,getFs,hf,getF,kR,hsb,qao]
   rw [hp]
   refine qa3 (fn:=Tryz.f37) (s0:=⟨[0,2,3],[pV 2 (some P),.undef,.undef],[],14,⟨21,[]::[[(3,.cells x.cs)],kR t 2 (some P)]⟩⟩) Tryz.func37 rfl rfl rfl ?_
   repeat apply wq
   refine qa0 qa1 ?_
   simp [zS,pV]
   repeat apply wq
   refine qa0 qa1 ?_
   simp [zS,lp,pV]
   repeat apply wq
   refine qa0 qa1 ?_
   simp [zS,h,hi]
   refine qai (by simp [qbq,St.get,h]) ?_
   repeat apply wq
   refine qa0 qa1 ?_
   simp [zS,hs,hix,rd]
   refine qa8 ?_
   simp [qab,Tryz.f37,oneOr,readCells,Heap.get,getFs,getF,Blk.rd,qao]
   exact ⟨_,[],hfit _⟩
set_option maxHeartbeats 2000000 in
theorem zc7 {T:List (Entry Tryz.prog)} (hM:qag 15 T=some e15.g) (hA:qag 19 T=some e19.g) (hC:qag 17 T=some e17.g) (hN:qag 21 T=some e21.g) (hI:qag 42 T=some e42.g)
  (t:Tr) (ht:okT t):∀ (f:Nat) (i:Int) (o:Option (List Nd)),fits f t i→0≤i→i < (t.length:Int)→okP (oL o)→(oL o).length+f≤1000 →
  CallAt (ctx T) 24 [.ptr 0 0,.int .i64 i] ⟨2,[kR t 1 o]⟩ (.bool (qig f t (oL o) i)) (kH t o)
 | 0,i,o,hf,_,_,_,_=>absurd hf (by simp [fits])
 | f+1,i,o,hf,i0,i1,hp,hlen=>by
  have ih:=zc7 hM hA hC hN hI t ht f
  have hix:=atX i0 i1
  have rT:=fun (n:Nat) (f:List (Nat × Blk)) (o:Option (List Nd)) (h:getF 0 f=none)=>rd_t (t:=t) (n:=n) (f:=f) (o:=o) h
  have rP:=fun (n:Nat) (f:List (Nat × Blk)) (o:Option (List Nd)) (h:getF 0 f=none)=>rd_p (t:=t) (n:=n) (f:=f) (o:=o) h
  have g0:Heap.get ⟨2,[[],kR t 1 o]⟩ 0=some (.cells [qa5 t,pV 1 o]):=kget0 (by omega) rfl
  have r0:qb5 Tryz.prog ⟨2,[[],kR t 1 o]⟩ 22 (.ptr 0 0)=some (qa5 t):=by simp [g0]
  have hkr:∀ k,k∈(qa6 t i).kids→0≤k∧k < (t.length:Int):=ht.kd _ (qcj i0 i1)
  have hkl:=(ht.ok.2 _ (qcj i0 i1)).1
  obtain ⟨P,hPo⟩ : ∃ P,P=oL o:=⟨_,rfl⟩
  rw [← hPo] at hp hlen ⊢
  show CallAt _ _ _ _ (.bool (qif (qig f t) t P (qa6 t i).kids true (-1))) _
  obtain ⟨R,hR⟩ : ∃ R,R=qif (qig f t) t P (qa6 t i).kids true (-1):=⟨_,rfl⟩
  rw [← hR]
  simp only [fits] at hf
  obtain ⟨K,hK⟩ : ∃ K,K=(qa6 t i).kids:=⟨_,rfl⟩
  have gk:qcl (qa6 t i).cs 6=some (qbs K):=by rw [hK];rfl
  rw [← hK] at hf hkr hkl hR
  clear hK
  generalize (qa6 t i).cs=ics at *
  refine qa3 (fn:=Tryz.f24) (s0:=⟨[0,1,4,5,6,7,8,9,18,19,20,34],[.ptr 0 0,.int .i64 i,.undef,.undef,.undef,.undef,.undef,.undef,.undef,.undef,.undef,.undef],[],121,⟨2,[]::[kR t 1 o]⟩⟩) Tryz.func24 rfl rfl rfl ?_
  repeat apply wq
  refine qa0 qa1 ?_
  simp [zS]
  repeat apply wq
  refine qa0 qa1 ?_
  simp [zS]
  repeat apply wq
  refine qa0 qa1 ?_
  simp [zS,r0,hix,gk,qm9]
  refine qa9 (qax (fun x:Nat × Option (List Nd) × Int=>(⟨[0,1,4,5,6,7,8,9,18,19,20,34],[.ptr 0 0,.int .i64 i,.bool false,.int .i64 x.2.2,.undef,.undef,.undef,.undef,qbs K,.int .i64 (K.length:Nat),.int .i64 (x.1:Int),.undef],[],121,⟨3,[[],kR t 2 x.2.1]⟩⟩ : St))
   (fun x=>x.1≤K.length∧(x.2.1=o∨(o=none∧x.2.1=some P))∧R=qif (qig f t) t P (K.drop x.1) (decide (x.1=0)) x.2.2) (fun x=>K.length - x.1) (sgK o) [] (0,o,-1) ⟨Nat.zero_le _,.inl rfl,hR⟩
   ⟨rfl,rfl,rfl,by simp [qb6,qay,sgK_0,qaf,qac],fitK_in⟩ ?_)
  rintro ⟨j,o',last⟩ ⟨hj,ho,hx⟩ B hB
  simp only at hj ho hx
  have hoP:oL o'=P:=by
   rcases ho with rfl | ⟨_,rfl⟩
   ·exact hPo.symm
   ·rfl
  have hout:o'=o∨o=none:=by
   rcases ho with h | ⟨h,_⟩
   ·exact .inl h
   ·exact .inr h
  obtain ⟨jz,hjz0⟩ : ∃ z:Int,z=(j:Int):=⟨_,rfl⟩
  rw [← hjz0]
  have hjz:qwh (jz=(j:Int)):=hjz0
  have ej:decide (j=0)=decide (jz=0):=by rw [Bool.eq_iff_iff];simp only [decide_eq_true_eq];omega
  rw [ej] at hx
  clear ej
  by_cases h:j < K.length
  ·have hc:jz < (K.length:Int):=by omega
   have hik:=atI h
   rw [← hjz0] at hik
   have hkm:=List.getElem_mem h
   rw [List.drop_eq_getElem_cons h] at hx
   simp only [qif] at hx
   obtain ⟨k0,k1⟩:=hkr _ hkm
   have hfk:=hf _ hkm
   have hixk:=atX k0 k1
   have hok:=ht.at_ k0 k1
   have hac:=qba (show j≤1000000000 by omega)
   rw [← hjz0] at hac
   have w0:wr .i64 1=some 1:=rfl
   clear hjz0
   have ihk:=fun (hq:fits f t K[j])=>ih K[j] (some (P++[qa6 t K[j]])) hq k0 k1
   have hj0:decide (j+1=0)=false:=by simp
   rw [← hj0] at hx
   clear hR ih
   generalize K[j]=k at *
   have thP:=fun (n:Nat) (f:List (Nat × Blk)) (h:getF 2 f=none)=>th_path (t:=t) (n:=n) (f:=f) (k:=2) (o:=o') (by omega) h
   rw [hoP] at thP
   have kM:=fun (n:Nat) (f:List (Nat × Blk)) (h:getF 2 f=none)=>q15 hM (thP n f h) (qar (H:=⟨n,[f,kR t 2 o']⟩) (ss:=[0,0,0,2,0,0,1]) (v:=qaj (qa6 t k)) (by simp)) hp hok
   have kA:=fun H=>k19 hA (qa6 t k) hok H
   have kC:=fun (n:Nat) (f:List (Nat × Blk)) (h:getF 2 f=none)=>q17 hC (thP n f h) (qa6 t k).data hp (by have:=hok.2.2.1;omega)
   have kN:=fun H=>k21 hN (qa6 t k) H
   have hdat:=fun (hq:qeh P (qa6 t k).data=true)=>qyh hq
   have hpx:okP (P++[qa6 t k]):=⟨by simp;omega,fun n hn=>by
    rcases List.mem_append.1 hn with hn | hn
    ·exact hp.2 n hn
    ·simp at hn;subst hn;exact hok⟩
   have ihk:=fun (h1:(qa6 t k).kind=1)=>ihk (hfk h1) hpx (by simp [oL];omega)
   clear hfk hf hkr thP hM hA hC hN
   obtain ⟨rest1,e1⟩ : ∃ r,r=qif (qig f t) t P (K.drop (j+1)) (decide (j+1=0)) 1:=⟨_,rfl⟩
   obtain ⟨rest2,e2⟩ : ∃ r,r=qif (qig f t) t P (K.drop (j+1)) (decide (j+1=0)) 2:=⟨_,rfl⟩
   rw [← e1,← e2] at hx
   have hr1:qwh (rest1=qif (qig f t) t P (K.drop (j+1)) (decide (j+1=0)) 1):=e1
   have hr2:qwh (rest2=qif (qig f t) t P (K.drop (j+1)) (decide (j+1=0)) 2):=e2
   clear e1 e2
   repeat apply wq
   refine qa0 qa1 ?_
   simp [zS,hc,h]
   repeat apply wq
   refine qai rfl ?_
   refine qa7 ?_
   simp
   repeat apply wq
   refine qa9 ?_
   repeat apply wq
   refine qa0 qa1 ?_
   simp [zS,hik]
   repeat apply wq
   refine qa0 qa1 ?_
   simp [zS,rT,hixk,qao]
   repeat apply wq
   refine qa0 qa1 ?_
   simp [zS]
   refine qa9 ?_
   by_cases hk1:(qa6 t k).kind=1
   ·have ihk:=ihk hk1
    clear kC kN hdat hr2
    simp only [hk1,if_true] at hx
    have hom:o'=none∧P=[]∨o'=some P:=by
     cases o' with
     | none=>exact .inl ⟨rfl,hoP.symm⟩
     | some Q=>exact .inr (by rw [← hoP];rfl)
    generalize qti P (qa6 t k)=b1 at *
    generalize qfg (qa6 t k)=b2 at *
    generalize qa6 t k=x at *
    simp only [oL,Option.getD_some] at ihk
    generalize qig f t (P++[x]) k=b3 at *
    obtain ⟨m,hm⟩ : ∃ m,m=P.length+1:=⟨_,rfl⟩
    have hcall:=zdw (x:=x.cs) (y:=x.cs) ihk
    have hml:(P++[x]).length=m:=by simp [hm]
    rw [hml] at hcall
    have happ:=app_path (t:=t) (x:=x) (A:=.cells x.cs) hp.1 hom
    rw [← hm] at happ
    have hput:=put_path (t:=t) (c:=32) (m:=m) (n:=33) (Q:=P++[x]) (A:=(27,.cells x.cs)) (B:=(3,.cells x.cs)) (v:=pV 2 o') (by omega) (by simp) (by simp) (by cases o' <;> rfl)
    have hcut:=cut_path (t:=t) (c:=33) (m:=P.length) (n:=49) (row:=qan ((P++[x]).map qaj)) (A:=(27,.cells x.cs)) (B:=(3,.cells x.cs)) (v:=.slc 33 0 m (.rest 7)) (by omega) (by simp) (by simp) (by simp) (by simp) (qkr _)
    have hsl:∀ n:Nat,qdy Tryz.prog ⟨n,[[(27,.cells x.cs),(3,.cells x.cs)],[(33,.cells (qan ((P++[x]).map qaj))),(0,.cells [qa5 t,.slc 33 0 m (.rest 7)])]]⟩ 22 (.slc 33 0 m (.rest 7)) none (some (.int .i64 (P.length:Int))) none=some (.slc 33 0 P.length (.rest 7)):=fun n=>by
     rw [hm]
     exact sl_path (cs:=qan ((P++[x]).map qaj)) (kn:=P.length+1) (by simp [Heap.get,getFs,getF]) (by rw [(qec (P++[x])).len];simp) (by omega)
    have hs1:wr .i64 ((m:Int) - 1)=some (P.length:Int):=by rw [hm,qc6 (by omega) (by omega)];congr 1;omega
    clear hml
    have hsh:Shr ⟨49,[[(27,.cells x.cs),(3,.cells x.cs)],[(33,.cells (qan ((P++[x]).map qaj))),(0,.cells [qa5 t,.slc 33 0 P.length (.rest 7)])]]⟩ ⟨49,[[(27,.cells x.cs),(3,.cells x.cs)],[(33,.cells (qan (P.map qaj))),(0,.cells [qa5 t,.slc 33 0 P.length (.rest 7)])]]⟩:=
     ⟨rfl,⟨rfl,.inl rfl,rfl,.inl rfl,rfl,.inr ⟨qan (P.map qaj),qan ([x].map qaj),by rw [List.map_append,qdl],rfl⟩,rfl,.inl rfl,trivial⟩⟩
    have hoS:some P=o∨(o=none∧some P=some P):=by
     cases o with
     | none=>exact .inr ⟨rfl,rfl⟩
     | some Q=>exact .inl (by rw [hPo];rfl)
    have hoO:some P=o∨o=none:=by
     rcases hoS with h | ⟨h,_⟩
     ·exact .inl h
     ·exact .inr h
    clear hPo
    generalize qan ((P++[x]).map qaj)=F at *
    (repeat' (first
     | with_reducible refine qah ?_
     | (with_reducible refine qa0 qa1 ?_;apply qbn;simp [zS, *,rT,rP,kM,qao];exact rfl)
     | (refine qbh qci qa1 (by decide +kernel) (by decide +kernel) ?_;apply qbn;simp [zS,qbx,qbd,qb8, *,rT,rP,kM,qao];exact rfl)
     | (with_reducible refine qas ?_;simp only [qaa,qa2])
     | (with_reducible refine qg3 (fun hc=>?_) (fun hc=>?_) <;> ((have hd:=hc);(try simp at hd);(try subst hd);apply qbn;simp [zS,qbx,qbd,qb8, *,rT,rP,kM,qao];exact rfl))
     | (refine qai rfl ?_)
     | (refine qau rfl (fun hc=>?_) (fun hc=>?_) <;> ((have hd:=hc);(try simp at hd);(try subst hd)))
     | (with_reducible refine qa7 ?_;simp only [qaa,qa2])
     | (with_reducible refine qa8 ?_;simp [qab,Tryz.f24,oneOr,qaa,qa2])))
    all_goals first | (first | (obtain ⟨σ,hσ⟩:=ql4 (t:=t) (n:=21) (f:=[(3,.cells x.cs)]) (fun i hi=>qep (by omega)) hout;have hRf:R=false:=by { rw [hx];first | (simp [*];done) | (simp_all;done) };exact ⟨σ,[],by rw [hRf];exact qbb rfl,hσ⟩) | skip) | (exfalso;omega)
    have hx:R=(b3 && rest1):=by rw [hx];simp [*]
    clear kM kA
    refine qcm qci qa1 (by decide +kernel) fun B_ hB_=>?_
    have d_4_7:ahead B_ 4 7=true:=by rw [hB_];decide +kernel
    have d_4_10:ahead B_ 4 10=true:=by rw [hB_];decide +kernel
    have d_5_7:ahead B_ 5 7=true:=by rw [hB_];decide +kernel
    have d_5_10:ahead B_ 5 10=true:=by rw [hB_];decide +kernel
    have d_6_7:ahead B_ 6 7=true:=by rw [hB_];decide +kernel
    have d_6_10:ahead B_ 6 10=true:=by rw [hB_];decide +kernel
    have d_7_4:ahead B_ 7 4=false:=by rw [hB_];decide +kernel
    have d_7_5:ahead B_ 7 5=false:=by rw [hB_];decide +kernel
    have d_10_4:ahead B_ 10 4=false:=by rw [hB_];decide +kernel
    have d_10_5:ahead B_ 10 5=false:=by rw [hB_];decide +kernel
    apply qlt B_
    simp [zS,qdg,qbz,qby,qbr,qaw,qb4,qb3,Heap.lay,qdp,qlr,qlq,qh1,qh0,qgv,qgy,qhg,qh5,qf8,qf9,qhb,qha,qh8,qh9,qhe,qhf,qhd,qhc,d_4_7,d_4_10,d_5_7,d_5_10,d_6_7,d_6_10,d_7_4,d_7_5,d_10_4,d_10_5,rP,happ,hput]
    exact rfl
    refine ⟨_,rfl,?_,?_⟩
    simp [zS,qbr,qaw,qch,qcp,qdz,d_4_7,d_4_10,d_5_7,d_5_10,d_6_7,d_6_10,d_7_4,d_7_5,d_10_4,d_10_5,rP,happ,hput]
    simp [qcb,Heap.lay,qdp,qaa]
    repeat apply wq
    refine qa0 (qca [⟨24,_,_,_,_,hcall⟩]) ?_
    simp [zS,qdb]
    have hln:∀ H,qe3 Tryz.prog H 22 (.slc 33 0 m (.rest 7))=some m:=fun H=>by simp [qe3]
    repeat apply wq
    refine qcm qci qa1 (by decide +kernel) fun B_ hB_=>?_
    have d_4_14:ahead B_ 4 14=true:=by rw [hB_];decide +kernel
    have d_8_14:ahead B_ 8 14=true:=by rw [hB_];decide +kernel
    have d_9_14:ahead B_ 9 14=true:=by rw [hB_];decide +kernel
    have d_11_14:ahead B_ 11 14=true:=by rw [hB_];decide +kernel
    have d_14_4:ahead B_ 14 4=false:=by rw [hB_];decide +kernel
    have d_14_8:ahead B_ 14 8=false:=by rw [hB_];decide +kernel
    have d_14_9:ahead B_ 14 9=false:=by rw [hB_];decide +kernel
    have d_14_11:ahead B_ 14 11=false:=by rw [hB_];decide +kernel
    apply qlt B_
    simp [zS,qdg,qbz,qby,qbr,qaw,qb4,qb3,Heap.lay,qdp,qlr,qlq,qh1,qh0,qgv,qgy,qhg,qh5,qf8,qf9,qhb,qha,qh8,qh9,qhe,qhf,qhd,qhc,d_4_14,d_8_14,d_9_14,d_11_14,d_14_4,d_14_8,d_14_9,d_14_11,hln,hs1,hsl,hcut]
    exact rfl
    refine ⟨_,rfl,?_,?_⟩
    simp [zS,qbr,qaw,qch,qcp,qdz,d_4_14,d_8_14,d_9_14,d_11_14,d_14_4,d_14_8,d_14_9,d_14_11,hln,hs1,hsl,hcut]
    simp [qcb,Heap.lay,qdp,qaa]
    refine WpSr.shr hsh ?_
    simp only [St.wH]
    clear hcall happ hput hcut hsl hs1 hsh hm ihk rT rP
    cases b3 with
    | false=>
     simp only [Bool.false_and] at hx
     (repeat' (first
      | with_reducible refine qah ?_
      | (with_reducible refine qa0 qa1 ?_;apply qbn;simp [zS, *];exact rfl)
      | (with_reducible refine qas ?_;simp only [qaa,qa2])
      | (refine qai rfl ?_)
      | (with_reducible refine qa8 ?_;simp [qab,Tryz.f24,oneOr,qaa,qa2])))
     all_goals first | (obtain ⟨σ,hσ⟩:=fitK_cut (t:=t) (n:=49) (P:=P) (A:=(27,.cells x.cs)) (B:=(3,.cells x.cs)) hoO (by simp) (by simp);exact ⟨σ,[],by rw [hx];exact qbb rfl,hσ⟩) | (exfalso;omega)
    | true=>
     simp only [Bool.true_and] at hx
     (repeat' (first
      | with_reducible refine qah ?_
      | (with_reducible refine qa0 qa1 ?_;apply qbn;simp [zS, *];exact rfl)
      | (with_reducible refine qas ?_;simp only [qaa,qa2])
      | (refine qal rfl ?_)
      | (with_reducible refine qa7 ?_;simp only [qaa,qa2])))
     all_goals first | (exact hB _ (j+1,some P,1) (by simp only;omega) ⟨by simp only;omega,hoS,by rw [hx];exact hr1⟩ ⟨[(33,2),(0,0)],[],rfl,rfl,rfl,by simp [qb6,qay,qb2,qaf,qac],(zd5 (g:=[[],kR t 2 (some P)]) (by simp) (by omega) (by simp) (by simp))⟩) | (exfalso;omega)
   ·clear ihk kM kA hr1
    simp only [hk1,if_false] at hx
    by_cases hk2:(qa6 t k).kind=2
    ·simp only [hk2,if_true] at hx
     have kP:=c37p (T:=T) (t:=t) (x:=qa6 t k) o' (by rw [hoP];have:=hp.1;omega)
     rw [hoP] at kP
     have kI:=fun H=>k42 hI (qap P) [112,114,101,32,116,101,120,116,97,114,101,97] (qmp (by decide)) (by decide) (qh2 hp).nm H
     clear hI hPo
     rcases Bool.eq_false_or_eq_true (qeh P (qa6 t k).data) with hb | hb
     ·obtain ⟨c,r,hdt⟩:=hdat hb
      have hx0:qh6 Tryz.prog 9 (.str (c::r)) (.int .i64 0)=some (.int .u8 c.toNat):=qih (s:=c::r) (i:=0) (by simp)
      have hlf:lfB (qa6 t k).data=decide ((c.toNat:Int)=10):=by rw [hdt];rfl
      rw [hlf] at hx
      rw [hb] at hx kC
      rw [hdt] at kC
      clear hdat hlf hb
      generalize elB (qap P) [112,114,101,32,116,101,120,116,97,114,101,97]=b6 at *
      generalize qap P=up at *
      generalize qa6 t k=x at *
      generalize qd1 x=b2 at *
      (repeat' (first
       | with_reducible refine qah ?_
       | (with_reducible refine qa0 (qca [⟨37,_,_,_,_,kP⟩]) ?_;apply qbn;simp [zS, *,rT,rP,kC,qao,qdb];exact rfl)
       | (refine qbh qci (qca [⟨37,_,_,_,_,kP⟩]) (by decide +kernel) (by decide +kernel) ?_;apply qbn;simp [zS,qbx,qbd,qb8, *,rT,rP,kC,qao,qdb];exact rfl)
       | (with_reducible refine qas ?_;simp only [qaa,qa2])
       | (with_reducible refine qg3 (fun hc=>?_) (fun hc=>?_) <;> ((have hd:=hc);(try simp at hd);(try subst hd);apply qbn;simp [zS,qbx,qbd,qb8, *,rT,rP,kC,qao,qdb];exact rfl))
       | (with_reducible refine qaz (fun hc=>?_) (fun hc=>?_) <;> ((have hd:=hc);(try simp at hd);(try subst hd);apply qbn;simp [zS, *,rT,rP,kC,qao,qdb];exact rfl))
       | (refine qai rfl ?_)
       | (refine qal rfl ?_)
       | (refine qau rfl (fun hc=>?_) (fun hc=>?_) <;> ((have hd:=hc);(try simp at hd);(try subst hd)))
       | (with_reducible refine qa7 ?_;simp only [qaa,qa2])
       | (with_reducible refine qa8 ?_;simp [qab,Tryz.f24,oneOr,qaa,qa2])))
      all_goals first | (first | (obtain ⟨σ,hσ⟩:=ql4 (t:=t) (n:=21) (f:=[(3,.cells x.cs)]) (fun i hi=>qep (by omega)) hout;have hRf:R=false:=by { rw [hx];first | (simp [*];done) | (simp_all;done) };exact ⟨σ,[],by rw [hRf];exact qbb rfl,hσ⟩) | (have hRf:R=rest2:=by { rw [hx];first | (simp [*];done) | (simp_all;done) };exact hB _ (j+1,o',2) (by simp only;omega) ⟨by simp only;omega,ho,by rw [hRf];exact hr2⟩ ⟨[(2,2),(0,0)],[],rfl,rfl,rfl,(by simp [qb6,qay,qb2,qaf,qac];try (have:(_:Int)=(j:Int):=hjz;omega)),zd1 (fun i hi=>qep (by omega))⟩)) | (exfalso;omega)
     ·rw [hb] at hx kC
      clear hdat hb kP kI
      generalize qa6 t k=x at *
      generalize qd1 x=b2 at *
      (repeat' (first
       | with_reducible refine qah ?_
       | (with_reducible refine qa0 qa1 ?_;apply qbn;simp [zS, *,rT,rP,kC,qao];exact rfl)
       | (refine qbh qci qa1 (by decide +kernel) (by decide +kernel) ?_;apply qbn;simp [zS,qbx,qbd,qb8, *,rT,rP,kC,qao];exact rfl)
       | (with_reducible refine qas ?_;simp only [qaa,qa2])
       | (with_reducible refine qg3 (fun hc=>?_) (fun hc=>?_) <;> ((have hd:=hc);(try simp at hd);(try subst hd);apply qbn;simp [zS,qbx,qbd,qb8, *,rT,rP,kC,qao];exact rfl))
       | (refine qai rfl ?_)
       | (refine qal rfl ?_)
       | (with_reducible refine qa8 ?_;simp [qab,Tryz.f24,oneOr,qaa,qa2])))
      all_goals first | (obtain ⟨σ,hσ⟩:=ql4 (t:=t) (n:=21) (f:=[(3,.cells x.cs)]) (fun i hi=>qep (by omega)) hout;have hRf:R=false:=by { rw [hx];first | (simp [*];done) | (simp_all;done) };exact ⟨σ,[],by rw [hRf];exact qbb rfl,hσ⟩) | (exfalso;omega)
    ·simp only [hk2,if_false] at hx
     clear hdat kC kN hI hPo
     generalize qa6 t k=x at *
     (repeat' (first
      | with_reducible refine qah ?_
      | (with_reducible refine qa0 qa1 ?_;apply qbn;simp [zS, *,rT,qao];exact rfl)
      | (with_reducible refine qas ?_;simp only [qaa,qa2])
      | (refine qal rfl ?_)
      | (with_reducible refine qa8 ?_;simp [qab,Tryz.f24,oneOr,qaa,qa2])))
     all_goals first | (obtain ⟨σ,hσ⟩:=ql4 (t:=t) (n:=4) (f:=[(3,.cells x.cs)]) (fun i hi=>qep (by omega)) hout;exact ⟨σ,[],by rw [hx];exact qbb rfl,hσ⟩) | (exfalso;omega)
  ·have hc:¬ jz < (K.length:Int):=by omega
   clear hjz0
   rw [List.drop_eq_nil_of_le (by omega)] at hx
   repeat apply wq
   refine qa0 qa1 ?_
   simp [zS,hc,h]
   repeat apply wq
   refine qal rfl ?_
   refine qat ?_
   simp
   repeat apply wq
   refine qa0 qa1 ?_
   simp [zS]
   refine qa8 ?_
   obtain ⟨σ,hσ⟩:=ql4 (t:=t) (n:=3) (f:=[]) (fun _ _=>rfl) hout
   simp [qab,Tryz.f24,oneOr,qaa,qa2]
   exact ⟨σ,[],by rw [hx];exact qbb rfl,hσ⟩
theorem c23 {T:List (Entry Tryz.prog)} (hc0:qag 22 T=some e22.g) (t:Tr) (ht:qf2 t):CallAt (ctx T) 23 [qam t] ⟨0,[]⟩ (.int .i64 (((qav t.length (qaq t)).length:Nat):Int)) ⟨0,[]⟩:=by
 have kc0:=@k22 T hc0
 have k0:=fun H=>kc0 ht H
 simp only [qam] at k0
 refine qa3 (fn:=Tryz.f23) (s0:=⟨[0,1,2],[qam t,.undef,.undef],[],6,⟨0,[[]]⟩⟩) Tryz.func23 rfl rfl rfl ?_
 (repeat' (first
  | with_reducible refine qah ?_
  | (with_reducible refine qa0 qa1 ?_;apply qbn;simp [zS, *,qam,qm9];exact rfl)
  | (with_reducible refine qas ?_;simp only [qaa,qa2])
  | (with_reducible refine qa8 ?_;simp [qab,Tryz.f23,oneOr,qaa,qa2])))
 all_goals first | exact qa4 rfl (by simp [*]) | (exfalso;omega)
theorem inj_23 (x y:Tr) (h:(fun z:Tr=>([qam z]:List AV)) x=(fun z:Tr=>([qam z]:List AV)) y):x=y:=by
 simp only [List.cons.injEq,and_true] at h
 exact qde h
noncomputable def e23:Entry Tryz.prog:=mkE 23 [[7]] (fun z:Tr=>[qam z]) (fun z=>(qf2 z)) (fun z=>.int .i64 (((qav z.length (qaq z)).length:Nat):Int)) fun z h=>c23 (T:=[e22]) rfl z h
theorem k23 {T:List (Entry Tryz.prog)} (hT:qag 23 T=some e23.g) (t:Tr) (ht:qf2 t) (H:Heap):qb9 (ctx T) (.fn 23) [qam t] H=some (.int .i64 (((qav t.length (qaq t)).length:Nat):Int),H):=
 qae hT inj_23 (t) ht rfl (by simp [qar])
def qzf (L:List Int) (i:Nat):Bool:=((List.range L.length).drop i).all fun j=>decide (L.getD j 0=(j:Int))
theorem ordF_c {L:List Int} {i:Nat} (h:i < L.length):qzf L i=(decide (L[i]=(i:Int)) && qzf L (i+1)):=by
 unfold qzf
 rw [List.drop_eq_getElem_cons (by simpa using h)]
 simp [List.getD,h]
theorem ordF_n {L:List Int} {i:Nat} (h:¬ i < L.length):qzf L i=true:=by
 unfold qzf
 rw [List.drop_eq_nil_of_le (by simp;omega)];rfl
def qp5 (t:Tr):Bool:=qbp t && (qd1 (qa6 t 0) && (decide ((qa6 t 0).data=[]) && (qzf (qav t.length (qaq t)) 0 && (decide ((qav t.length (qaq t)).length=t.length) && qig (t.length+2) t [] 0))))
theorem zaw {T:List (Entry Tryz.prog)} (hM:qag 15 T=some e15.g) (hA:qag 19 T=some e19.g) (hC:qag 17 T=some e17.g) (hN:qag 21 T=some e21.g) (hI:qag 42 T=some e42.g)
  (hO:qag 22 T=some e22.g) (hS:qag 23 T=some e23.g) (t:Tr) (kR:∀ H,qb9 (ctx T) (.fn 20) [qam t] H=some (.bool (qbp t),H)) (ht:qf2 t) (hn:∀ n,n∈t→okN n) (hf:qbp t=true→fits (t.length+2) t 0) :
  CallAt (ctx T) 7 [qam t] ⟨0,[]⟩ (.bool (qp5 t)) ⟨0,[]⟩:=by
 obtain ⟨R,hR⟩ : ∃ R,R=qp5 t:=⟨_,rfl⟩
 rw [← hR]
 unfold qp5 at hR
 simp only [qam] at kR
 cases hr:qbp t with
 | false=>
  rw [hr] at kR hR
  simp only [Bool.false_and] at hR
  refine qa3 (fn:=Tryz.f7) (s0:=⟨[0,1,2,3,4,5,26,27,28],[qam t,.undef,.undef,.undef,.undef,.undef,.undef,.undef,.undef],[],48,⟨0,[[]]⟩⟩) Tryz.func7 rfl rfl rfl ?_
  (repeat' (first
   | with_reducible refine qah ?_
   | (with_reducible refine qa0 qa1 ?_;apply qbn;simp [zS, *,qam,qao];exact rfl)
   | (with_reducible refine qas ?_;simp only [qaa,qa2])
   | (refine qai rfl ?_)
   | (with_reducible refine qa8 ?_;simp [qab,Tryz.f7,oneOr,qaa,qa2])))
  all_goals first | exact qa4 rfl (by rw [hR]) | (exfalso;omega)
 | true=>
  have hok:=qx3 hr ht.2 hn
  have hne:=qr0 hr
  have hpos:0 < t.length:=List.length_pos_iff.2 hne
  rw [hr] at kR hR
  have lenT:∀ H,qe3 Tryz.prog H 22 (qa5 t)=some t.length:=fun H=>by simp [qe3]
  have hix:=atX (t:=t) (i:=0) (by omega) (by omega)
  have kN:=fun H=>k21 hN (qa6 t 0) H
  have kO:=fun H=>k22 hO ht H
  have kS:=fun H=>k23 hS t ht H
  simp only [qam] at kO kS
  have hkids:=zc7 hM hA hC hN hI t hok (t.length+2) 0 none (hf hr) (by omega) (by omega) ⟨by simp [oL],by simp [oL]⟩ (by have:=ht.1;simp [oL];omega)
  obtain ⟨x,hx⟩ : ∃ x,x=qa6 t 0:=⟨_,rfl⟩
  rw [← hx] at hR hix kN
  clear hx
  generalize qd1 x=b1 at *
  obtain ⟨L,hL⟩ : ∃ L,L=qav t.length (qaq t):=⟨_,rfl⟩
  rw [← hL] at hR kO kS
  have hll:L.length≤t.length:=by rw [hL];exact qo1
  clear hL
  simp only [oL,Option.getD_none] at hkids
  generalize qig (t.length+2) t [] 0=b3 at *
  obtain ⟨b2,hb2⟩ : ∃ b2,b2=qzf L 0:=⟨_,rfl⟩
  rw [← hb2] at hR
  have hb4:qwh (b2=qzf L 0):=hb2
  clear hb2
  refine qa3 (fn:=Tryz.f7) (s0:=⟨[0,1,2,3,4,5,26,27,28],[qam t,.undef,.undef,.undef,.undef,.undef,.undef,.undef,.undef],[],48,⟨0,[[]]⟩⟩) Tryz.func7 rfl rfl rfl ?_
  (repeat' (first
   | with_reducible refine qah ?_
   | with_reducible refine qa9 ?_
   | (with_reducible refine qa0 qa1 ?_;apply qbn;simp [zS, *,qam,qao,qm9];exact rfl)
   | (with_reducible refine qas ?_;simp only [qaa,qa2])
   | (with_reducible refine qaz (fun hc=>?_) (fun hc=>?_) <;> ((have hd:=hc);(try simp at hd);(try subst hd);apply qbn;simp [zS, *,qam,qao,qm9];exact rfl))
   | (refine qai rfl ?_)
   | (refine qau rfl (fun hc=>?_) (fun hc=>?_) <;> ((have hd:=hc);(try simp at hd);(try subst hd)))
   | (with_reducible refine qa7 ?_;simp only [qaa,qa2])
   | (with_reducible refine qa8 ?_;simp [qab,Tryz.f7,oneOr,qaa,qa2])))
  all_goals first | exact qa4 rfl (by rw [hR];first | (simp [*];done) | (simp_all;done)) | (skip) | (exfalso;omega)
  have hRR:R=(b2 && (decide (L.length=t.length) && b3)):=by rw [hR];simp [*]
  clear hR kN kR kO
  refine qax (fun i:Nat=>(⟨[0,1,2,3,4,5,26,27,28],[.undef,.ptr 0 0,.bool false,.undef,.undef,.undef,qbs L,.int .i64 (L.length:Nat),.int .i64 (i:Int)],[],48,⟨1,[[(0,.cells [qa5 t])]]⟩⟩ : St))
   (fun i=>i≤L.length∧b2=qzf L i) (fun i=>L.length - i) [(0,0)] [] 0 ⟨Nat.zero_le _,hb4⟩
   ⟨rfl,rfl,rfl,by simp [qb6,qay,qb2,qaf,qac],qlp (t:=t) (by simp [Heap.get,getFs,getF])⟩ ?_
  rintro i ⟨hi,hxr⟩ S hS
  by_cases h:i < L.length
  ·have hc:(i:Int) < (L.length:Int):=by omega
   have hik:=atI h
   have hak:=qba (show i≤1000000000 by have:=ht.1;omega)
   rw [ordF_c h] at hxr
   obtain ⟨b5,hb5⟩ : ∃ b5,b5=qzf L (i+1):=⟨_,rfl⟩
   rw [← hb5] at hxr
   have hb6:qwh (b5=qzf L (i+1)):=hb5
   clear hb5 hb4
   have hcm:L[i]=(i:Int)↔(i:Int)=L[i]:=⟨fun e=>e.symm,fun e=>e.symm⟩
   simp only [hcm] at hxr
   clear hcm
   generalize L[i]=k at *
   (repeat' (first
    | with_reducible refine qah ?_
    | with_reducible refine qa9 ?_
    | (with_reducible refine qa0 qa1 ?_;apply qbn;simp [zS, *,qam,qm9];exact rfl)
    | (with_reducible refine qas ?_;simp only [qaa,qa2])
    | (refine qai rfl ?_)
    | (refine qau rfl (fun hc=>?_) (fun hc=>?_) <;> ((have hd:=hc);(try simp at hd);(try subst hd)))
    | (with_reducible refine qa7 ?_;simp only [qaa,qa2])
    | (with_reducible refine qa8 ?_;simp [qab,Tryz.f7,oneOr,qaa,qa2])))
   all_goals first | exact qa4 rfl (by rw [hRR,hxr];simp [*]) | (exact hS _ (i+1) (by omega) ⟨by omega,by rw [hxr];simp [*];exact hb6⟩ ⟨[(0,0)],[],rfl,rfl,rfl,by simp [qb6,qay,qb2,qaf,qac],qlp (t:=t) (by simp [Heap.get,getFs,getF])⟩) | (exfalso;omega)
  ·have hc:¬ (i:Int) < (L.length:Int):=by omega
   rw [ordF_n h] at hxr
   rw [hxr] at hRR
   clear hb4
   have bld:qff Tryz.prog 46 [(0,.agg [qa5 t])]=some (.agg [qa5 t,.nilS]):=rfl
   repeat apply wq
   refine qa0 qa1 ?_
   simp [zS,hc,h]
   repeat apply wq
   refine qal rfl ?_
   refine qat ?_
   simp
   repeat apply wq
   refine qa0 qa1 ?_
   simp [zS,bld]
   have hf:FitH 0 [(1,0)] [] ⟨12,[[(1,.cells [qa5 t,.nilS]),(0,.cells [qa5 t])]]⟩ ⟨2,[kR t 1 none]⟩:={
    nd1:=by simp
    nd2:=by simp
    nd3:=by simp [Heap.ents,kR]
    lt:=by simp
    idn:=by simp
    num:=by simp
    src:=by
     intro e he
     simp [Heap.ents,kR] at he
     subst he
     exact ⟨1,.cells [qa5 t,.nilS],by simp,by simp [Heap.get,getFs,getF],qak (by simp [qac,qaf])⟩
    frz:=fun x h=>by cases h }
   have hcall:=CallAt.framed (H':=⟨13,[[(0,.cells [qa5 t])]]⟩) (args:=[.ptr 1 0,.int .i64 0]) hkids hf (by simp [qb6,qay,qb2,qaf]) (by
    refine ⟨by simp [kH],fun _ _=>by simp [Heap.ents],?_⟩
    intro e he
    simp [Heap.ents] at he
    subst he
    exact .inr ⟨by simp [Heap.ents],by simp⟩) (by simp [kH])
   simp only [qk9] at hcall
   clear hkids hf
   have fit0:∀ H,FitH 0 [] [] H ⟨0,[]⟩:=fun H=>{
    nd1:=by simp
    nd2:=by simp
    nd3:=by simp [Heap.ents]
    lt:=by simp
    idn:=by simp
    num:=by simp
    src:=by intro e he;simp [Heap.ents] at he
    frz:=fun x h=>by cases h }
   cases hsz:decide (L.length=t.length) with
   | false=>
    have hne2:¬ L.length=t.length:=of_decide_eq_false hsz
    have hne3:¬ (L.length:Int)=(t.length:Int):=by omega
    rw [hsz] at hRR
    repeat apply wq
    refine qcm qci qa1 (by decide +kernel) fun B_ hB_=>?_
    have d_0_1:ahead B_ 0 1=true:=by rw [hB_];decide +kernel
    have d_0_7:ahead B_ 0 7=true:=by rw [hB_];decide +kernel
    have d_1_0:ahead B_ 1 0=false:=by rw [hB_];decide +kernel
    have d_1_3:ahead B_ 1 3=false:=by rw [hB_];decide +kernel
    have d_1_4:ahead B_ 1 4=false:=by rw [hB_];decide +kernel
    have d_3_1:ahead B_ 3 1=false:=by rw [hB_];decide +kernel
    have d_3_7:ahead B_ 3 7=true:=by rw [hB_];decide +kernel
    have d_4_1:ahead B_ 4 1=false:=by rw [hB_];decide +kernel
    have d_4_7:ahead B_ 4 7=true:=by rw [hB_];decide +kernel
    have d_7_0:ahead B_ 7 0=false:=by rw [hB_];decide +kernel
    have d_7_3:ahead B_ 7 3=false:=by rw [hB_];decide +kernel
    have d_7_4:ahead B_ 7 4=false:=by rw [hB_];decide +kernel
    apply qlt B_
    simp [zS,qdg,qbz,qby,qbr,qaw,qb4,qb3,Heap.lay,qdp,qlr,qlq,qh1,qh0,qgv,qgy,qhg,qh5,qf8,qf9,qhb,qha,qh8,qh9,qhe,qhf,qhd,qhc,d_0_1,d_0_7,d_1_0,d_1_3,d_1_4,d_3_1,d_3_7,d_4_1,d_4_7,d_7_0,d_7_3,d_7_4,kS,lenT,hne2,hne3]
    exact rfl
    refine ⟨_,rfl,?_,?_⟩
    simp [zS,qbr,qaw,qch,qcp,qdz,d_0_1,d_0_7,d_1_0,d_1_3,d_1_4,d_3_1,d_3_7,d_4_1,d_4_7,d_7_0,d_7_3,d_7_4,kS,lenT,hne2,hne3]
    simp [qcb,Heap.lay,qdp,qaa]
    refine qa8 ?_
    simp [qab,Tryz.f7,oneOr,hRR]
    exact ⟨[],[],qbb rfl,fit0 _⟩
   | true=>
    have he2:L.length=t.length:=of_decide_eq_true hsz
    rw [hsz] at hRR
    rw [he2] at kS
    repeat apply wq
    refine qcm qci (qca [⟨24,_,_,_,_,hcall⟩]) (by decide +kernel) fun B_ hB_=>?_
    have d_0_1:ahead B_ 0 1=true:=by rw [hB_];decide +kernel
    have d_0_7:ahead B_ 0 7=true:=by rw [hB_];decide +kernel
    have d_1_0:ahead B_ 1 0=false:=by rw [hB_];decide +kernel
    have d_1_3:ahead B_ 1 3=false:=by rw [hB_];decide +kernel
    have d_1_4:ahead B_ 1 4=false:=by rw [hB_];decide +kernel
    have d_3_1:ahead B_ 3 1=false:=by rw [hB_];decide +kernel
    have d_3_7:ahead B_ 3 7=true:=by rw [hB_];decide +kernel
    have d_4_1:ahead B_ 4 1=false:=by rw [hB_];decide +kernel
    have d_4_7:ahead B_ 4 7=true:=by rw [hB_];decide +kernel
    have d_7_0:ahead B_ 7 0=false:=by rw [hB_];decide +kernel
    have d_7_3:ahead B_ 7 3=false:=by rw [hB_];decide +kernel
    have d_7_4:ahead B_ 7 4=false:=by rw [hB_];decide +kernel
    apply qlt B_
    simp [zS,qdg,qbz,qby,qbr,qaw,qb4,qb3,Heap.lay,qdp,qlr,qlq,qh1,qh0,qgv,qgy,qhg,qh5,qf8,qf9,qhb,qha,qh8,qh9,qhe,qhf,qhd,qhc,d_0_1,d_0_7,d_1_0,d_1_3,d_1_4,d_3_1,d_3_7,d_4_1,d_4_7,d_7_0,d_7_3,d_7_4,kS,lenT,qdb,he2]
    exact rfl
    refine ⟨_,rfl,?_,?_⟩
    simp [zS,qbr,qaw,qch,qcp,qdz,d_0_1,d_0_7,d_1_0,d_1_3,d_1_4,d_3_1,d_3_7,d_4_1,d_4_7,d_7_0,d_7_3,d_7_4,kS,lenT,qdb,he2]
    simp [qcb,Heap.lay,qdp,qaa]
    refine qa8 ?_
    simp [qab,Tryz.f7,oneOr,hRR]
    exact ⟨[],[],qbb rfl,fit0 _⟩
end Go.Proofs.YtgpjifeeneeiaaaGreatDoor
namespace Go.Proofs.YtgpjifeeneeiaaaGreatDoor
set_option linter.unusedSimpArgs false
set_option linter.unusedVariables false
open Go Go.RowKit
def qes (ks:Nat→List Int):Nat→Nat→List Int
 | 0,_=>[]
 | f+1,i=>(i:Int)::(ks i).flatMap fun k=>qes ks f k.toNat
structure TreeK (n:Nat) (ks:Nat→List Int) (par:Int→Int) (dep:Int→Nat):Prop where
 kd:∀ i,i < n→∀ k,k∈ks i→0≤k∧k < (n:Int)∧par k=(i:Int)∧dep k=dep (i:Int)+1
 nd:∀ i,i < n→(ks i).Nodup
def qka (w:Wk) (x b:Int):Prop:=inA w x < inA w b∧qfi w b < qfi w x
structure SubT (ks:Nat→List Int) (par:Int→Int) (w:Wk) (S:List Int) (r:Int):Prop where
 top:r∈S∧∀ x,x∈S→x≠r→qka w r x
 up:∀ b,b∈S→b≠r→par b∈S∧qka w (par b) b∧∀ x,x∈S→qka w x b→x=par b∨qka w x (par b)
 cl:∀ x,x∈S→∀ k,k∈ks x.toNat→k∈S
 nn:∀ x,x∈S→0≤x
theorem SubT.same {ks:Nat→List Int} {par:Int→Int} {w w':Wk} {S:List Int} {r:Int} (h:SubT ks par w S r) (e:∀ x,x∈S→inA w' x=inA w x∧qfi w' x=qfi w x):SubT ks par w' S r where
 top:=⟨h.top.1,fun x hx hn=>by
  have:=h.top.2 x hx hn
  unfold qka at this ⊢
  rw [(e _ h.top.1).1,(e _ h.top.1).2,(e x hx).1,(e x hx).2];exact this⟩
 up:=fun b hb hn=>by
  obtain ⟨h1,h2,h3⟩:=h.up b hb hn
  refine ⟨h1,?_,fun x hx hxe=>?_⟩
  ·unfold qka at h2 ⊢
   rw [(e _ h1).1,(e _ h1).2,(e b hb).1,(e b hb).2];exact h2
  ·have:=h3 x hx (by unfold qka at hxe ⊢;rw [(e x hx).1,(e x hx).2,(e b hb).1,(e b hb).2] at hxe;exact hxe)
   rcases this with h4 | h4
   ·exact .inl h4
   ·refine .inr ?_
    unfold qka at h4 ⊢
    rw [(e x hx).1,(e x hx).2,(e _ h1).1,(e _ h1).2];exact h4
 cl:=h.cl
 nn:=h.nn
structure VisT (n:Nat) (ks:Nat→List Int) (par:Int→Int) (w w':Wk) (S:List Int) (r:Int):Prop where
 l:w'.l=w.l++S
 li:w'.inn.length=n
 lo:w'.out.length=n
 cc:w.c≤w'.c
 oth:∀ x,0≤x→x ∉ S→inA w' x=inA w x∧qfi w' x=qfi w x
 rng:∀ x,x∈S→w.c≤inA w' x∧inA w' x < qfi w' x∧qfi w' x < w'.c
 sub:SubT ks par w' S r
 ng:qgk w'.inn≤qgk w.inn
structure VssT (n:Nat) (ks:Nat→List Int) (par:Int→Int) (w w':Wk) (S:Int→List Int) (K:List Int):Prop where
 l:w'.l=w.l++K.flatMap S
 li:w'.inn.length=n
 lo:w'.out.length=n
 cc:w.c≤w'.c
 oth:∀ x,0≤x→(∀ k,k∈K→x ∉ S k)→inA w' x=inA w x∧qfi w' x=qfi w x
 rng:∀ k,k∈K→∀ x,x∈S k→w.c≤inA w' x∧inA w' x < qfi w' x∧qfi w' x < w'.c
 sub:∀ k,k∈K→SubT ks par w' (S k) k
 dis:∀ k,k∈K→∀ k2,k2∈K→k≠k2→∀ x,x∈S k→∀ y,y∈S k2→¬ qka w' x y
 ng:qgk w'.inn≤qgk w.inn
def Bel (n:Nat) (par:Int→Int) (dep:Int→Nat) (i x:Int):Prop:=0≤x∧x < (n:Int)∧∃ m,dep x=dep i+m∧Nat.repeat par m x=i
theorem qhv {n:Nat} {par:Int→Int} {dep:Int→Nat} {i:Int} (h0:0≤i) (h1:i < (n:Int)):Bel n par dep i i:=⟨h0,h1,0,rfl,rfl⟩
theorem ze7 {n:Nat} {ks:Nat→List Int} {par:Int→Int} {dep:Int→Nat} (h:TreeK n ks par dep) {i:Nat} (hi:i < n) {k x:Int} (hk:k∈ks i) (hx:Bel n par dep k x):Bel n par dep i x:=by
 obtain ⟨k0,k1,k2,k3⟩:=h.kd i hi k hk
 obtain ⟨x0,x1,m,h1,h2⟩:=hx
 exact ⟨x0,x1,m+1,by omega,by show par (Nat.repeat par m x)=_;rw [h2,k2]⟩
theorem ze9 {n:Nat} {ks:Nat→List Int} {par:Int→Int} {dep:Int→Nat} (h:TreeK n ks par dep) {i:Nat} (hi:i < n) {k k2:Int} (hk:k∈ks i) (hk2:k2∈ks i) (hne:k≠k2) {x:Int} (hx:Bel n par dep k x):¬ Bel n par dep k2 x:=by
 rintro ⟨_,_,m2,h3,h4⟩
 obtain ⟨a0,a1,a2,a3⟩:=h.kd i hi k hk
 obtain ⟨b0,b1,b2,b3⟩:=h.kd i hi k2 hk2
 obtain ⟨_,_,m,h1,h2⟩:=hx
 have:m=m2:=by omega
 subst this
 exact hne (h2.symm.trans h4)
theorem qwe {n:Nat} {ks:Nat→List Int} {par:Int→Int} {dep:Int→Nat} (h:TreeK n ks par dep) {i:Nat} (hi:i < n) {k:Int} (hk:k∈ks i):¬ Bel n par dep k i:=by
 rintro ⟨_,_,m,h1,h2⟩
 obtain ⟨a0,a1,a2,a3⟩:=h.kd i hi k hk
 omega
theorem qnv {n:Nat} {ks:Nat→List Int} {par:Int→Int} {dep:Int→Nat} (h:TreeK n ks par dep):∀ (f i:Nat),i < n→∀ x,x∈qes ks f i→Bel n par dep i x
 | 0,i,hi,x,hx=>by simp [qes] at hx
 | f+1,i,hi,x,hx=>by
  simp only [qes,List.mem_cons,List.mem_flatMap] at hx
  rcases hx with rfl | ⟨k,hk,hx⟩
  ·exact qhv (by omega) (by omega)
  ·obtain ⟨k0,k1,k2,k3⟩:=h.kd i hi k hk
   have:=qnv h f k.toNat (by omega) x hx
   rw [show ((k.toNat:Nat):Int)=k by omega] at this
   exact ze7 h hi hk this
theorem zc5 {n:Nat} {ks:Nat→List Int} {par:Int→Int} {dep:Int→Nat} (ht:TreeK n ks par dep) {f i:Nat} (hi:i < n)
  (hg:∀ i w,i < n→w.inn.length=n→w.out.length=n→0≤w.c→(∀ x,Bel n par dep i x→inA w x < 0)→qgk w.inn≤f→VisT n ks par w (vis n ks f i w) (qes ks f i) i) :
  ∀ (K:List Int),(∀ k,k∈K→k∈ks i)→K.Nodup→∀ (w:Wk),w.inn.length=n→w.out.length=n→0≤w.c→(∀ k,k∈K→∀ x,Bel n par dep k x→inA w x < 0)→qgk w.inn≤f →
   VssT n ks par w (kl n (vis n ks f) K w) (fun k=>qes ks f k.toNat) K
 | [],_,_,w,h1,h2,h3,_,_=>{
   l:=by simp [kl]
   li:=h1
   lo:=h2
   cc:=Int.le_refl _
   oth:=fun _ _ _=>⟨rfl,rfl⟩
   rng:=fun k hk=>by cases hk
   sub:=fun k hk=>by cases hk
   dis:=fun k hk=>by cases hk
   ng:=Nat.le_refl _ }
 | k::r,hK,hnd,w,h1,h2,h3,hu,hf=>by
  obtain ⟨a0,a1,a2,a3⟩:=ht.kd i hi k (hK k (by simp))
  rw [List.nodup_cons] at hnd
  have e:((k.toNat:Nat):Int)=k:=by omega
  have hk0:=hu k (by simp) k (qhv a0 a1)
  have hc:0≤k∧k < (n:Int)∧w.inn.getD k.toNat 0 < 0:=⟨a0,a1,hk0⟩
  have v:=hg k.toNat w (by omega) h1 h2 h3 (by rw [e];exact hu k (by simp)) hf
  rw [e] at v
  unfold kl
  rw [if_pos hc]
  obtain ⟨w1,hw1⟩ : ∃ w1,w1=vis n ks f k.toNat w:=⟨_,rfl⟩
  rw [← hw1] at v ⊢
  have hmem:∀ k2,k2∈r→k2∈ks i:=fun k2 h=>hK k2 (by simp [h])
  have hne:∀ k2,k2∈r→k≠k2:=fun k2 h he=>hnd.1 (he ▸ h)
  have hin:∀ x,x∈qes ks f k.toNat→Bel n par dep k x:=fun x hx=>by
   have:=qnv ht f k.toNat (by omega) x hx
   rwa [e] at this
  have hbn:∀ k2,k2∈r→∀ x,Bel n par dep k2 x→x ∉ qes ks f k.toNat:=fun k2 h x hx hx2=>ze9 ht hi (hK k (by simp)) (hmem k2 h) (hne k2 h) (hin x hx2) hx
  have hnot:∀ k2,k2∈r→∀ x,x∈qes ks f k2.toNat→0≤x∧x ∉ qes ks f k.toNat:=fun k2 h x hx=>by
   obtain ⟨b0,b1,_⟩:=ht.kd i hi k2 (hmem k2 h)
   have:=qnv ht f k2.toNat (by omega) x hx
   rw [show ((k2.toNat:Nat):Int)=k2 by omega] at this
   exact ⟨this.1,hbn k2 h x this⟩
  have v2:=zc5 ht hi hg r hmem hnd.2 w1 v.li v.lo (by have:=v.cc;omega) (fun k2 h x hx=>by
   rw [(v.oth x hx.1 (hbn k2 h x hx)).1];exact hu k2 (by simp [h]) x hx) (by have:=v.ng;omega)
  obtain ⟨w',hw'⟩ : ∃ w',w'=kl n (vis n ks f) r w1:=⟨_,rfl⟩
  rw [← hw'] at v2 ⊢
  have keep:∀ x,x∈qes ks f k.toNat→inA w' x=inA w1 x∧qfi w' x=qfi w1 x:=fun x hx=>v2.oth x (v.sub.nn x hx) fun k2 h hx2=>(hnot k2 h x hx2).2 hx
  have c1:=v.cc
  have c2:=v2.cc
  have lowR:∀ x,x∈qes ks f k.toNat→w.c≤inA w' x∧inA w' x < qfi w' x∧qfi w' x < w1.c:=fun x hx=>by
   rw [(keep x hx).1,(keep x hx).2];exact v.rng x hx
  exact {
   l:=by rw [v2.l,v.l,List.flatMap_cons,List.append_assoc]
   li:=v2.li
   lo:=v2.lo
   cc:=by omega
   oth:=fun x hx hn=>by
    obtain ⟨p1,p2⟩:=v2.oth x hx fun k2 h=>hn k2 (by simp [h])
    obtain ⟨p3,p4⟩:=v.oth x hx (hn k (by simp))
    exact ⟨p1.trans p3,p2.trans p4⟩
   rng:=fun k2 hk2 x hx=>by
    rcases List.mem_cons.1 hk2 with rfl | hk2
    ·have:=lowR x hx;omega
    ·have:=v2.rng k2 hk2 x hx;omega
   sub:=fun k2 hk2=>by
    rcases List.mem_cons.1 hk2 with rfl | hk2
    ·exact v.sub.same keep
    ·exact v2.sub k2 hk2
   dis:=fun k2 hk2 k3 hk3 hne2 x hx y hy he=>by
    rcases List.mem_cons.1 hk2 with rfl | hk2' <;> rcases List.mem_cons.1 hk3 with rfl | hk3'
    ·exact hne2 rfl
    ·have g1:=lowR x hx
     have g2:=v2.rng k3 hk3' y hy
     unfold qka at he;omega
    ·have g1:=lowR y hy
     have g2:=v2.rng k2 hk2' x hx
     unfold qka at he;omega
    ·exact v2.dis k2 hk2' k3 hk3' hne2 x hx y hy he
   ng:=by have:=v.ng;have:=v2.ng;omega }
theorem qwm {n:Nat} {ks:Nat→List Int} {par:Int→Int} {dep:Int→Nat} (ht:TreeK n ks par dep):∀ (f i:Nat) (w:Wk),i < n→w.inn.length=n→w.out.length=n→0≤w.c→(∀ x,Bel n par dep i x→inA w x < 0)→qgk w.inn≤f→VisT n ks par w (vis n ks f i w) (qes ks f i) i
 | 0,i,w,hi,h1,h2,h3,hu,hf=>by
  have hin:=hu i (qhv (by omega) (by omega))
  have e:=qfn (I:=w.inn) (i:=i) (c:=0) (by omega) (by simpa [inA] using hin) (by omega)
  omega
 | f+1,i,w,hi,h1,h2,h3,hu,hf=>by
  have hin:=hu i (qhv (by omega) (by omega))
  have e:=qfn (I:=w.inn) (i:=i) (c:=w.c) (by omega) (by simpa [inA] using hin) h3
  have hki:=fun k hk=>ht.kd i hi k hk
  have v:=zc5 ht hi (fun i w a b c d e g=>qwm ht f i w a b c d e g) (ks i) (fun _ h=>h) (ht.nd i hi) (into i w) (by simp [into,h1]) h2 (by simp [into];omega) (fun k hk x hx=>by
   have hxi:¬ (i:Int)=x:=fun he=>qwe ht hi hk (he ▸ hx)
   rw [qmz (by omega) hx.1,if_neg hxi]
   exact hu x (ze7 ht hi hk hx)) (by simp only [into];omega)
  unfold vis
  obtain ⟨w1,hw1⟩ : ∃ w1,w1=kl n (vis n ks f) (ks i) (into i w):=⟨_,rfl⟩
  rw [← hw1] at v ⊢
  have hsub:∀ k,k∈ks i→∀ x,x∈qes ks f k.toNat→0≤x∧¬ (i:Int)=x:=fun k hk x hx=>by
   obtain ⟨k0,k1,k2,k3⟩:=hki k hk
   have:=qnv ht f k.toNat (by omega) x hx
   rw [show ((k.toNat:Nat):Int)=k by omega] at this
   exact ⟨this.1,fun he=>qwe ht hi hk (he ▸ this)⟩
  have hiK:∀ k,k∈ks i→(i:Int) ∉ qes ks f k.toNat:=fun k hk hx=>(hsub k hk _ hx).2 rfl
  have ilo:=v.lo
  have ili:=v.li
  have io:=v.oth i (by omega) hiK
  have ii:inA w1 i=w.c:=by rw [io.1,qmz (by omega) (by omega),if_pos rfl]
  have cc:=v.cc
  simp only [into] at cc
  have mI:∀ x,inA (outof i w1) x=inA w1 x:=fun x=>zck
  have mO:∀ x,0≤x→qfi (outof i w1) x=if (i:Int)=x then w1.c else qfi w1 x:=fun x hx=>qq0 (by omega) hx
  have mS:∀ k,k∈ks i→∀ x,x∈qes ks f k.toNat→inA (outof i w1) x=inA w1 x∧qfi (outof i w1) x=qfi w1 x:=fun k hk x hx=>⟨mI x,by rw [mO x (hsub k hk x hx).1,if_neg (hsub k hk x hx).2]⟩
  have eI:∀ k,k∈ks i→∀ x,x∈qes ks f k.toNat→qka (outof i w1) i x:=fun k hk x hx=>by
   have g:=v.rng k hk x hx
   simp only [into] at g
   unfold qka
   rw [(mS k hk x hx).1,(mS k hk x hx).2,mI,mO i (by omega),if_pos rfl,ii]
   omega
  have nI:∀ x,x∈qes ks (f+1) i→¬ qka (outof i w1) x i:=fun x hx he=>by
   simp only [qes,List.mem_cons,List.mem_flatMap] at hx
   rcases hx with rfl | ⟨k,hk,hx⟩
   ·unfold qka at he;omega
   ·have:=eI k hk x hx
    unfold qka at he this;omega
  exact {
   l:=by simp only [outof];rw [v.l];simp [into,qes]
   li:=ili
   lo:=by simp [outof,ilo]
   cc:=by simp only [outof];omega
   oth:=fun x hx hn=>by
    simp only [qes,List.mem_cons,List.mem_flatMap,not_or,not_exists,not_and] at hn
    obtain ⟨n1,n2⟩:=hn
    have n1':¬ (i:Int)=x:=fun h=>n1 h.symm
    obtain ⟨p1,p2⟩:=v.oth x hx n2
    rw [mI,mO x hx,if_neg n1',p1,p2,qmz (by omega) hx,if_neg n1']
    exact ⟨rfl,rfl⟩
   rng:=fun x hx=>by
    simp only [qes,List.mem_cons,List.mem_flatMap] at hx
    rcases hx with rfl | ⟨k,hk,hx⟩
    ·rw [mI,mO i (by omega),if_pos rfl,ii]
     simp only [outof];omega
    ·have g:=v.rng k hk x hx
     simp only [into] at g
     rw [(mS k hk x hx).1,(mS k hk x hx).2]
     simp only [outof];omega
   sub:={
    top:=⟨by simp [qes],fun x hx hn=>by
     simp only [qes,List.mem_cons,List.mem_flatMap] at hx
     rcases hx with rfl | ⟨k,hk,hx⟩
     ·exact absurd rfl hn
     ·exact eI k hk x hx⟩
    up:=fun b hb hn=>by
     simp only [qes,List.mem_cons,List.mem_flatMap] at hb
     rcases hb with rfl | ⟨k,hk,hb⟩
     ·exact absurd rfl hn
     ·have sb:=(v.sub k hk).same (mS k hk)
      obtain ⟨k0,k1,k2,k3⟩:=hki k hk
      have inx:∀ x,x∈qes ks f k.toNat→x∈qes ks (f+1) i:=fun x hx=>by
       simp only [qes,List.mem_cons,List.mem_flatMap]
       exact .inr ⟨k,hk,hx⟩
      have sep:∀ x,x∈qes ks (f+1) i→qka (outof i w1) x b→x=(i:Int)∨x∈qes ks f k.toNat:=fun x hx he=>by
       simp only [qes,List.mem_cons,List.mem_flatMap] at hx
       rcases hx with rfl | ⟨k4,hk4,hx⟩
       ·exact .inl rfl
       ·by_cases hkk:k4=k
        ·subst hkk;exact .inr hx
        ·refine absurd he ?_
         have:=v.dis k4 hk4 k hk hkk x hx b hb
         unfold qka at this ⊢
         rw [(mS k4 hk4 x hx).1,(mS k4 hk4 x hx).2,(mS k hk b hb).1,(mS k hk b hb).2]
         exact this
      by_cases hbk:b=k
      ·subst hbk
       rw [k2]
       refine ⟨by simp [qes],eI b hk b hb,fun x hx he=>?_⟩
       rcases sep x hx he with h | h
       ·exact .inl h
       ·by_cases hxb:x=b
        ·subst hxb;unfold qka at he;omega
        ·have:=sb.top.2 x h hxb
         unfold qka at this he;omega
      ·obtain ⟨u1,u2,u3⟩:=sb.up b hb hbk
       refine ⟨inx _ u1,u2,fun x hx he=>?_⟩
       rcases sep x hx he with rfl | h
       ·exact .inr (eI k hk _ u1)
       ·exact u3 x h he
    cl:=fun x hx k hk=>by
     simp only [qes,List.mem_cons,List.mem_flatMap] at hx ⊢
     rcases hx with rfl | ⟨k2,hk2,hx⟩
     ·simp only [Int.toNat_natCast] at hk
      exact .inr ⟨k,hk,(v.sub k hk).top.1⟩
     ·exact .inr ⟨k2,hk2,(v.sub k2 hk2).cl x hx k hk⟩
    nn:=fun x hx=>by
     simp only [qes,List.mem_cons,List.mem_flatMap] at hx
     rcases hx with rfl | ⟨k,hk,hx⟩
     ·omega
     ·exact (hsub k hk x hx).1 }
   ng:=by have:=v.ng;simp only [outof,into] at this ⊢;omega }
variable {n:Nat} {ks:Nat→List Int} {par:Int→Int} {dep:Int→Nat}
theorem qwo (ht:TreeK n ks par dep) (hn:0 < n):VisT n ks par (w0 n) (qjc n ks) (qes ks n 0) 0:=by
 have h:=qwm ht n 0 (w0 n) hn (by simp [w0]) (by simp [w0]) (by simp [w0]) (fun x hx=>by
  have h1:x.toNat < n:=by have:=hx.1;have:=hx.2.1;omega
  simp [inA,w0,List.getD_eq_getElem?_getD,h1]) (by simp [w0,qgj])
 have e:qjc n ks=vis n ks n 0 (w0 n):=by unfold qjc;rw [if_neg (by omega)]
 rw [e];exact h
theorem qkt (ht:TreeK n ks par dep) (hn:0 < n):qav n ks=qes ks n 0:=by
 rw [← zah,(qwo ht hn).l];simp [w0]
theorem qia (ht:TreeK n ks par dep) (hn:0 < n):SubT ks par (qjc n ks) (qav n ks) 0:=by
 rw [qkt ht hn];exact (qwo ht hn).sub
theorem qj6 {a b:Int} (hn:0 < n) (ha:a∈qav n ks) (hb:b∈qav n ks):qvl (qjc n ks) a b=true↔qka (qjc n ks) b a:=by
 have h:=qrc (ks:=ks) hn
 have h1:=(h.a0 a ha).2.2
 have h2:=(h.a0 b hb).2.2
 rw [qxy];unfold qka
 constructor
 ·rintro ⟨_,_,x,y⟩;exact ⟨x,y⟩
 ·rintro ⟨x,y⟩;exact ⟨h1,h2,x,y⟩
def qp8 (n:Nat) (ks:Nat→List Int) (a:Int):List Int:=(qav n ks).filter (qvl (qjc n ks) a)
theorem zbm (ht:TreeK n ks par dep) (hn:0 < n):qp8 n ks 0=[]:=by
 unfold qp8
 rw [List.filter_eq_nil_iff]
 intro x hx he
 have hs:=qia ht hn
 rw [qj6 hn hs.top.1 hx] at he
 by_cases hx0:x=0
 ·subst hx0;unfold qka at he;omega
 ·have:=hs.top.2 x hx hx0
  unfold qka at this he;omega
theorem path_kid (ht:TreeK n ks par dep) (hn:0 < n) {b:Int} (hb:b∈qav n ks) (h0:b≠0):qp8 n ks b=qp8 n ks (par b)++[par b]:=by
 have hs:=qia ht hn
 obtain ⟨hu,hue,hup⟩:=hs.up b hb h0
 have hl:=qrc (ks:=ks) hn
 unfold qp8
 have e1:(qav n ks).filter (qvl (qjc n ks) b)=(qav n ks).filter (fun x=>decide (x=par b) || qvl (qjc n ks) (par b) x):=by
  refine List.filter_congr fun x hx=>?_
  rw [Bool.eq_iff_iff,qj6 hn hb hx,Bool.or_eq_true,decide_eq_true_eq,qj6 hn hu hx]
  constructor
  ·exact hup x hx
  ·rintro (rfl | h)
   ·exact hue
   ·unfold qka at h hue ⊢;omega
 rw [e1]
 obtain ⟨A,B,hAB⟩:=List.append_of_mem hu
 have hsrt:=hl.srt
 rw [hAB] at hsrt
 rw [List.pairwise_append,List.pairwise_cons] at hsrt
 obtain ⟨_,⟨hB,_⟩,hA⟩:=hsrt
 have memA:∀ x,x∈A→x∈qav n ks:=fun x hx=>by rw [hAB];simp [hx]
 have memB:∀ x,x∈B→x∈qav n ks:=fun x hx=>by rw [hAB];simp [hx]
 have fA:A.filter (fun x=>decide (x=par b) || qvl (qjc n ks) (par b) x)=A.filter (qvl (qjc n ks) (par b)):=by
  refine List.filter_congr fun x hx=>?_
  have hne:x≠par b:=fun he=>by have:=hA x hx (par b) (by simp);rw [he] at this;omega
  simp [hne]
 have fB:B.filter (fun x=>decide (x=par b) || qvl (qjc n ks) (par b) x)=[]:=by
  rw [List.filter_eq_nil_iff]
  intro x hx he
  have h1:=hB x hx
  rw [Bool.or_eq_true,decide_eq_true_eq,qj6 hn hu (memB x hx)] at he
  rcases he with rfl | he
  ·omega
  ·unfold qka at he;omega
 have fB2:B.filter (qvl (qjc n ks) (par b))=[]:=by
  rw [List.filter_eq_nil_iff]
  intro x hx he
  have h1:=hB x hx
  rw [qj6 hn hu (memB x hx)] at he
  unfold qka at he;omega
 have fu:qvl (qjc n ks) (par b) (par b)=false:=by
  cases hq:qvl (qjc n ks) (par b) (par b) with
  | false=>rfl
  | true=>rw [qj6 hn hu hu] at hq;unfold qka at hq;omega
 rw [hAB,List.filter_append,List.filter_cons,List.filter_append,List.filter_cons,fA,fB,fB2,fu]
 simp
theorem zbs (ht:TreeK n ks par dep) (hn:0 < n) {i:Int} (hi:i∈qav n ks) {k:Int} (hk:k∈ks i.toNat):k∈qav n ks:=(qia ht hn).cl i hi k hk
theorem qze (ht:TreeK n ks par dep) (hn:0 < n):(0:Int)∈qav n ks:=(qia ht hn).top.1
section
variable {t:Tr}
theorem qr1 (h:qbp t=true) {i:Nat} (hi:i < t.length):qi3 t i=true:=by
 cases hb:qi3 t i with
 | true=>rfl
 | false=>rw [qdo hi hb] at h;cases h
theorem qz4 (h:qbp t=true) {i:Nat} (hi:i < t.length):qcs t (t.length+1) (i:Int)=true:=by
 cases hb:qcs t (t.length+1) (i:Int) with
 | true=>rfl
 | false=>rw [qpv hi hb] at h;cases h
theorem qcq (h:qbp t=true) {i:Nat} (hi:i < t.length) {k:Int} (hk:k∈(qa6 t i).kids):0≤k∧k < (t.length:Int)∧(qa6 t k).up=(i:Int)∧qcn (qa6 t i).kids k=1∧(qa6 t i).kind≤1:=by
 have hok:=qr1 h hi
 simp only [qi3,Bool.and_eq_true,Bool.not_eq_true'] at hok
 have h1:=List.any_eq_false.1 hok.2.2 k hk
 simp only [qsd,Bool.or_eq_true,decide_eq_true_eq,not_or] at h1
 obtain ⟨k0,k1,k2⟩:=h1
 have k2:(qa6 t k).up=(i:Int):=Classical.byContradiction k2
 have hok2:=qr1 h (i:=k.toNat) (by omega)
 have e:((k.toNat:Nat):Int)=k:=by omega
 simp only [qi3,Bool.and_eq_true,Bool.not_eq_true',badB,e,k2] at hok2
 have h2:=hok2.2.1
 have hi0:(0:Int)≤(i:Int):=by omega
 simp only [hi0,decide_true,Bool.true_and,Bool.or_eq_false_iff,decide_eq_false_iff_not] at h2
 refine ⟨by omega,by omega,k2,?_,by omega⟩
 have:=h2.2
 have h3:(qcn (qa6 t i).kids k:Int)=1:=Classical.byContradiction this
 omega
theorem qnq (h:qbp t=true):(qa6 t 0).up = -1∧(qa6 t 0).kind=0:=by
 simp only [qbp,Bool.and_eq_true,decide_eq_true_eq] at h
 exact ⟨h.2.2.1,h.2.1⟩
theorem qqt {L:List Int} (h:∀ k,k∈L→qcn L k=1):L.Nodup:=by
 rw [List.nodup_iff_count]
 intro a
 by_cases ha:a∈L
 ·have:=h a ha
  unfold qcn at this
  rw [List.count_eq_countP]
  have e:(fun x:Int=>x == a)=fun x=>decide (x=a):=by funext x;rw [Bool.eq_iff_iff];simp
  rw [e,this]
  exact Nat.le_refl _
 ·rw [List.count_eq_zero_of_not_mem ha];omega
def qvz (t:Tr):Nat→Int→Nat
 | 0,_=>0
 | f+1,i=>if (qa6 t i).up = -1 then 0 else qvz t f (qa6 t i).up+1
theorem qqh:∀ (f:Nat) (i:Int),qcs t f i=true→qvz t f i=qvz t (f+1) i
 | 0,i,h=>by simp [qcs] at h
 | f+1,i,h=>by
  unfold qcs at h
  rw [qvz,qvz]
  by_cases hu:(qa6 t i).up = -1
  ·simp [hu]
  ·simp only [hu,if_false] at h ⊢
   rw [qqh f _ h]
theorem qe6 (h:qbp t=true):TreeK t.length (qaq t) (fun x=>(qa6 t x).up) (qvz t (t.length+1)) where
 kd:=fun i hi k hk=>by
  have hk':k∈(qa6 t i).kids:=by rw [qc3 hi,qdq hi];exact hk
  obtain ⟨k0,k1,k2,_⟩:=qcq h hi hk'
  refine ⟨k0,k1,k2,?_⟩
  have hh:=qz4 h (i:=k.toNat) (by omega)
  rw [show ((k.toNat:Nat):Int)=k by omega] at hh
  have hne:¬ (qa6 t k).up = -1:=by omega
  unfold qcs at hh
  simp only [hne,if_false,k2] at hh
  rw [← qqh _ _ hh,qvz,if_neg hne,k2]
 nd:=fun i hi=>by
  rw [← qdq hi,← qc3 hi]
  exact qqt fun k hk=>(qcq h hi hk).2.2.2.1
theorem qg1 (h:qbp t=true):0 < t.length:=List.length_pos_iff.2 (qr0 h)
theorem qvt (h:qbp t=true):∀ (f:Nat) (i:Nat),i < t.length→t.length+2≤f+qvz t (t.length+1) (i:Int)→fits f t (i:Int)
 | 0,i,hi,hf=>by
  exfalso
  have hd:∀ (f:Nat) (x:Int),qvz t f x≤f:=by
   intro f
   induction f with
   | zero=>intro x;simp [qvz]
   | succ f ih=>intro x;rw [qvz];split;omega;have:=ih (qa6 t x).up;omega
  have:=hd (t.length+1) i
  omega
 | f+1,i,hi,hf=>by
  intro k hk _
  obtain ⟨k0,k1,k2,_⟩:=qcq h hi hk
  have hd:=((qe6 h).kd i hi k (by rw [← qdq hi,← qc3 hi];exact hk)).2.2.2
  have:=qvt h f k.toNat (by omega) (by rw [show ((k.toNat:Nat):Int)=k by omega];omega)
  rwa [show ((k.toNat:Nat):Int)=k by omega] at this
end
end Go.Proofs.YtgpjifeeneeiaaaGreatDoor
namespace Go.Proofs.YtgpjifeeneeiaaaGreatDoor
set_option linter.unusedSimpArgs false
set_option linter.unusedVariables false
open Go Go.RowKit
set_option maxRecDepth 100000
def kindB (t:Tr) (i:Nat):Bool:=decide (i=0) || !(decide ((qa6 t i).kind < 1) || decide (4 < (qa6 t i).kind))
theorem link_ok {t:Tr} (h0:(qa6 t 0).up = -1) (i:Nat):(kindB t i && qml t i)=qi3 t i:=by
 unfold kindB qml qi3 za8 badB
 by_cases hi:i=0
 ·subst hi
  have e0:((0:Nat):Int)=0:=rfl
  simp [h0,e0]
 ·have hp:0 < i:=by omega
  rw [Bool.eq_iff_iff]
  simp only [hi,hp,decide_true,decide_false,Bool.false_or,Bool.true_and,Bool.and_eq_true,Bool.not_eq_true',Bool.or_eq_false_iff,decide_eq_false_iff_not]
  by_cases hu:(qa6 t i).up < 0
  ·have hu2:¬ 0≤(qa6 t i).up:=by omega
   simp only [hu,hu2,if_true,decide_false,Bool.false_and,decide_eq_true_eq,true_and,and_true]
   constructor
   ·rintro ⟨⟨a,b⟩,c,d⟩;exact ⟨⟨a,b,by omega,by omega⟩,c⟩
   ·rintro ⟨⟨a,b,c,d⟩,e⟩;exact ⟨⟨a,b⟩,e,by omega⟩
  ·have hu2:0≤(qa6 t i).up:=by omega
   simp only [hu,hu2,if_false,decide_true,Bool.true_and,Bool.and_eq_true,decide_eq_true_eq,Bool.or_eq_false_iff,decide_eq_false_iff_not]
   constructor
   ·rintro ⟨⟨a,b⟩,c,d,e,f⟩;exact ⟨⟨a,b,by omega,by omega⟩,⟨by omega,by rw [f];simp⟩,c⟩
   ·rintro ⟨⟨a,b,c,d⟩,⟨e,f⟩,g⟩
    refine ⟨⟨a,b⟩,g,by omega,by omega,?_⟩
    have:=Classical.byContradiction f
    omega
section
variable {t:Tr}
theorem qot {α:Type} {p q:α→Bool} (hpq:∀ x,p x=true→q x=true):∀ {l:List α} {a:α},a∈l→q a=true→p a=false→l.countP p < l.countP q
 | [],a,h,_,_=>by cases h
 | b::l,a,h,hq,hp=>by
  rw [List.countP_cons,List.countP_cons]
  have hle:=List.countP_mono_left (l:=l) fun x _ h=>hpq x h
  rcases List.mem_cons.1 h with rfl | h
  ·rw [hq,hp,if_pos rfl,if_neg (by simp)];omega
  ·have ih:=qot hpq h hq hp
   cases hb:p b with
   | true=>rw [hpq b hb];omega
   | false=>
    rw [if_neg (by simp)]
    split <;> omega
theorem qoj:∀ (f:Nat) (i:Int),qcs t f i=true→qcs t (f+1) i=true
 | 0,i,h=>by simp [qcs] at h
 | f+1,i,h=>by
  rw [qcs] at h ⊢
  by_cases hu:(qa6 t i).up = -1
  ·simp [hu]
  ·simp only [hu,if_false] at h ⊢
   exact qoj f _ h
theorem zcm {f:Nat} {i:Int} (hh:qcs t f i=true):∀ (k:Nat),qcs t (f+k) i=true
 | 0=>hh
 | k+1=>qoj _ _ (zcm hh k)
theorem ups_at (hu:qna t) {i:Int} (h0:0≤i) (h1:i < (t.length:Int)):(qa6 t i).up = -1∨(0≤(qa6 t i).up∧(qa6 t i).up < (t.length:Int)):=hu _ (qcj h0 h1)
def cntH (t:Tr) (f:Nat):Nat:=(List.range t.length).countP fun i:Nat=>qcs t f (i:Int)
theorem qtx (hu:qna t):∀ f,(∀ g i,i < t.length→f≤g→qcs t g ((i:Nat):Int)=true→qcs t f (i:Int)=true)∨f≤cntH t f
 | 0=>.inr (Nat.zero_le _)
 | f+1=>by
  by_cases hs:∀ i,i < t.length→qcs t (f+1) ((i:Nat):Int)=true→qcs t f (i:Int)=true
  ·left
   have key:∀ k i,i < t.length→qcs t (f+k) ((i:Nat):Int)=true→qcs t f (i:Int)=true:=by
    intro k
    induction k with
    | zero=>intro i hi h;exact h
    | succ k ih=>
     intro i hi h
     apply hs i hi
     rw [show f+(k+1)=(f+k)+1 by omega,qcs] at h
     rw [qcs]
     by_cases hup:(qa6 t i).up = -1
     ·simp [hup]
     ·simp only [hup,if_false] at h ⊢
      obtain ⟨u,hu',e⟩ : ∃ u:Nat,u < t.length∧(qa6 t i).up=(u:Int):=by
       have:=ups_at hu (i:=(i:Int)) (by omega) (by omega)
       exact ⟨(qa6 t i).up.toNat,by omega,by omega⟩
      rw [e] at h ⊢
      exact ih u hu' h
   intro g i hi hg h
   obtain ⟨k,rfl⟩:=Nat.exists_eq_add_of_le hg
   exact qoj f _ (key (k+1) i hi (by rw [show f+(k+1)=f+1+k by omega];exact h))
  ·right
   obtain ⟨i,hs⟩:=Classical.not_forall.1 hs
   obtain ⟨hi,hs⟩:=Classical.not_imp.1 hs
   obtain ⟨h1,h2⟩:=Classical.not_imp.1 hs
   have hcf:f≤cntH t f:=by
    rcases qtx hu f with h | h
    ·exact absurd (h (f+1) i hi (by omega) h1) h2
    ·exact h
   have hlt:cntH t f < cntH t (f+1):=qot (fun x hx=>qoj f _ hx) (a:=i) (by simpa using hi) h1 (by simpa using h2)
   omega
theorem held_n0 (hu:qna t) {g i:Nat} (hi:i < t.length) (h:qcs t g (i:Int)=true):qcs t t.length (i:Int)=true:=by
 rcases qtx hu t.length with hs | hs
 ·by_cases hg:t.length≤g
  ·exact hs g i hi hg h
  ·have:=zcm h (t.length - g)
   rw [show g+(t.length - g)=t.length by omega] at this
   exact this
 ·have h2:(List.range t.length).countP (fun i=>qcs t t.length ((i:Nat):Int))=(List.range t.length).length:=by
   have:=List.countP_le_length (p:=fun i=>qcs t t.length ((i:Nat):Int)) (l:=List.range t.length)
   unfold cntH at hs
   simp only [List.length_range] at this ⊢
   omega
  rw [List.countP_eq_length] at h2
  exact h2 i (by simpa using hi)
theorem held_n (hu:qna t) {g i:Nat} (hi:i < t.length) (h:qcs t g (i:Int)=true):qcs t (t.length+1) (i:Int)=true:=qoj _ _ (held_n0 hu hi h)
def Hd (t:Tr) (x:Int):Prop:=x = -1∨(0≤x∧x < (t.length:Int)∧∃ f,qcs t f x=true)
theorem hd_up {x:Int} (h0:0≤x) (h1:x < (t.length:Int)) (h:Hd t (qa6 t x).up):Hd t x:=by
 rcases h with h | ⟨_,_,f,h⟩
 ·exact .inr ⟨h0,h1,1,by simp [qcs,h]⟩
 ·refine .inr ⟨h0,h1,f+1,?_⟩
  rw [qcs]
  split
  ·rfl
  ·exact h
theorem hd_not {P:List Int} (hP:∀ p,p∈P→(qa6 t p).up∈P) (hn:(-1:Int) ∉ P):∀ (f:Nat) (p:Int),p∈P→qcs t f p=false
 | 0,p,_=>rfl
 | f+1,p,h=>by
  have hup:=hP p h
  have hne:¬ (qa6 t p).up = -1:=fun e=>by rw [e] at hup;exact hn hup
  rw [qcs,if_neg hne]
  exact hd_not hP hn f _ hup
structure InI (t:Tr) (P:List Int) (i:Nat) (c:Int):Prop where
 rng:c = -1∨(0≤c∧c < (t.length:Int))
 st:(i:Int)∈P∨(i:Int)=c
 pr:∀ p,p∈P→0≤p∧p < (t.length:Int)
 up:∀ p,p∈P→(qa6 t p).up∈P∨(qa6 t p).up=c
 hd:Hd t c→∀ p,p∈P→Hd t p
structure OuI (t:Tr) (E:List Int) (i:Nat):Prop where
 hE:∀ x,x∈E→Hd t x
 m1:(-1:Int)∈E
 al:∀ j,j < i→((j:Nat):Int)∈E
def unsI (t:Tr) (P:List Int):Nat:=(List.range t.length).countP fun j=>!decide (((j:Nat):Int)∈P)
theorem in_zero {i:Nat} (hi:i < t.length):InI t [] i (i:Int):=⟨.inr ⟨by omega,by omega⟩,.inr rfl,fun p h=>(by cases h),fun p h=>(by cases h),fun _ p h=>(by cases h)⟩
theorem in_step (hu:qna t) {P P':List Int} {i:Nat} {c:Int} (h:InI t P i c) (hc:c ≠ -1) (hn:c ∉ P) (hP:∀ x,x∈P'↔x∈P∨x=c):InI t P' i (qa6 t c).up∧unsI t P' < unsI t P:=by
 obtain ⟨c0,c1⟩ : 0≤c∧c < (t.length:Int):=by rcases h.rng with h | h;exact absurd h hc;exact h
 refine ⟨⟨ups_at hu c0 c1,.inl ?_,?_,?_,?_⟩,?_⟩
 ·rw [hP];exact h.st
 ·intro p hp
  rcases (hP p).1 hp with hp | rfl
  ·exact h.pr p hp
  ·exact ⟨c0,c1⟩
 ·intro p hp
  rcases (hP p).1 hp with hp | rfl
  ·rw [hP];exact .inl (h.up p hp)
  ·exact .inr rfl
 ·intro hh p hp
  have hcc:=hd_up c0 c1 hh
  rcases (hP p).1 hp with hp | rfl
  ·exact h.hd hcc p hp
  ·exact hcc
 ·refine qot (fun x hx=>?_) (a:=c.toNat) (by simp;omega) ?_ ?_
  ·simp only [Bool.not_eq_true',decide_eq_false_iff_not,hP,not_or] at hx ⊢
   exact hx.1
  ·rw [show ((c.toNat:Nat):Int)=c by omega];simpa using hn
  ·rw [show ((c.toNat:Nat):Int)=c by omega];simp [hP]
theorem in_end {E E' P:List Int} {i:Nat} {c:Int} (h:InI t P i c) (o:OuI t E i) (hc:c∈E) (hE:∀ x,x∈E'↔x∈E∨x∈P):OuI t E' (i+1):=by
 refine ⟨?_,(hE _).2 (.inl o.m1),?_⟩
 ·intro x hx
  rcases (hE x).1 hx with hx | hx
  ·exact o.hE x hx
  ·exact h.hd (o.hE c hc) x hx
 ·intro j hj
  rw [hE]
  by_cases e:j=i
  ·subst e
   rcases h.st with h | h
   ·exact .inr h
   ·exact .inl (h ▸ hc)
  ·exact .inl (o.al j (by omega))
theorem in_bad {E P:List Int} {i:Nat} {c:Int} (h:InI t P i c) (o:OuI t E i) (hc:c∈P):qcs t (t.length+1) (i:Int)=false:=by
 have hi:(i:Int)∈P:=by
  rcases h.st with h | h
  ·exact h
  ·rw [h];exact hc
 refine hd_not (P:=P) (fun p hp=>?_) (fun hm=>by have:=(h.pr _ hm).1;omega) _ _ hi
 rcases h.up p hp with h | h
 ·exact h
 ·rw [h];exact hc
theorem ou_end (hu:qna t) {E:List Int} (o:OuI t E t.length):((List.range t.length).all fun i=>qcs t (t.length+1) ((i:Nat):Int))=true:=by
 rw [List.all_eq_true]
 intro i hi
 have hi:i < t.length:=by simpa using hi
 rcases o.hE _ (o.al i hi) with h | ⟨_,_,f,h⟩
 ·omega
 ·exact held_n hu hi h
theorem ou_bad {i:Nat} (hi:i < t.length) (h:qcs t (t.length+1) (i:Int)=false):((List.range t.length).all fun i=>qcs t (t.length+1) ((i:Nat):Int))=false:=
 List.all_eq_false.2 ⟨i,by simpa using hi,by simp [h]⟩
end
theorem c53 {T:List (Entry Tryz.prog)} (t:Tr) (i:Nat) (x:Nd) (ht:qmj t) (hi:i < t.length) (hx:x=qa6 t i):CallAt (ctx T) 53 [qam t,.int .i64 ((i:Nat):Int),qaj x] ⟨0,[]⟩ (.bool (qml t i)) ⟨0,[]⟩:=by
 subst hx
 exact zc2 t ht i hi
theorem inj_53 (x y:Tr × Nat × Nd) (h:(fun z:Tr × Nat × Nd=>([qam z.1,.int .i64 ((z.2.1:Nat):Int),qaj z.2.2]:List AV)) x=(fun z:Tr × Nat × Nd=>([qam z.1,.int .i64 ((z.2.1:Nat):Int),qaj z.2.2]:List AV)) y):x=y:=by
 obtain ⟨x0,x1,x2⟩:=x
 obtain ⟨y0,y1,y2⟩:=y
 simp only [List.cons.injEq,and_true] at h
 obtain ⟨h0,h1,h2⟩:=h
 have g0:x0=y0:=qde h0
 have g1:x1=y1:=(by have:=(AV.int.inj h1).2;omega)
 have g2:x2=y2:=qcd h2
 subst g0 g1 g2
 rfl
noncomputable def e53:Entry Tryz.prog:=mkE 53 [[7],[],[0,0,0,2,0,0,1]] (fun z:Tr × Nat × Nd=>[qam z.1,.int .i64 ((z.2.1:Nat):Int),qaj z.2.2]) (fun z=>(qmj z.1)∧(z.2.1 < z.1.length)∧(z.2.2=qa6 z.1 z.2.1)) (fun z=>.bool (qml z.1 z.2.1)) fun z h=>c53 (T:=[])  z.1 z.2.1 z.2.2 h.1 h.2.1 h.2.2
theorem k53 {T:List (Entry Tryz.prog)} (hT:qag 53 T=some e53.g) (t:Tr) (i:Nat) (x:Nd) (ht:qmj t) (hi:i < t.length) (hx:x=qa6 t i) (H:Heap):qb9 (ctx T) (.fn 53) [qam t,.int .i64 ((i:Nat):Int),qaj x] H=some (.bool (qml t i),H):=
 qae hT inj_53 (t,i,x) ⟨ht,hi,hx⟩ rfl (by simp [qar])
theorem qpl {C:Ctx} {n:Nat} {r:Option Nat} {s s1:St} {Q:Out→St→Prop} {call:qbv} {id:Nat} {ops:Array Oper} {o:Oper} {pre:List Oper} {c:Call} {fo:Operand} {g:FuncId} {args:List AV} {R:AV→Heap→Prop}
  (hC:CallOK C call) (hpre:ops.toList.dropLast=pre) (hlast:ops.toList.getLast? = some o) (ho:o.op=.call c) (hcl:c.callee=.value fo) (hev:qdm C call ops pre { s with ts:=[] }=some s1)
  (hg:qbz ops s1 o=some true) (ha:qel s1 c.args.toList=some args) (hfo:qbq s1 fo=some (.func (.func g) [] [])) (hcall:qs9 C g args s1.H R)
  (hQ:∀ v H',R v H'→∃ s',St.put { s1 with H:=H' } o.dst v=some s'∧Q .normal s'):WpSr C n r (.region id ops false) s Q:=by
 refine zae hC ?_ ho hcl hev hg ha hfo hcall hQ
 rw [← hpre]
 have hne:ops.toList≠[]:=fun e=>by rw [e] at hlast;cases hlast
 rw [List.getLast?_eq_some_getLast hne,sj] at hlast
 rw [← hlast]
 exact (List.dropLast_concat_getLast hne).symm
theorem look_C {H:Heap} {b:Nat} {L:List Int} (hb:H.get b=some (mC L)) (c:Int):qhp Tryz.prog H 71 (.map b) (.int .i64 c) false=some (.int .i64 (if c∈L then 1 else 0)):=by
 have hz:qbt Tryz.prog mapI1.te=some (.int .i64 0):=zeT3
 have h:=mapI1.look (M:=qsc L) hz hb c
 rw [qxw] at h
 simp only [qbw] at h
 rw [h]
 by_cases hm:c∈L <;> simp [hm,qp2]
theorem zd4 {t:Tr} {L:List Int} {H:Heap} (h1:H.get 1=some (mC L)) (h0:H.get 0=some (.cells [qa5 t])) :
  FitH 0 [(1,1),(0,0)] [] H ⟨2,[[(1,mC L),(0,.cells [qa5 t])]]⟩ where
 nd1:=by simp
 nd2:=by simp
 nd3:=by simp [Heap.ents]
 lt:=by simp
 idn:=by simp
 num:=by simp
 src:=by
  intro e he
  have hN:=qd9 t
  simp [Heap.ents] at he
  rcases he with rfl | rfl
  ·exact ⟨1,mC L,by simp,h1,qu4 L⟩
  ·exact ⟨0,.cells [qa5 t],by simp,h0,qak (by simp [qac])⟩
 frz:=fun x h=>by cases h
theorem fit_e1 {t:Tr} {P L:List Int} {H:Heap} (h2:H.get 2=some (mC P)) (h1:H.get 1=some (mC L)) (h0:H.get 0=some (.cells [qa5 t])) :
  FitH 0 [(2,2),(1,1),(0,0)] [] H ⟨3,[[(2,mC P),(1,mC L),(0,.cells [qa5 t])]]⟩ where
 nd1:=by simp
 nd2:=by simp
 nd3:=by simp [Heap.ents]
 lt:=by simp
 idn:=by simp
 num:=by simp
 src:=by
  intro e he
  have hN:=qd9 t
  simp [Heap.ents] at he
  rcases he with rfl | rfl | rfl
  ·exact ⟨2,mC P,by simp,h2,qu4 P⟩
  ·exact ⟨1,mC L,by simp,h1,qu4 L⟩
  ·exact ⟨0,.cells [qa5 t],by simp,h0,qak (by simp [qac])⟩
 frz:=fun x h=>by cases h
theorem right_at {T:List (Entry Tryz.prog)} (hL:qag 53 T=some e53.g) (t:Tr) (ht:qmj t):CallAt (ctx T) 20 [qam t] ⟨0,[]⟩ (.bool (qbp t)) ⟨0,[]⟩:=by
 obtain ⟨R,hR⟩ : ∃ R,R=qbp t:=⟨_,rfl⟩
 rw [← hR]
 by_cases hne:t=[]
 ·have hRf:R=false:=by rw [hR,hne];rfl
  have lenT:∀ H,qe3 Tryz.prog H 22 (qa5 t)=some 0:=fun H=>by rw [hne];simp [qe3]
  clear hR hne
  refine qa3 (fn:=Tryz.f20) (s0:=⟨[0,1,2,3,4,5,6,7,29,30,31,60,61],[qam t,.undef,.undef,.undef,.undef,.undef,.undef,.undef,.undef,.undef,.undef,.undef,.undef],[],89,⟨0,[[]]⟩⟩) Tryz.func20 rfl rfl rfl ?_
  (repeat' (first
   | with_reducible refine qah ?_
   | (with_reducible refine qa0 qa1 ?_;apply qbn;simp [zS, *,qam,lenT];exact rfl)
   | (with_reducible refine qas ?_;simp only [qaa,qa2])
   | (refine qai rfl ?_)
   | (with_reducible refine qa8 ?_;simp [qab,Tryz.f20,oneOr,qaa,qa2])))
  all_goals first | exact qa4 rfl (by rw [hRf]) | (exfalso;omega)
 ·have hpos:0 < t.length:=List.length_pos_iff.2 hne
  have hz:¬ (t.length:Int)=0:=by omega
  have hix:=atX (t:=t) (i:=0) (by omega) (by omega)
  have lenT:∀ H,qe3 Tryz.prog H 22 (qa5 t)=some t.length:=fun H=>by simp [qe3]
  have hk0:¬ (qa6 t 0).kind=0→R=false:=fun h=>by rw [hR];simp [qbp,h]
  have hu0:¬ (qa6 t 0).up = -1→R=false:=fun h=>by rw [hR];simp [qbp,h]
  have hno:∀ j,j < t.length→qi3 t j=false→R=false:=fun j hj hb=>by rw [hR];exact qdo hj hb
  have hlk:(qa6 t 0).up = -1→∀ j,qi3 t j=(kindB t j && qml t j):=fun h j=>(link_ok h j).symm
  have h2:(qa6 t 0).kind=0→(qa6 t 0).up = -1→R=((List.range t.length).all (qi3 t) && (List.range t.length).all fun i=>qcs t (t.length+1) (i:Int)):=fun h h'=>by rw [hR];simp [qbp,h,h',hne]
  have hups:(qa6 t 0).up = -1→(∀ j,j < t.length→qi3 t j=true)→qna t:=ups_of
  clear hR
  generalize qa6 t 0=x at *
  refine qa3 (fn:=Tryz.f20) (s0:=⟨[0,1,2,3,4,5,6,7,29,30,31,60,61],[qam t,.undef,.undef,.undef,.undef,.undef,.undef,.undef,.undef,.undef,.undef,.undef,.undef],[],89,⟨0,[[]]⟩⟩) Tryz.func20 rfl rfl rfl ?_
  (repeat' (first
   | with_reducible refine qah ?_
   | with_reducible refine qa9 ?_
   | (with_reducible refine qa0 qa1 ?_;apply qbn;simp [zS, *,qam,lenT,qao];exact rfl)
   | (with_reducible refine qas ?_;simp only [qaa,qa2])
   | (with_reducible refine qaz (fun hc=>?_) (fun hc=>?_) <;> ((have hd:=hc);(try simp at hd);(try subst hd);apply qbn;simp [zS, *,qam,lenT,qao];exact rfl))
   | (refine qai rfl ?_)
   | (refine qau rfl (fun hc=>?_) (fun hc=>?_) <;> ((have hd:=hc);(try simp at hd);(try subst hd)))
   | (with_reducible refine qa7 ?_;simp only [qaa,qa2])
   | (with_reducible refine qa8 ?_;simp [qab,Tryz.f20,oneOr,qaa,qa2])))
  all_goals first | exact qa4 rfl (by first | (rw [hk0 (by assumption)];done) | (rw [hu0 (by assumption)];done) | simp_all) | (skip) | (exfalso;omega)
  have hlk:=hlk (by assumption)
  have h2:=h2 (by assumption) (by assumption)
  have hups:=hups (by assumption)
  clear hk0 hu0 hix
  refine qax (fun j:Nat=>(⟨[0,1,2,3,4,5,6,7,29,30,31,60,61],[.undef,.ptr 0 0,.bool false,.undef,.undef,.undef,.undef,.undef,qa5 t,.int .i64 (t.length:Nat),.int .i64 (j:Int),.undef,.undef],[],89,⟨1,[[(0,.cells [qa5 t])]]⟩⟩ : St))
   (fun j=>j≤t.length∧∀ i,i < j→qi3 t i=true) (fun j=>t.length - j) [(0,0)] [] 0 ⟨Nat.zero_le _,fun i hi=>absurd hi (Nat.not_lt_zero i)⟩
   ⟨rfl,rfl,rfl,by simp [qb6,qay,qb2,qaf,qac],qlp (t:=t) (by simp [Heap.get,getFs,getF])⟩ ?_
  rintro j ⟨hj,hok⟩ B hB
  by_cases h:j < t.length
  ·have hc:(j:Int) < (t.length:Int):=by omega
   have hik:=atX (t:=t) (i:=(j:Int)) (by omega) (by omega)
   have hac:=qba (show j≤1000000000 by have:=ht.1;omega)
   have kl:=fun H=>k53 hL t j (qa6 t j) ht h rfl H
   simp only [qam] at kl
   have hno:=hno j h
   have hlk:=hlk j
   unfold kindB at hlk
   obtain ⟨b2,hb2⟩ : ∃ b,b=qi3 t j:=⟨_,rfl⟩
   rw [← hb2] at hno hlk
   generalize qml t j=b1 at *
   generalize qa6 t j=x at *
   obtain ⟨jz,hjz0⟩ : ∃ z:Int,z=(j:Int):=⟨_,rfl⟩
   have hj0:decide (j=0) = !decide (0 < jz):=by
    rw [Bool.eq_iff_iff]
    simp only [decide_eq_true_eq,Bool.not_eq_true',decide_eq_false_iff_not]
    omega
   rw [hj0] at hlk
   rw [← hjz0] at hc hik hac ⊢
   simp only [← hjz0] at kl
   have hnext:b2=true→∀ i,i < j+1→qi3 t i=true:=fun hq i hi=>by
    by_cases he:i=j
    ·rw [he,← hb2];exact hq
    ·exact hok i (by omega)
   clear hok hj0 h2 hjz0 hb2
   (repeat' (first
    | with_reducible refine qah ?_
    | with_reducible refine qa9 ?_
    | (with_reducible refine qa0 qa1 ?_;apply qbn;simp [zS, *,qam,qao,kl,hac];exact rfl)
    | (with_reducible refine qas ?_;simp only [qaa,qa2])
    | (with_reducible refine qaz (fun hc=>?_) (fun hc=>?_) <;> ((have hd:=hc);(try simp at hd);(try subst hd);apply qbn;simp [zS, *,qam,qao,kl,hac];exact rfl))
    | (with_reducible refine qj3 (fun hc=>?_) (fun hc=>?_) <;> ((have hd:=hc);(try simp at hd);(try subst hd);apply qbn;simp [zS, *,qam,qao,kl,hac];exact rfl))
    | (refine qai rfl ?_)
    | (refine qau rfl (fun hc=>?_) (fun hc=>?_) <;> ((have hd:=hc);(try simp at hd);(try subst hd)))
    | (with_reducible refine qa7 ?_;simp only [qaa,qa2])
    | (with_reducible refine qa8 ?_;simp [qab,Tryz.f20,oneOr,qaa,qa2])))
   all_goals first | exact qa4 rfl (by rw [hno (by rw [hlk];first | (simp [*];done) | (simp [*];intros;omega) | (simp_all;done) | (simp_all;omega))]) | (exact hB _ (j+1) (by omega) ⟨by omega,hnext (by rw [hlk];first | (simp [*];done) | (simp [*];omega) | (simp_all;done) | (simp_all;omega))⟩ ⟨[(0,0)],[],rfl,rfl,rfl,by simp [qb6,qay,qb2,qaf,qac],qlp (t:=t) (by simp [Heap.get,getFs,getF])⟩) | (exfalso;omega)
  ·have hc:¬ (j:Int) < (t.length:Int):=by omega
   have hall:∀ i,i < t.length→qi3 t i=true:=fun i hi=>hok i (by omega)
   have hR2:R=(List.range t.length).all fun i=>qcs t (t.length+1) (i:Int):=by
    rw [h2]
    have:(List.range t.length).all (qi3 t)=true:=List.all_eq_true.2 fun i hi=>hall i (by simpa using hi)
    rw [this];rfl
   clear h2 hno hlk
   have hup:=mapI1.update (M:=qsc []) (b:=1) (H:=⟨2,[[(1,mC []),(0,.cells [qa5 t])]]⟩) rfl (-1) ()
   have hs1:qsr (-1:Int) () (qsc [])=qsc [-1]:=rfl
   rw [hs1] at hup
   simp only [qbw,qp2] at hup
   repeat apply wq
   refine qa0 qa1 ?_
   simp [zS,hc,h]
   repeat apply wq
   refine qal rfl ?_
   refine qat ?_
   simp
   have hm0:(Blk.map []:Blk)=mC []:=rfl
   repeat apply wq
   refine qa0 qa1 ?_
   simp [zS,hm0,hup,Heap.new,pushF]
   repeat apply wq
   refine qa0 qa1 ?_
   simp [zS,lenT]
   have hups:=hups hall
   try refine qah ?_
   refine qa9 (qax (fun y:Nat × List Int=>(⟨[0,1,2,3,4,5,6,7,29,30,31,60,61],[.undef,.ptr 0 0,.bool false,.undef,.undef,.map 1,.undef,.undef,.undef,.undef,.undef,.int .i64 (t.length:Nat),.int .i64 (y.1:Int)],[],89,⟨2,[[(1,mC y.2),(0,.cells [qa5 t])]]⟩⟩ : St))
    (fun y=>y.1≤t.length∧OuI t y.2 y.1) (fun y=>t.length - y.1) [(1,1),(0,0)] [] (0,[-1]) ⟨Nat.zero_le _,⟨fun x hx=>.inl (by simpa using hx),by simp,fun j hj=>absurd hj (Nat.not_lt_zero j)⟩⟩
    ⟨rfl,rfl,rfl,by simp [qb6,qay,qb2,qaf,qac],zd4 rfl rfl⟩ ?_)
   rintro ⟨i,E⟩ ⟨hi,ho⟩ B2 hB2
   simp only at hi ho ⊢
   by_cases hc2:i < t.length
   ·have hcc:(i:Int) < (t.length:Int):=by omega
    have hac:=qba (show i≤1000000000 by have:=ht.1;omega)
    repeat apply wq
    refine qa0 qa1 ?_
    simp [zS,hcc,hc2]
    repeat apply wq
    refine qai rfl ?_
    refine qa7 ?_
    simp
    repeat apply wq
    refine qa9 ?_
    repeat apply wq
    refine qa0 qa1 ?_
    simp [zS]
    repeat apply wq
    refine qa0 qa1 ?_
    simp [zS,hm0,Heap.new,pushF]
    try refine qah ?_
    refine qa9 (qax (fun y:List Int × Int=>(⟨[0,1,2,3,4,5,6,7,29,30,31,60,61],[.undef,.ptr 0 0,.bool false,.undef,.undef,.map 1,.int .i64 y.2,.map 2,.undef,.undef,.undef,.int .i64 (t.length:Nat),.int .i64 (i:Int)],[],89,⟨3,[[(2,mC y.1),(1,mC E),(0,.cells [qa5 t])]]⟩⟩ : St))
     (fun y=>InI t y.1 i y.2) (fun y=>unsI t y.1) [(2,2),(1,1),(0,0)] [] ([],(i:Int)) (in_zero hc2)
     ⟨rfl,rfl,rfl,by simp [qb6,qay,qb2,qaf,qac],fit_e1 rfl rfl rfl⟩ ?_)
    rintro ⟨P,c⟩ hin B3 hB3
    simp only at hin ⊢
    have l1:=look_C (H:=⟨3,[[(2,mC P),(1,mC E),(0,.cells [qa5 t])]]⟩) (b:=1) (L:=E) rfl c
    have l2:=look_C (H:=⟨3,[[(2,mC P),(1,mC E),(0,.cells [qa5 t])]]⟩) (b:=2) (L:=P) rfl c
    have w0:wr .i64 (0:Int)=some 0:=qc6 (by omega) (by omega)
    have w1:wr .i64 (1:Int)=some 1:=qc6 (by omega) (by omega)
    have w2:wr .i64 (2:Int)=some 2:=qc6 (by omega) (by omega)
    by_cases m1:c∈E
    ·simp only [m1,if_true] at l1
     have hEnd:=fun E'=>in_end (E':=E') hin ho m1
     by_cases m2:c∈P
     ·simp only [m2,if_true] at l2
      repeat apply wq
      refine qa0 qa1 ?_
      simp [zS,l1,l2,w2]
      refine qal rfl ?_
      refine qat ?_
      simp
      repeat apply wq
      refine qa0 qa1 ?_
      simp [zS,l1]
      refine qal rfl ?_
      refine qa7 ?_
      simp
      try refine qah ?_
      apply qpl qa1
      case hpre=>exact rfl
      case hlast=>exact rfl
      case ho=>exact rfl
      case hcl=>exact rfl
      case hev=>exact rfl
      case hg=>exact rfl
      case ha=>exact rfl
      case hfo=>exact rfl
      case hcall=>exact zdq t E P
      rintro v H' ⟨rfl,L,rfl,hL⟩
      refine ⟨_,rfl,?_⟩
      simp
      refine qa0 qa1 ?_
      simp [zS,hac]
      exact hB2 _ (i+1,L) (by show t.length - (i+1) < t.length - i;omega) ⟨by show i+1≤t.length;omega,hEnd L hL⟩ ⟨[(1,1),(0,0)],[],rfl,rfl,rfl,by simp [qb6,qay,qb2,qaf,qac],zd4 rfl rfl⟩
     ·simp only [m2,if_false] at l2
      repeat apply wq
      refine qa0 qa1 ?_
      simp [zS,l1,l2,w1]
      refine qal rfl ?_
      refine qat ?_
      simp
      repeat apply wq
      refine qa0 qa1 ?_
      simp [zS,l1]
      refine qal rfl ?_
      refine qa7 ?_
      simp
      try refine qah ?_
      apply qpl qa1
      case hpre=>exact rfl
      case hlast=>exact rfl
      case ho=>exact rfl
      case hcl=>exact rfl
      case hev=>exact rfl
      case hg=>exact rfl
      case ha=>exact rfl
      case hfo=>exact rfl
      case hcall=>exact zdq t E P
      rintro v H' ⟨rfl,L,rfl,hL⟩
      refine ⟨_,rfl,?_⟩
      simp
      refine qa0 qa1 ?_
      simp [zS,hac]
      exact hB2 _ (i+1,L) (by show t.length - (i+1) < t.length - i;omega) ⟨by show i+1≤t.length;omega,hEnd L hL⟩ ⟨[(1,1),(0,0)],[],rfl,rfl,rfl,by simp [qb6,qay,qb2,qaf,qac],zd4 rfl rfl⟩
    ·simp only [m1,if_false] at l1
     by_cases m2:c∈P
     ·simp only [m2,if_true] at l2
      repeat apply wq
      refine qa0 qa1 ?_
      simp [zS,l1,l2,w1]
      refine qal rfl ?_
      refine qat ?_
      simp
      repeat apply wq
      refine qa0 qa1 ?_
      simp [zS,l1]
      refine qai rfl ?_
      have hRf:R=false:=by rw [hR2];exact ou_bad hc2 (in_bad hin ho m2)
      repeat apply wq
      refine qa0 qa1 ?_
      simp [zS]
      refine qa8 ?_
      simp [qab,Tryz.f20,oneOr,qaa,qa2]
      exact qa4 rfl (by rw [hRf])
     ·simp only [m2,if_false] at l2
      repeat apply wq
      refine qa0 qa1 ?_
      simp [zS,l1,l2,w0]
      refine qai rfl ?_
      refine qa7 ?_
      simp
      refine qa9 ?_
      have hcm:c ≠ -1:=fun e=>m1 (e ▸ ho.m1)
      obtain ⟨P',hP1,hP2⟩:=qrd (k:=c) P
      have hup2:=mapI1.update (M:=qsc P) (b:=2) (H:=⟨3,[[(2,mC P),(1,mC E),(0,.cells [qa5 t])]]⟩) rfl c ()
      rw [hP1] at hup2
      simp only [qbw,qp2] at hup2
      have hcr:0≤c∧c < (t.length:Int):=by rcases hin.rng with h | h;exact absurd h hcm;exact h
      have hixc:=atX (t:=t) (i:=c) hcr.1 hcr.2
      have g5:qcl (qa6 t c).cs 5=some (.int .i64 (qa6 t c).up):=rfl
      obtain ⟨n1,n2⟩:=in_step hups hin hcm m2 hP2
      generalize qa6 t c=z at *
      repeat apply wq
      refine qa0 qa1 ?_
      simp [zS,hup2]
      refine qa0 qa1 ?_
      simp [zS,hixc,g5]
      exact hB3 _ (P',z.up) n2 n1 ⟨[(2,2),(1,1),(0,0)],[],rfl,rfl,rfl,by simp [qb6,qay,qb2,qaf,qac],fit_e1 rfl rfl rfl⟩
   ·have hcc:¬ (i:Int) < (t.length:Int):=by omega
    have hE:i=t.length:=by omega
    subst hE
    have hRt:R=true:=by rw [hR2];exact ou_end hups ho
    repeat apply wq
    refine qa0 qa1 ?_
    simp [zS,hcc]
    repeat apply wq
    refine qal rfl ?_
    refine qat ?_
    simp
    repeat apply wq
    refine qa0 qa1 ?_
    simp [zS]
    refine qa8 ?_
    simp [qab,Tryz.f20,oneOr,qaa,qa2]
    exact qa4 rfl (by rw [hRt])
end Go.Proofs.YtgpjifeeneeiaaaGreatDoor
namespace Go.Proofs.YtgpjifeeneeiaaaGreatDoor
set_option linter.unusedSimpArgs false
set_option linter.unusedVariables false
open Go Go.RowKit
noncomputable def qs2 (H:Heap) (args largs:List AV):Bool:=match zdr H 100000 (qpz args largs []) [] with
 | some Φ=>qtf (Φ.map (·.1)) && zcu H Φ Φ && qu7 Φ args largs
 | none=>false
noncomputable def litsH (H:Heap) (args:List AV):List (List AV × AV)→Option AV
 | []=>none
 | x::r=>match qs2 H args x.1 with
  | true=>some x.2
  | false=>litsH H args r
theorem qtm {H:Heap} {args:List AV} {v:AV}:∀ {l:List (List AV × AV)},litsH H args l=some v→∃ x,x∈l∧qs2 H args x.1=true∧x.2=v
 | [],h=>by cases h
 | x::r,h=>by
  unfold litsH at h
  split at h
  ·rename_i hb
   simp only [sj] at h
   exact ⟨x,by simp,hb,h⟩
  ·obtain ⟨y,h1,h2,h3⟩:=qtm h
   exact ⟨y,by simp [h1],h2,h3⟩
noncomputable def qzl (f:FuncId) (l:List (List AV × AV)) (h:∀ x,x∈l→qf3 x.2=true∧CallAt ⟨Tryz.prog,fun _=>[],fun _=>none⟩ f x.1 ⟨0,[]⟩ x.2 ⟨0,[]⟩):Entry Tryz.prog:=⟨f,fun args H=>match litsH H args l with
 | some v=>some (v,H)
 | none=>none,fun args H v H' hr=>by
  split at hr
  ·rename_i w hw
   simp only [sj,Prod.mk.injEq] at hr
   obtain ⟨rfl,rfl⟩:=hr
   obtain ⟨x,hx,hb,rfl⟩:=qtm hw
   obtain ⟨h1,h2⟩:=h x hx
   unfold qs2 at hb
   split at hb
   ·rename_i Φ hc
    simp only [Bool.and_eq_true] at hb
    exact h2.borrow h1 (fun _=>FitH.froze (qo5 hb.1.1) (qrj hb.1.2)) (ql3 hb.2)
   ·cases hb
  ·cases hr⟩
end Go.Proofs.YtgpjifeeneeiaaaGreatDoor