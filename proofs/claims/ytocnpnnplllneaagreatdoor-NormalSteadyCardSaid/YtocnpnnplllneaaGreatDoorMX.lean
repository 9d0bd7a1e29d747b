/- NormalKeeps's walk. No condition. -/
import Derived.Test.YtocnpnnplllneaaGreatDoorMU
import Derived.Test.YtocnpnnplllneaaGreatDoorRows
import Derived.Test.YtocnpnnplllneaaGreatDoorTie
import Derived.Test.YtocnpnnplllneaaGreatDoorCards
import Derived.HandedShaped
import Derived.Shelf.Vars
import Derived.ChangeMaps5
import Derived.LaidMore
import Derived.Stop.LaidErr
import Derived.SevenTiedAt
import Derived.Lib.LaidU8
import Derived.Shelf.Spec.SlicesInsertGrow
namespace Go.Proofs.YtocnpnnplllneaaGreatDoor
noncomputable section
set_option linter.unusedSimpArgs false
set_option linter.unusedVariables false
open Go Go.RowKit Go.ChangeShapes Go.WideShapes Go.ChangeAt
set_option maxRecDepth 100000
set_option maxHeartbeats 1000000
variable {T:List (Entry Tryz.prog)}
theorem copy_in{C:Ctx} {f:FuncId} {t:Tr} {s s':List Bool} {k up:Int} {zz q:Nat} {L L':List Int} {D N:List Nd} {P:List AV} {G:List (Nat × Blk)} (hP:allSingle P=true) (hG:G=[]\/∃l,G=[(9,.cells (qcd l))])
  (h:∀pre,qa9 pre=true->allSingle pre=true->pre.length=P.length->CallAt C f [.int .i64 k,.int .i64 up,.ptr 4 0,.ptr 2 0,.ptr 0 0,.ptr 5 0] ⟨8,[cR t s (.slc 6 0 zz (.rest 7))++([(6,.cells (pre++(lA 7 L::qa5 (D.map qa6))))]++lF 7 L)]⟩ (.tup [])
   ⟨10,[cH t s' q (pre++(.slc 9 0 (L.length+1) (.rest 1)::qa5 (D.map qa6))++qa5 (N.map qa6)) [(9,.cells (qcd L'))]]⟩) :
  CallAt C f [.int .i64 k,.int .i64 up,.ptr 4 0,.ptr 2 0,.ptr 0 0,.ptr 5 0] ⟨12,[cH t s zz (P++(lA 11 L::qa5 (D.map qa6))) G,lF 11 L]⟩ (.tup [])
   ⟨14,[cR t s' (.slc 12 0 q (.rest 7))++((12,.cells (P++(.slc 13 0 (L.length+1) (.rest 1)::qa5 ((D++N).map qa6))))::(13,.cells (qcd L'))::G),[]]⟩:=by
 have hL7:lF 7 L=[]/\lF 11 L=[]/\L=[]\/lF 7 L=[(7,.cells (qcd L))]/\lF 11 L=[(11,.cells (qcd L))]/\L≠[]:=by
  by_cases hL:L=[]
  ·subst hL;exact .inl ⟨rfl,rfl,rfl⟩
  ·exact .inr ⟨qhh hL,qhh hL,hL⟩
 have key:=CallAt.anyfront (C:=C) (f:=f) (args:=[.int .i64 k,.int .i64 up,.ptr 4 0,.ptr 2 0,.ptr 0 0,.ptr 5 0]) (v:=.tup []) (n:=12) (n':=14) (b:=8) (b':=12) (P:=P) (c0:=lA 11 L::qa5 (D.map qa6))
  (cs:=.slc 13 0 (L.length+1) (.rest 1)::qa5 ((D++N).map qa6)) (g:=cR t s (.slc 8 0 zz (.rest 7))++(lF 11 L++G)) (g':=cR t s' (.slc 12 0 q (.rest 7))++((13,.cells (qcd L'))::G)) hP fun pre hp hs hl=>?_
 ·refine key.perm rfl rfl ?_ ?_
  ·simp only[Heap.ents,cH,je,js,jg];refine List.Perm.trans ?_ (List.perm_middle (l₁:=cR t s (.slc 8 0 zz (.rest 7))));rw[List.append_assoc];refine List.Perm.append_left _ ?_;exact List.Perm.cons _ yv
  ·simp only[Heap.ents,je,js,jg];exact List.perm_middle
 ·have hb:=qeg s;have hb':=qeg s';have hN:=qdc t;have hD:=(qbk D).pure;have hfh:FitH 0 [(8,6),(11,7),(0,0),(2,2),(3,3),(4,4),(5,5)] [] ⟨12,[(8,.cells (pre++(lA 11 L::qa5 (D.map qa6))))::(cR t s (.slc 8 0 zz (.rest 7))++(lF 11 L++G))]⟩ ⟨8,[cR t s (.slc 6 0 zz (.rest 7))++([(6,.cells (pre++(lA 7 L::qa5 (D.map qa6))))]++lF 7 L)]⟩:={
   nd1:=by simp
   nd2:=by simp
   nd3:=by rcases hL7 with⟨h1,h2,rfl⟩|⟨h1,h2,h3⟩<;>rw[h1]<;>simp[Heap.ents,cR]
   lt:=by simp
   idn:=by simp
   num:=by simp
   src:=by
    intro e he;simp only[Heap.ents,cR,je,js,jg,ja,jl,jL,or_false,List.cons_append,jq]at he;rcases he with rfl|rfl|rfl|rfl|rfl|rfl|he
    ·exact⟨2,.cells [.slc 8 0 zz (.rest 7)],by simp,by simp[zG,cR],by simp[qhp,qaz,qat,qb2]⟩
    ·exact⟨4,.cells [.slc 3 0 t.length (.ex t.length)],by simp,by simp[zG,cR],by simp[qhp,qaz,qat,qb2]⟩
    ·exact⟨3,.cells (bls s),by simp,by simp[zG,cR],qaf hb⟩
    ·exact⟨0,.cells [qa8 t],by simp,by simp[zG,cR],qaf (by simp[qa9])⟩
    ·exact⟨5,.cells [.func (.func 50) [] [.ptr 4 0,.ptr 2 0,.ptr 0 0,.ptr 5 0]],by simp,by simp[zG,cR],by simp[qhp,qaz,qat,qb2]⟩
    ·refine⟨8,.cells (pre++(lA 11 L::qa5 (D.map qa6))),by simp,by simp[zG],?_⟩;refine qdv (qaf hp) ⟨?_,qaf hD⟩;rcases hL7 with⟨h1,h2,rfl⟩|⟨h1,h2,h3⟩
     ·simp[lA,qdo,qcd,qat]
     ·rw[qnb h3,qnb h3];simp[qat,qb2]
    ·rcases hL7 with⟨h1,h2,rfl⟩|⟨h1,h2,h3⟩
     ·rw[h1]at he;cases he
     ·rw[h1]at he;simp at he;subst he;exact⟨11,.cells (qcd L),by simp,by rw[h2];simp[zG,cR],qaf (qbj L)⟩
   frz:=fun x h=>by cases h }
  have hG9:∀e,e∈G->e.1=9:=fun e he=>by
   rcases hG with rfl|⟨l,rfl⟩
   ·cases he
   ·simp at he;subst he;rfl
  have hGn:(G.map (·.1)).Nodup:=by rcases hG with rfl|⟨l,rfl⟩<;>simp
  have:=(h pre hp hs hl).framed (H':=⟨14,[(12,.cells (pre++(.slc 13 0 (L.length+1) (.rest 1)::qa5 ((D++N).map qa6))))::(cR t s' (.slc 12 0 q (.rest 7))++((13,.cells (qcd L'))::G))]⟩) (args:=[.int .i64 k,.int .i64 up,.ptr 4 0,.ptr 2 0,.ptr 0 0,.ptr 5 0]) hfh
   (by simp[qaz,qat,qb2,qab]) ?_ (by simp)
  ·simpa[qiu,qgr,qg9,qdr]using this
  ·refine⟨by simp,fun hn hlt=>?_,?_⟩
   ·rcases hG with rfl|⟨l,rfl⟩<;>simp[Heap.ents,cR]
   ·intro e he;simp only[Heap.ents,cR,je,js,jg,ja,jl,jL,or_false,List.cons_append,jq]at he;obtain⟨τ,hτ⟩ : ∃τ,τ=qg9 [(8,6),(11,7),(0,0),(2,2),(3,3),(4,4),(5,5)] 12 8:=⟨_,rfl⟩;have t9:τ 9=13:=(by rw[hτ];simp[qg9,qdr]);have t8:τ 8=12:=(by rw[hτ];simp[qg9,qdr]);have t0:τ 0=0/\τ 2=2/\τ 3=3/\τ 4=4/\τ 5=5:=(by rw[hτ];simp[qg9,qdr]);have eN:qa5 ((D++N).map qa6)=qa5 (D.map qa6)++qa5 (N.map qa6):=(by rw[j3,qbq]);have hb2:=qbt τ hb';have hp2:=qbt τ hp;have hD2:=qbt τ hD;have hN2:=qbt τ (qbk N).pure;have hI2:=qbt τ (qbj L');have hT2:=qid τ hN;rcases he with rfl|rfl|rfl|rfl|rfl|rfl|rfl|he
    ·refine .inl ⟨(8,.cells (pre++(.slc 9 0 (L.length+1) (.rest 1)::qa5 (D.map qa6))++qa5 (N.map qa6))),by simp[Heap.ents,cH],?_⟩;simp only[<- hτ,t8,qky,zas,qgr,qiu,t9,hp2,hD2,hN2,eN];simp
    ·refine .inl ⟨(2,.cells [.slc 8 0 q (.rest 7)]),by simp[Heap.ents,cH,cR],?_⟩;simp only[<- hτ,t0,t8,qky,qgr,qiu]
    ·refine .inl ⟨(4,.cells [.slc 3 0 t.length (.ex t.length)]),by simp[Heap.ents,cH,cR],?_⟩;simp only[<- hτ,t0,qky,qgr,qiu]
    ·refine .inl ⟨(3,.cells (bls s')),by simp[Heap.ents,cH,cR],?_⟩;simp only[<- hτ,t0,qky,hb2]
    ·refine .inl ⟨(0,.cells [qa8 t]),by simp[Heap.ents,cH,cR],?_⟩;simp only[<- hτ,t0,qky,qgr,hT2]
    ·refine .inl ⟨(5,.cells [.func (.func 50) [] [.ptr 4 0,.ptr 2 0,.ptr 0 0,.ptr 5 0]]),by simp[Heap.ents,cH,cR],?_⟩;simp only[<- hτ,t0,qky,qgr,qiu]
    ·refine .inl ⟨(9,.cells (qcd L')),by simp[Heap.ents,cH],?_⟩;simp only[<- hτ,t9,qky,hI2]
    ·refine .inr ⟨by simp[Heap.ents,he],?_⟩;rw[hG9 e he];simp
theorem copy_at(hC:qIn 51 T e51) (t:Tr) (ht:okT t):∀(F:Nat) (i:Nat) (up:Int) (z:Nat) (seen:List Bool) (o:CpO) (ho:cOk up z o)
  (i1:i < t.length) (hsl:seen.length=t.length) (hsi:seen.getD i true=false) (hz:z+qh8 seen<=100000) (hF:qh8 seen<=F),
  CA T 50 [.int .i64 (i:Int),.int .i64 up,.ptr 4 0,.ptr 2 0,.ptr 0 0,.ptr 5 0] ⟨8,[cR t seen (cV z o)++(cI o++cK o)]⟩ (.tup [])
   ⟨10,[cH t (qnq F t i up z seen).2 (z+(qnq F t i up z seen).1.length) (cU 9 o++qa5 ((qnq F t i up z seen).1.map qa6)) (cG 9 z o)]⟩:=by
 intro F;induction F with
 |zero=>intro i up z seen o ho i1 hsl hsi hz hF;have:=qio hsi;omega
 |succ F' ih=>
 intro i up z seen o ho i1 hsl hsi hz hF;have hix:=atX (t:=t) (i:=(i:Int)) (by omega) (by omega);obtain⟨x,hxn⟩ : ∃x,x=qa0 t i:=⟨_,rfl⟩;have hal:=(ht.ok.2 _ (qb5 (t:=t) (i:=(i:Int)) (by omega) (by omega))).2;have hkl:=(ht.ok.2 _ (qb5 (t:=t) (i:=(i:Int)) (by omega) (by omega))).1;rw[<- hxn]at hix hal hkl;have hvl:∀H,qer PG H 22 (cV z o)=some z:=fun H=>by
  cases o with
  |none=>simp[cV,qer,ho.2]
  |some _=>simp[cV,qer]
 refine qa1 (s0:=⟨[0,1,2,3,4,5,8,9,11,57,58,59],[.int .i64 (i:Int),.int .i64 up,.ptr 4 0,.ptr 2 0,.ptr 0 0,.ptr 5 0,uD,uD,uD,uD,uD,uD],[],84,⟨8,[]::[cR t seen (cV z o)++(cI o++cK o)]⟩⟩) Tryz.func50 rfl rfl rfl ?_;refine WpSr.perm ⟨8,[cR t seen (cV z o)++cI o,cK o]⟩ rfl (by simp[Heap.ents]) ?_;have hly:qho [.bool true] i (bls seen)=some (bls (seen.set i true)):=layB (by omega);have hxi:qav PG 45 (.slc 3 0 t.length (.ex t.length)) (.int .i64 (i:Int))=some (.ptr 3 i):=by simp[qav,qbz i1]
 have kA:=k51 hC (L:=x.attrs) (by omega);have c3:qho [qal x.attrs] 3 x.cs=some x.cs:=rfl;have c6:qho [.nilS] 6 x.cs=some [qbm x.kind,qbm x.space,.str x.name,qal x.attrs,.str x.data,qbm x.up,.nilS]:=rfl;have c5:qho [.int .i64 up] 5 [qbm x.kind,qbm x.space,.str x.name,qal x.attrs,.str x.data,qbm x.up,.nilS]=some [qbm x.kind,qbm x.space,.str x.name,qal x.attrs,.str x.data,qbm up,.nilS]:=rfl;have g3:qcy x.cs 3=some (qal x.attrs):=rfl;have cA:∀A,(qal A).cells=[qal A]:=fun _=>rfl;have rA:∀A,refs 6 (qal A)=[]:=fun _=>rfl;have sga:∀A,(qal A).single=true:=fun _=>rfl;have sgi:∀i,(qbm i).single=true:=fun _=>rfl;have sgv:(cV z o).single=true:=by cases o<;>rfl
 have happ:=app_cp (t:=t) (s:=seen.set i true) (nc:=[qbm x.kind,qbm x.space,.str x.name,qal x.attrs,.str x.data,qbm up,.nilS]) ho rfl rfl (by omega);simp only[cR,List.cons_append,jq]at happ ⊢;apply qR;simp[zS,hly,hxi,qc3];apply qR;simp[zS,hvl];apply qR;simp[zS,hix,qaq,qc3];apply qR;simp[zS,kA,g3,c3,c5,c6,cA,rA,sga,sgi,allSingle,qc3];apply qR;simp[zS,happ,sga,sgi,sgv,qc3];clear happ c3 c5 c6 kA g3;obtain⟨hd,hhd⟩ : ∃hd:List AV,hd=[qbm x.kind,qbm x.space,.str x.name,qal x.attrs,.str x.data,qbm up]:=⟨_,rfl⟩;have e0:[qbm x.kind,qbm x.space,.str x.name,qal x.attrs,.str x.data,qbm up,.nilS]=hd++[.nilS]:=by rw[hhd];rfl
 have hhp:qa9 hd=true:=by rw[hhd];simp[qa9,qab,qbm]
 have hhs:allSingle hd=true:=by rw[hhd];rfl
 have hhl:hd.length=6:=by rw[hhd];rfl
 rw[e0];refine qg2 ((⟨[0,1,2,3,4,5,8,9,11,57,58,59],[.int .i64 (i:Int),uD,.ptr 4 0,.ptr 2 0,.ptr 0 0,.ptr 5 0,.int .i64 (z:Int),uD,uD,uD,uD,uD],[],84,⟨12,[cH t (seen.set i true) (z+1) (cU 9 o++(hd++(lA 11 []::qa5 (([]:List Nd).map qa6)))) (cG 9 z o),lF 11 []]⟩⟩ : St)) ?_ fun hj=>?_
 rotate_left
 ·apply qR;simp[zS];cases o with
  |none=>
   have hup:¬ 0<=up:=(by have:=ho.1;omega);refine qag (by simp[qc0,St.get,qfo,hup]) ?_;apply qa4;simp only[qan];have e1:zj9 7 none++(hd++[AV.nilS])=hd++[.nilS]:=rfl;rw[e1];refine hj _ ?_;exact⟨[(10,8),(11,11),(9,9),(0,0),(2,2),(3,3),(4,4),(5,5)],[],rfl,rfl,rfl,by simp[qaz,qat,qb2,qab,qa9],qrq (up:=up) (z:=z) (o:=none) (a:=10) (b:=11) (c:=9) (L:=[]) (D:=[]) ho hhp (.inr ⟨rfl,rfl⟩) (by simp)
    (by simp[zG,cU,zj9,qa5]) (by simp[zG]) (by simp[zG]) (by simp[zG]) (by simp[zG]) (by simp[zG]) (by simp) (by simp)⟩
  |some y=>
   obtain⟨P,L,D⟩:=y;have ho':=ho;obtain⟨p1,p2,⟨u,rfl,p3,p4⟩,p5⟩:=ho;simp only at p1 p2 p3 p4 p5;obtain⟨W,hW⟩ : ∃W,W=qa5 (D.map qa6)++(hd++[.nilS]):=⟨_,rfl⟩;have eR:zj9 7 (some (P,L,D))++(hd++[.nilS])=P++lA 7 L::W:=(by rw[hW];simp[zj9]);simp only[eR,cK,cV];refine qaj (by simp[qc0,St.get]) ?_;have hxz:∀n,n=10->qav PG 22 (.slc n 0 (z+1) (.rest 7)) (.int .i64 (u:Int))=some (.ptr n (u * 7)):=fun n _=>(by simp[qav,qbz (show u < z+1 by omega)]);have gz:qcy (P++lA 7 L::W) (u * 7+6)=some (lA 7 L):=(by rw[<- p3,qf4 (by simp),jv (by omega)];simp);have hlk:qho [.slc 26 0 (L.length+1) (.rest 1)] (u * 7+6) (P++lA 7 L::W)=some (P++.slc 26 0 (L.length+1) (.rest 1)::W):=(by have:=qh3 (a:=P) (b:=[lA 7 L]) (b':=[.slc 26 0 (L.length+1) (.rest 1)]) (c:=W) rfl;rw[p3]at this;simpa using this);have happk:=app_l (m:=26) (t:=21) (b:=7) (L:=L) (v:=(z:Int)) (g1:=[(10,.cells (P++lA 7 L::W)),(9,.cells (hd++[.nilS])),(8,.cells (hd++[.nilS])),(2,.cells [.slc 10 0 (z+1) (.rest 7)]),(4,.cells [.slc 3 0 t.length (.ex t.length)]),(3,.cells (bls (seen.set i true))),(0,.cells [qa8 t]),(5,.cells [.func (.func 50) [] [.ptr 4 0,.ptr 2 0,.ptr 0 0,.ptr 5 0]])]) (g:=[]) (by omega) (by simp) (by simp);rw[jg]at happk;refine qcc mixed qbc (by decide +kernel) fun B_ hB_=>?_;have hD_:ahead B_ 1 11=false/\ahead B_ 1 14=true/\ahead B_ 4 11=true/\ahead B_ 4 14=true/\ahead B_ 8 11=true/\ahead B_ 8 14=true/\ahead B_ 10 11=true/\ahead B_ 10 14=true/\ahead B_ 11 1=false/\ahead B_ 11 4=false/\ahead B_ 11 8=false/\ahead B_ 14 1=false/\ahead B_ 14 4=false/\ahead B_ 14 8=false:=(by rw[hB_];decide +kernel);apply qim B_;simp[zS,qdx,qc9,qc4,qbn,qas,qb4,qb0,Heap.lay,qdk,qil,qik,qfm,qfl,qfi,qfk,qfz,qfp,qea,qeb,qft,qfs,qfq,qfr,qfw,qfx,qfv,qfu,hD_,hxz,gz,happk,hlk,qc3];exact rfl;refine⟨_,rfl,?_,?_⟩;simp[zS,qbn,qas,qcb,qcs,qe5,hD_,hxz,gz,happk,hlk,qc3];simp[qc8,Heap.lay,qdk,qan];refine hj _ ?_;exact⟨[(10,8),(11,11),(26,9),(0,0),(2,2),(3,3),(4,4),(5,5)],[],rfl,rfl,rfl,by simp[qaz,qat,qb2,qab,qa9],qrq (up:=(u:Int)) (z:=z) (o:=some (P,L,D)) (a:=10) (b:=11) (c:=26) (L:=[]) (D:=[]) ho' hhp (.inr ⟨rfl,rfl⟩) (by simp)
    (by simp[zG,cU,hW,qa5]) (by simp[zG]) (by simp[zG]) (by simp[zG]) (by simp[zG]) (by simp[zG]) (by simp) (by intro y hy;cases hy;simp[zG])⟩
 obtain⟨K,hK⟩ : ∃K,K=x.kids:=⟨_,rfl⟩;have gk:qcy x.cs 6=some (qbl K):=by rw[hK];rfl
 have hUn:=qio hsi;obtain⟨rec,hrec⟩ : ∃rec,rec=fun(k:Int) (z':Nat) (s':List Bool)=>qnq F' t k (z:Int) z' s':=⟨_,rfl⟩;obtain⟨R,hR⟩ : ∃R,R=qmc rec t.length K (z+1) (seen.set i true):=⟨_,rfl⟩;have hfin:qnq (F'+1) t i up z seen=({ x with up:=up,kids:=R.1 }::R.2.1,R.2.2):=by rw[hR,hrec,hK,hxn];rfl
 rw[hfin];clear hfin;simp only[cH,cR,List.cons_append,jq];apply qR;simp[zS,hix,gk,qpb];refine qa7 (qb1 (fun y:Nat × List Int × List Nd × List Bool=>(⟨[0,1,2,3,4,5,8,9,11,57,58,59],[uD,uD,.ptr 4 0,.ptr 2 0,.ptr 0 0,.ptr 5 0,.int .i64 (z:Int),uD,uD,qbl K,.int .i64 (K.length:Nat),.int .i64 (y.1:Int)],[],84,⟨12,[cH t y.2.2.2 (z+1+y.2.2.1.length) (cU 9 o++(hd++(lA 11 y.2.1::qa5 (y.2.2.1.map qa6)))) (cG 9 z o),lF 11 y.2.1]⟩⟩ : St))
  (fun y=>y.1<=K.length/\y.2.1.length<=y.1/\y.2.2.2.length=t.length/\y.2.2.1.length+qh8 y.2.2.2 < qh8 seen/\R=(y.2.1++(qmc rec t.length (K.drop y.1) (z+1+y.2.2.1.length) y.2.2.2).1,y.2.2.1++(qmc rec t.length (K.drop y.1) (z+1+y.2.2.1.length) y.2.2.2).2.1,(qmc rec t.length (K.drop y.1) (z+1+y.2.2.1.length) y.2.2.2).2.2))
  (fun y=>K.length - y.1) [(8,8),(11,11),(9,9),(0,0),(2,2),(3,3),(4,4),(5,5)] [] (0,[],[],seen.set i true) ⟨jh _,jc _,by simpa using hsl,by simp;omega,by simpa using hR⟩
  ⟨rfl,rfl,rfl,by simp[qaz,qat,qb2,qab,qa9],qrq ho hhp (L:=[]) (D:=[]) (.inl rfl) (by simp) (by simp[zG,qa5]) (by simp[zG]) (by simp[zG]) (by simp[zG]) (by simp[zG]) (by simp[zG]) (by simp) (by intro y hy;subst hy;simp[zG,cG])⟩ ?_)
 rintro⟨j,L,D,s⟩ ⟨hj,hLj,hsn,hDu,hx⟩ B hB;simp only at hj hLj hsn hDu hx ⊢;have gc9:∀y:List AV × List Int × List Nd,o=some y->getF 9 (cG 9 z o)=some (.cells (qcd (y.2.1++[(z:Int)]))):=fun y hy=>by subst hy;simp[getF,cG]
 have hrecS:∀k z' s',s'.length=t.length->s'.getD k.toNat true=false->(rec k z' s').2.length=t.length/\(rec k z' s').1.length+qh8 (rec k z' s').2<=qh8 s':=fun k z' s' h1 h2=>by rw[hrec];exact qqm F' t k z z' s' h1 h2
 have lenT:∀H,qer PG H 22 (qa8 t)=some t.length:=fun H=>by simp[qer]
 have hG:cG 9 z o=[]\/∃l,cG 9 z o=[(9,.cells (qcd l))]:=by
  cases o with
  |none=>exact .inl rfl
  |some y=>exact .inr ⟨_,rfl⟩
 have same:∀H:Heap,H=⟨12,[cH t s (z+1+D.length) (cU 9 o++(hd++(lA 11 L::qa5 (D.map qa6)))) (cG 9 z o),lF 11 L]⟩->FitH 8 [(8,8),(11,11),(9,9),(0,0),(2,2),(3,3),(4,4),(5,5)] [] H ⟨12,[cH t s (z+1+D.length) (cU 9 o++(hd++(lA 11 L::qa5 (D.map qa6)))) (cG 9 z o),lF 11 L]⟩:=fun H hH=>by
  subst hH;exact qrq ho hhp (.inl rfl) (by simp) (by simp[zG,cH,cR]) (by simp[zG,cH,cR]) (by simp[zG,cH,cR]) (by simp[zG,cH,cR]) (by simp[zG,cH,cR]) (by simp[zG,cH,cR])
   (fun hL=>by rw[qhh hL];have:getF 11 (cG 9 z o)=none:=by { cases o<;>simp[cG,getF] };simp[zG,cH,cR,this]) (fun y hy=>by simp[zG,cH,cR,gc9 y hy])
 simp only[cH,cR,List.cons_append,jq];by_cases h:j < K.length
 ·have hc:(j:Int) < (K.length:Int):=by omega
  have hik:=atI h;have hac:=qbd (show j<=1000000000 by rw[<- hK]at hkl;omega);rw[List.drop_eq_getElem_cons h]at hx;simp only[qmc]at hx;generalize K[j]=k at *;apply qR;simp[zS,hc];repeat apply wq
  refine qaj (by simp[qc0,St.get,h]) ?_;apply qa4;simp only[qan];repeat apply wq
  apply qa7;apply qR;simp[zS,hik];by_cases hA:0<=k/\k < (t.length:Int)/\s.getD k.toNat true=false
  ·obtain⟨k0,k1,k2⟩:=hA;rw[if_pos ⟨k0,k1,k2⟩]at hx;obtain⟨kn,rfl⟩ : ∃kn:Nat,k=(kn:Int):=⟨k.toNat,by omega⟩;simp only[jU]at k2 hx;have kl:kn < t.length:=(by omega);have hks:s.getD kn true=s[kn]'(by omega):=(by simp[List.getD,show kn < s.length by omega]);have hgb:=getB (s:=s) (i:=kn) (by omega);rw[<- hks,k2]at hgb;have hxk:=ixB (b:=3) (cap:=.ex t.length) kl;apply qR;simp[zS,k0,k1,lenT,hxk,hgb];refine qaj (by simp[qc0,St.get,qfo]) ?_;obtain⟨sz,hsz⟩ : ∃sz,sz=z+1+D.length:=⟨_,rfl⟩;rw[<- hsz]at hx ⊢;have hsU:=hrecS kn sz s hsn (by simpa using k2);obtain⟨ra,hra⟩ : ∃ra,ra=rec kn sz s:=⟨_,rfl⟩;have hUl:=cU_len (b:=9) ho;have hcall:=copy_in (C:=ctx T) (f:=50) (t:=t) (s:=s) (s':=ra.2) (k:=(kn:Int)) (up:=(z:Int)) (zz:=sz) (q:=sz+ra.1.length) (L:=L) (L':=L++[(sz:Int)]) (D:=D) (N:=ra.1) (P:=cU 9 o++hd) (G:=cG 9 z o)
    (by rw[qd1,zj8 ho,hhs];rfl) hG (fun pre hp hs hl=>by have:=ih kn (z:Int) sz s (some (pre,L,D)) ⟨hp,hs,⟨z,rfl,by rw[hl,jo,hUl,hhl],hsz⟩,by simp only;rw[<- hK]at hkl;omega⟩ kl hsn (by simpa using k2) (by omega) (by omega);rw[hra,hrec];simpa[cV,cI,cK,zj9,cU,cG]using this)
   simp only[cH,cR,List.cons_append,jq,List.append_assoc]at hcall;refine qai (qbo [⟨50,_,_,_,_,hcall⟩]) ?_;simp[zS,qcu];apply qR;simp[zS,hac];rw[<- hra]at hx hsU;have eS:z+1+(D++ra.1).length=sz+ra.1.length:=(by rw[jo];omega);refine hB _ (j+1,L++[(sz:Int)],D++ra.1,ra.2) (by simp only;omega) ⟨by simp only;omega,by simp;omega,by simpa using hsU.1,by simp;omega,?_⟩ ⟨[(12,8),(13,11),(9,9),(0,0),(2,2),(3,3),(4,4),(5,5)],[],rfl,rfl,rfl,by simp[qaz,qat,qb2,qab,qa9],?_⟩
   ·simp only;rw[eS,hx];simp
   ·simp only;rw[eS];exact qrq ho hhp (.inl (qnb (by simp)).symm) (by simp) (by simp[zG]) (by simp[zG]) (by simp[zG]) (by simp[zG]) (by simp[zG]) (by simp[zG]) (fun _=>by simp[zG]) (fun y hy=>by simp[zG,gc9 y hy])
  ·rw[if_neg hA]at hx;have hB':∀s',(∃σ Φ,Fit 8 σ Φ s' ((⟨[0,1,2,3,4,5,8,9,11,57,58,59],[uD,uD,.ptr 4 0,.ptr 2 0,.ptr 0 0,.ptr 5 0,.int .i64 (z:Int),uD,uD,qbl K,.int .i64 (K.length:Nat),.int .i64 ((j+1:Nat):Int)],[],84,⟨12,[cH t s (z+1+D.length) (cU 9 o++(hd++(lA 11 L::qa5 (D.map qa6)))) (cG 9 z o),lF 11 L]⟩⟩ : St)))->B s':=fun s' hs'=>hB s' (j+1,L,D,s) (by simp only;omega) ⟨by simp only;omega,by simp only;omega,hsn,hDu,hx⟩ hs';by_cases q0:0<=k
   ·by_cases q1:k < (t.length:Int)
    ·obtain⟨kn,rfl⟩ : ∃kn:Nat,k=(kn:Int):=⟨k.toNat,by omega⟩;simp only[jU]at hA;have kl:kn < t.length:=(by omega);have hks:s.getD kn true=s[kn]'(by omega):=(by simp[List.getD,show kn < s.length by omega]);have hgb:=getB (s:=s) (i:=kn) (by omega);have k2:s.getD kn true=true:=by
      cases hq:s.getD kn true with
      |true=>rfl
      |false=>exact absurd ⟨q0,q1,hq⟩ hA
     rw[<- hks,k2]at hgb;have hxk:=ixB (b:=3) (cap:=.ex t.length) kl;apply qR;simp[zS,q0,q1,lenT,hxk,hgb];refine qag (by simp[qc0,St.get,qfo]) ?_;apply qa4;simp only[qan,qah];apply qR;simp[zS,hac];exact hB' _ ⟨[(8,8),(11,11),(9,9),(0,0),(2,2),(3,3),(4,4),(5,5)],[],rfl,rfl,rfl,by simp[qaz,qat,qb2,qab,qa9],same _ rfl⟩
    ·apply qR;simp[zS,q0,q1,lenT];refine qag (by simp[qc0,St.get,qfo]) ?_;apply qa4;simp only[qan,qah];apply qR;simp[zS,hac];exact hB' _ ⟨[(8,8),(11,11),(9,9),(0,0),(2,2),(3,3),(4,4),(5,5)],[],rfl,rfl,rfl,by simp[qaz,qat,qb2,qab,qa9],same _ rfl⟩
   ·apply qR;simp[zS,q0,lenT];refine qag (by simp[qc0,St.get,qfo]) ?_;apply qa4;simp only[qan,qah];apply qR;simp[zS,hac];exact hB' _ ⟨[(8,8),(11,11),(9,9),(0,0),(2,2),(3,3),(4,4),(5,5)],[],rfl,rfl,rfl,by simp[qaz,qat,qb2,qab,qa9],same _ rfl⟩
 ·have hc:¬ (j:Int) < (K.length:Int):=by omega
  rw[jt (by omega)]at hx;simp only[qmc,jg]at hx;apply qR;simp[zS,hc];repeat apply wq
  refine qag (by simp[qc0,St.get,h]) ?_;apply qau;simp only[qan,qah];rw[if_pos trivial];refine⟨.inl trivial,[],rfl,?_⟩;simp only[hx,jx];have hend:=cp_fitE (t:=t) (s:=s) (zz:=z+1+D.length) (z:=z) (up:=up) (o:=o) ho (L:=L) (x:=x) (pu:=up) (D:=D) (H:=⟨12,[cH t s (z+1+D.length) (cU 9 o++(hd++(lA 11 L::qa5 (D.map qa6)))) (cG 9 z o),lF 11 L]⟩)
   (by rw[hhd];simp[zG,cH,cR]) (by simp[zG,cH,cR]) (by simp[zG,cH,cR]) (by simp[zG,cH,cR]) (by simp[zG,cH,cR]) (by simp[zG,cH,cR])
   (fun hL=>by rw[qhh hL];have:getF 11 (cG 9 z o)=none:=by { cases o<;>simp[cG,getF] };simp[zG,cH,cR,this]) (fun y hy=>by simp[zG,cH,cR,gc9 y hy])
  rw[show z+(D.length+1)=z+1+D.length by omega];exact hend
theorem ziw(hC:qIn 51 T e51) (t:Tr) (ht:okT t) (i:Nat) (hi:i < t.length) :
  CA T 35 [qak t,.int .i64 (i:Int)] zH (qak (qnq t.length t i (-1) 0 (List.replicate t.length false)).1) zH:=by
 have htl:=ht.ok.1;have hsi:(List.replicate t.length false).getD i true=false:=by simp[List.getD,hi]
 have hput:=copy_at hC t ht t.length i (-1) 0 (List.replicate t.length false) none ⟨rfl,rfl⟩ hi (by simp) hsi (by rw[qhv];omega) (by rw[qhv];omega);obtain⟨a,ha⟩ : ∃a,a=qnq t.length t i (-1) 0 (List.replicate t.length false):=⟨_,rfl⟩;rw[<- ha]at hput ⊢;have lenT:∀H,qer PG H 22 (qa8 t)=some t.length:=fun H=>by simp[qer]
 have hms:=zgn (n:=t.length) (by omega);have hmk:∀H,qgg PG H 45 (.int .i64 (t.length:Int)) (.int .i64 (t.length:Int))=some (.slc H.n 0 t.length (.ex t.length),H.new (.cells (bls (List.replicate t.length false)))):=fun H=>by simp[qgg,hms]
 have hb:=qeg (List.replicate t.length false);have hb':=qeg a.2;have hN:=qdc t;have hfh:FitH 0 [(0,0),(2,2),(3,3),(4,4),(5,5)] [] ⟨6,[[(5,.cells [.func (.func 50) [] [.ptr 4 0,.ptr 2 0,.ptr 0 0,.ptr 5 0]]),(4,.cells [.slc 3 0 t.length (.ex t.length)]),(3,.cells (bls (List.replicate t.length false))),(2,.cells [.nilS]),(1,.cells [.nilS]),(0,.cells [qa8 t])]]⟩
   ⟨8,[cR t (List.replicate t.length false) .nilS]⟩:={
  nd1:=by simp
  nd2:=by simp
  nd3:=by simp[Heap.ents,cR]
  lt:=by simp
  idn:=by simp
  num:=by simp
  src:=by
   intro e he;simp only[Heap.ents,cR,je,js,jg,ja,jL,or_false]at he;rcases he with rfl|rfl|rfl|rfl|rfl
   ·exact⟨2,.cells [.nilS],by simp,by simp[zG],by simp[qhp,qaz,qat]⟩
   ·exact⟨4,.cells [.slc 3 0 t.length (.ex t.length)],by simp,by simp[zG],by simp[qhp,qaz,qat,qb2]⟩
   ·exact⟨3,.cells (bls (List.replicate t.length false)),by simp,by simp[zG],qaf hb⟩
   ·exact⟨0,.cells [qa8 t],by simp,by simp[zG],qaf (by simp[qa9])⟩
   ·exact⟨5,.cells [.func (.func 50) [] [.ptr 4 0,.ptr 2 0,.ptr 0 0,.ptr 5 0]],by simp,by simp[zG],by simp[qhp,qaz,qat,qb2]⟩
  frz:=fun x h=>by cases h }
 simp only[cV,cI,cK,jg,cH,cU,cG,jq,jO]at hput;obtain⟨F,hF⟩ : ∃F,F=qa5 (a.1.map qa6):=⟨_,rfl⟩;have hFp:qa9 F=true:=by rw[hF];exact(qbk a.1).pure
 rw[<- hF]at hput;have hcall:=hput.framed (H':=⟨8,[[(6,.cells F),(5,.cells [.func (.func 50) [] [.ptr 4 0,.ptr 2 0,.ptr 0 0,.ptr 5 0]]),(4,.cells [.slc 3 0 t.length (.ex t.length)]),(3,.cells (bls a.2)),(2,.cells [.slc 6 0 a.1.length (.rest 7)]),(1,.cells [.nilS]),(0,.cells [qa8 t])]]⟩)
  (args:=[.int .i64 (i:Int),.int .i64 (-1),.ptr 4 0,.ptr 2 0,.ptr 0 0,.ptr 5 0]) hfh (by simp[qaz,qat,qb2,qab]) (by
  refine⟨by simp,fun _ _=>by simp[Heap.ents],?_⟩;intro e he;obtain⟨τ,hτ⟩ : ∃τ,τ=qg9 [(0,0),(2,2),(3,3),(4,4),(5,5)] 6 8:=⟨_,rfl⟩;have t8:τ 8=6/\τ 0=0/\τ 2=2/\τ 3=3/\τ 4=4/\τ 5=5:=by rw[hτ];simp[qg9,qdr]
  have hb2:=qbt τ hb';have hF2:=qbt τ hFp;have hT2:=qid τ hN;simp only[Heap.ents,je,js,jg,ja,jL,or_false]at he;rcases he with rfl|rfl|rfl|rfl|rfl|rfl|rfl
  ·exact .inl ⟨(8,.cells F),by simp[Heap.ents,cR],by simp only[<- hτ,t8,qky,hF2]⟩
  ·exact .inl ⟨(5,.cells [.func (.func 50) [] [.ptr 4 0,.ptr 2 0,.ptr 0 0,.ptr 5 0]]),by simp[Heap.ents,cR],by simp only[<- hτ,t8,qky,qgr,qiu]⟩
  ·exact .inl ⟨(4,.cells [.slc 3 0 t.length (.ex t.length)]),by simp[Heap.ents,cR],by simp only[<- hτ,t8,qky,qgr,qiu]⟩
  ·exact .inl ⟨(3,.cells (bls a.2)),by simp[Heap.ents,cR],by simp only[<- hτ,t8,qky,hb2]⟩
  ·exact .inl ⟨(2,.cells [.slc 8 0 a.1.length (.rest 7)]),by simp[Heap.ents,cR],by simp only[<- hτ,t8,qky,qgr,qiu]⟩
  ·exact .inr ⟨by simp[Heap.ents],by simp⟩
  ·exact .inl ⟨(0,.cells [qa8 t]),by simp[Heap.ents,cR],by simp only[<- hτ,t8,qky,qgr,hT2]⟩) (by simp)
 simp only[qiu,qgr]at hcall;refine qa1 (s0:=⟨[0,1,2,4,5,6,7],[qak t,.int .i64 (i:Int),uD,uD,uD,uD,uD],[],17,⟨0,[[]]⟩⟩) Tryz.func35 rfl rfl rfl ?_;apply qR;simp[zS,qak];apply qR;simp[zS];apply qR;simp[zS,lenT,hmk,qc3,Heap.new,pushF];apply qR;simp[zS];apply qR;simp[zS,qc3];repeat apply wq
 refine qai (qbo [⟨50,_,_,_,_,hcall⟩]) ?_;simp[zS,qcu,qc3];apply qR;simp[zS,qc3];apply qa3;simp[zQ,Tryz.f35,readCells,zG,qek,qef];have el:=qbk a.1;have hl:=el.len;rw[jJ]at hl;have hsz:=el.size;rw[<- hF]at hl;show ∃σ Φ,qat σ Φ _ (.agg [.fslc 7 (a.1.map qa6)])/\_;refine⟨[],[(6,F)],?_,?_⟩
 ·simp only[qat,qaz,qca,if_true];exact .inl ⟨.inl ⟨F,rfl,by unfold qek;rw[jF,<- hl,qcn,hF],by simp,hsz⟩,trivial⟩
 ·exact {
   nd1:=by simp
   nd2:=by simp
   nd3:=by simp[Heap.ents]
   lt:=by simp
   idn:=by simp
   num:=by simp
   src:=by intro e he;simp[Heap.ents]at he
   frz:=fun y hy=>by simp at hy;subst hy;exact⟨F,by simp[zG],qaf hFp,hFp⟩ }
theorem zd0(hC:qIn 51 T e51) (t:Tr) (ht:okT t) (hne:t≠[]) :
  CA T 20 [qak t] zH (qak (qbx t)) zH:=by
 have hpos:0 < t.length:=j8.2 hne;have hz:¬ (t.length:Int)=0:=by omega
 have lenT:∀H,qer PG H 22 (qa8 t)=some t.length:=fun H=>by simp[qer]
 have hco:∀H,CA T 35 [qak t,.int .i64 0] H (qak (qbx t)) H:=fun H=>(ziw hC t ht 0 hpos).lift (by simp[qa9,qab]) H;refine qa1 (s0:=⟨[0,1,2],[qak t,uD,uD],[],10,⟨0,[[]]⟩⟩) Tryz.func20 rfl rfl rfl ?_;apply qR;simp[zS,qak];apply qR;simp[zS,lenT,hz];refine qag (by simp[qc0,St.get,qfo,hz,hne]) ?_;apply qa4;simp only[qan];have hc1:=hco ⟨2,[[(1,.cells [.nilS]),(0,.cells [qa8 t])]]⟩;repeat apply wq
 refine qai (qbo [⟨35,_,_,_,_,hc1⟩]) ?_;simp[zS,qcu,qak,qc3];apply qa3;simp[zQ,Tryz.f20,readCells,zG,qek,qef];exact qa2 (by simp[qab,qa9]) rfl
theorem c20(hC:qIn 51 T e51) (t:Tr) (h:okT t) (hne:t≠[]):CA T 20 [qak t] zH (qak (qbx t)) zH:=zd0 hC t h hne
def e20:Entry PG:=mkE 20 [[7]] (fun z:Tr=>[qak z]) (fun z=>(okT z)/\(z≠[])) (fun z=>qak (qbx z)) fun z h=>c20 (T:=[e51]) rfl z h.1 h.2
theorem k20(hT:qIn 20 T e20) (t:Tr) (h:okT t) (hne:t≠[]) (H:Heap):qb7 (ctx T) (.fn 20) [qak t] H=some (qak (qbx t),H):=
 qd2 hT inj_24 (t) ⟨h,hne⟩ (by simp[qa9,qab,qao]) (by simp[qao]) H
theorem qy9{t:Tr} (h:qbi t=true):(qbx t).length<=t.length:=by rw[(qn0 h).len];exact qmx
theorem c9(hc0:qIn 52 T e52) (hc1:qIn 53 T e53) (hc2:qIn 54 T e54) (hc3:qIn 55 T e55) (hc4:qIn 51 T e51) (hc5:qIn 154 T e154) (hc6:qIn 124 T e124) (hc7:qIn 125 T e125) (hc8:qIn 128 T e128) (hc9:qIn 57 T e57) (hc10:qIn 58 T e58) (hc11:qIn 20 T e20) (t:Tr) (h:qbi t=true) (ho:okT t) (hv:LookOk (qbx t)) (hl:t.length<=900):CA T 9 [qak t] zH (qak (qdw t)) zH:=by have kc11:=@k20 T hc11;exact tree_at ⟨hc0,hc1,hc2,hc3,hc4,hc5,hc6,hc7,hc8,hc9,hc10⟩ h hv (by have:=qy9 h;omega) (fun H=>kc11 t ho (qpj h) H)
def e9:Entry PG:=mkE 9 [[7]] (fun z:Tr=>[qak z]) (fun z=>(qbi z=true)/\(okT z)/\(LookOk (qbx z))/\(z.length<=900)) (fun z=>qak (qdw z)) fun z h=>c9 (T:=[e52,e53,e54,e55,e51,e154,e124,e125,e128,e57,e58,e20]) rfl rfl rfl rfl rfl rfl rfl rfl rfl rfl rfl rfl z h.1 h.2.1 h.2.2.1 h.2.2.2
theorem k9(hT:qIn 9 T e9) (t:Tr) (h:qbi t=true) (ho:okT t) (hv:LookOk (qbx t)) (hl:t.length<=900) (H:Heap):qb7 (ctx T) (.fn 9) [qak t] H=some (qak (qdw t),H):=
 qd2 hT inj_24 (t) ⟨h,ho,hv,hl⟩ (by simp[qa9,qab,qao]) (by simp[qao]) H
theorem few_okN{t:Tr} {m:Int} (h:qnj t m=true):∀n,n∈t->okN n:=by simp only[qnj,jd,decide_eq_true_eq,ya]at h;intro n hn;have:=h.2 n hn;simp only[qlc,qk8,jd,decide_eq_true_eq,ya]at this;refine⟨by omega,by omega,by omega,fun a ha=>?_⟩;have ha:=this.2.2.2.2 a ha;simp only[qro,decide_eq_true_eq]at ha;omega
theorem qyq{t:Tr} (h:qr0 t 40=true):qbi t=true/\okT t/\LookOk (qbx t)/\t.length<=40/\zfj t/\∀n,n∈t->okN n:=by unfold qr0 at h;simp only[jd]at h;obtain⟨q,hr⟩:=h;have hs:=qxj (by omega) q;have hn:=few_okN q;have q2:=q;simp only[qnj,jd,decide_eq_true_eq,ya]at q2;exact⟨hr,qtx hr hs.2 hn,zgt hr q2.2,by omega,hs,hn⟩
theorem may_tree(hT:qIn 9 T e9) {t:Tr} (h:qr0 t 40=true) (H:Heap):qb7 (ctx T) (.fn 9) [qak t] H=some (qak (qdw t),H):=by obtain⟨a,b,c,d,_⟩:=qyq h;exact k9 hT t a b c (by omega) H
def qv8(H:Heap) (args largs:List AV):Bool:=match zix H 100000 (qsu args largs []) []with
 |some Φ=>qwm (Φ.map (·.1)) && zhs H Φ Φ && qxi Φ args largs
 |none=>false
def litsH(H:Heap) (args:List AV):List (List AV × AV)->Option AV
 |[]=>none
 |x::r=>match qv8 H args x.1 with
  |true=>some x.2
  |false=>litsH H args r
theorem qwu{H:Heap} {args:List AV} {v:AV}:∀{l:List (List AV × AV)},litsH H args l=some v->∃x,x∈l/\qv8 H args x.1=true/\x.2=v
 |[],h=>by cases h
 |x::r,h=>by
  unfold litsH at h;split at h
  next hb=>simp only[sj]at h;exact⟨x,by simp,hb,h⟩
  ·obtain⟨y,h1,h2,h3⟩:=qwu h;exact⟨y,by simp[h1],h2,h3⟩
def litsB(f:FuncId) (l:List (List AV × AV)) (h:∀x,x∈l->qge x.2=true/\CallAt ⟨PG,fun _=>[],fun _=>none⟩ f x.1 zH x.2 zH):Entry PG:=⟨f,fun args H=>match litsH H args l with
 |some v=>some (v,H)
 |none=>none,fun args H v H' hr=>by
  split at hr
  ·rename_i w hw;simp only[sj,jf]at hr;obtain⟨rfl,rfl⟩:=hr;obtain⟨x,hx,hb,rfl⟩:=qwu hw;obtain⟨h1,h2⟩:=h x hx;unfold qv8 at hb;split at hb
   next Φ hc=>simp only[jd]at hb;exact h2.borrow h1 (fun _=>FitH.froze (qqw hb.1.1) (qum hb.1.2)) (qnh hb.2)
   ·cases hb
  ·cases hr⟩
theorem qrt{T:List (Entry PG)} {f:FuncId} {g:List AV->Heap->Option (AV × Heap)} {args:List AV} {v:AV} (hT:qaa f T=some g) (h:qb7 (ctx T) (.fn f) args zH=some (v,zH)):CallAt ⟨PG,fun _=>[],fun _=>none⟩ f args zH v zH:=by rw[qin (C:=ctx T) (g:=g) hT]at h;exact quu hT args _ _ _ h
def wTr:Nd:=⟨1,0,[116,114],[],[],0,[2]⟩
def wTd:Nd:=⟨1,0,[116,100],[],[],1,[3]⟩
def wP:Nd:=⟨1,0,[112],[],[],2,[4]⟩
def wQ:Nd:=⟨1,0,[112],[],[],3,[5]⟩
theorem zgj{n:Nd} (h:n.attrs=[]) (h2:n.name.length<=10) (h3:n.data=[]):okN n:=⟨by omega,by rw[h];simp,by rw[h3];simp,fun a ha=>by rw[h]at ha;cases ha⟩
theorem okP_n:okP []:=⟨by decide,fun n hn=>by cases hn⟩
theorem okP_w:okP [wP]:=⟨by decide,fun n hn=>by simp at hn;subst hn;exact zgj rfl (by decide) rfl⟩
theorem may_tr:qly [] wTr=false:=by decide +kernel
theorem may_td:qly [] wTd=false:=by decide +kernel
theorem may_p:qly [] wP=true:=by decide +kernel
theorem may_q:qly [wP] wQ=false:=by decide +kernel
theorem chars_w:qd5 [wP] [97,10,98]=true:=by decide +kernel
theorem dec_w:qgl [97,13,98]=[97,10,98]:=by decide +kernel
def T34:List (Entry PG):=[
 litsB 58 [([qa8 [],qa6 wTr],.bool false),([qa8 [],qa6 wTd],.bool false),([qa8 [],qa6 wP],.bool true),([qa8 [wP],qa6 wQ],.bool false)] (fun x hx=>by
  simp only[ja,jL,or_false]at hx;rcases hx with rfl|rfl|rfl|rfl
  ·exact⟨rfl,by rw[<- may_tr];exact qrt (T:=[e58]) rfl (k58 (T:=[e58]) rfl _ _ okP_n (zgj rfl (by decide) rfl) _)⟩
  ·exact⟨rfl,by rw[<- may_td];exact qrt (T:=[e58]) rfl (k58 (T:=[e58]) rfl _ _ okP_n (zgj rfl (by decide) rfl) _)⟩
  ·exact⟨rfl,by rw[<- may_p];exact qrt (T:=[e58]) rfl (k58 (T:=[e58]) rfl _ _ okP_n (zgj rfl (by decide) rfl) _)⟩
  ·exact⟨rfl,by rw[<- may_q];exact qrt (T:=[e58]) rfl (k58 (T:=[e58]) rfl _ _ okP_w (zgj rfl (by decide) rfl) _)⟩),
 litsB 55 [([qa8 [wP],.str [97,10,98]],.bool true)] (fun x hx=>by simp only[ja,jL,or_false]at hx;subst hx;exact⟨rfl,by rw[<- chars_w];exact qrt (T:=[e55]) rfl (k55 (T:=[e55]) rfl _ _ okP_w (by decide) _)⟩),
 litsB 52 [([.fslc 1 [.int .u8 97,.int .u8 13,.int .u8 98]],.str [97,10,98])] (fun x hx=>by simp only[ja,jL,or_false]at hx;subst hx;exact⟨rfl,by rw[<- dec_w];exact c52 (T:=[e144,e72,e73]) rfl rfl rfl [97,13,98] (by decide)⟩)]
theorem awake34:qz2 (qru (ctx T34) 100000 (.fn 7) [] zH)=true:=by decide +kernel
def e7:Entry PG:=mkE 7 [] (fun _:Unit=>[]) (fun _=>True) (fun _=>.bool true) fun _ _=>ze2 awake34
theorem k7{T:List (Entry PG)} (hT:qIn 7 T e7) (H:Heap):qb7 (ctx T) (.fn 7) [] H=some (.bool true,H):=
 qac hT (fun _ _ _=>rfl) () trivial rfl rfl
theorem own_:ownKnob PG.godebug=none:=by kernel_rfl
theorem laid_:laidOutB PG=true:=by kernel_rfl
abbrev qyz : List (String × DataW Unit) := [("unicode/utf8.acceptRanges", Rows.laid_unicode_utf8_acceptRanges), ("unicode/utf8.first", Rows.laid_unicode_utf8_first)]
theorem zdw:(Rows.laid_unicode_utf8_first:DataW Unit)=Lib.tabData .u8 qpg:=by kernel_rfl
theorem za4:(Rows.laid_unicode_utf8_acceptRanges:DataW Unit)=.agg ((List.range 16).map fun i=>.agg ([utfAcc.getD (2 * i) 0,utfAcc.getD (2 * i+1) 0].map fun z=>.lit (.int .u8 z))):=by kernel_rfl
theorem acc_len:utfAcc.length=32:=by decide +kernel
theorem gFirst : PG.globalNamed "unicode/utf8.first" = some (0) := by kernel_rfl
theorem gAcc : PG.globalNamed "unicode/utf8.acceptRanges" = some (1) := by kernel_rfl
theorem tFirst:(PG.globals[0]?).map (·.type)=some 129:=by kernel_rfl
theorem tAcc:(PG.globals[1]?).map (·.type)=some 133:=by kernel_rfl
theorem qv5:PG.cellsOf 5=1:=by kernel_rfl
theorem zj6:PG.cellsOf 129=256:=by kernel_rfl
theorem qxw:PG.cellsOf 132=2:=by kernel_rfl
theorem pins_met{W:World} (hL:laidMetH PG qyz W):∀x,x∈pins->∀i n,x.2[i]? = some n->W.cell? ⟨x.1,i,none⟩=some (.int .u8 n):=by
 rw[MakeChecks.laidMetH_plain _ _ _ (by kernel_rfl)]at hL
 have r1 := Lib.laidMet.reads hL (n := "unicode/utf8.first") (d := Rows.laid_unicode_utf8_first) (by simp)
 have r2 := Lib.laidMet.reads hL (n := "unicode/utf8.acceptRanges") (d := Rows.laid_unicode_utf8_acceptRanges) (by simp)
 rw[zdw]at r1;rw[za4]at r2;intro x hx i n hn;simp only[pins,ja,jL,or_false]at hx;rcases hx with rfl|rfl
 ·obtain⟨g,t,cs,fuel,p,hg,hty,hvar,hd⟩:=r1;obtain rfl:=yw (gFirst.symm.trans hg);obtain rfl:=yw (tFirst.symm.trans hty);have hcs:=Lib.cells_of_tab Tryz.underlying129 Tryz.underlying5 qv5 zj6 hd;rw[World.var?_cell hg hvar i,<- Array.getElem?_toList,hcs,List.getElem?_map,hn];rfl
 ·obtain⟨g,t,cs,fuel,p,hg,hty,hvar,hd⟩:=r2;obtain rfl:=yw (gAcc.symm.trans hg);obtain rfl:=yw (tAcc.symm.trans hty);have hi:i < 32:=by have:=(List.getElem?_eq_some_iff.1 hn).1;rw[acc_len]at this;exact this
  obtain⟨fuel',d,q,hdi,he⟩:=Lib.array_elem Tryz.underlying133 hd (i / 2) (by omega);simp only[List.getElem?_map,List.getElem?_range (show i / 2 < 16 by omega),jZ,sj]at hdi;subst hdi;rw[qxw]at he;have hcs:=Lib.ints_of_struct Tryz.underlying132 (fun j f hj=>by
   match j,hj with
   |0,hj=>simp at hj;subst hj;exact⟨Tryz.underlying5,rfl,qv5⟩
   |1,hj=>simp at hj;subst hj;exact⟨Tryz.underlying5,rfl,qv5⟩
   |j+2,hj=>simp at hj) (by rw[qxw];rfl) he
  have hn':utfAcc.getD i 0=n:=by simp[List.getD_eq_getElem?_getD,hn]
  rw[World.var?_cell hg hvar i,<- Array.getElem?_toList];rcases Nat.mod_two_eq_zero_or_one i with h2|h2
  ·have e0:=congrArg (·[0]?) hcs;simp only[List.getElem?_take,List.getElem?_drop]at e0;have hidx:i / 2 * 2+0=i:=(by omega);have hidx2:2 * (i / 2)=i:=(by omega);rw[hidx]at e0;simpa[hidx2,hn',<- List.getD_eq_getElem?_getD]using e0
  ·have e1:=congrArg (·[1]?) hcs;simp only[List.getElem?_take,List.getElem?_drop]at e1;have hidx:i / 2 * 2+1=i:=(by omega);have hidx2:2 * (i / 2)+1=i:=(by omega);rw[hidx]at e1;simpa[hidx2,hn',<- List.getD_eq_getElem?_getD]using e1
theorem hgs{W:World} (hsh:W.ShapedOpen PG) (hL:laidMetH PG qyz W):GlobsIn W where
 gl:=by intro g h;simp[globs]at h;subst h;exact cell_of_shapedOpen_int (P:=PG) (g:=2) (t:=3) (zero:=#[.int .i64 0]) hsh (of_decide_eq_true (by kernel_rfl)) (by kernel_rfl) rfl (by kernel_rfl) (by kernel_rfl) Tryz.underlying3
 gi:=by intro g h;simp[ivars]at h
 gp:=pins_met hL
 gx:=by intro x h;simp[tabs]at h
def doorW(os:Os):World:=
 let w0:=World.doorLaid PG 4000 os
 { w0 with heap:=w0.heap.modify 0 fun
  |.cells _ t frozen=>.cells (Lib.firstTab.map fun z=>Value.int .u8 z).toArray t frozen
  |o=>o }
theorem door_met(os:Os) (args:Array Value):laidMetH PG qyz ((doorW os).forCall (fun _ _=>0) ⟨#[],args,[]⟩).memory:=
 laidMetH_of_parts3 (fuel:=8) (laidMet_of_run' 8 (by kernel_rfl) (by kernel_rfl)) (by kernel_rfl) (by kernel_rfl)
theorem qzj(os:Os) (args:Array Value):((doorW os).forCall (fun _ _=>0) ⟨#[],args,[]⟩).Shaped PG:=World.shaped_of_RefB (by kernel_rfl) (by kernel_rfl)
theorem qmr{H:Type} {enc:TypeId × Value->H} {a:Assume} {C:Checked} {os:Os} {f:FuncId} {fn:Func} {s:ChangeSpec} {conds:List PathCond} {apart fresh handsOn again:Bool} {X:World->Array Value->Prop}
  (hX:∀(w w':World) (args:Array Value),w.heap=w'.heap->X w args->X w' args)
  (own:ownKnob C.prog.godebug=none) (started:os.Started) (noInit:C.prog.inits.idxOf? f=none) (hfn:C.prog.funcs[f]? = some fn)
  (witness:∃(w:World) (tape:Tape) (i:Input),w.os=os/\(w.forCall tape i).Shaped C.prog/\i.vars=[]/\Input.okWide C.prog (w.forCall tape i) .any w.heap.size f i /\
   ((s.pre enc C.prog fn conds apart (w.forCall tape i).memory i.args/\X (w.forCall tape i).memory i.args)/\sizedMet enc C.prog fn (OpenSpec.ofChange s) apart (w.forCall tape i).memory i.args)/\a.holds C.prog (lone (Frame.enter C.prog f i.args .normal) [] (w.forCall tape i)))
  (contract:∀(W:World) (base:Nat) (args:Array Value) (ds gs:List (DataW H)) (before:List MemPlace),
   (∀(j:Nat) t v,fn.params[j]? = some t->args[j]? = some v->Value.okWide C.prog W .any base t v) ->
   DataW.Whole enc C.prog fn.params.toList s.vars apart W args.toList ds gs before->W.ShapedOpen C.prog->X W args ->
   Calls C.prog f args W fun e W'=>∃v,e=.returned v/\s.post enc C.prog fn apart fresh handsOn again W args v W') :
  ReturnsInHanded a C os f .any (fun w args=>(s.pre enc C.prog fn conds apart w args/\X w args)/\sizedMet enc C.prog fn (OpenSpec.ofChange s) apart w args) (s.post enc C.prog fn apart fresh handsOn again):=by
 refine returnsInHanded_of_calls own started noInit witness ?_;intro w tape i _ hsh _ hok hpre hholds;obtain⟨_,_,_,fn',hfn',_,_,_,_,hval⟩:=hok;have e:fn'=fn:=yw (hfn'.symm.trans hfn);subst e;obtain⟨⟨⟨ds,gs,before,hw,hc⟩,hx⟩,hz⟩:=hpre;have hw':=DataW.Whole.of_heap (w':=w.forCall tape i) (by rfl) hw;refine(contract (w.forCall tape i) w.heap.size i.args ds gs before hval hw' hsh (hX _ _ _ (by rfl) hx)).mono fun e W' ⟨v,he,hp⟩=>?_;subst he;exact ChangeSpec.post_blind hp
set_option maxHeartbeats 1000000
section
variable {P:Program} {H:Heap} {t elem:TypeId} {b n:Nat} {cs:List AV}
end
structure Wrote (cb:Nat) (v v':World):Prop where
 size:v'.heap.size=v.heap.size
 keep:∀j,j≠cb->v'.heap[j]? = v.heap[j]?
 os:v'.os=v.os
 tape:v'.tape=v.tape
 output:v'.output=v.output
 some:∀k,(v.cell? ⟨cb,k,none⟩).isSome=true->(v'.cell? ⟨cb,k,none⟩).isSome=true
 fz:∀k,v'.frozen? ⟨cb,k,none⟩=v.frozen? ⟨cb,k,none⟩
theorem Wrote.trans{cb:Nat} {u v w:World} (h:Wrote cb u v) (k:Wrote cb v w):Wrote cb u w:=
 ⟨k.size.trans h.size,fun j hj=>(k.keep j hj).trans (h.keep j hj),k.os.trans h.os,k.tape.trans h.tape,k.output.trans h.output,fun j hj=>k.some j (h.some j hj),fun j=>(k.fz j).trans (h.fz j)⟩
theorem Wrote.drew{cb:Nat} {v:World}:Wrote cb v v.drew:=⟨rfl,fun _ _=>rfl,rfl,rfl,rfl,fun _ h=>h,fun _=>rfl⟩
theorem Wrote.set{cb o:Nat} {v:World} {xs:List Value} (h:∀j,j < xs.length->(v.cell? ⟨cb,o+j,none⟩).isSome=true):Wrote cb v (v.setCells cb o xs):=
 ⟨qgz _ _ _ _,fun j hj=>qh0 _ _ _ _ j hj,(qd6 _ _ _ _).1,(qd6 _ _ _ _).2.1,(qd6 _ _ _ _).2.2,fun k hk=>isSome_setCells cb xs o v h k hk,fun k=>World.frozen?_setCells _ _ _ _ _⟩
theorem gone{T:List (Entry PG)} {f:FuncId} {args args':List AV} {v:AV} {σ:List (Nat × Nat)} {H H':Heap} {q:Nat} {F:List (List (Nat × Blk))} (hc:CA T f args' ⟨q,F⟩ v ⟨q,[[]]⟩) (hv:qab v=true) (fh:FitH 0 σ [] H ⟨q,F⟩) (hf:qaz σ [] args args') (hn:H'.n=H.n) (sub:H'.ents.Sublist H.ents)
  (out:∀e,e∈H'.ents->∀x,x∈σ->x.1≠e.1):CA T f args H v H':=by
 have:=hc.framed (H':=H') fh hf ⟨by simp[hn],fun nd _=>nd.sublist (sub.map _),fun e he=>.inr ⟨sub.subset he,out e he⟩⟩ (jc _)
 rwa [qid _ hv]at this
section
variable {m n pb k sz:Nat} {pre post es:List AV} {g f:List (Nat × Blk)}
