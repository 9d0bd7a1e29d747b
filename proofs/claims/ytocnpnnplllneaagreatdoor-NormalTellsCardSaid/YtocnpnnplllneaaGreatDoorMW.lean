/- ref34.text: text as it may be put. No condition. -/
import Derived.Test.YtocnpnnplllneaaGreatDoorMU
import Derived.Test.YtocnpnnplllneaaGreatDoorRows
import Derived.Test.YtocnpnnplllneaaGreatDoorTie
import Derived.Test.YtocnpnnplllneaaGreatDoorCards
import Derived.HandedShaped
import Derived.Shelf.Vars
import Derived.ChangeMaps5
import Derived.LaidMore
import Derived.Stop.LaidErr
import Derived.SevenTiedAt
import Derived.Lib.LaidU8
import Derived.Shelf.Spec.SlicesInsertGrow
namespace Go.Proofs.YtocnpnnplllneaaGreatDoor
noncomputable section
set_option linter.unusedSimpArgs false
set_option linter.unusedVariables false
open Go Go.RowKit Go.ChangeShapes Go.WideShapes Go.ChangeAt
set_option maxRecDepth 100000
set_option maxHeartbeats 1000000
theorem rA_{T:List (Entry PG)} {n:Nat} {r:Option Nat} {c:Code} {s:St} {Q:Out->St->Prop} (h:ldR T n r c s Q):WpSr (ctx T) n r c s Q:=ra h
theorem copy_in{C:Ctx} {f:FuncId} {t:Tr} {s s':List Bool} {k up:Int} {zz q:Nat} {L L':List Int} {D N:List Nd} {P:List AV} {G:List (Nat × Blk)} (hP:allSingle P=true) (hG:G=[]\/∃l,G=[(9,.cells (qct l))])
  (h:∀pre,qa9 pre=true->allSingle pre=true->pre.length=P.length->CallAt C f [.int .i64 k,.int .i64 up,.ptr 4 0,.ptr 2 0,.ptr 0 0,.ptr 5 0] ⟨8,[cR t s (.slc 6 0 zz (.rest 7))++([(6,.cells (pre++(lA 7 L::qa6 (D.map qa3))))]++lF 7 L)]⟩ (.tup [])
   ⟨10,[cH t s' q (pre++(.slc 9 0 (L.length+1) (.rest 1)::qa6 (D.map qa3))++qa6 (N.map qa3)) [(9,.cells (qct L'))]]⟩) :
  CallAt C f [.int .i64 k,.int .i64 up,.ptr 4 0,.ptr 2 0,.ptr 0 0,.ptr 5 0] ⟨12,[cH t s zz (P++(lA 11 L::qa6 (D.map qa3))) G,lF 11 L]⟩ (.tup [])
   ⟨14,[cR t s' (.slc 12 0 q (.rest 7))++((12,.cells (P++(.slc 13 0 (L.length+1) (.rest 1)::qa6 ((D++N).map qa3))))::(13,.cells (qct L'))::G),[]]⟩:=by
 have hL7:lF 7 L=[]/\lF 11 L=[]/\L=[]\/lF 7 L=[(7,.cells (qct L))]/\lF 11 L=[(11,.cells (qct L))]/\L≠[]:=by
  by_cases hL:L=[]
  ·subst hL;exact .inl ⟨rfl,rfl,rfl⟩
  ·exact .inr ⟨qxp hL,qxp hL,hL⟩
 have key:=CallAt.anyfront (C:=C) (f:=f) (args:=[.int .i64 k,.int .i64 up,.ptr 4 0,.ptr 2 0,.ptr 0 0,.ptr 5 0]) (v:=.tup []) (n:=12) (n':=14) (b:=8) (b':=12) (P:=P) (c0:=lA 11 L::qa6 (D.map qa3))
  (cs:=.slc 13 0 (L.length+1) (.rest 1)::qa6 ((D++N).map qa3)) (g:=cR t s (.slc 8 0 zz (.rest 7))++(lF 11 L++G)) (g':=cR t s' (.slc 12 0 q (.rest 7))++((13,.cells (qct L'))::G)) hP fun pre hp hs hl=>?_
 ·refine key.perm rfl rfl ?_ ?_
  ·simp only[Heap.ents,cH,List.flatten_cons,List.flatten_nil,List.append_nil];refine List.Perm.trans ?_ (List.perm_middle (l₁:=cR t s (.slc 8 0 zz (.rest 7))));rw[List.append_assoc];refine List.Perm.append_left _ ?_;exact List.Perm.cons _ List.perm_append_comm
  ·simp only[Heap.ents,List.flatten_cons,List.flatten_nil,List.append_nil];exact List.perm_middle
 ·have hb:=qg1 s;have hb':=qg1 s';have hN:=qdh t;have hD:=(qbg D).pure;have hfh:FitH 0 [(8,6),(11,7),(0,0),(2,2),(3,3),(4,4),(5,5)] [] ⟨12,[(8,.cells (pre++(lA 11 L::qa6 (D.map qa3))))::(cR t s (.slc 8 0 zz (.rest 7))++(lF 11 L++G))]⟩ ⟨8,[cR t s (.slc 6 0 zz (.rest 7))++([(6,.cells (pre++(lA 7 L::qa6 (D.map qa3))))]++lF 7 L)]⟩:={
   nd1:=by simp
   nd2:=by simp
   nd3:=by rcases hL7 with⟨h1,h2,rfl⟩|⟨h1,h2,h3⟩<;>rw[h1]<;>simp[Heap.ents,cR]
   lt:=by simp
   idn:=by simp
   num:=by simp
   src:=by
    intro e he;simp only[Heap.ents,cR,List.flatten_cons,List.flatten_nil,List.append_nil,List.mem_cons,List.mem_append,List.not_mem_nil,or_false,List.cons_append,List.nil_append]at he;rcases he with rfl|rfl|rfl|rfl|rfl|rfl|he
    ·exact⟨2,.cells [.slc 8 0 zz (.rest 7)],by simp,by simp[zG,cR],by simp[qi1,qax,qas,qb2]⟩
    ·exact⟨4,.cells [.slc 3 0 t.length (.ex t.length)],by simp,by simp[zG,cR],by simp[qi1,qax,qas,qb2]⟩
    ·exact⟨3,.cells (bls s),by simp,by simp[zG,cR],qak hb⟩
    ·exact⟨0,.cells [qaa t],by simp,by simp[zG,cR],qak (by simp[qa9])⟩
    ·exact⟨5,.cells [.func (.func 50) [] [.ptr 4 0,.ptr 2 0,.ptr 0 0,.ptr 5 0]],by simp,by simp[zG,cR],by simp[qi1,qax,qas,qb2]⟩
    ·refine⟨8,.cells (pre++(lA 11 L::qa6 (D.map qa3))),by simp,by simp[zG],?_⟩;refine qe1 (qak hp) ⟨?_,qak hD⟩;rcases hL7 with⟨h1,h2,rfl⟩|⟨h1,h2,h3⟩
     ·simp[lA,qcx,qct,qas]
     ·rw[zbo h3,zbo h3];simp[qas,qb2]
    ·rcases hL7 with⟨h1,h2,rfl⟩|⟨h1,h2,h3⟩
     ·rw[h1]at he;cases he
     ·rw[h1]at he;simp at he;subst he;exact⟨11,.cells (qct L),by simp,by rw[h2];simp[zG,cR],qak (qhd L)⟩
   frz:=fun x h=>by cases h }
  have hG9:∀e,e∈G->e.1=9:=fun e he=>by
   rcases hG with rfl|⟨l,rfl⟩
   ·cases he
   ·simp at he;subst he;rfl
  have hGn:(G.map (·.1)).Nodup:=by rcases hG with rfl|⟨l,rfl⟩<;>simp
  have:=(h pre hp hs hl).framed (H':=⟨14,[(12,.cells (pre++(.slc 13 0 (L.length+1) (.rest 1)::qa6 ((D++N).map qa3))))::(cR t s' (.slc 12 0 q (.rest 7))++((13,.cells (qct L'))::G))]⟩) (args:=[.int .i64 k,.int .i64 up,.ptr 4 0,.ptr 2 0,.ptr 0 0,.ptr 5 0]) hfh
   (by simp[qax,qas,qb2,qab]) ?_ (by simp)
  ·simpa[qja,qho,qje,qf1]using this
  ·refine⟨by simp,fun hn hlt=>?_,?_⟩
   ·rcases hG with rfl|⟨l,rfl⟩<;>simp[Heap.ents,cR]
   ·intro e he;simp only[Heap.ents,cR,List.flatten_cons,List.flatten_nil,List.append_nil,List.mem_cons,List.mem_append,List.not_mem_nil,or_false,List.cons_append,List.nil_append]at he;obtain⟨τ,hτ⟩ : ∃τ,τ=qje [(8,6),(11,7),(0,0),(2,2),(3,3),(4,4),(5,5)] 12 8:=⟨_,rfl⟩;have t9:τ 9=13:=(by rw[hτ];simp[qje,qf1]);have t8:τ 8=12:=(by rw[hτ];simp[qje,qf1]);have t0:τ 0=0/\τ 2=2/\τ 3=3/\τ 4=4/\τ 5=5:=(by rw[hτ];simp[qje,qf1]);have eN:qa6 ((D++N).map qa3)=qa6 (D.map qa3)++qa6 (N.map qa3):=(by rw[List.map_append,qbj]);have hb2:=qcd τ hb';have hp2:=qcd τ hp;have hD2:=qcd τ hD;have hN2:=qcd τ (qbg N).pure;have hI2:=qcd τ (qhd L');have hT2:=qif τ hN;rcases he with rfl|rfl|rfl|rfl|rfl|rfl|rfl|he
    ·refine .inl ⟨(8,.cells (pre++(.slc 9 0 (L.length+1) (.rest 1)::qa6 (D.map qa3))++qa6 (N.map qa3))),by simp[Heap.ents,cH],?_⟩;simp only[<- hτ,t8,qn0,qz8,qho,qja,t9,hp2,hD2,hN2,eN];simp
    ·refine .inl ⟨(2,.cells [.slc 8 0 q (.rest 7)]),by simp[Heap.ents,cH,cR],?_⟩;simp only[<- hτ,t0,t8,qn0,qho,qja]
    ·refine .inl ⟨(4,.cells [.slc 3 0 t.length (.ex t.length)]),by simp[Heap.ents,cH,cR],?_⟩;simp only[<- hτ,t0,qn0,qho,qja]
    ·refine .inl ⟨(3,.cells (bls s')),by simp[Heap.ents,cH,cR],?_⟩;simp only[<- hτ,t0,qn0,hb2]
    ·refine .inl ⟨(0,.cells [qaa t]),by simp[Heap.ents,cH,cR],?_⟩;simp only[<- hτ,t0,qn0,qho,hT2]
    ·refine .inl ⟨(5,.cells [.func (.func 50) [] [.ptr 4 0,.ptr 2 0,.ptr 0 0,.ptr 5 0]]),by simp[Heap.ents,cH,cR],?_⟩;simp only[<- hτ,t0,qn0,qho,qja]
    ·refine .inl ⟨(9,.cells (qct L')),by simp[Heap.ents,cH],?_⟩;simp only[<- hτ,t9,qn0,hI2]
    ·refine .inr ⟨by simp[Heap.ents,he],?_⟩;rw[hG9 e he];simp
theorem copy_at{T:List (Entry PG)} (hC:qIn 51 T e51) (t:Tr) (ht:okT t):∀(F:Nat) (i:Nat) (up:Int) (z:Nat) (seen:List Bool) (o:CpO) (ho:cOk up z o)
  (i1:i < t.length) (hsl:seen.length=t.length) (hsi:seen.getD i true=false) (hz:z+qfp seen<=100000) (hF:qfp seen<=F),
  CA T 50 [.int .i64 (i:Int),.int .i64 up,.ptr 4 0,.ptr 2 0,.ptr 0 0,.ptr 5 0] ⟨8,[cR t seen (cV z o)++(cI o++cK o)]⟩ (.tup [])
   ⟨10,[cH t (quk F t i up z seen).2 (z+(quk F t i up z seen).1.length) (cU 9 o++qa6 ((quk F t i up z seen).1.map qa3)) (cG 9 z o)]⟩:=by
 intro F;induction F with
 |zero=>intro i up z seen o ho i1 hsl hsi hz hF;have:=qev hsi;omega
 |succ F' ih=>
 intro i up z seen o ho i1 hsl hsi hz hF;have hix:=atX (t:=t) (i:=(i:Int)) (by omega) (by omega);obtain⟨x,hxn⟩ : ∃x,x=qa1 t i:=⟨_,rfl⟩;have hal:=(ht.ok.2 _ (qb3 (t:=t) (i:=(i:Int)) (by omega) (by omega))).2;have hkl:=(ht.ok.2 _ (qb3 (t:=t) (i:=(i:Int)) (by omega) (by omega))).1;rw[<- hxn]at hix hal hkl;have hvl:∀H,qf6 PG H 22 (cV z o)=some z:=fun H=>by
  cases o with
  |none=>simp[cV,qf6,ho.2]
  |some _=>simp[cV,qf6]
 refine qa0 (s0:=⟨[0,1,2,3,4,5,8,9,11,57,58,59],[.int .i64 (i:Int),.int .i64 up,.ptr 4 0,.ptr 2 0,.ptr 0 0,.ptr 5 0,uD,uD,uD,uD,uD,uD],[],84,⟨8,[]::[cR t seen (cV z o)++(cI o++cK o)]⟩⟩) Tryz.func50 rfl rfl rfl ?_;refine WpSr.perm ⟨8,[cR t seen (cV z o)++cI o,cK o]⟩ rfl (by simp[Heap.ents]) ?_;have hly:qh7 [.bool true] i (bls seen)=some (bls (seen.set i true)):=layB (by omega);have hxi:qat PG 45 (.slc 3 0 t.length (.ex t.length)) (.int .i64 (i:Int))=some (.ptr 3 i):=by simp[qat,qbv i1]
 have kA:=k51 hC (L:=x.attrs) (by omega);have c3:qh7 [qaf x.attrs] 3 x.cs=some x.cs:=rfl;have c6:qh7 [.nilS] 6 x.cs=some [qb9 x.kind,qb9 x.space,.str x.name,qaf x.attrs,.str x.data,qb9 x.up,.nilS]:=rfl;have c5:qh7 [.int .i64 up] 5 [qb9 x.kind,qb9 x.space,.str x.name,qaf x.attrs,.str x.data,qb9 x.up,.nilS]=some [qb9 x.kind,qb9 x.space,.str x.name,qaf x.attrs,.str x.data,qb9 up,.nilS]:=rfl;have g3:qck x.cs 3=some (qaf x.attrs):=rfl;have cA:∀A,(qaf A).cells=[qaf A]:=fun _=>rfl;have rA:∀A,refs 6 (qaf A)=[]:=fun _=>rfl;have sga:∀A,(qaf A).single=true:=fun _=>rfl;have sgi:∀i,(qb9 i).single=true:=fun _=>rfl;have sgv:(cV z o).single=true:=by cases o<;>rfl
 have happ:=app_cp (t:=t) (s:=seen.set i true) (nc:=[qb9 x.kind,qb9 x.space,.str x.name,qaf x.attrs,.str x.data,qb9 up,.nilS]) ho rfl rfl (by omega);simp only[cR,List.cons_append,List.nil_append]at happ ⊢;apply rA_;simp[zS,hly,hxi,qcb];apply rA_;simp[zS,hvl];apply rA_;simp[zS,hix,qaq,qcb];apply rA_;simp[zS,kA,g3,c3,c5,c6,cA,rA,sga,sgi,allSingle,qcb];apply rA_;simp[zS,happ,sga,sgi,sgv,qcb];clear happ c3 c5 c6 kA g3;obtain⟨hd,hhd⟩ : ∃hd:List AV,hd=[qb9 x.kind,qb9 x.space,.str x.name,qaf x.attrs,.str x.data,qb9 up]:=⟨_,rfl⟩;have e0:[qb9 x.kind,qb9 x.space,.str x.name,qaf x.attrs,.str x.data,qb9 up,.nilS]=hd++[.nilS]:=by rw[hhd];rfl
 have hhp:qa9 hd=true:=by rw[hhd];simp[qa9,qab,qb9]
 have hhs:allSingle hd=true:=by rw[hhd];rfl
 have hhl:hd.length=6:=by rw[hhd];rfl
 rw[e0];refine qg0 ((⟨[0,1,2,3,4,5,8,9,11,57,58,59],[.int .i64 (i:Int),uD,.ptr 4 0,.ptr 2 0,.ptr 0 0,.ptr 5 0,.int .i64 (z:Int),uD,uD,uD,uD,uD],[],84,⟨12,[cH t (seen.set i true) (z+1) (cU 9 o++(hd++(lA 11 []::qa6 (([]:List Nd).map qa3)))) (cG 9 z o),lF 11 []]⟩⟩ : St)) ?_ fun hj=>?_
 rotate_left
 ·apply rA_;simp[zS];cases o with
  |none=>
   have hup:¬ 0<=up:=(by have:=ho.1;omega);refine qag (by simp[qbp,St.get,qd5,hup]) ?_;apply qa4;simp only[qam];have e1:zgn 7 none++(hd++[AV.nilS])=hd++[.nilS]:=rfl;rw[e1];refine hj _ ?_;exact⟨[(10,8),(11,11),(9,9),(0,0),(2,2),(3,3),(4,4),(5,5)],[],rfl,rfl,rfl,by simp[qax,qas,qb2,qab,qa9],qqs (up:=up) (z:=z) (o:=none) (a:=10) (b:=11) (c:=9) (L:=[]) (D:=[]) ho hhp (.inr ⟨rfl,rfl⟩) (by simp)
    (by simp[zG,cU,zgn,qa6]) (by simp[zG]) (by simp[zG]) (by simp[zG]) (by simp[zG]) (by simp[zG]) (by simp) (by simp)⟩
  |some y=>
   obtain⟨P,L,D⟩:=y;have ho':=ho;obtain⟨p1,p2,⟨u,rfl,p3,p4⟩,p5⟩:=ho;simp only at p1 p2 p3 p4 p5;obtain⟨W,hW⟩ : ∃W,W=qa6 (D.map qa3)++(hd++[.nilS]):=⟨_,rfl⟩;have eR:zgn 7 (some (P,L,D))++(hd++[.nilS])=P++lA 7 L::W:=(by rw[hW];simp[zgn]);simp only[eR,cK,cV];refine qai (by simp[qbp,St.get]) ?_;have hxz:∀n,n=10->qat PG 22 (.slc n 0 (z+1) (.rest 7)) (.int .i64 (u:Int))=some (.ptr n (u * 7)):=fun n _=>(by simp[qat,qbv (show u < z+1 by omega)]);have gz:qck (P++lA 7 L::W) (u * 7+6)=some (lA 7 L):=(by rw[<- p3,qe0 (by simp),List.getElem_append_right (by omega)];simp);have hlk:qh7 [.slc 26 0 (L.length+1) (.rest 1)] (u * 7+6) (P++lA 7 L::W)=some (P++.slc 26 0 (L.length+1) (.rest 1)::W):=(by have:=qhw (a:=P) (b:=[lA 7 L]) (b':=[.slc 26 0 (L.length+1) (.rest 1)]) (c:=W) rfl;rw[p3]at this;simpa using this);have happk:=app_l (m:=26) (t:=21) (b:=7) (L:=L) (v:=(z:Int)) (g1:=[(10,.cells (P++lA 7 L::W)),(9,.cells (hd++[.nilS])),(8,.cells (hd++[.nilS])),(2,.cells [.slc 10 0 (z+1) (.rest 7)]),(4,.cells [.slc 3 0 t.length (.ex t.length)]),(3,.cells (bls (seen.set i true))),(0,.cells [qaa t]),(5,.cells [.func (.func 50) [] [.ptr 4 0,.ptr 2 0,.ptr 0 0,.ptr 5 0]])]) (g:=[]) (by omega) (by simp) (by simp);rw[List.append_nil]at happk;refine qc8 mixed qbf (by decide +kernel) fun B_ hB_=>?_;have hD_:ahead B_ 1 11=false/\ahead B_ 1 14=true/\ahead B_ 4 11=true/\ahead B_ 4 14=true/\ahead B_ 8 11=true/\ahead B_ 8 14=true/\ahead B_ 10 11=true/\ahead B_ 10 14=true/\ahead B_ 11 1=false/\ahead B_ 11 4=false/\ahead B_ 11 8=false/\ahead B_ 14 1=false/\ahead B_ 14 4=false/\ahead B_ 14 8=false:=(by rw[hB_];decide +kernel);apply qi9 B_;simp[zS,qdl,qc6,qc3,qbk,qap,qb4,qaz,Heap.lay,qd9,qi7,qi6,qfa,qf9,qf7,qf8,qfo,qfc,qdv,qdw,qfi,qfh,qff,qfg,qfl,qfm,qfk,qfj,hD_,hxz,gz,happk,hlk,qcb];exact rfl;refine⟨_,rfl,?_,?_⟩;simp[zS,qbk,qap,qc7,qcl,qdy,hD_,hxz,gz,happk,hlk,qcb];simp[qc5,Heap.lay,qd9,qam];refine hj _ ?_;exact⟨[(10,8),(11,11),(26,9),(0,0),(2,2),(3,3),(4,4),(5,5)],[],rfl,rfl,rfl,by simp[qax,qas,qb2,qab,qa9],qqs (up:=(u:Int)) (z:=z) (o:=some (P,L,D)) (a:=10) (b:=11) (c:=26) (L:=[]) (D:=[]) ho' hhp (.inr ⟨rfl,rfl⟩) (by simp)
    (by simp[zG,cU,hW,qa6]) (by simp[zG]) (by simp[zG]) (by simp[zG]) (by simp[zG]) (by simp[zG]) (by simp) (by intro y hy;cases hy;simp[zG])⟩
 obtain⟨K,hK⟩ : ∃K,K=x.kids:=⟨_,rfl⟩;have gk:qck x.cs 6=some (qbc K):=by rw[hK];rfl
 have hUn:=qev hsi;obtain⟨rec,hrec⟩ : ∃rec,rec=fun(k:Int) (z':Nat) (s':List Bool)=>quk F' t k (z:Int) z' s':=⟨_,rfl⟩;obtain⟨R,hR⟩ : ∃R,R=qr9 rec t.length K (z+1) (seen.set i true):=⟨_,rfl⟩;have hfin:quk (F'+1) t i up z seen=({ x with up:=up,kids:=R.1 }::R.2.1,R.2.2):=by rw[hR,hrec,hK,hxn];rfl
 rw[hfin];clear hfin;simp only[cH,cR,List.cons_append,List.nil_append];apply rA_;simp[zS,hix,gk,ql8];refine qa7 (qb1 (fun y:Nat × List Int × List Nd × List Bool=>(⟨[0,1,2,3,4,5,8,9,11,57,58,59],[uD,uD,.ptr 4 0,.ptr 2 0,.ptr 0 0,.ptr 5 0,.int .i64 (z:Int),uD,uD,qbc K,.int .i64 (K.length:Nat),.int .i64 (y.1:Int)],[],84,⟨12,[cH t y.2.2.2 (z+1+y.2.2.1.length) (cU 9 o++(hd++(lA 11 y.2.1::qa6 (y.2.2.1.map qa3)))) (cG 9 z o),lF 11 y.2.1]⟩⟩ : St))
  (fun y=>y.1<=K.length/\y.2.1.length<=y.1/\y.2.2.2.length=t.length/\y.2.2.1.length+qfp y.2.2.2 < qfp seen/\R=(y.2.1++(qr9 rec t.length (K.drop y.1) (z+1+y.2.2.1.length) y.2.2.2).1,y.2.2.1++(qr9 rec t.length (K.drop y.1) (z+1+y.2.2.1.length) y.2.2.2).2.1,(qr9 rec t.length (K.drop y.1) (z+1+y.2.2.1.length) y.2.2.2).2.2))
  (fun y=>K.length - y.1) [(8,8),(11,11),(9,9),(0,0),(2,2),(3,3),(4,4),(5,5)] [] (0,[],[],seen.set i true) ⟨Nat.zero_le _,Nat.le_refl _,by simpa using hsl,by simp;omega,by simpa using hR⟩
  ⟨rfl,rfl,rfl,by simp[qax,qas,qb2,qab,qa9],qqs ho hhp (L:=[]) (D:=[]) (.inl rfl) (by simp) (by simp[zG,qa6]) (by simp[zG]) (by simp[zG]) (by simp[zG]) (by simp[zG]) (by simp[zG]) (by simp) (by intro y hy;subst hy;simp[zG,cG])⟩ ?_)
 rintro⟨j,L,D,s⟩ ⟨hj,hLj,hsn,hDu,hx⟩ B hB;simp only at hj hLj hsn hDu hx ⊢;have gc9:∀y:List AV × List Int × List Nd,o=some y->getF 9 (cG 9 z o)=some (.cells (qct (y.2.1++[(z:Int)]))):=fun y hy=>by subst hy;simp[getF,cG]
 have hrecS:∀k z' s',s'.length=t.length->s'.getD k.toNat true=false->(rec k z' s').2.length=t.length/\(rec k z' s').1.length+qfp (rec k z' s').2<=qfp s':=fun k z' s' h1 h2=>by rw[hrec];exact qv8 F' t k z z' s' h1 h2
 have lenT:∀H,qf6 PG H 22 (qaa t)=some t.length:=fun H=>by simp[qf6]
 have hG:cG 9 z o=[]\/∃l,cG 9 z o=[(9,.cells (qct l))]:=by
  cases o with
  |none=>exact .inl rfl
  |some y=>exact .inr ⟨_,rfl⟩
 have same:∀H:Heap,H=⟨12,[cH t s (z+1+D.length) (cU 9 o++(hd++(lA 11 L::qa6 (D.map qa3)))) (cG 9 z o),lF 11 L]⟩->FitH 8 [(8,8),(11,11),(9,9),(0,0),(2,2),(3,3),(4,4),(5,5)] [] H ⟨12,[cH t s (z+1+D.length) (cU 9 o++(hd++(lA 11 L::qa6 (D.map qa3)))) (cG 9 z o),lF 11 L]⟩:=fun H hH=>by
  subst hH;exact qqs ho hhp (.inl rfl) (by simp) (by simp[zG,cH,cR]) (by simp[zG,cH,cR]) (by simp[zG,cH,cR]) (by simp[zG,cH,cR]) (by simp[zG,cH,cR]) (by simp[zG,cH,cR])
   (fun hL=>by rw[qxp hL];have:getF 11 (cG 9 z o)=none:=by { cases o<;>simp[cG,getF] };simp[zG,cH,cR,this]) (fun y hy=>by simp[zG,cH,cR,gc9 y hy])
 simp only[cH,cR,List.cons_append,List.nil_append];by_cases h:j < K.length
 ·have hc:(j:Int) < (K.length:Int):=by omega
  have hik:=atI h;have hac:=qbb (show j<=1000000000 by rw[<- hK]at hkl;omega);rw[List.drop_eq_getElem_cons h]at hx;simp only[qr9]at hx;generalize K[j]=k at *;apply rA_;simp[zS,hc];repeat apply wq
  refine qai (by simp[qbp,St.get,h]) ?_;apply qa4;simp only[qam];repeat apply wq
  apply qa7;apply rA_;simp[zS,hik];by_cases hA:0<=k/\k < (t.length:Int)/\s.getD k.toNat true=false
  ·obtain⟨k0,k1,k2⟩:=hA;rw[if_pos ⟨k0,k1,k2⟩]at hx;obtain⟨kn,rfl⟩ : ∃kn:Nat,k=(kn:Int):=⟨k.toNat,by omega⟩;simp only[Int.toNat_natCast]at k2 hx;have kl:kn < t.length:=(by omega);have hks:s.getD kn true=s[kn]'(by omega):=(by simp[List.getD,show kn < s.length by omega]);have hgb:=getB (s:=s) (i:=kn) (by omega);rw[<- hks,k2]at hgb;have hxk:=ixB (b:=3) (cap:=.ex t.length) kl;apply rA_;simp[zS,k0,k1,lenT,hxk,hgb];refine qai (by simp[qbp,St.get,qd5]) ?_;obtain⟨sz,hsz⟩ : ∃sz,sz=z+1+D.length:=⟨_,rfl⟩;rw[<- hsz]at hx ⊢;have hsU:=hrecS kn sz s hsn (by simpa using k2);obtain⟨ra,hra⟩ : ∃ra,ra=rec kn sz s:=⟨_,rfl⟩;have hUl:=cU_len (b:=9) ho;have hcall:=copy_in (C:=ctx T) (f:=50) (t:=t) (s:=s) (s':=ra.2) (k:=(kn:Int)) (up:=(z:Int)) (zz:=sz) (q:=sz+ra.1.length) (L:=L) (L':=L++[(sz:Int)]) (D:=D) (N:=ra.1) (P:=cU 9 o++hd) (G:=cG 9 z o)
    (by rw[qdq,zgm ho,hhs];rfl) hG (fun pre hp hs hl=>by have:=ih kn (z:Int) sz s (some (pre,L,D)) ⟨hp,hs,⟨z,rfl,by rw[hl,List.length_append,hUl,hhl],hsz⟩,by simp only;rw[<- hK]at hkl;omega⟩ kl hsn (by simpa using k2) (by omega) (by omega);rw[hra,hrec];simpa[cV,cI,cK,zgn,cU,cG]using this)
   simp only[cH,cR,List.cons_append,List.nil_append,List.append_assoc]at hcall;refine qah (qbh [⟨50,_,_,_,_,hcall⟩]) ?_;simp[zS,qcc];apply rA_;simp[zS,hac];rw[<- hra]at hx hsU;have eS:z+1+(D++ra.1).length=sz+ra.1.length:=(by rw[List.length_append];omega);refine hB _ (j+1,L++[(sz:Int)],D++ra.1,ra.2) (by simp only;omega) ⟨by simp only;omega,by simp;omega,by simpa using hsU.1,by simp;omega,?_⟩ ⟨[(12,8),(13,11),(9,9),(0,0),(2,2),(3,3),(4,4),(5,5)],[],rfl,rfl,rfl,by simp[qax,qas,qb2,qab,qa9],?_⟩
   ·simp only;rw[eS,hx];simp
   ·simp only;rw[eS];exact qqs ho hhp (.inl (zbo (by simp)).symm) (by simp) (by simp[zG]) (by simp[zG]) (by simp[zG]) (by simp[zG]) (by simp[zG]) (by simp[zG]) (fun _=>by simp[zG]) (fun y hy=>by simp[zG,gc9 y hy])
  ·rw[if_neg hA]at hx;have hB':∀s',(∃σ Φ,Fit 8 σ Φ s' ((⟨[0,1,2,3,4,5,8,9,11,57,58,59],[uD,uD,.ptr 4 0,.ptr 2 0,.ptr 0 0,.ptr 5 0,.int .i64 (z:Int),uD,uD,qbc K,.int .i64 (K.length:Nat),.int .i64 ((j+1:Nat):Int)],[],84,⟨12,[cH t s (z+1+D.length) (cU 9 o++(hd++(lA 11 L::qa6 (D.map qa3)))) (cG 9 z o),lF 11 L]⟩⟩ : St)))->B s':=fun s' hs'=>hB s' (j+1,L,D,s) (by simp only;omega) ⟨by simp only;omega,by simp only;omega,hsn,hDu,hx⟩ hs';by_cases q0:0<=k
   ·by_cases q1:k < (t.length:Int)
    ·obtain⟨kn,rfl⟩ : ∃kn:Nat,k=(kn:Int):=⟨k.toNat,by omega⟩;simp only[Int.toNat_natCast]at hA;have kl:kn < t.length:=(by omega);have hks:s.getD kn true=s[kn]'(by omega):=(by simp[List.getD,show kn < s.length by omega]);have hgb:=getB (s:=s) (i:=kn) (by omega);have k2:s.getD kn true=true:=by
      cases hq:s.getD kn true with
      |true=>rfl
      |false=>exact absurd ⟨q0,q1,hq⟩ hA
     rw[<- hks,k2]at hgb;have hxk:=ixB (b:=3) (cap:=.ex t.length) kl;apply rA_;simp[zS,q0,q1,lenT,hxk,hgb];refine qag (by simp[qbp,St.get,qd5]) ?_;apply qa4;simp only[qam,qaj];apply rA_;simp[zS,hac];exact hB' _ ⟨[(8,8),(11,11),(9,9),(0,0),(2,2),(3,3),(4,4),(5,5)],[],rfl,rfl,rfl,by simp[qax,qas,qb2,qab,qa9],same _ rfl⟩
    ·apply rA_;simp[zS,q0,q1,lenT];refine qag (by simp[qbp,St.get,qd5]) ?_;apply qa4;simp only[qam,qaj];apply rA_;simp[zS,hac];exact hB' _ ⟨[(8,8),(11,11),(9,9),(0,0),(2,2),(3,3),(4,4),(5,5)],[],rfl,rfl,rfl,by simp[qax,qas,qb2,qab,qa9],same _ rfl⟩
   ·apply rA_;simp[zS,q0,lenT];refine qag (by simp[qbp,St.get,qd5]) ?_;apply qa4;simp only[qam,qaj];apply rA_;simp[zS,hac];exact hB' _ ⟨[(8,8),(11,11),(9,9),(0,0),(2,2),(3,3),(4,4),(5,5)],[],rfl,rfl,rfl,by simp[qax,qas,qb2,qab,qa9],same _ rfl⟩
 ·have hc:¬ (j:Int) < (K.length:Int):=by omega
  rw[List.drop_eq_nil_of_le (by omega)]at hx;simp only[qr9,List.append_nil]at hx;apply rA_;simp[zS,hc];repeat apply wq
  refine qag (by simp[qbp,St.get,h]) ?_;apply qar;simp only[qam,qaj];rw[if_pos trivial];refine⟨.inl trivial,[],rfl,?_⟩;simp only[hx,List.length_cons];have hend:=cp_fitE (t:=t) (s:=s) (zz:=z+1+D.length) (z:=z) (up:=up) (o:=o) ho (L:=L) (x:=x) (pu:=up) (D:=D) (H:=⟨12,[cH t s (z+1+D.length) (cU 9 o++(hd++(lA 11 L::qa6 (D.map qa3)))) (cG 9 z o),lF 11 L]⟩)
   (by rw[hhd];simp[zG,cH,cR]) (by simp[zG,cH,cR]) (by simp[zG,cH,cR]) (by simp[zG,cH,cR]) (by simp[zG,cH,cR]) (by simp[zG,cH,cR])
   (fun hL=>by rw[qxp hL];have:getF 11 (cG 9 z o)=none:=by { cases o<;>simp[cG,getF] };simp[zG,cH,cR,this]) (fun y hy=>by simp[zG,cH,cR,gc9 y hy])
  rw[show z+(D.length+1)=z+1+D.length by omega];exact hend
theorem zgc{T:List (Entry PG)} (hC:qIn 51 T e51) (t:Tr) (ht:okT t) (i:Nat) (hi:i < t.length) :
  CA T 35 [qav t,.int .i64 (i:Int)] zH (qav (quk t.length t i (-1) 0 (List.replicate t.length false)).1) zH:=by
 have htl:=ht.ok.1;have hsi:(List.replicate t.length false).getD i true=false:=by simp[List.getD,hi]
 have hput:=copy_at hC t ht t.length i (-1) 0 (List.replicate t.length false) none ⟨rfl,rfl⟩ hi (by simp) hsi (by rw[qgv];omega) (by rw[qgv];omega);obtain⟨a,ha⟩ : ∃a,a=quk t.length t i (-1) 0 (List.replicate t.length false):=⟨_,rfl⟩;rw[<- ha]at hput ⊢;have lenT:∀H,qf6 PG H 22 (qaa t)=some t.length:=fun H=>by simp[qf6]
 have hms:=msBool (n:=t.length) (by omega);have hmk:∀H,qgh PG H 45 (.int .i64 (t.length:Int)) (.int .i64 (t.length:Int))=some (.slc H.n 0 t.length (.ex t.length),H.new (.cells (bls (List.replicate t.length false)))):=fun H=>by simp[qgh,hms]
 have hb:=qg1 (List.replicate t.length false);have hb':=qg1 a.2;have hN:=qdh t;have hfh:FitH 0 [(0,0),(2,2),(3,3),(4,4),(5,5)] [] ⟨6,[[(5,.cells [.func (.func 50) [] [.ptr 4 0,.ptr 2 0,.ptr 0 0,.ptr 5 0]]),(4,.cells [.slc 3 0 t.length (.ex t.length)]),(3,.cells (bls (List.replicate t.length false))),(2,.cells [.nilS]),(1,.cells [.nilS]),(0,.cells [qaa t])]]⟩
   ⟨8,[cR t (List.replicate t.length false) .nilS]⟩:={
  nd1:=by simp
  nd2:=by simp
  nd3:=by simp[Heap.ents,cR]
  lt:=by simp
  idn:=by simp
  num:=by simp
  src:=by
   intro e he;simp only[Heap.ents,cR,List.flatten_cons,List.flatten_nil,List.append_nil,List.mem_cons,List.not_mem_nil,or_false]at he;rcases he with rfl|rfl|rfl|rfl|rfl
   ·exact⟨2,.cells [.nilS],by simp,by simp[zG],by simp[qi1,qax,qas]⟩
   ·exact⟨4,.cells [.slc 3 0 t.length (.ex t.length)],by simp,by simp[zG],by simp[qi1,qax,qas,qb2]⟩
   ·exact⟨3,.cells (bls (List.replicate t.length false)),by simp,by simp[zG],qak hb⟩
   ·exact⟨0,.cells [qaa t],by simp,by simp[zG],qak (by simp[qa9])⟩
   ·exact⟨5,.cells [.func (.func 50) [] [.ptr 4 0,.ptr 2 0,.ptr 0 0,.ptr 5 0]],by simp,by simp[zG],by simp[qi1,qax,qas,qb2]⟩
  frz:=fun x h=>by cases h }
 simp only[cV,cI,cK,List.append_nil,cH,cU,cG,List.nil_append,Nat.zero_add]at hput;obtain⟨F,hF⟩ : ∃F,F=qa6 (a.1.map qa3):=⟨_,rfl⟩;have hFp:qa9 F=true:=by rw[hF];exact(qbg a.1).pure
 rw[<- hF]at hput;have hcall:=hput.framed (H':=⟨8,[[(6,.cells F),(5,.cells [.func (.func 50) [] [.ptr 4 0,.ptr 2 0,.ptr 0 0,.ptr 5 0]]),(4,.cells [.slc 3 0 t.length (.ex t.length)]),(3,.cells (bls a.2)),(2,.cells [.slc 6 0 a.1.length (.rest 7)]),(1,.cells [.nilS]),(0,.cells [qaa t])]]⟩)
  (args:=[.int .i64 (i:Int),.int .i64 (-1),.ptr 4 0,.ptr 2 0,.ptr 0 0,.ptr 5 0]) hfh (by simp[qax,qas,qb2,qab]) (by
  refine⟨by simp,fun _ _=>by simp[Heap.ents],?_⟩;intro e he;obtain⟨τ,hτ⟩ : ∃τ,τ=qje [(0,0),(2,2),(3,3),(4,4),(5,5)] 6 8:=⟨_,rfl⟩;have t8:τ 8=6/\τ 0=0/\τ 2=2/\τ 3=3/\τ 4=4/\τ 5=5:=by rw[hτ];simp[qje,qf1]
  have hb2:=qcd τ hb';have hF2:=qcd τ hFp;have hT2:=qif τ hN;simp only[Heap.ents,List.flatten_cons,List.flatten_nil,List.append_nil,List.mem_cons,List.not_mem_nil,or_false]at he;rcases he with rfl|rfl|rfl|rfl|rfl|rfl|rfl
  ·exact .inl ⟨(8,.cells F),by simp[Heap.ents,cR],by simp only[<- hτ,t8,qn0,hF2]⟩
  ·exact .inl ⟨(5,.cells [.func (.func 50) [] [.ptr 4 0,.ptr 2 0,.ptr 0 0,.ptr 5 0]]),by simp[Heap.ents,cR],by simp only[<- hτ,t8,qn0,qho,qja]⟩
  ·exact .inl ⟨(4,.cells [.slc 3 0 t.length (.ex t.length)]),by simp[Heap.ents,cR],by simp only[<- hτ,t8,qn0,qho,qja]⟩
  ·exact .inl ⟨(3,.cells (bls a.2)),by simp[Heap.ents,cR],by simp only[<- hτ,t8,qn0,hb2]⟩
  ·exact .inl ⟨(2,.cells [.slc 8 0 a.1.length (.rest 7)]),by simp[Heap.ents,cR],by simp only[<- hτ,t8,qn0,qho,qja]⟩
  ·exact .inr ⟨by simp[Heap.ents],by simp⟩
  ·exact .inl ⟨(0,.cells [qaa t]),by simp[Heap.ents,cR],by simp only[<- hτ,t8,qn0,qho,hT2]⟩) (by simp)
 simp only[qja,qho]at hcall;refine qa0 (s0:=⟨[0,1,2,4,5,6,7],[qav t,.int .i64 (i:Int),uD,uD,uD,uD,uD],[],17,⟨0,[[]]⟩⟩) Tryz.func35 rfl rfl rfl ?_;apply rA_;simp[zS,qav];apply rA_;simp[zS];apply rA_;simp[zS,lenT,hmk,qcb,Heap.new,pushF];apply rA_;simp[zS];apply rA_;simp[zS,qcb];repeat apply wq
 refine qah (qbh [⟨50,_,_,_,_,hcall⟩]) ?_;simp[zS,qcc,qcb];apply rA_;simp[zS,qcb];apply qa5;simp[zQ,Tryz.f35,readCells,zG,qex,qew];have el:=qbg a.1;have hl:=el.len;rw[List.length_map]at hl;have hsz:=el.size;rw[<- hF]at hl;show ∃σ Φ,qas σ Φ _ (.agg [.fslc 7 (a.1.map qa3)])/\_;refine⟨[],[(6,F)],?_,?_⟩
 ·simp only[qas,qax,qca,if_true];exact .inl ⟨.inl ⟨F,rfl,by unfold qex;rw[List.drop_zero,<- hl,qco,hF],by simp,hsz⟩,trivial⟩
 ·exact {
   nd1:=by simp
   nd2:=by simp
   nd3:=by simp[Heap.ents]
   lt:=by simp
   idn:=by simp
   num:=by simp
   src:=by intro e he;simp[Heap.ents]at he
   frz:=fun y hy=>by simp at hy;subst hy;exact⟨F,by simp[zG],qak hFp,hFp⟩ }
theorem zb4{T:List (Entry PG)} (hC:qIn 51 T e51) (t:Tr) (ht:okT t) (hne:t≠[]) :
  CA T 20 [qav t] zH (qav (qd2 t)) zH:=by
 have hpos:0 < t.length:=List.length_pos_iff.2 hne;have hz:¬ (t.length:Int)=0:=by omega
 have lenT:∀H,qf6 PG H 22 (qaa t)=some t.length:=fun H=>by simp[qf6]
 have hco:∀H,CA T 35 [qav t,.int .i64 0] H (qav (qd2 t)) H:=fun H=>(zgc hC t ht 0 hpos).lift (by simp[qa9,qab]) H;refine qa0 (s0:=⟨[0,1,2],[qav t,uD,uD],[],10,⟨0,[[]]⟩⟩) Tryz.func20 rfl rfl rfl ?_;apply rA_;simp[zS,qav];apply rA_;simp[zS,lenT,hz];refine qag (by simp[qbp,St.get,qd5,hz,hne]) ?_;apply qa4;simp only[qam];have hc1:=hco ⟨2,[[(1,.cells [.nilS]),(0,.cells [qaa t])]]⟩;repeat apply wq
 refine qah (qbh [⟨35,_,_,_,_,hc1⟩]) ?_;simp[zS,qcc,qav,qcb];apply qa5;simp[zQ,Tryz.f20,readCells,zG,qex,qew];exact qa2 (by simp[qab,qa9]) rfl
theorem c20{T:List (Entry PG)} (hC:qIn 51 T e51) (t:Tr) (h:okT t) (hne:t≠[]):CA T 20 [qav t] zH (qav (qd2 t)) zH:=zb4 hC t h hne
theorem inj_20(x y:Tr) (h:(fun z:Tr=>([qav z]:List AV)) x=(fun z:Tr=>([qav z]:List AV)) y):x=y:=by simp only[List.cons.injEq,and_true]at h;exact qfd h
def e20:Entry PG:=mkE 20 [[7]] (fun z:Tr=>[qav z]) (fun z=>(okT z)/\(z≠[])) (fun z=>qav (qd2 z)) fun z h=>c20 (T:=[e51]) rfl z h.1 h.2
theorem k20{T:List (Entry PG)} (hT:qIn 20 T e20) (t:Tr) (h:okT t) (hne:t≠[]) (H:Heap):qb6 (ctx T) (.fn 20) [qav t] H=some (qav (qd2 t),H):=
 qd1 hT inj_20 (t) ⟨h,hne⟩ (by simp[qa9,qab,qan]) (by simp[qan]) H
theorem zcz{t:Tr} (h:qbx t=true):(qd2 t).length<=t.length:=by rw[(qko h).len];exact qps
theorem c9{T:List (Entry PG)} (hc0:qIn 52 T e52) (hc1:qIn 53 T e53) (hc2:qIn 54 T e54) (hc3:qIn 55 T e55) (hc4:qIn 51 T e51) (hc5:qIn 154 T e154) (hc6:qIn 124 T e124) (hc7:qIn 125 T e125) (hc8:qIn 128 T e128) (hc9:qIn 57 T e57) (hc10:qIn 58 T e58) (hc11:qIn 20 T e20) (t:Tr) (h:qbx t=true) (ho:okT t) (hv:LookOk (qd2 t)) (hl:t.length<=900):CA T 9 [qav t] zH (qav (qgg t)) zH:=by have kc11:=@k20 T hc11;exact tree_at ⟨hc0,hc1,hc2,hc3,hc4,hc5,hc6,hc7,hc8,hc9,hc10⟩ h hv (by have:=zcz h;omega) (fun H=>kc11 t ho (qt7 h) H)
def e9:Entry PG:=mkE 9 [[7]] (fun z:Tr=>[qav z]) (fun z=>(qbx z=true)/\(okT z)/\(LookOk (qd2 z))/\(z.length<=900)) (fun z=>qav (qgg z)) fun z h=>c9 (T:=[e52,e53,e54,e55,e51,e154,e124,e125,e128,e57,e58,e20]) rfl rfl rfl rfl rfl rfl rfl rfl rfl rfl rfl rfl z h.1 h.2.1 h.2.2.1 h.2.2.2
theorem k9{T:List (Entry PG)} (hT:qIn 9 T e9) (t:Tr) (h:qbx t=true) (ho:okT t) (hv:LookOk (qd2 t)) (hl:t.length<=900) (H:Heap):qb6 (ctx T) (.fn 9) [qav t] H=some (qav (qgg t),H):=
 qd1 hT inj_20 (t) ⟨h,ho,hv,hl⟩ (by simp[qa9,qab,qan]) (by simp[qan]) H
theorem few_okN{t:Tr} {m:Int} (h:qkz t m=true):∀n,n∈t->okN n:=by simp only[qkz,Bool.and_eq_true,decide_eq_true_eq,List.all_eq_true]at h;intro n hn;have:=h.2 n hn;simp only[ql0,qk1,Bool.and_eq_true,decide_eq_true_eq,List.all_eq_true]at this;refine⟨by omega,by omega,by omega,fun a ha=>?_⟩;have ha:=this.2.2.2.2 a ha;simp only[qqo,decide_eq_true_eq]at ha;omega
theorem zeg{t:Tr} (h:qrb t 40=true):qbx t=true/\okT t/\LookOk (qd2 t)/\t.length<=40/\zdg t/\∀n,n∈t->okN n:=by unfold qrb at h;simp only[Bool.and_eq_true]at h;obtain⟨q,hr⟩:=h;have hs:=qwh (by omega) q;have hn:=few_okN q;have q2:=q;simp only[qkz,Bool.and_eq_true,decide_eq_true_eq,List.all_eq_true]at q2;exact⟨hr,right_ok hr hs.2 hn,zej hr q2.2,by omega,hs,hn⟩
theorem may_tree{T:List (Entry PG)} (hT:qIn 9 T e9) {t:Tr} (h:qrb t 40=true) (H:Heap):qb6 (ctx T) (.fn 9) [qav t] H=some (qav (qgg t),H):=by obtain⟨a,b,c,d,_⟩:=zeg h;exact k9 hT t a b c (by omega) H
def quc(H:Heap) (args largs:List AV):Bool:=match zgd H 100000 (qrx args largs []) []with
 |some Φ=>qvm (Φ.map (·.1)) && zfj H Φ Φ && qwg Φ args largs
 |none=>false
def litsH(H:Heap) (args:List AV):List (List AV × AV)->Option AV
 |[]=>none
 |x::r=>match quc H args x.1 with
  |true=>some x.2
  |false=>litsH H args r
theorem qvu{H:Heap} {args:List AV} {v:AV}:∀{l:List (List AV × AV)},litsH H args l=some v->∃x,x∈l/\quc H args x.1=true/\x.2=v
 |[],h=>by cases h
 |x::r,h=>by
  unfold litsH at h;split at h
  next hb=>simp only[sj]at h;exact⟨x,by simp,hb,h⟩
  ·obtain⟨y,h1,h2,h3⟩:=qvu h;exact⟨y,by simp[h1],h2,h3⟩
def litsB(f:FuncId) (l:List (List AV × AV)) (h:∀x,x∈l->qgd x.2=true/\CallAt ⟨PG,fun _=>[],fun _=>none⟩ f x.1 zH x.2 zH):Entry PG:=⟨f,fun args H=>match litsH H args l with
 |some v=>some (v,H)
 |none=>none,fun args H v H' hr=>by
  split at hr
  ·rename_i w hw;simp only[sj,Prod.mk.injEq]at hr;obtain⟨rfl,rfl⟩:=hr;obtain⟨x,hx,hb,rfl⟩:=qvu hw;obtain⟨h1,h2⟩:=h x hx;unfold quc at hb;split at hb
   next Φ hc=>simp only[Bool.and_eq_true]at hb;exact h2.borrow h1 (fun _=>FitH.froze (qpw hb.1.1) (qts hb.1.2)) (qms hb.2)
   ·cases hb
  ·cases hr⟩
theorem qqv{T:List (Entry PG)} {f:FuncId} {g:List AV->Heap->Option (AV × Heap)} {args:List AV} {v:AV} (hT:qa8 f T=some g) (h:qb6 (ctx T) (.fn f) args zH=some (v,zH)):CallAt ⟨PG,fun _=>[],fun _=>none⟩ f args zH v zH:=by rw[qiq (C:=ctx T) (g:=g) hT]at h;exact qtx hT args _ _ _ h
def wTr:Nd:=⟨1,0,[116,114],[],[],0,[2]⟩
def wTd:Nd:=⟨1,0,[116,100],[],[],1,[3]⟩
def wP:Nd:=⟨1,0,[112],[],[],2,[4]⟩
def wQ:Nd:=⟨1,0,[112],[],[],3,[5]⟩
theorem zeb{n:Nd} (h:n.attrs=[]) (h2:n.name.length<=10) (h3:n.data=[]):okN n:=⟨by omega,by rw[h];simp,by rw[h3];simp,fun a ha=>by rw[h]at ha;cases ha⟩
theorem okP_n:okP []:=⟨by decide,fun n hn=>by cases hn⟩
theorem okP_w:okP [wP]:=⟨by decide,fun n hn=>by simp at hn;subst hn;exact zeb rfl (by decide) rfl⟩
theorem may_tr:qny [] wTr=false:=by decide +kernel
theorem may_td:qny [] wTd=false:=by decide +kernel
theorem may_p:qny [] wP=true:=by decide +kernel
theorem may_q:qny [wP] wQ=false:=by decide +kernel
theorem chars_w:qfv [wP] [97,10,98]=true:=by decide +kernel
theorem dec_w:qgu [97,13,98]=[97,10,98]:=by decide +kernel
def T34:List (Entry PG):=[
 litsB 58 [([qaa [],qa3 wTr],.bool false),([qaa [],qa3 wTd],.bool false),([qaa [],qa3 wP],.bool true),([qaa [wP],qa3 wQ],.bool false)] (fun x hx=>by
  simp only[List.mem_cons,List.not_mem_nil,or_false]at hx;rcases hx with rfl|rfl|rfl|rfl
  ·exact⟨rfl,by rw[<- may_tr];exact qqv (T:=[e58]) rfl (k58 (T:=[e58]) rfl _ _ okP_n (zeb rfl (by decide) rfl) _)⟩
  ·exact⟨rfl,by rw[<- may_td];exact qqv (T:=[e58]) rfl (k58 (T:=[e58]) rfl _ _ okP_n (zeb rfl (by decide) rfl) _)⟩
  ·exact⟨rfl,by rw[<- may_p];exact qqv (T:=[e58]) rfl (k58 (T:=[e58]) rfl _ _ okP_n (zeb rfl (by decide) rfl) _)⟩
  ·exact⟨rfl,by rw[<- may_q];exact qqv (T:=[e58]) rfl (k58 (T:=[e58]) rfl _ _ okP_w (zeb rfl (by decide) rfl) _)⟩),
 litsB 55 [([qaa [wP],.str [97,10,98]],.bool true)] (fun x hx=>by simp only[List.mem_cons,List.not_mem_nil,or_false]at hx;subst hx;exact⟨rfl,by rw[<- chars_w];exact qqv (T:=[e55]) rfl (k55 (T:=[e55]) rfl _ _ okP_w (by decide) _)⟩),
 litsB 52 [([.fslc 1 [.int .u8 97,.int .u8 13,.int .u8 98]],.str [97,10,98])] (fun x hx=>by simp only[List.mem_cons,List.not_mem_nil,or_false]at hx;subst hx;exact⟨rfl,by rw[<- dec_w];exact c52 (T:=[e144,e72,e73]) rfl rfl rfl [97,13,98] (by decide)⟩)]
theorem awake34:qxs (qqw (ctx T34) 100000 (.fn 7) [] zH)=true:=by decide +kernel
def e7:Entry PG:=mkE 7 [] (fun _:Unit=>[]) (fun _=>True) (fun _=>.bool true) fun _ _=>zc5 awake34
theorem k7{T:List (Entry PG)} (hT:qIn 7 T e7) (H:Heap):qb6 (ctx T) (.fn 7) [] H=some (.bool true,H):=
 qac hT (fun _ _ _=>rfl) () trivial rfl rfl
theorem own_:ownKnob PG.godebug=none:=by kernel_rfl
theorem laid_:laidOutB PG=true:=by kernel_rfl
abbrev qxo : List (String × DataW Unit) := [("unicode/utf8.acceptRanges", Rows.laid_unicode_utf8_acceptRanges), ("unicode/utf8.first", Rows.laid_unicode_utf8_first)]
theorem zbz:(Rows.laid_unicode_utf8_first:DataW Unit)=Lib.tabData .u8 qoi:=by kernel_rfl
theorem qyl:(Rows.laid_unicode_utf8_acceptRanges:DataW Unit)=.agg ((List.range 16).map fun i=>.agg ([utfAcc.getD (2 * i) 0,utfAcc.getD (2 * i+1) 0].map fun z=>.lit (.int .u8 z))):=by kernel_rfl
theorem acc_len:utfAcc.length=32:=by decide +kernel
theorem gFirst : PG.globalNamed "unicode/utf8.first" = some (0) := by kernel_rfl
theorem gAcc : PG.globalNamed "unicode/utf8.acceptRanges" = some (1) := by kernel_rfl
theorem tFirst:(PG.globals[0]?).map (·.type)=some 129:=by kernel_rfl
theorem tAcc:(PG.globals[1]?).map (·.type)=some 133:=by kernel_rfl
theorem qu7:PG.cellsOf 5=1:=by kernel_rfl
theorem zgj:PG.cellsOf 129=256:=by kernel_rfl
theorem qwt:PG.cellsOf 132=2:=by kernel_rfl
theorem pins_met{W:World} (hL:laidMetH PG qxo W):∀x,x∈pins->∀i n,x.2[i]? = some n->W.cell? ⟨x.1,i,none⟩=some (.int .u8 n):=by
 rw[MakeChecks.laidMetH_plain _ _ _ (by kernel_rfl)]at hL
 have r1 := Lib.laidMet.reads hL (n := "unicode/utf8.first") (d := Rows.laid_unicode_utf8_first) (by simp)
 have r2 := Lib.laidMet.reads hL (n := "unicode/utf8.acceptRanges") (d := Rows.laid_unicode_utf8_acceptRanges) (by simp)
 rw[zbz]at r1;rw[qyl]at r2;intro x hx i n hn;simp only[pins,List.mem_cons,List.not_mem_nil,or_false]at hx;rcases hx with rfl|rfl
 ·obtain⟨g,t,cs,fuel,p,hg,hty,hvar,hd⟩:=r1;obtain rfl:=Option.some.inj (gFirst.symm.trans hg);obtain rfl:=Option.some.inj (tFirst.symm.trans hty);have hcs:=Lib.cells_of_tab Tryz.underlying129 Tryz.underlying5 qu7 zgj hd;rw[World.var?_cell hg hvar i,<- Array.getElem?_toList,hcs,List.getElem?_map,hn];rfl
 ·obtain⟨g,t,cs,fuel,p,hg,hty,hvar,hd⟩:=r2;obtain rfl:=Option.some.inj (gAcc.symm.trans hg);obtain rfl:=Option.some.inj (tAcc.symm.trans hty);have hi:i < 32:=by have:=(List.getElem?_eq_some_iff.1 hn).1;rw[acc_len]at this;exact this
  obtain⟨fuel',d,q,hdi,he⟩:=Lib.array_elem Tryz.underlying133 hd (i / 2) (by omega);simp only[List.getElem?_map,List.getElem?_range (show i / 2 < 16 by omega),Option.map_some,sj]at hdi;subst hdi;rw[qwt]at he;have hcs:=Lib.ints_of_struct Tryz.underlying132 (fun j f hj=>by
   match j,hj with
   |0,hj=>simp at hj;subst hj;exact⟨Tryz.underlying5,rfl,qu7⟩
   |1,hj=>simp at hj;subst hj;exact⟨Tryz.underlying5,rfl,qu7⟩
   |j+2,hj=>simp at hj) (by rw[qwt];rfl) he
  have hn':utfAcc.getD i 0=n:=by simp[List.getD_eq_getElem?_getD,hn]
  rw[World.var?_cell hg hvar i,<- Array.getElem?_toList];rcases Nat.mod_two_eq_zero_or_one i with h2|h2
  ·have e0:=congrArg (·[0]?) hcs;simp only[List.getElem?_take,List.getElem?_drop]at e0;have hidx:i / 2 * 2+0=i:=(by omega);have hidx2:2 * (i / 2)=i:=(by omega);rw[hidx]at e0;simpa[hidx2,hn',<- List.getD_eq_getElem?_getD]using e0
  ·have e1:=congrArg (·[1]?) hcs;simp only[List.getElem?_take,List.getElem?_drop]at e1;have hidx:i / 2 * 2+1=i:=(by omega);have hidx2:2 * (i / 2)+1=i:=(by omega);rw[hidx]at e1;simpa[hidx2,hn',<- List.getD_eq_getElem?_getD]using e1
theorem hgs{W:World} (hsh:W.ShapedOpen PG) (hL:laidMetH PG qxo W):GlobsIn W where
 gl:=by intro g h;simp[globs]at h;subst h;exact cell_of_shapedOpen_int (P:=PG) (g:=2) (t:=3) (zero:=#[.int .i64 0]) hsh (of_decide_eq_true (by kernel_rfl)) (by kernel_rfl) rfl (by kernel_rfl) (by kernel_rfl) Tryz.underlying3
 gi:=by intro g h;simp[ivars]at h
 gp:=pins_met hL
 gx:=by intro x h;simp[tabs]at h
def doorW(os:Os):World:=
 let w0:=World.doorLaid PG 4000 os
 { w0 with heap:=w0.heap.modify 0 fun
  |.cells _ t frozen=>.cells (Lib.firstTab.map fun z=>Value.int .u8 z).toArray t frozen
  |o=>o }
theorem door_met(os:Os) (args:Array Value):laidMetH PG qxo ((doorW os).forCall (fun _ _=>0) ⟨#[],args,[]⟩).memory:=
 laidMetH_of_parts3 (fuel:=8) (laidMet_of_run' 8 (by kernel_rfl) (by kernel_rfl)) (by kernel_rfl) (by kernel_rfl)
theorem qy7(os:Os) (args:Array Value):((doorW os).forCall (fun _ _=>0) ⟨#[],args,[]⟩).Shaped PG:=World.shaped_of_RefB (by kernel_rfl) (by kernel_rfl)
theorem qm9{H:Type} {enc:TypeId × Value->H} {a:Assume} {C:Checked} {os:Os} {f:FuncId} {fn:Func} {s:ChangeSpec} {conds:List PathCond} {apart fresh handsOn again:Bool} {X:World->Array Value->Prop}
  (hX:∀(w w':World) (args:Array Value),w.heap=w'.heap->X w args->X w' args)
  (own:ownKnob C.prog.godebug=none) (started:os.Started) (noInit:C.prog.inits.idxOf? f=none) (hfn:C.prog.funcs[f]? = some fn)
  (witness:∃(w:World) (tape:Tape) (i:Input),w.os=os/\(w.forCall tape i).Shaped C.prog/\i.vars=[]/\Input.okWide C.prog (w.forCall tape i) .any w.heap.size f i /\
   ((s.pre enc C.prog fn conds apart (w.forCall tape i).memory i.args/\X (w.forCall tape i).memory i.args)/\sizedMet enc C.prog fn (OpenSpec.ofChange s) apart (w.forCall tape i).memory i.args)/\a.holds C.prog (lone (Frame.enter C.prog f i.args .normal) [] (w.forCall tape i)))
  (contract:∀(W:World) (base:Nat) (args:Array Value) (ds gs:List (DataW H)) (before:List MemPlace),
   (∀(j:Nat) t v,fn.params[j]? = some t->args[j]? = some v->Value.okWide C.prog W .any base t v) ->
   DataW.Whole enc C.prog fn.params.toList s.vars apart W args.toList ds gs before->W.ShapedOpen C.prog->X W args ->
   Calls C.prog f args W fun e W'=>∃v,e=.returned v/\s.post enc C.prog fn apart fresh handsOn again W args v W') :
  ReturnsInHanded a C os f .any (fun w args=>(s.pre enc C.prog fn conds apart w args/\X w args)/\sizedMet enc C.prog fn (OpenSpec.ofChange s) apart w args) (s.post enc C.prog fn apart fresh handsOn again):=by
 refine returnsInHanded_of_calls own started noInit witness ?_;intro w tape i _ hsh _ hok hpre hholds;obtain⟨_,_,_,fn',hfn',_,_,_,_,hval⟩:=hok;have e:fn'=fn:=Option.some.inj (hfn'.symm.trans hfn);subst e;obtain⟨⟨⟨ds,gs,before,hw,hc⟩,hx⟩,hz⟩:=hpre;have hw':=DataW.Whole.of_heap (w':=w.forCall tape i) (by rfl) hw;refine(contract (w.forCall tape i) w.heap.size i.args ds gs before hval hw' hsh (hX _ _ _ (by rfl) hx)).mono fun e W' ⟨v,he,hp⟩=>?_;subst he;exact ChangeSpec.post_blind hp
set_option maxHeartbeats 1000000
theorem zfd(L:List At1) (nm:Str):(qh2 nm L).isSome = !decide (qih L nm < 0):=by
 unfold qih;rcases qiz (nm:=nm) L 0 with⟨h1,h2⟩|⟨i,hi,h1,h2,h3⟩
 ·rw[h1,h2];rfl
 ·rw[h1,h2];have:¬ ((0+i:Nat):Int) < 0:=by omega
  simp
theorem c61{T:List (Entry PG)} (hG:qIn 99 T e99) (L:List At1) (a:At1) (hl:L.length<=900):CA T 61 [qaf L,qbw a] zH (qaf (qob L a)) zH:=by
 refine CallAt.froze (es:=(qob L a).map qbw) (qe7 _) ?_;have happ0:=qkt (P:=PG) (elem:=71) (b:=1) (m:=2) (es:=L.map qbw) (g:=[(0,.cells [.str a.1,.str a.2])]) (fs:=[]) zaw zca zao rfl (by omega) (by omega) (qe7 _) (qhb _) (by simp;omega);have hgp:=zfd L a.1;refine qa0 (s0:=⟨[0,1,3,4,5,7],[qaf L,qbw a,uD,uD,uD,uD],[],25,⟨0,[[]]⟩⟩) Tryz.func61 rfl rfl rfl ?_;apply rA_;simp[zS,qbw];have e0:qaf L=.fslc 2 (L.map qbw):=rfl;rw[<- e0]at happ0;apply rA_;simp[zS,happ0];repeat apply wq
 refine .fit (s':=(⟨[0,1,3,4,5,7],[qaf L,uD,.ptr 0 0,.nilS,qcx 2 2 (L.map qbw),uD],[],25,⟨3,[qdd 2 (L.map qbw)++[(0,Blk.cells [.str a.1,.str a.2])]]⟩⟩ : St)) [(2,2),(0,0)] [] ⟨rfl,rfl,rfl,?_,.canonS (b:=2) (g:=[(0,.cells [.str a.1,.str a.2])]) (g0:=[(1,.cells []),(0,.cells [.str a.1,.str a.2])]) (qe7 _) (by simp) (by simp) (by simp[qi1,qax,qas,qab]) (by simp)⟩ ?_
 ·simp[qax,qas,qb2,fitV_lit,qaf,qab]
 ·have hp:=k99 hG (L:=L) a.1 (show L.length<=1000 by omega) (H:=⟨3,[qdd 2 (L.map qbw)++[(0,.cells [.str a.1,.str a.2])]]⟩) (qid _ L);have hg:getF 0 (qdd 2 (L.map qbw)++[(0,.cells [.str a.1,.str a.2])])=some (.cells [.str a.1,.str a.2]):=by cases L<;>rfl
  unfold qxy at hp;apply rA_;simp[zS,hp,hg];apply rA_;simp[zS];refine qb0 rfl (fun h=>?_) fun h=>?_
  ·have h':qih L a.1 < 0:=(by simp at h;simp[h]at hgp;exact hgp);have happ:=qgz (P:=PG) (elem:=71) (b:=2) (t:=3) (m:=4) (es:=L.map qbw) (cs:=[.str a.1,.str a.2]) (g:=[(0,.cells [.str a.1,.str a.2])]) (fs:=[]) zaw zca zao rfl (by omega) (by omega) rfl rfl (qe7 _) (by simp;omega) (by simp) (by simp);apply rA_;simp[zS,hg,happ];apply rA_;simp[zS];apply qa5;simp[zQ,Tryz.f61];have e:qob L a=L++[a]:=if_pos h';have e2:(qob L a).map qbw=L.map qbw++[qbw a]:=(by rw[e];simp);exact qks (b:=4) (es:=(qob L a).map qbw) (qe7 _) (by rw[e2];simp) (by rw[e2];simp) (by rw[e2,qbj];simp[zG,qa6,Heap.new,pushF,qbw])
  ·have h':¬ qih L a.1 < 0:=(by simp at h;intro hlt;rw[h]at hgp;simp[hlt]at hgp);apply qa4;simp;apply rA_;simp[zS];apply qa5;simp[zQ,Tryz.f61];have e:qob L a=L:=if_neg h';rw[e];cases L with
   |nil=>exact qio (.inr (.inl rfl))
   |cons b r=>exact qks (b:=2) (es:=(b::r).map qbw) (qe7 _) (by simp) rfl (by simp[zG,qdd])
def e61:Entry PG:=mkE 61 [[2],[0,0]] (fun x:List At1 × At1=>[qaf x.1,qbw x.2]) (fun x=>x.1.length<=900) (fun x=>qaf (qob x.1 x.2)) fun x hx=>c61 (T:=[e99]) rfl x.1 x.2 hx
theorem k61{T:List (Entry PG)} (hT:qIn 61 T e61) {L:List At1} {a:At1} (hl:L.length<=900) (H:Heap):qb6 (ctx T) (.fn 61) [qaf L,qbw a] H=some (qaf (qob L a),H):=
 qd1 hT (fun x y h=>by simp only[List.cons.injEq,and_true]at h;exact Prod.ext (qeg h.1) (qqa h.2)) (L,a) hl (by simp[qa9]) (by simp[qgb,qan]) H
theorem c39{T:List (Entry PG)} (hD:qIn 60 T e60) (hS:qIn 43 T e43) (hA:qIn 61 T e61) (n:Nd) (hn:okM n) :
  CA T 39 [qa3 n] zH (qaf (qic n)) zH:=by
 obtain⟨hn,ha,hv⟩:=hn;refine qa0 (s0:=⟨[0,1,2,3,4,5,6],[qa3 n,uD,uD,uD,uD,uD,uD],[],34,⟨0,[[]]⟩⟩) Tryz.func39 rfl rfl rfl ?_;have g3:qck n.cs 3=some (qaf n.attrs):=rfl;apply rA_;simp[zS,qaq];apply rA_;simp[zS];apply rA_;simp[zS];refine qa7 (qb1 (fun x:Nat × List At1=>(⟨[0,1,2,3,4,5,6],[uD,.ptr 0 0,.nilS,qaf x.2,.int .i64 (x.1:Int),uD,uD],[],34,⟨1,[[(0,.cells n.cs)]]⟩⟩ : St))
  (fun x=>x.1<=n.attrs.length/\x.2.length<=x.1/\qj7 n x.2 (n.attrs.drop x.1)=qic n) (fun x=>n.attrs.length - x.1) [(0,0)] [] (0,[]) ⟨Nat.zero_le _,Nat.le_refl _,rfl⟩
  ⟨rfl,rfl,rfl,by simp[qax,qas,qb2,qab,qa9,qaf],qsd rfl⟩ ?_)
 rintro⟨i,L⟩ ⟨hi,hL,hx⟩ B hB;simp only at hi hL hx ⊢;by_cases h:i < n.attrs.length
 ·have hc:(i:Int) < (n.attrs.length:Int):=by omega
  have hat:=atA h;have hmem:=List.getElem_mem h;have hav:=hn.2.2.2 _ hmem;have hvv:=hv _ hmem;rw[List.drop_eq_getElem_cons h]at hx;obtain⟨d,hd⟩ : ∃d,d=qgu n.attrs[i].2:=⟨_,rfl⟩;have hdl:=qi3 _ n.attrs[i].2 (Nat.le_refl _);rw[<- hd]at hdl;have kd:=fun(H:Heap) (b:Nat) (cap:Cap) (hb:H.get b=some (.cells (qad n.attrs[i].2)))=>k60 hD (s:=n.attrs[i].2) (cap:=cap) (b:=b) (by omega) H hb;have cv:=fun H=>convG (H:=H) (s:=n.attrs[i].2) (by omega);rw[<- hd]at kd;have hone:okN (qkw n (n.attrs[i].1,d)):=⟨hn.1,by simp[qkw],hn.2.2.1,fun a ha=>by simp[qkw]at ha;subst ha;exact⟨hav.1,by simp only;omega⟩⟩;have ks:=fun H=>k43 hS (qkw n (n.attrs[i].1,d)) hone H;have kA:=fun H=>k61 hA (L:=L) (a:=(n.attrs[i].1,d)) (by omega) H;have hac:=qbb (show i<=1000000000 by omega);have hx2:(if qg8 (qkw n (n.attrs[i].1,d))=true then qj7 n (qob L (n.attrs[i].1,d)) (n.attrs.drop (i+1)) else qj7 n L (n.attrs.drop (i+1)))=qic n:=by rw[<- hx,qj7,<- hd];rfl
  generalize qg8 (qkw n (n.attrs[i].1,d))=b1 at *;generalize n.attrs[i]=a at *;apply rA_;simp[zS,g3,qh1,hc,h];apply qai rfl;apply qa4;simp;repeat apply wq
  apply qa7;apply rA_;simp[zS,g3,hat];have kd0:=kd ⟨3,[[(2,.cells (qad a.2)),(1,.cells [.str a.1,.str a.2]),(0,.cells n.cs)]]⟩ 2 (.rest 1) rfl;apply rA_;simp[zS,cv,kd0,qcb];apply rA_;simp[zS];have hlay:qh7 [.slc 4 0 1 (.ex 1)] 3 n.cs=some [qb9 n.kind,qb9 n.space,.str n.name,.slc 4 0 1 (.ex 1),.str n.data,qb9 n.up,qbc n.kids]:=rfl;apply rA_;simp[zS,hlay,qcb];refine WpSr.fit [(3,2),(1,1),(0,0)] [(4,[.str a.1,.str d])] (s':=(⟨[0,1,2,3,4,5,6],[uD,.ptr 0 0,.nilS,qaf L,.int .i64 (i:Int),.ptr 1 0,.ptr 2 0],[],34,⟨3,[[(2,.cells (qkw n (a.1,d)).cs),(1,.cells [.str a.1,.str d]),(0,.cells n.cs)]]⟩⟩ : St)) ⟨rfl,rfl,rfl,by simp[qax,qas,qb2,qab,qa9,qaf],fit_at (a:=(a.1,d)) rfl rfl rfl rfl⟩ ?_;have hat1:AV.agg [.str a.1,.str d]=qbw (a.1,d):=rfl;apply rA_;simp[zS,ks,qaq];cases b1 with
  |true=>apply qai rfl;apply rA_;simp[zS,hat1,kA];apply rA_;simp[zS,hac];exact hB _ (i+1,qob L (a.1,d)) (by simp only;omega) ⟨by simp only;omega,by have:=qui L (a.1,d);simp only;omega,by simpa using hx2⟩ ⟨[(0,0)],[],rfl,rfl,rfl,by simp[qax,qas,qb2,qab,qa9,qaf],qsd rfl⟩
  |false=>apply qag rfl;apply qa4;apply rA_;simp[zS,hac];exact hB _ (i+1,L) (by simp only;omega) ⟨by simp only;omega,by simp only;omega,by simpa using hx2⟩ ⟨[(0,0)],[],rfl,rfl,rfl,by simp[qax,qas,qb2,qab,qa9,qaf],qsd rfl⟩
 ·have hc:¬ (i:Int) < (n.attrs.length:Int):=by omega
  apply rA_;simp[zS,g3,qh1,hc,h];apply qag rfl;apply qar;simp;apply rA_;simp[zS];have he:L=qic n:=by rw[<- hx,List.drop_eq_nil_of_le (by omega)];rfl
  apply qa5;simp[zQ,Tryz.f39];exact⟨[],[],by rw[he];exact qb5 (by simp),za8 _⟩
def e39:Entry PG:=mkE 39 [[0,0,0,2,0,0,1]] (fun z:Nd=>[qa3 z]) (fun z=>(okM z)) (fun z=>qaf (qic z)) fun z h=>c39 (T:=[e60,e43,e61]) rfl rfl rfl z h
theorem k39{T:List (Entry PG)} (hT:qIn 39 T e39) (n:Nd) (h:okM n) (H:Heap):qb6 (ctx T) (.fn 39) [qa3 n] H=some (qaf (qic n),H):=
 qd1 hT inj_92 (n) h (by simp[qa9,qab,qan]) (by simp[qan]) H
theorem c59{T:List (Entry PG)} (hc0:qIn 60 T e60) (t:Tr) (i:Nat) (s:Str) (hi:i < t.length) (hs:s.length<=300000):CA T 59 [qav t,.int .i64 ((i:Nat):Int),.str s] zH (.str (qgn t i s)) zH:=by
 have kc0:=@k60 T hc0;have hix:=atX (t:=t) (i:=(i:Int)) (by omega) (by omega);obtain⟨n,hn⟩ : ∃n,n=qa1 t i:=⟨_,rfl⟩;obtain⟨R,hR⟩ : ∃R,R=qgn t i s:=⟨_,rfl⟩;have hR':(if qmc n=true then qgm (qgu s) else qgu s)=R:=by rw[hR,hn];rfl
 rw[<- hR];rw[<- hn]at hix;have cv:=fun H=>convG (H:=H) (s:=s) (by omega);have kd:=fun(H:Heap) (b:Nat) (cap:Cap) (hb:H.get b=some (.cells (qad s)))=>kc0 (s:=s) (cap:=cap) (b:=b) (by omega) H hb;have hdl:=qi3 _ s (Nat.le_refl _);generalize qgu s=d at *;clear hR kc0;have e0:qck n.cs 0=some (.int .i64 n.kind):=rfl;have e1:qck n.cs 1=some (.int .i64 n.space):=rfl;have e2:qck n.cs 2=some (.str n.name):=rfl;have e6:qck n.cs 6=some (qbc n.kids):=rfl;refine qa0 (s0:=⟨[0,1,2,3,6,7],[qav t,.int .i64 (i:Int),.str s,uD,uD,uD],[],52,⟨0,[[]]⟩⟩) Tryz.func59 rfl rfl rfl ?_;apply rA_;simp[zS,qav];have kd0:=kd ⟨2,[[(1,.cells (qad s)),(0,.cells [qaa t])]]⟩ 1 (.rest 1) rfl;apply rA_;simp[zS,cv,kd0];clear kd kd0 cv;apply rA_;simp[zS,hix,qaq];repeat apply wq
 refine qa7 (qb1 (fun x:Str=>(⟨[0,1,2,3,6,7],[uD,uD,.str x,uD,.str [],.fptr n.cs 0],[],52,⟨0,[[]]⟩⟩ : St))
  (fun x=>x.length<=d.length/\(if qmc n=true then qgm x else x)=R) (fun x=>x.length) [] [(2,n.cs)] d ⟨Nat.le_refl _,hR'⟩ ⟨rfl,rfl,rfl,?_,?_⟩ ?_)
 ·simp[qax,qas,qca,qab,qa9]
 ·refine FitH.fsV (.froze (by simp) fun x hx=>?_) rfl;simp at hx;subst hx;exact⟨n.cs,by simp[zG],qak (qe4 n),qe4 n⟩
 clear hR' hix hn;rintro x ⟨hl,hx⟩ B hB;cases x with
 |nil=>
  (repeat' (first
   |with_reducible apply qal
   |(with_reducible apply rE;simp[zS, *,e0,e1,e2,e6,ql8];exact rfl)
   |(with_reducible apply qay;simp only[qam,qaj])
   |(with_reducible refine qb7 (fun hc=>?_) (fun hc=>?_)<;>(have hd:=hc;(try simp at hd);(try subst hd);apply qfx;simp[zS, *,e0,e1,e2,e6,ql8];exact rfl))
   |apply qag rfl
   |(with_reducible apply qar;simp)
   |(with_reducible apply qa5;simp[zQ,Tryz.f59])))
  all_goals first|exact qa2 rfl (by rw[<- hx];simp[qgm])|(exfalso;omega)
 |cons c r=>
  have i0:qhy PG 9 (.str (c::r)) (.int .i64 0)=some (.int .u8 c.toNat):=rfl;have h11:idx ((1:Nat):Int) (Nat.succ (c::r).length)=some 1:=qbv (by simp);have s1:∀H,qdx PG H 9 (.str (c::r)) (some (.int .i64 1)) none none=some (.str r):=fun H=>by have h12:idx (1:Int) (Nat.succ (c::r).length)=some 1:=h11;simp only[qdx,qzw,Tryz.underlying9,Option.bind_some,qd4,h12];simp
  clear h11;have hcn:((c.toNat:Int)=10)↔c=10:=by
   constructor
   ·intro h;have:c.toNat=10:=(by omega);exact UInt8.toNat_inj.1 this
   ·rintro rfl;rfl
  have ht:qgm (c::r)=if c=10 then qgm r else c::r:=rfl;rw[ht]at hx
  (repeat' (first
   |with_reducible apply qal
   |with_reducible apply qa7
   |(with_reducible apply rE;simp[zS, *,e0,e1,e2,e6,ql8,i0,s1,hcn];exact rfl)
   |(with_reducible apply qay;simp only[qam,qaj])
   |(with_reducible refine qb7 (fun hc=>?_) (fun hc=>?_)<;>(have hd:=hc;(try simp at hd);(try subst hd);apply qfx;simp[zS, *,e0,e1,e2,e6,ql8,i0,s1,hcn];exact rfl))
   |apply qag rfl
   |(refine qb0 rfl (fun hc=>?_) (fun hc=>?_)<;>(have hd:=hc;(try simp at hd);(try subst hd)))
   |(with_reducible apply qa4;simp only[qam,qaj])
   |(with_reducible apply qar;simp)
   |(with_reducible apply qa5;simp[zQ,Tryz.f59])))
  all_goals first|exact qa2 rfl (by rw[<- hx];simp_all [qmc])|(exact hB _ r (by simp) ⟨by simp at hl;omega,by rw[<- hx];simp_all [qmc]⟩ ⟨[],[],⟨rfl,rfl,rfl,by simp[qax,qas,qab,qa9],FitH.nothing⟩⟩)|(exfalso;omega)
theorem inj_59(x y:Tr × Nat × Str) (h:(fun z:Tr × Nat × Str=>([qav z.1,.int .i64 ((z.2.1:Nat):Int),.str z.2.2]:List AV)) x=(fun z:Tr × Nat × Str=>([qav z.1,.int .i64 ((z.2.1:Nat):Int),.str z.2.2]:List AV)) y):x=y:=by obtain⟨x0,x1,x2⟩:=x;obtain⟨y0,y1,y2⟩:=y;simp only[List.cons.injEq,and_true]at h;obtain⟨h0,h1,h2⟩:=h;have g0:x0=y0:=qfd h0;have g1:x1=y1:=(by have:=(AV.int.inj h1).2;omega);have g2:x2=y2:=AV.str.inj h2;subst g0 g1 g2;rfl
def e59:Entry PG:=mkE 59 [[7],[],[]] (fun z:Tr × Nat × Str=>[qav z.1,.int .i64 ((z.2.1:Nat):Int),.str z.2.2]) (fun z=>(z.2.1 < z.1.length)/\(z.2.2.length<=300000)) (fun z=>.str (qgn z.1 z.2.1 z.2.2)) fun z h=>c59 (T:=[e60]) rfl z.1 z.2.1 z.2.2 h.1 h.2
theorem q59{T:List (Entry PG)} (hT:qIn 59 T e59) {H:Heap} {a0:AV} {t:Tr} (b0:qe9 H [7] a0=some (qav t)) (i:Nat) (s:Str) (hi:i < t.length) (hs:s.length<=300000):qb6 (ctx T) (.fn 59) [a0,.int .i64 ((i:Nat):Int),.str s] H=some (.str (qgn t i s),H):=
 qac hT inj_59 (t,i,s) ⟨hi,hs⟩ rfl (by simp[b0])
section
variable {P:Program} {H:Heap} {t elem:TypeId} {b n:Nat} {cs:List AV}
end
theorem zaa(L:List Int) (i:Nat):L.eraseIdx i=L.take i++L.drop (i+1):=List.eraseIdx_eq_take_drop_succ L i
structure Wrote (cb:Nat) (v v':World):Prop where
 size:v'.heap.size=v.heap.size
 keep:∀j,j≠cb->v'.heap[j]? = v.heap[j]?
 os:v'.os=v.os
 tape:v'.tape=v.tape
 output:v'.output=v.output
 some:∀k,(v.cell? ⟨cb,k,none⟩).isSome=true->(v'.cell? ⟨cb,k,none⟩).isSome=true
 fz:∀k,v'.frozen? ⟨cb,k,none⟩=v.frozen? ⟨cb,k,none⟩
theorem Wrote.trans{cb:Nat} {u v w:World} (h:Wrote cb u v) (k:Wrote cb v w):Wrote cb u w:=
 ⟨k.size.trans h.size,fun j hj=>(k.keep j hj).trans (h.keep j hj),k.os.trans h.os,k.tape.trans h.tape,k.output.trans h.output,fun j hj=>k.some j (h.some j hj),fun j=>(k.fz j).trans (h.fz j)⟩
theorem Wrote.drew{cb:Nat} {v:World}:Wrote cb v v.drew:=⟨rfl,fun _ _=>rfl,rfl,rfl,rfl,fun _ h=>h,fun _=>rfl⟩
theorem Wrote.set{cb o:Nat} {v:World} {xs:List Value} (h:∀j,j < xs.length->(v.cell? ⟨cb,o+j,none⟩).isSome=true):Wrote cb v (v.setCells cb o xs):=
 ⟨qgw _ _ _ _,fun j hj=>qgx _ _ _ _ j hj,(qd0 _ _ _ _).1,(qd0 _ _ _ _).2.1,(qd0 _ _ _ _).2.2,fun k hk=>isSome_setCells cb xs o v h k hk,fun k=>World.frozen?_setCells _ _ _ _ _⟩
def qiy(L:List Int) (i:Nat) (x:Int):List Int:=L.take i++x::L.drop i
theorem gone{T:List (Entry PG)} {f:FuncId} {args args':List AV} {v:AV} {σ:List (Nat × Nat)} {H H':Heap} {q:Nat} {F:List (List (Nat × Blk))} (hc:CA T f args' ⟨q,F⟩ v ⟨q,[[]]⟩) (hv:qab v=true) (fh:FitH 0 σ [] H ⟨q,F⟩) (hf:qax σ [] args args') (hn:H'.n=H.n) (sub:H'.ents.Sublist H.ents)
  (out:∀e,e∈H'.ents->∀x,x∈σ->x.1≠e.1):CA T f args H v H':=by
 have:=hc.framed (H':=H') fh hf ⟨by simp[hn],fun nd _=>nd.sublist (sub.map _),fun e he=>.inr ⟨sub.subset he,out e he⟩⟩ (Nat.le_refl _)
 rwa [qif _ hv]at this
theorem qq9(L:List Int):qa9 (qct L)=true:=(qip L).pure ▸ (by rw[show L.map qb9=qct L from rfl,qeu])
theorem qqe{t:Tr} {i:Nat} (h:i < t.length):qck (qa6 (t.map qa3)) (i * 7+6)=some (qbc (qa1 t i).kids):=by
 have hl:(qa6 ((t.take i).map qa3)).length=i * 7:=by rw[(qbg _).len];simp;omega
 have e1:qa6 (t.map qa3)=(qa6 ((t.take i).map qa3)++[qb9 (qa1 t i).kind,qb9 (qa1 t i).space,.str (qa1 t i).name,qaf (qa1 t i).attrs,.str (qa1 t i).data,qb9 (qa1 t i).up])++(qbc (qa1 t i).kids::qa6 ((t.drop (i+1)).map qa3)):=by
  conv=>lhs;rw[qdn h]
  simp[qbj,qa6,Nd.cs]
 have l6:(qa6 ((t.take i).map qa3)++[qb9 (qa1 t i).kind,qb9 (qa1 t i).space,.str (qa1 t i).name,qaf (qa1 t i).attrs,.str (qa1 t i).data,qb9 (qa1 t i).up]).length=i * 7+6:=by rw[List.length_append,hl];rfl
 rw[e1,qe0 (by rw[List.length_append,l6];simp),List.getElem_append_right (by omega)];simp only[l6,Nat.sub_self,List.getElem_cons_zero]
theorem get_up{t:Tr} {i:Nat} (h:i < t.length):qck (qa6 (t.map qa3)) (i * 7+5)=some (.int .i64 (qa1 t i).up):=by
 have hl:(qa6 ((t.take i).map qa3)).length=i * 7:=by rw[(qbg _).len];simp;omega
 have e1:qa6 (t.map qa3)=(qa6 ((t.take i).map qa3)++[qb9 (qa1 t i).kind,qb9 (qa1 t i).space,.str (qa1 t i).name,qaf (qa1 t i).attrs,.str (qa1 t i).data])++(qb9 (qa1 t i).up::qbc (qa1 t i).kids::qa6 ((t.drop (i+1)).map qa3)):=by
  conv=>lhs;rw[qdn h]
  simp[qbj,qa6,Nd.cs]
 have l6:(qa6 ((t.take i).map qa3)++[qb9 (qa1 t i).kind,qb9 (qa1 t i).space,.str (qa1 t i).name,qaf (qa1 t i).attrs,.str (qa1 t i).data]).length=i * 7+5:=by rw[List.length_append,hl];rfl
 rw[e1,qe0 (by rw[List.length_append,l6];simp),List.getElem_append_right (by omega)];simp only[l6,Nat.sub_self,List.getElem_cons_zero];rfl
theorem zbp{t:Tr} {i:Nat} {K:List Int}:qhx t i (qbc K)=qa6 ((qb8 t i K).map qa3):=by simp[qb8,qbj,qa6,Nd.cs,qb9,qhx]
theorem qp0{m n pb k:Nat} {pre post:List AV} {g f:List (Nat × Blk)} {t:Tr} (h:Eok m pb pre k 7 (t.map qa3) post g) {i:Nat} (hi:i < t.length) (K:List Int) (hf:∀j,j < m->getF j f=none) :
  writeVar PG ⟨n,[f,VE pb pre k 7 (t.map qa3) post g]⟩ 30 (.ptr k (i * 7+6)) (qbc K)=some ⟨n,[f,VE pb pre k 7 ((qb8 t i K).map qa3) post g]⟩:=by
 have hne:t.map qa3≠[]:=by intro e;have:=congrArg List.length e;simp at this;subst this;simp at hi
 have hne':(qb8 t i K).map qa3≠[]:=by simp[qb8]
 have hk:getF k f=none:=hf k h.lk.1;have hg:Heap.get ⟨n,[f,VE pb pre k 7 (t.map qa3) post g]⟩ k=some (.cells (qa6 (t.map qa3))):=by simp only[Heap.get,getFs];rw[hk,qx1 h hne]
 have hs:Heap.set ⟨n,[f,VE pb pre k 7 (t.map qa3) post g]⟩ k (.cells (qa6 ((qb8 t i K).map qa3)))=some ⟨n,[f,VE pb pre k 7 ((qb8 t i K).map qa3) post g]⟩:=by simp only[Heap.set,setFs];rw[qjp hk];unfold VE;rw[qbn hne,qbn hne',qbd hne,qbd hne'];simp[setF,h.k_p,qcv hi]
 have hl:=qzr hi (qbc K);rw[zbp]at hl;have rf:refs 6 (qbc K)=[]:=qig 6 _ (qgf K);unfold writeVar;simp[qbc]at hl rf ⊢;simp[AV.cells,allSingle,AV.single,writeCells,hg,Blk.wt,hl,Heap.ready,rf,hs,Blk.re]
def zck(t:Tr) (i:Int):Tr:=if 0<=qgp t i then qb8 t (qa1 t i).up.toNat ((qa1 t (qa1 t i).up).kids.eraseIdx (qgp t i).toNat) else t
def qqr(t:Tr) (i:Int):Tr:=if i≠0/\isB t i=true then qey (zck t i) i.toNat (-1) else zck t i
theorem qu6(t:Tr) (i:Int):(zck t i).length=t.length:=by
 unfold zck;split
 ·rename_i h;unfold qgp at h;split at h
  next h2=>have:=isB_iff.1 h2.2;exact qcv (by omega) _
  ·omega
 ·rfl
theorem cutT_len(t:Tr) (i:Int):(qqr t i).length=t.length:=by
 unfold qqr;split
 next h=>have h2:=isB_iff.1 h.2;have h3:=qu6 t i;rw[qm7 (by omega),h3]
 ·exact qu6 t i
theorem zh3{L:List Int} {x:Int} {a:Nat} (h:atP L x=(a:Int)):∃A D,L=A++x::D/\A.length=a:=by
 have hc:=qk0 (p:=fun y=>decide (y=x)) L 0;rw[show qbo (fun y=>decide (y=x)) L 0=atP L x from rfl,h]at hc;rcases hc with⟨h1,_⟩|⟨i,hi,h1,h2,_⟩
 ·omega
 ·have:i=a:=by omega
  subst this;have h3:L[i]=x:=by simpa using h2
  refine⟨L.take i,L.drop (i+1),?_,by simp;omega⟩;rw[<- h3,List.getElem_cons_drop,List.take_append_drop]
def qjy(t:Tr) (b:Nat):Prop:=∀n,n∈t->n.kids.length<=b
theorem qna{t:Tr} {b:Nat} (h:qjy t b) (j:Int):(qa1 t j).kids.length<=b:=by
 unfold qa1;rw[List.getD_eq_getElem?_getD];cases hq:t[j.toNat]? with
 |none=>exact Nat.zero_le _
 |some x=>exact h x (List.mem_of_getElem? hq)
theorem zb9{t:Tr} {i b:Nat} {K:List Int} (h:qjy t b) (hK:K.length<=b):qjy (qb8 t i K) b:=by
 intro n hn;unfold qb8 at hn;rcases List.mem_append.1 hn with hn|hn
 ·exact h n (List.mem_of_mem_take hn)
 ·rcases List.mem_cons.1 hn with rfl|hn
  ·exact hK
  ·exact h n (List.mem_of_mem_drop hn)
theorem setUp_le{t:Tr} {i b:Nat} {u:Int} (h:qjy t b):qjy (qey t i u) b:=by
 intro n hn;unfold qey at hn;rcases List.mem_append.1 hn with hn|hn
 ·exact h n (List.mem_of_mem_take hn)
 ·rcases List.mem_cons.1 hn with rfl|hn
  ·exact qna h _
  ·exact h n (List.mem_of_mem_drop hn)
theorem cutT_le{t:Tr} {b:Nat} (h:qjy t b) (i:Int):qjy (qqr t i) b:=by
 have h1:qjy (zck t i) b:=by
  unfold zck;split
  ·exact zb9 h (Nat.le_trans (List.length_eraseIdx_le _ _) (qna h _))
  ·exact h
 unfold qqr;split
 ·exact setUp_le h1
 ·exact h1
def zbe(t:Tr) (up kid:Int):Bool:=isB t up && isB t kid && !decide (kid=0) && !qg6 t kid up
def insP(K:List Int) (at_ kid:Int):List Int:=qiy K (min (max at_ 0) (K.length:Int)).toNat kid
def putT(t:Tr) (up at_ kid:Int):Tr:=if zbe t up kid=true then qey (qb8 (qqr t kid) up.toNat (insP (qa1 (qqr t kid) up).kids at_ kid)) kid.toNat up else t
theorem qy3(O:List Int) (c:Int):FitH 0 [(2,0)] [] ⟨3,[[(2,.cells (qct O++[.int .i64 c])),(1,.cells [.int .i64 c])]]⟩ ⟨1,[qdd 0 (qct (O++[c]))]⟩:=by have:=FitH.own1 (k:=0) (b:=2) (m':=1) (τ:=[]) (g:=[]) (H:=⟨3,[[(2,.cells (qct O++[.int .i64 c])),(1,.cells [.int .i64 c])]]⟩) (qjc (O++[c])) (fun _=>by rw[qeu,ints_app];simp[zG]) (by simp) (by simp) (by simp) (by simp) (by simp);simpa using this
theorem qtv(O:List Int):FitH 0 [(0,0)] [] ⟨1,[qdd 0 (qct O)]⟩ ⟨1,[qdd 0 (qct O)]⟩:=by have:=FitH.own1 (k:=0) (b:=0) (m':=1) (τ:=[]) (g:=[]) (H:=⟨1,[qdd 0 (qct O)]⟩) (qjc O) (fun h=>by have:=own_get (b:=0) (g:=[]) h;rw[List.append_nil]at this;simp[Heap.get,getFs,this]) (by simp) (by simp) (by simp) (by simp) (by simp);simpa using this
def wW(K:List Int) (a:Nat) (x:Int) (j:Nat):List Int:=K.take (min j a)++(if a < j then x::(K.drop a).take (j - a) else [])
def wM(K:List Int) (a:Nat) (x:Int) (j:Nat):List Int:=if j=a then wW K a x j++[x] else wW K a x j
theorem wW_lt{K:List Int} {a:Nat} {x:Int} {j:Nat} (h:j < K.length):wW K a x (j+1)=wM K a x j++[K[j]]:=by
 unfold wM wW;by_cases h1:j < a
 ·rw[if_neg (by omega),if_neg (by omega),if_neg (by omega),Nat.min_eq_left (by omega),Nat.min_eq_left (by omega),List.take_succ_eq_append_getElem h];simp
 ·by_cases h2:j=a
  ·subst h2;rw[if_pos rfl,if_pos (by omega),if_neg (by omega),Nat.min_eq_right (by omega),Nat.min_self,show j+1 - j=1 by omega,List.drop_eq_getElem_cons h];rw[List.take_succ_cons,List.take_zero];simp
  ·rw[if_neg h2,if_pos (by omega),if_pos (by omega),Nat.min_eq_right (by omega),Nat.min_eq_right (by omega)];obtain⟨d,hd⟩ : ∃d,j=a+d:=⟨j - a,by omega⟩;subst hd;have hd2:d < (K.drop a).length:=(by simp;omega);rw[show a+d+1 - a=d+1 by omega,show a+d - a=d by omega,List.take_succ_eq_append_getElem hd2,List.getElem_drop];simp
theorem wW_ge{K:List Int} {a:Nat} {x:Int} {j:Nat} (h:K.length<=j) (ha:a<=K.length):wW K a x (j+1)=wM K a x j:=by
 unfold wM wW;by_cases h2:j=a
 ·subst h2;rw[if_pos rfl,if_pos (by omega),if_neg (by omega),Nat.min_eq_right (by omega),Nat.min_self,List.drop_eq_nil_of_le h];simp
 ·rw[if_neg h2,if_pos (by omega),if_pos (by omega),Nat.min_eq_right (by omega),Nat.min_eq_right (by omega)];rw[List.take_of_length_le (l:=K.drop a) (i:=j+1 - a) (by simp;omega),List.take_of_length_le (l:=K.drop a) (i:=j - a) (by simp;omega)]
theorem wW_end{K:List Int} {a:Nat} {x:Int} (ha:a<=K.length):wW K a x (K.length+1)=qiy K a x:=by unfold wW qiy;rw[if_pos (by omega),Nat.min_eq_right (by omega),List.take_of_length_le (l:=K.drop a) (by simp;omega)]
theorem wM_len{K:List Int} {a:Nat} {x:Int} {j:Nat}:(wM K a x j).length<=j+1:=by
 unfold wM wW;split
 ·rw[if_neg (by omega)];simp;omega
 ·split
  ·simp;omega
  ·simp;omega
theorem c33o{T:List (Entry PG)} (K:List Int) (hK:K.length<=1000000) (a:Nat) (ha:a<=K.length) (x:Int):CA T 33 [qbc K,.int .i64 (a:Int),.int .i64 x] zH (qcx 0 1 (qct (qiy K a x))) ⟨1,[qdd 0 (qct (qiy K a x))]⟩:=by
 refine qa0 (s0:=⟨[0,1,2,6,7,8],[qbc K,.int .i64 (a:Int),.int .i64 x,uD,uD,uD],[],34,⟨0,[[]]⟩⟩) Tryz.func33 rfl rfl rfl ?_;apply rA_;simp[zS];apply rA_;simp[zS];apply rA_;simp[zS];refine qa7 (qb1 (fun j:Nat=>(⟨[0,1,2,6,7,8],[qbc K,.int .i64 (a:Int),.int .i64 x,.nilS,qcx 0 1 (qct (wW K a x j)),.int .i64 (j:Int)],[],34,⟨1,[qdd 0 (qct (wW K a x j))]⟩⟩ : St))
  (fun j=>j<=K.length+1) (fun j=>K.length+1 - j) [(0,0)] [] 0 (Nat.zero_le _)
  ⟨rfl,rfl,rfl,by simp[qax,qas,qb2,qab,qgf,wW,qcx,qct],by have:=FitH.own1 (k:=0) (b:=0) (m':=1) (τ:=[]) (g:=[]) (H:=⟨0,[[]]⟩) (qjc (wW K a x 0)) (by simp[wW,qct]) (by simp) (by simp) (by simp) (by simp) (by simp);simpa using this⟩ ?_)
 rintro j hj B hB;by_cases h:j<=K.length
 ·have hc:(j:Int)<=(K.length:Int):=by omega
  apply rA_;simp[zS,ql8,hc,h];apply qai rfl;apply qa4;simp;repeat apply wq
  apply qa7;have hMl:=wM_len (K:=K) (a:=a) (x:=x) (j:=j);by_cases hq:j=a
  ·have hM:wM K a x j=wW K a x j++[x]:=if_pos hq;have hWl:(wW K a x j).length<=j:=(by rw[hM]at hMl;simp at hMl;omega);obtain⟨W,hW⟩ : ∃W,W=wW K a x j:=⟨_,rfl⟩;rw[<- hW]at hM hWl ⊢;subst hq;apply rA_;simp[zS];apply qai rfl;have happ0:=qgz (P:=PG) (elem:=3) (b:=0) (t:=1) (m:=2) (es:=qct W) (cs:=[.int .i64 x]) (g:=[]) (fs:=[]) szT3 byT3 zeT3 rfl (by omega) (by omega) rfl rfl (qjc _) (by rw[qos];omega) (by omega) (by simp) (by simp);simp only[List.append_nil]at happ0;apply rA_;simp[zS,happ0];repeat apply wq
   refine .fit [(2,0)] [] (s':=(⟨[0,1,2,6,7,8],[qbc K,.int .i64 (j:Int),.int .i64 x,.nilS,qcx 0 1 (qct (W++[x])),.int .i64 (j:Int)],[],34,⟨1,[qdd 0 (qct (W++[x]))]⟩⟩ : St)) ⟨rfl,rfl,rfl,by rw[qbd (es:=qct (W++[x])) (by simp[qct])];simp[qax,qas,qb2,qab,qgf,qct],qy3 W x⟩ ?_;obtain⟨O,hO⟩ : ∃O,O=wM K j x j:=⟨_,rfl⟩;rw[<- hM,<- hO];rw[<- hO]at hMl;by_cases hl:j < K.length
   ·have hst:=wW_lt (x:=x) (a:=j) hl;have hix:=atIx hl;generalize K[j]=c at *;have hn:(j:Int) < (K.length:Int):=(by omega);apply rA_;simp[zS,ql8,hn,hl];apply qai rfl;have happ:=qgz (P:=PG) (elem:=3) (b:=0) (t:=1) (m:=2) (es:=qct (O)) (cs:=[.int .i64 c]) (g:=[]) (fs:=[]) szT3 byT3 zeT3 rfl (by omega) (by omega) rfl rfl (qjc _) (by rw[qos];omega) (by omega) (by simp) (by simp);simp only[List.append_nil]at happ;apply rA_;simp[zS,hix,happ];apply rA_;simp[zS,qbb (show j<=1000000000 by omega)];refine hB _ (j+1) (by omega) (by omega) ⟨[(2,0)],[],rfl,rfl,rfl,?_,?_⟩
    ·rw[hst,<- hO,qbd (es:=qct (O++[c])) (by simp[qct])];simp[qax,qas,qb2,qab,qgf,qct]
    ·rw[hst,<- hO];exact qy3 _ c
   ·have hst:=wW_ge (x:=x) (a:=j) (show K.length<=j by omega) (by omega);have hn:¬ (j:Int) < (K.length:Int):=(by omega);apply rA_;simp[zS,ql8,hn,hl];apply qag rfl;apply qa4;simp;apply rA_;simp[zS,qbb (show j<=1000000000 by omega)];refine hB _ (j+1) (by omega) (by omega) ?_;simp only[hst,<- hO];exact⟨[(0,0)],[],rfl,rfl,rfl,by simp[qax,qas,qb2,qh3,qab,qgf],qtv _⟩
  ·have hM:wM K a x j=wW K a x j:=if_neg hq;have hqi:¬ (j:Int)=(a:Int):=(by omega);obtain⟨O,hO⟩ : ∃O,O=wM K a x j:=⟨_,rfl⟩;rw[<- hM,<- hO];rw[<- hO]at hMl;apply rA_;simp[zS,hqi,hq];apply qag rfl;apply qa4;simp;by_cases hl:j < K.length
   ·have hst:=wW_lt (x:=x) (a:=a) hl;have hix:=atIx hl;generalize K[j]=c at *;have hn:(j:Int) < (K.length:Int):=(by omega);apply rA_;simp[zS,ql8,hn,hl];apply qai rfl;have happ:=qgz (P:=PG) (elem:=3) (b:=0) (t:=1) (m:=2) (es:=qct (O)) (cs:=[.int .i64 c]) (g:=[]) (fs:=[]) szT3 byT3 zeT3 rfl (by omega) (by omega) rfl rfl (qjc _) (by rw[qos];omega) (by omega) (by simp) (by simp);simp only[List.append_nil]at happ;apply rA_;simp[zS,hix,happ];apply rA_;simp[zS,qbb (show j<=1000000000 by omega)];refine hB _ (j+1) (by omega) (by omega) ⟨[(2,0)],[],rfl,rfl,rfl,?_,?_⟩
    ·rw[hst,<- hO,qbd (es:=qct (O++[c])) (by simp[qct])];simp[qax,qas,qb2,qab,qgf,qct]
    ·rw[hst,<- hO];exact qy3 _ c
   ·have hst:=wW_ge (x:=x) (a:=a) (show K.length<=j by omega) (by omega);have hn:¬ (j:Int) < (K.length:Int):=(by omega);apply rA_;simp[zS,ql8,hn,hl];apply qag rfl;apply qa4;simp;apply rA_;simp[zS,qbb (show j<=1000000000 by omega)];refine hB _ (j+1) (by omega) (by omega) ?_;simp only[hst,<- hO];exact⟨[(0,0)],[],rfl,rfl,rfl,by simp[qax,qas,qb2,qh3,qab,qgf],qtv _⟩
 ·have hc:¬ (j:Int)<=(K.length:Int):=by omega
  apply rA_;simp[zS,ql8,hc,h];apply qag rfl;apply qar;simp;apply rA_;simp[zS];apply qa5;simp[zQ,Tryz.f33];have ej:j=K.length+1:=by omega
  rw[ej,wW_end ha];exact⟨[(0,0)],[],qh3 (by simp[qb2]),qtv _⟩
theorem c33{T:List (Entry PG)} (K:List Int) (hK:K.length<=1000000) (a:Nat) (ha:a<=K.length) (x:Int):CA T 33 [qbc K,.int .i64 (a:Int),.int .i64 x] zH (qbc (qiy K a x)) zH:=(c33o K hK a ha x).froze (qjc _)
section
variable {m n pb k sz:Nat} {pre post es:List AV} {g f:List (Nat × Blk)}
def frzΦ(c:Nat) (O:List Int):List (Nat × List AV):=match O with
 |[]=>[]
 |x::r=>[(c,qct (x::r))]
theorem fit_frz{N m' c:Nat} (h:Eok m pb pre k sz es post g) (hN:N<=m) (hm:m<=m') (hc:m<=c) (O:List Int):FitH N (idn m) (frzΦ c O) ⟨n,[qdd c (qct O),VE pb pre k sz es post g]⟩ ⟨m',[[],VE pb pre k sz es post g]⟩:=by
 have f0:=qwf (n:=n) (f:=qdd c (qct O)) h hN hm (fun i hi=>by cases O<;>simp[qdd,qct,getF,qao (show c≠i by omega)]);cases O with
 |nil=>exact f0
 |cons x r=>
  refine { nd1:=?_,nd2:=f0.nd2,nd3:=f0.nd3,lt:=f0.lt,idn:=f0.idn,num:=f0.num,src:=fun e he=>?_,frz:=fun y hy=>?_ }
  ·have e1:(idn m).map (·.1)=List.range m:=(by simp[idn,Function.comp_def]);rw[e1,List.nodup_append];refine⟨List.nodup_range,by simp[frzΦ],fun a ha b hb=>?_⟩;simp only[frzΦ,List.map_cons,List.map_nil,List.mem_singleton]at hb;have:a < m:=(by simpa using ha);omega
  ·obtain⟨b,q,h1,h2,h3⟩:=f0.src e he;exact⟨b,q,h1,h2,qmt h3⟩
  ·simp only[frzΦ,List.mem_singleton]at hy;subst hy;refine⟨qct (x::r),?_,qak (qq9 _),qq9 _⟩;simp only[Heap.get,getFs];rw[qbn (by simp[qct]),qeu];simp[getF]
theorem fitV_frz{σ:List (Nat × Nat)} (c:Nat) (O:List Int):qas σ (frzΦ c O) (qcx c 1 (qct O)) (qbc O):=by
 cases O with
 |nil=>simp[qcx,qct,qas,qbc]
 |cons x r=>rw[qbd (by simp[qct])];simp only[qbc,qas];refine .inl ⟨qct (x::r),by simp[qca,frzΦ],?_,by simp[qct],(qjc (x::r)).size⟩;have e:(x::r).map qb9=qct (x::r):=rfl;rw[e,qeu,Nat.mul_one];unfold qex;rw[List.drop_zero,qco]
theorem qy2{c:Nat} {H:Heap} (h:Eok m pb pre k sz es post g) (hc:m<=c) (O:List Int) (hO:O≠[]->H.get c=some (.cells (qct O))) (hV:∀e,e∈VE pb pre k sz es post g->H.get e.1=some e.2):FitH m ((c,m)::idn m) [] H ⟨m+1,[qdd m (qct O),VE pb pre k sz es post g]⟩:=by
 have idl:=qmn (m:=m) (k:=c) (k':=m) hc;refine { nd1:=?_,nd2:=?_,nd3:=?_,lt:=?_,idn:=?_,num:=by show m<=m+1;omega,src:=fun e he=>?_,frz:=fun x h=>by cases h }
 ·simp only[List.map_nil,List.append_nil,List.map_cons,List.nodup_cons];refine⟨?_,qhe m⟩;simp[idn];omega
 ·simp only[List.map_cons,List.nodup_cons];refine⟨?_,qi5 m⟩;simp[idn]
 ·simp only[Heap.ents,List.flatten_cons,List.flatten_nil,List.append_nil,List.map_append];rw[List.nodup_append];refine⟨by cases O<;>simp[qdd,qct],qnr h,fun a ha b hb=>?_⟩;obtain⟨e,he,rfl⟩:=List.mem_map.1 hb;have:=(qoc h e he).1;cases O with
  |nil=>simp[qdd,qct]at ha
  |cons x r=>simp[qdd,qct]at ha;omega
 ·intro x hx;rcases List.mem_cons.1 hx with rfl|hx
  ·show m < m+1;omega
  ·obtain⟨i,hi,rfl⟩:=List.mem_map.1 hx;have:i < m:=(by simpa using hi);show i < m+1;omega
 ·intro x hx hlt;rcases List.mem_cons.1 hx with rfl|hx
  ·exact absurd hlt (Nat.lt_irrefl m)
  ·obtain⟨i,hi,rfl⟩:=List.mem_map.1 hx;rfl
 ·simp only[Heap.ents,List.flatten_cons,List.flatten_nil,List.append_nil,List.mem_append]at he;rcases he with he|he
  ·cases O with
   |nil=>simp[qdd,qct]at he
   |cons x r=>rw[qbn (by simp[qct]),qeu]at he;simp only[List.mem_singleton]at he;subst he;exact⟨c,.cells (qct (x::r)),by simp,hO (by simp),qak (qq9 _)⟩
  ·obtain⟨h1,h2⟩:=qoc h e he;exact⟨e.1,e.2,List.mem_cons_of_mem _ (qd8 h1),hV e he,h2 _ idl⟩
theorem zh9(h:Eok m pb pre k sz es post g) (hf:∀i,i < m->getF i f=none):∀e,e∈VE pb pre k sz es post g->Heap.get ⟨n,[f,VE pb pre k sz es post g]⟩ e.1=some e.2:=fun e he=>by simp only[Heap.get,getFs];rw[hf _ (qoc h e he).1,qmq (qnr h) he]
end
theorem cutW_at{K:List Int} {a j:Nat} (h:j < K.length):(K.take (j+1)).eraseIdx a=(K.take j).eraseIdx a++(if j=a then [] else [K[j]]):=by
 have hl:(K.take j).length=j:=by simp;omega
 rw[List.take_succ_eq_append_getElem h];by_cases h1:a < j
 ·rw[List.eraseIdx_append_of_lt_length (by omega),if_neg (by omega)]
 ·rw[List.eraseIdx_append_of_length_le (by omega),hl,List.eraseIdx_of_length_le (l:=K.take j) (by omega)];by_cases h2:j=a
  ·subst h2;simp
  ·rw[if_neg h2,List.eraseIdx_of_length_le (by simp;omega)]
theorem c32{T:List (Entry PG)} (hP:qIn 45 T e45) (hS:qIn 30 T e30)
  {m pb k:Nat} {pre post:List AV} {g:List (Nat × Blk)} {t:Tr} (h:Eok m pb pre k 7 (t.map qa3) post g) (hne:t≠[]) (hk:∀n,n∈t->n.kids.length<=1000000) (i:Int) :
  CA T 32 [.ptr pb pre.length,.int .i64 i] ⟨m,[VE pb pre k 7 (t.map qa3) post g]⟩ (.tup []) ⟨m,[VE pb pre k 7 ((qqr t i).map qa3) post g]⟩:=by
 have hne':t.map qa3≠[]:=by simpa using hne
 have nf:∀j,j < m->getF j ([]:List (Nat × Blk))=none:=fun _ _=>rfl;have rdT:=fun n=>(qeh (n:=n) h nf).1;have rdN:=fun n=>(qeh (n:=n) h nf).2;have hkg:∀n,Heap.get ⟨n,[[],VE pb pre k 7 (t.map qa3) post g]⟩ k=some (.cells (qa6 (t.map qa3))):=fun n=>by simp only[Heap.get,getFs];rw[nf k h.lk.1,qx1 h hne']
 have kp:=fun n=>q45 hP (qe2 hne (hkg n)) hk i;by_cases hp:0<=qgp t i
 ·have hp0:=hp;unfold qgp at hp;split at hp
  case isFalse=>omega
  rename_i hb;obtain⟨i0,i1⟩:=isB_iff.1 hb.1;obtain⟨u0,u1⟩:=isB_iff.1 hb.2;have hpe:qgp t i=atP (qa1 t (qa1 t i).up).kids i:=by unfold qgp;rw[if_pos hb]
  obtain⟨I,rfl⟩:=Int.eq_ofNat_of_zero_le i0;obtain⟨u,hu⟩:=Int.eq_ofNat_of_zero_le u0;obtain⟨a,ha⟩:=Int.eq_ofNat_of_zero_le hp0;obtain⟨A,D,hAD,hA⟩:=zh3 (hpe.symm.trans ha);rw[hu]at hAD u1;have hI:I < t.length:=by omega
  have hU:u < t.length:=by omega
  have hkU:=hk _ (qb3 (t:=t) (i:=(u:Int)) (by omega) (by omega));rw[hAD]at hkU;have ecut:zck t (I:Int)=qb8 t u (A++D):=by unfold zck;rw[if_pos hp0,hu,ha,hAD];simp only[Int.toNat_natCast];rw[zaa,<- hA,List.take_left' rfl,show A.length+1=(A++[(I:Int)]).length by simp,show A++(I:Int)::D=(A++[(I:Int)])++D by simp,List.drop_left]
  have gu:=get_up hI;have gk:=qqe hU;rw[hu]at gu;rw[hAD]at gk;have ixI:qat PG 22 (qcx k 7 (t.map qa3)) (.int .i64 (I:Int))=some (.ptr k (I * 7)):=by rw[qbd hne'];simp[qat,qbv hI]
  have ixU:qat PG 22 (qcx k 7 (t.map qa3)) (.int .i64 (u:Int))=some (.ptr k (u * 7)):=by rw[qbd hne'];simp[qat,qbv hU]
  have rdU:∀n,qaw PG ⟨n,[[],VE pb pre k 7 (t.map qa3) post g]⟩ 3 (.ptr k (I * 7+5))=some (.int .i64 (u:Int)):=fun n=>by simp[hkg,gu]
  have rdK:∀n,qaw PG ⟨n,[[],VE pb pre k 7 (t.map qa3) post g]⟩ 30 (.ptr k (u * 7+6))=some (qbc (A++(I:Int)::D)):=fun n=>by simp[hkg,gk]
  have hw:=fun n=>qp0 (n:=n) h hU (A++D) nf;rw[ha]at kp;obtain⟨K,hK⟩ : ∃K,K=A++(I:Int)::D:=⟨_,rfl⟩;have hKl:K.length<=1000000:=by rw[hK];exact hkU
  have hEr:K.eraseIdx a=A++D:=by rw[hK,<- hA,zaa,List.take_left' rfl,show A.length+1=(A++[(I:Int)]).length by simp,show A++(I:Int)::D=(A++[(I:Int)])++D by simp,List.drop_left]
  have hfO:∀(O:List Int) (i:Nat),i < m->getF i (qdd m (qct O))=none:=fun O i hi=>by cases O<;>simp[qdd,qct,getF,qao (show m≠i by omega)]
  have rdNO:=fun n O=>(qeh (n:=n) h (hfO O)).2;have hkgO:∀n O,Heap.get ⟨n,[qdd m (qct O),VE pb pre k 7 (t.map qa3) post g]⟩ k=some (.cells (qa6 (t.map qa3))):=fun n O=>by simp only[Heap.get,getFs];rw[hfO O k h.lk.1,qx1 h hne']
  rw[<- hK]at gk;have rdKO:∀n O,qaw PG ⟨n,[qdd m (qct O),VE pb pre k 7 (t.map qa3) post g]⟩ 30 (.ptr k (u * 7+6))=some (qbc K):=fun n O=>by simp[hkgO,gk]
  refine qa0 (s0:=⟨[0,1,4,5,6,7],[.ptr pb pre.length,.int .i64 (I:Int),uD,uD,uD,uD],[],77,⟨m,[]::[VE pb pre k 7 (t.map qa3) post g]⟩⟩) Tryz.func32 rfl rfl rfl ?_;apply rA_;simp[zS,rdT,kp];apply rA_;simp[zS];apply qai rfl;apply rA_;simp[zS,rdN,ixI,rdU];apply rA_;simp[zS];apply rA_;simp[zS];refine qa7 (qb1 (fun j:Nat=>(⟨[0,1,4,5,6,7],[.ptr pb pre.length,.int .i64 (I:Int),.int .i64 (a:Int),.int .i64 (u:Int),qcx m 1 (qct ((K.take j).eraseIdx a)),.int .i64 (j:Int)],[],77,⟨m+1,[qdd m (qct ((K.take j).eraseIdx a)),VE pb pre k 7 (t.map qa3) post g]⟩⟩ : St))
   (fun j=>j<=K.length) (fun j=>K.length - j) ((m,m)::idn m) [] 0 (Nat.zero_le _)
   ⟨rfl,rfl,rfl,by simp[qax,qas,qb2,qc1 h.lp,qab,qcx,qct,qh3],qy2 h (Nat.le_refl m) [] (fun h=>absurd rfl h) (zh9 h nf)⟩ ?_)
  rintro j hj B hB;obtain⟨O,hO⟩ : ∃O,O=(K.take j).eraseIdx a:=⟨_,rfl⟩;have hOl:O.length<=K.length:=by rw[hO];exact Nat.le_trans (List.length_eraseIdx_le _ _) (by simp;omega)
  by_cases hj2:j < K.length
  ·have hst:=cutW_at (a:=a) hj2;rw[<- hO]at hst ⊢;have hix:=atIx hj2;generalize K[j]=c at *;have hn:(j:Int) < (K.length:Int):=(by omega);apply rA_;simp[zS,rdNO,ixU,rdKO,ql8,hn,hj2];apply qai rfl;apply qa4;simp;repeat apply wq
   apply qa7;by_cases q:j=a
   ·rw[if_pos q,List.append_nil]at hst;have qi:(j:Int)=(a:Int):=(by omega);apply rA_;simp[zS];refine qag (by simp[qbp,St.get,q]) ?_;apply qa4;simp;apply rA_;simp[zS,qbb (show j<=1000000000 by omega)];refine hB _ (j+1) (by omega) (by omega) ?_;simp only[hst];exact⟨(m,m)::idn m,[],rfl,rfl,rfl,by simp[qax,qas,qb2,qc1 h.lp,qab,qh3],qy2 h (Nat.le_refl m) O (fun hne=>by simp only[Heap.get,getFs];rw[qbn (by simp[qct,hne]),qeu];simp[getF]) (zh9 h (hfO O))⟩
   ·rw[if_neg q]at hst;have qi:¬ (j:Int)=(a:Int):=(by omega);apply rA_;simp[zS,qi,q];refine qai (by simp[qbp,St.get,q]) ?_;have happ:=qgz (P:=PG) (elem:=3) (b:=m) (t:=m+1) (m:=m+2) (es:=qct O) (cs:=[.int .i64 c]) (g:=[]) (fs:=[VE pb pre k 7 (t.map qa3) post g]) szT3 byT3 zeT3 rfl (by omega) (by omega) rfl rfl (qjc _) (by rw[qos];omega) (by omega) (by simp) (fun e he=>by have:=(qoc h e (by simpa using he)).1;omega);simp only[List.append_nil]at happ;apply rA_;simp[zS,rdNO,ixU,rdKO,hix,happ];apply rA_;simp[zS,qbb (show j<=1000000000 by omega)];refine hB _ (j+1) (by omega) (by omega) ⟨(m+2,m)::idn m,[],rfl,rfl,rfl,?_,?_⟩
    ·rw[hst,qbd (es:=qct (O++[c])) (by simp[qct])];simp[qax,qas,qb2,qc1 h.lp,qab,qct];have:=h.lp;omega
    ·rw[hst];exact qy2 h (by omega) (O++[c]) (fun _=>by simp[zG,qct,qb9]) (zh9 h fun i hi=>by simp[getF,qao (show m+2≠i by omega),qao (show m+1≠i by omega)])
  ·have ej:j=K.length:=(by omega);have hOe:O=A++D:=(by rw[hO,ej,List.take_length,hEr]);rw[<- hO];have hn:¬ (j:Int) < (K.length:Int):=(by omega);apply rA_;simp[zS,rdNO,ixU,rdKO,ql8,hn,hj2];apply qag rfl;apply qar;simp;refine .fit (idn m) (frzΦ m O) (s':=(⟨[0,1,4,5,6,7],[.ptr pb pre.length,.int .i64 (I:Int),.int .i64 (a:Int),.int .i64 (u:Int),qbc O,.int .i64 (j:Int)],[],77,⟨m,[[],VE pb pre k 7 (t.map qa3) post g]⟩⟩ : St)) ⟨rfl,rfl,rfl,?_,fit_frz h (Nat.le_refl m) (Nat.le_refl m) (Nat.le_refl m) O⟩ ?_
   ·refine⟨?_,?_⟩
    ·simp[qas,qc1 h.lp]
    ·exact⟨qb5 rfl,qb5 rfl,qb5 rfl,fitV_frz m O,qb5 rfl,by simp[qax]⟩
   have hbI:=hb.1;rw[hOe];apply rA_;simp[zS,rdN,ixU,hw];have hX:=h.mono (Nat.le_refl m) (qbg (qb8 t u (A++D)));have lX:(qb8 t u (A++D)).length=t.length:=(by rw[<- ecut];exact qu6 t _);have hXne:(qb8 t u (A++D))≠[]:=(by intro e;rw[e]at lX;exact hne (List.length_eq_zero_iff.1 lX.symm));have hXne':(qb8 t u (A++D)).map qa3≠[]:=(by simpa using hXne);have hkgX:∀n,Heap.get ⟨n,[[],VE pb pre k 7 ((qb8 t u (A++D)).map qa3) post g]⟩ k=some (.cells (qa6 ((qb8 t u (A++D)).map qa3))):=fun n=>(by simp only[Heap.get,getFs];rw[nf k hX.lk.1,qx1 hX hXne']);have rdTX:=fun n=>(qeh (n:=n) hX nf).1;have rdNX:=fun n=>(qeh (n:=n) hX nf).2;have ksX:=fun n=>q30 hS (qe2 hXne (hkgX n)) (I:Int);have bX:isB (qb8 t u (A++D)) (I:Int)=isB t (I:Int):=(by simp only[isB,lX]);simp only[bX,hbI]at ksX;have hJX:I < (qb8 t u (A++D)).length:=(by have:=(isB_iff.1 hbI).2;rw[lX];omega);have ixX:qat PG 22 (qcx k 7 ((qb8 t u (A++D)).map qa3)) (.int .i64 (I:Int))=some (.ptr k (I * 7)):=(by rw[qbd hXne'];have:=qbv hJX;simp[qat,this]);by_cases hz:I=0
   ·have ec:qqr t (I:Int)=qb8 t u (A++D):=(by unfold qqr;rw[if_neg (by simp[hz])];exact ecut);rw[ec];apply rA_;simp[zS,rdTX,ksX];refine qag (by simp[qbp,St.get,hz]) ?_;apply qa4;simp;refine⟨[],rfl,_,_,by simp[oneOr,qas,qax,qa9],qhg hX (Nat.le_refl m) (Nat.le_refl m) fun _ _=>rfl⟩
   ·have ec:qqr t (I:Int)=qey (qb8 t u (A++D)) I (-1):=(by unfold qqr;rw[if_pos ⟨by omega,hbI⟩,ecut];rfl);have hwX:=fun n=>qly (n:=n) hX hJX (-1) nf;have hU2:=hX.mono (Nat.le_refl m) (qbg (qey (qb8 t u (A++D)) I (-1)));rw[ec];apply rA_;simp[zS,rdTX,ksX,hz];apply qai rfl;apply rA_;simp[zS,rdNX,ixX,hwX];refine⟨[],rfl,_,_,by simp[oneOr,qas,qax,qa9],qhg hU2 (Nat.le_refl m) (Nat.le_refl m) fun _ _=>rfl⟩
 ·have ecut:zck t i=t:=by unfold zck;rw[if_neg hp]
  have hp':¬ (0:Int)<=qgp t i:=hp;refine qa0 (s0:=⟨[0,1,4,5,6,7],[.ptr pb pre.length,.int .i64 i,uD,uD,uD,uD],[],77,⟨m,[]::[VE pb pre k 7 (t.map qa3) post g]⟩⟩) Tryz.func32 rfl rfl rfl ?_;apply rA_;simp[zS,rdT,kp];apply rA_;simp[zS,hp];refine qag (by simp[qbp,St.get,hp]) ?_;apply qa4;simp;rcases Bool.eq_false_or_eq_true (isB t i)with hbI|hbI
  ·obtain⟨J,rfl⟩:=Int.eq_ofNat_of_zero_le (isB_iff.1 hbI).1;have hX:=h;have hXne:=hne;have hXne':=hne';have hkgX:=hkg;have rdTX:=rdT;have rdNX:=rdN;have lX:t.length=t.length:=rfl;have ksX:=fun n=>q30 hS (qe2 hXne (hkgX n)) (J:Int);simp only[hbI]at ksX;have hJX:J < (t).length:=(by have:=(isB_iff.1 hbI).2;rw[lX];omega);have ixX:qat PG 22 (qcx k 7 ((t).map qa3)) (.int .i64 (J:Int))=some (.ptr k (J * 7)):=(by rw[qbd hXne'];have:=qbv hJX;simp[qat,this]);by_cases hz:J=0
   ·have ec:qqr t (J:Int)=t:=(by unfold qqr;rw[if_neg (by simp[hz])];exact ecut);rw[ec];apply rA_;simp[zS,rdTX,ksX];refine qag (by simp[qbp,St.get,hz]) ?_;apply qa4;simp;refine⟨[],rfl,_,_,by simp[oneOr,qas,qax,qa9],qhg hX (Nat.le_refl m) (Nat.le_refl m) fun _ _=>rfl⟩
   ·have ec:qqr t (J:Int)=qey (t) J (-1):=(by unfold qqr;rw[if_pos ⟨by omega,hbI⟩,ecut];rfl);have hwX:=fun n=>qly (n:=n) hX hJX (-1) nf;have hU2:=hX.mono (Nat.le_refl m) (qbg (qey (t) J (-1)));rw[ec];apply rA_;simp[zS,rdTX,ksX,hz];apply qai rfl;apply rA_;simp[zS,rdNX,ixX,hwX];refine⟨[],rfl,_,_,by simp[oneOr,qas,qax,qa9],qhg hU2 (Nat.le_refl m) (Nat.le_refl m) fun _ _=>rfl⟩
  ·skip
   have hX:=h;have hXne:=hne;have hXne':=hne';have hkgX:=hkg;have rdTX:=rdT;have rdNX:=rdN;have lX:t.length=t.length:=rfl;have ksX:=fun n=>q30 hS (qe2 hXne (hkgX n)) i;simp only[hbI]at ksX;have ec:qqr t i=t:=(by unfold qqr;rw[if_neg (by simp[hbI])];exact ecut);rw[ec];by_cases hz:i=0
   ·apply rA_;simp[zS,rdTX,ksX];apply qag rfl;apply qa4;simp;refine⟨[],rfl,_,_,by simp[oneOr,qas,qax,qa9],qhg hX (Nat.le_refl m) (Nat.le_refl m) fun _ _=>rfl⟩
   ·apply rA_;simp[zS,rdTX,ksX];apply qag rfl;apply qa4;simp;refine⟨[],rfl,_,_,by simp[oneOr,qas,qax,qa9],qhg hX (Nat.le_refl m) (Nat.le_refl m) fun _ _=>rfl⟩
theorem inj_LNI(x y:List Int × Nat × Int) (h:[qbc x.1,.int .i64 (x.2.1:Int),.int .i64 x.2.2]=[qbc y.1,.int .i64 (y.2.1:Int),.int .i64 y.2.2]):x=y:=by simp only[List.cons.injEq,and_true,AV.int.injEq,true_and]at h;obtain⟨h1,h2,h3⟩:=h;have e:=inj_LI1 x.1 y.1 (by rw[h1]);exact Prod.ext e (Prod.ext (by omega) h3)
def e33:Entry PG:=mkE 33 [[1],[],[]] (fun x:List Int × Nat × Int=>[qbc x.1,.int .i64 (x.2.1:Int),.int .i64 x.2.2]) (fun x=>x.1.length<=1000000/\x.2.1<=x.1.length) (fun x=>qbc (qiy x.1 x.2.1 x.2.2)) fun x h=>c33 (T:=[]) x.1 h.1 x.2.1 h.2 x.2.2
theorem k33{T:List (Entry PG)} (hT:qIn 33 T e33) {L:List Int} {a:Nat} (x:Int) (hl:L.length<=1000000) (ha:a<=L.length) (H:Heap):qb6 (ctx T) (.fn 33) [qbc L,.int .i64 (a:Int),.int .i64 x] H=some (qbc (qiy L a x),H):=
 qd1 hT inj_LNI (L,a,x) ⟨hl,ha⟩ (by simp[qa9,qab]) (by simp[qgb,qan,okV,qab]) H
theorem c17{T:List (Entry PG)} (hP:qIn 45 T e45) (hS:qIn 30 T e30) (hH:qIn 31 T e31) (hW:qIn 33 T e33)
  {m pb k:Nat} {pre post:List AV} {g:List (Nat × Blk)} {t:Tr} (h:Eok m pb pre k 7 (t.map qa3) post g) (hne:t≠[]) (ht:t.length<=1000000) (hk:qjy t 999999) (up at_ kid:Int) :
  CA T 17 [.ptr pb pre.length,.int .i64 up,.int .i64 at_,.int .i64 kid] ⟨m,[VE pb pre k 7 (t.map qa3) post g]⟩ (.tup []) ⟨m,[VE pb pre k 7 ((putT t up at_ kid).map qa3) post g]⟩:=by
 have hne':t.map qa3≠[]:=by simpa using hne
 have nf:∀j,j < m->getF j ([]:List (Nat × Blk))=none:=fun _ _=>rfl;have rdT:=fun n=>(qeh (n:=n) h nf).1;have hkg:∀n,Heap.get ⟨n,[[],VE pb pre k 7 (t.map qa3) post g]⟩ k=some (.cells (qa6 (t.map qa3))):=fun n=>by simp only[Heap.get,getFs];rw[nf k h.lk.1,qx1 h hne']
 have ksi:=fun n=>q30 hS (qe2 hne (hkg n)) kid;have ksu:=fun n=>q30 hS (qe2 hne (hkg n)) up;have kh:=fun n=>q31 hH (qe2 hne (hkg n)) ht kid up;by_cases hok:zbe t up kid=true
 case neg=>
  have e:putT t up at_ kid=t:=by unfold putT;rw[if_neg hok]
  rw[e];cases bu:isB t up with
  |false=>rw[bu]at ksu;refine qa0 (s0:=⟨[0,1,2,3,8],[.ptr pb pre.length,.int .i64 up,.int .i64 at_,.int .i64 kid,uD],[],69,⟨m,[]::[VE pb pre k 7 (t.map qa3) post g]⟩⟩) Tryz.func17 rfl rfl rfl ?_;apply rA_;simp[zS,rdT,ksu];apply qai rfl;apply qa5;simp[zQ,Tryz.f17];exact⟨_,_,by simp[qas,qax,qa9],qhg h (Nat.le_refl m) (Nat.le_refl m) fun _ _=>rfl⟩
  |true=>cases bi:isB t kid with
   |false=>rw[bu]at ksu;rw[bi]at ksi;refine qa0 (s0:=⟨[0,1,2,3,8],[.ptr pb pre.length,.int .i64 up,.int .i64 at_,.int .i64 kid,uD],[],69,⟨m,[]::[VE pb pre k 7 (t.map qa3) post g]⟩⟩) Tryz.func17 rfl rfl rfl ?_;apply rA_;simp[zS,rdT,ksu,ksi];apply qai rfl;apply qa5;simp[zQ,Tryz.f17];exact⟨_,_,by simp[qas,qax,qa9],qhg h (Nat.le_refl m) (Nat.le_refl m) fun _ _=>rfl⟩
   |true=>
    by_cases h0:kid=0
    ·subst h0;rw[bu]at ksu;rw[bi]at ksi;refine qa0 (s0:=⟨[0,1,2,3,8],[.ptr pb pre.length,.int .i64 up,.int .i64 at_,.int .i64 0,uD],[],69,⟨m,[]::[VE pb pre k 7 (t.map qa3) post g]⟩⟩) Tryz.func17 rfl rfl rfl ?_;apply rA_;simp[zS,rdT,ksu,ksi];apply qai rfl;apply qa5;simp[zQ,Tryz.f17];exact⟨_,_,by simp[qas,qax,qa9],qhg h (Nat.le_refl m) (Nat.le_refl m) fun _ _=>rfl⟩
    ·have bh:qg6 t kid up=true:=(by simpa[zbe,bu,bi,h0]using hok);rw[bu]at ksu;rw[bi]at ksi;rw[bh]at kh;refine qa0 (s0:=⟨[0,1,2,3,8],[.ptr pb pre.length,.int .i64 up,.int .i64 at_,.int .i64 kid,uD],[],69,⟨m,[]::[VE pb pre k 7 (t.map qa3) post g]⟩⟩) Tryz.func17 rfl rfl rfl ?_;apply rA_;simp[zS,rdT,ksu,ksi,kh,h0];apply qai rfl;apply qa5;simp[zQ,Tryz.f17];exact⟨_,_,by simp[qas,qax,qa9],qhg h (Nat.le_refl m) (Nat.le_refl m) fun _ _=>rfl⟩
 case pos=>
  have ep:putT t up at_ kid=qey (qb8 (qqr t kid) up.toNat (insP (qa1 (qqr t kid) up).kids at_ kid)) kid.toNat up:=by unfold putT;rw[if_pos hok]
  rw[ep];simp only[zbe,Bool.and_eq_true,Bool.not_eq_true',decide_eq_false_iff_not]at hok;obtain⟨⟨⟨bu,bi⟩,h0⟩,bh⟩:=hok;rw[bu]at ksu;rw[bi]at ksi;rw[bh]at kh;have hcut:=(c32 (T:=T) hP hS h hne (fun n hn=>Nat.le_trans (hk n hn) (by omega)) kid).perm (H2:=⟨m,[[],VE pb pre k 7 (t.map qa3) post g]⟩) (H2':=⟨m,[[],VE pb pre k 7 ((qqr t kid).map qa3) post g]⟩) rfl rfl (by simp[Heap.ents]) (by simp[Heap.ents]);have lX:=cutT_len t kid;have kX:=cutT_le hk kid;generalize qqr t kid=X at *;obtain⟨u,rfl⟩:=Int.eq_ofNat_of_zero_le (isB_iff.1 bu).1;obtain⟨i,rfl⟩:=Int.eq_ofNat_of_zero_le (isB_iff.1 bi).1;have hu:u < X.length:=by have:=(isB_iff.1 bu).2;omega
  have hi:i < X.length:=by have:=(isB_iff.1 bi).2;omega
  simp only[Int.toNat_natCast];have hX:=h.mono (Nat.le_refl m) (qbg X);have hXne:X≠[]:=by intro e;rw[e]at lX;exact hne (List.length_eq_zero_iff.1 lX.symm)
  have hXne':X.map qa3≠[]:=by simpa using hXne
  have hkgX:∀n (f:List (Nat × Blk)),(∀j,j < m->getF j f=none)->Heap.get ⟨n,[f,VE pb pre k 7 (X.map qa3) post g]⟩ k=some (.cells (qa6 (X.map qa3))):=fun n f hf=>by simp only[Heap.get,getFs];rw[hf k hX.lk.1,qx1 hX hXne']
  have rdN:=fun n=>(qeh (n:=n) hX nf).2;have ix:qat PG 22 (qcx k 7 (X.map qa3)) (.int .i64 (u:Int))=some (.ptr k (u * 7)):=by rw[qbd hXne'];simp[qat,qbv hu]
  obtain⟨K,hK⟩ : ∃K,K=(qa1 X (u:Int)).kids:=⟨_,rfl⟩;have hKl:K.length<=999999:=by rw[hK];exact qna kX _
  rw[<- hK];obtain⟨p,hp⟩ : ∃p:Nat,min (max at_ 0) (K.length:Int)=(p:Int):=Int.eq_ofNat_of_zero_le (by omega);have hpl:p<=K.length:=by omega
  have eins:insP K at_ (i:Int)=qiy K p (i:Int):=by unfold insP;rw[hp];rfl
  rw[eins];have rdK:∀(n:Nat) (f:List (Nat × Blk)),(∀j,j < m->getF j f=none)->qaw PG ⟨n,[f,VE pb pre k 7 (X.map qa3) post g]⟩ 30 (.ptr k (u * 7+6))=some (qbc K):=fun n f hf=>by simp[hkgX n f hf,qqe hu,hK]
  have rdK0:=fun n=>rdK n [] nf;have kw:=fun H=>k33 hW (L:=K) (a:=p) (i:Int) (by omega) hpl H;have lK:∀H,qf6 PG H 30 (qbc K)=some K.length:=fun H=>by simp[qf6,qbc]
  have mn:qs2 true (.int .i64 at_) [.int .i64 (K.length:Int)]=some (.int .i64 (min at_ (K.length:Int))):=rfl;have mx:qs2 false (.int .i64 0) [.int .i64 (min at_ (K.length:Int))]=some (.int .i64 (p:Int)):=by have:max 0 (min at_ (K.length:Int))=(p:Int):=(by omega);simp[qs2,this]
  have hw:=fun n=>qp0 (n:=n) hX hu (qiy K p (i:Int)) nf;have hX2:=hX.mono (Nat.le_refl m) (qbg (qb8 X u (qiy K p (i:Int))));have lX2:(qb8 X u (qiy K p (i:Int))).length=X.length:=qcv hu _;have hX2ne:(qb8 X u (qiy K p (i:Int))).map qa3≠[]:=by simp[qb8]
  have rdN2:=fun n=>(qeh (n:=n) hX2 nf).2;have ix2:qat PG 22 (qcx k 7 ((qb8 X u (qiy K p (i:Int))).map qa3)) (.int .i64 (i:Int))=some (.ptr k (i * 7)):=by have:=qbv (show i < (qb8 X u (qiy K p (i:Int))).length by omega);rw[qbd hX2ne];simp[qat,this]
  have hw2:=fun n=>qly (n:=n) hX2 (show i < (qb8 X u (qiy K p (i:Int))).length by omega) (u:Int) nf;have hX3:=hX2.mono (Nat.le_refl m) (qbg (qey (qb8 X u (qiy K p (i:Int))) i (u:Int)));generalize qiy K p (i:Int)=K' at *;have h0':¬ i=0:=by omega
  refine qa0 (s0:=⟨[0,1,2,3,8],[.ptr pb pre.length,.int .i64 (u:Int),.int .i64 at_,.int .i64 (i:Int),uD],[],69,⟨m,[]::[VE pb pre k 7 (t.map qa3) post g]⟩⟩) Tryz.func17 rfl rfl rfl ?_;apply rA_;simp[zS,rdT,ksi,ksu,kh,h0,h0'];apply qag rfl;apply qa4;simp;repeat apply wq
  refine qah (qbh [⟨32,_,_,_,_,hcut⟩]) ?_;simp[zS,qcc];apply rA_;simp[zS,rdN,ix,rdK0];repeat apply wq
  refine qc8 mixed qbf (by decide +kernel) fun B_ hB_=>?_;have hD_:ahead B_ 3 12=false/\ahead B_ 3 15=true/\ahead B_ 8 12=true/\ahead B_ 8 15=true/\ahead B_ 12 3=false/\ahead B_ 12 8=false/\ahead B_ 15 3=false/\ahead B_ 15 8=false:=by rw[hB_];decide +kernel
  apply qi9 B_;simp[zS,qdl,qc6,qc3,qbk,qap,qb4,qaz,Heap.lay,qd9,qi7,qi6,qfa,qf9,qf7,qf8,qfo,qfc,qdv,qdw,qfi,qfh,qff,qfg,qfl,qfm,qfk,qfj,hD_,hw,rdN,ix,kw,lK,mx,mn];exact rfl;refine⟨_,rfl,?_,?_⟩;simp[zS,qbk,qap,qc7,qcl,qdy,hD_,hw,rdN,ix,kw,lK,mx,mn];simp[qc5,Heap.lay,qd9,qam];apply rA_;simp[zS,rdN2,ix2,hw2];exact⟨[],rfl,_,_,by simp[oneOr,qas,qax,qa9],qhg hX3 (Nat.le_refl m) (Nat.le_refl m) fun _ _=>rfl⟩
theorem fit_ad{m n pb k:Nat} {pre post:List AV} {L:List Nd} {g f:List (Nat × Blk)} {row nz:List AV} {Φ:List (Nat × List AV)} (h:Eok m pb pre k 7 (L.map qa3) post g) (hm:getF m f=some (.cells row)) (hlow:∀i,i < m->getF i f=none)
  (hΦ:∀y,y∈Φ->m < y.1/\getF y.1 f=some (.cells y.2)/\qa9 y.2=true) (hnd:(Φ.map (·.1)).Nodup) (hr:∀σ,qax σ Φ row nz):FitH m (idn (m+1)) Φ ⟨n,[f,VE pb pre k 7 (L.map qa3) post g]⟩ ⟨m+1,[[(m,.cells nz)],VE pb pre k 7 (L.map qa3) post g]⟩ where
 nd1:=by refine List.nodup_append.2 ⟨qhe (m+1),hnd,?_⟩;intro a ha b hb e;subst e;obtain⟨y,hy,rfl⟩:=List.mem_map.1 hb;obtain⟨x,hx,he⟩:=List.mem_map.1 ha;obtain⟨i,hi,rfl⟩:=List.mem_map.1 hx;have:=(hΦ y hy).1;simp at hi he;omega
 nd2:=qi5 (m+1)
 nd3:=by have:=qnr h;simp only[Heap.ents,List.flatten_cons,List.flatten_nil,List.append_nil,List.cons_append,List.nil_append,List.map_cons,List.nodup_cons];refine⟨fun hx=>?_,this⟩;obtain⟨e,he,hh⟩:=List.mem_map.1 hx;have:=(qoc h e he).1;omega
 lt:=fun x hx=>by obtain⟨i,hi,rfl⟩:=List.mem_map.1 hx;simpa using hi
 idn:=fun x hx hlt=>by obtain⟨i,hi,rfl⟩:=List.mem_map.1 hx;rfl
 num:=by simp
 src:=fun e he=>by
  simp only[Heap.ents,List.flatten_cons,List.flatten_nil,List.append_nil,List.cons_append,List.nil_append,List.mem_cons]at he;rcases he with rfl|he
  ·exact⟨m,.cells row,qd8 (by omega),by simp[Heap.get,getFs,hm],hr _⟩
  ·obtain⟨h1,h2⟩:=qoc h e he;refine⟨e.1,e.2,qd8 (by omega),?_,qmt (h2 _ fun i hi=>qix (qhe (m+1)) (qd8 (by omega)))⟩;simp only[Heap.get,getFs];rw[hlow e.1 h1,qmq (qnr h) he]
 frz:=fun y hy=>by obtain⟨_,h2,h3⟩:=hΦ y hy;exact⟨y.2,by simp[Heap.get,getFs,h2],qak h3,h3⟩
theorem c18{T:List (Entry PG)} {m pb k:Nat} {pre post:List AV} {L:List Nd} {g:List (Nat × Blk)} (h:Eok m pb pre k 7 (L.map qa3) post g) (hl:L.length+1<=1000000) (nd:Nd) (ha:nd.attrs.length<=1000000) :
  CA T 18 [.ptr pb pre.length,qa3 nd] ⟨m,[VE pb pre k 7 (L.map qa3) post g]⟩ (.int .i64 (L.length:Int)) ⟨m+1,[VE pb pre m 7 ((L++[fresh nd]).map qa3) post g]⟩:=by
 have lp:=h.lp;have hgv:∀n f,(∀i,i < m->getF i f=none)->Heap.get ⟨n,[f,VE pb pre k 7 (L.map qa3) post g]⟩ pb=some (.cells (pre++qcx k 7 (L.map qa3)::post)):=fun n f hf=>by simp only[Heap.get,getFs];rw[hf pb lp,VE_p]
 have fl1:∀cs:List AV,∀i,i < m->getF i [(m,.cells cs)]=none:=fun cs i hi=>by unfold getF;rw[qao (show m≠i by omega)];rfl
 have fl2:∀(j:Nat) (ds cs:List AV),∀i,i < m->getF i [(m+j,.cells ds),(m,.cells cs)]=none:=fun j ds cs i hi=>by unfold getF;rw[qao (show m+j≠i by omega)];exact fl1 cs i hi
 have gx:qck (pre++qcx k 7 (L.map qa3)::post) pre.length=some (qcx k 7 (L.map qa3)):=by rw[qe0 (by simp),List.getElem_append_right (by omega)];simp
 have hes:Elems 7 (L.map qa3++[qf0 nd]):=by exact(qbg L).append ⟨by omega,fun v hv=>by simp only[List.mem_singleton]at hv;subst hv;exact⟨rfl,by simp[qf0,AV.cells,qb9,qaf,qa9,qab],fun h=>by omega,fun _=>⟨_,rfl⟩⟩⟩
 have rd2:∀n,qaw PG ⟨n,[[(m,.cells (qf0 nd).cells)],VE pb pre k 7 (L.map qa3) post g]⟩ 22 (.ptr pb pre.length)=some (qcx k 7 (L.map qa3)):=fun n=>by simp[hgv n _ (fl1 _),gx]
 have hf2:=fl2 (1+6) (qf0 nd).cells (qf0 nd).cells;rw[<- Nat.add_assoc]at hf2;obtain⟨f,hfd⟩ : ∃f,f=[(m+1+6,Blk.cells (qf0 nd).cells),(m,.cells (qf0 nd).cells)]:=⟨_,rfl⟩;rw[<- hfd]at hf2;have happ:=app_E (P:=PG) (elem:=34) (n:=m+1+11) (f:=f) qt0 qub qx5 rfl (by omega) h (t:=m+1+6) (e:=qf0 nd) rfl rfl hf2 (by rw[hfd];simp[getF]) (by simp;omega) (fun _=>rfl);have pr:=prom_E (f:=f) (g:=g) (c:=m+1+11) (row:=qa6 (L.map qa3++[qf0 nd])) (vrow:=pre++qcx k 7 (L.map qa3)::post) lp (by omega) hf2 hes.pure;have hly:qh7 [.slc (m+1+11) 0 (L.length+1) (.rest 7)] pre.length (pre++qcx k 7 (L.map qa3)::post)=some (pre++.slc (m+1+11) 0 (L.length+1) (.rest 7)::post):=by have:=qhw (a:=pre) (b:=[qcx k 7 (L.map qa3)]) (b':=[.slc (m+1+11) 0 (L.length+1) (.rest 7)]) (c:=post) rfl;simpa using this
 obtain⟨R,hR⟩ : ∃R,R=qa6 (L.map qa3++[qf0 nd]):=⟨_,rfl⟩;rw[<- hR]at happ pr;simp only[List.length_map]at happ;have q1:Nat.beq (m+1+11) pb=false:=qao (by omega);have q2:Nat.beq (m+1+6) pb=false:=qao (by omega);have q3:Nat.beq m pb=false:=qao (by omega);have c5:qh7 [.int .i64 (-1)] 5 nd.cs=some [qb9 nd.kind,qb9 nd.space,.str nd.name,qaf nd.attrs,.str nd.data,qb9 (-1),qbc nd.kids]:=rfl;have c6:qh7 [.nilS] 6 [qb9 nd.kind,qb9 nd.space,.str nd.name,qaf nd.attrs,.str nd.data,qb9 (-1),qbc nd.kids]=some [qb9 nd.kind,qb9 nd.space,.str nd.name,qaf nd.attrs,.str nd.data,qb9 (-1),.nilS]:=rfl;have sg:(qaf nd.attrs).single=true:=rfl;have sgi:∀i,(qb9 i).single=true:=fun _=>rfl;have nzc:[qb9 nd.kind,qb9 nd.space,.str nd.name,qaf nd.attrs,.str nd.data,qb9 (-1),.nilS]=(qf0 nd).cells:=rfl;have l3:∀v,qh7 [v] 3 (qf0 nd).cells=some [qb9 nd.kind,qb9 nd.space,.str nd.name,v,.str nd.data,qb9 (-1),.nilS]:=fun _=>rfl;have ga3:qck (qf0 nd).cells 3=some (qaf nd.attrs):=rfl;refine qa0 (s0:=⟨[0,1,3,4],[.ptr pb pre.length,qa3 nd,uD,uD],[],28,⟨m,[]::[VE pb pre k 7 (L.map qa3) post g]⟩⟩) Tryz.func18 rfl rfl rfl ?_;apply rA_;simp[zS];apply rA_;simp[zS,c5,c6];rw[nzc];refine qg0 ((⟨[0,1,3,4],[.ptr pb pre.length,uD,.ptr m 0,uD],[],28,⟨m+1,[[(m,.cells (qf0 nd).cells)],VE pb pre k 7 (L.map qa3) post g]⟩⟩ : St)) ?_ fun hj=>?_
 rotate_left
 ·have happ0:=qkt (P:=PG) (elem:=71) (b:=m+1) (m:=m+1+1) (es:=nd.attrs.map qbw) (g:=[(m,.cells (qf0 nd).cells)]) (fs:=[VE pb pre k 7 (L.map qa3) post g]) zaw zca zao rfl (by omega) (by omega) (qe7 _) (qhb _) (by simp;omega);have b1:Nat.beq (m+1) m=false:=qao (by omega);have b2:Nat.beq (m+1+1) m=false:=qao (by omega);have prm:∀(rs:List Nat) (x:Nat × Blk) (r:List (List (Nat × Blk))),qcy m rs [] ([x,(m,.cells (qf0 nd).cells)]::r)=[x,(m,.cells (qf0 nd).cells)]::r:=fun rs x r=>qcb (by unfold getF;split<;>simp[getF]);have prm2:∀(rs:List Nat) (x y:Nat × Blk) (r:List (List (Nat × Blk))),qcy m rs [] ([x,y,(m,.cells (qf0 nd).cells)]::r)=[x,y,(m,.cells (qf0 nd).cells)]::r:=fun rs x y r=>qcb (by unfold getF;split<;>first|simp|(unfold getF;split<;>simp[getF]));by_cases hA:nd.attrs=[]
  ·have e1:qxi (m+1) (m+1+1) 2 (nd.attrs.map qbw)=.slc (m+1) 0 0 (.ex 0):=(by rw[hA];rfl);have e2:qtc ⟨m+1+1,((m+1,.cells [])::[(m,.cells (qf0 nd).cells)])::[VE pb pre k 7 (L.map qa3) post g]⟩ (nd.attrs.map qbw)=⟨m+1+1,[[(m+1,.cells []),(m,.cells (qf0 nd).cells)],VE pb pre k 7 (L.map qa3) post g]⟩:=(by rw[hA];rfl);rw[e1,e2]at happ0;apply rA_;simp[zS,happ0,ga3,l3,prm,b1,qaf];refine hj _ ?_;refine⟨idn (m+1),[],rfl,rfl,rfl,by simp[qax,qas,qb2,qix (qhe (m+1)) (qd8 (show m < m+1 by omega)),qix (qhe (m+1)) (qd8 (show pb < m+1 by omega))],fit_ad (row:=[qb9 nd.kind,qb9 nd.space,.str nd.name,.slc (m+1) 0 0 (.ex 0),.str nd.data,qb9 (-1),.nilS]) h ?_ ?_ (by simp) (by simp) (fun σ=>by rw[<- nzc,hA];simp[qax,qas,qaf,qb9,qab])⟩
   ·simp[getF,b1]
   ·intro i hi;simp[getF,qao (show m+1≠i by omega),qao (show m≠i by omega)]
  ·have hlen:(nd.attrs.map qbw).length=nd.attrs.length:=(by simp);have hne:nd.attrs.map qbw≠[]:=(by simpa using hA);have e1:qxi (m+1) (m+1+1) 2 (nd.attrs.map qbw)=.slc (m+1+1) 0 nd.attrs.length (.rest 2):=by
    cases hq:nd.attrs with
    |nil=>exact absurd hq hA
    |cons x r=>simp[qxi]
   have e2:qtc ⟨m+1+1,((m+1,.cells [])::[(m,.cells (qf0 nd).cells)])::[VE pb pre k 7 (L.map qa3) post g]⟩ (nd.attrs.map qbw)=⟨m+1+1+1,[[(m+1+1,.cells (qa6 (nd.attrs.map qbw))),(m+1,.cells []),(m,.cells (qf0 nd).cells)],VE pb pre k 7 (L.map qa3) post g]⟩:=by
    cases hq:nd.attrs with
    |nil=>exact absurd hq hA
    |cons x r=>rfl
   rw[e1,e2]at happ0;obtain⟨F,hF⟩ : ∃F,F=qa6 (nd.attrs.map qbw):=⟨_,rfl⟩;rw[<- hF]at happ0;apply rA_;simp[zS,happ0,ga3,l3,prm2,b1,b2,qaf];refine hj _ ?_;refine⟨idn (m+1),[(m+1+1,F)],rfl,rfl,rfl,by simp[qax,qas,qb2,qix (qhe (m+1)) (qd8 (show m < m+1 by omega)),qix (qhe (m+1)) (qd8 (show pb < m+1 by omega))],fit_ad (row:=[qb9 nd.kind,qb9 nd.space,.str nd.name,.slc (m+1+1) 0 nd.attrs.length (.rest 2),.str nd.data,qb9 (-1),.nilS]) h ?_ ?_ ?_ (by simp) (fun σ=>?_)⟩
   ·simp[getF,b1,b2]
   ·intro i hi;simp[getF,qao (show m+1≠i by omega),qao (show m≠i by omega),qao (show m+1+1≠i by omega)]
   ·intro y hy;simp at hy;subst hy;exact⟨by simp only;omega,by simp[getF],by rw[hF];exact(qe7 _).pure⟩
   ·rw[<- nzc];have hel:=qe7 nd.attrs;have hl:=hel.len;rw[hlen,<- hF]at hl;have hv:qas σ [(m+1+1,F)] (.slc (m+1+1) 0 nd.attrs.length (.rest 2)) (qaf nd.attrs):=(by simp only[qaf,qas,qca,if_true];refine .inl ⟨_,rfl,?_,hlen,hel.size⟩;unfold qex;rw[List.drop_zero,<- hl,qco,hF]);simp only[qax];exact⟨qb5 rfl,qb5 rfl,qb5 rfl,hv,qb5 rfl,qb5 rfl,qb5 rfl,trivial⟩
 rw[hfd]at happ pr;simp only[qf0,AV.cells,qb9]at happ pr rd2 ⊢;repeat apply wq
 refine qc8 mixed qbf (by decide +kernel) fun B_ hB_=>?_;have hD_:ahead B_ 4 7=true/\ahead B_ 4 10=true/\ahead B_ 5 7=true/\ahead B_ 5 10=true/\ahead B_ 6 7=true/\ahead B_ 6 10=true/\ahead B_ 7 4=false/\ahead B_ 7 5=false/\ahead B_ 10 4=false/\ahead B_ 10 5=false:=by rw[hB_];decide +kernel
 apply qi9 B_;simp[zS,qdl,qc6,qc3,qbk,qap,qb4,qaz,Heap.lay,qd9,qi7,qi6,qfa,qf9,qf7,qf8,qfo,qfc,qdv,qdw,qfi,qfh,qff,qfg,qfl,qfm,qfk,qfj,hD_,rd2,sg,happ,q1,q2,q3,pr,hly];exact rfl;refine⟨_,rfl,?_,?_⟩;simp[zS,qbk,qap,qc7,qcl,qdy,hD_,rd2,sg,happ,q1,q2,q3,pr,hly];simp[qc5,Heap.lay,qd9,qam];have g3:Heap.get ⟨m+1+11+1,[[(m+1+6,.cells [.int .i64 nd.kind,.int .i64 nd.space,.str nd.name,qaf nd.attrs,.str nd.data,.int .i64 (-1),.nilS]),(m,.cells [.int .i64 nd.kind,.int .i64 nd.space,.str nd.name,qaf nd.attrs,.str nd.data,.int .i64 (-1),.nilS])],(m+1+11,.cells R)::(pb,.cells (pre++.slc (m+1+11) 0 (L.length+1) (.rest 7)::post))::g]⟩ pb=some (.cells (pre++.slc (m+1+11) 0 (L.length+1) (.rest 7)::post)):=by simp[zG,q1,q2,q3]
 have gx3:qck (pre++.slc (m+1+11) 0 (L.length+1) (.rest 7)::post) pre.length=some (.slc (m+1+11) 0 (L.length+1) (.rest 7)):=by rw[qe0 (by simp),List.getElem_append_right (by omega)];simp
 have hfit:=fit_E (es':=(L++[fresh nd]).map qa3) (c:=m+1+11) (cs0:=R) (H:=⟨m+1+11+1,[[(m+1+6,.cells [.int .i64 nd.kind,.int .i64 nd.space,.str nd.name,qaf nd.attrs,.str nd.data,.int .i64 (-1),.nilS]),(m,.cells [.int .i64 nd.kind,.int .i64 nd.space,.str nd.name,qaf nd.attrs,.str nd.data,.int .i64 (-1),.nilS])],(m+1+11,.cells R)::(pb,.cells (pre++.slc (m+1+11) 0 (L.length+1) (.rest 7)::post))::g]⟩) h (by omega) (by simp)
  (fun σ=>by subst hR;rw[List.map_append,qbj,qbj];refine qe1 (qak (qbg L).pure) ?_;simp[qa6,qf0,qa3,fresh,Nd.cs,AV.cells,qax,qas,qb9,qab])
  (by rw[g3];simp)
  (by simp[zG,show Nat.beq (m+1+6) (m+1+11)=false from qao (by omega),show Nat.beq m (m+1+11)=false from qao (by omega)])
  (fun e he=>by have:=h.lg e he;have nd:=h.nd;rw[List.nodup_cons]at nd;have e1:pb≠e.1:=fun x=>nd.1 (List.mem_map.2 ⟨e,he,x.symm⟩);simp[zG,qao (show m+1+11≠e.1 by omega),qao (show m+1+6≠e.1 by omega),qao (show m≠e.1 by omega),qao e1,qmq nd.2 he])
 have rd3:qaw PG ⟨m+1+11+1,[[(m+1+6,.cells [.int .i64 nd.kind,.int .i64 nd.space,.str nd.name,qaf nd.attrs,.str nd.data,.int .i64 (-1),.nilS]),(m,.cells [.int .i64 nd.kind,.int .i64 nd.space,.str nd.name,qaf nd.attrs,.str nd.data,.int .i64 (-1),.nilS])],(m+1+11,.cells R)::(pb,.cells (pre++.slc (m+1+11) 0 (L.length+1) (.rest 7)::post))::g]⟩ 22 (.ptr pb pre.length)=some (.slc (m+1+11) 0 (L.length+1) (.rest 7)):=by simp[g3,gx3]
 have hsub:wr .i64 (L.length:Int)=some (L.length:Int):=by have:=qt2 (q:=L.length) (by omega);simpa using this
 have hlen:∀H,qf6 PG H 22 (.slc (m+1+11) 0 (L.length+1) (.rest 7))=some (L.length+1):=fun H=>rfl;apply rA_;simp[zS,rd3,hsub,hlen];apply qa5;simp[zQ,Tryz.f18];rw[List.map_append]at hfit;refine⟨_,_,?_,hfit⟩;simp[qas,qab]
