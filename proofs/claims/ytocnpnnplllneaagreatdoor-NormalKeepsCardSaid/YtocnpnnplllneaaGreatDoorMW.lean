/- NormalKeeps's walk. No condition. -/
import Derived.Test.YtocnpnnplllneaaGreatDoorMR
import Derived.Test.YtocnpnnplllneaaGreatDoorMK
import Derived.Test.YtocnpnnplllneaaGreatDoorMV
import Derived.Test.YtocnpnnplllneaaGreatDoorMM
namespace Go.Proofs.YtocnpnnplllneaaGreatDoor
set_option linter.unusedSimpArgs false
set_option linter.unusedVariables false
open Go Go.RowKit
set_option maxRecDepth 100000
@[simp] theorem szT43:qbw Tryz.prog 43=some 1:=rfl
@[simp] theorem agT43:qgd Tryz.prog 43=some false:=rfl
@[simp] theorem byT43:qc6 Tryz.prog 43=some 8:=rfl
@[simp] theorem alT43 (H:Heap):alV Tryz.prog H 43=some (.ptr H.n 0,H.new (.cells [.nilF])):=rfl
@[simp] theorem zeT43:qbn Tryz.prog 43=some (.nilF):=rfl
attribute [simp] Tryz.underlying43
@[simp 500] theorem rvF43 (H:Heap) (cs:List AV) (o:Nat):qaq Tryz.prog H 43 (.fptr cs o)=qc7 cs o:=rfl
@[simp 500] theorem rvP43 (H:Heap) (b o:Nat):qaq Tryz.prog H 43 (.ptr b o)=(H.get b).bind fun k=>k.rd.bind fun cs=>qc7 cs o:=rfl
def cR (t:Tr) (s:List Bool) (v:AV):List (Nat × Blk):=[(2,.cells [v]),(4,.cells [.slc 3 0 t.length (.ex t.length)]),(3,.cells (bls s)),(0,.cells [qae t]),(5,.cells [.func (.func 50) [] [.ptr 4 0,.ptr 2 0,.ptr 0 0,.ptr 5 0]])]
abbrev CpO:=Option (List AV × List Int × List Nd)
def cV (z:Nat):CpO→AV
 | none=>.nilS
 | some _=>.slc 6 0 z (.rest 7)
def zda (b:Nat):CpO→List AV
 | none=>[]
 | some x=>x.1++(lA b x.2.1::qa4 (x.2.2.map qa7))
def cI:CpO→List (Nat × Blk)
 | none=>[]
 | some x=>[(6,.cells (zda 7 (some x)))]
def cK:CpO→List (Nat × Blk)
 | none=>[]
 | some x=>lF 7 x.2.1
def cU (c:Nat):CpO→List AV
 | none=>[]
 | some x=>x.1++(.slc c 0 (x.2.1.length+1) (.rest 1)::qa4 (x.2.2.map qa7))
def cG (c z:Nat):CpO→List (Nat × Blk)
 | none=>[]
 | some x=>[(c,.cells (qcd (x.2.1++[(z:Int)])))]
def cOk (up:Int) (z:Nat):CpO→Prop
 | none=>up = -1∧z=0
 | some x=>qac x.1=true∧allSingle x.1=true∧(∃ u:Nat,up=(u:Int)∧x.1.length=u * 7+6∧z=u+1+x.2.2.length)∧x.2.1.length≤100000
theorem cRow_len {up:Int} {z b:Nat} {o:CpO} (h:cOk up z o):(zda b o).length=z * 7:=by
 cases o with
 | none=>obtain ⟨_,rfl⟩:=h;rfl
 | some x=>
  obtain ⟨_,_,⟨u,_,h1,h2⟩,_⟩:=h
  have:=(qbp x.2.2).len
  simp only [zda,List.length_append,List.length_cons,this,List.length_map]
  omega
theorem cU_len {up:Int} {z b:Nat} {o:CpO} (h:cOk up z o):(cU b o).length=z * 7:=by
 cases o with
 | none=>obtain ⟨_,rfl⟩:=h;rfl
 | some x=>
  obtain ⟨_,_,⟨u,_,h1,h2⟩,_⟩:=h
  have:=(qbp x.2.2).len
  simp only [cU,List.length_append,List.length_cons,this,List.length_map]
  omega
theorem zd9 {up:Int} {z b:Nat} {o:CpO} (h:cOk up z o):allSingle (cU b o)=true:=by
 cases o with
 | none=>rfl
 | some x=>
  obtain ⟨_,h2,_⟩:=h
  have e:allSingle (AV.slc b 0 (x.2.1.length+1) (.rest 1)::qa4 (x.2.2.map qa7))=true:=by
   show allSingle (qa4 (x.2.2.map qa7))=true
   exact qly _
  simp only [cU,qd2,h2,e];rfl
theorem cU_fit {up:Int} {z b c:Nat} {o:CpO} {σ:List (Nat × Nat)} {Φ:List (Nat × List AV)} (h:cOk up z o) (hl:qay b σ=some c):qb1 σ Φ (cU b o) (cU c o):=by
 cases o with
 | none=>trivial
 | some x=>
  obtain ⟨h1,_⟩:=h
  exact qdo (qaj h1) ⟨by simp [qar,hl],qaj (qbp _).pure⟩
theorem app_cp {t:Tr} {s:List Bool} {up:Int} {z:Nat} {nc:List AV} {o:CpO} (ho:cOk up z o) (hnl:nc.length=7) (hns:allSingle nc=true) (hz:z≤100000) :
  qbz Tryz.prog ⟨10,[(9,.cells nc)::(8,.cells nc)::(cR t s (cV z o)++cI o),cK o]⟩ 34 (cV z o) (.slc 9 0 1 (.ex 1)) =
   some (.slc 10 0 (z+1) (.rest 7),⟨11,[(10,.cells (zda 7 o++nc))::(9,.cells nc)::(8,.cells nc)::cR t s (cV z o),cK o]⟩):=by
 have hrow:∀ cs,qp3 Tryz.prog 34 cs=.cells cs:=by intro cs;rfl
 have htk:qef 7 nc=some nc:=by rw [← hnl];exact qcz nc
 obtain ⟨by_,hby⟩ : ∃ b,qc6 Tryz.prog 34=some b:=⟨_,byT34⟩
 have hbv:0 < by_∧by_≤1000:=by
  have:=hby.symm.trans byT34
  simp at this;omega
 obtain ⟨zz,hzz,hzl⟩ : ∃ b,qbn Tryz.prog 34=some b∧b.cells.length=7:=⟨_,zeT34,rfl⟩
 have hb1:Nat.blt 0 by_=true:=by simp;omega
 have hpl:=cRow_len (b:=7) ho
 cases o with
 | none=>
  obtain ⟨_,rfl⟩:=ho
  have hr:qck 1 by_=true:=by unfold qck;rw [Nat.ble_eq];omega
  unfold qbz
  simp [cV,cI,cK,zda,qzu,hby,hzz,hzl,qc2,hb1,hr,qb4,readCells,Heap.get,getFs,getF,qek,htk,hnl,hrow,Heap.new,pushF]
 | some x=>
  generalize hq:zda 7 (some x)=pre at *
  have hr:qck (z+1) by_=true:=by
   unfold qck;rw [Nat.ble_eq]
   have:(z+1) * by_≤100001 * 1000:=Nat.mul_le_mul (by omega) hbv.2
   omega
  have h2:Nat.ble ((z+1) * 7) (z * 7)=false:=by rw [← Bool.not_eq_true,Nat.ble_eq];omega
  have htp:qef (z * 7) pre=some pre:=by rw [← hpl];exact qcz pre
  have hI:cI (some x)=[(6,.cells pre)]:=by rw [← hq];rfl
  rw [hI]
  unfold qbz
  simp [cV,cR,qzu,hby,hzz,hzl,qc2,hb1,hr,qb4,readCells,Heap.get,getFs,getF,qek,htk,hnl,hrow,Heap.new,pushF,hns,qci,hpl,h2,htp,Heap.drop,qdz,killF]
def cH (t:Tr) (s:List Bool) (zz:Nat) (row:List AV) (g:List (Nat × Blk)):List (Nat × Blk):=cR t s (.slc 8 0 zz (.rest 7))++((8,.cells row)::g)
theorem qor {t:Tr} {s:List Bool} {zz z:Nat} {up:Int} {o:CpO} (ho:cOk up z o) {H:Heap} {a b c:Nat} {hd:List AV} {L:List Int} {D:List Nd} {v6:AV} (hhd:qac hd=true)
  (hv6:v6=lA b L∨(v6=.nilS∧L=[])) (h1:a≠b∧a≠c∧b≠c∧a ∉ [0,2,3,4,5]∧b ∉ [0,2,3,4,5]∧c ∉ [0,2,3,4,5])
  (ga:H.get a=some (.cells (cU c o++(hd++(v6::qa4 (D.map qa7)))))) (g2:H.get 2=some (.cells [.slc a 0 zz (.rest 7)])) (g4:H.get 4=some (.cells [.slc 3 0 t.length (.ex t.length)])) (g3:H.get 3=some (.cells (bls s)))
  (g0:H.get 0=some (.cells [qae t])) (g5:H.get 5=some (.cells [.func (.func 50) [] [.ptr 4 0,.ptr 2 0,.ptr 0 0,.ptr 5 0]])) (gb:L≠[]→H.get b=some (.cells (qcd L))) (gc:∀ y:List AV × List Int × List Nd,o=some y→H.get c=some (.cells (qcd (y.2.1++[(z:Int)])))) :
  FitH 8 [(a,8),(b,11),(c,9),(0,0),(2,2),(3,3),(4,4),(5,5)] [] H ⟨12,[cH t s zz (cU 9 o++(hd++(lA 11 L::qa4 (D.map qa7)))) (cG 9 z o),lF 11 L]⟩ where
 nd1:=by
  obtain ⟨h1,h2,h3,h4,h5,h6⟩:=h1
  simp at h4 h5 h6
  simp
  omega
 nd2:=by simp
 nd3:=by
  have hL:lF 11 L=[]∨lF 11 L=[(11,.cells (qcd L))]:=by
   by_cases hL:L=[]
   ·subst hL;exact .inl rfl
   ·exact .inr (qi7 hL)
  cases o <;> rcases hL with hL | hL <;> simp [Heap.ents,hL,cH,cR,cG]
 lt:=by simp
 idn:=by simp
 num:=by simp
 src:=by
  intro e he
  have hN:=qch t
  simp only [Heap.ents,cH,cR,List.flatten_cons,List.flatten_nil,List.append_nil,List.mem_cons,List.mem_append,List.not_mem_nil,or_false] at he
  rcases he with ((rfl | rfl | rfl | rfl | rfl) | rfl | he) | he
  ·exact ⟨2,_,by simp,g2,by simp [qh6,qb1,qar,qay]⟩
  ·obtain ⟨k1,k2,k3,k4,k5,k6⟩:=h1
   simp at k4 k5 k6
   have m1:¬ a=3:=by omega
   have m2:¬ b=3:=by omega
   have m3:¬ c=3:=by omega
   exact ⟨4,_,by simp,g4,by simp [qh6,qb1,qar,qay,m1,m2,m3]⟩
  ·exact ⟨3,_,by simp,g3,qaj (qj1 s)⟩
  ·exact ⟨0,_,by simp,g0,qaj (by simp [qac])⟩
  ·obtain ⟨k1,k2,k3,k4,k5,k6⟩:=h1
   simp at k4 k5 k6
   exact ⟨5,_,by simp,g5,by simp [qh6,qb1,qar,qay,k4,k5,k6]⟩
  ·refine ⟨a,_,by simp,ga,?_⟩
   have hlc:qay c [(a,8),(b,11),(c,9),(0,0),(2,2),(3,3),(4,4),(5,5)]=some 9:=by
    have m1:¬ a=c:=h1.2.1
    have m2:¬ b=c:=h1.2.2.1
    simp [qay,m1,m2]
   refine qdo (cU_fit ho hlc) (qdo (qaj hhd) ⟨?_,qaj (qbp _).pure⟩)
   by_cases hL:L=[]
   ·subst hL
    rcases hv6 with rfl | ⟨rfl,_⟩ <;> simp [lA,qdk,qcd,qar]
   ·rcases hv6 with rfl | ⟨_,h⟩
    ·rw [qp9 hL,qp9 hL]
     have:¬ a=b:=h1.1
     simp [qar,qay,this]
    ·exact absurd h hL
  ·cases o with
   | none=>cases he
   | some x=>
    simp [cG] at he
    subst he
    exact ⟨c,_,by simp,gc x rfl,by simp only [qh6];exact qaj (qb8 _)⟩
  ·by_cases hL:L=[]
   ·subst hL;cases he
   ·rw [qi7 hL] at he
    simp at he
    subst he
    exact ⟨b,_,by simp,gb hL,qaj (qb8 L)⟩
 frz:=fun y hy=>by cases hy
theorem cp_fitE {t:Tr} {s:List Bool} {zz z:Nat} {up:Int} {o:CpO} (ho:cOk up z o) {L:List Int} {x:Nd} {pu:Int} {D:List Nd} {H:Heap}
  (g8:H.get 8=some (.cells (cU 9 o++([qb6 x.kind,qb6 x.space,.str x.name,qak x.attrs,.str x.data,qb6 pu]++(lA 11 L::qa4 (D.map qa7)))))) (g2:H.get 2=some (.cells [.slc 8 0 zz (.rest 7)])) (g4:H.get 4=some (.cells [.slc 3 0 t.length (.ex t.length)])) (g3:H.get 3=some (.cells (bls s)))
  (g0:H.get 0=some (.cells [qae t])) (g5:H.get 5=some (.cells [.func (.func 50) [] [.ptr 4 0,.ptr 2 0,.ptr 0 0,.ptr 5 0]])) (gb:L≠[]→H.get 11=some (.cells (qcd L))) (gc:∀ y:List AV × List Int × List Nd,o=some y→H.get 9=some (.cells (qcd (y.2.1++[(z:Int)])))) :
  ∃ σ Φ,qar σ Φ (.tup []) (.tup [])∧FitH 8 σ Φ H ⟨10,[cH t s zz (cU 9 o++qa4 ((({ x with up:=pu,kids:=L }:Nd)::D).map qa7)) (cG 9 z o)]⟩:=by
 have key:∀ Φ,(Φ=[]∨(Φ=[(11,qcd L)]∧L≠[]))→qar [(8,8),(9,9),(0,0),(2,2),(3,3),(4,4),(5,5)] Φ (lA 11 L) (qbh L)→FitH 8 [(8,8),(9,9),(0,0),(2,2),(3,3),(4,4),(5,5)] Φ H ⟨10,[cH t s zz (cU 9 o++qa4 ((({ x with up:=pu,kids:=L }:Nd)::D).map qa7)) (cG 9 z o)]⟩:=fun Φ hΦ hv=>{
  nd1:=by rcases hΦ with rfl | ⟨rfl,_⟩ <;> simp
  nd2:=by simp
  nd3:=by cases o <;> simp [Heap.ents,cH,cR,cG]
  lt:=by simp
  idn:=by simp
  num:=by simp
  src:=by
   intro e he
   have hN:=qch t
   simp only [Heap.ents,cH,cR,List.flatten_cons,List.flatten_nil,List.append_nil,List.mem_cons,List.mem_append,List.not_mem_nil,or_false] at he
   rcases he with (rfl | rfl | rfl | rfl | rfl) | rfl | he
   ·exact ⟨2,_,by simp,g2,by simp [qh6,qb1,qar,qay]⟩
   ·exact ⟨4,_,by simp,g4,by simp [qh6,qb1,qar,qay]⟩
   ·exact ⟨3,_,by simp,g3,qaj (qj1 s)⟩
   ·exact ⟨0,_,by simp,g0,qaj (by simp [qac])⟩
   ·exact ⟨5,_,by simp,g5,by simp [qh6,qb1,qar,qay]⟩
   ·refine ⟨8,_,by simp,g8,?_⟩
    refine qdo (cU_fit ho (by simp [qay])) ?_
    show qb1 _ _ _ ([qb6 x.kind,qb6 x.space,.str x.name,qak x.attrs,.str x.data,qb6 pu]++(qbh L::qa4 (D.map qa7)))
    exact qdo (qaj (by simp [qac,qah,qb6])) ⟨hv,qaj (qbp D).pure⟩
   ·cases o with
    | none=>cases he
    | some x=>
     simp [cG] at he
     subst he
     exact ⟨9,_,by simp,gc x rfl,by simp only [qh6];exact qaj (qb8 _)⟩
  frz:=fun y hy=>by
   rcases hΦ with rfl | ⟨rfl,hL⟩
   ·cases hy
   ·simp at hy;subst hy
    exact ⟨qcd L,gb hL,qaj (qb8 L),qb8 L⟩ }
 by_cases hL:L=[]
 ·exact ⟨_,[],by simp [qar,qb1],key [] (.inl rfl) (by subst hL;simp [lA,qdk,qcd,qar])⟩
 ·refine ⟨_,[(11,qcd L)],by simp [qar,qb1],key _ (.inr ⟨rfl,hL⟩) ?_⟩
  rw [qp9 hL]
  simp only [qar,qc5,if_true]
  refine .inl ⟨_,rfl,?_,by simp,(qqb L).size⟩
  have h2:(qcd L).length=L.length:=by simp [qcd]
  show qek 0 (L.length * 1) (qcd L)=some (qa4 (qcd L))
  rw [qf8,Nat.mul_one,← h2]
  unfold qek
  rw [List.drop_zero,qcz]
end Go.Proofs.YtocnpnnplllneaaGreatDoor
namespace Go.Proofs.YtocnpnnplllneaaGreatDoor
set_option linter.unusedSimpArgs false
set_option linter.unusedVariables false
open Go Go.RowKit
set_option maxRecDepth 100000
set_option maxHeartbeats 1000000
theorem copy_in {C:Ctx} {f:FuncId} {t:Tr} {s s':List Bool} {k up:Int} {zz q:Nat} {L L':List Int} {D N:List Nd} {P:List AV} {G:List (Nat × Blk)} (hP:allSingle P=true) (hG:G=[]∨∃ l,G=[(9,.cells (qcd l))])
  (h:∀ pre,qac pre=true→allSingle pre=true→pre.length=P.length→CallAt C f [.int .i64 k,.int .i64 up,.ptr 4 0,.ptr 2 0,.ptr 0 0,.ptr 5 0] ⟨8,[cR t s (.slc 6 0 zz (.rest 7))++([(6,.cells (pre++(lA 7 L::qa4 (D.map qa7))))]++lF 7 L)]⟩ (.tup [])
   ⟨10,[cH t s' q (pre++(.slc 9 0 (L.length+1) (.rest 1)::qa4 (D.map qa7))++qa4 (N.map qa7)) [(9,.cells (qcd L'))]]⟩) :
  CallAt C f [.int .i64 k,.int .i64 up,.ptr 4 0,.ptr 2 0,.ptr 0 0,.ptr 5 0] ⟨12,[cH t s zz (P++(lA 11 L::qa4 (D.map qa7))) G,lF 11 L]⟩ (.tup [])
   ⟨14,[cR t s' (.slc 12 0 q (.rest 7))++((12,.cells (P++(.slc 13 0 (L.length+1) (.rest 1)::qa4 ((D++N).map qa7))))::(13,.cells (qcd L'))::G),[]]⟩:=by
 have hL7:lF 7 L=[]∧lF 11 L=[]∧L=[]∨lF 7 L=[(7,.cells (qcd L))]∧lF 11 L=[(11,.cells (qcd L))]∧L≠[]:=by
  by_cases hL:L=[]
  ·subst hL;exact .inl ⟨rfl,rfl,rfl⟩
  ·exact .inr ⟨qi7 hL,qi7 hL,hL⟩
 have key:=CallAt.anyfront (C:=C) (f:=f) (args:=[.int .i64 k,.int .i64 up,.ptr 4 0,.ptr 2 0,.ptr 0 0,.ptr 5 0]) (v:=.tup []) (n:=12) (n':=14) (b:=8) (b':=12) (P:=P) (c0:=lA 11 L::qa4 (D.map qa7))
  (cs:=.slc 13 0 (L.length+1) (.rest 1)::qa4 ((D++N).map qa7)) (g:=cR t s (.slc 8 0 zz (.rest 7))++(lF 11 L++G)) (g':=cR t s' (.slc 12 0 q (.rest 7))++((13,.cells (qcd L'))::G)) hP fun pre hp hs hl=>?_
 ·refine key.perm rfl rfl ?_ ?_
  ·simp only [Heap.ents,cH,List.flatten_cons,List.flatten_nil,List.append_nil]
   refine List.Perm.trans ?_ (List.perm_middle (l₁:=cR t s (.slc 8 0 zz (.rest 7))))
   rw [List.append_assoc]
   refine List.Perm.append_left _ ?_
   exact List.Perm.cons _ List.perm_append_comm
  ·simp only [Heap.ents,List.flatten_cons,List.flatten_nil,List.append_nil]
   exact List.perm_middle
 ·have hb:=qj1 s
  have hb':=qj1 s'
  have hN:=qch t
  have hD:=(qbp D).pure
  have hfh:FitH 0 [(8,6),(11,7),(0,0),(2,2),(3,3),(4,4),(5,5)] [] ⟨12,[(8,.cells (pre++(lA 11 L::qa4 (D.map qa7))))::(cR t s (.slc 8 0 zz (.rest 7))++(lF 11 L++G))]⟩ ⟨8,[cR t s (.slc 6 0 zz (.rest 7))++([(6,.cells (pre++(lA 7 L::qa4 (D.map qa7))))]++lF 7 L)]⟩:={
   nd1:=by simp
   nd2:=by simp
   nd3:=by rcases hL7 with ⟨h1,h2,rfl⟩ | ⟨h1,h2,h3⟩ <;> rw [h1] <;> simp [Heap.ents,cR]
   lt:=by simp
   idn:=by simp
   num:=by simp
   src:=by
    intro e he
    simp only [Heap.ents,cR,List.flatten_cons,List.flatten_nil,List.append_nil,List.mem_cons,List.mem_append,List.not_mem_nil,or_false,List.cons_append,List.nil_append] at he
    rcases he with rfl | rfl | rfl | rfl | rfl | rfl | he
    ·exact ⟨2,.cells [.slc 8 0 zz (.rest 7)],by simp,by simp [Heap.get,getFs,getF,cR],by simp [qh6,qb1,qar,qay]⟩
    ·exact ⟨4,.cells [.slc 3 0 t.length (.ex t.length)],by simp,by simp [Heap.get,getFs,getF,cR],by simp [qh6,qb1,qar,qay]⟩
    ·exact ⟨3,.cells (bls s),by simp,by simp [Heap.get,getFs,getF,cR],qaj hb⟩
    ·exact ⟨0,.cells [qae t],by simp,by simp [Heap.get,getFs,getF,cR],qaj (by simp [qac])⟩
    ·exact ⟨5,.cells [.func (.func 50) [] [.ptr 4 0,.ptr 2 0,.ptr 0 0,.ptr 5 0]],by simp,by simp [Heap.get,getFs,getF,cR],by simp [qh6,qb1,qar,qay]⟩
    ·refine ⟨8,.cells (pre++(lA 11 L::qa4 (D.map qa7))),by simp,by simp [Heap.get,getFs,getF],?_⟩
     refine qdo (qaj hp) ⟨?_,qaj hD⟩
     rcases hL7 with ⟨h1,h2,rfl⟩ | ⟨h1,h2,h3⟩
     ·simp [lA,qdk,qcd,qar]
     ·rw [qp9 h3,qp9 h3];simp [qar,qay]
    ·rcases hL7 with ⟨h1,h2,rfl⟩ | ⟨h1,h2,h3⟩
     ·rw [h1] at he;cases he
     ·rw [h1] at he
      simp at he;subst he
      exact ⟨11,.cells (qcd L),by simp,by rw [h2];simp [Heap.get,getFs,getF,cR],qaj (qb8 L)⟩
   frz:=fun x h=>by cases h }
  have hG9:∀ e,e∈G→e.1=9:=fun e he=>by
   rcases hG with rfl | ⟨l,rfl⟩
   ·cases he
   ·simp at he;subst he;rfl
  have hGn:(G.map (·.1)).Nodup:=by
   rcases hG with rfl | ⟨l,rfl⟩ <;> simp
  have:=(h pre hp hs hl).framed (H':=⟨14,[(12,.cells (pre++(.slc 13 0 (L.length+1) (.rest 1)::qa4 ((D++N).map qa7))))::(cR t s' (.slc 12 0 q (.rest 7))++((13,.cells (qcd L'))::G))]⟩) (args:=[.int .i64 k,.int .i64 up,.ptr 4 0,.ptr 2 0,.ptr 0 0,.ptr 5 0]) hfh
   (by simp [qb1,qar,qay,qah]) ?_ (by simp)
  ·simpa [qhx,qfh,qgm,qdt] using this
  ·refine ⟨by simp,fun hn hlt=>?_,?_⟩
   ·rcases hG with rfl | ⟨l,rfl⟩ <;> simp [Heap.ents,cR]
   ·intro e he
    simp only [Heap.ents,cR,List.flatten_cons,List.flatten_nil,List.append_nil,List.mem_cons,List.mem_append,List.not_mem_nil,or_false,List.cons_append,List.nil_append] at he
    obtain ⟨τ,hτ⟩ : ∃ τ,τ=qgm [(8,6),(11,7),(0,0),(2,2),(3,3),(4,4),(5,5)] 12 8:=⟨_,rfl⟩
    have t9:τ 9=13:=by rw [hτ];simp [qgm,qdt]
    have t8:τ 8=12:=by rw [hτ];simp [qgm,qdt]
    have t0:τ 0=0∧τ 2=2∧τ 3=3∧τ 4=4∧τ 5=5:=by rw [hτ];simp [qgm,qdt]
    have eN:qa4 ((D++N).map qa7)=qa4 (D.map qa7)++qa4 (N.map qa7):=by rw [List.map_append,qbm]
    have hb2:=qbr τ hb'
    have hp2:=qbr τ hp
    have hD2:=qbr τ hD
    have hN2:=qbr τ (qbp N).pure
    have hI2:=qbr τ (qb8 L')
    have hT2:=qhw τ hN
    rcases he with rfl | rfl | rfl | rfl | rfl | rfl | rfl | he
    ·refine .inl ⟨(8,.cells (pre++(.slc 9 0 (L.length+1) (.rest 1)::qa4 (D.map qa7))++qa4 (N.map qa7))),by simp [Heap.ents,cH],?_⟩
     simp only [← hτ,t8,ql9,qwb,qfh,qhx,t9,hp2,hD2,hN2,eN]
     simp
    ·refine .inl ⟨(2,.cells [.slc 8 0 q (.rest 7)]),by simp [Heap.ents,cH,cR],?_⟩
     simp only [← hτ,t0,t8,ql9,qfh,qhx]
    ·refine .inl ⟨(4,.cells [.slc 3 0 t.length (.ex t.length)]),by simp [Heap.ents,cH,cR],?_⟩
     simp only [← hτ,t0,ql9,qfh,qhx]
    ·refine .inl ⟨(3,.cells (bls s')),by simp [Heap.ents,cH,cR],?_⟩
     simp only [← hτ,t0,ql9,hb2]
    ·refine .inl ⟨(0,.cells [qae t]),by simp [Heap.ents,cH,cR],?_⟩
     simp only [← hτ,t0,ql9,qfh,hT2]
    ·refine .inl ⟨(5,.cells [.func (.func 50) [] [.ptr 4 0,.ptr 2 0,.ptr 0 0,.ptr 5 0]]),by simp [Heap.ents,cH,cR],?_⟩
     simp only [← hτ,t0,ql9,qfh,qhx]
    ·refine .inl ⟨(9,.cells (qcd L')),by simp [Heap.ents,cH],?_⟩
     simp only [← hτ,t9,ql9,hI2]
    ·refine .inr ⟨by simp [Heap.ents,he],?_⟩
     rw [hG9 e he]
     simp
theorem copy_at {T:List (Entry Tryz.prog)} (hC:qai 51 T=some e51.g) (t:Tr) (ht:okT t):∀ (F:Nat) (i:Nat) (up:Int) (z:Nat) (seen:List Bool) (o:CpO) (ho:cOk up z o)
  (i1:i < t.length) (hsl:seen.length=t.length) (hsi:seen.getD i true=false) (hz:z+ql4 seen≤100000) (hF:ql4 seen≤F),
  CallAt (ctx T) 50 [.int .i64 (i:Int),.int .i64 up,.ptr 4 0,.ptr 2 0,.ptr 0 0,.ptr 5 0] ⟨8,[cR t seen (cV z o)++(cI o++cK o)]⟩ (.tup [])
   ⟨10,[cH t (qs3 F t i up z seen).2 (z+(qs3 F t i up z seen).1.length) (cU 9 o++qa4 ((qs3 F t i up z seen).1.map qa7)) (cG 9 z o)]⟩:=by
 intro F
 induction F with
 | zero=>
  intro i up z seen o ho i1 hsl hsi hz hF
  have:=qk3 hsi
  omega
 | succ F' ih=>
 intro i up z seen o ho i1 hsl hsi hz hF
 have hix:=atX (t:=t) (i:=(i:Int)) (by omega) (by omega)
 obtain ⟨x,hxn⟩ : ∃ x,x=qa3 t i:=⟨_,rfl⟩
 have hal:=(ht.ok.2 _ (qb3 (t:=t) (i:=(i:Int)) (by omega) (by omega))).2
 have hkl:=(ht.ok.2 _ (qb3 (t:=t) (i:=(i:Int)) (by omega) (by omega))).1
 rw [← hxn] at hix hal hkl
 have hvl:∀ H,qeu Tryz.prog H 22 (cV z o)=some z:=fun H=>by
  cases o with
  | none=>simp [cV,qeu,ho.2]
  | some _=>simp [cV,qeu]
 refine qa2 (fn:=Tryz.f50) (s0:=⟨[0,1,2,3,4,5,8,9,11,57,58,59],[.int .i64 (i:Int),.int .i64 up,.ptr 4 0,.ptr 2 0,.ptr 0 0,.ptr 5 0,.undef,.undef,.undef,.undef,.undef,.undef],[],84,⟨8,[]::[cR t seen (cV z o)++(cI o++cK o)]⟩⟩) Tryz.func50 rfl rfl rfl ?_
 refine WpSr.perm ⟨8,[cR t seen (cV z o)++cI o,cK o]⟩ rfl (by simp [Heap.ents]) ?_
 have hly:qge [.bool true] i (bls seen)=some (bls (seen.set i true)):=layB (by omega)
 have hxi:qat Tryz.prog 45 (.slc 3 0 t.length (.ex t.length)) (.int .i64 (i:Int))=some (.ptr 3 i):=by simp [qat,qbs i1]
 have kA:=k51 hC (L:=x.attrs) (by omega)
 have c3:qge [qak x.attrs] 3 x.cs=some x.cs:=rfl
 have c6:qge [.nilS] 6 x.cs=some [qb6 x.kind,qb6 x.space,.str x.name,qak x.attrs,.str x.data,qb6 x.up,.nilS]:=rfl
 have c5:qge [.int .i64 up] 5 [qb6 x.kind,qb6 x.space,.str x.name,qak x.attrs,.str x.data,qb6 x.up,.nilS]=some [qb6 x.kind,qb6 x.space,.str x.name,qak x.attrs,.str x.data,qb6 up,.nilS]:=rfl
 have g3:qc7 x.cs 3=some (qak x.attrs):=rfl
 have cA:∀ A,(qak A).cells=[qak A]:=fun _=>rfl
 have rA:∀ A,refs 6 (qak A)=[]:=fun _=>rfl
 have sga:∀ A,(qak A).single=true:=fun _=>rfl
 have sgi:∀ i,(qb6 i).single=true:=fun _=>rfl
 have sgv:(cV z o).single=true:=by cases o <;> rfl
 have happ:=app_cp (t:=t) (s:=seen.set i true) (nc:=[qb6 x.kind,qb6 x.space,.str x.name,qak x.attrs,.str x.data,qb6 up,.nilS]) ho rfl rfl (by omega)
 simp only [cR,List.cons_append,List.nil_append] at happ ⊢
 repeat apply wq
 refine qa0 qa1 ?_
 simp [zS,hly,hxi,qcu]
 repeat apply wq
 refine qa0 qa1 ?_
 simp [zS,hvl]
 repeat apply wq
 refine qa0 qa1 ?_
 simp [zS,hix,qb5,qcu]
 repeat apply wq
 refine qa0 qa1 ?_
 simp [zS,kA,g3,c3,c5,c6,cA,rA,sga,sgi,allSingle,qcu]
 repeat apply wq
 refine qa0 qa1 ?_
 simp [zS,happ,sga,sgi,sgv,qcu]
 clear happ c3 c5 c6 kA g3
 obtain ⟨hd,hhd⟩ : ∃ hd:List AV,hd=[qb6 x.kind,qb6 x.space,.str x.name,qak x.attrs,.str x.data,qb6 up]:=⟨_,rfl⟩
 have e0:[qb6 x.kind,qb6 x.space,.str x.name,qak x.attrs,.str x.data,qb6 up,.nilS]=hd++[.nilS]:=by rw [hhd];rfl
 have hhp:qac hd=true:=by rw [hhd];simp [qac,qah,qb6]
 have hhs:allSingle hd=true:=by rw [hhd];rfl
 have hhl:hd.length=6:=by rw [hhd];rfl
 rw [e0]
 refine qzg ((⟨[0,1,2,3,4,5,8,9,11,57,58,59],[.int .i64 (i:Int),.undef,.ptr 4 0,.ptr 2 0,.ptr 0 0,.ptr 5 0,.int .i64 (z:Int),.undef,.undef,.undef,.undef,.undef],[],84,⟨12,[cH t (seen.set i true) (z+1) (cU 9 o++(hd++(lA 11 []::qa4 (([]:List Nd).map qa7)))) (cG 9 z o),lF 11 []]⟩⟩ : St)) ?_ fun hj=>?_
 rotate_left
 ·repeat apply wq
  refine qa0 qa1 ?_
  simp [zS]
  cases o with
  | none=>
   have hup:¬ 0≤up:=by have:=ho.1;omega
   refine qam (by simp [qbk,St.get,qd4,hup]) ?_
   refine qa9 ?_
   simp only [qaf]
   have e1:zda 7 none++(hd++[AV.nilS])=hd++[.nilS]:=rfl
   rw [e1]
   refine hj _ ?_
   exact ⟨[(10,8),(11,11),(9,9),(0,0),(2,2),(3,3),(4,4),(5,5)],[],rfl,rfl,rfl,by simp [qb1,qar,qay,qah,qac],qor (up:=up) (z:=z) (o:=none) (a:=10) (b:=11) (c:=9) (L:=[]) (D:=[]) ho hhp (.inr ⟨rfl,rfl⟩) (by simp)
    (by simp [Heap.get,getFs,getF,cU,zda,qa4]) (by simp [Heap.get,getFs,getF]) (by simp [Heap.get,getFs,getF]) (by simp [Heap.get,getFs,getF]) (by simp [Heap.get,getFs,getF]) (by simp [Heap.get,getFs,getF]) (by simp) (by simp)⟩
  | some y=>
   obtain ⟨P,L,D⟩:=y
   have ho':=ho
   obtain ⟨p1,p2,⟨u,rfl,p3,p4⟩,p5⟩:=ho
   simp only at p1 p2 p3 p4 p5
   obtain ⟨W,hW⟩ : ∃ W,W=qa4 (D.map qa7)++(hd++[.nilS]):=⟨_,rfl⟩
   have eR:zda 7 (some (P,L,D))++(hd++[.nilS])=P++lA 7 L::W:=by rw [hW];simp [zda]
   simp only [eR,cK,cV]
   refine qan (by simp [qbk,St.get]) ?_
   have hxz:∀ n,n=10→qat Tryz.prog 22 (.slc n 0 (z+1) (.rest 7)) (.int .i64 (u:Int))=some (.ptr n (u * 7)):=fun n _=>by simp [qat,qbs (show u < z+1 by omega)]
   have gz:qc7 (P++lA 7 L::W) (u * 7+6)=some (lA 7 L):=by
    rw [← p3,qee (by simp),List.getElem_append_right (by omega)];simp
   have hlk:qge [.slc 26 0 (L.length+1) (.rest 1)] (u * 7+6) (P++lA 7 L::W)=some (P++.slc 26 0 (L.length+1) (.rest 1)::W):=by
    have:=qg1 (a:=P) (b:=[lA 7 L]) (b':=[.slc 26 0 (L.length+1) (.rest 1)]) (c:=W) rfl
    rw [p3] at this
    simpa using this
   have happk:=app_l (m:=26) (t:=21) (b:=7) (L:=L) (v:=(z:Int)) (g1:=[(10,.cells (P++lA 7 L::W)),(9,.cells (hd++[.nilS])),(8,.cells (hd++[.nilS])),(2,.cells [.slc 10 0 (z+1) (.rest 7)]),(4,.cells [.slc 3 0 t.length (.ex t.length)]),(3,.cells (bls (seen.set i true))),(0,.cells [qae t]),(5,.cells [.func (.func 50) [] [.ptr 4 0,.ptr 2 0,.ptr 0 0,.ptr 5 0]])]) (g:=[]) (by omega) (by simp) (by simp)
   rw [List.append_nil] at happk
   refine qd3 mixed qa1 (by decide +kernel) fun B_ hB_=>?_
   have d_1_11:ahead B_ 1 11=false:=by rw [hB_];decide +kernel
   have d_1_14:ahead B_ 1 14=true:=by rw [hB_];decide +kernel
   have d_4_11:ahead B_ 4 11=true:=by rw [hB_];decide +kernel
   have d_4_14:ahead B_ 4 14=true:=by rw [hB_];decide +kernel
   have d_8_11:ahead B_ 8 11=true:=by rw [hB_];decide +kernel
   have d_8_14:ahead B_ 8 14=true:=by rw [hB_];decide +kernel
   have d_10_11:ahead B_ 10 11=true:=by rw [hB_];decide +kernel
   have d_10_14:ahead B_ 10 14=true:=by rw [hB_];decide +kernel
   have d_11_1:ahead B_ 11 1=false:=by rw [hB_];decide +kernel
   have d_11_4:ahead B_ 11 4=false:=by rw [hB_];decide +kernel
   have d_11_8:ahead B_ 11 8=false:=by rw [hB_];decide +kernel
   have d_14_1:ahead B_ 14 1=false:=by rw [hB_];decide +kernel
   have d_14_4:ahead B_ 14 4=false:=by rw [hB_];decide +kernel
   have d_14_8:ahead B_ 14 8=false:=by rw [hB_];decide +kernel
   apply qop B_
   simp [zS,qds,qcc,qbv,qby,qas,qaz,qax,Heap.lay,qeh,qoo,qon,qi0,qhz,qhm,qhy,qis,qi6,qfm,qfn,qih,qig,qie,qif,qik,qil,qij,qii,d_1_11,d_1_14,d_4_11,d_4_14,d_8_11,d_8_14,d_10_11,d_10_14,d_11_1,d_11_4,d_11_8,d_14_1,d_14_4,d_14_8,hxz,gz,happk,hlk,qcu]
   exact rfl
   refine ⟨_,rfl,?_,?_⟩
   simp [zS,qby,qas,qcs,qd1,qeq,d_1_11,d_1_14,d_4_11,d_4_14,d_8_11,d_8_14,d_10_11,d_10_14,d_11_1,d_11_4,d_11_8,d_14_1,d_14_4,d_14_8,hxz,gz,happk,hlk,qcu]
   simp [qcj,Heap.lay,qeh,qaf]
   refine hj _ ?_
   exact ⟨[(10,8),(11,11),(26,9),(0,0),(2,2),(3,3),(4,4),(5,5)],[],rfl,rfl,rfl,by simp [qb1,qar,qay,qah,qac],qor (up:=(u:Int)) (z:=z) (o:=some (P,L,D)) (a:=10) (b:=11) (c:=26) (L:=[]) (D:=[]) ho' hhp (.inr ⟨rfl,rfl⟩) (by simp)
    (by simp [Heap.get,getFs,getF,cU,hW,qa4]) (by simp [Heap.get,getFs,getF]) (by simp [Heap.get,getFs,getF]) (by simp [Heap.get,getFs,getF]) (by simp [Heap.get,getFs,getF]) (by simp [Heap.get,getFs,getF]) (by simp) (by intro y hy;cases hy;simp [Heap.get,getFs,getF])⟩
 obtain ⟨K,hK⟩ : ∃ K,K=x.kids:=⟨_,rfl⟩
 have gk:qc7 x.cs 6=some (qbh K):=by rw [hK];rfl
 have hUn:=qk3 hsi
 obtain ⟨rec,hrec⟩ : ∃ rec,rec=fun (k:Int) (z':Nat) (s':List Bool)=>qs3 F' t k (z:Int) z' s':=⟨_,rfl⟩
 obtain ⟨R,hR⟩ : ∃ R,R=qp5 rec t.length K (z+1) (seen.set i true):=⟨_,rfl⟩
 have hfin:qs3 (F'+1) t i up z seen=({ x with up:=up,kids:=R.1 }::R.2.1,R.2.2):=by rw [hR,hrec,hK,hxn];rfl
 rw [hfin]
 clear hfin
 simp only [cH,cR,List.cons_append,List.nil_append]
 repeat apply wq
 refine qa0 qa1 ?_
 simp [zS,hix,gk,lenI]
 refine qab (qb7 (fun y:Nat × List Int × List Nd × List Bool=>(⟨[0,1,2,3,4,5,8,9,11,57,58,59],[.undef,.undef,.ptr 4 0,.ptr 2 0,.ptr 0 0,.ptr 5 0,.int .i64 (z:Int),.undef,.undef,qbh K,.int .i64 (K.length:Nat),.int .i64 (y.1:Int)],[],84,⟨12,[cH t y.2.2.2 (z+1+y.2.2.1.length) (cU 9 o++(hd++(lA 11 y.2.1::qa4 (y.2.2.1.map qa7)))) (cG 9 z o),lF 11 y.2.1]⟩⟩ : St))
  (fun y=>y.1≤K.length∧y.2.1.length≤y.1∧y.2.2.2.length=t.length∧y.2.2.1.length+ql4 y.2.2.2 < ql4 seen∧R=(y.2.1++(qp5 rec t.length (K.drop y.1) (z+1+y.2.2.1.length) y.2.2.2).1,y.2.2.1++(qp5 rec t.length (K.drop y.1) (z+1+y.2.2.1.length) y.2.2.2).2.1,(qp5 rec t.length (K.drop y.1) (z+1+y.2.2.1.length) y.2.2.2).2.2))
  (fun y=>K.length - y.1) [(8,8),(11,11),(9,9),(0,0),(2,2),(3,3),(4,4),(5,5)] [] (0,[],[],seen.set i true) ⟨Nat.zero_le _,Nat.le_refl _,by simpa using hsl,by simp;omega,by simpa using hR⟩
  ⟨rfl,rfl,rfl,by simp [qb1,qar,qay,qah,qac],qor ho hhp (L:=[]) (D:=[]) (.inl rfl) (by simp) (by simp [Heap.get,getFs,getF,qa4]) (by simp [Heap.get,getFs,getF]) (by simp [Heap.get,getFs,getF]) (by simp [Heap.get,getFs,getF]) (by simp [Heap.get,getFs,getF]) (by simp [Heap.get,getFs,getF]) (by simp) (by intro y hy;subst hy;simp [Heap.get,getFs,getF,cG])⟩ ?_)
 rintro ⟨j,L,D,s⟩ ⟨hj,hLj,hsn,hDu,hx⟩ B hB
 simp only at hj hLj hsn hDu hx ⊢
 have gc9:∀ y:List AV × List Int × List Nd,o=some y→getF 9 (cG 9 z o)=some (.cells (qcd (y.2.1++[(z:Int)]))):=fun y hy=>by subst hy;simp [getF,cG]
 have hrecS:∀ k z' s',s'.length=t.length→s'.getD k.toNat true=false→(rec k z' s').2.length=t.length∧(rec k z' s').1.length+ql4 (rec k z' s').2≤ql4 s':=fun k z' s' h1 h2=>by rw [hrec];exact qsp F' t k z z' s' h1 h2
 have lenT:∀ H,qeu Tryz.prog H 22 (qae t)=some t.length:=fun H=>by simp [qeu]
 have hG:cG 9 z o=[]∨∃ l,cG 9 z o=[(9,.cells (qcd l))]:=by
  cases o with
  | none=>exact .inl rfl
  | some y=>exact .inr ⟨_,rfl⟩
 have same:∀ H:Heap,H=⟨12,[cH t s (z+1+D.length) (cU 9 o++(hd++(lA 11 L::qa4 (D.map qa7)))) (cG 9 z o),lF 11 L]⟩→FitH 8 [(8,8),(11,11),(9,9),(0,0),(2,2),(3,3),(4,4),(5,5)] [] H ⟨12,[cH t s (z+1+D.length) (cU 9 o++(hd++(lA 11 L::qa4 (D.map qa7)))) (cG 9 z o),lF 11 L]⟩:=fun H hH=>by
  subst hH
  exact qor ho hhp (.inl rfl) (by simp) (by simp [Heap.get,getFs,getF,cH,cR]) (by simp [Heap.get,getFs,getF,cH,cR]) (by simp [Heap.get,getFs,getF,cH,cR]) (by simp [Heap.get,getFs,getF,cH,cR]) (by simp [Heap.get,getFs,getF,cH,cR]) (by simp [Heap.get,getFs,getF,cH,cR])
   (fun hL=>by rw [qi7 hL];have:getF 11 (cG 9 z o)=none:=by { cases o <;> simp [cG,getF] };simp [Heap.get,getFs,getF,cH,cR,this]) (fun y hy=>by simp [Heap.get,getFs,getF,cH,cR,gc9 y hy])
 simp only [cH,cR,List.cons_append,List.nil_append]
 by_cases h:j < K.length
 ·have hc:(j:Int) < (K.length:Int):=by omega
  have hik:=atI h
  have hac:=qbu (show j≤1000000000 by rw [← hK] at hkl;omega)
  rw [List.drop_eq_getElem_cons h] at hx
  simp only [qp5] at hx
  generalize K[j]=k at *
  repeat apply wq
  refine qa0 qa1 ?_
  simp [zS,hc]
  repeat apply wq
  refine qan (by simp [qbk,St.get,h]) ?_
  refine qa9 ?_
  simp only [qaf]
  repeat apply wq
  refine qab ?_
  repeat apply wq
  refine qa0 qa1 ?_
  simp [zS,hik]
  by_cases hA:0≤k∧k < (t.length:Int)∧s.getD k.toNat true=false
  ·obtain ⟨k0,k1,k2⟩:=hA
   rw [if_pos ⟨k0,k1,k2⟩] at hx
   obtain ⟨kn,rfl⟩ : ∃ kn:Nat,k=(kn:Int):=⟨k.toNat,by omega⟩
   simp only [Int.toNat_natCast] at k2 hx
   have kl:kn < t.length:=by omega
   have hks:s.getD kn true=s[kn]'(by omega):=by simp [List.getD,show kn < s.length by omega]
   have hgb:=getB (s:=s) (i:=kn) (by omega)
   rw [← hks,k2] at hgb
   have hxk:=ixB (b:=3) (cap:=.ex t.length) kl
   repeat apply wq
   refine qa0 qa1 ?_
   simp [zS,k0,k1,lenT,hxk,hgb]
   refine qan (by simp [qbk,St.get,qd4]) ?_
   obtain ⟨sz,hsz⟩ : ∃ sz,sz=z+1+D.length:=⟨_,rfl⟩
   rw [← hsz] at hx ⊢
   have hsU:=hrecS kn sz s hsn (by simpa using k2)
   obtain ⟨ra,hra⟩ : ∃ ra,ra=rec kn sz s:=⟨_,rfl⟩
   have hUl:=cU_len (b:=9) ho
   have hcall:=copy_in (C:=ctx T) (f:=50) (t:=t) (s:=s) (s':=ra.2) (k:=(kn:Int)) (up:=(z:Int)) (zz:=sz) (q:=sz+ra.1.length) (L:=L) (L':=L++[(sz:Int)]) (D:=D) (N:=ra.1) (P:=cU 9 o++hd) (G:=cG 9 z o)
    (by rw [qd2,zd9 ho,hhs];rfl) hG (fun pre hp hs hl=>by
     have:=ih kn (z:Int) sz s (some (pre,L,D)) ⟨hp,hs,⟨z,rfl,by rw [hl,List.length_append,hUl,hhl],hsz⟩,by simp only;rw [← hK] at hkl;omega⟩ kl hsn (by simpa using k2) (by omega) (by omega)
     rw [hra,hrec]
     simpa [cV,cI,cK,zda,cU,cG] using this)
   simp only [cH,cR,List.cons_append,List.nil_append,List.append_assoc] at hcall
   refine qa0 (qbc [⟨50,_,_,_,_,hcall⟩]) ?_
   simp [zS,qce]
   refine qa0 qa1 ?_
   simp [zS,hac]
   rw [← hra] at hx hsU
   have eS:z+1+(D++ra.1).length=sz+ra.1.length:=by rw [List.length_append];omega
   refine hB _ (j+1,L++[(sz:Int)],D++ra.1,ra.2) (by simp only;omega) ⟨by simp only;omega,by simp;omega,by simpa using hsU.1,by simp;omega,?_⟩ ⟨[(12,8),(13,11),(9,9),(0,0),(2,2),(3,3),(4,4),(5,5)],[],rfl,rfl,rfl,by simp [qb1,qar,qay,qah,qac],?_⟩
   ·simp only
    rw [eS,hx]
    simp
   ·simp only
    rw [eS]
    exact qor ho hhp (.inl (qp9 (by simp)).symm) (by simp) (by simp [Heap.get,getFs,getF]) (by simp [Heap.get,getFs,getF]) (by simp [Heap.get,getFs,getF]) (by simp [Heap.get,getFs,getF]) (by simp [Heap.get,getFs,getF]) (by simp [Heap.get,getFs,getF]) (fun _=>by simp [Heap.get,getFs,getF]) (fun y hy=>by simp [Heap.get,getFs,getF,gc9 y hy])
  ·rw [if_neg hA] at hx
   have hB':∀ s',(∃ σ Φ,Fit 8 σ Φ s' ((⟨[0,1,2,3,4,5,8,9,11,57,58,59],[.undef,.undef,.ptr 4 0,.ptr 2 0,.ptr 0 0,.ptr 5 0,.int .i64 (z:Int),.undef,.undef,qbh K,.int .i64 (K.length:Nat),.int .i64 ((j+1:Nat):Int)],[],84,⟨12,[cH t s (z+1+D.length) (cU 9 o++(hd++(lA 11 L::qa4 (D.map qa7)))) (cG 9 z o),lF 11 L]⟩⟩ : St)))→B s':=fun s' hs'=>hB s' (j+1,L,D,s) (by simp only;omega) ⟨by simp only;omega,by simp only;omega,hsn,hDu,hx⟩ hs'
   by_cases q0:0≤k
   ·by_cases q1:k < (t.length:Int)
    ·obtain ⟨kn,rfl⟩ : ∃ kn:Nat,k=(kn:Int):=⟨k.toNat,by omega⟩
     simp only [Int.toNat_natCast] at hA
     have kl:kn < t.length:=by omega
     have hks:s.getD kn true=s[kn]'(by omega):=by simp [List.getD,show kn < s.length by omega]
     have hgb:=getB (s:=s) (i:=kn) (by omega)
     have k2:s.getD kn true=true:=by
      cases hq:s.getD kn true with
      | true=>rfl
      | false=>exact absurd ⟨q0,q1,hq⟩ hA
     rw [← hks,k2] at hgb
     have hxk:=ixB (b:=3) (cap:=.ex t.length) kl
     repeat apply wq
     refine qa0 qa1 ?_
     simp [zS,q0,q1,lenT,hxk,hgb]
     refine qam (by simp [qbk,St.get,qd4]) ?_
     refine qa9 ?_
     simp only [qaf,qa6]
     refine qa0 qa1 ?_
     simp [zS,hac]
     exact hB' _ ⟨[(8,8),(11,11),(9,9),(0,0),(2,2),(3,3),(4,4),(5,5)],[],rfl,rfl,rfl,by simp [qb1,qar,qay,qah,qac],same _ rfl⟩
    ·repeat apply wq
     refine qa0 qa1 ?_
     simp [zS,q0,q1,lenT]
     refine qam (by simp [qbk,St.get,qd4]) ?_
     refine qa9 ?_
     simp only [qaf,qa6]
     refine qa0 qa1 ?_
     simp [zS,hac]
     exact hB' _ ⟨[(8,8),(11,11),(9,9),(0,0),(2,2),(3,3),(4,4),(5,5)],[],rfl,rfl,rfl,by simp [qb1,qar,qay,qah,qac],same _ rfl⟩
   ·repeat apply wq
    refine qa0 qa1 ?_
    simp [zS,q0,lenT]
    refine qam (by simp [qbk,St.get,qd4]) ?_
    refine qa9 ?_
    simp only [qaf,qa6]
    refine qa0 qa1 ?_
    simp [zS,hac]
    exact hB' _ ⟨[(8,8),(11,11),(9,9),(0,0),(2,2),(3,3),(4,4),(5,5)],[],rfl,rfl,rfl,by simp [qb1,qar,qay,qah,qac],same _ rfl⟩
 ·have hc:¬ (j:Int) < (K.length:Int):=by omega
  rw [List.drop_eq_nil_of_le (by omega)] at hx
  simp only [qp5,List.append_nil] at hx
  repeat apply wq
  refine qa0 qa1 ?_
  simp [zS,hc]
  repeat apply wq
  refine qam (by simp [qbk,St.get,h]) ?_
  refine qaw ?_
  simp only [qaf,qa6]
  rw [if_pos trivial]
  refine ⟨.inl trivial,[],rfl,?_⟩
  simp only [hx,List.length_cons]
  have hend:=cp_fitE (t:=t) (s:=s) (zz:=z+1+D.length) (z:=z) (up:=up) (o:=o) ho (L:=L) (x:=x) (pu:=up) (D:=D) (H:=⟨12,[cH t s (z+1+D.length) (cU 9 o++(hd++(lA 11 L::qa4 (D.map qa7)))) (cG 9 z o),lF 11 L]⟩)
   (by rw [hhd];simp [Heap.get,getFs,getF,cH,cR]) (by simp [Heap.get,getFs,getF,cH,cR]) (by simp [Heap.get,getFs,getF,cH,cR]) (by simp [Heap.get,getFs,getF,cH,cR]) (by simp [Heap.get,getFs,getF,cH,cR]) (by simp [Heap.get,getFs,getF,cH,cR])
   (fun hL=>by rw [qi7 hL];have:getF 11 (cG 9 z o)=none:=by { cases o <;> simp [cG,getF] };simp [Heap.get,getFs,getF,cH,cR,this]) (fun y hy=>by simp [Heap.get,getFs,getF,cH,cR,gc9 y hy])
  rw [show z+(D.length+1)=z+1+D.length by omega]
  exact hend
theorem zd0 {T:List (Entry Tryz.prog)} (hC:qai 51 T=some e51.g) (t:Tr) (ht:okT t) (i:Nat) (hi:i < t.length) :
  CallAt (ctx T) 35 [qav t,.int .i64 (i:Int)] ⟨0,[]⟩ (qav (qs3 t.length t i (-1) 0 (List.replicate t.length false)).1) ⟨0,[]⟩:=by
 have htl:=ht.ok.1
 have hsi:(List.replicate t.length false).getD i true=false:=by simp [List.getD,hi]
 have hput:=copy_at hC t ht t.length i (-1) 0 (List.replicate t.length false) none ⟨rfl,rfl⟩ hi (by simp) hsi (by rw [qmi];omega) (by rw [qmi];omega)
 obtain ⟨a,ha⟩ : ∃ a,a=qs3 t.length t i (-1) 0 (List.replicate t.length false):=⟨_,rfl⟩
 rw [← ha] at hput ⊢
 have lenT:∀ H,qeu Tryz.prog H 22 (qae t)=some t.length:=fun H=>by simp [qeu]
 have hms:=msBool (n:=t.length) (by omega)
 have hmk:∀ H,qez Tryz.prog H 45 (.int .i64 (t.length:Int)) (.int .i64 (t.length:Int))=some (.slc H.n 0 t.length (.ex t.length),H.new (.cells (bls (List.replicate t.length false)))):=fun H=>by simp [qez,hms]
 have hb:=qj1 (List.replicate t.length false)
 have hb':=qj1 a.2
 have hN:=qch t
 have hfh:FitH 0 [(0,0),(2,2),(3,3),(4,4),(5,5)] [] ⟨6,[[(5,.cells [.func (.func 50) [] [.ptr 4 0,.ptr 2 0,.ptr 0 0,.ptr 5 0]]),(4,.cells [.slc 3 0 t.length (.ex t.length)]),(3,.cells (bls (List.replicate t.length false))),(2,.cells [.nilS]),(1,.cells [.nilS]),(0,.cells [qae t])]]⟩
   ⟨8,[cR t (List.replicate t.length false) .nilS]⟩:={
  nd1:=by simp
  nd2:=by simp
  nd3:=by simp [Heap.ents,cR]
  lt:=by simp
  idn:=by simp
  num:=by simp
  src:=by
   intro e he
   simp only [Heap.ents,cR,List.flatten_cons,List.flatten_nil,List.append_nil,List.mem_cons,List.not_mem_nil,or_false] at he
   rcases he with rfl | rfl | rfl | rfl | rfl
   ·exact ⟨2,.cells [.nilS],by simp,by simp [Heap.get,getFs,getF],by simp [qh6,qb1,qar]⟩
   ·exact ⟨4,.cells [.slc 3 0 t.length (.ex t.length)],by simp,by simp [Heap.get,getFs,getF],by simp [qh6,qb1,qar,qay]⟩
   ·exact ⟨3,.cells (bls (List.replicate t.length false)),by simp,by simp [Heap.get,getFs,getF],qaj hb⟩
   ·exact ⟨0,.cells [qae t],by simp,by simp [Heap.get,getFs,getF],qaj (by simp [qac])⟩
   ·exact ⟨5,.cells [.func (.func 50) [] [.ptr 4 0,.ptr 2 0,.ptr 0 0,.ptr 5 0]],by simp,by simp [Heap.get,getFs,getF],by simp [qh6,qb1,qar,qay]⟩
  frz:=fun x h=>by cases h }
 simp only [cV,cI,cK,List.append_nil,cH,cU,cG,List.nil_append,Nat.zero_add] at hput
 obtain ⟨F,hF⟩ : ∃ F,F=qa4 (a.1.map qa7):=⟨_,rfl⟩
 have hFp:qac F=true:=by rw [hF];exact (qbp a.1).pure
 rw [← hF] at hput
 have hcall:=hput.framed (H':=⟨8,[[(6,.cells F),(5,.cells [.func (.func 50) [] [.ptr 4 0,.ptr 2 0,.ptr 0 0,.ptr 5 0]]),(4,.cells [.slc 3 0 t.length (.ex t.length)]),(3,.cells (bls a.2)),(2,.cells [.slc 6 0 a.1.length (.rest 7)]),(1,.cells [.nilS]),(0,.cells [qae t])]]⟩)
  (args:=[.int .i64 (i:Int),.int .i64 (-1),.ptr 4 0,.ptr 2 0,.ptr 0 0,.ptr 5 0]) hfh (by simp [qb1,qar,qay,qah]) (by
  refine ⟨by simp,fun _ _=>by simp [Heap.ents],?_⟩
  intro e he
  obtain ⟨τ,hτ⟩ : ∃ τ,τ=qgm [(0,0),(2,2),(3,3),(4,4),(5,5)] 6 8:=⟨_,rfl⟩
  have t8:τ 8=6∧τ 0=0∧τ 2=2∧τ 3=3∧τ 4=4∧τ 5=5:=by rw [hτ];simp [qgm,qdt]
  have hb2:=qbr τ hb'
  have hF2:=qbr τ hFp
  have hT2:=qhw τ hN
  simp only [Heap.ents,List.flatten_cons,List.flatten_nil,List.append_nil,List.mem_cons,List.not_mem_nil,or_false] at he
  rcases he with rfl | rfl | rfl | rfl | rfl | rfl | rfl
  ·exact .inl ⟨(8,.cells F),by simp [Heap.ents,cR],by simp only [← hτ,t8,ql9,hF2]⟩
  ·exact .inl ⟨(5,.cells [.func (.func 50) [] [.ptr 4 0,.ptr 2 0,.ptr 0 0,.ptr 5 0]]),by simp [Heap.ents,cR],by simp only [← hτ,t8,ql9,qfh,qhx]⟩
  ·exact .inl ⟨(4,.cells [.slc 3 0 t.length (.ex t.length)]),by simp [Heap.ents,cR],by simp only [← hτ,t8,ql9,qfh,qhx]⟩
  ·exact .inl ⟨(3,.cells (bls a.2)),by simp [Heap.ents,cR],by simp only [← hτ,t8,ql9,hb2]⟩
  ·exact .inl ⟨(2,.cells [.slc 8 0 a.1.length (.rest 7)]),by simp [Heap.ents,cR],by simp only [← hτ,t8,ql9,qfh,qhx]⟩
  ·exact .inr ⟨by simp [Heap.ents],by simp⟩
  ·exact .inl ⟨(0,.cells [qae t]),by simp [Heap.ents,cR],by simp only [← hτ,t8,ql9,qfh,hT2]⟩) (by simp)
 simp only [qhx,qfh] at hcall
 refine qa2 (fn:=Tryz.f35) (s0:=⟨[0,1,2,4,5,6,7],[qav t,.int .i64 (i:Int),.undef,.undef,.undef,.undef,.undef],[],17,⟨0,[[]]⟩⟩) Tryz.func35 rfl rfl rfl ?_
 repeat apply wq
 refine qa0 qa1 ?_
 simp [zS,qav]
 repeat apply wq
 refine qa0 qa1 ?_
 simp [zS]
 repeat apply wq
 refine qa0 qa1 ?_
 simp [zS,lenT,hmk,qcu,Heap.new,pushF]
 repeat apply wq
 refine qa0 qa1 ?_
 simp [zS]
 repeat apply wq
 refine qa0 qa1 ?_
 simp [zS,qcu]
 repeat apply wq
 refine qa0 (qbc [⟨50,_,_,_,_,hcall⟩]) ?_
 simp [zS,qce,qcu]
 repeat apply wq
 refine qa0 qa1 ?_
 simp [zS,qcu]
 refine qa8 ?_
 simp [qad,Tryz.f35,oneOr,readCells,Heap.get,getFs,getF,qek,qef]
 have el:=qbp a.1
 have hl:=el.len
 rw [List.length_map] at hl
 have hsz:=el.size
 rw [← hF] at hl
 show ∃ σ Φ,qar σ Φ _ (.agg [.fslc 7 (a.1.map qa7)])∧_
 refine ⟨[],[(6,F)],?_,?_⟩
 ·simp only [qar,qb1,qc5,if_true]
  exact .inl ⟨.inl ⟨F,rfl,by unfold qek;rw [List.drop_zero,← hl,qcz,hF],by simp,hsz⟩,trivial⟩
 ·exact {
   nd1:=by simp
   nd2:=by simp
   nd3:=by simp [Heap.ents]
   lt:=by simp
   idn:=by simp
   num:=by simp
   src:=by intro e he;simp [Heap.ents] at he
   frz:=fun y hy=>by
    simp at hy;subst hy
    exact ⟨F,by simp [Heap.get,getFs,getF],qaj hFp,hFp⟩ }
theorem qxy {T:List (Entry Tryz.prog)} (hC:qai 51 T=some e51.g) (t:Tr) (ht:okT t) (hne:t≠[]) :
  CallAt (ctx T) 20 [qav t] ⟨0,[]⟩ (qav (qc9 t)) ⟨0,[]⟩:=by
 have hpos:0 < t.length:=List.length_pos_iff.2 hne
 have hz:¬ (t.length:Int)=0:=by omega
 have lenT:∀ H,qeu Tryz.prog H 22 (qae t)=some t.length:=fun H=>by simp [qeu]
 have hco:∀ H,CallAt (ctx T) 35 [qav t,.int .i64 0] H (qav (qc9 t)) H:=fun H=>(zd0 hC t ht 0 hpos).lift (by simp [qac,qah]) H
 refine qa2 (fn:=Tryz.f20) (s0:=⟨[0,1,2],[qav t,.undef,.undef],[],10,⟨0,[[]]⟩⟩) Tryz.func20 rfl rfl rfl ?_
 repeat apply wq
 refine qa0 qa1 ?_
 simp [zS,qav]
 repeat apply wq
 refine qa0 qa1 ?_
 simp [zS,lenT,hz]
 refine qam (by simp [qbk,St.get,qd4,hz,hne]) ?_
 refine qa9 ?_
 simp only [qaf]
 have hc1:=hco ⟨2,[[(1,.cells [.nilS]),(0,.cells [qae t])]]⟩
 repeat apply wq
 refine qa0 (qbc [⟨35,_,_,_,_,hc1⟩]) ?_
 simp [zS,qce,qav,qcu]
 refine qa8 ?_
 simp [qad,Tryz.f20,oneOr,readCells,Heap.get,getFs,getF,qek,qef]
 exact qa5 (by simp [qah,qac]) rfl
theorem c20 {T:List (Entry Tryz.prog)} (hC:qai 51 T=some e51.g) (t:Tr) (h:okT t) (hne:t≠[]):CallAt (ctx T) 20 [qav t] ⟨0,[]⟩ (qav (qc9 t)) ⟨0,[]⟩:=qxy hC t h hne
theorem inj_20 (x y:Tr) (h:(fun z:Tr=>([qav z]:List AV)) x=(fun z:Tr=>([qav z]:List AV)) y):x=y:=by
 simp only [List.cons.injEq,and_true] at h
 exact qgp h
noncomputable def e20:Entry Tryz.prog:=mkE 20 [[7]] (fun z:Tr=>[qav z]) (fun z=>(okT z)∧(z≠[])) (fun z=>qav (qc9 z)) fun z h=>c20 (T:=[e51]) rfl z h.1 h.2
theorem k20 {T:List (Entry Tryz.prog)} (hT:qai 20 T=some e20.g) (t:Tr) (h:okT t) (hne:t≠[]) (H:Heap):qbb (ctx T) (.fn 20) [qav t] H=some (qav (qc9 t),H):=
 qdc hT inj_20 (t) ⟨h,hne⟩ (by simp [qac,qah,qau]) (by simp [qau]) H
end Go.Proofs.YtocnpnnplllneaaGreatDoor
namespace Go.Proofs.YtocnpnnplllneaaGreatDoor
set_option linter.unusedSimpArgs false
set_option linter.unusedVariables false
open Go Go.RowKit
set_option maxRecDepth 100000
theorem qzq {t:Tr} (h:qbq t=true):(qc9 t).length≤t.length:=by
 rw [(qh4 h).len]
 exact qns
theorem c9 {T:List (Entry Tryz.prog)} (hc0:qai 52 T=some e52.g) (hc1:qai 53 T=some e53.g) (hc2:qai 54 T=some e54.g) (hc3:qai 55 T=some e55.g) (hc4:qai 51 T=some e51.g) (hc5:qai 154 T=some e154.g) (hc6:qai 124 T=some e124.g) (hc7:qai 125 T=some e125.g) (hc8:qai 128 T=some e128.g) (hc9:qai 57 T=some e57.g) (hc10:qai 58 T=some e58.g) (hc11:qai 20 T=some e20.g) (t:Tr) (h:qbq t=true) (ho:okT t) (hv:LookOk (qc9 t)) (hl:t.length≤900):CallAt (ctx T) 9 [qav t] ⟨0,[]⟩ (qav (qg8 t)) ⟨0,[]⟩:=by
 have kc11:=@k20 T hc11
 exact tree_at ⟨hc0,hc1,hc2,hc3,hc4,hc5,hc6,hc7,hc8,hc9,hc10⟩ h hv (by have:=qzq h;omega) (fun H=>kc11 t ho (qw8 h) H)
theorem inj_9 (x y:Tr) (h:(fun z:Tr=>([qav z]:List AV)) x=(fun z:Tr=>([qav z]:List AV)) y):x=y:=by
 simp only [List.cons.injEq,and_true] at h
 exact qgp h
noncomputable def e9:Entry Tryz.prog:=mkE 9 [[7]] (fun z:Tr=>[qav z]) (fun z=>(qbq z=true)∧(okT z)∧(LookOk (qc9 z))∧(z.length≤900)) (fun z=>qav (qg8 z)) fun z h=>c9 (T:=[e52,e53,e54,e55,e51,e154,e124,e125,e128,e57,e58,e20]) rfl rfl rfl rfl rfl rfl rfl rfl rfl rfl rfl rfl z h.1 h.2.1 h.2.2.1 h.2.2.2
theorem k9 {T:List (Entry Tryz.prog)} (hT:qai 9 T=some e9.g) (t:Tr) (h:qbq t=true) (ho:okT t) (hv:LookOk (qc9 t)) (hl:t.length≤900) (H:Heap):qbb (ctx T) (.fn 9) [qav t] H=some (qav (qg8 t),H):=
 qdc hT inj_9 (t) ⟨h,ho,hv,hl⟩ (by simp [qac,qah,qau]) (by simp [qau]) H
theorem few_okN {t:Tr} {m:Int} (h:qlh t m=true):∀ n,n∈t→okN n:=by
 simp only [qlh,Bool.and_eq_true,decide_eq_true_eq,List.all_eq_true] at h
 intro n hn
 have:=h.2 n hn
 simp only [qju,qia,Bool.and_eq_true,decide_eq_true_eq,List.all_eq_true] at this
 refine ⟨by omega,by omega,by omega,fun a ha=>?_⟩
 have ha:=this.2.2.2.2 a ha
 simp only [qol,decide_eq_true_eq] at ha
 omega
theorem zb3 {t:Tr} (h:qr8 t 40=true):qbq t=true∧okT t∧LookOk (qc9 t)∧t.length≤40∧za4 t∧∀ n,n∈t→okN n:=by
 unfold qr8 at h
 simp only [Bool.and_eq_true] at h
 obtain ⟨q,hr⟩:=h
 have hs:=qtp (by omega) q
 have hn:=few_okN q
 have q2:=q
 simp only [qlh,Bool.and_eq_true,decide_eq_true_eq,List.all_eq_true] at q2
 exact ⟨hr,right_ok hr hs.2 hn,zb6 hr q2.2,by omega,hs,hn⟩
theorem may_tree {T:List (Entry Tryz.prog)} (hT:qai 9 T=some e9.g) {t:Tr} (h:qr8 t 40=true) (H:Heap):qbb (ctx T) (.fn 9) [qav t] H=some (qav (qg8 t),H):=by
 obtain ⟨a,b,c,d,_⟩:=zb3 h
 exact k9 hT t a b c (by omega) H
end Go.Proofs.YtocnpnnplllneaaGreatDoor
namespace Go.Proofs.YtocnpnnplllneaaGreatDoor
set_option linter.unusedSimpArgs false
set_option linter.unusedVariables false
open Go Go.RowKit
noncomputable def qrx (H:Heap) (args largs:List AV):Bool:=match zd1 H 100000 (qpt args largs []) [] with
 | some Φ=>qt2 (Φ.map (·.1)) && zc4 H Φ Φ && qto Φ args largs
 | none=>false
noncomputable def litsH (H:Heap) (args:List AV):List (List AV × AV)→Option AV
 | []=>none
 | x::r=>match qrx H args x.1 with
  | true=>some x.2
  | false=>litsH H args r
theorem qt9 {H:Heap} {args:List AV} {v:AV}:∀ {l:List (List AV × AV)},litsH H args l=some v→∃ x,x∈l∧qrx H args x.1=true∧x.2=v
 | [],h=>by cases h
 | x::r,h=>by
  unfold litsH at h
  split at h
  ·rename_i hb
   simp only [sj] at h
   exact ⟨x,by simp,hb,h⟩
  ·obtain ⟨y,h1,h2,h3⟩:=qt9 h
   exact ⟨y,by simp [h1],h2,h3⟩
noncomputable def litsB (f:FuncId) (l:List (List AV × AV)) (h:∀ x,x∈l→qex x.2=true∧CallAt ⟨Tryz.prog,fun _=>[],fun _=>none⟩ f x.1 ⟨0,[]⟩ x.2 ⟨0,[]⟩):Entry Tryz.prog:=⟨f,fun args H=>match litsH H args l with
 | some v=>some (v,H)
 | none=>none,fun args H v H' hr=>by
  split at hr
  ·rename_i w hw
   simp only [sj,Prod.mk.injEq] at hr
   obtain ⟨rfl,rfl⟩:=hr
   obtain ⟨x,hx,hb,rfl⟩:=qt9 hw
   obtain ⟨h1,h2⟩:=h x hx
   unfold qrx at hb
   split at hb
   ·rename_i Φ hc
    simp only [Bool.and_eq_true] at hb
    exact h2.borrow h1 (fun _=>FitH.froze (qnx hb.1.1) (qrf hb.1.2)) (qkr hb.2)
   ·cases hb
  ·cases hr⟩
end Go.Proofs.YtocnpnnplllneaaGreatDoor
namespace Go.Proofs.YtocnpnnplllneaaGreatDoor
set_option linter.unusedSimpArgs false
set_option linter.unusedVariables false
open Go Go.RowKit
set_option maxRecDepth 100000
theorem zca {t u:Tr} {H:Heap} (h0:H.get 0=some (.cells [qae t])) (h1:H.get 1=some (.cells [qae u])):FitH 0 [(0,0),(1,1)] [] H ⟨2,[[(1,.cells [qae u]),(0,.cells [qae t])]]⟩ where
 nd1:=by simp
 nd2:=by simp
 nd3:=by simp [Heap.ents]
 lt:=by simp
 idn:=by simp
 num:=by simp
 src:=by
  intro e he
  have hN:=qch t
  have hU:=qch u
  simp [Heap.ents] at he
  rcases he with rfl | rfl
  ·exact ⟨1,.cells [qae u],by simp,h1,qaj (by simp [qac])⟩
  ·exact ⟨0,.cells [qae t],by simp,h0,qaj (by simp [qac])⟩
 frz:=fun x h=>by cases h
theorem qrh {t u:Tr} {x:Nd} {H:Heap} (h0:H.get 0=some (.cells [qae t])) (h1:H.get 1=some (.cells [qae u])) (h2:H.get 2=some (.cells x.cs)):FitH 0 [(0,0),(1,1),(2,2)] [] H ⟨3,[[(2,.cells x.cs),(1,.cells [qae u]),(0,.cells [qae t])]]⟩ where
 nd1:=by simp
 nd2:=by simp
 nd3:=by simp [Heap.ents]
 lt:=by simp
 idn:=by simp
 num:=by simp
 src:=by
  intro e he
  have hN:=qch t
  have hU:=qch u
  simp [Heap.ents] at he
  rcases he with rfl | rfl | rfl
  ·exact ⟨2,.cells x.cs,by simp,h2,qaj (qh2 x)⟩
  ·exact ⟨1,.cells [qae u],by simp,h1,qaj (by simp [qac])⟩
  ·exact ⟨0,.cells [qae t],by simp,h0,qaj (by simp [qac])⟩
 frz:=fun x h=>by cases h
structure L34 (T:List (Entry Tryz.prog)):Prop where
 hP:qai 6 T=some e6.g
 hW:∀ H,qbb (ctx T) (.fn 7) [] H=some (.bool true,H)
 hN:qai 9 T=some e9.g
 hL:qai 13 T=some e13.g
theorem labs_c (n:Nd) (L:List Nd):qei (n::L)=qei [n]++qei L:=qf5 [n] L
theorem c5 {T:List (Entry Tryz.prog)} (hT:L34 T) (t:Tr):CallAt (ctx T) 5 [qav t] ⟨0,[]⟩ (.bool true) ⟨0,[]⟩:=by
 have k0:=fun H=>k6 hT.hP t (m:=40) (by omega) H
 have k1:=hT.hW
 cases q:qr8 t 40 with
 | false=>
  rw [q] at k0
  simp only [qav] at k0
  refine qa2 (fn:=Tryz.f5) (s0:=⟨[0,1,2,3,4,5,7,17,18,19],[qav t,.undef,.undef,.undef,.undef,.undef,.undef,.undef,.undef,.undef],[],80,⟨0,[[]]⟩⟩) Tryz.func5 rfl rfl rfl ?_
  (repeat' (first
   | with_reducible refine qb0 ?_
   | (with_reducible refine qa0 qa1 ?_;apply qf4;simp [zS, *,qav];exact rfl)
   | (with_reducible refine qbx ?_;simp only [qaf,qa6])
   | (refine qan rfl ?_)
   | (with_reducible refine qa8 ?_;simp [qad,Tryz.f5,oneOr,qaf,qa6])))
  all_goals first | exact qa5 rfl (by rfl) | (exfalso;omega)
 | true=>
  obtain ⟨hr,hok,hlk,hl40,hs,hn⟩:=zb3 q
  rw [q] at k0
  have k2:=may_tree hT.hN q
  have k3:=fun H=>k13 hT.hL hs.2 H
  have hkeep:=qyc hr
  have hol:=qns (n:=t.length) (ks:=qap t)
  have hin:∀ k,k∈qbf t.length (qap t)→0≤k∧k < (t.length:Int):=fun k hk=>(qh4 hr).rng k hk
  obtain ⟨u,hu⟩ : ∃ u,u=qg8 t:=⟨_,rfl⟩
  obtain ⟨l,hl⟩ : ∃ l,l=qbf t.length (qap t):=⟨_,rfl⟩
  rw [← hu] at k2 hkeep
  rw [← hl] at k3 hkeep hol hin
  have hlu:∀ H,qeu Tryz.prog H 22 (qae u)=some u.length:=fun H=>by simp [qeu]
  simp only [qav] at k0 k2 k3
  refine qa2 (fn:=Tryz.f5) (s0:=⟨[0,1,2,3,4,5,7,17,18,19],[qav t,.undef,.undef,.undef,.undef,.undef,.undef,.undef,.undef,.undef],[],80,⟨0,[[]]⟩⟩) Tryz.func5 rfl rfl rfl ?_
  repeat apply wq
  refine qa0 qa1 ?_
  simp [zS,qav]
  repeat apply wq
  refine qa0 qa1 ?_
  simp [zS,k0]
  refine qam rfl ?_
  refine qa9 ?_
  simp only [qaf]
  repeat apply wq
  refine qa0 qa1 ?_
  simp [zS,k2]
  repeat apply wq
  refine qa0 qa1 ?_
  simp [zS]
  repeat apply wq
  refine qa0 qa1 ?_
  simp [zS,k3]
  repeat apply wq
  refine qa0 qa1 ?_
  simp [zS,hlu]
  have hul:u.length≤1000000:=by
   obtain ⟨_,_,b⟩:=qnz hlk ((qc9 t).length+2) (mL none) 0 0 [root0] 0 (Int.le_refl 0) (by have:=qdv (qgh hr (qh4 hr));omega) ⟨⟨by simp [root0],by simp [root0]⟩,fun n hn k hk=>by simp at hn;subst hn;simp [root0] at hk,by simp [root0]⟩ (by simp)
   have hct:=qxf hr
   have htl:=qzq hr
   have e:qg8 t=qg9 ((qc9 t).length+2) (qc9 t) (mL none) 0 0 [root0]:=rfl
   rw [← e,← hu] at b
   simp only [List.length_cons,List.length_nil] at b
   omega
  clear k0 k2 k3 hok hlk hu hl hs
  refine qab (qb7 (fun x:Nat × Nat=>(⟨[0,1,2,3,4,5,7,17,18,19],[.undef,.ptr 0 0,.bool false,.ptr 1 0,.int .i64 (x.2:Int),qbh l,.undef,qae u,.int .i64 (u.length:Nat),.int .i64 (x.1:Int)],[],80,⟨2,[[(1,.cells [qae u]),(0,.cells [qae t])]]⟩⟩ : St))
   (fun x=>x.1≤u.length∧x.2≤l.length∧(qei (u.drop x.1)).Sublist (qei ((l.drop x.2).map (qa3 t)))) (fun x=>u.length - x.1) [(0,0),(1,1)] [] (0,0) ⟨Nat.zero_le _,Nat.zero_le _,by simpa using hkeep⟩ ⟨rfl,rfl,rfl,by simp [qb1,qar,qay,qah,qac],zca rfl rfl⟩ ?_)
  clear hkeep
  rintro ⟨j,a⟩ ⟨hj,ha,hsub⟩ B hB
  simp only at hj ha hsub ⊢
  by_cases h:j < u.length
  ·have hc:(j:Int) < (u.length:Int):=by omega
   have hac:=qbu (show j≤1000000000 by omega)
   have hxu:=atN h
   rw [List.drop_eq_getElem_cons h,labs_c] at hsub
   generalize u[j]=n at *
   repeat apply wq
   refine qa0 qa1 ?_
   simp [zS,hc]
   repeat apply wq
   refine qan (by simp [qbk,St.get,qd4,h]) ?_
   refine qa9 ?_
   simp only [qaf]
   repeat apply wq
   refine qab ?_
   repeat apply wq
   refine qa0 qa1 ?_
   simp [zS,hxu,qb5,qcu]
   have g0:qc7 n.cs 0=some (qb6 n.kind):=rfl
   have g1:qc7 n.cs 1=some (qb6 n.space):=rfl
   have g2:qc7 n.cs 2=some (.str n.name):=rfl
   by_cases hk:n.kind=1
   ·have hlab:qei [n]=[(n.space,n.name)]:=by rw [qdr,if_pos hk]
    rw [hlab] at hsub
    repeat apply wq
    refine qa0 qa1 ?_
    simp [zS,g0,hk,qb6]
    refine qam (by simp [qbk,St.get,qd4,hk]) ?_
    refine qa9 ?_
    simp only [qaf]
    repeat apply wq
    refine qab (qb7 (fun i:Nat=>(⟨[0,1,2,3,4,5,7,17,18,19],[.undef,.ptr 0 0,.bool false,.ptr 1 0,.int .i64 (i:Int),qbh l,.ptr 2 0,qae u,.int .i64 (u.length:Nat),.int .i64 (j:Int)],[],80,⟨3,[[(2,.cells n.cs),(1,.cells [qae u]),(0,.cells [qae t])]]⟩⟩ : St))
     (fun i=>i≤l.length∧((n.space,n.name)::qei (u.drop (j+1))).Sublist (qei ((l.drop i).map (qa3 t)))) (fun i=>l.length - i) [(0,0),(1,1),(2,2)] [] a ⟨ha,by simpa using hsub⟩ ⟨rfl,rfl,rfl,by simp [qb1,qar,qay,qah,qac],qrh rfl rfl rfl⟩ ?_)
    clear hsub ha
    rintro i ⟨hi,hsub⟩ B2 hB2
    have hll:∀ H,qeu Tryz.prog H 30 (qbh l)=some l.length:=fun H=>lenI
    by_cases h2:i < l.length
    ·have hic:(i:Int) < (l.length:Int):=by omega
     have hi1:=qbu (show i≤1000000000 by omega)
     have hik:=atI h2
     obtain ⟨k0,k1⟩:=hin _ (List.getElem_mem h2)
     rw [List.drop_eq_getElem_cons h2,List.map_cons,labs_c] at hsub
     generalize l[i]=k at *
     have hxt:=atX k0 k1
     have e0:qc7 (qa3 t k).cs 0=some (qb6 (qa3 t k).kind):=rfl
     have e1:qc7 (qa3 t k).cs 1=some (qb6 (qa3 t k).space):=rfl
     have e2:qc7 (qa3 t k).cs 2=some (.str (qa3 t k).name):=rfl
     generalize hm:qa3 t k=m at *
     have go:¬ (m.kind=1∧m.name=n.name∧m.space=n.space)→∀ s',(∃ σ Φ,Fit 0 σ Φ s' ((⟨[0,1,2,3,4,5,7,17,18,19],[.undef,.ptr 0 0,.bool false,.ptr 1 0,.int .i64 ((i+1:Nat):Int),qbh l,.ptr 2 0,qae u,.int .i64 (u.length:Nat),.int .i64 (j:Int)],[],80,⟨3,[[(2,.cells n.cs),(1,.cells [qae u]),(0,.cells [qae t])]]⟩⟩ : St)))→B2 s':=fun hne s' hs'=>
      hB2 s' (i+1) (by omega) ⟨by omega,skip_lab hsub hne⟩ hs'
     by_cases m1:m.kind=1
     ·by_cases m2:m.name=n.name
      ·by_cases m3:m.space=n.space
       ·repeat apply wq
        refine qd3 mixed qa1 (by decide +kernel) fun B_ hB_=>?_
        apply qop B_
        simp [zS,qds,qcc,qbv,qby,qas,qaz,qax,Heap.lay,qeh,qoo,qon,qi0,qhz,qhm,qhy,qis,qi6,qfm,qfn,qih,qig,qie,qif,qik,qil,qij,qii,hll,hic,hik,hxt,e0,e1,e2,g1,g2,qb6,m1,m2,m3]
        exact rfl
        refine ⟨_,rfl,?_,?_⟩
        simp [zS,qby,qas,qcs,qd1,qeq,hll,hic,hik,hxt,e0,e1,e2,g1,g2,qb6,m1,m2,m3]
        simp [qcj,Heap.lay,qeh,qaf]
        refine qam (by simp [qbk,St.get,qd4]) ?_
        refine qaw ?_
        simp only [qaf,qha,if_true]
        have hnl:¬ (i:Int)=(l.length:Int):=by omega
        repeat apply wq
        refine qa0 qa1 ?_
        simp [zS,hll,hnl]
        refine qb9 (t:=false) (by simp [qbk,St.get,qd4,hnl];try omega) (fun h=>by cases h) fun _=>?_
        refine qa9 ?_
        simp only [qaf]
        refine qa0 qa1 ?_
        simp [zS,hi1]
        refine qa0 qa1 ?_
        simp [zS,hac]
        exact hB _ (j+1,i+1) (by simp only;omega) ⟨by simp only;omega,by simp only;omega,take_lab hsub⟩ ⟨[(0,0),(1,1)],[],rfl,rfl,rfl,by simp [qb1,qar,qay,qah,qac],zca rfl rfl⟩
       ·repeat apply wq
        refine qd3 mixed qa1 (by decide +kernel) fun B_ hB_=>?_
        apply qop B_
        simp [zS,qds,qcc,qbv,qby,qas,qaz,qax,Heap.lay,qeh,qoo,qon,qi0,qhz,qhm,qhy,qis,qi6,qfm,qfn,qih,qig,qie,qif,qik,qil,qij,qii,hll,hic,hik,hxt,e0,e1,e2,g1,g2,qb6,m1,m2,m3]
        exact rfl
        refine ⟨_,rfl,?_,?_⟩
        simp [zS,qby,qas,qcs,qd1,qeq,hll,hic,hik,hxt,e0,e1,e2,g1,g2,qb6,m1,m2,m3]
        simp [qcj,Heap.lay,qeh,qaf]
        refine qan (by simp [qbk,St.get,qd4]) ?_
        refine qa9 ?_
        simp only [qaf]
        refine qab ?_
        refine qa0 qa1 ?_
        simp [zS,hi1]
        exact go (by simp [m3]) _ ⟨[(0,0),(1,1),(2,2)],[],rfl,rfl,rfl,by simp [qb1,qar,qay,qah,qac],qrh rfl rfl rfl⟩
      ·repeat apply wq
       refine qd3 mixed qa1 (by decide +kernel) fun B_ hB_=>?_
       apply qop B_
       simp [zS,qds,qcc,qbv,qby,qas,qaz,qax,Heap.lay,qeh,qoo,qon,qi0,qhz,qhm,qhy,qis,qi6,qfm,qfn,qih,qig,qie,qif,qik,qil,qij,qii,hll,hic,hik,hxt,e0,e2,g2,qb6,m1,m2]
       exact rfl
       refine ⟨_,rfl,?_,?_⟩
       simp [zS,qby,qas,qcs,qd1,qeq,hll,hic,hik,hxt,e0,e2,g2,qb6,m1,m2]
       simp [qcj,Heap.lay,qeh,qaf]
       refine qan (by simp [qbk,St.get,qd4]) ?_
       refine qa9 ?_
       simp only [qaf]
       refine qab ?_
       refine qa0 qa1 ?_
       simp [zS,hi1]
       exact go (by simp [m2]) _ ⟨[(0,0),(1,1),(2,2)],[],rfl,rfl,rfl,by simp [qb1,qar,qay,qah,qac],qrh rfl rfl rfl⟩
     ·repeat apply wq
      refine qd3 mixed qa1 (by decide +kernel) fun B_ hB_=>?_
      apply qop B_
      simp [zS,qds,qcc,qbv,qby,qas,qaz,qax,Heap.lay,qeh,qoo,qon,qi0,qhz,qhm,qhy,qis,qi6,qfm,qfn,qih,qig,qie,qif,qik,qil,qij,qii,hll,hic,hik,hxt,e0,qb6,m1]
      exact rfl
      refine ⟨_,rfl,?_,?_⟩
      simp [zS,qby,qas,qcs,qd1,qeq,hll,hic,hik,hxt,e0,qb6,m1]
      simp [qcj,Heap.lay,qeh,qaf]
      refine qan (by simp [qbk,St.get,qd4]) ?_
      refine qa9 ?_
      simp only [qaf]
      refine qab ?_
      refine qa0 qa1 ?_
      simp [zS,hi1]
      exact go (by simp [m1]) _ ⟨[(0,0),(1,1),(2,2)],[],rfl,rfl,rfl,by simp [qb1,qar,qay,qah,qac],qrh rfl rfl rfl⟩
    ·exfalso
     rw [List.drop_eq_nil_of_le (show l.length≤i by omega)] at hsub
     have:=hsub.length_le
     simp [qei] at this
   ·have hlab:qei [n]=[]:=by rw [qdr,if_neg hk]
    rw [hlab,List.nil_append] at hsub
    repeat apply wq
    refine qa0 qa1 ?_
    simp [zS,g0,qb6]
    refine qan (by simp [qbk,St.get,qd4,hk]) ?_
    refine qaw ?_
    simp only [qaf,qha,if_true]
    refine qa0 qa1 ?_
    simp [zS,hac]
    exact hB _ (j+1,a) (by simp only;omega) ⟨by simp only;omega,ha,hsub⟩ ⟨[(0,0),(1,1)],[],rfl,rfl,rfl,by simp [qb1,qar,qay,qah,qac],zca rfl rfl⟩
  ·have hc:¬ (j:Int) < (u.length:Int):=by omega
   repeat apply wq
   refine qa0 qa1 ?_
   simp [zS,hc]
   repeat apply wq
   refine qam (by simp [qbk,St.get,qd4,h]) ?_
   refine qaw ?_
   simp only [qaf,qha,if_true]
   repeat apply wq
   refine qa0 qa1 ?_
   simp [zS,k1]
   refine qa8 ?_
   simp [qad,Tryz.f5,oneOr,qaf,qa6]
   exact qa5 rfl (by rfl)
end Go.Proofs.YtocnpnnplllneaaGreatDoor