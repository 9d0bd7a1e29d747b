/- Headings, markers, void elements, in both codes. No condition. -/
import Derived.Test.YtocnpnnplllneaaGreatDoorMH
import Derived.Test.YtocnpnnplllneaaGreatDoorMJ
namespace Go.Proofs.YtocnpnnplllneaaGreatDoor
set_option linter.unusedSimpArgs false
set_option linter.unusedVariables false
open Go Go.RowKit
set_option maxRecDepth 100000
@[simp] theorem szT38:qbw Tryz.prog 38=some 1:=rfl
@[simp] theorem agT38:qgd Tryz.prog 38=some false:=rfl
@[simp] theorem byT38:qc6 Tryz.prog 38=some 8:=rfl
@[simp] theorem alT38 (H:Heap):alV Tryz.prog H 38=some (.ptr H.n 0,H.new (.cells [.nilP])):=rfl
@[simp] theorem zeT38:qbn Tryz.prog 38=some (.nilP):=rfl
attribute [simp] Tryz.underlying38
@[simp 500] theorem rvF38 (H:Heap) (cs:List AV) (o:Nat):qaq Tryz.prog H 38 (.fptr cs o)=qc7 cs o:=rfl
@[simp 500] theorem rvP38 (H:Heap) (b o:Nat):qaq Tryz.prog H 38 (.ptr b o)=(H.get b).bind fun k=>k.rd.bind fun cs=>qc7 cs o:=rfl
@[simp] theorem szT76:qbw Tryz.prog 76=some 1:=rfl
@[simp] theorem agT76:qgd Tryz.prog 76=some false:=rfl
@[simp] theorem byT76:qc6 Tryz.prog 76=some 8:=rfl
@[simp] theorem alT76 (H:Heap):alV Tryz.prog H 76=some (.ptr H.n 0,H.new (.cells [.nilP])):=rfl
@[simp] theorem zeT76:qbn Tryz.prog 76=some (.nilP):=rfl
attribute [simp] Tryz.underlying76
@[simp 500] theorem rvF76 (H:Heap) (cs:List AV) (o:Nat):qaq Tryz.prog H 76 (.fptr cs o)=qc7 cs o:=rfl
@[simp 500] theorem rvP76 (H:Heap) (b o:Nat):qaq Tryz.prog H 76 (.ptr b o)=(H.get b).bind fun k=>k.rd.bind fun cs=>qc7 cs o:=rfl
theorem qfo (L:List At1):Elems 2 (L.map qcg):=.map (sz:=2) (f:=qcg) (by decide) (fun x=>⟨rfl,by simp [qcg,AV.cells,qac,qah],fun h=>absurd h (by decide),fun _=>⟨_,rfl⟩⟩) L
theorem qbp (L:List Nd):Elems 7 (L.map qa7):=.map (sz:=7) (f:=qa7) (by decide) (fun x=>⟨rfl,by simp [qa7,Nd.cs,AV.cells,qac,qah,qb6,qak],fun h=>absurd h (by decide),fun _=>⟨_,rfl⟩⟩) L
theorem qji:∀ (L:List At1),allSingle (qa4 (L.map qcg))=true
 | []=>rfl
 | a::r=>by simp only [List.map_cons,qa4,qd2,qji r];rfl
theorem c51 {T:List (Entry Tryz.prog)} (L:List At1) (hl:L.length≤1000000):CallAt (ctx T) 51 [qak L] ⟨0,[]⟩ (qak L) ⟨0,[]⟩:=by
 have happ:=qs0 (P:=Tryz.prog) (elem:=71) (b:=0) (m:=1) (es:=L.map qcg) (g:=[]) (fs:=[]) szT71 byT71 zeT71 rfl (by omega) (by omega) (qfo _) (qji _) (by simp;omega)
 cases L with
 | nil=>
  refine qa2 (fn:=Tryz.f51) (s0:=⟨[0,2],[.fslc 2 [],.undef],[],8,⟨0,[[]]⟩⟩) Tryz.func51 rfl rfl rfl ?_
  repeat apply wq
  refine qa0 qa1 ?_
  simp [zS]
  refine qn1 (pre:=[]) ?_ ?_
  ·repeat apply wq
   refine qa0 qa1 ?_
   simp [zS]
   refine qan rfl ?_
   repeat apply wq
   refine qa0 qa1 ?_
   simp [zS]
   refine qa8 ?_
   simp [qad,Tryz.f51,oneOr]
   exact ⟨[],[],by simp [qar,qak],FitH.empty⟩
  ·repeat apply wq
   refine qa0 qa1 ?_
   simp [zS]
   refine qam rfl ?_
   refine qa9 ?_
   simp
   have happ:qbz Tryz.prog ⟨1,[[(0,.cells [])]]⟩ 71 (.slc 0 0 0 (.ex 0)) .eslc=some (.slc 0 0 0 (.ex 0),⟨1,[[(0,.cells [])]]⟩):=rfl
   repeat apply wq
   refine qa0 qa1 ?_
   simp [zS,happ]
   refine qa8 ?_
   simp [qad,Tryz.f51,oneOr]
   exact qq9 (es:=[]) (len:=0) (qfo []) (by simp [Heap.get,getFs,getF,qa4]) (by simp) (by simp)
 | cons x r=>
  have e1:litV 0 1 2 ((x::r).map qcg)=.slc 1 0 (r.length+1) (.rest 2):=by simp [litV]
  have e2:qu8 ⟨1,[[(0,.cells [])]]⟩ ((x::r).map qcg)=⟨2,[[(1,.cells (qa4 ((x::r).map qcg))),(0,.cells [])]]⟩:=rfl
  rw [e1,e2] at happ
  refine qa2 (fn:=Tryz.f51) (s0:=⟨[0,2],[qak (x::r),.undef],[],8,⟨0,[[]]⟩⟩) Tryz.func51 rfl rfl rfl ?_
  repeat apply wq
  refine qa0 qa1 ?_
  simp [zS,qak]
  repeat apply wq
  refine qa0 qa1 ?_
  simp [zS,qak]
  refine qam rfl ?_
  refine qa9 ?_
  simp
  simp only [List.map_cons] at happ
  repeat apply wq
  refine qa0 qa1 ?_
  simp [zS,happ]
  refine qa8 ?_
  simp [qad,Tryz.f51,oneOr]
  exact qq9 (es:=(x::r).map qcg) (len:=r.length+1) (qfo _) (by simp [Heap.get,getFs,getF]) (by simp) (by rw [List.take_of_length_le (by simp)];rfl)
noncomputable def e51:Entry Tryz.prog:=mkE 51 [[2]] (fun L:List At1=>[qak L]) (fun L=>L.length≤1000000) (fun L=>qak L) fun L hl=>c51 (T:=[]) L hl
theorem k51 {T:List (Entry Tryz.prog)} (hT:qai 51 T=some e51.g) {L:List At1} (hl:L.length≤1000000) (H:Heap):qbb (ctx T) (.fn 51) [qak L] H=some (qak L,H):=
 qdc hT (fun x y h=>by simp only [List.cons.injEq] at h;exact qf1 h.1) L hl (by simp [qac]) (by simp [qau]) H
def fresh (nd:Nd):Nd:={ nd with up:=-1,kids:=[] }
def qr5 (nd:Nd):AV:=.agg [qb6 nd.kind,qb6 nd.space,.str nd.name,qak nd.attrs,.str nd.data,qb6 (-1),.nilS]
theorem c87 {T:List (Entry Tryz.prog)} (hC:qai 51 T=some e51.g) {m pb k:Nat} {pre post:List AV} {L:List Nd} {g:List (Nat × Blk)} (h:Eok m pb pre k 7 (L.map qa7) post g) (hl:L.length+1≤1000000) (nd:Nd) (ha:nd.attrs.length≤1000000) :
  CallAt (ctx T) 87 [.ptr pb pre.length,qa7 nd] ⟨m,[VE pb pre k 7 (L.map qa7) post g]⟩ (.int .i64 (L.length:Int)) ⟨m+1,[VE pb pre m 7 ((L++[fresh nd]).map qa7) post g]⟩:=by
 have kc:=fun H=>k51 hC ha H
 have lp:=h.lp
 have hgv:∀ n f,(∀ i,i < m→getF i f=none)→Heap.get ⟨n,[f,VE pb pre k 7 (L.map qa7) post g]⟩ pb=some (.cells (pre++qdk k 7 (L.map qa7)::post)):=fun n f hf=>by
  simp only [Heap.get,getFs]
  rw [hf pb lp,VE_p]
 have fl1:∀ cs:List AV,∀ i,i < m→getF i [(m,.cells cs)]=none:=fun cs i hi=>by
  unfold getF
  rw [qao (show m≠i by omega)]
  rfl
 have fl2:∀ (j:Nat) (ds cs:List AV),∀ i,i < m→getF i [(m+j,.cells ds),(m,.cells cs)]=none:=fun j ds cs i hi=>by
  unfold getF
  rw [qao (show m+j≠i by omega)]
  exact fl1 cs i hi
 have gx:qc7 (pre++qdk k 7 (L.map qa7)::post) pre.length=some (qdk k 7 (L.map qa7)):=by
  rw [qee (by simp),List.getElem_append_right (by omega)]
  simp
 have hes:Elems 7 (L.map qa7++[qr5 nd]):=by
  exact (qbp L).append ⟨by omega,fun v hv=>by
   simp only [List.mem_singleton] at hv
   subst hv
   exact ⟨rfl,by simp [qr5,AV.cells,qb6,qak,qac,qah],fun h=>by omega,fun _=>⟨_,rfl⟩⟩⟩
 have rd2:∀ n,qaq Tryz.prog ⟨n,[[(m,.cells nd.cs)],VE pb pre k 7 (L.map qa7) post g]⟩ 22 (.ptr pb pre.length)=some (qdk k 7 (L.map qa7)):=fun n=>by
  simp [hgv n _ (fl1 _),gx]
 have hf2:=fl2 (1+17) (qr5 nd).cells nd.cs
 rw [← Nat.add_assoc] at hf2
 obtain ⟨f,hfd⟩ : ∃ f,f=[(m+1+17,Blk.cells (qr5 nd).cells),(m,.cells nd.cs)]:=⟨_,rfl⟩
 rw [← hfd] at hf2
 have happ:=app_E (P:=Tryz.prog) (elem:=34) (n:=m+1+22) (f:=f) qzu byT34 zeT34 rfl (by omega) h (t:=m+1+17) (e:=qr5 nd) rfl rfl hf2 (by rw [hfd];simp [getF]) (by simp;omega) (fun _=>rfl)
 have pr:=prom_E (f:=f) (g:=g) (c:=m+1+22) (row:=qa4 (L.map qa7++[qr5 nd])) (vrow:=pre++qdk k 7 (L.map qa7)::post) lp (by omega) hf2 hes.pure
 have hly:qge [.slc (m+1+22) 0 (L.length+1) (.rest 7)] pre.length (pre++qdk k 7 (L.map qa7)::post)=some (pre++.slc (m+1+22) 0 (L.length+1) (.rest 7)::post):=by
  have:=qg1 (a:=pre) (b:=[qdk k 7 (L.map qa7)]) (b':=[.slc (m+1+22) 0 (L.length+1) (.rest 7)]) (c:=post) rfl
  simpa using this
 obtain ⟨R,hR⟩ : ∃ R,R=qa4 (L.map qa7++[qr5 nd]):=⟨_,rfl⟩
 rw [← hR] at happ pr
 simp only [List.length_map] at happ
 have q1:Nat.beq (m+1+22) pb=false:=qao (by omega)
 have q2:Nat.beq (m+1+17) pb=false:=qao (by omega)
 have q3:Nat.beq m pb=false:=qao (by omega)
 have c0:qc7 nd.cs 0=some (.int .i64 nd.kind):=rfl
 have c1:qc7 nd.cs 1=some (.int .i64 nd.space):=rfl
 have c2:qc7 nd.cs 2=some (.str nd.name):=rfl
 have c3:qc7 nd.cs 3=some (qak nd.attrs):=rfl
 have c4:qc7 nd.cs 4=some (.str nd.data):=rfl
 have bld:qgv Tryz.prog 34 [(0,.int .i64 nd.kind),(1,.int .i64 nd.space),(2,.str nd.name),(3,qak nd.attrs),(4,.str nd.data),(5,.int .i64 (-1))]=some (.agg [.int .i64 nd.kind,.int .i64 nd.space,.str nd.name,qak nd.attrs,.str nd.data,.int .i64 (-1),.nilS]):=rfl
 refine qa2 (fn:=Tryz.f87) (s0:=⟨[0,1,3,4],[.ptr pb pre.length,qa7 nd,.undef,.undef],[],32,⟨m,[]::[VE pb pre k 7 (L.map qa7) post g]⟩⟩) Tryz.func87 rfl rfl rfl ?_
 repeat apply wq
 refine qa0 qa1 ?_
 simp [zS]
 rw [hfd] at happ pr
 simp only [qr5,AV.cells,qb6] at happ pr
 have sg:(qak nd.attrs).single=true:=rfl
 repeat apply wq
 refine qd3 mixed qa1 (by decide +kernel) fun B_ hB_=>?_
 have d_4_13:ahead B_ 4 13=false:=by rw [hB_];decide +kernel
 have d_4_18:ahead B_ 4 18=true:=by rw [hB_];decide +kernel
 have d_4_21:ahead B_ 4 21=true:=by rw [hB_];decide +kernel
 have d_6_13:ahead B_ 6 13=false:=by rw [hB_];decide +kernel
 have d_6_18:ahead B_ 6 18=true:=by rw [hB_];decide +kernel
 have d_6_21:ahead B_ 6 21=true:=by rw [hB_];decide +kernel
 have d_8_13:ahead B_ 8 13=false:=by rw [hB_];decide +kernel
 have d_8_18:ahead B_ 8 18=true:=by rw [hB_];decide +kernel
 have d_8_21:ahead B_ 8 21=true:=by rw [hB_];decide +kernel
 have d_10_13:ahead B_ 10 13=false:=by rw [hB_];decide +kernel
 have d_10_18:ahead B_ 10 18=true:=by rw [hB_];decide +kernel
 have d_10_21:ahead B_ 10 21=true:=by rw [hB_];decide +kernel
 have d_12_13:ahead B_ 12 13=true:=by rw [hB_];decide +kernel
 have d_12_18:ahead B_ 12 18=true:=by rw [hB_];decide +kernel
 have d_12_21:ahead B_ 12 21=true:=by rw [hB_];decide +kernel
 have d_13_4:ahead B_ 13 4=false:=by rw [hB_];decide +kernel
 have d_13_6:ahead B_ 13 6=false:=by rw [hB_];decide +kernel
 have d_13_8:ahead B_ 13 8=false:=by rw [hB_];decide +kernel
 have d_13_10:ahead B_ 13 10=false:=by rw [hB_];decide +kernel
 have d_13_12:ahead B_ 13 12=false:=by rw [hB_];decide +kernel
 have d_13_15:ahead B_ 13 15=false:=by rw [hB_];decide +kernel
 have d_15_13:ahead B_ 15 13=false:=by rw [hB_];decide +kernel
 have d_15_18:ahead B_ 15 18=true:=by rw [hB_];decide +kernel
 have d_15_21:ahead B_ 15 21=true:=by rw [hB_];decide +kernel
 have d_17_13:ahead B_ 17 13=false:=by rw [hB_];decide +kernel
 have d_17_18:ahead B_ 17 18=true:=by rw [hB_];decide +kernel
 have d_17_21:ahead B_ 17 21=true:=by rw [hB_];decide +kernel
 have d_18_4:ahead B_ 18 4=false:=by rw [hB_];decide +kernel
 have d_18_6:ahead B_ 18 6=false:=by rw [hB_];decide +kernel
 have d_18_8:ahead B_ 18 8=false:=by rw [hB_];decide +kernel
 have d_18_10:ahead B_ 18 10=false:=by rw [hB_];decide +kernel
 have d_18_12:ahead B_ 18 12=false:=by rw [hB_];decide +kernel
 have d_18_15:ahead B_ 18 15=false:=by rw [hB_];decide +kernel
 have d_21_4:ahead B_ 21 4=false:=by rw [hB_];decide +kernel
 have d_21_6:ahead B_ 21 6=false:=by rw [hB_];decide +kernel
 have d_21_8:ahead B_ 21 8=false:=by rw [hB_];decide +kernel
 have d_21_10:ahead B_ 21 10=false:=by rw [hB_];decide +kernel
 have d_21_12:ahead B_ 21 12=false:=by rw [hB_];decide +kernel
 have d_21_15:ahead B_ 21 15=false:=by rw [hB_];decide +kernel
 apply qop B_
 simp [zS,qds,qcc,qbv,qby,qas,qaz,qax,Heap.lay,qeh,qoo,qon,qi0,qhz,qhm,qhy,qis,qi6,qfm,qfn,qih,qig,qie,qif,qik,qil,qij,qii,d_4_13,d_4_18,d_4_21,d_6_13,d_6_18,d_6_21,d_8_13,d_8_18,d_8_21,d_10_13,d_10_18,d_10_21,d_12_13,d_12_18,d_12_21,d_13_4,d_13_6,d_13_8,d_13_10,d_13_12,d_13_15,d_15_13,d_15_18,d_15_21,d_17_13,d_17_18,d_17_21,d_18_4,d_18_6,d_18_8,d_18_10,d_18_12,d_18_15,d_21_4,d_21_6,d_21_8,d_21_10,d_21_12,d_21_15,rd2,bld,sg,kc,happ,q1,q2,q3,pr,hly,c0,c1,c2,c3,c4]
 exact rfl
 refine ⟨_,rfl,?_,?_⟩
 simp [zS,qby,qas,qcs,qd1,qeq,d_4_13,d_4_18,d_4_21,d_6_13,d_6_18,d_6_21,d_8_13,d_8_18,d_8_21,d_10_13,d_10_18,d_10_21,d_12_13,d_12_18,d_12_21,d_13_4,d_13_6,d_13_8,d_13_10,d_13_12,d_13_15,d_15_13,d_15_18,d_15_21,d_17_13,d_17_18,d_17_21,d_18_4,d_18_6,d_18_8,d_18_10,d_18_12,d_18_15,d_21_4,d_21_6,d_21_8,d_21_10,d_21_12,d_21_15,rd2,bld,sg,kc,happ,q1,q2,q3,pr,hly,c0,c1,c2,c3,c4]
 simp [qcj,Heap.lay,qeh,qaf]
 have g3:Heap.get ⟨m+1+22+1,[[(m+1+17,.cells [.int .i64 nd.kind,.int .i64 nd.space,.str nd.name,qak nd.attrs,.str nd.data,.int .i64 (-1),.nilS]),(m,.cells nd.cs)],(m+1+22,.cells R)::(pb,.cells (pre++.slc (m+1+22) 0 (L.length+1) (.rest 7)::post))::g]⟩ pb=some (.cells (pre++.slc (m+1+22) 0 (L.length+1) (.rest 7)::post)):=by
  simp [Heap.get,getFs,getF,q1,q2,q3]
 have gx3:qc7 (pre++.slc (m+1+22) 0 (L.length+1) (.rest 7)::post) pre.length=some (.slc (m+1+22) 0 (L.length+1) (.rest 7)):=by
  rw [qee (by simp),List.getElem_append_right (by omega)]
  simp
 have hfit:=fit_E (es':=(L++[fresh nd]).map qa7) (c:=m+1+22) (cs0:=R) (H:=⟨m+1+22+1,[[(m+1+17,.cells [.int .i64 nd.kind,.int .i64 nd.space,.str nd.name,qak nd.attrs,.str nd.data,.int .i64 (-1),.nilS]),(m,.cells nd.cs)],(m+1+22,.cells R)::(pb,.cells (pre++.slc (m+1+22) 0 (L.length+1) (.rest 7)::post))::g]⟩) h (by omega) (by simp)
  (fun σ=>by
   subst hR
   rw [List.map_append,qbm,qbm]
   refine qdo (qaj (qbp L).pure) ?_
   simp [qa4,qr5,qa7,fresh,Nd.cs,AV.cells,qb1,qar,qb6,qah])
  (by
   rw [g3]
   simp)
  (by simp [Heap.get,getFs,getF,show Nat.beq (m+1+17) (m+1+22)=false from qao (by omega),show Nat.beq m (m+1+22)=false from qao (by omega)])
  (fun e he=>by
   have:=h.lg e he
   have nd:=h.nd
   rw [List.nodup_cons] at nd
   have e1:pb≠e.1:=fun x=>nd.1 (List.mem_map.2 ⟨e,he,x.symm⟩)
   simp [Heap.get,getFs,getF,qao (show m+1+22≠e.1 by omega),qao (show m+1+17≠e.1 by omega),qao (show m≠e.1 by omega),qao e1,qpb nd.2 he])
 have rd3:qaq Tryz.prog ⟨m+1+22+1,[[(m+1+17,.cells [.int .i64 nd.kind,.int .i64 nd.space,.str nd.name,qak nd.attrs,.str nd.data,.int .i64 (-1),.nilS]),(m,.cells nd.cs)],(m+1+22,.cells R)::(pb,.cells (pre++.slc (m+1+22) 0 (L.length+1) (.rest 7)::post))::g]⟩ 22 (.ptr pb pre.length)=some (.slc (m+1+22) 0 (L.length+1) (.rest 7)):=by
  simp [g3,gx3]
 have hsub:wr .i64 (L.length:Int)=some (L.length:Int):=by
  have:=qzw (q:=L.length) (by omega)
  simpa using this
 have hlen:∀ H,qeu Tryz.prog H 22 (.slc (m+1+22) 0 (L.length+1) (.rest 7))=some (L.length+1):=fun H=>rfl
 repeat apply wq
 refine qa0 qa1 ?_
 simp [zS,rd3,hsub,hlen]
 refine qa8 ?_
 simp [qad,Tryz.f87,oneOr]
 rw [List.map_append] at hfit
 refine ⟨_,_,?_,hfit⟩
 simp [qar,qah]
theorem qhp {H:Heap} {k:Nat} {t:Tr} (hne:t≠[]) (hk:H.get k=some (.cells (qa4 (t.map qa7)))):qe4 H [7] (.agg [qdk k 7 (t.map qa7)])=some (qav t):=by
 have el:=qbp t
 have e1:=qn9 el (Nat.le_refl _)
 rw [List.take_of_length_le (Nat.le_refl _)] at e1
 have e2:=el.chunk
 rw [List.length_map] at e1 e2
 rw [qcb (by simp [hne])]
 simp [qe4,okV,qac,qah,qn6,qjf,hk,el.pure,e1,e2,el.size,qav]
theorem c154 {T:List (Entry Tryz.prog)} (hS:qai 124 T=some e124.g) (t:Tr) (i:Int) (hi:isB t i=true) (hu:(qa3 t i).up = -1):CallAt (ctx T) 154 [qav t,.int .i64 i] ⟨0,[]⟩ (.int .i64 (-1)) ⟨0,[]⟩:=by
 have ks:=fun i H=>k124 hS t i H
 have hk:0≤i∧i < (t.length:Int):=by simpa [isB] using hi
 have hm:isB t (-1)=false:=by simp [isB]
 simp only [qav] at ks
 refine qa2 (fn:=Tryz.f154) (s0:=⟨[0,1,2,4],[qav t,.int .i64 i,.undef,.undef],[],33,⟨0,[[]]⟩⟩) Tryz.func154 rfl rfl rfl ?_
 repeat apply wq
 refine qa0 qa1 ?_
 simp [zS,qav]
 repeat apply wq
 refine qd3 mixed qa1 (by decide +kernel) fun B_ hB_=>?_
 have d_0_2:ahead B_ 0 2=true:=by rw [hB_];decide +kernel
 have d_0_12:ahead B_ 0 12=true:=by rw [hB_];decide +kernel
 have d_2_0:ahead B_ 2 0=false:=by rw [hB_];decide +kernel
 have d_2_5:ahead B_ 2 5=true:=by rw [hB_];decide +kernel
 have d_2_7:ahead B_ 2 7=true:=by rw [hB_];decide +kernel
 have d_2_11:ahead B_ 2 11=true:=by rw [hB_];decide +kernel
 have d_5_2:ahead B_ 5 2=false:=by rw [hB_];decide +kernel
 have d_5_12:ahead B_ 5 12=true:=by rw [hB_];decide +kernel
 have d_7_2:ahead B_ 7 2=false:=by rw [hB_];decide +kernel
 have d_7_12:ahead B_ 7 12=true:=by rw [hB_];decide +kernel
 have d_11_2:ahead B_ 11 2=false:=by rw [hB_];decide +kernel
 have d_11_12:ahead B_ 11 12=true:=by rw [hB_];decide +kernel
 have d_12_0:ahead B_ 12 0=false:=by rw [hB_];decide +kernel
 have d_12_5:ahead B_ 12 5=false:=by rw [hB_];decide +kernel
 have d_12_7:ahead B_ 12 7=false:=by rw [hB_];decide +kernel
 have d_12_11:ahead B_ 12 11=false:=by rw [hB_];decide +kernel
 apply qop B_
 simp [zS,qds,qcc,qbv,qby,qas,qaz,qax,Heap.lay,qeh,qoo,qon,qi0,qhz,qhm,qhy,qis,qi6,qfm,qfn,qih,qig,qie,qif,qik,qil,qij,qii,d_0_2,d_0_12,d_2_0,d_2_5,d_2_7,d_2_11,d_5_2,d_5_12,d_7_2,d_7_12,d_11_2,d_11_12,d_12_0,d_12_5,d_12_7,d_12_11,ks,hi,hm,atX hk.1 hk.2,Nd.cs,qb6,hu]
 exact rfl
 refine ⟨_,rfl,?_,?_⟩
 simp [zS,qby,qas,qcs,qd1,qeq,d_0_2,d_0_12,d_2_0,d_2_5,d_2_7,d_2_11,d_5_2,d_5_12,d_7_2,d_7_12,d_11_2,d_11_12,d_12_0,d_12_5,d_12_7,d_12_11,ks,hi,hm,atX hk.1 hk.2,Nd.cs,qb6,hu]
 simp [qcj,Heap.lay,qeh,qaf]
 refine qan rfl ?_
 repeat apply wq
 refine qa0 qa1 ?_
 simp [zS]
 refine qa8 ?_
 simp [qad,Tryz.f154,oneOr,qaf,qa6]
 exact qa5 rfl (by rfl)
noncomputable def e154:Entry Tryz.prog:=mkE 154 [[7],[]] (fun x:Tr × Int=>[qav x.1,.int .i64 x.2]) (fun x=>isB x.1 x.2=true∧(qa3 x.1 x.2).up = -1) (fun _=>.int .i64 (-1)) fun x h=>c154 (T:=[e124]) rfl x.1 x.2 h.1 h.2
theorem q154 {T:List (Entry Tryz.prog)} (hT:qai 154 T=some e154.g) {a:AV} {H:Heap} {t:Tr} (ha:qe4 H [7] a=some (qav t)) {i:Int} (hi:isB t i=true) (hu:(qa3 t i).up = -1):qbb (ctx T) (.fn 154) [a,.int .i64 i] H=some (.int .i64 (-1),H):=
 qal hT qyj (t,i) ⟨hi,hu⟩ rfl (by simp [ha])
noncomputable def e125:Entry Tryz.prog:=mkE 125 [[7],[],[]] (fun x:Tr × Int × Int=>[qav x.1,.int .i64 x.2.1,.int .i64 x.2.2]) (fun x=>x.1.length≤1000000) (fun x=>.bool (qi9 x.1 x.2.1 x.2.2)) fun x h=>c125 (T:=[e124]) rfl x.1 h x.2.1 x.2.2
theorem q125 {T:List (Entry Tryz.prog)} (hT:qai 125 T=some e125.g) {a:AV} {H:Heap} {t:Tr} (ha:qe4 H [7] a=some (qav t)) (ht:t.length≤1000000) (up kid:Int):qbb (ctx T) (.fn 125) [a,.int .i64 up,.int .i64 kid] H=some (.bool (qi9 t up kid),H):=
 qal hT injTII (t,up,kid) ht rfl (by simp [ha])
def qfu (t:Tr) (i:Nat) (u:Int):Tr:=t.take i++{ qa3 t i with up:=u }::t.drop (i+1)
theorem qe3 {t:Tr} {i:Nat} (h:i < t.length):t=t.take i++qa3 t i::t.drop (i+1):=by
 have:qa3 t i=t[i]:=by simp [qa3,h]
 rw [this,List.getElem_cons_drop,List.take_append_drop]
theorem lay_up {t:Tr} {i:Nat} (h:i < t.length) (u:Int):qge [.int .i64 u] (i * 7+5) (qa4 (t.map qa7))=some (qa4 ((qfu t i u).map qa7)):=by
 have hl:(qa4 ((t.take i).map qa7)).length=i * 7:=by rw [(qbp _).len];simp;omega
 have e1:qa4 (t.map qa7)=(qa4 ((t.take i).map qa7)++[qb6 (qa3 t i).kind,qb6 (qa3 t i).space,.str (qa3 t i).name,qak (qa3 t i).attrs,.str (qa3 t i).data])++[qb6 (qa3 t i).up]++(qbh (qa3 t i).kids::qa4 ((t.drop (i+1)).map qa7)):=by
  conv=>lhs;rw [qe3 h]
  simp [qbm,qa4,Nd.cs]
 have e2:qa4 ((qfu t i u).map qa7)=(qa4 ((t.take i).map qa7)++[qb6 (qa3 t i).kind,qb6 (qa3 t i).space,.str (qa3 t i).name,qak (qa3 t i).attrs,.str (qa3 t i).data])++[.int .i64 u]++(qbh (qa3 t i).kids::qa4 ((t.drop (i+1)).map qa7)):=by
  simp [qfu,qbm,qa4,Nd.cs,qb6]
 rw [e1,e2]
 have:=qg1 (a:=qa4 ((t.take i).map qa7)++[qb6 (qa3 t i).kind,qb6 (qa3 t i).space,.str (qa3 t i).name,qak (qa3 t i).attrs,.str (qa3 t i).data]) (b:=[qb6 (qa3 t i).up]) (b':=[.int .i64 u]) (c:=qbh (qa3 t i).kids::qa4 ((t.drop (i+1)).map qa7)) rfl
 rw [List.length_append,hl] at this
 exact this
theorem ql7 {b:Nat} {k:Blk}:∀ {f:List (Nat × Blk)},getF b f=none→setF b k f=none
 | [],_=>rfl
 | x::r,h=>by
  unfold getF at h
  unfold setF
  cases hx:Nat.beq x.1 b with
  | true=>rw [hx] at h;cases h
  | false=>
   rw [hx] at h
   simp only at h ⊢
   rw [ql7 h]
   rfl
theorem qne {t:Tr} {i:Nat} (h:i < t.length) (u:Int):(qfu t i u).length=t.length:=by
 simp [qfu];omega
theorem qvp {m n pb k:Nat} {pre post:List AV} {g f:List (Nat × Blk)} {t:Tr} (h:Eok m pb pre k 7 (t.map qa7) post g) {i:Nat} (hi:i < t.length) (u:Int) (hf:∀ j,j < m→getF j f=none) :
  writeVar Tryz.prog ⟨n,[f,VE pb pre k 7 (t.map qa7) post g]⟩ 3 (.ptr k (i * 7+5)) (.int .i64 u)=some ⟨n,[f,VE pb pre k 7 ((qfu t i u).map qa7) post g]⟩:=by
 have hne:t.map qa7≠[]:=by
  intro e
  have:=congrArg List.length e
  simp at this
  subst this
  simp at hi
 have hne':(qfu t i u).map qa7≠[]:=by simp [qfu]
 have hk:getF k f=none:=hf k h.lk.1
 have hg:Heap.get ⟨n,[f,VE pb pre k 7 (t.map qa7) post g]⟩ k=some (.cells (qa4 (t.map qa7))):=by
  simp only [Heap.get,getFs]
  rw [hk,VE_k h hne]
 have hs:Heap.set ⟨n,[f,VE pb pre k 7 (t.map qa7) post g]⟩ k (.cells (qa4 ((qfu t i u).map qa7)))=some ⟨n,[f,VE pb pre k 7 ((qfu t i u).map qa7) post g]⟩:=by
  simp only [Heap.set,setFs]
  rw [ql7 hk]
  unfold VE
  rw [qc4 hne,qc4 hne',qcb hne,qcb hne']
  simp [setF,h.k_p,qne hi]
 unfold writeVar
 simp [AV.cells,allSingle,AV.single,writeCells,hg,Blk.wt,lay_up hi u,Heap.ready,refs,hs,Blk.re]
theorem qnj {m n pb k:Nat} {pre post es:List AV} {g f:List (Nat × Blk)} (h:Eok m pb pre k 7 es post g) (hf:∀ j,j < m→getF j f=none) :
  qaq Tryz.prog ⟨n,[f,VE pb pre k 7 es post g]⟩ 24 (.ptr pb pre.length)=some (.agg [qdk k 7 es])∧qaq Tryz.prog ⟨n,[f,VE pb pre k 7 es post g]⟩ 22 (.ptr pb pre.length)=some (qdk k 7 es):=by
 have hgv:Heap.get ⟨n,[f,VE pb pre k 7 es post g]⟩ pb=some (.cells (pre++qdk k 7 es::post)):=by
  simp only [Heap.get,getFs]
  rw [hf pb h.lp,VE_p]
 have gx:qc7 (pre++qdk k 7 es::post) pre.length=some (qdk k 7 es):=by
  rw [qee (by simp),List.getElem_append_right (by omega)]
  simp
 have sx:qek pre.length 1 (pre++qdk k 7 es::post)=some [qdk k 7 es]:=by
  simp [qek,qef]
 constructor
 ·simp [qaq,hgv,gx,sx,readCells,Blk.rd]
 ·simp [hgv,gx]
theorem c126 {T:List (Entry Tryz.prog)} (hP:qai 154 T=some e154.g) (hS:qai 124 T=some e124.g) {m pb k:Nat} {pre post:List AV} {g:List (Nat × Blk)} {t:Tr} (h:Eok m pb pre k 7 (t.map qa7) post g) {i:Nat} (hi:i < t.length) (h0:i≠0) (hu:(qa3 t (i:Int)).up = -1) :
  CallAt (ctx T) 126 [.ptr pb pre.length,.int .i64 (i:Int)] ⟨m,[VE pb pre k 7 (t.map qa7) post g]⟩ (.tup []) ⟨m,[VE pb pre k 7 (t.map qa7) post g]⟩:=by
 have hne:t≠[]:=by intro e;subst e;simp at hi
 have hne':t.map qa7≠[]:=by simpa using hne
 have hb:isB t (i:Int)=true:=by simp [isB,hi]
 have nf:∀ j,j < m→getF j ([]:List (Nat × Blk))=none:=fun _ _=>rfl
 have rdT:=fun n=>(qnj (n:=n) h nf).1
 have rdN:=fun n=>(qnj (n:=n) h nf).2
 have hk:∀ n,Heap.get ⟨n,[[],VE pb pre k 7 (t.map qa7) post g]⟩ k=some (.cells (qa4 (t.map qa7))):=fun n=>by
  simp only [Heap.get,getFs]
  rw [nf k h.lk.1,VE_k h hne']
 have kp:=fun n=>q154 hP (qhp hne (hk n)) hb hu
 have ks:=fun n=>q124 hS (qhp hne (hk n)) (i:Int)
 rw [hb] at ks
 have sU:qfu t i (-1)=t:=by
  have e:({ qa3 t i with up:=-1 }:Nd)=qa3 t i:=by rw [← hu]
  unfold qfu
  rw [e,← qe3 hi]
 have hw:=fun n=>qvp (n:=n) h hi (-1) nf
 rw [sU] at hw
 have ix:qat Tryz.prog 22 (qdk k 7 (t.map qa7)) (.int .i64 (i:Int))=some (.ptr k (i * 7)):=by
  rw [qcb hne']
  simp [qat,qbs hi]
 have hfit:=fit_W (H:=⟨m,[[],VE pb pre k 7 (t.map qa7) post g]⟩) h (Nat.le_refl m) hne' (qbp t) (by
  simp only [Heap.get,getFs]
  rw [nf pb h.lp,VE_p]) (hk m) (fun e he=>by
   have nd:=h.nd
   rw [List.nodup_cons] at nd
   have e1:pb≠e.1:=fun x=>nd.1 (List.mem_map.2 ⟨e,he,x.symm⟩)
   have e2:k≠e.1:=fun x=>h.lk.2 (by rw [x];exact List.mem_cons_of_mem _ (List.mem_map.2 ⟨e,he,rfl⟩))
   simp [Heap.get,getFs,VE,qc4 hne',getF,qao e1,qao e2,qpb nd.2 he])
 refine qa2 (fn:=Tryz.f126) (s0:=⟨[0,1,4,5],[.ptr pb pre.length,.int .i64 (i:Int),.undef,.undef],[],54,⟨m,[]::[VE pb pre k 7 (t.map qa7) post g]⟩⟩) Tryz.func126 rfl rfl rfl ?_
 repeat apply wq
 refine qa0 qa1 ?_
 simp [zS,rdT,kp]
 repeat apply wq
 refine qa0 qa1 ?_
 simp [zS]
 refine qam rfl ?_
 refine qa9 ?_
 simp
 repeat apply wq
 refine qa0 qa1 ?_
 simp [zS,rdT,ks,h0]
 refine qan rfl ?_
 refine qa0 qa1 ?_
 simp [zS,rdN,ix,hw]
 refine ⟨_,rfl,_,_,?_,hfit⟩
 simp [oneOr,qar,qb1]
theorem qhh (L:List Int):Elems 1 (L.map qb6):=.map (sz:=1) (f:=qb6) (by decide) (fun x=>⟨rfl,by simp [qb6,AV.cells,qac,qah],fun _=>rfl,fun h=>absurd rfl h⟩) L
theorem qpl:∀ (L:List Int),allSingle (qa4 (L.map qb6))=true
 | []=>rfl
 | a::r=>by simp only [List.map_cons,qa4,qd2,qpl r];rfl
theorem c128 {T:List (Entry Tryz.prog)} (L:List Int) (hl:L.length≤1000000):CallAt (ctx T) 128 [qbh L] ⟨0,[]⟩ (qdk 0 1 (L.map qb6)) ⟨1,[qes 0 (L.map qb6)]⟩:=by
 have happ:=qs0 (P:=Tryz.prog) (elem:=3) (b:=0) (m:=1) (es:=L.map qb6) (g:=[]) (fs:=[]) szT3 byT3 zeT3 rfl (by omega) (by omega) (qhh _) (qpl _) (by simp;omega)
 cases L with
 | nil=>
  refine qa2 (fn:=Tryz.f128) (s0:=⟨[0,2],[.fslc 1 [],.undef],[],8,⟨0,[[]]⟩⟩) Tryz.func128 rfl rfl rfl ?_
  repeat apply wq
  refine qa0 qa1 ?_
  simp [zS]
  refine qn1 (pre:=[]) ?_ ?_
  ·repeat apply wq
   refine qa0 qa1 ?_
   simp [zS]
   refine qan rfl ?_
   repeat apply wq
   refine qa0 qa1 ?_
   simp [zS]
   refine qa8 ?_
   simp [qad,Tryz.f128,oneOr]
   exact qic (.inl rfl)
  ·repeat apply wq
   refine qa0 qa1 ?_
   simp [zS]
   refine qam rfl ?_
   refine qa9 ?_
   simp
   have happ:qbz Tryz.prog ⟨1,[[(0,.cells [])]]⟩ 3 (.slc 0 0 0 (.ex 0)) .eslc=some (.slc 0 0 0 (.ex 0),⟨1,[[(0,.cells [])]]⟩):=rfl
   repeat apply wq
   refine qa0 qa1 ?_
   simp [zS,happ]
   refine qa8 ?_
   simp [qad,Tryz.f128,oneOr]
   exact qic (.inr (.inr ⟨_,rfl⟩))
 | cons x r=>
  have e1:litV 0 1 1 ((x::r).map qb6)=.slc 1 0 (r.length+1) (.rest 1):=by simp [litV]
  have e2:qu8 ⟨1,[[(0,.cells [])]]⟩ ((x::r).map qb6)=⟨2,[[(1,.cells (qa4 ((x::r).map qb6))),(0,.cells [])]]⟩:=rfl
  rw [e1,e2] at happ
  refine qa2 (fn:=Tryz.f128) (s0:=⟨[0,2],[qbh (x::r),.undef],[],8,⟨0,[[]]⟩⟩) Tryz.func128 rfl rfl rfl ?_
  repeat apply wq
  refine qa0 qa1 ?_
  simp [zS,qbh]
  repeat apply wq
  refine qa0 qa1 ?_
  simp [zS,qbh]
  refine qam rfl ?_
  refine qa9 ?_
  simp
  simp only [List.map_cons] at happ
  repeat apply wq
  refine qa0 qa1 ?_
  simp [zS,happ]
  refine qa8 ?_
  simp [qad,Tryz.f128,oneOr]
  exact qmx (b:=1) (es:=(x::r).map qb6) (qhh _) (by simp) (by simp) (by simp [Heap.get,getFs,getF])
noncomputable def e128:Entry Tryz.prog:=mkOwn 128 [[1]] (fun L:List Int=>[qbh L]) (fun L=>L.length≤1000000) 1 (fun L=>L.map qb6) qhh fun L hl=>c128 (T:=[]) L hl
theorem k128 {T:List (Entry Tryz.prog)} (hT:qai 128 T=some e128.g) {L:List Int} (hl:L.length≤1000000) (H:Heap):qbb (ctx T) (.fn 128) [qbh L] H=some (qdk H.n 1 (L.map qb6),qu8 H (L.map qb6)):=
 qwp hT (fun x y h=>by simp only [List.cons.injEq] at h;exact qob h.1) L hl (by simp [qac]) (by simp [qau]) H
theorem fit_ins {row row':List AV} {x:AV} (hp:qac row'=true) (hx:qah x=true) (he:row=row'):FitH 2 (idn 3) [] ⟨3,[[(2,.cells row)],[(1,.cells [x])]]⟩ ⟨3,[[(2,.cells row'),(1,.cells [x])]]⟩:=by
 subst he
 refine ⟨by simpa using qm4 3,qi8 3,by simp [Heap.ents],?_,?_,by show 2≤3;omega,?_,fun x h=>by cases h⟩
 ·intro y hy
  obtain ⟨i,hi,rfl⟩:=List.mem_map.1 hy
  simpa using hi
 ·intro y hy hlt
  obtain ⟨i,hi,rfl⟩:=List.mem_map.1 hy
  rfl
 ·intro e he
  simp only [Heap.ents,List.flatten_cons,List.flatten_nil,List.append_nil,List.mem_cons,List.not_mem_nil,or_false] at he
  rcases he with rfl | rfl
  ·exact ⟨2,.cells row,qe1 (by omega),by simp [Heap.get,getFs,getF],by show qb1 _ _ _ _;exact qaj hp⟩
  ·exact ⟨1,.cells [x],qe1 (by omega),by simp [Heap.get,getFs,getF],by show qb1 _ _ _ _;exact qaj (by simp [qac,hx])⟩
theorem c127 {T:List (Entry Tryz.prog)} (L:List Int) (x:Int) (hl:L.length≤1000000) :
  CallAt (ctx T) 127 [qdk 0 1 (L.map qb6),.int .i64 (L.length:Int),.slc 1 0 1 (.ex 1)] ⟨2,[qes 0 (L.map qb6)++[(1,.cells [.int .i64 x])]]⟩ (.slc 2 0 (L.length+1) (.rest 1)) ⟨3,[[(2,.cells (qa4 ((L++[x]).map qb6))),(1,.cells [.int .i64 x])]]⟩:=by
 have happ:=qgk (P:=Tryz.prog) (H:=⟨2,[[],qes 0 (L.map qb6)++[(1,.cells [.int .i64 x])]]⟩) (elem:=3) (b:=0) (n:=0) (es:=L.map qb6) (x:=.slc 1 0 1 (.ex 1)) (cs:=[.int .i64 x]) szT3 byT3 zeT3 rfl (by omega) (by omega) rfl
  (by cases L <;> simp [qb4,readCells,Heap.get,getFs,getF,qes,qek,qef,Blk.rd]) rfl rfl (qhh L) (by simp;omega)
  (fun h=>by cases L with
   | nil=>exact absurd rfl h
   | cons y r=>simp [Heap.get,getFs,getF,qes])
  (fun h=>by cases L with
   | nil=>rfl
   | cons y r=>cases h) (fun _=>rfl)
 have er:qa4 ((L++[x]).map qb6)=qa4 (L.map qb6)++[.int .i64 x]:=by
  rw [List.map_append,qbm];simp [qa4,qb6,AV.cells]
 have hp:qac (qa4 ((L++[x]).map qb6))=true:=(qhh _).pure
 rw [er] at hp ⊢
 have hfit:=fit_ins (x:=.int .i64 x) hp rfl rfl
 generalize hR:qa4 (L.map qb6)++[AV.int .i64 x]=R at *
 cases L with
 | nil=>
  replace happ:qbz Tryz.prog ⟨2,[[],[(1,.cells [.int .i64 x])]]⟩ 3 .zslc (.slc 1 0 1 (.ex 1))=some (.slc 2 0 1 (.rest 1),⟨3,[[(2,.cells R)],[(1,.cells [.int .i64 x])]]⟩):=happ
  refine qa2 (fn:=Tryz.f127) (s0:=⟨[0,1,2,6,7,8,9],[.zslc,.int .i64 0,.slc 1 0 1 (.ex 1),.undef,.undef,.undef,.undef],[],95,⟨2,[]::[[(1,.cells [.int .i64 x])]]⟩⟩) Tryz.func127 rfl rfl rfl ?_
  have s0:∀ H,qdu Tryz.prog H 30 .zslc (some (.int .i64 0)) none none=some .zslc:=fun _=>rfl
  have l0:∀ H,qeu Tryz.prog H 30 .zslc=some 0:=fun _=>rfl
  have l1:∀ H,qeu Tryz.prog H 30 (.slc 1 0 1 (.ex 1))=some 1:=fun _=>rfl
  repeat apply wq
  refine qa0 qa1 ?_
  simp [zS]
  repeat apply wq
  refine qa0 qa1 ?_
  simp [zS,s0]
  repeat apply wq
  refine qa0 qa1 ?_
  simp [zS,l1]
  repeat apply wq
  refine qa0 qa1 ?_
  simp [zS]
  refine qam rfl ?_
  refine qa9 ?_
  simp
  repeat apply wq
  refine qa0 qa1 ?_
  simp [zS,l0]
  repeat apply wq
  refine qa0 qa1 ?_
  simp [zS]
  refine qan rfl ?_
  repeat apply wq
  refine qa0 qa1 ?_
  simp [zS,happ]
  refine qa8 ?_
  simp [qad,Tryz.f127,oneOr]
  refine ⟨_,_,?_,hfit⟩
  simp [qar,qcf (show 2 < 3 by omega)]
 | cons y r=>
  have hlen:(qa4 ((y::r).map qb6)).length=r.length+1:=by rw [(qhh _).len];simp
  have hlen':(qa4 (qb6 y::r.map qb6)).length=r.length+1:=hlen
  have happ':qbz Tryz.prog ⟨2,[[],[(0,.cells (qa4 (qb6 y::r.map qb6))),(1,.cells [.int .i64 x])]]⟩ 3 (.slc 0 0 (r.length+1) (.rest 1)) (.slc 1 0 1 (.ex 1))=some (.slc 2 0 (r.length+1+1) (.rest 1),⟨3,[[(2,.cells R)],[(1,.cells [.int .i64 x])]]⟩):=by
   have e:qdk 0 1 ((y::r).map qb6)=.slc 0 0 (r.length+1) (.rest 1):=by simp [qdk]
   rw [e] at happ
   simpa [qes,Heap.drop,qdz,killF,getF,Heap.new,pushF] using happ
  obtain ⟨v,hv⟩ : ∃ v,qdu Tryz.prog ⟨2,[[],[(0,.cells (qa4 (qb6 y::r.map qb6))),(1,.cells [.int .i64 x])]]⟩ 30 (.slc 0 0 (r.length+1) (.rest 1)) (some (.int .i64 ((r.length:Int)+1))) none none=some v:=by
   have ix:=qbs (show r.length+1 < Nat.succ (r.length+1) by omega)
   rw [Int.natCast_add] at ix
   simp only [Int.natCast_one] at ix
   have bl:Nat.ble (r.length+1) (r.length+1)=true:=by rw [Nat.ble_eq];exact Nat.le_refl _
   simp [qdu,qza,qix,qci,Heap.get,getFs,getF,Blk.rd,hlen',qcq,ix,bl]
  have l0:∀ H,qeu Tryz.prog H 30 (.slc 0 0 (r.length+1) (.rest 1))=some (r.length+1):=fun _=>rfl
  have l1:∀ H,qeu Tryz.prog H 30 (.slc 1 0 1 (.ex 1))=some 1:=fun _=>rfl
  have eV:qdk 0 1 ((y::r).map qb6)=.slc 0 0 (r.length+1) (.rest 1):=by simp [qdk]
  have eL:((y::r).length:Int)=(r.length:Int)+1:=by simp
  rw [eV,eL]
  refine qa2 (fn:=Tryz.f127) (s0:=⟨[0,1,2,6,7,8,9],[.slc 0 0 (r.length+1) (.rest 1),.int .i64 ((r.length:Int)+1),.slc 1 0 1 (.ex 1),.undef,.undef,.undef,.undef],[],95,⟨2,[]::[[(0,.cells (qa4 (qb6 y::r.map qb6))),(1,.cells [.int .i64 x])]]⟩⟩) Tryz.func127 rfl rfl rfl ?_
  repeat apply wq
  refine qa0 qa1 ?_
  simp [zS]
  repeat apply wq
  refine qa0 qa1 ?_
  simp [zS,hv]
  repeat apply wq
  refine qa0 qa1 ?_
  simp [zS,l1]
  repeat apply wq
  refine qa0 qa1 ?_
  simp [zS]
  refine qam rfl ?_
  refine qa9 ?_
  simp
  repeat apply wq
  refine qa0 qa1 ?_
  simp [zS,l0]
  repeat apply wq
  refine qa0 qa1 ?_
  simp [zS]
  refine qan rfl ?_
  repeat apply wq
  refine qa0 qa1 ?_
  simp [zS,happ']
  refine qa8 ?_
  simp [qad,Tryz.f127,oneOr]
  refine ⟨_,_,?_,hfit⟩
  simp [qar,qcf (show 2 < 3 by omega)]
mutual
theorem zcf {σ:List (Nat × Nat)} {Φ:List (Nat × List AV)}:∀ (a b:AV),qar σ [] a b→qar σ Φ a b
 | .undef,b,h=>by cases b <;> simp_all [qar,qc5]
 | .bool _,b,h=>by cases b <;> simp_all [qar,qc5]
 | .int _ _,b,h=>by cases b <;> simp_all [qar,qc5]
 | .float _ _,b,h=>by cases b <;> simp_all [qar,qc5]
 | .cplx _ _ _,b,h=>by cases b <;> simp_all [qar,qc5]
 | .str _,b,h=>by cases b <;> simp_all [qar,qc5]
 | .nilP,b,h=>by cases b <;> simp_all [qar,qc5]
 | .ptr _ _,b,h=>by cases b <;> simp_all [qar,qc5]
 | .fptr _ _,b,h=>by cases b <;> simp_all [qar,qc5]
 | .nilS,b,h=>by cases b <;> simp_all [qar,qc5]
 | .eslc,b,h=>by cases b <;> simp_all [qar,qc5]
 | .zslc,b,h=>by cases b <;> simp_all [qar,qc5]
 | .slc _ _ _ _,b,h=>by cases b <;> simp_all [qar,qc5]
 | .fslc _ _,b,h=>by cases b <;> simp_all [qar,qc5]
 | .xslc _ _,b,h=>by cases b <;> simp_all [qar,qc5]
 | .nilM,b,h=>by cases b <;> simp_all [qar,qc5]
 | .map _,b,h=>by cases b <;> simp_all [qar,qc5]
 | .nilF,b,h=>by cases b <;> simp_all [qar,qc5]
 | .nilI,b,h=>by cases b <;> simp_all [qar,qc5]
 | .iface _ _,b,h=>by cases b <;> simp_all [qar,qc5]
 | .yld _,b,h=>by cases b <;> simp_all [qar,qc5]
 | .zptr _ _,b,h=>by cases b <;> simp_all [qar,qc5]
 | .val _,b,h=>by cases b <;> simp_all [qar,qc5]
 | .agg xs,b,h=>by
  cases b with
  | agg ys=>
   simp only [qar] at h ⊢
   exact h.imp (qdh xs ys) id
  | undef=>simp [qar]
  | _=>simp [qar] at h
 | .tup xs,b,h=>by
  cases b with
  | tup ys=>
   simp only [qar] at h ⊢
   exact h.imp (qdh xs ys) id
  | undef=>simp [qar]
  | _=>simp [qar] at h
 | .func f x y,b,h=>by
  cases b with
  | func f' x' y'=>
   simp only [qar] at h ⊢
   exact h.imp (fun ⟨h1,h2,h3⟩=>⟨h1,qdh x x' h2,qdh y y' h3⟩) id
  | undef=>simp [qar]
  | _=>simp [qar] at h
theorem qdh {σ:List (Nat × Nat)} {Φ:List (Nat × List AV)}:∀ (a b:List AV),qb1 σ [] a b→qb1 σ Φ a b
 | [],b,h=>by simpa [qb1] using h
 | x::r,[],h=>by simp [qb1] at h
 | x::r,y::s,h=>by
  simp only [qb1] at h ⊢
  exact ⟨zcf x y h.1,qdh r s h.2⟩
end
theorem zch {σ:List (Nat × Nat)} {Φ:List (Nat × List AV)} {k k':Blk} (h:qh6 σ [] k k'):qh6 σ Φ k k':=by
 cases k <;> cases k' <;> simp only [qh6] at h ⊢
 ·exact qdh _ _ h
 ·exact ⟨qdh _ _ h.1,qdh _ _ h.2⟩
 ·exact ⟨h.1,qdh _ _ h.2⟩
 ·exact ⟨h.1,h.2.1,h.2.2.1,qdh _ _ h.2.2.2⟩
 ·exact h
 ·exact h
 ·obtain ⟨h1,h2,h3,h4,h5⟩:=h
  exact ⟨h1,h2,h3,qdh _ _ h4,h5⟩
theorem fit_K {m m' pb k sz c:Nat} {pre post es es' cs0 K:List AV} {g:List (Nat × Blk)} {H:Heap} (h:Eok m pb pre k sz es post g) (hm:m≤m') (hc:m≤c) (hne:es'≠[]) (hp:H.get pb=some (.cells (pre++qdk k sz es'::post)))
  (hcs:∀ σ,qb1 σ [(c,K)] cs0 (qa4 es')) (hk:H.get k=some (.cells cs0)) (hK:H.get c=some (.cells K)) (pK:qac K=true)
  (hg:∀ e,e∈g→H.get e.1=some e.2):FitH m (idn m) [(c,K)] H ⟨m',[[],VE pb pre k sz es' post g]⟩:=by
 have idl:=qjs m
 have nd:=h.nd
 have hkk:=h.lk.2
 simp only [List.mem_cons,not_or] at hkk
 rw [List.nodup_cons] at nd
 refine ⟨?_,qi8 m,?_,?_,?_,hm,?_,?_⟩
 ·have e1:(idn m).map (·.1)=List.range m:=by simp [idn,Function.comp_def]
  rw [e1,List.nodup_append]
  refine ⟨List.nodup_range,by simp,fun a ha b hb=>?_⟩
  simp only [List.map_cons,List.map_nil,List.mem_singleton] at hb
  have:a < m:=by simpa using ha
  omega
 ·simp only [Heap.ents,List.flatten_cons,List.flatten_nil,List.append_nil,List.nil_append,VE,qc4 hne,List.map_cons,List.map_append,List.map_nil,List.cons_append,List.nodup_cons,List.mem_cons,not_or]
  exact ⟨⟨fun e=>hkk.1 e.symm,nd.1⟩,hkk.2,nd.2⟩
 ·intro x hx
  obtain ⟨i,hi,rfl⟩:=List.mem_map.1 hx
  have:i < m:=by simpa using hi
  show i < m';omega
 ·intro x hx hlt
  obtain ⟨i,hi,rfl⟩:=List.mem_map.1 hx
  rfl
 ·intro e he
  simp only [Heap.ents,List.flatten_cons,List.flatten_nil,List.append_nil,List.nil_append,VE,qc4 hne,List.cons_append,List.mem_cons] at he
  rcases he with rfl | rfl | he
  ·refine ⟨pb,_,qe1 h.lp,hp,?_⟩
   show qb1 _ _ _ _
   rw [qcb hne]
   refine qdo (qdh _ _ (h.sp _ idl)) ?_
   simp only [qb1]
   exact ⟨by simp [qar,qcf h.lk.1],qdh _ _ (h.sq _ idl)⟩
  ·exact ⟨k,.cells cs0,qe1 h.lk.1,hk,hcs _⟩
  ·exact ⟨e.1,e.2,qe1 (h.lg e he),hg e he,zch (h.sg e he _ idl)⟩
 ·intro x hx
  simp only [List.mem_singleton] at hx
  subst hx
  exact ⟨K,hK,qaj pK,pK⟩
def qcn (t:Tr) (i:Nat) (K:List Int):Tr:=t.take i++{ qa3 t i with kids:=K }::t.drop (i+1)
theorem qdb {t:Tr} {i:Nat} (h:i < t.length) (K:List Int):(qcn t i K).length=t.length:=by
 simp [qcn];omega
def qhg (t:Tr) (i:Nat) (v:AV):List AV:=(qa4 ((t.take i).map qa7)++[qb6 (qa3 t i).kind,qb6 (qa3 t i).space,.str (qa3 t i).name,qak (qa3 t i).attrs,.str (qa3 t i).data,qb6 (qa3 t i).up])++[v]++qa4 ((t.drop (i+1)).map qa7)
theorem lay_kids {t:Tr} {i:Nat} (h:i < t.length) (v:AV):qge [v] (i * 7+6) (qa4 (t.map qa7))=some (qhg t i v):=by
 have hl:(qa4 ((t.take i).map qa7)).length=i * 7:=by rw [(qbp _).len];simp;omega
 have e1:qa4 (t.map qa7)=qhg t i (qbh (qa3 t i).kids):=by
  conv=>lhs;rw [qe3 h]
  simp [qbm,qa4,Nd.cs,qhg]
 rw [e1]
 have:=qg1 (a:=qa4 ((t.take i).map qa7)++[qb6 (qa3 t i).kind,qb6 (qa3 t i).space,.str (qa3 t i).name,qak (qa3 t i).attrs,.str (qa3 t i).data,qb6 (qa3 t i).up]) (b:=[qbh (qa3 t i).kids]) (b':=[v]) (c:=qa4 ((t.drop (i+1)).map qa7)) rfl
 rw [List.length_append,hl] at this
 exact this
theorem qmt:∀ (K:List Int),qa4 (K.map qb6)=K.map qb6
 | []=>rfl
 | x::r=>by simp only [List.map_cons,qa4,qmt r,qyy,List.cons_append,List.nil_append]
theorem fit_kids {t:Tr} {i c:Nat} {K:List Int} (σ:List (Nat × Nat)):qb1 σ [(c,K.map qb6)] (qhg t i (.slc c 0 K.length (.rest 1))) (qa4 ((qcn t i K).map qa7)):=by
 have e2:qa4 ((qcn t i K).map qa7)=qhg t i (qbh K):=by
  simp [qcn,qbm,qa4,Nd.cs,qb6,qhg]
 have ef:qa4 (K.map qb6)=K.map qb6:=qmt K
 rw [e2]
 unfold qhg
 refine qdo (qdo ?_ ?_) (qaj (qbp _).pure)
 ·exact qdo (qaj (qbp _).pure) (qaj (by simp [qac,qah,qb6]))
 ·have hs:qek 0 (K.length * 1) (K.map qb6)=some (qa4 (K.map qb6)):=by
   have:=qn9 (qhh K) (Nat.le_refl _)
   rw [List.take_of_length_le (Nat.le_refl _),List.length_map] at this
   rwa [ef] at this ⊢
  simp only [qb1,and_true]
  simp only [qar]
  exact .inl ⟨K.map qb6,by simp [qc5],hs,by simp,(qhh K).size⟩
section
variable {m n pb k sz:Nat} {pre post es:List AV} {g f:List (Nat × Blk)}
theorem VE_nd (h:Eok m pb pre k sz es post g):((VE pb pre k sz es post g).map (·.1)).Nodup:=by
 have nd:=h.nd
 rw [List.nodup_cons] at nd
 have hk:=h.lk.2
 simp only [List.mem_cons,not_or] at hk
 unfold VE
 cases es with
 | nil=>simpa [qes] using nd
 | cons x r=>
  simp only [qes,List.map_cons,List.cons_append,List.nil_append,List.nodup_cons,List.mem_cons,not_or]
  exact ⟨⟨fun e=>hk.1 e.symm,nd.1⟩,hk.2,nd.2⟩
theorem VE_all (h:Eok m pb pre k sz es post g):∀ e,e∈VE pb pre k sz es post g→e.1 < m∧SelfB m e.2:=by
 intro e he
 unfold VE at he
 rw [List.mem_cons,List.mem_append] at he
 rcases he with rfl | he | he
 ·refine ⟨h.lp,fun σ hσ=>?_⟩
  show qb1 _ _ _ _
  refine qdo (h.sp σ hσ) ?_
  simp only [qb1]
  refine ⟨?_,h.sq σ hσ⟩
  cases es with
  | nil=>simp [qdk,qar]
  | cons x r=>
   rw [qcb (by simp)]
   simp [qar,hσ k h.lk.1]
 ·cases es with
  | nil=>cases he
  | cons x r=>
   simp only [qes,List.mem_singleton] at he
   subst he
   exact ⟨h.lk.1,qkb h.el.pure⟩
 ·exact ⟨h.lg e he,h.sg e he⟩
theorem fit_any {N:Nat} {H H':Heap} (hN:N≤m) (nd:(H'.ents.map (·.1)).Nodup) (ha:∀ e,e∈H'.ents→e.1 < m∧SelfB m e.2∧H.get e.1=some e.2) (hn:m≤H'.n):FitH N (idn m) [] H H' where
 nd1:=by simpa using qm4 m
 nd2:=qi8 m
 nd3:=nd
 lt:=fun x hx=>by
  obtain ⟨i,hi,rfl⟩:=List.mem_map.1 hx
  have:i < m:=by simpa using hi
  show i < H'.n;omega
 idn:=fun x hx hlt=>by
  obtain ⟨i,hi,rfl⟩:=List.mem_map.1 hx
  rfl
 num:=Nat.le_trans hN hn
 src:=fun e he=>by
  obtain ⟨h1,h2,h3⟩:=ha e he
  exact ⟨e.1,e.2,qe1 h1,h3,h2 _ (qjs m)⟩
 frz:=fun x h=>by cases h
theorem zce {N m':Nat} (h:Eok m pb pre k sz es post g) (hN:N≤m) (hm:m≤m') (hf:∀ i,i < m→getF i f=none):FitH N (idn m) [] ⟨n,[f,VE pb pre k sz es post g]⟩ ⟨m',[[],VE pb pre k sz es post g]⟩:=by
 refine fit_any hN (by simpa [Heap.ents] using VE_nd h) (fun e he=>?_) hm
 simp only [Heap.ents,List.flatten_cons,List.flatten_nil,List.append_nil,List.nil_append] at he
 obtain ⟨h1,h2⟩:=VE_all h e he
 refine ⟨h1,h2,?_⟩
 simp only [Heap.get,getFs]
 rw [hf _ h1,qpb (VE_nd h) he]
end
structure FactR (C:Ctx) where
 b:Nat
 args:List AV
 H:Heap
 v:AV
 H':Heap
 ok:qhe C b args H v H'
open Classical in
noncomputable def qvd {C:Ctx}:List (FactR C)→qc0→qc0
 | [],call,c,args,H=>call c args H
 | x::r,call,c,args,H=>if c=.yl x.b∧args=x.args∧H=x.H then some (x.v,x.H') else qvd r call c args H
theorem qrv {C:Ctx} {call:qc0} (hc:CallOK C call):∀ (l:List (FactR C)),CallOK C (qvd l call)
 | []=>hc
 | x::r=>{
  fn:=fun f args H v H' h=>by
   unfold qvd at h
   split at h
   ·rename_i hx
    cases hx.1
   ·exact (qrv hc r).fn f args H v H' h
  yl:=fun b args H v H' h=>by
   unfold qvd at h
   split at h
   ·rename_i hx
    obtain ⟨hf,rfl,rfl⟩:=hx
    simp only [sj,Prod.mk.injEq] at h
    obtain ⟨rfl,rfl⟩:=h
    cases hf
    exact x.ok
   ·exact (qrv hc r).yl b args H v H' h }
theorem zd8 {T:List (Entry Tryz.prog)} (l:List (FactR (ctx T))):CallOK (ctx T) (qvd l (qbb (ctx T))):=qrv qa1 l
theorem qu0 {C:Ctx} {b:Nat} {args:List AV} {H H':Heap} {v:AV} {ok:qhe C b args H v H'} {r:List (FactR C)} {call:qc0}:qvd (⟨b,args,H,v,H',ok⟩::r) call (.yl b) args H=some (v,H'):=by simp [qvd]
section
variable {C:Ctx} {call:qc0} {ops:Array Oper} {H0:Heap} {s:St} {o:Oper} {l:List Oper} {P:St→Prop}
end
theorem qlg {b k:Nat} {x:Blk} (h:k≠b):getF b [(k,x)]=none:=by unfold getF;rw [qao h];rfl
structure FactP (C:Ctx) where
 f:FuncId
 args:List AV
 v:AV
 pure:qac args=true
 ok:CallAt C f args ⟨0,[]⟩ v ⟨0,[]⟩
open Classical in
noncomputable def qme {C:Ctx}:List (FactP C)→qc0→qc0
 | [],call,c,args,H=>call c args H
 | x::r,call,c,args,H=>if c=.fn x.f∧args=x.args then some (x.v,H) else qme r call c args H
theorem qrw {C:Ctx} {call:qc0} (hc:CallOK C call):∀ (l:List (FactP C)),CallOK C (qme l call)
 | []=>hc
 | x::r=>{
  fn:=fun f args H v H' h=>by
   unfold qme at h
   split at h
   ·rename_i hx
    obtain ⟨hf,rfl⟩:=hx
    simp only [sj,Prod.mk.injEq] at h
    obtain ⟨rfl,rfl⟩:=h
    cases hf
    exact x.ok.lift x.pure _
   ·exact (qrw hc r).fn f args H v H' h
  yl:=fun b args H v H' h=>by
   unfold qme at h
   split at h
   ·rename_i hx
    cases hx.1
   ·exact (qrw hc r).yl b args H v H' h }
theorem qh8 {T:List (Entry Tryz.prog)} (l:List (FactP (ctx T))):CallOK (ctx T) (qme l (qbb (ctx T))):=qrw qa1 l
theorem qfp {C:Ctx} {f:FuncId} {args:List AV} {H:Heap} {v:AV} {hp:qac args=true} {ok:CallAt C f args ⟨0,[]⟩ v ⟨0,[]⟩} {r:List (FactP C)} {call:qc0}:qme (⟨f,args,v,hp,ok⟩::r) call (.fn f) args H=some (v,H):=by simp [qme]
def rgIn:Code→Option (Code × Code)
 | .rangeFunc _ _ a b=>some (a,b)
 | .seq a b=>match rgIn a with
  | some x=>some x
  | none=>rgIn b
 | .block _ b=>rgIn b
 | .loop b=>rgIn b
 | .cond _ a b=>match rgIn a with
  | some x=>some x
  | none=>rgIn b
 | _=>none
def rgA (o:Option Code):Code:=match o.bind rgIn with
 | some x=>x.1
 | none=>.skip
def rgB (o:Option Code):Code:=match o.bind rgIn with
 | some x=>x.2
 | none=>.skip
def rowsB (b:Nat) (R:List (Nat × Blk)):Prop:=(R.map (·.1)).Nodup∧∀ e,e∈R→e.1 < b∧∃ cs,e.2=.cells cs∧qac cs=true
structure RgK where
 ks:List Nat
 vs:List AV
 sz:Nat
 ps:List Nat
 as':Code
 bd:Code
def RgK.blk (K:RgK) (st:LoopState) (pend:Option Code) (ts:List (Nat × AV)):Blk:=.loop st pend K.ks K.vs ts K.sz K.ps K.as' K.bd
def RgK.rows {ρ:Type} (K:RgK) (b:Nat) (R:Option ρ→List (Nat × Blk)):Option ρ→List (Nat × Blk)
 | none=>(b,K.blk .ready none [])::R none
 | some r=>(b,K.blk .done (some .ret) [])::R (some r)
structure RgK.Ok {ρ:Type} (K:RgK) (b:Nat) (R:Option ρ→List (Nat × Blk)):Prop where
 vs:∀ σ,Idl b σ→qb1 σ [] K.vs K.vs
 rows:∀ c,rowsB b (R c)
section
variable {ρ:Type} {K:RgK} {b:Nat} {R:Option ρ→List (Nat × Blk)}
theorem RgK.Ok.self (h:K.Ok b R) (st:LoopState) (pend:Option Code) (ts:List (Nat × AV)):∀ σ,Idl (b+1) σ→qh6 σ [] (K.blk st pend ts) (K.blk st pend []):=fun σ hσ=>
 ⟨rfl,rfl,rfl,h.vs σ fun i hi=>hσ i (by omega),rfl,rfl,rfl,rfl,rfl⟩
theorem RgK.Ok.fit (h:K.Ok b R) {N m:Nat} {st:LoopState} {pend:Option Code} {ts:List (Nat × AV)} {c:Option ρ} {H:Heap} (hN:N≤b+1) (hm:b+1≤m) (hb:H.get b=some (K.blk st pend ts)) (hr:∀ e,e∈R c→H.get e.1=some e.2)
  {fs:List (List (Nat × Blk))} (hfs:fs.flatten=(b,K.blk st pend [])::R c):FitH N (idn (b+1)) [] H ⟨m,fs⟩ where
 nd1:=by simpa using qm4 (b+1)
 nd2:=qi8 (b+1)
 nd3:=by
  simp only [Heap.ents,hfs,List.map_cons,List.nodup_cons]
  refine ⟨fun hx=>?_,(h.rows c).1⟩
  obtain ⟨e,he,hx⟩:=List.mem_map.1 hx
  have:=((h.rows c).2 e he).1
  omega
 lt:=fun x hx=>by
  obtain ⟨i,hi,rfl⟩:=List.mem_map.1 hx
  have:i < b+1:=by simpa using hi
  show i < m;omega
 idn:=fun x hx hlt=>by
  obtain ⟨i,hi,rfl⟩:=List.mem_map.1 hx
  rfl
 num:=by show N≤m;omega
 src:=fun e he=>by
  simp only [Heap.ents,hfs,List.mem_cons] at he
  rcases he with rfl | he
  ·exact ⟨b,_,qe1 (Nat.lt_succ_self b),hb,h.self _ _ _ _ (qjs (b+1))⟩
  ·obtain ⟨h1,cs,h2,h3⟩:=(h.rows c).2 e he
   refine ⟨e.1,e.2,qe1 (by omega),hr e he,?_⟩
   rw [h2]
   exact qaj h3
 frz:=fun x h=>by cases h
def qz6 (go:Nat→Option ρ):Nat→Option ρ
 | 0=>none
 | j+1=>match go j with
  | some r=>some r
  | none=>qz6 go j
def qwi:Option ρ→Out
 | none=>.normal
 | some _=>.ret
theorem round_K {T:List (Entry Tryz.prog)} (h:K.Ok b R) {args:List AV} {g:Option ρ} {s1:St} (hp:qsn ⟨K.ks,K.vs,[],K.sz,⟨b+1,[[],[],(b,K.blk .ready none [])::R none]⟩⟩ K.ps args=some s1)
  (hw:∀ l,WpSr (ctx T) (b+1) (some l) K.as' s1 fun x s=>x=.normal∧∃ m f,s.H=⟨m,[f,[],(b,K.blk .ready none [])::R none]⟩∧getF b f=none ∧
   ∀ B,B=K.blk .busy none []→WpSr (ctx T) (b+1) (some l) K.bd { s with H:=⟨m,[f,[],(b,B)::R none]⟩ } fun x s'=>∃ m' f',(∀ i,i < b+1→getF i f'=none)∧s'.H=⟨m',[f',[],(b,B)::R g]⟩∧x=qwi g) :
  qhe (ctx T) b args ⟨b+1,[[],(b,K.blk .ready none [])::R none]⟩ (.bool g.isNone) ⟨b+1,[[],K.rows b R g]⟩:=by
 refine qs5 (pend:=none) (ks:=K.ks) (vs:=K.vs) (ts:=[]) (sz:=K.sz) (ps:=K.ps) (assign:=K.as') (body:=K.bd) (by simp [Heap.get,getFs,getF,RgK.blk]) hp fun l=>?_
 refine (hw l).mono fun x s hs=>?_
 obtain ⟨rfl,m,f,hH,hf,hb⟩:=hs
 refine ⟨rfl,none,K.ks,K.vs,[],K.sz,K.ps,K.as',K.bd,⟨m,[f,[],(b,K.blk .busy none [])::R none]⟩,?_,?_,(hb _ rfl).mono fun x s' hs'=>?_⟩
 ·rw [hH];simp [Heap.get,getFs,getF,hf,RgK.blk]
 ·rw [hH]
  have hn:setF b (K.blk .busy none []) f=none:=ql7 hf
  unfold RgK.blk at hn
  simp [Heap.set,setFs,setF,hn,RgK.blk]
 ·obtain ⟨m',f',hf',hH',rfl⟩:=hs'
  have hfb:=hf' b (Nat.lt_succ_self b)
  have hn:∀ k,setF b k f'=none:=fun k=>ql7 hfb
  refine ⟨.busy,none,K.ks,K.vs,[],K.sz,K.ps,K.as',K.bd,⟨m',[f',[],(b,K.blk (qgo (qwi g)).2.1 (qgo (qwi g)).2.2 [])::R g]⟩,?_,?_,?_,idn (b+1),[],?_⟩
  ·rw [hH'];simp [Heap.get,getFs,getF,hfb,RgK.blk]
  ·rw [hH'];simp [Heap.set,setFs,setF,hn,RgK.blk]
  ·cases g <;> rfl
  ·have hg:∀ e,e∈R g→Heap.get ⟨m',[f',[],(b,K.blk (qgo (qwi g)).2.1 (qgo (qwi g)).2.2 [])::R g]⟩ e.1=some e.2:=fun e he=>by
    have h1:=((h.rows g).2 e he).1
    have h2:Nat.beq b e.1=false:=qao (by omega)
    simp only [Heap.get,getFs,hf' e.1 (by omega),getF,h2]
    rw [qpb (h.rows g).1 he]
   refine h.fit (c:=g) (st:=(qgo (qwi g)).2.1) (pend:=(qgo (qwi g)).2.2) (ts:=[]) (Nat.le_refl _) (Nat.le_refl _) (by simp [Heap.get,getFs,getF,hfb]) hg ?_
   cases g <;> simp [RgK.rows,qwi,qgo]
end
def zdh (L:List Nd):AV:=.func (.func 199) [] [.fptr [qae L] 0]
theorem zag (L:List Nd):qah (zdh L)=true:=by simp [zdh,qah,qac]
theorem c193 {T:List (Entry Tryz.prog)} (L:List Nd):CallAt (ctx T) 193 [qae L] ⟨0,[]⟩ (zdh L) ⟨0,[]⟩:=by
 refine qa2 (fn:=Tryz.f193) (s0:=⟨[0,1,2],[qae L,.undef,.undef],[],4,⟨0,[[]]⟩⟩) Tryz.func193 rfl rfl rfl ?_
 repeat apply wq
 refine qa0 qa1 ?_
 simp [zS]
 repeat apply wq
 refine qa0 qa1 ?_
 simp [zS]
 refine qa8 ?_
 simp [qad,Tryz.f193,oneOr]
 refine ⟨[],[(0,[qae L])],by simp [zdh,qar,qb1,qc5],.froze (by simp) fun x hx=>?_⟩
 rw [List.mem_singleton] at hx
 subst hx
 exact ⟨[qae L],by simp [Heap.get,getFs,getF],qaj (by simp [qac]),by simp [qac]⟩
noncomputable def e193:Entry Tryz.prog:=mkE 193 [[7]] (fun L:List Nd=>[qae L]) (fun _=>True) zdh fun L _=>c193 (T:=[]) L
theorem k193 {T:List (Entry Tryz.prog)} (hT:qai 193 T=some e193.g) (L:List Nd) (H:Heap):qbb (ctx T) (.fn 193) [qae L] H=some (zdh L,H):=
 qdc hT (fun x y h=>by simp only [List.cons.injEq,and_true] at h;exact qe6 h) L trivial (by simp [qac]) (by simp [qew]) H
section
variable {ρ:Type} {K:RgK} {b:Nat} {R:Option ρ→List (Nat × Blk)}
theorem qz3 {T:List (Entry Tryz.prog)} (h:K.Ok b R) (L:List Nd) (hl:L.length≤1000000) (go:Nat→Option ρ) (hy:∀ j (hj:j < L.length),qhe (ctx T) b [.int .i64 (j:Int),qa7 L[j]] ⟨b+1,[[],(b,K.blk .ready none [])::R none]⟩ (.bool (go j).isNone) ⟨b+1,[[],K.rows b R (go j)]⟩) :
  CallAt (ctx T) 199 [.yld b,.fptr [qae L] 0] ⟨b+1,[(b,K.blk .ready none [])::R none]⟩ (.tup []) ⟨b+1,[K.rows b R (qz6 go L.length)]⟩:=by
 obtain ⟨w,hw⟩ : ∃ w:Int,w=(L.length:Int) - 1:=⟨_,rfl⟩
 have hws:wr .i64 ((L.length:Int) - 1)=some w:=by rw [hw];exact qep (by omega) (by omega)
 have lb:qay b (idn (b+1))=some b:=qcf (Nat.lt_succ_self b)
 have gb:∀ {c:Option ρ} {n:Nat},∀ e,e∈R c→Heap.get ⟨n,[[],K.rows b R c]⟩ e.1=some e.2:=fun {c n} e he=>by
  have h1:=((h.rows c).2 e he).1
  have h2:Nat.beq b e.1=false:=qao (by omega)
  cases c with
  | none=>simp only [Heap.get,getFs,getF,RgK.rows,h2];rw [qpb (h.rows _).1 he]
  | some r=>simp only [Heap.get,getFs,getF,RgK.rows,h2];rw [qpb (h.rows _).1 he]
 have lnL:∀ H,qeu Tryz.prog H 22 (qae L)=some L.length:=fun H=>qkl
 refine qa2 (fn:=Tryz.f199) (s0:=⟨[0,1,3],[.yld b,.fptr [qae L] 0,.undef],[],19,⟨b+1,[]::[(b,K.blk .ready none [])::R none]⟩⟩) Tryz.func199 rfl rfl rfl ?_
 repeat apply wq
 refine qa0 qa1 ?_
 simp [zS,lnL,hws]
 refine qab (qb7 (fun x:Nat × Int=>(⟨[0,1,3],[.yld b,.fptr [qae L] 0,.int .i64 x.2],[],19,⟨b+1,[[],(b,K.blk .ready none [])::R none]⟩⟩ : St))
  (fun x=>x.1≤L.length∧x.2=(x.1:Int) - 1∧qz6 go L.length=qz6 go x.1) (fun x=>x.1) (idn (b+1)) [] (L.length,w) ⟨Nat.le_refl _,hw,rfl⟩
  ⟨rfl,rfl,rfl,by simp [qb1,qar,qah,qac,lb],h.fit (c:=none) (st:=.ready) (pend:=none) (ts:=[]) (Nat.le_refl _) (Nat.le_refl _) (by simp [Heap.get,getFs,getF,RgK.rows]) (gb (c:=none)) (by simp)⟩ ?_)
 rintro ⟨j,v⟩ ⟨hj,hv,hx⟩ B hB
 simp only at hj hv hx
 cases j with
 | zero=>
  have hn:¬ 0≤v:=by omega
  repeat apply wq
  refine qa0 qa1 ?_
  simp [zS,hn]
  refine qam rfl ?_
  refine qaw ?_
  simp
  refine ⟨[],rfl,idn (b+1),[],by simp [oneOr,qar,qb1],?_⟩
  rw [hx]
  exact h.fit (c:=none) (st:=.ready) (pend:=none) (ts:=[]) (Nat.le_refl _) (Nat.le_refl _) (by simp [Heap.get,getFs,getF,RgK.rows]) (gb (c:=none)) (by simp [qz6,RgK.rows])
 | succ q=>
  have hvq:v=(q:Int):=by omega
  subst hvq
  have hq:q < L.length:=by omega
  have hyq:=hy q hq
  have hix:qat Tryz.prog 22 (qae L) (.int .i64 (q:Int))=some (.fptr (L[q]).cs 0):=by rw [atX (by omega) (by omega),qbi hq]
  have hn:(0:Int)≤(q:Int):=by omega
  have hs1:wr .i64 ((q:Int) - 1)=some ((q:Int) - 1):=qep (by omega) (by omega)
  simp only [qz6] at hx
  generalize L[q]=x at *
  repeat apply wq
  refine qa0 qa1 ?_
  simp [zS,hn]
  refine qan rfl ?_
  refine qa9 ?_
  simp
  repeat apply wq
  refine qab ?_
  obtain ⟨g,hg⟩ : ∃ g,go q=g:=⟨_,rfl⟩
  rw [hg] at hx hyq
  cases g with
  | some r=>
   simp only [Option.isNone_some] at hyq
   repeat apply wq
   refine qa0 (zd8 [⟨b,_,_,_,_,hyq⟩]) ?_
   simp [zS,hix,qb5,qu0]
   refine qan rfl ?_
   refine qa8 ?_
   simp [qaf,qa6]
   refine ⟨[],rfl,idn (b+1),[],by simp [oneOr,qar,qb1],?_⟩
   rw [hx]
   exact h.fit (c:=some r) (st:=.done) (pend:=some .ret) (ts:=[]) (Nat.le_refl _) (Nat.le_refl _) (by simp [Heap.get,getFs,getF,RgK.rows]) (gb (c:=some r)) (by simp [RgK.rows])
  | none=>
   simp only [Option.isNone_none] at hyq
   repeat apply wq
   refine qa0 (zd8 [⟨b,_,_,_,_,hyq⟩]) ?_
   simp [zS,hix,qb5,qu0]
   refine qam rfl ?_
   refine qa9 ?_
   simp
   refine qa0 qa1 ?_
   simp [zS,hs1]
   exact hB _ (q,(q:Int) - 1) (by simp) ⟨by simp only;omega,rfl,hx⟩ ⟨idn (b+1),[],rfl,rfl,rfl,by simp [qb1,qar,qah,qac,lb],h.fit (c:=none) (st:=.ready) (pend:=none) (ts:=[]) (Nat.le_refl _) (Nat.le_refl _) (by simp [Heap.get,getFs,getF,RgK.rows]) (gb (c:=none)) (by simp)⟩
theorem qvl {T:List (Entry Tryz.prog)} (h:K.Ok b R) (L:List Nd) {ts:List (Nat × AV)} {g:Operand} {ps:Array Nat} (hps:ps.toList=K.ps) (ho:qbk ⟨K.ks,K.vs,ts,K.sz,⟨b,[R none]⟩⟩ g=some (zdh L)) {r:Option ρ} {call:qc0}
  (hc:call (.fn 199) [.yld b,.fptr [qae L] 0] ⟨b+1,[(b,K.blk .ready none ts)::R none]⟩=some (.tup [],⟨b+1,[K.rows b R r]⟩)) :
  qgs (ctx T) call g ps K.as' K.bd ⟨K.ks,K.vs,ts,K.sz,⟨b,[R none]⟩⟩=some (qwi r,⟨K.ks,K.vs,ts,K.sz,⟨b+1,[R r]⟩⟩):=by
 have hent:qrr (ctx T) 199=true:=by kernel_rfl
 unfold qgs
 rw [ho]
 simp only [Option.bind_some,hent,zdh,hps]
 have e:call (.fn 199) ([]++[.yld b]++[.fptr [qae L] 0]) (Heap.new ⟨b,[R none]⟩ (.loop .ready none K.ks K.vs ts K.sz K.ps K.as' K.bd))=some (.tup [],⟨b+1,[K.rows b R r]⟩):=hc
 rw [e]
 cases r with
 | none=>simp [Heap.get,getFs,getF,RgK.rows,RgK.blk,qwi,St.wH,Heap.drop,qdz,killF]
 | some r=>simp [Heap.get,getFs,getF,RgK.rows,RgK.blk,qwi,St.wH,Heap.drop,qdz,killF,quu]
theorem qzi {T:List (Entry Tryz.prog)} (h:K.Ok b R) (L:List Nd) (hl:L.length≤1000000) (go:Nat→Option ρ) (hy:∀ j (hj:j < L.length),qhe (ctx T) b [.int .i64 (j:Int),qa7 L[j]] ⟨b+1,[[],(b,K.blk .ready none [])::R none]⟩ (.bool (go j).isNone) ⟨b+1,[[],K.rows b R (go j)]⟩)
  {ts:List (Nat × AV)} {g:Operand} {ps:Array Nat} (hps:ps.toList=K.ps) (ho:qbk ⟨K.ks,K.vs,ts,K.sz,⟨b,[R none]⟩⟩ g=some (zdh L)) {n:Nat} {Q:Out→St→Prop} (hq:Q (qwi (qz6 go L.length)) ⟨K.ks,K.vs,ts,K.sz,⟨b+1,[R (qz6 go L.length)]⟩⟩) :
  WpS (ctx T) n (.rangeFunc g ps K.as' K.bd) ⟨K.ks,K.vs,ts,K.sz,⟨b,[R none]⟩⟩ Q:=by
 have lb:qay b (idn (b+1))=some b:=qcf (Nat.lt_succ_self b)
 have hcall:CallAt (ctx T) 199 [.yld b,.fptr [qae L] 0] ⟨b+1,[(b,K.blk .ready none ts)::R none]⟩ (.tup []) ⟨b+1,[K.rows b R (qz6 go L.length)]⟩:=
  (qz3 h L hl go hy).drop (σ:=idn (b+1)) (Φ:=[]) (fun _=>h.fit (c:=none) (st:=.ready) (pend:=none) (ts:=ts) (Nat.le_refl _) (Nat.le_refl _) (by simp [Heap.get,getFs,getF]) (fun e he=>by
   have h1:=((h.rows none).2 e he).1
   have h2:Nat.beq b e.1=false:=qao (by omega)
   simp only [Heap.get,getFs,getF,h2];rw [qpb (h.rows _).1 he]) (by simp)) (by simp [qb1,qar,qah,qac,lb])
 exact qzf (qbc [⟨199,_,_,_,_,hcall⟩]) ⟨_,_,qvl (T:=T) h L hps ho (r:=qz6 go L.length) (by simp [qce]),hq⟩
end
abbrev lsSvg:Str:= lsB0
abbrev qwu:Str:= lsB3
abbrev zb5:Str:= lsB5
abbrev lsEnds:Str:= lsB8
abbrev lsTable:Str:= lsB1
def qfx (sp:Int) (x:Str):Bool:=if sp=1 then inW lsSvg x else if sp=2 then decide (x=[97,110,110,111,116,97,116,105,111,110,45,120,109,108]) || inW qwu x else decide (sp=0) && inW zb5 x
def qna (sc sp:Int) (x:Str):Bool:=
 if sc=3 then decide (sp=0) && inW lsTable x
 else if sc=0∨sc=1∨sc=2 then
  if sp=0 then (if x=[111,108]∨x=[117,108] then decide (sc=1) else if x=[98,117,116,116,111,110] then decide (sc=2) else inW lsEnds x) else qfx sp x
 else !decide (sc=4) || !decide (sp=0) || (!decide (x=[111,112,116,103,114,111,117,112]) && !decide (x=[111,112,116,105,111,110]))
theorem c172 {T:List (Entry Tryz.prog)} (hc0:qai 122 T=some e122a.g) (sp:Int) (x:Str) (hx:x.length≤1000000000):CallAt (ctx T) 172 [.int .i64 sp,.str x] ⟨0,[]⟩ (.bool (qfx sp x)) ⟨0,[]⟩:=by
 have kw0:=fun (x:Str) (hx:x.length≤1000000000) (H:Heap)=>k122a (W:= lsB0) (x:=x) hc0 (qox (by decide)) (by decide) hx H
 have kw1:=fun (x:Str) (hx:x.length≤1000000000) (H:Heap)=>k122a (W:= lsB3) (x:=x) hc0 (qox (by decide)) (by decide) hx H
 have kw2:=fun (x:Str) (hx:x.length≤1000000000) (H:Heap)=>k122a (W:= lsB5) (x:=x) hc0 (qox (by decide)) (by decide) hx H
 refine qa2 (fn:=Tryz.f172) (s0:=⟨[0,1,4,5],[.int .i64 sp,.str x,.undef,.undef],[],24,⟨0,[[]]⟩⟩) Tryz.func172 rfl rfl rfl ?_
 (repeat' (first
  | with_reducible refine qb0 ?_
  | with_reducible refine qab ?_
  | (with_reducible refine qa0 qa1 ?_;apply qf4;simp [zS, *];exact rfl)
  | (with_reducible refine qbx ?_;simp only [qaf,qa6])
  | (with_reducible refine qbt (fun hc=>?_) (fun hc=>?_) <;> ((have hd:=hc);(try simp at hd);(try subst hd);apply qf4;simp [zS, *];exact rfl))
  | (refine qb9 rfl (fun hc=>?_) (fun hc=>?_) <;> ((have hd:=hc);(try simp at hd);(try subst hd)))
  | (with_reducible refine qa9 ?_;simp only [qaf,qa6])
  | (with_reducible refine qa8 ?_;simp [qad,Tryz.f172,oneOr,qaf,qa6])))
 all_goals first | exact qa5 rfl (by simp [qfx, *]) | (exfalso;omega)
theorem inj_172 (x y:Int × Str) (h:(fun z:Int × Str=>([.int .i64 z.1,.str z.2]:List AV)) x=(fun z:Int × Str=>([.int .i64 z.1,.str z.2]:List AV)) y):x=y:=by
 obtain ⟨x0,x1⟩:=x
 obtain ⟨y0,y1⟩:=y
 simp only [List.cons.injEq,and_true] at h
 obtain ⟨h0,h1⟩:=h
 have g0:x0=y0:=AV.int.inj h0 |>.2
 have g1:x1=y1:=AV.str.inj h1
 subst g0 g1
 rfl
noncomputable def e172:Entry Tryz.prog:=mkE 172 [[],[]] (fun z:Int × Str=>[.int .i64 z.1,.str z.2]) (fun z=>(z.2.length≤1000000000)) (fun z=>.bool (qfx z.1 z.2)) fun z h=>c172 (T:=[e122a]) rfl z.1 z.2 h
theorem k172 {T:List (Entry Tryz.prog)} (hT:qai 172 T=some e172.g) (sp:Int) (x:Str) (hx:x.length≤1000000000) (H:Heap):qbb (ctx T) (.fn 172) [.int .i64 sp,.str x] H=some (.bool (qfx sp x),H):=
 qal hT inj_172 (sp,x) hx rfl (by simp [qau])
theorem c167 {T:List (Entry Tryz.prog)} (hc0:qai 122 T=some e122a.g) (hc1:qai 172 T=some e172.g) (sc:Int) (sp:Int) (x:Str) (hx:x.length≤1000000000):CallAt (ctx T) 167 [.int .i64 sc,.int .i64 sp,.str x] ⟨0,[]⟩ (.bool (qna sc sp x)) ⟨0,[]⟩:=by
 have kw0:=fun (x:Str) (hx:x.length≤1000000000) (H:Heap)=>k122a (W:= lsB1) (x:=x) hc0 (qox (by decide)) (by decide) hx H
 have kw1:=fun (x:Str) (hx:x.length≤1000000000) (H:Heap)=>k122a (W:= lsB8) (x:=x) hc0 (qox (by decide)) (by decide) hx H
 have kc1:=@k172 T hc1
 refine qa2 (fn:=Tryz.f167) (s0:=⟨[0,1,2,6,7,10,32,41,42],[.int .i64 sc,.int .i64 sp,.str x,.undef,.undef,.undef,.undef,.undef,.undef],[],53,⟨0,[[]]⟩⟩) Tryz.func167 rfl rfl rfl ?_
 (repeat' (first
  | with_reducible refine qb0 ?_
  | with_reducible refine qab ?_
  | (with_reducible refine qa0 qa1 ?_;apply qf4;simp [zS, *];exact rfl)
  | (with_reducible refine qbx ?_;simp only [qaf,qa6])
  | (with_reducible refine qbt (fun hc=>?_) (fun hc=>?_) <;> ((have hd:=hc);(try simp at hd);(try subst hd);apply qf4;simp [zS, *];exact rfl))
  | (refine qan rfl ?_)
  | (refine qb9 rfl (fun hc=>?_) (fun hc=>?_) <;> ((have hd:=hc);(try simp at hd);(try subst hd)))
  | (with_reducible refine qa9 ?_;simp only [qaf,qa6])
  | (with_reducible refine qa8 ?_;simp [qad,Tryz.f167,oneOr,qaf,qa6])))
 all_goals first | exact qa5 rfl (by simp [qna, *]) | (exfalso;omega)
theorem inj_167 (x y:Int × Int × Str) (h:(fun z:Int × Int × Str=>([.int .i64 z.1,.int .i64 z.2.1,.str z.2.2]:List AV)) x=(fun z:Int × Int × Str=>([.int .i64 z.1,.int .i64 z.2.1,.str z.2.2]:List AV)) y):x=y:=by
 obtain ⟨x0,x1,x2⟩:=x
 obtain ⟨y0,y1,y2⟩:=y
 simp only [List.cons.injEq,and_true] at h
 obtain ⟨h0,h1,h2⟩:=h
 have g0:x0=y0:=AV.int.inj h0 |>.2
 have g1:x1=y1:=AV.int.inj h1 |>.2
 have g2:x2=y2:=AV.str.inj h2
 subst g0 g1 g2
 rfl
noncomputable def e167:Entry Tryz.prog:=mkE 167 [[],[],[]] (fun z:Int × Int × Str=>[.int .i64 z.1,.int .i64 z.2.1,.str z.2.2]) (fun z=>(z.2.2.length≤1000000000)) (fun z=>.bool (qna z.1 z.2.1 z.2.2)) fun z h=>c167 (T:=[e122a,e172]) rfl rfl z.1 z.2.1 z.2.2 h
theorem k167 {T:List (Entry Tryz.prog)} (hT:qai 167 T=some e167.g) (sc:Int) (sp:Int) (x:Str) (hx:x.length≤1000000000) (H:Heap):qbb (ctx T) (.fn 167) [.int .i64 sc,.int .i64 sp,.str x] H=some (.bool (qna sc sp x),H):=
 qal hT inj_167 (sc,sp,x) hx rfl (by simp [qau])
theorem c168 {T:List (Entry Tryz.prog)} (hc0:qai 122 T=some e122a.g) (x:Str) (hx:x.length≤1000000000):CallAt (ctx T) 168 [.str x] ⟨0,[]⟩ (.bool (inW lsB6 x)) ⟨0,[]⟩:=by
 have kw0:=fun (x:Str) (hx:x.length≤1000000000) (H:Heap)=>k122a (W:= lsB6) (x:=x) hc0 (qox (by decide)) (by decide) hx H
 refine qa2 (fn:=Tryz.f168) (s0:=⟨[0,2],[.str x,.undef],[],5,⟨0,[[]]⟩⟩) Tryz.func168 rfl rfl rfl ?_
 (repeat' (first
  | with_reducible refine qb0 ?_
  | (with_reducible refine qa0 qa1 ?_;apply qf4;simp [zS, *];exact rfl)
  | (with_reducible refine qbx ?_;simp only [qaf,qa6])
  | (with_reducible refine qa8 ?_;simp [qad,Tryz.f168,oneOr,qaf,qa6])))
 all_goals first | exact qa5 rfl (by rfl) | (exfalso;omega)
theorem inj_168 (x y:Str) (h:(fun z:Str=>([.str z]:List AV)) x=(fun z:Str=>([.str z]:List AV)) y):x=y:=by
 simp only [List.cons.injEq,and_true] at h
 exact AV.str.inj h
noncomputable def e168:Entry Tryz.prog:=mkE 168 [[]] (fun z:Str=>[.str z]) (fun z=>(z.length≤1000000000)) (fun z=>.bool (inW lsB6 z)) fun z h=>c168 (T:=[e122a]) rfl z h
theorem k168 {T:List (Entry Tryz.prog)} (hT:qai 168 T=some e168.g) (x:Str) (hx:x.length≤1000000000) (H:Heap):qbb (ctx T) (.fn 168) [.str x] H=some (.bool (inW lsB6 x),H):=
 qal hT inj_168 (x) hx rfl (by simp [qau])
@[simp] theorem szT48:qbw Tryz.prog 48=some 1:=rfl
@[simp] theorem agT48:qgd Tryz.prog 48=some false:=rfl
@[simp] theorem byT48:qc6 Tryz.prog 48=some 8:=rfl
@[simp] theorem alT48 (H:Heap):alV Tryz.prog H 48=some (.ptr H.n 0,H.new (.cells [.nilF])):=rfl
@[simp] theorem zeT48:qbn Tryz.prog 48=some (.nilF):=rfl
attribute [simp] Tryz.underlying48
@[simp 500] theorem rvF48 (H:Heap) (cs:List AV) (o:Nat):qaq Tryz.prog H 48 (.fptr cs o)=qc7 cs o:=rfl
@[simp 500] theorem rvP48 (H:Heap) (b o:Nat):qaq Tryz.prog H 48 (.ptr b o)=(H.get b).bind fun k=>k.rd.bind fun cs=>qc7 cs o:=rfl
def qfa (f:FuncId) (c:List AV):AV:=.func (.func f) [] c
def zby (p q:Nd→Bool) (L:List Nd) (j:Nat):Option Bool:=if p (qa3 L j)=true then some true else if q (qa3 L j)=true then some false else none
def zap (p q:Nd→Bool) (L:List Nd):Bool:=(qz6 (zby p q L) L.length).getD false
noncomputable def zbk (L:List Nd) (v1 v2:AV):RgK:=⟨[0,1,2,4,5,6,8,10,11,12],[qae L,v1,v2,.ptr 0 0,.ptr 1 0,.ptr 2 0,.undef,zdh L,.undef,.undef],19,[11,12],rgA Tryz.f165.body,rgB Tryz.f165.body⟩
def rOut (v1 v2:AV):Option Bool→List (Nat × Blk)
 | none=>[(2,.cells [.bool false]),(1,.cells [v2]),(0,.cells [v1])]
 | some r=>[(2,.cells [.bool r]),(1,.cells [v2]),(0,.cells [v1])]
theorem zbj {L:List Nd} {v1 v2:AV} (h1:qah v1=true) (h2:qah v2=true):(zbk L v1 v2).Ok 3 (rOut v1 v2) where
 vs:=fun σ hσ=>by simp [zbk,qb1,qar,hσ 0 (by omega),hσ 1 (by omega),hσ 2 (by omega),h1,h2,zag]
 rows:=fun c=>by cases c <;> simp [rOut,rowsB,qac,qah,h1,h2]
theorem za9 {T:List (Entry Tryz.prog)} (L:List Nd) {f1 f2:FuncId} {c1 c2:List AV} (k1:qac c1=true) (k2:qac c2=true) {p q:Nd→Bool} (n:Nd) (hp:CallAt (ctx T) f1 (qa7 n::c1) ⟨0,[]⟩ (.bool (p n)) ⟨0,[]⟩) (hq:CallAt (ctx T) f2 (qa7 n::c2) ⟨0,[]⟩ (.bool (q n)) ⟨0,[]⟩) (j:Int) :
  qhe (ctx T) 3 [.int .i64 j,qa7 n] ⟨4,[[],(3,(zbk L (qfa f1 c1) (qfa f2 c2)).blk .ready none [])::rOut (qfa f1 c1) (qfa f2 c2) none]⟩ (.bool (if p n=true then some true else if q n=true then some false else none:Option Bool).isNone)
   ⟨4,[[],(zbk L (qfa f1 c1) (qfa f2 c2)).rows 3 (rOut (qfa f1 c1) (qfa f2 c2)) (if p n=true then some true else if q n=true then some false else none)]⟩:=by
 have v1:qah (qfa f1 c1)=true:=by simp [qfa,qah,qac,k1]
 have v2:qah (qfa f2 c2)=true:=by simp [qfa,qah,qac,k2]
 refine round_K (zbj v1 v2) (s1:=⟨[0,1,2,4,5,6,8,10,11,12],[qae L,qfa f1 c1,qfa f2 c2,.ptr 0 0,.ptr 1 0,.ptr 2 0,.undef,zdh L,.int .i64 j,qa7 n],[],19,⟨4,[[],[],(3,(zbk L (qfa f1 c1) (qfa f2 c2)).blk .ready none [])::rOut (qfa f1 c1) (qfa f2 c2) none]⟩⟩) rfl fun l=>?_
 generalize (zbk L (qfa f1 c1) (qfa f2 c2)).blk .ready none []=B0
 generalize (zbk L (qfa f1 c1) (qfa f2 c2)).blk .busy none []=B1
 simp only [zbk,rgA,rgB,rgIn,Tryz.f165,Option.bind_some]
 refine qa0 qa1 ?_
 simp [zN]
 refine ⟨_,_,⟨rfl,rfl⟩,rfl,?_⟩
 simp only [rOut,qfa]
 refine qab ?_
 have p1:qac (qa7 n::c1)=true:=by simp [qac,k1]
 have p2:qac (qa7 n::c2)=true:=by simp [qac,k2]
 repeat apply wq
 refine qa0 (qh8 [⟨f1,_,_,p1,hp⟩]) ?_
 rcases Bool.eq_false_or_eq_true (p n) with hb | hb
 ·simp [zS,qb5,qfp,hb]
  refine qan rfl ?_
  repeat apply wq
  refine qa0 qa1 ?_
  simp [zS]
  refine qa8 ?_
  simp only [qaf,qa6]
  exact ⟨_,_,fun i hi=>qlg (by omega),rfl,rfl⟩
 ·simp [zS,qb5,qfp,hb]
  refine qam rfl ?_
  refine qa9 ?_
  simp only [qaf,qa6]
  repeat apply wq
  refine qa0 (qh8 [⟨f2,_,_,p2,hq⟩]) ?_
  rcases Bool.eq_false_or_eq_true (q n) with hd | hd
  ·simp [zS,qb5,qfp,hd]
   refine qan rfl ?_
   repeat apply wq
   refine qa0 qa1 ?_
   simp [zS]
   refine qa8 ?_
   simp only [qaf,qa6]
   exact ⟨_,_,fun i hi=>qlg (by omega),rfl,rfl⟩
  ·simp [zS,qb5,qfp,hd]
   refine qam rfl ?_
   refine qa9 ?_
   simp only [qaf,qa6]
   exact ⟨_,_,fun i hi=>qlg (by omega),rfl,rfl⟩
theorem c165 {T:List (Entry Tryz.prog)} (hB:qai 193 T=some e193.g) (L:List Nd) (hl:L.length≤1000000) {f1 f2:FuncId} {c1 c2:List AV} (k1:qac c1=true) (k2:qac c2=true) {p q:Nd→Bool}
  (hp:∀ n,n∈L→CallAt (ctx T) f1 (qa7 n::c1) ⟨0,[]⟩ (.bool (p n)) ⟨0,[]⟩) (hq:∀ n,n∈L→CallAt (ctx T) f2 (qa7 n::c2) ⟨0,[]⟩ (.bool (q n)) ⟨0,[]⟩):CallAt (ctx T) 165 [qae L,qfa f1 c1,qfa f2 c2] ⟨0,[]⟩ (.bool (zap p q L)) ⟨0,[]⟩:=by
 have v1:qah (qfa f1 c1)=true:=by simp [qfa,qah,qac,k1]
 have v2:qah (qfa f2 c2)=true:=by simp [qfa,qah,qac,k2]
 have kb:=fun H=>k193 hB L H
 have s1:(qfa f1 c1).single=true:=rfl
 have s2:(qfa f2 c2).single=true:=rfl
 have e1:(qfa f1 c1).cells=[qfa f1 c1]:=rfl
 have e2:(qfa f2 c2).cells=[qfa f2 c2]:=rfl
 refine qa2 (fn:=Tryz.f165) (s0:=⟨[0,1,2,4,5,6,8,10,11,12],[qae L,qfa f1 c1,qfa f2 c2,.undef,.undef,.undef,.undef,.undef,.undef,.undef],[],19,⟨0,[[]]⟩⟩) Tryz.func165 rfl rfl rfl ?_
 repeat apply wq
 refine qa0 qa1 ?_
 simp [zS,s1,s2,e1,e2]
 repeat apply wq
 refine qa0 qa1 ?_
 simp [zS,kb]
 refine qab ?_
 refine qzi (K:=zbk L (qfa f1 c1) (qfa f2 c2)) (b:=3) (R:=rOut (qfa f1 c1) (qfa f2 c2)) (zbj v1 v2) L hl (zby p q L) (fun j hj=>?_) rfl rfl ?_
 ·have:=za9 L k1 k2 (p:=p) (q:=q) L[j] (hp _ (List.getElem_mem hj)) (hq _ (List.getElem_mem hj)) (j:Int)
  rw [show zby p q L j=_ from rfl,zby,qbi hj]
  exact this
 ·obtain ⟨r,hr⟩ : ∃ r,qz6 (zby p q L) L.length=r:=⟨_,rfl⟩
  unfold zap
  rw [hr]
  cases r with
  | none=>
   simp [qwi,zbk,rOut]
   repeat apply wq
   refine qa0 qa1 ?_
   simp [zS]
   refine qa8 ?_
   simp [qad,Tryz.f165,oneOr]
   exact ⟨[.bool false],rfl,[],[],qba rfl,FitH.empty⟩
  | some i=>
   simp [qwi,zbk,rOut,qaf,qa6]
   exact ⟨[.bool i],rfl,[],[],qba rfl,FitH.empty⟩
def qg2 (sp:Int) (x:Str):Bool:=decide (sp=0) && inW lsB2 x
theorem sp_head:qdq lsB2=[[104,49],[104,50],[104,51],[104,52],[104,53],[104,54]]:=by decide +kernel
theorem zbq (x:Str):inW lsB2 x=decide (x=[104,49]∨x=[104,50]∨x=[104,51]∨x=[104,52]∨x=[104,53]∨x=[104,54]):=by unfold inW;rw [sp_head];simp
theorem head_len {x:Str} (h:¬ x.length=2):inW lsB2 x=false:=by
 rw [zbq]
 simp only [decide_eq_false_iff_not]
 rintro (rfl | rfl | rfl | rfl | rfl | rfl) <;> exact h rfl
theorem head_two (a b:UInt8):inW lsB2 [a,b]=(decide ((a.toNat:Int)=104) && decide (49≤(b.toNat:Int)) && decide ((b.toNat:Int)≤54)):=by
 rw [zbq]
 have key:∀ n:Nat,n < 256→(b=UInt8.ofNat n↔b.toNat=n):=fun n hn=>⟨fun h=>by rw [h];simp;omega,fun h=>by rw [← h];simp⟩
 have ha:a=104↔a.toNat=104:=⟨fun h=>by rw [h];rfl,fun h=>UInt8.toNat_inj.1 (by rw [h];rfl)⟩
 have k1:∀ c:UInt8,b=c↔b.toNat=c.toNat:=fun c=>UInt8.toNat_inj.symm
 rw [Bool.eq_iff_iff]
 simp only [List.cons.injEq,and_true,decide_eq_true_eq,Bool.and_eq_true,ha,k1]
 simp only [show (49:UInt8).toNat=49 from rfl,show (50:UInt8).toNat=50 from rfl,show (51:UInt8).toNat=51 from rfl,show (52:UInt8).toNat=52 from rfl,show (53:UInt8).toNat=53 from rfl,show (54:UInt8).toNat=54 from rfl]
 omega
theorem c135 {T:List (Entry Tryz.prog)} (sp:Int) (x:Str):CallAt (ctx T) 135 [.int .i64 sp,.str x] ⟨0,[]⟩ (.bool (qg2 sp x)) ⟨0,[]⟩:=by
 by_cases hl:x.length=2
 ·match x,hl with
  | [a,b],_=>
   have i0:qgq Tryz.prog 9 (.str [a,b]) (.int .i64 0)=some (.int .u8 a.toNat):=qmc (s:=[a,b]) (i:=0) (by simp)
   have i1:qgq Tryz.prog 9 (.str [a,b]) (.int .i64 1)=some (.int .u8 b.toNat):=qmc (s:=[a,b]) (i:=1) (by simp)
   unfold qg2
   rw [head_two]
   refine qa2 (fn:=Tryz.f135) (s0:=⟨[0,1,4],[.int .i64 sp,.str [a,b],.undef],[],27,⟨0,[[]]⟩⟩) Tryz.func135 rfl rfl rfl ?_
   (repeat' (first
    | with_reducible refine qb0 ?_
    | (with_reducible refine qa0 qa1 ?_;apply qf4;simp [zS, *];exact rfl)
    | (with_reducible refine qbx ?_;simp only [qaf,qa6])
    | (with_reducible refine qbt (fun hc=>?_) (fun hc=>?_) <;> ((have hd:=hc);(try simp at hd);(try subst hd);apply qf4;simp [zS, *];exact rfl))
    | (with_reducible refine qa8 ?_;simp [qad,Tryz.f135,oneOr,qaf,qa6])))
   all_goals first | exact qa5 rfl (by simp [*]) | (exfalso;omega)
 ·have hl':¬ ((x.length:Nat):Int)=2:=by omega
  unfold qg2
  rw [head_len hl]
  refine qa2 (fn:=Tryz.f135) (s0:=⟨[0,1,4],[.int .i64 sp,.str x,.undef],[],27,⟨0,[[]]⟩⟩) Tryz.func135 rfl rfl rfl ?_
  (repeat' (first
   | with_reducible refine qb0 ?_
   | (with_reducible refine qa0 qa1 ?_;apply qf4;simp [zS, *];exact rfl)
   | (with_reducible refine qbx ?_;simp only [qaf,qa6])
   | (with_reducible refine qbt (fun hc=>?_) (fun hc=>?_) <;> ((have hd:=hc);(try simp at hd);(try subst hd);apply qf4;simp [zS, *];exact rfl))
   | (with_reducible refine qa8 ?_;simp [qad,Tryz.f135,oneOr,qaf,qa6])))
  all_goals first | exact qa5 rfl (by simp [*]) | (exfalso;omega)
theorem inj_135 (x y:Int × Str) (h:(fun z:Int × Str=>([.int .i64 z.1,.str z.2]:List AV)) x=(fun z:Int × Str=>([.int .i64 z.1,.str z.2]:List AV)) y):x=y:=by
 obtain ⟨x0,x1⟩:=x
 obtain ⟨y0,y1⟩:=y
 simp only [List.cons.injEq,and_true] at h
 obtain ⟨h0,h1⟩:=h
 have g0:x0=y0:=AV.int.inj h0 |>.2
 have g1:x1=y1:=AV.str.inj h1
 subst g0 g1
 rfl
noncomputable def e135:Entry Tryz.prog:=mkE 135 [[],[]] (fun z:Int × Str=>[.int .i64 z.1,.str z.2]) (fun z=>True) (fun z=>.bool (qg2 z.1 z.2)) fun z h=>c135 (T:=[])  z.1 z.2 
theorem k135 {T:List (Entry Tryz.prog)} (hT:qai 135 T=some e135.g) (sp:Int) (x:Str) (H:Heap):qbb (ctx T) (.fn 135) [.int .i64 sp,.str x] H=some (.bool (qg2 sp x),H):=
 qal hT inj_135 (sp,x) trivial rfl (by simp [qau])
theorem c174 {T:List (Entry Tryz.prog)} (hc0:qai 122 T=some e122a.g) (sp:Int) (x:Str) (hx:x.length≤1000000000):CallAt (ctx T) 174 [.int .i64 sp,.str x] ⟨0,[]⟩ (.bool (decide (sp=0) && inW lsB9 x)) ⟨0,[]⟩:=by
 have kw0:=fun (x:Str) (hx:x.length≤1000000000) (H:Heap)=>k122a (W:= lsB9) (x:=x) hc0 (qox (by decide)) (by decide) hx H
 refine qa2 (fn:=Tryz.f174) (s0:=⟨[0,1,4],[.int .i64 sp,.str x,.undef],[],11,⟨0,[[]]⟩⟩) Tryz.func174 rfl rfl rfl ?_
 (repeat' (first
  | with_reducible refine qb0 ?_
  | (with_reducible refine qa0 qa1 ?_;apply qf4;simp [zS, *];exact rfl)
  | (with_reducible refine qbx ?_;simp only [qaf,qa6])
  | (with_reducible refine qbt (fun hc=>?_) (fun hc=>?_) <;> ((have hd:=hc);(try simp at hd);(try subst hd);apply qf4;simp [zS, *];exact rfl))
  | (with_reducible refine qa8 ?_;simp [qad,Tryz.f174,oneOr,qaf,qa6])))
 all_goals first | exact qa5 rfl (by first | (simp [*];done) | (simp_all;done)) | (exfalso;omega)
theorem inj_174 (x y:Int × Str) (h:(fun z:Int × Str=>([.int .i64 z.1,.str z.2]:List AV)) x=(fun z:Int × Str=>([.int .i64 z.1,.str z.2]:List AV)) y):x=y:=by
 obtain ⟨x0,x1⟩:=x
 obtain ⟨y0,y1⟩:=y
 simp only [List.cons.injEq,and_true] at h
 obtain ⟨h0,h1⟩:=h
 have g0:x0=y0:=AV.int.inj h0 |>.2
 have g1:x1=y1:=AV.str.inj h1
 subst g0 g1
 rfl
noncomputable def e174:Entry Tryz.prog:=mkE 174 [[],[]] (fun z:Int × Str=>[.int .i64 z.1,.str z.2]) (fun z=>(z.2.length≤1000000000)) (fun z=>.bool (decide (z.1=0) && inW lsB9 z.2)) fun z h=>c174 (T:=[e122a]) rfl z.1 z.2 h
theorem k174 {T:List (Entry Tryz.prog)} (hT:qai 174 T=some e174.g) (sp:Int) (x:Str) (hx:x.length≤1000000000) (H:Heap):qbb (ctx T) (.fn 174) [.int .i64 sp,.str x] H=some (.bool (decide (sp=0) && inW lsB9 x),H):=
 qal hT inj_174 (sp,x) hx rfl (by simp [qau])
end Go.Proofs.YtocnpnnplllneaaGreatDoor