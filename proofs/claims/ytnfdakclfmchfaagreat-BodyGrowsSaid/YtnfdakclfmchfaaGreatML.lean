/- Headings, markers, void elements, in both codes. No condition. -/
import Derived.Test.YtnfdakclfmchfaaGreatMK
namespace Go.Proofs.YtnfdakclfmchfaaGreat
noncomputable section
set_option linter.unusedSimpArgs false
set_option linter.unusedVariables false
open Go Go.RowKit
set_option maxRecDepth 100000
variable {T:List (Entry Tryz.prog)}
@[simp]theorem szT23:qc1 PG 23=some 1:=rfl
@[simp]theorem agT23:qgc PG 23=some false:=rfl
@[simp]theorem byT23:qce PG 23=some 8:=rfl
@[simp]theorem alT23(H:Heap):alV PG H 23=some (.ptr H.n 0,H.new (.cells [.nilP])):=rfl
@[simp]theorem zeT23:qbq PG 23=some (.nilP):=rfl
attribute [simp] Tryz.underlying23
@[simp 500]theorem rvF23(H:Heap) (cs:List AV) (o:Nat):qaq PG H 23 (.fptr cs o)=qca cs o:=rfl
@[simp 500]theorem rvP23(H:Heap) (b o:Nat):qaq PG H 23 (.ptr b o)=(H.get b).bind fun k=>k.rd.bind fun cs=>qca cs o:=rfl
@[simp]theorem szT40:qc1 PG 40=some 11:=rfl
@[simp]theorem agT40:qgc PG 40=some true:=rfl
@[simp]theorem byT40:qce PG 40=some 136:=rfl
@[simp]theorem alT40(H:Heap):alV PG H 40=some (.ptr H.n 0,H.new (.cells [.nilS,.nilS,.nilS,.int .i64 0,.int .i64 0,.int .i64 0,.int .i64 0,.int .i64 0,.bool false,.bool false,.str []])):=rfl
@[simp]theorem zeT40:qbq PG 40=some (.agg [.nilS,.nilS,.nilS,.int .i64 0,.int .i64 0,.int .i64 0,.int .i64 0,.int .i64 0,.bool false,.bool false,.str []]):=rfl
attribute [simp] Tryz.underlying40
@[simp 500]theorem rvF40(H:Heap) (cs:List AV) (o:Nat):qaq PG H 40 (.fptr cs o)=(qf1 o 11 cs).bind fun cs=>some (.agg cs):=rfl
@[simp 500]theorem rvP40(H:Heap) (b o:Nat):qaq PG H 40 (.ptr b o)=(readCells H b o 11).bind fun cs=>some (.agg cs):=rfl
@[simp]theorem fa40_0(x:AV):qaw PG 40 x 0=(match x with | .ptr b o=>some (.ptr b (o+0)) | .fptr cs o=>some (.fptr cs (o+0))|_=>none):=rfl
@[simp]theorem fd40_0(cs:List AV):qc9 PG 40 (.agg cs) 0=(qf1 0 1 cs).bind fun r=>some (.agg r):=rfl
@[simp]theorem fa40_1(x:AV):qaw PG 40 x 1=(match x with | .ptr b o=>some (.ptr b (o+1)) | .fptr cs o=>some (.fptr cs (o+1))|_=>none):=rfl
@[simp]theorem fd40_1(cs:List AV):qc9 PG 40 (.agg cs) 1=qca cs 1:=rfl
@[simp]theorem fa40_2(x:AV):qaw PG 40 x 2=(match x with | .ptr b o=>some (.ptr b (o+2)) | .fptr cs o=>some (.fptr cs (o+2))|_=>none):=rfl
@[simp]theorem fd40_2(cs:List AV):qc9 PG 40 (.agg cs) 2=qca cs 2:=rfl
@[simp]theorem fa40_3(x:AV):qaw PG 40 x 3=(match x with | .ptr b o=>some (.ptr b (o+3)) | .fptr cs o=>some (.fptr cs (o+3))|_=>none):=rfl
@[simp]theorem fd40_3(cs:List AV):qc9 PG 40 (.agg cs) 3=qca cs 3:=rfl
@[simp]theorem fa40_4(x:AV):qaw PG 40 x 4=(match x with | .ptr b o=>some (.ptr b (o+4)) | .fptr cs o=>some (.fptr cs (o+4))|_=>none):=rfl
@[simp]theorem fd40_4(cs:List AV):qc9 PG 40 (.agg cs) 4=qca cs 4:=rfl
@[simp]theorem fa40_5(x:AV):qaw PG 40 x 5=(match x with | .ptr b o=>some (.ptr b (o+5)) | .fptr cs o=>some (.fptr cs (o+5))|_=>none):=rfl
@[simp]theorem fd40_5(cs:List AV):qc9 PG 40 (.agg cs) 5=qca cs 5:=rfl
@[simp]theorem fa40_6(x:AV):qaw PG 40 x 6=(match x with | .ptr b o=>some (.ptr b (o+6)) | .fptr cs o=>some (.fptr cs (o+6))|_=>none):=rfl
@[simp]theorem fd40_6(cs:List AV):qc9 PG 40 (.agg cs) 6=qca cs 6:=rfl
@[simp]theorem fa40_7(x:AV):qaw PG 40 x 7=(match x with | .ptr b o=>some (.ptr b (o+7)) | .fptr cs o=>some (.fptr cs (o+7))|_=>none):=rfl
@[simp]theorem fd40_7(cs:List AV):qc9 PG 40 (.agg cs) 7=qca cs 7:=rfl
@[simp]theorem fa40_8(x:AV):qaw PG 40 x 8=(match x with | .ptr b o=>some (.ptr b (o+8)) | .fptr cs o=>some (.fptr cs (o+8))|_=>none):=rfl
@[simp]theorem fd40_8(cs:List AV):qc9 PG 40 (.agg cs) 8=qca cs 8:=rfl
@[simp]theorem fa40_9(x:AV):qaw PG 40 x 9=(match x with | .ptr b o=>some (.ptr b (o+9)) | .fptr cs o=>some (.fptr cs (o+9))|_=>none):=rfl
@[simp]theorem fd40_9(cs:List AV):qc9 PG 40 (.agg cs) 9=qca cs 9:=rfl
@[simp]theorem fa40_10(x:AV):qaw PG 40 x 10=(match x with | .ptr b o=>some (.ptr b (o+10)) | .fptr cs o=>some (.fptr cs (o+10))|_=>none):=rfl
@[simp]theorem fd40_10(cs:List AV):qc9 PG 40 (.agg cs) 10=qca cs 10:=rfl
@[simp]theorem szT48:qc1 PG 48=some 5:=rfl
@[simp]theorem agT48:qgc PG 48=some true:=rfl
@[simp]theorem byT48:qce PG 48=some 72:=rfl
@[simp]theorem alT48(H:Heap):alV PG H 48=some (.ptr H.n 0,H.new (.cells [.int .i64 0,.str [],.nilS,.bool false,.str []])):=rfl
@[simp]theorem zeT48:qbq PG 48=some (.agg [.int .i64 0,.str [],.nilS,.bool false,.str []]):=rfl
attribute [simp] Tryz.underlying48
@[simp 500]theorem rvF48(H:Heap) (cs:List AV) (o:Nat):qaq PG H 48 (.fptr cs o)=(qf1 o 5 cs).bind fun cs=>some (.agg cs):=rfl
@[simp 500]theorem rvP48(H:Heap) (b o:Nat):qaq PG H 48 (.ptr b o)=(readCells H b o 5).bind fun cs=>some (.agg cs):=rfl
@[simp]theorem fa48_0(x:AV):qaw PG 48 x 0=(match x with | .ptr b o=>some (.ptr b (o+0)) | .fptr cs o=>some (.fptr cs (o+0))|_=>none):=rfl
@[simp]theorem fd48_0(cs:List AV):qc9 PG 48 (.agg cs) 0=qca cs 0:=rfl
@[simp]theorem fa48_1(x:AV):qaw PG 48 x 1=(match x with | .ptr b o=>some (.ptr b (o+1)) | .fptr cs o=>some (.fptr cs (o+1))|_=>none):=rfl
@[simp]theorem fd48_1(cs:List AV):qc9 PG 48 (.agg cs) 1=qca cs 1:=rfl
@[simp]theorem fa48_2(x:AV):qaw PG 48 x 2=(match x with | .ptr b o=>some (.ptr b (o+2)) | .fptr cs o=>some (.fptr cs (o+2))|_=>none):=rfl
@[simp]theorem fd48_2(cs:List AV):qc9 PG 48 (.agg cs) 2=qca cs 2:=rfl
@[simp]theorem fa48_3(x:AV):qaw PG 48 x 3=(match x with | .ptr b o=>some (.ptr b (o+3)) | .fptr cs o=>some (.fptr cs (o+3))|_=>none):=rfl
@[simp]theorem fd48_3(cs:List AV):qc9 PG 48 (.agg cs) 3=qca cs 3:=rfl
@[simp]theorem fa48_4(x:AV):qaw PG 48 x 4=(match x with | .ptr b o=>some (.ptr b (o+4)) | .fptr cs o=>some (.fptr cs (o+4))|_=>none):=rfl
@[simp]theorem fd48_4(cs:List AV):qc9 PG 48 (.agg cs) 4=qca cs 4:=rfl
@[simp]theorem szT50:qc1 PG 50=some 1:=rfl
@[simp]theorem agT50:qgc PG 50=some false:=rfl
@[simp]theorem byT50:qce PG 50=some 8:=rfl
@[simp]theorem alT50(H:Heap):alV PG H 50=some (.ptr H.n 0,H.new (.cells [.nilP])):=rfl
@[simp]theorem zeT50:qbq PG 50=some (.nilP):=rfl
attribute [simp] Tryz.underlying50
@[simp 500]theorem rvF50(H:Heap) (cs:List AV) (o:Nat):qaq PG H 50 (.fptr cs o)=qca cs o:=rfl
@[simp 500]theorem rvP50(H:Heap) (b o:Nat):qaq PG H 50 (.ptr b o)=(H.get b).bind fun k=>k.rd.bind fun cs=>qca cs o:=rfl
section
variable {s s':SS} {n k:Nat} {f:List (Nat × Blk)}
theorem vset{t:Tr} (hs:s.tree=t) (hne:t≠[]) (o a:List Int) (m1 m2 m3 m4 m5:Int) (b1 b2:Bool) (i:Str) :
  setF 0 (.cells [nV k t,qac o,qac a,.int .i64 m1,.int .i64 m2,.int .i64 m3,.int .i64 m4,.int .i64 m5,.bool b1,.bool b2,.str i]) (VS k s)=some (VS k ⟨t,o,a,m1,m2,m3,m4,m5,b1,b2,i⟩):=by
 subst hs;rw[qf4 hne,qf4 (by exact hne)];rfl
theorem qbz{v v':AV} (e:v=v') (es:s=s') (hv:qa2 v'=true) (k0:0 < k) (hne:s'.tree≠[]) (hf0:getF 0 f=none) (hfk:getF k f=none):∃σ Φ,qap σ Φ v v'/\FitH 2 σ Φ ⟨n,[f,VS k s]⟩ ⟨3,[VS 2 s']⟩:=
 by subst e;subst es;exact⟨_,[],qbd hv,fitS ⟨by omega,by omega,by omega⟩ (by omega) k0 hne hf0 hfk⟩
end
@[simp]theorem clA(L:List At1):(qaf L).cells=[qaf L]:=rfl
@[simp]theorem sgA(L:List At1):(qaf L).single=true:=rfl
@[simp]theorem sgI(L:List Int):(AV.fslc 1 (L.map qau)).single=true:=rfl
@[simp]theorem rfA(L:List At1) (n:Nat):refs n (qaf L)=[]:=qg1 _ _ (by simp)
@[simp]theorem rfI(L:List Int) (n:Nat):refs n (AV.fslc 1 (L.map qau))=[]:=qg1 _ _ (by simp)
def whV(t:Tr) (i:Int):AV:=.tup [.int .i64 i,.int .i64 ((qa1 t i).kids.length:Int)]
@[simp]theorem pure_whV(t:Tr) (i:Int):qa2 (whV t i)=true:=by simp[whV,qa2,qa3]
theorem c162{s:SS} (ne:s.tree≠[]) (x:Int) (h0:0<=x) (h1:x < (s.tree.length:Int)):SC T 162 [.int .i64 x] s (whV s.tree x) (s):=by
 have g0:=@vg0;have v0:=@vset;obtain⟨u,e⟩ : ∃u:Nat,x=(u:Int):=⟨x.toNat,by omega⟩;have hu:u < s.tree.length:=by omega
 have gk:=vgk (k:=1) (s:=s) (by omega) ne;have ix:=ixN (k:=1) hu;have gN:=getN (c:=6) hu (by omega);have lI:∀H,qeq PG H 38 (qac (qa1 s.tree (u:Int)).kids)=some (qa1 s.tree (u:Int)).kids.length:=fun H=>qn0;refine qa0 (s0:=⟨[0,1,4,5],[.ptr 0 0,.int .i64 x,uD,uD],[],17,⟨2,[]::[VS 1 s]⟩⟩) Tryz.func162 rfl rfl rfl ?_
 (repeat' (first
  |with_reducible apply qaa
  |(with_reducible apply rE;simp[zS, *,SS.post,gk,ix,gN,lI,Nd.cs];exact rfl)
  |(refine qzf mixed qb6 (by decide +kernel) (by decide +kernel) ?_;apply qz1;simp[zS,evalK_c,qti,qxo, *,SS.post,gk,ix,gN,lI,Nd.cs];exact rfl)
  |(with_reducible apply qad;simp only[qab,qa5])
  |(with_reducible apply qa7;simp[zQ,Tryz.f162])))
 all_goals first|((try simp[zQ,Tryz.f162]);exact qbz (by subst e;rfl) (by first|rfl|(simp[*];done)) (by simp[qa2,qa3]) (by decide) (ne) rfl rfl)|(exfalso;omega)
theorem inj_162(x y:Int) (h:(fun z:Int=>([.int .i64 z]:List AV)) x=(fun z:Int=>([.int .i64 z]:List AV)) y):x=y:=by simp only[List.cons.injEq,and_true]at h;exact AV.int.inj h |>.2
def e162:Entry PG:=mkS 162 [[]] (fun z:Int=>[.int .i64 z]) (fun z s=>(0<=z)/\(z < (s.tree.length:Int))) (fun z s=>whV s.tree z) (fun z s=>s) fun z s ne h=>⟨c162 (T:=[])  ne z h.1 h.2,by simp[qa3,qa2],by simp[qa2,qa3],ne⟩
theorem k162(hT:qa9 162 T=some e162.g) {s:SS} (ne:s.tree≠[]) (x:Int) (h0:0<=x) (h1:x < (s.tree.length:Int)) {n k:Nat} {fr:List (Nat × Blk)} (k0:0 < k) (kn:k < n) (of:qga k fr):qat (ctx T) (.fn 162) [.ptr 0 0,.int .i64 x] ⟨n,[fr,VS k s]⟩=some (whV s.tree x,⟨n+1,[fr,VS n (s)]⟩):=
 qct hT inj_162 (x) ne ⟨h0,h1⟩ (by simp[qa3,qa2]) (by simp[qbb,qaj]) k0 kn of
def whP(t:Tr) (i:Int):Int:=if isB t i=true then i else 0
theorem qzh{t:Tr} (hne:t≠[]) (i:Int):∃u:Nat,whP t i=(u:Int)/\u < t.length:=by
 unfold whP;split
 next h=>obtain⟨h1,h2⟩:=isB_iff.1 h;exact⟨i.toNat,by omega,by omega⟩
 ·exact⟨0,rfl,by have:=List.length_pos_iff.2 hne;omega⟩
theorem c137(hc0:qa9 162 T=some e162.g) {s:SS} (ne:s.tree≠[]) (i:Int) (hf:s.foster=false):SC T 137 [.int .i64 i] s (whV s.tree (whP s.tree i)) (s):=by
 have kc0:=@k162 T hc0;have g0:=@vg0;have v0:=@vset;have ln:=fun H k=>lenN' (k:=k) (t:=s.tree) H;have hp:=List.length_pos_iff.2 ne;have hx:∀x,whV s.tree x=.tup [.int .i64 x,.int .i64 ((qa1 s.tree x).kids.length:Int)]:=fun _=>rfl;have hw:whP s.tree i=if 0<=i/\i < (s.tree.length:Int) then i else 0:=by unfold whP isB;simp only[Bool.and_eq_true,decide_eq_true_eq]
 refine qa0 (s0:=⟨[0,1,4,5],[.ptr 0 0,.int .i64 i,uD,uD],[],45,⟨2,[]::[VS 1 s]⟩⟩) Tryz.func137 rfl rfl rfl ?_
 (repeat' (first
  |with_reducible apply qaa
  |with_reducible apply qa4
  |(with_reducible apply rE;simp[zS, *,SS.post,ln];exact rfl)
  |(with_reducible apply qad;simp only[qab,qa5])
  |(with_reducible refine qe3 (fun hc=>?_) (fun hc=>?_)<;>(have hd:=hc;(try simp at hd);(try subst hd);apply qz1;simp[zS, *,SS.post,ln];exact rfl))
  |(with_reducible refine qy7 (fun hc=>?_) (fun hc=>?_)<;>(have hd:=hc;(try simp at hd);(try subst hd);apply qz1;simp[zS, *,SS.post,ln];exact rfl))
  |apply qah rfl
  |apply qai rfl
  |(refine qbf rfl (fun hc=>?_) (fun hc=>?_)<;>(have hd:=hc;(try simp at hd);(try subst hd)))
  |(with_reducible apply qa6;simp only[qab,qa5])
  |(with_reducible apply qa7;simp[zQ,Tryz.f137])))
 all_goals first|((try simp[zQ,Tryz.f137]);exact qbz (by(simp only[hw,hx];split<;>first|rfl|(exfalso;omega))) (by first|rfl|(simp[*];done)) (by simp[qa2,qa3]) (by decide) (ne) rfl rfl)|(exfalso;omega)
def e137:Entry PG:=mkS 137 [[]] (fun z:Int=>[.int .i64 z]) (fun z s=>(s.foster=false)) (fun z s=>whV s.tree (whP s.tree z)) (fun z s=>s) fun z s ne h=>⟨c137 (T:=[e162]) rfl ne z h,by simp[qa3,qa2],by simp[qa2,qa3],ne⟩
theorem k137(hT:qa9 137 T=some e137.g) {s:SS} (ne:s.tree≠[]) (i:Int) (hf:s.foster=false) {n k:Nat} {fr:List (Nat × Blk)} (k0:0 < k) (kn:k < n) (of:qga k fr):qat (ctx T) (.fn 137) [.ptr 0 0,.int .i64 i] ⟨n,[fr,VS k s]⟩=some (whV s.tree (whP s.tree i),⟨n+1,[fr,VS n (s)]⟩):=
 qct hT inj_162 (i) ne hf (by simp[qa3,qa2]) (by simp[qbb,qaj]) k0 kn of
def qix(t:Tr) (nd:Nd):Tr:=t++[fresh nd]
@[simp]theorem qhr(t:Tr) (nd:Nd):qix t nd≠[]:=by simp[qix]
theorem qi5{t:Tr} (hne:t≠[]) (up at_ kid:Int):qlf t up at_ kid≠[]:=by
 unfold qlf;split
 ·simp[setUp]
 ·exact hne
theorem c25S(hc0:qa9 87 T=some e87.g) {s:SS} (ne:s.tree≠[]) (nd:Nd) (hl:s.tree.length+1<=1000000) (ha:nd.attrs.length<=1000000):SC T 25 [qag nd] s (.int .i64 (s.tree.length:Int)) ({ s with tree:=qix s.tree nd }):=by have kc0:=@k87 T hc0;have g0:=@vg0;have v0:=@vset;exact c25 (T:=T) hc0 (ok_S s (k:=1) (m:=2) (by omega) (by omega)) hl nd ha
theorem zbg(x y:Nd) (h:(fun z:Nd=>([qag z]:List AV)) x=(fun z:Nd=>([qag z]:List AV)) y):x=y:=by simp only[List.cons.injEq,and_true]at h;exact qh7 h
def e25S:Entry PG:=mkS 25 [[0,0,0,2,0,0,1]] (fun z:Nd=>[qag z]) (fun z s=>(s.tree.length+1<=1000000)/\(z.attrs.length<=1000000)) (fun z s=>.int .i64 (s.tree.length:Int)) (fun z s=>{ s with tree:=qix s.tree z }) fun z s ne h=>⟨c25S (T:=[e87]) rfl ne z h.1 h.2,by simp[qa3,qa2],by simp[qa2,qa3],qhr _ _⟩
theorem k25S(hT:qa9 25 T=some e25S.g) {s:SS} (ne:s.tree≠[]) (nd:Nd) (hl:s.tree.length+1<=1000000) (ha:nd.attrs.length<=1000000) {n k:Nat} {fr:List (Nat × Blk)} (k0:0 < k) (kn:k < n) (of:qga k fr):qat (ctx T) (.fn 25) [.ptr 0 0,qag nd] ⟨n,[fr,VS k s]⟩=some (.int .i64 (s.tree.length:Int),⟨n+1,[fr,VS n ({ s with tree:=qix s.tree nd })]⟩):=
 qct hT zbg (nd) ne ⟨hl,ha⟩ (by simp[qa3,qa2]) (by simp[qbb,qaj]) k0 kn of
theorem c26S(hc0:qa9 173 T=some e173G.g) (hc1:qa9 88 T=some e88.g) (hc2:qa9 89 T=some e89.g) (hc3:qa9 78 T=some e78.g) {s:SS} (ne:s.tree≠[]) (up:Int) (at_:Int) (kid:Int) (ht:s.tree.length<=1000000) (hk:qd1 s.tree 999999):SC T 26 [.int .i64 up,.int .i64 at_,.int .i64 kid] s (.tup []) ({ s with tree:=qlf s.tree up at_ kid }):=by have g0:=@vg0;have v0:=@vset;exact SC.of (c26G (T:=T) hc0 hc1 hc2 hc3 (ok_S s (k:=1) (m:=2) (by omega) (by omega)) ne ht hk up at_ kid) rfl (qi5 ne _ _ _)
theorem inj_26S(x y:Int × Int × Int) (h:(fun z:Int × Int × Int=>([.int .i64 z.1,.int .i64 z.2.1,.int .i64 z.2.2]:List AV)) x=(fun z:Int × Int × Int=>([.int .i64 z.1,.int .i64 z.2.1,.int .i64 z.2.2]:List AV)) y):x=y:=by obtain⟨x0,x1,x2⟩:=x;obtain⟨y0,y1,y2⟩:=y;simp only[List.cons.injEq,and_true]at h;obtain⟨h0,h1,h2⟩:=h;have g0:x0=y0:=AV.int.inj h0 |>.2;have g1:x1=y1:=AV.int.inj h1 |>.2;have g2:x2=y2:=AV.int.inj h2 |>.2;subst g0 g1 g2;rfl
def e26S:Entry PG:=mkS 26 [[],[],[]] (fun z:Int × Int × Int=>[.int .i64 z.1,.int .i64 z.2.1,.int .i64 z.2.2]) (fun z s=>(s.tree.length<=1000000)/\(qd1 s.tree 999999)) (fun z s=>.tup []) (fun z s=>{ s with tree:=qlf s.tree z.1 z.2.1 z.2.2 }) fun z s ne h=>⟨c26S (T:=[e173G,e88,e89,e78]) rfl rfl rfl rfl ne z.1 z.2.1 z.2.2 h.1 h.2,by simp[qa3,qa2],by simp[qa2,qa3],qi5 ne _ _ _⟩
theorem k26S(hT:qa9 26 T=some e26S.g) {s:SS} (ne:s.tree≠[]) (up:Int) (at_:Int) (kid:Int) (ht:s.tree.length<=1000000) (hk:qd1 s.tree 999999) {n k:Nat} {fr:List (Nat × Blk)} (k0:0 < k) (kn:k < n) (of:qga k fr):qat (ctx T) (.fn 26) [.ptr 0 0,.int .i64 up,.int .i64 at_,.int .i64 kid] ⟨n,[fr,VS k s]⟩=some (.tup [],⟨n+1,[fr,VS n ({ s with tree:=qlf s.tree up at_ kid })]⟩):=
 qct hT inj_26S (up,at_,kid) ne ⟨ht,hk⟩ (by simp[qa3,qa2]) (by simp[qbb,qaj]) k0 kn of
theorem qyd{t:Tr} {b:Nat} (h:qd1 t b) (nd:Nd):qd1 (qix t nd) b:=fun n hn=>by
 rcases List.mem_append.1 hn with hn|hn
 ·exact h n hn
 ·simp at hn;subst hn;simp[fresh]
structure SOk (s:SS):Prop where
 ln:s.tree.length<=99999
 kd:qd1 s.tree 100000
 op:s.opn.length<=100000
def qwh(t:Tr) (up at_:Int) (nd:Nd):Tr:=qlf (qix t nd) up at_ t.length
@[simp]theorem qbi(t:Tr) (up at_:Int) (nd:Nd):qwh t up at_ nd≠[]:=qi5 (qhr _ _) _ _ _
theorem c144(hc0:qa9 25 T=some e25S.g) (hc1:qa9 26 T=some e26S.g) {s:SS} (ne:s.tree≠[]) (up:Int) (at_:Int) (nd:Nd) (ok:SOk s) (ha:nd.attrs.length<=1000000):SC T 144 [.int .i64 up,.int .i64 at_,qag nd] s (.int .i64 (s.tree.length:Int)) ({ s with tree:=qwh s.tree up at_ nd }):=by
 have kc0:=@k25S T hc0;have kc1:=@k26S T hc1;have g0:=@vg0;have v0:=@vset;have hl:=ok.ln;simp only[qag]at kc0;have hl1:s.tree.length+1<=1000000:=by omega
 have hl2:(qix s.tree nd).length<=1000000:=by simp[qix];omega
 have hk2:qd1 (qix s.tree nd) 999999:=qyd (fun n hn=>Nat.le_trans (ok.kd n hn) (by omega)) nd;refine qa0 (s0:=⟨[0,1,2,3,7,8,9],[.ptr 0 0,.int .i64 up,.int .i64 at_,qag nd,uD,uD,uD],[],23,⟨2,[]::[VS 1 s]⟩⟩) Tryz.func144 rfl rfl rfl ?_
 (repeat' (first
  |with_reducible apply qaa
  |(with_reducible apply rE;simp[zS, *,SS.post,qag];exact rfl)
  |(with_reducible apply qad;simp only[qab,qa5])
  |(refine qay mixed qb6 (by decide +kernel) (by decide +kernel) rfl ?_;apply qh0;simp[zS,zW,qb9,qbt,qaz,Heap.lay,qb8, *,SS.post,qag];exact rfl)
  |(with_reducible apply qbc;refine⟨by repeat first|exact qdi|refine qdj (by decide +kernel) ?_,?_⟩;simp only[qab,qa5,allPend,Heap.lay,qb8])
  |(with_reducible apply qa7;simp[zQ,Tryz.f144])))
 all_goals first|((try simp[zQ,Tryz.f144]);exact qbz (by rfl) (by first|rfl|(simp[*];done)) (by simp[qa2,qa3]) (by decide) (qbi _ _ _ _) rfl rfl)|(exfalso;omega)
theorem zbh(x y:Int × Int × Nd) (h:(fun z:Int × Int × Nd=>([.int .i64 z.1,.int .i64 z.2.1,qag z.2.2]:List AV)) x=(fun z:Int × Int × Nd=>([.int .i64 z.1,.int .i64 z.2.1,qag z.2.2]:List AV)) y):x=y:=by obtain⟨x0,x1,x2⟩:=x;obtain⟨y0,y1,y2⟩:=y;simp only[List.cons.injEq,and_true]at h;obtain⟨h0,h1,h2⟩:=h;have g0:x0=y0:=AV.int.inj h0 |>.2;have g1:x1=y1:=AV.int.inj h1 |>.2;have g2:x2=y2:=qh7 h2;subst g0 g1 g2;rfl
def e144:Entry PG:=mkS 144 [[],[],[0,0,0,2,0,0,1]] (fun z:Int × Int × Nd=>[.int .i64 z.1,.int .i64 z.2.1,qag z.2.2]) (fun z s=>(SOk s)/\(z.2.2.attrs.length<=1000000)) (fun z s=>.int .i64 (s.tree.length:Int)) (fun z s=>{ s with tree:=qwh s.tree z.1 z.2.1 z.2.2 }) fun z s ne h=>⟨c144 (T:=[e25S,e26S]) rfl rfl ne z.1 z.2.1 z.2.2 h.1 h.2,by simp[qa3,qa2],by simp[qa2,qa3],qbi _ _ _ _⟩
structure Tk where
 kind:Int
 name:Str
 attrs:List At1
 self:Bool
 data:Str
def Tk.cs(t:Tk):List AV:=[.int .i64 t.kind,.str t.name,qaf t.attrs,.bool t.self,.str t.data]
def qer(t:Tk):AV:=.agg t.cs
theorem zbd{a b:Tk} (h:a.cs=b.cs):a=b:=by
 simp only[Tk.cs,List.cons.injEq,AV.int.injEq,AV.str.injEq,AV.bool.injEq,true_and,and_true]at h;obtain⟨h1,h2,h3,h4,h5⟩:=h;have h3:=qdv h3;cases a;cases b
 simp_all
theorem qqx{a b:Tk} (h:qer a=qer b):a=b:=zbd (AV.agg.inj h)
@[simp]theorem qqh(t:Tk):qa3 t.cs=true:=by simp[Tk.cs,qa3,qa2]
@[simp]theorem pure_aTok(t:Tk):qa2 (qer t)=true:=by simp[qer,qa2]
@[simp]theorem ok_fptr(cs:List AV) (o:Nat):okV (.fptr cs o)=true:=by simp[okV,qa2]
@[simp]theorem ok_aTok(t:Tk):okV (qer t)=true:=by simp[qer,okV,Tk.cs,qa3,qa2,qaf]
def elT(t:Tr) (top sp:Int) (nm:Str) (L:List At1):Tr:=qwh t (whP t top) ((qa1 t (whP t top)).kids.length:Int) ⟨1,sp,nm,L,[],0,[]⟩
def elS(s:SS) (sp:Int) (nm:Str) (L:List At1):SS:={ s with tree:=elT s.tree (qgd s.opn) sp nm L,opn:=s.opn++[(s.tree.length:Int)] }
theorem putL(hT:qa9 144 T=some e144.g) {s:SS} (ne:s.tree≠[]) (up at_:Int) (nd:Nd) (hu:nd.up=0) (hk:nd.kids=[]) (ok:SOk s) (ha:nd.attrs.length<=1000000) {n k:Nat} {fr:List (Nat × Blk)} (k0:0 < k) (kn:k < n) (of:qga k fr) :
  qat (ctx T) (.fn 144) [.ptr 0 0,.int .i64 up,.int .i64 at_,.agg [.int .i64 nd.kind,.int .i64 nd.space,.str nd.name,qaf nd.attrs,.str nd.data,.int .i64 0,.nilS]] ⟨n,[fr,VS k s]⟩=some (.int .i64 (s.tree.length:Int),⟨n+1,[fr,VS n { s with tree:=qwh s.tree up at_ nd }]⟩):=
 qct hT zbh (up,at_,nd) ne ⟨ok,ha⟩ (by simp[qa3,qa2]) (by cases nd;simp only at hu hk;subst hu hk;simp[qbb,qcy,qjf,qhd,okV,qag,Nd.cs,qau,qaf,qac,qa2,qa3]) k0 kn of
def xV(L:List Int):AV:=match L with
 |[]=>.zslc
 |_::_=>.xslc 1 (L.map qau)
@[simp]theorem qsi(L:List Int):qa3 (L.map qau)=true:=by have:=(qg6 L).pure;rw[qc8]at this;exact this
theorem qfk(L:List Int):qa8 (L.map qau)=L.map qau:=qc8 L
theorem sl_x(H:Heap) (L:List Int):qcs PG H 38 (qac L) none (some (.int .i64 (L.length:Int))) (some (.int .i64 (L.length:Int)))=some (xV L):=by
 have h1:∀q,idx (L.length:Int) (q+L.length+1)=some L.length:=fun q=>qbj (by omega);have h1:idx (L.length:Int) (Nat.succ L.length)=some L.length:=qbj (by omega);cases L with
 |nil=>rfl
 |cons x r=>
  generalize hL:x::r=L at *;have hp:L.length≠0:=by rw[<- hL];simp
  have e:xV L=.xslc 1 (L.map qau):=by rw[<- hL];rfl
  rw[e];obtain⟨m,hm⟩ : ∃m,L.length=m+1:=⟨L.length - 1,by omega⟩;have ht:(L.map qau).take (m+1)=L.map qau:=List.take_of_length_le (by simp[hm]);simp only[qcs,qr3,Tryz.underlying38,qmt,Option.bind_some,Nat.beq_refl,qch,qac,List.length_map,h1];simp only[hm,ht]
theorem ap_x(H:Heap) (L:List Int) (b:Nat) (i:Int) (hl:L.length<=1000000) (hb:H.get b=some (.cells [.int .i64 i])):qby PG H 3 (xV L) (.slc b 0 1 (.ex 1))=some (.slc H.n 0 (L.length+1) (.rest 1),H.new (.cells ((L++[i]).map qau))):=by
 have hr:qde (L.length+1) 8=true:=by unfold qde;rw[Nat.ble_eq];omega
 have hx:qb3 H 1 1 (.slc b 0 1 (.ex 1))=some [.int .i64 i]:=by simp[qb3,readCells,hb,Blk.rd]
 have ho:qb3 H 1 L.length (.fslc 1 (L.map qau))=some (L.map qau):=by simp[qb3,qfk,List.take_of_length_le]
 have c0:(Nat.beq 1 0 || !(Nat.beq 1 1 && Nat.blt 0 8))=false:=rfl;have hrow:∀cs,qpi PG 3 cs=.cells cs:=fun _=>rfl;cases L with
 |nil=>simp only[qby,xV,qmt,qxh,qvk,Option.bind_some,qc3,hx];rfl
 |cons x r=>
  generalize hL:x::r=L at *;have e:xV L=.xslc 1 (L.map qau):=by rw[<- hL];rfl
  have hb2:Nat.beq ([(.int .i64 i:AV)].length) (1 * 1)=true:=rfl;have hb3:Nat.beq (L.map qau).length (L.length * 1)=true:=by simp
  rw[e];simp only[qby,qmt,qxh,qvk,Option.bind_some,qc3,List.length_map,hx,ho,AV.cells,List.length_singleton,c0,hr,hb2,hb3,Bool.and_self,hrow,List.map_append,List.map_cons,List.map_nil,qau];simp
theorem zab{n b:Nat} {cs:List AV} {g:List (Nat × Blk)} (hc:qa3 cs=true):qht (Nat.succ (Nat.succ n)) [b] ((b,.cells cs)::g) []=([(b,.cells cs)],g):=by
 have e:getF b ((b,Blk.cells cs)::g)=some (.cells cs):=by unfold getF;simp only[Nat.beq_refl]
 have hr:qy2 (.cells cs)=[]:=by simp only[qy2];exact qdu _ _ hc
 have hk:killF b ((b,Blk.cells cs)::g)=g:=by unfold killF;simp only[Nat.beq_refl]
 unfold qht;simp only[e,hr,hk,List.nil_append];unfold qht;rfl
theorem prom_S{s:SS} {k c:Nat} {cs:List AV} {g:List (Nat × Blk)} (hc:qa3 cs=true) (ne:s.tree≠[]) (h0:getF 0 ((c,.cells cs)::g)=none):qdd 0 [c] [] [(c,.cells cs)::g,VS k s]=[g,(c,.cells cs)::VS k s]:=by have h1:=zab (n:=99998) (b:=c) (g:=g) hc;have h2:qht 100000 [c] ((c,.cells cs)::g) []=([(c,.cells cs)],g):=h1;unfold qdd;simp only[h0,h2];unfold qdd;simp only[vg0 ne,List.append_nil,List.cons_append,List.nil_append]
theorem setR{s:SS} {k:Nat} (ne:s.tree≠[]) (X:Blk):setF 0 X (VS k s)=some [(0,X),(k,.cells (qa8 (s.tree.map qag)))]:=by rw[qf4 ne];rfl
theorem ql4{σ:List (Nat × Nat)} {Φ:List (Nat × List AV)} {c:Nat} {L:List Int} (h:qcn c Φ=some (L.map qau)):qap σ Φ (.slc c 0 L.length (.rest 1)) (qac L):=by
 simp only[qap,qac];refine .inl ⟨L.map qau,h,?_,by simp,?_⟩
 ·rw[qfk];have:=qkm (a:=[]) (b:=L.map qau) (c:=[]) rfl rfl;simpa using this
 ·exact(qg6 L).size
theorem ends_SO{v v':AV} {s':SS} {H:Heap} {k c:Nat} (e:v=v') (hv:qa2 v'=true) (ne:s'.tree≠[]) (kc:0 < k/\0 < c/\k≠c) (h0:H.get 0=some (.cells (nV k s'.tree::.slc c 0 s'.opn.length (.rest 1)::s'.post.tail))) (hk:H.get k=some (.cells (qa8 (s'.tree.map qag)))) (hc:H.get c=some (.cells (s'.opn.map qau))) :
  ∃σ Φ,qap σ Φ v v'/\FitH 2 σ Φ H ⟨3,[VS 2 s']⟩:=
 ⟨[(k,2),(0,0)],[(c,s'.opn.map qau)],by subst e;exact qbd hv,fitSG ⟨by omega,by omega,by simp⟩ (by omega) kc.1 ne h0 hk (by simp only[qax,SS.post,List.tail_cons];refine⟨by simp[qap,qav],ql4 (by simp[qcn]),?_⟩;have:=qfe s';simp only[SS.post,qa3,Bool.and_eq_true]at this;simp[qax,qap,qa2]) (by simp;omega) (fun x hx=>by simp at hx;subst hx;exact⟨hc,qsi _⟩)⟩
theorem c53(hc0:qa9 44 T=some e44.g) (hc1:qa9 137 T=some e137.g) (hc2:qa9 144 T=some e144.g) {s:SS} (ne:s.tree≠[]) (t:Tk) (sp:Int) (hf:s.foster=false) (ok:SOk s) (ha:t.attrs.length<=1000000):SC T 53 [qer t,.int .i64 sp] s (.int .i64 (s.tree.length:Int)) (elS s sp t.name t.attrs):=by
 have kc0:=@k44 T hc0;have kc1:=@k137 T hc1;have g0:=@vg0;have v0:=@vset;have bld:qdw PG 65 [(0,.int .i64 1),(1,.int .i64 sp),(2,.str t.name),(3,qaf t.attrs)]=some (.agg [.int .i64 1,.int .i64 sp,.str t.name,qaf t.attrs,.str [],.int .i64 0,.nilS]):=rfl;have rS:=@prom_S;have sR:=@setR;clear v0;have lI:=fun H=>qn0 (H:=H) (L:=s.opn);have sX:=fun H=>sl_x H s.opn;have aX:=fun H b i=>ap_x H s.opn b i (by have:=ok.op;omega);have kT:=fun H=>kc0 (L:=s.opn) (by have:=ok.op;omega) H;have kP:=fun up at_ n k fr=>@putL T hc2 s ne up at_ ⟨1,sp,t.name,t.attrs,[],0,[]⟩ rfl rfl ok ha n k fr;have ec:t.cs=[.int .i64 t.kind,.str t.name,qaf t.attrs,.bool t.self,.str t.data]:=rfl;refine qa0 (s0:=⟨[0,1,2,4,6,7,8,9],[.ptr 0 0,qer t,.int .i64 sp,uD,uD,uD,uD,uD],[],52,⟨2,[]::[VS 1 s]⟩⟩) Tryz.func53 rfl rfl rfl ?_
 (repeat' (first
  |with_reducible apply qaa
  |(with_reducible apply rE;simp[zS, *,SS.post,qer,whV,Tk.cs,qa3,qa2,qau];exact rfl)
  |(with_reducible apply qad;simp only[qab,qa5])
  |(refine qay mixed qb6 (by decide +kernel) (by decide +kernel) rfl ?_;apply qh0;simp[zS,zW,qb9,qbt,qaz,Heap.lay,qb8, *,SS.post,qer,whV,Tk.cs,qa3,qa2,qau];exact rfl)
  |(with_reducible apply qbc;refine⟨by repeat first|exact qdi|refine qdj (by decide +kernel) ?_,?_⟩;simp only[qab,qa5,allPend,Heap.lay,qb8])
  |(with_reducible apply qa7;simp[zQ,Tryz.f53])))
 all_goals first|((try simp[zQ,Tryz.f53]);exact ends_SO (k:=4) (c:=27) rfl rfl (qbi _ _ _ _) (by decide) (by simp[zG,elS,elT,SS.post,hf]) (by simp[zG,elS,elT]) (by simp[zG,elS,qau]))|(exfalso;omega)
theorem inj_53(x y:Tk × Int) (h:(fun z:Tk × Int=>([qer z.1,.int .i64 z.2]:List AV)) x=(fun z:Tk × Int=>([qer z.1,.int .i64 z.2]:List AV)) y):x=y:=by obtain⟨x0,x1⟩:=x;obtain⟨y0,y1⟩:=y;simp only[List.cons.injEq,and_true]at h;obtain⟨h0,h1⟩:=h;have g0:x0=y0:=qqx h0;have g1:x1=y1:=AV.int.inj h1 |>.2;subst g0 g1;rfl
def e53:Entry PG:=mkS 53 [[0,0,2,0,0],[]] (fun z:Tk × Int=>[qer z.1,.int .i64 z.2]) (fun z s=>(s.foster=false)/\(SOk s)/\(z.1.attrs.length<=1000000)) (fun z s=>.int .i64 (s.tree.length:Int)) (fun z s=>elS s z.2 z.1.name z.1.attrs) fun z s ne h=>⟨c53 (T:=[e44,e137,e144]) rfl rfl rfl ne z.1 z.2 h.1 h.2.1 h.2.2,by simp[qa3,qa2],by simp[qa2,qa3],qbi _ _ _ _⟩
theorem k53(hT:qa9 53 T=some e53.g) {s:SS} (ne:s.tree≠[]) (t:Tk) (sp:Int) (hf:s.foster=false) (ok:SOk s) (ha:t.attrs.length<=1000000) {n k:Nat} {fr:List (Nat × Blk)} (k0:0 < k) (kn:k < n) (of:qga k fr):qat (ctx T) (.fn 53) [.ptr 0 0,qer t,.int .i64 sp] ⟨n,[fr,VS k s]⟩=some (.int .i64 (s.tree.length:Int),⟨n+1,[fr,VS n (elS s sp t.name t.attrs)]⟩):=
 qct hT inj_53 (t,sp) ne ⟨hf,ok,ha⟩ (by simp[qa3,qa2]) (by simp[qbb,qaj]) k0 kn of
def Place.wat(ρ:Place) (a:Nat->Option Loc):Place:={ ρ with at_:=a }
theorem CallAt.lendF{C:Ctx} {f:FuncId} {args args':List AV} {len:Nat} {cap:Cap} {cs:List AV} {v:AV} (h:CallAt C f args' ⟨0,[]⟩ (.slc 0 0 len cap) ⟨1,[[(0,.cells cs)]]⟩) (hs:qi2 cs=true) (hp:qa3 cs=true)
  (hv:qap [] [(0,cs)] (.slc 0 0 len cap) v) {H:Heap} {Φ:List (Nat × List AV)} (hH:(H.ents.map (·.1)).Nodup->FitH 0 [] Φ H ⟨0,[]⟩) (hf:qax [] Φ args args'):CallAt C f args H v H:=by
 intro ρ w xs sm hx;have fh:=hH sm.nodup;have hx':VRs (qbl 0 [] Φ ρ w sm.below) args' xs:=by obtain⟨k1,k2⟩:=qco hf;refine⟨by rw[hx.1,k1],fun i h1 h2=>?_⟩;exact Fits.run (fh.fits sm) sm _ (Nat.le_refl _) (hx.2 i (by omega) h2) (k2 i (by omega) h1)
 have up:∀{x:Value} {ρ':Place} {w':World},VR ρ' (.slc 0 0 len cap) x->Sim ρ' ⟨1,[[(0,.cells cs)]]⟩ w'->Step (qbl 0 [] Φ ρ w sm.below) ⟨0,[]⟩ w ρ' ⟨1,[[(0,.cells cs)]]⟩ w' ->
   ∃ρ2,VR ρ2 v x/\Sim ρ2 H w'/\Step ρ H w ρ2 H w':=by
  intro x ρ' w' h1 h2 h3;obtain⟨l,l1,l2,l3,l4⟩:=h2.live (0,.cells cs) (by simp[Heap.ents]);simp only at l1;have hrow:w.heap.size<=l.cb:=by
   rcases h3.rows (0,.cells cs) (by simp[Heap.ents]) l l1 with⟨e,he,_⟩|h
   ·cases he
   ·exact h
  have hkeep:∀k,k < w.heap.size->w'.heap[k]? = w.heap[k]?:=fun k hk=>h3.keeps k hk fun e he=>by cases he
  have hw:∀k,ρ.B k->w'.heap[k]? = ρ.W.heap[k]?:=fun k hk=>(hkeep k (sm.base k hk)).trans (sm.below k hk);have hB:∀k,(qbl 0 [] [] ρ w' hw).B k->ρ.B k:=fun k hk=>by
   rcases hk with hk|⟨b,c,l,hm,_⟩
   ·exact hk
   ·cases hm
  have hat:((qbl 0 [] [] ρ w' hw).upd 0 l) 0=some l:=Place.upd_same;have sme:Sim ((qbl 0 [] [] ρ w' hw).upd 0 l) ⟨1,[[(0,.cells cs)]]⟩ w':=by
   refine⟨fun k hk=>Nat.lt_of_lt_of_le (sm.base k (hB k hk)) h3.size,fun k hk=>rfl,rfl,rfl,rfl,fun b hb=>?_,by simp[Heap.ents],fun e he=>?_,fun e e' he he' m m' _ _ _=>?_⟩
   ·have hb:1<=b:=hb;rw[Place.upd_other (by omega)];rfl
   ·simp[Heap.ents]at he;subst he;refine⟨l,hat,fun hk=>?_,l3,l4.1,l4.2.1,fun i hi=>?_⟩
    ·have:=sm.base _ (hB _ hk);omega
    ·obtain⟨y,hy,hv⟩:=l4.2.2 i hi;exact⟨y,hy,hv.scalar (qhg hs i hi)⟩
   ·simp[Heap.ents]at he he';rw[he,he']
  have vre:VR ((qbl 0 [] [] ρ w' hw).upd 0 l) (.slc 0 0 len cap) x:=by
   cases h1 with
   |slcE b o len' c l' hl' hcap=>rw[l1]at hl';cases hl';exact .slcE _ _ _ c l hat hcap
   |slcR b o len' sz c l' hl' hcap hfin=>rw[l1]at hl';cases hl';exact .slcR _ _ _ _ c l hat hcap hfin
  have fe:FitH 0 [] [(0,cs)] ⟨1,[[(0,.cells cs)]]⟩ ⟨0,[]⟩:={
   nd1:=by simp
   nd2:=List.nodup_nil
   nd3:=List.nodup_nil
   lt:=fun x h=>by cases h
   idn:=fun x h=>by cases h
   num:=Nat.le_refl _
   src:=fun e he=>by simp[Heap.ents]at he
   frz:=fun x hx=>by simp at hx;subst hx;exact⟨cs,by simp[Heap.get,getFs,getF],qao hp,hp⟩ }
  have vr2:=Fits.run (fe.fits sme) sme _ (Nat.le_refl _) vre hv;have hB2:∀k,(qbl 0 [] [(0,cs)] ((qbl 0 [] [] ρ w' hw).upd 0 l) w' sme.below).B k->ρ.B k\/k=l.cb:=fun k hk=>by
   rcases hk with hk|⟨b,c,m,hm,hl,rfl⟩
   ·exact .inl (hB k hk)
   ·simp at hm;obtain⟨rfl,_⟩:=hm;rw[hat]at hl;cases hl;exact .inr rfl
  have hle:ρ.le ((qbl 0 [] [(0,cs)] ((qbl 0 [] [] ρ w' hw).upd 0 l) w' sme.below).wat ρ.at_):=
   ⟨fun _ _ h=>h,fun k hk=>⟨.inl (.inl hk),hw k hk⟩,(h2.os.trans h3.le.os).trans sm.os,(h2.tape.trans h3.le.tape).trans sm.tape,(h2.output.trans h3.le.output).trans sm.output⟩
  have vr3:VR ((qbl 0 [] [(0,cs)] ((qbl 0 [] [] ρ w' hw).upd 0 l) w' sme.below).wat ρ.at_) v x:=by have hl2:(qbl 0 [] [(0,cs)] ((qbl 0 [] [] ρ w' hw).upd 0 l) w' sme.below).le ((qbl 0 [] [(0,cs)] ((qbl 0 [] [] ρ w' hw).upd 0 l) w' sme.below).wat ρ.at_):=⟨fun b m hb=>by simp[qbl,qf3]at hb,fun _ hk=>⟨hk,rfl⟩,rfl,rfl,rfl⟩;exact vr2.mono hl2
  refine⟨((qbl 0 [] [(0,cs)] ((qbl 0 [] [] ρ w' hw).upd 0 l) w' sme.below).wat ρ.at_),vr3,⟨fun k hk=>?_,fun k hk=>rfl,rfl,rfl,rfl,sm.dom,sm.nodup,fun e he=>?_,sm.inj⟩,⟨hle,h3.size,fun k hk _=>hkeep k hk,fun e he l hl=>.inl ⟨e,he,l,hl,rfl⟩,Nat.le_refl _,fun _ _=>rfl,fun k hk=>?_⟩⟩
  ·rcases hB2 k hk with hk|rfl
   ·exact Nat.lt_of_lt_of_le (sm.base k hk) h3.size
   ·exact l3
  ·obtain⟨m,g1,g2,g3,g4⟩:=sm.live e he;refine⟨m,g1,fun hk=>?_,Nat.lt_of_lt_of_le g3 h3.size,(g4.same (hkeep _ g3)).mono hle⟩;rcases hB2 _ hk with hk|hk
   ·exact g2 hk
   ·omega
  ·rcases hB2 k hk with hk|rfl
   ·exact .inl hk
   ·exact .inr (.inr hrow)
 rcases h _ w xs (fh.sim sm (Nat.zero_le _)) hx' with⟨x,ρ',w',h0,h1,h2,h3⟩|⟨g,ys,h0,h1⟩
 ·obtain⟨ρ2,k1,k2,k3⟩:=up h1 h2 h3;exact .inl ⟨x,ρ2,w',h0,k1,k2,k3⟩
 ·refine .inr ⟨g,ys,h0,h1.mono ?_⟩;rintro e w' ⟨x,ρ',rfl,m1,m2,m3⟩;obtain⟨ρ2,k1,k2,k3⟩:=up m1 m2 m3;exact⟨x,ρ2,rfl,k1,k2,k3⟩
theorem scI:∀L:List Int,qi2 (L.map qau)=true
 |[]=>rfl
 |x::r=>by simp only[List.map_cons,qi2,scI r,qau,qf7,Bool.and_self]
theorem qk0{k:Nat} {L:List Int} (h:L≠[]):qcv k 1 (L.map qau)=.slc k 0 L.length (.rest 1)/\qd6 k (L.map qau)=[(k,.cells (L.map qau))]:=by
 have h':L.map qau≠[]:=by simpa using h
 rw[qcm h',qe9 h',qfk];simp
theorem CallAt.lendI{C:Ctx} {f:FuncId} {args args':List AV} {L:List Int} (h:CallAt C f args' zH (qcv 0 1 (L.map qau)) ⟨1,[qd6 0 (L.map qau)]⟩) {H:Heap} {Φ:List (Nat × List AV)} (hH:(H.ents.map (·.1)).Nodup->FitH 0 [] Φ H zH) (hf:qax [] Φ args args'):CallAt C f args H (qac L) H:=by
 cases L with
 |nil=>have h':CallAt C f args' zH (qac []) zH:=h.post (σ:=[]) (Φ:=[]) (by simp[qcv,qap,qac]) (.keep0 rfl);exact h'.borrow rfl hH hf
 |cons x r=>obtain⟨e1,e2⟩:=qk0 (k:=0) (L:=x::r) (by simp);rw[e1,e2]at h;exact h.lendF (scI _) (qsi _) (ql4 (by simp[qcn])) hH hf
section
variable {α:Type} (f:FuncId) (ss:List (List Nat)) (enc:α->List AV) (pre:α->Prop) (L:α->List Int)
open Classical in
def lenG(args:List AV) (H:Heap):Option (AV × Heap):=if h:∃x,qbb H ss args=some (enc x)/\pre x then some (qac (L h.choose),H) else none
def mkL(h:∀x,pre x->CallAt ⟨PG,fun _=>[],fun _=>none⟩ f (enc x) zH (qcv 0 1 ((L x).map qau)) ⟨1,[qd6 0 ((L x).map qau)]⟩):Entry PG:=
 ⟨f,lenG ss enc pre L,fun args H v H' hv=>by
  unfold lenG at hv;split at hv
  next hx=>simp only[sj,Prod.mk.injEq]at hv;obtain⟨rfl,rfl⟩:=hv;intro ρ w xs sm hxs;exact(h _ hx.choose_spec.2).lendI (fun hn=>qnq hn) (qeu sm.nodup hx.choose_spec.1) ρ w xs sm hxs
  ·cases hv⟩
variable {f ss enc pre L}
theorem qsq{h:∀x,pre x->CallAt ⟨PG,fun _=>[],fun _=>none⟩ f (enc x) zH (qcv 0 1 ((L x).map qau)) ⟨1,[qd6 0 ((L x).map qau)]⟩} {T:List (Entry PG)} (hT:qa9 f T=some (mkL f ss enc pre L h).g) (inj:∀x y,enc x=enc y->x=y) (x:α) (hx:pre x) {args:List AV} {H:Heap} (ht:qbb H ss args=some (enc x)) :
  qat (ctx T) (.fn f) args H=some (qac (L x),H):=by
 rw[qfa (C:=ctx T) (g:=(mkL f ss enc pre L h).g) hT];show lenG ss enc pre L _ _=_;unfold lenG;have hex:∃y,qbb H ss args=some (enc y)/\pre y:=⟨x,ht,hx⟩;rw[dif_pos hex,inj _ _ (Option.some.inj (hex.choose_spec.1.symm.trans ht))]
end
def qn9{X:Type} (goes:X->Int->Bool) (nx:X->Int->X):X->List Int->List Int × X
 |x,[]=>([],x)
 |x,i::r=>match r with
  |[]=>([i],x)
  |_::_=>if goes x i=true then qn9 goes nx (nx x i) r else (i::r,nx x i)
theorem qrj{X:Type} {goes:X->Int->Bool} {nx:X->Int->X}:∀(x:X) (l:List Int),(qn9 goes nx x l).1.length<=l.length
 |x,[]=>by simp[qn9]
 |x,[i]=>by simp[qn9]
 |x,i::j::r=>by
  unfold qn9;simp only;split
  ·have:=qrj (goes:=goes) (nx:=nx) (nx x i) (j::r);simp only[List.length_cons]at *;omega
  ·simp
theorem cut_at(hC:qa9 78 T=some e78.g) {X:Type} {m:Nat} {rows:X->List (Nat × Blk)} {fn:FuncId} {cap:List AV} {goes:X->Int->Bool} {nx:X->Int->X}
  (rk:∀x,((rows x).map (·.1)).Nodup/\∀e,e∈rows x->e.1 < m/\∃cs,e.2=.cells cs/\qa3 cs=true) (L:List Int) (hl:L.length<=1000000) (hcap:qax (idn m) [] cap cap)
  (hF:∀x i,i∈L->CallAt (ctx T) fn (.int .i64 i::cap) ⟨m,[[],rows x]⟩ (.bool (goes x i)) ⟨m,[[],rows (nx x i)]⟩) (x:X) :
  CallAt (ctx T) 186 [qac L,.func (.func fn) [] cap] ⟨m,[rows x]⟩ (qcv m 1 ((qn9 goes nx x L.reverse).1.reverse.map qau)) ⟨m+1,[qd6 m ((qn9 goes nx x L.reverse).1.reverse.map qau)++rows (qn9 goes nx x L.reverse).2]⟩:=by
 have lnL:=fun H=>qn0 (H:=H) (L:=L);have hcf:qap (idn m) [] (.func (.func fn) [] cap) (.func (.func fn) [] cap):=by simp only[qap];exact .inl ⟨trivial,by simp[qax],hcap⟩
 have fitR:∀y n',FitH m (idn m) [] ⟨n',[[],rows y]⟩ ⟨m,[[],rows y]⟩:=fun y n'=>qlw (Nat.le_refl m) (by simpa[Heap.ents]using(rk y).1) (fun e he=>by
  have he:e∈rows y:=by simpa[Heap.ents]using he
  obtain⟨h1,cs,h2,h3⟩:=(rk y).2 e he;exact⟨h1,by rw[h2];exact qgz h3,by simp only[zG];rw[qp4 (rk y).1 he]⟩) (Nat.le_refl m)
 obtain⟨R,hR⟩ : ∃R,R=qn9 goes nx x L.reverse:=⟨_,rfl⟩;rw[<- hR];have tail:∀(q:Nat) (y:X),q<=L.length->R=((L.take q).reverse,y)->∀n',FitH m (idn (m+1)) [] ⟨n',[qd6 m (R.1.reverse.map qau),rows y]⟩ ⟨m+1,[qd6 m (R.1.reverse.map qau)++rows R.2]⟩:=fun q y hq hRq n'=>by
  have ey:R.2=y:=by rw[hRq]
  rw[ey];generalize R.1.reverse=M;refine qlw (Nat.le_succ m) ?_ (fun e he=>?_) (Nat.le_refl _)
  ·simp only[Heap.ents,List.flatten_cons,List.flatten_nil,List.append_nil,List.map_append];rw[List.nodup_append];refine⟨by cases M<;>simp[qd6],(rk y).1,fun a ha b hb=>?_⟩;obtain⟨e,he,rfl⟩:=List.mem_map.1 hb;have:=((rk y).2 e he).1;cases M with
   |nil=>simp[qd6]at ha
   |cons z r=>simp[qd6]at ha;omega
  ·simp only[Heap.ents,List.flatten_cons,List.flatten_nil,List.append_nil,List.mem_append]at he;rcases he with he|he
   ·cases M with
    |nil=>simp[qd6]at he
    |cons z r=>simp only[List.map_cons,qd6,List.mem_singleton]at he;subst he;exact⟨Nat.lt_succ_self m,qgz (by rw[<- List.map_cons,qfk];exact qsi _),by simp[zG,qd6]⟩
   ·obtain⟨h1,cs,h2,h3⟩:=(rk y).2 e he;refine⟨by omega,by rw[h2];exact qgz h3,?_⟩;have:getF e.1 (qd6 m (M.map qau))=none:=by
     cases M with
     |nil=>rfl
     |cons z r=>simp[qd6,getF,qb4 (show m≠e.1 by omega)]
    simp only[Heap.get,getFs,this];rw[qp4 (rk y).1 he]
 obtain⟨M,hM⟩ : ∃M,M=R.1.reverse:=⟨_,rfl⟩;rw[<- hM]at tail ⊢;refine qa0 (s0:=⟨[0,1,4,5],[qac L,.func (.func fn) [] cap,uD,uD],[],25,⟨m,[]::[rows x]⟩⟩) Tryz.func186 rfl rfl rfl ?_;apply qR;simp[zS,lnL];apply qR;simp[zS,lnL];repeat apply wq
 refine qa4 (qb1 (fun q:Nat × X=>(⟨[0,1,4,5],[qac L,.func (.func fn) [] cap,.nilS,.int .i64 (q.1:Int)],[],25,⟨m,[[],rows q.2]⟩⟩ : St)) (fun q=>q.1<=L.length/\qn9 goes nx q.2 (L.take q.1).reverse=R) (fun q=>q.1) (idn m) [] (L.length,x) ⟨Nat.le_refl _,by simp[hR]⟩ ⟨rfl,rfl,rfl,by simp[qax,qap,hcap,qa2,qa3],fitR _ _⟩ ?_);rintro⟨q,y⟩ ⟨hq,hx⟩ B hB;simp only at hq hx;have hslc:∀H,qcs PG H 38 (qac L) none (some (.int .i64 (q:Int))) none=some (.fslc 1 ((L.take q).map qau)):=fun H=>by have h1:idx (q:Int) (Nat.succ L.length)=some q:=qbj (by omega);simp[qcs,qr3,qch,qac,h1,List.map_take]
 have kcl:=fun H=>k78 hC (L:=L.take q) (by simp;omega) H;simp only[List.map_take,qac]at kcl;rcases Nat.lt_or_ge q 2 with h2|h2
 ·have hgt:¬ ((1:Int) < (q:Int)):=by omega
  have hRq:R=((L.take q).reverse,y):=by
   rw[<- hx]
   match q,h2 with
   |0,_=>simp[qn9]
   |1,_=>
    cases L with
    |nil=>simp[qn9]
    |cons z r=>simp[qn9]
  apply qR;simp[zS,hgt];apply qai rfl;apply qas;simp;apply qR;simp[zS,hslc,kcl,qnt];apply qa7;have eM:M=L.take q:=by rw[hM,hRq];simp
  simp[zQ,Tryz.f186];rw[<- List.map_take,<- eM];exact⟨_,_,qeg (qdz (Nat.lt_succ_self m)),tail q y hq hRq _⟩
 ·obtain⟨k,hk0⟩ : ∃k,q=k+1:=⟨q - 1,by omega⟩;have hk:k < L.length:=by omega
  have hgt:((1:Int) < (q:Int)):=by omega
  have hw:wr .i64 ((q:Int) - 1)=some (k:Int):=by rw[hk0];exact qqa (by omega)
  have hat:=atI (L:=L) (i:=k) hk;have hf:=hF y L[k] (List.getElem_mem hk);have e1:(L.take q).reverse=L[k]::(L.take k).reverse:=by rw[hk0,List.take_succ_eq_append_getElem hk];simp
  have hne:(L.take k).reverse≠[]:=by intro e;have:=congrArg List.length e;simp only[List.length_reverse,List.length_take,List.length_nil]at this;omega
  have hx2:(if goes y L[k]=true then qn9 goes nx (nx y L[k]) (L.take k).reverse else ((L.take q).reverse,nx y L[k]))=R:=by
   rw[<- hx,e1];generalize (L.take k).reverse=Z at *;cases Z with
   |nil=>exact absurd rfl hne
   |cons z r=>rfl
  generalize L[k]=i at *;clear e1 hne hx;cases hg:goes y i with
  |false=>
   rw[hg]at hf hx2;simp only[Bool.false_eq_true,if_false]at hx2;repeat apply wq
   refine qam (qbu [⟨fn,_,_,_,_,hf⟩]) ?_;simp[zS,qd9,hgt,hw,hat];apply qai rfl;apply qas;simp;apply qR;simp[zS,hslc,kcl,qnt];apply qa7;have eM:M=L.take q:=(by rw[hM,<- hx2];simp);simp[zQ,Tryz.f186];rw[<- List.map_take,<- eM];exact⟨_,_,qeg (qdz (Nat.lt_succ_self m)),tail q _ hq hx2.symm _⟩
  |true=>
   rw[hg]at hf hx2;simp only[if_true]at hx2;repeat apply wq
   refine qam (qbu [⟨fn,_,_,_,_,hf⟩]) ?_;simp[zS,qd9,hgt,hw,hat];apply qah rfl;apply qa6;simp;apply qa4;apply qR;simp[zS,hw];exact hB _ (k,nx y i) (by simp only;omega) ⟨by simp only;omega,hx2⟩ ⟨idn m,[],rfl,rfl,rfl,by simp[qax,qap,hcap,qa2,qa3],fitR _ _⟩
structure FactR (C:Ctx) where
 b:Nat
 args:List AV
 H:Heap
 v:AV
 H':Heap
 ok:qg8 C b args H v H'
open Classical in
def qv8{C:Ctx}:List (FactR C)->qc5->qc5
 |[],call,c,args,H=>call c args H
 |x::r,call,c,args,H=>if c=.yl x.b/\args=x.args/\H=x.H then some (x.v,x.H') else qv8 r call c args H
theorem qrl{C:Ctx} {call:qc5} (hc:CallOK C call):∀(l:List (FactR C)),CallOK C (qv8 l call)
 |[]=>hc
 |x::r=>{
  fn:=fun f args H v H' h=>by
   unfold qv8 at h;split at h
   next hx=>cases hx.1
   ·exact(qrl hc r).fn f args H v H' h
  yl:=fun b args H v H' h=>by
   unfold qv8 at h;split at h
   next hx=>obtain⟨hf,rfl,rfl⟩:=hx;simp only[sj,Prod.mk.injEq]at h;obtain⟨rfl,rfl⟩:=h;cases hf;exact x.ok
   ·exact(qrl hc r).yl b args H v H' h }
theorem zcj(l:List (FactR (ctx T))):CallOK (ctx T) (qv8 l (qat (ctx T))):=qrl qb6 l
theorem qto{C:Ctx} {b:Nat} {args:List AV} {H H':Heap} {v:AV} {ok:qg8 C b args H v H'} {r:List (FactR C)} {call:qc5}:qv8 (⟨b,args,H,v,H',ok⟩::r) call (.yl b) args H=some (v,H'):=by simp[qv8]
section
variable {C:Ctx} {call:qc5} {ops:Array Oper} {H0:Heap} {s:St} {o:Oper} {l:List Oper} {P:St->Prop}
end
theorem qc6{b k:Nat} {x:Blk} (h:k≠b):getF b [(k,x)]=none:=by unfold getF;rw[qb4 h];rfl
open Classical in
def qz3:Code->Option (Code × Code)
 |.rangeFunc _ _ a b=>some (a,b)
 |.seq a b=>match qz3 a with
  |some x=>some x
  |none=>qz3 b
 |.block _ b=>qz3 b
 |.loop b=>qz3 b
 |.cond _ a b=>match qz3 a with
  |some x=>some x
  |none=>qz3 b
 |_=>none
def rgA(o:Option Code):Code:=match o.bind qz3 with
 |some x=>x.1
 |none=>.skip
def rgB(o:Option Code):Code:=match o.bind qz3 with
 |some x=>x.2
 |none=>.skip
def qy0(b:Nat) (R:List (Nat × Blk)):Prop:=(R.map (·.1)).Nodup/\∀e,e∈R->e.1 < b/\∃cs,e.2=.cells cs/\qa3 cs=true
structure RgK where
 ks:List Nat
 vs:List AV
 sz:Nat
 ps:List Nat
 as':Code
 bd:Code
def RgK.blk(K:RgK) (st:LoopState) (pend:Option Code) (ts:List (Nat × AV)):Blk:=.loop st pend K.ks K.vs ts K.sz K.ps K.as' K.bd
def RgK.rows{ρ:Type} (K:RgK) (b:Nat) (R:Option ρ->List (Nat × Blk)):Option ρ->List (Nat × Blk)
 |none=>(b,K.blk .ready none [])::R none
 |some r=>(b,K.blk .done (some .ret) [])::R (some r)
structure RgK.Ok {ρ:Type} (K:RgK) (b:Nat) (R:Option ρ->List (Nat × Blk)):Prop where
 vs:∀σ,Idl b σ->qax σ [] K.vs K.vs
 rows:∀c,qy0 b (R c)
section
variable {ρ:Type} {K:RgK} {b:Nat} {R:Option ρ->List (Nat × Blk)}
theorem RgK.Ok.self(h:K.Ok b R) (st:LoopState) (pend:Option Code) (ts:List (Nat × AV)):∀σ,Idl (b+1) σ->qji σ [] (K.blk st pend ts) (K.blk st pend []):=fun σ hσ=>
 ⟨rfl,rfl,rfl,h.vs σ fun i hi=>hσ i (by omega),rfl,rfl,rfl,rfl,rfl⟩
theorem RgK.Ok.fit(h:K.Ok b R) {N m:Nat} {st:LoopState} {pend:Option Code} {ts:List (Nat × AV)} {c:Option ρ} {H:Heap} (hN:N<=b+1) (hm:b+1<=m) (hb:H.get b=some (K.blk st pend ts)) (hr:∀e,e∈R c->H.get e.1=some e.2)
  {fs:List (List (Nat × Blk))} (hfs:fs.flatten=(b,K.blk st pend [])::R c):FitH N (idn (b+1)) [] H ⟨m,fs⟩ where
 nd1:=by simpa using qt8 (b+1)
 nd2:=qr1 (b+1)
 nd3:=by simp only[Heap.ents,hfs,List.map_cons,List.nodup_cons];refine⟨fun hx=>?_,(h.rows c).1⟩;obtain⟨e,he,hx⟩:=List.mem_map.1 hx;have:=((h.rows c).2 e he).1;omega
 lt:=fun x hx=>by
  obtain⟨i,hi,rfl⟩:=List.mem_map.1 hx;have:i < b+1:=by simpa using hi
  show i < m;omega
 idn:=fun x hx hlt=>by obtain⟨i,hi,rfl⟩:=List.mem_map.1 hx;rfl
 num:=by show N<=m;omega
 src:=fun e he=>by
  simp only[Heap.ents,hfs,List.mem_cons]at he;rcases he with rfl|he
  ·exact⟨b,_,qho (Nat.lt_succ_self b),hb,h.self _ _ _ _ (qr2 (b+1))⟩
  ·obtain⟨h1,cs,h2,h3⟩:=(h.rows c).2 e he;refine⟨e.1,e.2,qho (by omega),hr e he,?_⟩;rw[h2];exact qao h3
 frz:=fun x h=>by cases h
def qp1(go:Nat->Option ρ):Nat->Option ρ
 |0=>none
 |j+1=>match go j with
  |some r=>some r
  |none=>qp1 go j
def qrs:Option ρ->Out
 |none=>.normal
 |some _=>.ret
theorem quc(h:K.Ok b R) {args:List AV} {g:Option ρ} {s1:St} (hp:qse ⟨K.ks,K.vs,[],K.sz,⟨b+1,[[],[],(b,K.blk .ready none [])::R none]⟩⟩ K.ps args=some s1)
  (hw:∀l,WpSr (ctx T) (b+1) (some l) K.as' s1 fun x s=>x=.normal/\∃m f,s.H=⟨m,[f,[],(b,K.blk .ready none [])::R none]⟩/\getF b f=none /\
   ∀B,B=K.blk .busy none []->WpSr (ctx T) (b+1) (some l) K.bd { s with H:=⟨m,[f,[],(b,B)::R none]⟩ } fun x s'=>∃m' f',(∀i,i < b+1->getF i f'=none)/\s'.H=⟨m',[f',[],(b,B)::R g]⟩/\x=qrs g) :
  qg8 (ctx T) b args ⟨b+1,[[],(b,K.blk .ready none [])::R none]⟩ (.bool g.isNone) ⟨b+1,[[],K.rows b R g]⟩:=by
 refine qrv (pend:=none) (ks:=K.ks) (vs:=K.vs) (ts:=[]) (sz:=K.sz) (ps:=K.ps) (assign:=K.as') (body:=K.bd) (by simp[zG,RgK.blk]) hp fun l=>?_;refine(hw l).mono fun x s hs=>?_;obtain⟨rfl,m,f,hH,hf,hb⟩:=hs;refine⟨rfl,none,K.ks,K.vs,[],K.sz,K.ps,K.as',K.bd,⟨m,[f,[],(b,K.blk .busy none [])::R none]⟩,?_,?_,(hb _ rfl).mono fun x s' hs'=>?_⟩
 ·rw[hH];simp[zG,hf,RgK.blk]
 ·rw[hH];have hn:setF b (K.blk .busy none []) f=none:=qlm hf;unfold RgK.blk at hn;simp[Heap.set,setFs,setF,hn,RgK.blk]
 ·obtain⟨m',f',hf',hH',rfl⟩:=hs';have hfb:=hf' b (Nat.lt_succ_self b);have hn:∀k,setF b k f'=none:=fun k=>qlm hfb;refine⟨.busy,none,K.ks,K.vs,[],K.sz,K.ps,K.as',K.bd,⟨m',[f',[],(b,K.blk (qh5 (qrs g)).2.1 (qh5 (qrs g)).2.2 [])::R g]⟩,?_,?_,?_,idn (b+1),[],?_⟩
  ·rw[hH'];simp[zG,hfb,RgK.blk]
  ·rw[hH'];simp[Heap.set,setFs,setF,hn,RgK.blk]
  ·cases g<;>rfl
  ·have hg:∀e,e∈R g->Heap.get ⟨m',[f',[],(b,K.blk (qh5 (qrs g)).2.1 (qh5 (qrs g)).2.2 [])::R g]⟩ e.1=some e.2:=fun e he=>(by have h1:=((h.rows g).2 e he).1;have h2:Nat.beq b e.1=false:=qb4 (by omega);simp only[Heap.get,getFs,hf' e.1 (by omega),getF,h2];rw[qp4 (h.rows g).1 he]);refine h.fit (c:=g) (st:=(qh5 (qrs g)).2.1) (pend:=(qh5 (qrs g)).2.2) (ts:=[]) (Nat.le_refl _) (Nat.le_refl _) (by simp[zG,hfb]) hg ?_;cases g<;>simp[RgK.rows,qrs,qh5]
end
def qvf(L:List Int):AV:=.func (.func 188) [] [.fptr [qac L] 0]
theorem qnr(L:List Int):qa2 (qvf L)=true:=by simp[qvf,qa2,qa3]
theorem c130(L:List Int):CallAt (ctx T) 130 [qac L] zH (qvf L) zH:=by refine qa0 (s0:=⟨[0,1,2],[qac L,uD,uD],[],4,⟨0,[[]]⟩⟩) Tryz.func130 rfl rfl rfl ?_;apply qR;simp[zS];apply qR;simp[zS];apply qa7;simp[zQ,Tryz.f130];refine⟨[],[(0,[qac L])],by simp[qvf,qap,qax,qcn],.froze (by simp) fun x hx=>?_⟩;rw[List.mem_singleton]at hx;subst hx;exact⟨[qac L],by simp[zG],qao (by simp[qa3]),by simp[qa3]⟩
def e130:Entry PG:=mkE 130 [[1]] (fun L:List Int=>[qac L]) (fun _=>True) qvf fun L _=>c130 (T:=[]) L
theorem k130(hT:qa9 130 T=some e130.g) (L:List Int) (H:Heap):qat (ctx T) (.fn 130) [qac L] H=some (qvf L,H):=
 qee hT (fun x y h=>by simp only[List.cons.injEq,and_true]at h;exact qd2 h) L trivial (by simp[qa3]) (by simp[qbb]) H
section
variable {ρ:Type} {K:RgK} {b:Nat} {R:Option ρ->List (Nat × Blk)}
theorem qyv(h:K.Ok b R) (L:List Int) (hl:L.length<=1000000) (go:Nat->Option ρ) (hy:∀j (hj:j < L.length),qg8 (ctx T) b [.int .i64 (j:Int),.int .i64 L[j]] ⟨b+1,[[],(b,K.blk .ready none [])::R none]⟩ (.bool (go j).isNone) ⟨b+1,[[],K.rows b R (go j)]⟩) :
  CallAt (ctx T) 188 [.yld b,.fptr [qac L] 0] ⟨b+1,[(b,K.blk .ready none [])::R none]⟩ (.tup []) ⟨b+1,[K.rows b R (qp1 go L.length)]⟩:=by
 obtain⟨w,hw⟩ : ∃w:Int,w=(L.length:Int) - 1:=⟨_,rfl⟩;have hws:wr .i64 ((L.length:Int) - 1)=some w:=by rw[hw];exact qbs (by omega) (by omega)
 have lb:qav b (idn (b+1))=some b:=qdz (Nat.lt_succ_self b);have gb:∀{c:Option ρ} {n:Nat},∀e,e∈R c->Heap.get ⟨n,[[],K.rows b R c]⟩ e.1=some e.2:=fun {c n} e he=>by
  have h1:=((h.rows c).2 e he).1;have h2:Nat.beq b e.1=false:=qb4 (by omega);cases c with
  |none=>simp only[zG,RgK.rows,h2];rw[qp4 (h.rows _).1 he]
  |some r=>simp only[zG,RgK.rows,h2];rw[qp4 (h.rows _).1 he]
 have lnL:∀H,qeq PG H 38 (qac L)=some L.length:=fun H=>qn0;refine qa0 (s0:=⟨[0,1,3],[.yld b,.fptr [qac L] 0,uD],[],19,⟨b+1,[]::[(b,K.blk .ready none [])::R none]⟩⟩) Tryz.func188 rfl rfl rfl ?_;apply qR;simp[zS,lnL,hws];refine qa4 (qb1 (fun x:Nat × Int=>(⟨[0,1,3],[.yld b,.fptr [qac L] 0,.int .i64 x.2],[],19,⟨b+1,[[],(b,K.blk .ready none [])::R none]⟩⟩ : St))
  (fun x=>x.1<=L.length/\x.2=(x.1:Int) - 1/\qp1 go L.length=qp1 go x.1) (fun x=>x.1) (idn (b+1)) [] (L.length,w) ⟨Nat.le_refl _,hw,rfl⟩
  ⟨rfl,rfl,rfl,by simp[qax,qap,qa2,qa3,lb],h.fit (c:=none) (st:=.ready) (pend:=none) (ts:=[]) (Nat.le_refl _) (Nat.le_refl _) (by simp[zG,RgK.rows]) (gb (c:=none)) (by simp)⟩ ?_)
 rintro⟨j,v⟩ ⟨hj,hv,hx⟩ B hB;simp only at hj hv hx;cases j with
 |zero=>
  have hn:¬ 0<=v:=by omega
  apply qR;simp[zS,hn];apply qai rfl;apply qas;simp;refine⟨[],rfl,idn (b+1),[],by simp[oneOr,qap,qax],?_⟩;rw[hx];exact h.fit (c:=none) (st:=.ready) (pend:=none) (ts:=[]) (Nat.le_refl _) (Nat.le_refl _) (by simp[zG,RgK.rows]) (gb (c:=none)) (by simp[qp1,RgK.rows])
 |succ q=>
  have hvq:v=(q:Int):=by omega
  subst hvq;have hq:q < L.length:=by omega
  have hyq:=hy q hq;have hix:qan PG 38 (qac L) (.int .i64 (q:Int))=some (.fptr [.int .i64 L[q]] 0):=atIx hq;have hn:(0:Int)<=(q:Int):=by omega
  have hs1:wr .i64 ((q:Int) - 1)=some ((q:Int) - 1):=qbs (by omega) (by omega);simp only[qp1]at hx;generalize L[q]=x at *;apply qR;simp[zS,hn];apply qah rfl;apply qa6;simp;repeat apply wq
  apply qa4;obtain⟨g,hg⟩ : ∃g,go q=g:=⟨_,rfl⟩;rw[hg]at hx hyq;cases g with
  |some r=>
   simp only[Option.isNone_some]at hyq;repeat apply wq
   refine qam (zcj [⟨b,_,_,_,_,hyq⟩]) ?_;simp[zS,hix,zax,qau,qto];apply qah rfl;apply qa7;simp;refine⟨[],rfl,idn (b+1),[],by simp[oneOr,qap,qax],?_⟩;rw[hx];exact h.fit (c:=some r) (st:=.done) (pend:=some .ret) (ts:=[]) (Nat.le_refl _) (Nat.le_refl _) (by simp[zG,RgK.rows]) (gb (c:=some r)) (by simp[RgK.rows])
  |none=>
   simp only[Option.isNone_none]at hyq;repeat apply wq
   refine qam (zcj [⟨b,_,_,_,_,hyq⟩]) ?_;simp[zS,hix,zax,qau,qto];apply qai rfl;apply qa6;simp;apply qR;simp[zS,hs1];exact hB _ (q,(q:Int) - 1) (by simp) ⟨by simp only;omega,rfl,hx⟩ ⟨idn (b+1),[],rfl,rfl,rfl,by simp[qax,qap,qa2,qa3,lb],h.fit (c:=none) (st:=.ready) (pend:=none) (ts:=[]) (Nat.le_refl _) (Nat.le_refl _) (by simp[zG,RgK.rows]) (gb (c:=none)) (by simp)⟩
theorem qvg(h:K.Ok b R) (L:List Int) {ts:List (Nat × AV)} {g:Operand} {ps:Array Nat} (hps:ps.toList=K.ps) (ho:qbr ⟨K.ks,K.vs,ts,K.sz,⟨b,[R none]⟩⟩ g=some (qvf L)) {r:Option ρ} {call:qc5}
  (hc:call (.fn 188) [.yld b,.fptr [qac L] 0] ⟨b+1,[(b,K.blk .ready none ts)::R none]⟩=some (.tup [],⟨b+1,[K.rows b R r]⟩)) :
  qh9 (ctx T) call g ps K.as' K.bd ⟨K.ks,K.vs,ts,K.sz,⟨b,[R none]⟩⟩=some (qrs r,⟨K.ks,K.vs,ts,K.sz,⟨b+1,[R r]⟩⟩):=by
 have hent:qrg (ctx T) 188=true:=by kernel_rfl
 unfold qh9;rw[ho];simp only[Option.bind_some,hent,qvf,hps];have e:call (.fn 188) ([]++[.yld b]++[.fptr [qac L] 0]) (Heap.new ⟨b,[R none]⟩ (.loop .ready none K.ks K.vs ts K.sz K.ps K.as' K.bd))=some (.tup [],⟨b+1,[K.rows b R r]⟩):=hc;rw[e];cases r with
 |none=>simp[zG,RgK.rows,RgK.blk,qrs,St.wH,Heap.drop,qeo,killF]
 |some r=>simp[zG,RgK.rows,RgK.blk,qrs,St.wH,Heap.drop,qeo,killF,qun]
theorem qne(h:K.Ok b R) (L:List Int) (hl:L.length<=1000000) (go:Nat->Option ρ) (hy:∀j (hj:j < L.length),qg8 (ctx T) b [.int .i64 (j:Int),.int .i64 L[j]] ⟨b+1,[[],(b,K.blk .ready none [])::R none]⟩ (.bool (go j).isNone) ⟨b+1,[[],K.rows b R (go j)]⟩)
  {ts:List (Nat × AV)} {g:Operand} {ps:Array Nat} (hps:ps.toList=K.ps) (ho:qbr ⟨K.ks,K.vs,ts,K.sz,⟨b,[R none]⟩⟩ g=some (qvf L)) {n:Nat} {Q:Out->St->Prop} (hq:Q (qrs (qp1 go L.length)) ⟨K.ks,K.vs,ts,K.sz,⟨b+1,[R (qp1 go L.length)]⟩⟩) :
  WpS (ctx T) n (.rangeFunc g ps K.as' K.bd) ⟨K.ks,K.vs,ts,K.sz,⟨b,[R none]⟩⟩ Q:=by
 have lb:qav b (idn (b+1))=some b:=qdz (Nat.lt_succ_self b);have hcall:CallAt (ctx T) 188 [.yld b,.fptr [qac L] 0] ⟨b+1,[(b,K.blk .ready none ts)::R none]⟩ (.tup []) ⟨b+1,[K.rows b R (qp1 go L.length)]⟩:=
  (qyv h L hl go hy).drop (σ:=idn (b+1)) (Φ:=[]) (fun _=>h.fit (c:=none) (st:=.ready) (pend:=none) (ts:=ts) (Nat.le_refl _) (Nat.le_refl _) (by simp[zG]) (fun e he=>by have h1:=((h.rows none).2 e he).1;have h2:Nat.beq b e.1=false:=qb4 (by omega);simp only[zG,h2];rw[qp4 (h.rows _).1 he]) (by simp)) (by simp[qax,qap,qa2,qa3,lb])
 exact qze (qbu [⟨188,_,_,_,_,hcall⟩]) ⟨_,_,qvg (T:=T) h L hps ho (r:=qp1 go L.length) (by simp[qd9]),hq⟩
end
abbrev lsSvg:Str:= lsB0
abbrev lsMath:Str:= lsB3
abbrev zb2:Str:= lsB4
abbrev lsEnds:Str:= lsB6
abbrev lsTable:Str:= lsB1
def qd5(sp:Int) (x:Str):Bool:=if sp=1 then inW lsSvg x else if sp=2 then decide (x=[97,110,110,111,116,97,116,105,111,110,45,120,109,108]) || inW lsMath x else decide (sp=0) && inW zb2 x
def qgi(sc sp:Int) (x:Str):Bool:=
 if sc=3 then decide (sp=0) && inW lsTable x
 else if sc=0\/sc=1\/sc=2 then
  if sp=0 then (if x=[111,108]\/x=[117,108] then decide (sc=1) else if x=[98,117,116,116,111,110] then decide (sc=2) else inW lsEnds x) else qd5 sp x
 else !decide (sc=4) || !decide (sp=0) || (!decide (x=[111,112,116,103,114,111,117,112]) && !decide (x=[111,112,116,105,111,110]))
def qhm(sp:Int) (x:Str):Bool:=decide (sp=0) && decide (x=[100,100]\/x=[100,116]\/x=[108,105]\/x=[111,112,116,103,114,111,117,112]\/x=[111,112,116,105,111,110]\/x=[112]\/x=[114,98]\/x=[114,112]\/x=[114,116]\/x=[114,116,99])
theorem c79(hc0:qa9 133 T=some e133a.g) (sp:Int) (x:Str) (hx:x.length<=1000000000):CallAt (ctx T) 79 [.int .i64 sp,.str x] zH (.bool (qd5 sp x)) zH:=by
 have kw0:=fun(x:Str) (hx:x.length<=1000000000) (H:Heap)=>qo8 (W:= lsB0) (x:=x) hc0 (qyw (by decide)) (by decide) hx H;have kw1:=fun(x:Str) (hx:x.length<=1000000000) (H:Heap)=>qo8 (W:= lsB3) (x:=x) hc0 (qyw (by decide)) (by decide) hx H;have kw2:=fun(x:Str) (hx:x.length<=1000000000) (H:Heap)=>qo8 (W:= lsB4) (x:=x) hc0 (qyw (by decide)) (by decide) hx H;refine qa0 (s0:=⟨[0,1,4,5],[.int .i64 sp,.str x,uD,uD],[],24,⟨0,[[]]⟩⟩) Tryz.func79 rfl rfl rfl ?_
 (repeat' (first
  |with_reducible apply qaa
  |with_reducible apply qa4
  |(with_reducible apply rE;simp[zS, *];exact rfl)
  |(with_reducible apply qad;simp only[qab,qa5])
  |(with_reducible refine qe3 (fun hc=>?_) (fun hc=>?_)<;>(have hd:=hc;(try simp at hd);(try subst hd);apply qz1;simp[zS, *];exact rfl))
  |(refine qbf rfl (fun hc=>?_) (fun hc=>?_)<;>(have hd:=hc;(try simp at hd);(try subst hd)))
  |(with_reducible apply qa6;simp only[qab,qa5])
  |(with_reducible apply qa7;simp[zQ,Tryz.f79])))
 all_goals first|exact qak rfl (by simp[qd5, *])|(exfalso;omega)
theorem inj_79(x y:Int × Str) (h:(fun z:Int × Str=>([.int .i64 z.1,.str z.2]:List AV)) x=(fun z:Int × Str=>([.int .i64 z.1,.str z.2]:List AV)) y):x=y:=by obtain⟨x0,x1⟩:=x;obtain⟨y0,y1⟩:=y;simp only[List.cons.injEq,and_true]at h;obtain⟨h0,h1⟩:=h;have g0:x0=y0:=AV.int.inj h0 |>.2;have g1:x1=y1:=AV.str.inj h1;subst g0 g1;rfl
def e79:Entry PG:=mkE 79 [[],[]] (fun z:Int × Str=>[.int .i64 z.1,.str z.2]) (fun z=>(z.2.length<=1000000000)) (fun z=>.bool (qd5 z.1 z.2)) fun z h=>c79 (T:=[e133a]) rfl z.1 z.2 h
theorem k79(hT:qa9 79 T=some e79.g) (sp:Int) (x:Str) (hx:x.length<=1000000000) (H:Heap):qat (ctx T) (.fn 79) [.int .i64 sp,.str x] H=some (.bool (qd5 sp x),H):=
 qb2 hT inj_79 (sp,x) hx rfl (by simp[qaj])
theorem c51(hc0:qa9 133 T=some e133a.g) (hc1:qa9 79 T=some e79.g) (sc:Int) (sp:Int) (x:Str) (hx:x.length<=1000000000):CallAt (ctx T) 51 [.int .i64 sc,.int .i64 sp,.str x] zH (.bool (qgi sc sp x)) zH:=by
 have kw0:=fun(x:Str) (hx:x.length<=1000000000) (H:Heap)=>qo8 (W:= lsB1) (x:=x) hc0 (qyw (by decide)) (by decide) hx H;have kw1:=fun(x:Str) (hx:x.length<=1000000000) (H:Heap)=>qo8 (W:= lsB6) (x:=x) hc0 (qyw (by decide)) (by decide) hx H;have kc1:=@k79 T hc1;refine qa0 (s0:=⟨[0,1,2,6,7,10,32,41,42],[.int .i64 sc,.int .i64 sp,.str x,uD,uD,uD,uD,uD,uD],[],53,⟨0,[[]]⟩⟩) Tryz.func51 rfl rfl rfl ?_
 (repeat' (first
  |with_reducible apply qaa
  |with_reducible apply qa4
  |(with_reducible apply rE;simp[zS, *];exact rfl)
  |(with_reducible apply qad;simp only[qab,qa5])
  |(with_reducible refine qe3 (fun hc=>?_) (fun hc=>?_)<;>(have hd:=hc;(try simp at hd);(try subst hd);apply qz1;simp[zS, *];exact rfl))
  |apply qah rfl
  |(refine qbf rfl (fun hc=>?_) (fun hc=>?_)<;>(have hd:=hc;(try simp at hd);(try subst hd)))
  |(with_reducible apply qa6;simp only[qab,qa5])
  |(with_reducible apply qa7;simp[zQ,Tryz.f51])))
 all_goals first|exact qak rfl (by simp[qgi, *])|(exfalso;omega)
theorem inj_51(x y:Int × Int × Str) (h:(fun z:Int × Int × Str=>([.int .i64 z.1,.int .i64 z.2.1,.str z.2.2]:List AV)) x=(fun z:Int × Int × Str=>([.int .i64 z.1,.int .i64 z.2.1,.str z.2.2]:List AV)) y):x=y:=by obtain⟨x0,x1,x2⟩:=x;obtain⟨y0,y1,y2⟩:=y;simp only[List.cons.injEq,and_true]at h;obtain⟨h0,h1,h2⟩:=h;have g0:x0=y0:=AV.int.inj h0 |>.2;have g1:x1=y1:=AV.int.inj h1 |>.2;have g2:x2=y2:=AV.str.inj h2;subst g0 g1 g2;rfl
def e51:Entry PG:=mkE 51 [[],[],[]] (fun z:Int × Int × Str=>[.int .i64 z.1,.int .i64 z.2.1,.str z.2.2]) (fun z=>(z.2.2.length<=1000000000)) (fun z=>.bool (qgi z.1 z.2.1 z.2.2)) fun z h=>c51 (T:=[e133a,e79]) rfl rfl z.1 z.2.1 z.2.2 h
theorem k51(hT:qa9 51 T=some e51.g) (sc:Int) (sp:Int) (x:Str) (hx:x.length<=1000000000) (H:Heap):qat (ctx T) (.fn 51) [.int .i64 sc,.int .i64 sp,.str x] H=some (.bool (qgi sc sp x),H):=
 qb2 hT inj_51 (sc,sp,x) hx rfl (by simp[qaj])
theorem c203(sp:Int) (x:Str):CallAt (ctx T) 203 [.int .i64 sp,.str x] zH (.bool (qhm sp x)) zH:=by
 refine qa0 (s0:=⟨[0,1,4,5,6],[.int .i64 sp,.str x,uD,uD,uD],[],19,⟨0,[[]]⟩⟩) Tryz.func203 rfl rfl rfl ?_
 (repeat' (first
  |with_reducible apply qaa
  |with_reducible apply qa4
  |(with_reducible apply rE;simp[zS, *];exact rfl)
  |(with_reducible apply qad;simp only[qab,qa5])
  |apply qah rfl
  |(refine qbf rfl (fun hc=>?_) (fun hc=>?_)<;>(have hd:=hc;(try simp at hd);(try subst hd)))
  |(with_reducible apply qa6;simp only[qab,qa5])
  |(with_reducible apply qa7;simp[zQ,Tryz.f203])))
 all_goals first|exact qak rfl (by simp[qhm, *])|(exfalso;omega)
def e203:Entry PG:=mkE 203 [[],[]] (fun z:Int × Str=>[.int .i64 z.1,.str z.2]) (fun z=>True) (fun z=>.bool (qhm z.1 z.2)) fun z h=>c203 (T:=[])  z.1 z.2 
theorem k203(hT:qa9 203 T=some e203.g) (sp:Int) (x:Str) (H:Heap):qat (ctx T) (.fn 203) [.int .i64 sp,.str x] H=some (.bool (qhm sp x),H):=
 qb2 hT inj_79 (sp,x) trivial rfl (by simp[qaj])
theorem c147(hc0:qa9 133 T=some e133a.g) (x:Str) (hx:x.length<=1000000000):CallAt (ctx T) 147 [.str x] zH (.bool (inW lsB5 x)) zH:=by
 have kw0:=fun(x:Str) (hx:x.length<=1000000000) (H:Heap)=>qo8 (W:= lsB5) (x:=x) hc0 (qyw (by decide)) (by decide) hx H;refine qa0 (s0:=⟨[0,2],[.str x,uD],[],5,⟨0,[[]]⟩⟩) Tryz.func147 rfl rfl rfl ?_
 (repeat' (first
  |with_reducible apply qaa
  |(with_reducible apply rE;simp[zS, *];exact rfl)
  |(with_reducible apply qad;simp only[qab,qa5])
  |(with_reducible apply qa7;simp[zQ,Tryz.f147])))
 all_goals first|exact qak rfl (by rfl)|(exfalso;omega)
theorem inj_147(x y:Str) (h:(fun z:Str=>([.str z]:List AV)) x=(fun z:Str=>([.str z]:List AV)) y):x=y:=by simp only[List.cons.injEq,and_true]at h;exact AV.str.inj h
def e147:Entry PG:=mkE 147 [[]] (fun z:Str=>[.str z]) (fun z=>(z.length<=1000000000)) (fun z=>.bool (inW lsB5 z)) fun z h=>c147 (T:=[e133a]) rfl z h
theorem k147(hT:qa9 147 T=some e147.g) (x:Str) (hx:x.length<=1000000000) (H:Heap):qat (ctx T) (.fn 147) [.str x] H=some (.bool (inW lsB5 x),H):=
 qb2 hT inj_147 (x) hx rfl (by simp[qaj])
def qez(sp:Int) (x:Str):Bool:=decide (sp=0) && inW lsB2 x
theorem sp_head:qe5 lsB2=[[104,49],[104,50],[104,51],[104,52],[104,53],[104,54]]:=by decide +kernel
theorem zbj(x:Str):inW lsB2 x=decide (x=[104,49]\/x=[104,50]\/x=[104,51]\/x=[104,52]\/x=[104,53]\/x=[104,54]):=by unfold inW;rw[sp_head];simp
theorem head_len{x:Str} (h:¬ x.length=2):inW lsB2 x=false:=by rw[zbj];simp only[decide_eq_false_iff_not];rintro(rfl|rfl|rfl|rfl|rfl|rfl)<;>exact h rfl
theorem head_two(a b:UInt8):inW lsB2 [a,b]=(decide ((a.toNat:Int)=104) && decide (49<=(b.toNat:Int)) && decide ((b.toNat:Int)<=54)):=by rw[zbj];have key:∀n:Nat,n < 256->(b=UInt8.ofNat n↔b.toNat=n):=fun n hn=>⟨fun h=>by rw[h];simp;omega,fun h=>by rw[<- h];simp⟩;have ha:a=104↔a.toNat=104:=⟨fun h=>by rw[h];rfl,fun h=>UInt8.toNat_inj.1 (by rw[h];rfl)⟩;have k1:∀c:UInt8,b=c↔b.toNat=c.toNat:=fun c=>UInt8.toNat_inj.symm;rw[Bool.eq_iff_iff];simp only[List.cons.injEq,and_true,decide_eq_true_eq,Bool.and_eq_true,ha,k1];simp only[show (49:UInt8).toNat=49 from rfl,show (50:UInt8).toNat=50 from rfl,show (51:UInt8).toNat=51 from rfl,show (52:UInt8).toNat=52 from rfl,show (53:UInt8).toNat=53 from rfl,show (54:UInt8).toNat=54 from rfl];omega
theorem c148(sp:Int) (x:Str):CallAt (ctx T) 148 [.int .i64 sp,.str x] zH (.bool (qez sp x)) zH:=by
 by_cases hl:x.length=2
 ·match x,hl with
  |[a,b],_=>
   have i0:ql1 PG 9 (.str [a,b]) (.int .i64 0)=some (.int .u8 a.toNat):=qp3 (s:=[a,b]) (i:=0) (by simp);have i1:ql1 PG 9 (.str [a,b]) (.int .i64 1)=some (.int .u8 b.toNat):=qp3 (s:=[a,b]) (i:=1) (by simp);unfold qez;rw[head_two];refine qa0 (s0:=⟨[0,1,4],[.int .i64 sp,.str [a,b],uD],[],27,⟨0,[[]]⟩⟩) Tryz.func148 rfl rfl rfl ?_
   (repeat' (first
    |with_reducible apply qaa
    |(with_reducible apply rE;simp[zS, *];exact rfl)
    |(with_reducible apply qad;simp only[qab,qa5])
    |(with_reducible refine qe3 (fun hc=>?_) (fun hc=>?_)<;>(have hd:=hc;(try simp at hd);(try subst hd);apply qz1;simp[zS, *];exact rfl))
    |(with_reducible apply qa7;simp[zQ,Tryz.f148])))
   all_goals first|exact qak rfl (by simp[*])|(exfalso;omega)
 ·have hl':¬ ((x.length:Nat):Int)=2:=by omega
  unfold qez;rw[head_len hl];refine qa0 (s0:=⟨[0,1,4],[.int .i64 sp,.str x,uD],[],27,⟨0,[[]]⟩⟩) Tryz.func148 rfl rfl rfl ?_
  (repeat' (first
   |with_reducible apply qaa
   |(with_reducible apply rE;simp[zS, *];exact rfl)
   |(with_reducible apply qad;simp only[qab,qa5])
   |(with_reducible refine qe3 (fun hc=>?_) (fun hc=>?_)<;>(have hd:=hc;(try simp at hd);(try subst hd);apply qz1;simp[zS, *];exact rfl))
   |(with_reducible apply qa7;simp[zQ,Tryz.f148])))
  all_goals first|exact qak rfl (by simp[*])|(exfalso;omega)
def e148:Entry PG:=mkE 148 [[],[]] (fun z:Int × Str=>[.int .i64 z.1,.str z.2]) (fun z=>True) (fun z=>.bool (qez z.1 z.2)) fun z h=>c148 (T:=[])  z.1 z.2 
theorem k148(hT:qa9 148 T=some e148.g) (sp:Int) (x:Str) (H:Heap):qat (ctx T) (.fn 148) [.int .i64 sp,.str x] H=some (.bool (qez sp x),H):=
 qb2 hT inj_79 (sp,x) trivial rfl (by simp[qaj])
theorem c149(hc0:qa9 133 T=some e133a.g) (sp:Int) (x:Str) (hx:x.length<=1000000000):CallAt (ctx T) 149 [.int .i64 sp,.str x] zH (.bool (decide (sp=0) && inW lsB7 x)) zH:=by
 have kw0:=fun(x:Str) (hx:x.length<=1000000000) (H:Heap)=>qo8 (W:= lsB7) (x:=x) hc0 (qyw (by decide)) (by decide) hx H;refine qa0 (s0:=⟨[0,1,4],[.int .i64 sp,.str x,uD],[],11,⟨0,[[]]⟩⟩) Tryz.func149 rfl rfl rfl ?_
 (repeat' (first
  |with_reducible apply qaa
  |(with_reducible apply rE;simp[zS, *];exact rfl)
  |(with_reducible apply qad;simp only[qab,qa5])
  |(with_reducible refine qe3 (fun hc=>?_) (fun hc=>?_)<;>(have hd:=hc;(try simp at hd);(try subst hd);apply qz1;simp[zS, *];exact rfl))
  |(with_reducible apply qa7;simp[zQ,Tryz.f149])))
 all_goals first|exact qak rfl (by first|(simp[*];done)|(simp_all;done))|(exfalso;omega)
def e149:Entry PG:=mkE 149 [[],[]] (fun z:Int × Str=>[.int .i64 z.1,.str z.2]) (fun z=>(z.2.length<=1000000000)) (fun z=>.bool (decide (z.1=0) && inW lsB7 z.2)) fun z h=>c149 (T:=[e133a]) rfl z.1 z.2 h
theorem k149(hT:qa9 149 T=some e149.g) (sp:Int) (x:Str) (hx:x.length<=1000000000) (H:Heap):qat (ctx T) (.fn 149) [.int .i64 sp,.str x] H=some (.bool (decide (sp=0) && inW lsB7 x),H):=
 qb2 hT inj_79 (sp,x) hx rfl (by simp[qaj])
def qo3(x:Str):Int:=if x=[116,101,120,116,97,114,101,97]\/x=[116,105,116,108,101] then 1 else if x=[105,102,114,97,109,101]\/x=[110,111,101,109,98,101,100]\/x=[110,111,102,114,97,109,101,115]\/x=[115,116,121,108,101]\/x=[120,109,112] then 2 else if x=[115,99,114,105,112,116] then 3 else if x=[112,108,97,105,110,116,101,120,116] then 4 else 0
theorem c27(x:Str):CallAt (ctx T) 27 [.str x] zH (.int .i64 (qo3 x)) zH:=by
 refine qa0 (s0:=⟨[0,2,3,4,7],[.str x,uD,uD,uD,uD],[],17,⟨0,[[]]⟩⟩) Tryz.func27 rfl rfl rfl ?_
 (repeat' (first
  |with_reducible apply qaa
  |with_reducible apply qa4
  |(with_reducible apply rE;simp[zS, *];exact rfl)
  |(with_reducible apply qad;simp only[qab,qa5])
  |apply qah rfl
  |(refine qbf rfl (fun hc=>?_) (fun hc=>?_)<;>(have hd:=hc;(try simp at hd);(try subst hd)))
  |(with_reducible apply qa6;simp only[qab,qa5])
  |(with_reducible apply qa7;simp[zQ,Tryz.f27])))
 all_goals first|exact qak rfl (by simp[qo3, *])|(exfalso;omega)
def e27:Entry PG:=mkE 27 [[]] (fun z:Str=>[.str z]) (fun z=>True) (fun z=>.int .i64 (qo3 z)) fun z h=>c27 (T:=[])  z 
theorem k27(hT:qa9 27 T=some e27.g) (x:Str) (H:Heap):qat (ctx T) (.fn 27) [.str x] H=some (.int .i64 (qo3 x),H):=
 qb2 hT inj_147 (x) trivial rfl (by simp[qaj])
