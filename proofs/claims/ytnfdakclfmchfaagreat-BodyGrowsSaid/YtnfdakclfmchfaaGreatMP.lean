/- adopt.Run. No condition. -/
import Derived.Test.YtnfdakclfmchfaaGreatMO
namespace Go.Proofs.YtnfdakclfmchfaaGreat
noncomputable section
set_option linter.unusedSimpArgs false
set_option linter.unusedVariables false
open Go Go.RowKit
set_option maxRecDepth 100000
set_option maxHeartbeats 1000000
variable {T:List (Entry Tryz.prog)}
@[simp]theorem szT76:qc1 PG 76=some 1:=rfl
@[simp]theorem agT76:qgc PG 76=some false:=rfl
@[simp]theorem byT76:qce PG 76=some 8:=rfl
@[simp]theorem alT76(H:Heap):alV PG H 76=some (.ptr H.n 0,H.new (.cells [.nilP])):=rfl
@[simp]theorem zeT76:qbq PG 76=some (.nilP):=rfl
attribute [simp] Tryz.underlying76
@[simp 500]theorem rvF76(H:Heap) (cs:List AV) (o:Nat):qaq PG H 76 (.fptr cs o)=qca cs o:=rfl
@[simp 500]theorem rvP76(H:Heap) (b o:Nat):qaq PG H 76 (.ptr b o)=(H.get b).bind fun k=>k.rd.bind fun cs=>qca cs o:=rfl
@[simp]theorem szT78:qc1 PG 78=some 3:=rfl
@[simp]theorem agT78:qgc PG 78=some true:=rfl
@[simp]theorem byT78:qce PG 78=some 24:=rfl
@[simp]theorem alT78(H:Heap):alV PG H 78=some (.ptr H.n 0,H.new (.cells [.nilP,.int .i64 0,.int .i64 0])):=rfl
@[simp]theorem zeT78:qbq PG 78=some (.agg [.nilP,.int .i64 0,.int .i64 0]):=rfl
attribute [simp] Tryz.underlying78
@[simp 500]theorem rvF78(H:Heap) (cs:List AV) (o:Nat):qaq PG H 78 (.fptr cs o)=(qf1 o 3 cs).bind fun cs=>some (.agg cs):=rfl
@[simp 500]theorem rvP78(H:Heap) (b o:Nat):qaq PG H 78 (.ptr b o)=(readCells H b o 3).bind fun cs=>some (.agg cs):=rfl
@[simp]theorem fa78_0(x:AV):qaw PG 78 x 0=(match x with | .ptr b o=>some (.ptr b (o+0)) | .fptr cs o=>some (.fptr cs (o+0))|_=>none):=rfl
@[simp]theorem fd78_0(cs:List AV):qc9 PG 78 (.agg cs) 0=qca cs 0:=rfl
@[simp]theorem fa78_1(x:AV):qaw PG 78 x 1=(match x with | .ptr b o=>some (.ptr b (o+1)) | .fptr cs o=>some (.fptr cs (o+1))|_=>none):=rfl
@[simp]theorem fd78_1(cs:List AV):qc9 PG 78 (.agg cs) 1=qca cs 1:=rfl
@[simp]theorem fa78_2(x:AV):qaw PG 78 x 2=(match x with | .ptr b o=>some (.ptr b (o+2)) | .fptr cs o=>some (.fptr cs (o+2))|_=>none):=rfl
@[simp]theorem fd78_2(cs:List AV):qc9 PG 78 (.agg cs) 2=qca cs 2:=rfl
theorem addQ(hT:qa9 25 T=some e25S.g) {s:SS} (ne:s.tree≠[]) (sp:Int) (x:Str) (L:List At1) (hl:s.tree.length+1<=1000000) (ha:L.length<=1000000) {n k:Nat} {fr:List (Nat × Blk)} (k0:0 < k) (kn:k < n) (of:qga k fr) :
  qat (ctx T) (.fn 25) [.ptr 0 0,.agg [.int .i64 1,.int .i64 sp,.str x,qaf L,.str [],.int .i64 0,.nilS]] ⟨n,[fr,VS k s]⟩=some (.int .i64 (s.tree.length:Int),⟨n+1,[fr,VS n { s with tree:=qix s.tree ⟨1,sp,x,L,[],0,[]⟩ }]⟩):=
 qct hT zbg ⟨1,sp,x,L,[],0,[]⟩ ne ⟨hl,ha⟩ (by simp[qa3,qa2]) (by simp[qbb,qcy,qjf,qhd,okV,qag,Nd.cs,qau,qaf,qac,qa2,qa3]) k0 kn of
def qgw(t:Tr) (i:Int):Nd:=⟨1,(qa1 t i).space,(qa1 t i).name,(qa1 t i).attrs,[],0,[]⟩
theorem c138(hc0:qa9 25 T=some e25S.g) {s:SS} {el mk:Int} (ne:s.tree≠[]) (i:Int) (h0:0<=i) (hi:i < (s.tree.length:Int)) (hl:s.tree.length+1<=1000000) (ha:(qa1 s.tree i).attrs.length<=1000000):GC T 138 [.int .i64 i] ⟨s,el,mk⟩ (.int .i64 (s.tree.length:Int)) ⟨{ s with tree:=qix s.tree (qgw s.tree i) },el,mk⟩:=by
 have g0:=@vg0;have v0:=@vset;obtain⟨u,eu⟩ : ∃u:Nat,i=(u:Int):=⟨i.toNat,by omega⟩;have hu:u < s.tree.length:=by omega
 have ix:=ixN (k:=2) (t:=s.tree) hu;have sb:=subN (t:=s.tree) hu;rw[<- eu]at ix sb;clear eu hu;have gk:=@vgk;have kA:=fun n k fr=>@addQ T hc0 s ne (qa1 s.tree i).space (qa1 s.tree i).name (qa1 s.tree i).attrs hl ha n k fr;have eb:qgw s.tree i=⟨1,(qa1 s.tree i).space,(qa1 s.tree i).name,(qa1 s.tree i).attrs,[],0,[]⟩:=rfl;rw[eb];clear eb h0 hi hl ha;have l7:(qa1 s.tree i).cs=[.int .i64 (qa1 s.tree i).kind,.int .i64 (qa1 s.tree i).space,.str (qa1 s.tree i).name,qaf (qa1 s.tree i).attrs,.str (qa1 s.tree i).data,.int .i64 (qa1 s.tree i).up,qac (qa1 s.tree i).kids]:=rfl;rw[l7]at sb;clear l7;generalize (qa1 s.tree i).kind=n1 at *;generalize (qa1 s.tree i).space=n2 at *;generalize (qa1 s.tree i).name=n3 at *;generalize (qa1 s.tree i).attrs=n4 at *;generalize (qa1 s.tree i).data=n5 at *;generalize (qa1 s.tree i).up=n6 at *;generalize (qa1 s.tree i).kids=n7 at *;have bld:qdw PG 65 [(0,.int .i64 1),(1,.int .i64 n2),(2,.str n3),(3,qaf n4)]=some (.agg [.int .i64 1,.int .i64 n2,.str n3,qaf n4,.str [],.int .i64 0,.nilS]):=rfl;have ta:=qhr s.tree ⟨1,n2,n3,n4,[],0,[]⟩;all_goals
  (try simp only[Tk.cs]at *)
  refine qa0 (s0:=⟨[0,1,4,5],[.ptr 1 0,.int .i64 i,uD,uD],[],31,⟨3,[]::[_]⟩⟩) Tryz.func138 rfl rfl rfl ?_;apply qp2
  (repeat' (first
   |with_reducible apply qaa
   |(with_reducible apply rE;simp[zS, *,SS.post];exact rfl)
   |(with_reducible apply qad;simp only[qab,qa5])
   |(refine qay mixed qb6 (by decide +kernel) (by decide +kernel) rfl ?_;apply qh0;simp[zS,zW,qb9,qbt,qaz,Heap.lay,qb8, *,SS.post];exact rfl)
   |(with_reducible apply qbc;refine⟨by repeat first|exact qdi|refine qdj (by decide +kernel) ?_,?_⟩;simp only[qab,qa5,allPend,Heap.lay,qb8])
   |(with_reducible apply qa7;simp[zQ,Tryz.f138])))
  all_goals first | (((try simp [zQ, Tryz.f138]); refine qjm (by rfl) (by first | rfl | (simp [*]; done)) (by simp [qa2, qa3]) (by first | omega | fail "no k") (qhr _ _) (by simp [getF]) (by simp [getF]) (by first | (simp [getF]; done) | (simp [getF, *]; done)))) | (exfalso; omega)
def e138:Entry PG:=mkG 138 [[]] (fun z:Int=>[.int .i64 z]) (fun z x=>(0<=z)/\(z < (x.s.tree.length:Int))/\(x.s.tree.length+1<=1000000)/\((qa1 x.s.tree z).attrs.length<=1000000)) (fun z x=>.int .i64 (x.s.tree.length:Int)) (fun z x=>⟨{ x.s with tree:=qix x.s.tree (qgw x.s.tree z) },x.el,x.mr⟩) fun z x ne h=>⟨c138 (T:=[e25S]) rfl ne z h.1 h.2.1 h.2.2.1 h.2.2.2,by simp[qa3,qa2],by simp[qa2,qa3],qhr _ _⟩
theorem k138(hT:qa9 138 T=some e138.g) {s:SS} {el mk:Int} (ne:s.tree≠[]) (i:Int) (h0:0<=i) (hi:i < (s.tree.length:Int)) (hl:s.tree.length+1<=1000000) (ha:(qa1 s.tree i).attrs.length<=1000000) {n k ab:Nat} {fr:List (Nat × Blk)} (d:dT n k ab) (of:qg9 k ab fr):qat (ctx T) (.fn 138) [.ptr ab 0,.int .i64 i] ⟨n,[(ab,.cells [.ptr 0 0,.int .i64 (el),.int .i64 (mk)])::fr,VS k s]⟩=some (.int .i64 (s.tree.length:Int),⟨n+1,[(ab,.cells [.ptr 0 0,.int .i64 (el),.int .i64 (mk)])::fr,VS n ({ s with tree:=qix s.tree (qgw s.tree i) })]⟩):=
 qkw (x:=⟨s,el,mk⟩) (f1:=[]) hT inj_162 (i) ne ⟨h0,hi,hl,ha⟩ (by simp[qa3,qa2]) (by simp[qbb,qaj]) d (by simp) of
theorem c140(hc0:qa9 26 T=some e26S.g) {s:SS} {el mk:Int} (ne:s.tree≠[]) (up:Int) (kid:Int) (u0:0<=up) (u1:up < (s.tree.length:Int)) (ht:s.tree.length<=1000000) (hk:qd1 s.tree 999999):GC T 140 [.int .i64 up,.int .i64 kid] ⟨s,el,mk⟩ (.tup []) ⟨{ s with tree:=qlf s.tree up ((qa1 s.tree up).kids.length:Int) kid },el,mk⟩:=by
 have kc0:=@k26S T hc0;have g0:=@vg0;have v0:=@vset;obtain⟨u,eu⟩ : ∃u:Nat,up=(u:Int):=⟨up.toNat,by omega⟩;have hu:u < s.tree.length:=by omega
 have ix:=ixN (k:=2) (t:=s.tree) hu;have gN:=getN (c:=6) hu (by omega);rw[<- eu]at ix gN;clear eu hu;have gk:=@vgk;have lI:∀H,qeq PG H 38 (qac (qa1 s.tree up).kids)=some (qa1 s.tree up).kids.length:=fun H=>qn0;have kP:=fun n k fr=>@kc0 s ne up ((qa1 s.tree up).kids.length:Int) kid ht hk n k fr;have n1:qlf s.tree up ((qa1 s.tree up).kids.length:Int) kid≠[]:=qi5 ne _ _ _;have e6:qca (qa1 s.tree up).cs 6=some (qac (qa1 s.tree up).kids):=rfl;rw[e6]at gN;clear e6 kc0 u0 u1 ht hk;generalize qlf s.tree up ((qa1 s.tree up).kids.length:Int) kid=t1 at *;generalize (qa1 s.tree up).kids=K at *;all_goals
  (try simp only[Tk.cs]at *)
  refine qa0 (s0:=⟨[0,1,2],[.ptr 1 0,.int .i64 up,.int .i64 kid],[],28,⟨3,[]::[_]⟩⟩) Tryz.func140 rfl rfl rfl ?_;apply qp2
  (repeat' (first
   |(refine qay mixed qb6 (by decide +kernel) (by decide +kernel) rfl ?_;apply qh0;simp[zS,zW,qb9,qbt,qaz,Heap.lay,qb8, *,SS.post];exact rfl)
   |(with_reducible apply qbc;refine⟨by repeat first|exact qdi|refine qdj (by decide +kernel) ?_,?_⟩;simp only[qab,qa5,allPend,Heap.lay,qb8])))
  all_goals first | (((try simp [zQ, Tryz.f140]); refine qjm (by rfl) (by first | rfl | (simp [*]; done)) (by simp [qa2, qa3]) (by first | omega | fail "no k") (by (try exact n1); (all_goals exact qi5 ne _ _ _)) (by simp [getF]) (by simp [getF]) (by first | (simp [getF]; done) | (simp [getF, *]; done)))) | (exfalso; omega)
theorem inj_140(x y:Int × Int) (h:(fun z:Int × Int=>([.int .i64 z.1,.int .i64 z.2]:List AV)) x=(fun z:Int × Int=>([.int .i64 z.1,.int .i64 z.2]:List AV)) y):x=y:=by obtain⟨x0,x1⟩:=x;obtain⟨y0,y1⟩:=y;simp only[List.cons.injEq,and_true]at h;obtain⟨h0,h1⟩:=h;have g0:x0=y0:=AV.int.inj h0 |>.2;have g1:x1=y1:=AV.int.inj h1 |>.2;subst g0 g1;rfl
def e140:Entry PG:=mkG 140 [[],[]] (fun z:Int × Int=>[.int .i64 z.1,.int .i64 z.2]) (fun z x=>(0<=z.1)/\(z.1 < (x.s.tree.length:Int))/\(x.s.tree.length<=1000000)/\(qd1 x.s.tree 999999)) (fun z x=>.tup []) (fun z x=>⟨{ x.s with tree:=qlf x.s.tree z.1 ((qa1 x.s.tree z.1).kids.length:Int) z.2 },x.el,x.mr⟩) fun z x ne h=>⟨c140 (T:=[e26S]) rfl ne z.1 z.2 h.1 h.2.1 h.2.2.1 h.2.2.2,by simp[qa3,qa2],by simp[qa2,qa3],by(try exact n1);(all_goals exact qi5 ne _ _ _)⟩
theorem k140(hT:qa9 140 T=some e140.g) {s:SS} {el mk:Int} (ne:s.tree≠[]) (up:Int) (kid:Int) (u0:0<=up) (u1:up < (s.tree.length:Int)) (ht:s.tree.length<=1000000) (hk:qd1 s.tree 999999) {n k ab:Nat} {fr:List (Nat × Blk)} (d:dT n k ab) (of:qg9 k ab fr):qat (ctx T) (.fn 140) [.ptr ab 0,.int .i64 up,.int .i64 kid] ⟨n,[(ab,.cells [.ptr 0 0,.int .i64 (el),.int .i64 (mk)])::fr,VS k s]⟩=some (.tup [],⟨n+1,[(ab,.cells [.ptr 0 0,.int .i64 (el),.int .i64 (mk)])::fr,VS n ({ s with tree:=qlf s.tree up ((qa1 s.tree up).kids.length:Int) kid })]⟩):=
 qkw (x:=⟨s,el,mk⟩) (f1:=[]) hT inj_140 (up,kid) ne ⟨u0,u1,ht,hk⟩ (by simp[qa3,qa2]) (by simp[qbb,qaj]) d (by simp) of
theorem c43(hc0:qa9 128 T=some e128.g) {s:SS} {el mk:Int} (ne:s.tree≠[]) (i:Int) (ha:s.act.length<=1000000):GC T 43 [.int .i64 i] ⟨s,el,mk⟩ (.bool (decide (i∈s.act))) ⟨s,el,mk⟩:=by
 have kc0:=@k128 T hc0;have g0:=@vg0;have v0:=@vset;have kC:=fun H=>kc0 (L:=s.act) i ha H;clear kc0;generalize decide (i∈s.act)=b at *;all_goals
  (try simp only[Tk.cs]at *)
  refine qa0 (s0:=⟨[0,1,4],[.ptr 1 0,.int .i64 i,uD],[],14,⟨3,[]::[_]⟩⟩) Tryz.func43 rfl rfl rfl ?_;apply qp2
  (repeat' (first
   |with_reducible apply qaa
   |(with_reducible apply rE;simp[zS, *,SS.post];exact rfl)
   |(with_reducible apply qad;simp only[qab,qa5])
   |(with_reducible apply qa7;simp[zQ,Tryz.f43])))
  all_goals first | (((try simp [zQ, Tryz.f43]); refine qjm (by rfl) (by first | rfl | (simp [*]; done)) (by simp [qa2, qa3]) (by first | omega | fail "no k") (ne) (by simp [getF]) (by simp [getF]) (by first | (simp [getF]; done) | (simp [getF, *]; done)))) | (exfalso; omega)
def e43:Entry PG:=mkG 43 [[]] (fun z:Int=>[.int .i64 z]) (fun z x=>(x.s.act.length<=1000000)) (fun z x=>.bool (decide (z∈x.s.act))) (fun z x=>⟨x.s,x.el,x.mr⟩) fun z x ne h=>⟨c43 (T:=[e128]) rfl ne z h,by simp[qa3,qa2],by simp[qa2,qa3],ne⟩
theorem k43(hT:qa9 43 T=some e43.g) {s:SS} {el mk:Int} (ne:s.tree≠[]) (i:Int) (ha:s.act.length<=1000000) {n k ab:Nat} {fr:List (Nat × Blk)} (d:dT n k ab) (of:qg9 k ab fr):qat (ctx T) (.fn 43) [.ptr ab 0,.int .i64 i] ⟨n,[(ab,.cells [.ptr 0 0,.int .i64 (el),.int .i64 (mk)])::fr,VS k s]⟩=some (.bool (decide (i∈s.act)),⟨n+1,[(ab,.cells [.ptr 0 0,.int .i64 (el),.int .i64 (mk)])::fr,VS n (s)]⟩):=
 qkw (x:=⟨s,el,mk⟩) (f1:=[]) hT inj_162 (i) ne ha (by simp[qa3,qa2]) (by simp[qbb,qaj]) d (by simp) of
def qrr(L:List Int) (i mk:Int):Int:=if 0<=atP L i/\atP L i < mk then mk - 1 else mk
theorem c141(hc0:qa9 135 T=some e135.g) (hc1:qa9 48 T=some e48.g) {s:SS} {el mk:Int} (ne:s.tree≠[]) (i:Int) (ha:s.act.length<=1000) (hm:mk<=1000000):GC T 141 [.int .i64 i] ⟨s,el,mk⟩ (.tup []) ⟨{ s with act:=qd8 s.act i },el,qrr s.act i mk⟩:=by
 have kc0:=@k135 T hc0;have kc1:=@k48 T hc1;have g0:=@vg0;have v0:=@vset;have kA:=fun H=>kc0 (L:=s.act) i (by omega) H;have kD:=fun H=>kc1 (L:=s.act) ha i H;have hu:qrr s.act i mk=if 0<=atP s.act i/\atP s.act i < mk then mk - 1 else mk:=rfl;rw[hu];clear kc0 kc1 hu;generalize atP s.act i=v at *;generalize qd8 s.act i=D at *;have hw:0<=v/\v < mk->wr .i64 (mk - 1)=some (mk - 1):=fun h=>qbs (by omega) (by omega);by_cases h1:0<=v;by_cases h2:v < mk;have hw:=hw ⟨h1,h2⟩;all_goals
  (try simp only[Tk.cs]at *)
  refine qa0 (s0:=⟨[0,1,4],[.ptr 1 0,.int .i64 i,uD],[],46,⟨3,[]::[_]⟩⟩) Tryz.func141 rfl rfl rfl ?_;apply qp2
  (repeat' (first
   |with_reducible apply qaa
   |(with_reducible apply rE;simp[zS, *,SS.post];exact rfl)
   |(with_reducible apply qad;simp only[qab,qa5])
   |(refine qay mixed qb6 (by decide +kernel) (by decide +kernel) rfl ?_;apply qh0;simp[zS,zW,qb9,qbt,qaz,Heap.lay,qb8, *,SS.post];exact rfl)
   |(with_reducible apply qbc;refine⟨by repeat first|exact qdi|refine qdj (by decide +kernel) ?_,?_⟩;simp only[qab,qa5,allPend,Heap.lay,qb8])
   |apply qah rfl
   |apply qai rfl
   |(with_reducible apply qa6;simp only[qab,qa5])))
  all_goals first|(((try simp[zQ,Tryz.f141]);first|exact qjm rfl rfl (by simp[qa2,qa3]) (by omega) ne (by simp[getF]) (by simp[getF]) (by simp[getF, *])))|(exfalso;omega)
def e141:Entry PG:=mkG 141 [[]] (fun z:Int=>[.int .i64 z]) (fun z x=>(x.s.act.length<=1000)/\(x.mr<=1000000)) (fun z x=>.tup []) (fun z x=>⟨{ x.s with act:=qd8 x.s.act z },x.el,qrr x.s.act z x.mr⟩) fun z x ne h=>⟨c141 (T:=[e135,e48]) rfl rfl ne z h.1 h.2,by simp[qa3,qa2],by simp[qa2,qa3],ne⟩
theorem k141(hT:qa9 141 T=some e141.g) {s:SS} {el mk:Int} (ne:s.tree≠[]) (i:Int) (ha:s.act.length<=1000) (hm:mk<=1000000) {n k ab:Nat} {fr:List (Nat × Blk)} (d:dT n k ab) (of:qg9 k ab fr):qat (ctx T) (.fn 141) [.ptr ab 0,.int .i64 i] ⟨n,[(ab,.cells [.ptr 0 0,.int .i64 (el),.int .i64 (mk)])::fr,VS k s]⟩=some (.tup [],⟨n+1,[(ab,.cells [.ptr 0 0,.int .i64 (el),.int .i64 (qrr s.act i mk)])::fr,VS n ({ s with act:=qd8 s.act i })]⟩):=
 qkw (x:=⟨s,el,mk⟩) (f1:=[]) hT inj_162 (i) ne ⟨ha,hm⟩ (by simp[qa3,qa2]) (by simp[qbb,qaj]) d (by simp) of
def qks(s:SS) (i:Int):SS:=⟨qix s.tree (qgw s.tree i),s.opn.map (swp i (s.tree.length:Int)),s.act.map (swp i (s.tree.length:Int)),s.mode,s.back,s.lex,s.form,s.head,s.foster,s.skip,s.inside⟩
theorem c194(hc0:qa9 138 T=some e138.g) (hc1:qa9 124 T=some e124.g) {s:SS} {el mk:Int} (ne:s.tree≠[]) (i:Int) (h0:0<=i) (hi:i < (s.tree.length:Int)) (hl:s.tree.length+1<=1000000) (ha:(qa1 s.tree i).attrs.length<=1000000) (ho:s.opn.length<=1000000) (hc:s.act.length<=1000000):GC T 194 [.int .i64 i] ⟨s,el,mk⟩ (.int .i64 (s.tree.length:Int)) ⟨qks s i,el,mk⟩:=by
 have kc0:=@k138 T hc0;have kc1:=@k124 T hc1;have g0:=@vg0;have v0:=@vset;have kB:=fun n k ab fr=>@kc0 s el mk ne i h0 hi hl ha n k ab fr;have kA:=fun H=>kc1 (L:=s.act) (by omega) i (s.tree.length:Int) H;have kO:=fun H=>kc1 (L:=s.opn) (by omega) i (s.tree.length:Int) H;have e:qks s i=⟨qix s.tree (qgw s.tree i),s.opn.map (swp i (s.tree.length:Int)),s.act.map (swp i (s.tree.length:Int)),s.mode,s.back,s.lex,s.form,s.head,s.foster,s.skip,s.inside⟩:=rfl;have ta:=qhr s.tree (qgw s.tree i);rw[e];clear e kc0 kc1 h0 hi hl ha ho hc;generalize qix s.tree (qgw s.tree i)=t1 at *;generalize s.opn.map (swp i (s.tree.length:Int))=o1 at *;generalize s.act.map (swp i (s.tree.length:Int))=a1 at *;all_goals
  (try simp only[Tk.cs]at *)
  refine qa0 (s0:=⟨[0,1,4,5],[.ptr 1 0,.int .i64 i,uD,uD],[],42,⟨3,[]::[_]⟩⟩) Tryz.func194 rfl rfl rfl ?_;apply qp2
  (repeat' (first
   |with_reducible apply qaa
   |(with_reducible apply rE;simp[zS, *,SS.post];exact rfl)
   |(with_reducible apply qad;simp only[qab,qa5])
   |(refine qay mixed qb6 (by decide +kernel) (by decide +kernel) rfl ?_;apply qh0;simp[zS,zW,qb9,qbt,qaz,Heap.lay,qb8, *,SS.post];exact rfl)
   |(with_reducible apply qbc;refine⟨by repeat first|exact qdi|refine qdj (by decide +kernel) ?_,?_⟩;simp only[qab,qa5,allPend,Heap.lay,qb8])
   |(with_reducible apply qa7;simp[zQ,Tryz.f194])))
  all_goals first|(((try simp[zQ,Tryz.f194]);exact qjm rfl rfl (by simp[qa2,qa3]) (by omega) ta (by simp[getF]) (by simp[getF]) (by simp[getF])))|(exfalso;omega)
def e194:Entry PG:=mkG 194 [[]] (fun z:Int=>[.int .i64 z]) (fun z x=>(0<=z)/\(z < (x.s.tree.length:Int))/\(x.s.tree.length+1<=1000000)/\((qa1 x.s.tree z).attrs.length<=1000000)/\(x.s.opn.length<=1000000)/\(x.s.act.length<=1000000)) (fun z x=>.int .i64 (x.s.tree.length:Int)) (fun z x=>⟨qks x.s z,x.el,x.mr⟩) fun z x ne h=>⟨c194 (T:=[e138,e124]) rfl rfl ne z h.1 h.2.1 h.2.2.1 h.2.2.2.1 h.2.2.2.2.1 h.2.2.2.2.2,by simp[qa3,qa2],by simp[qa2,qa3],qhr _ _⟩
theorem k194(hT:qa9 194 T=some e194.g) {s:SS} {el mk:Int} (ne:s.tree≠[]) (i:Int) (h0:0<=i) (hi:i < (s.tree.length:Int)) (hl:s.tree.length+1<=1000000) (ha:(qa1 s.tree i).attrs.length<=1000000) (ho:s.opn.length<=1000000) (hc:s.act.length<=1000000) {n k ab:Nat} {fr:List (Nat × Blk)} (d:dT n k ab) (of:qg9 k ab fr):qat (ctx T) (.fn 194) [.ptr ab 0,.int .i64 i] ⟨n,[(ab,.cells [.ptr 0 0,.int .i64 (el),.int .i64 (mk)])::fr,VS k s]⟩=some (.int .i64 (s.tree.length:Int),⟨n+1,[(ab,.cells [.ptr 0 0,.int .i64 (el),.int .i64 (mk)])::fr,VS n (qks s i)]⟩):=
 qkw (x:=⟨s,el,mk⟩) (f1:=[]) hT inj_162 (i) ne ⟨h0,hi,hl,ha,ho,hc⟩ (by simp[qa3,qa2]) (by simp[qbb,qaj]) d (by simp) of
theorem fitA2{x:AS} {n k ab:Nat} {f:List (Nat × Blk)} {N k' m' ab':Nat} (hN:(k' < N->k=k')/\(ab' < N->ab=ab')/\N<=m') (d':(k'≠0/\ab'≠0)/\k'≠ab'/\k' < m'/\ab' < m') (d:(k≠0/\ab≠0)/\k≠ab)
  (hne:x.s.tree≠[]) (hf0:getF 0 f=none) (hfk:getF k f=none) (ht:getF ab f=some (.cells (agC x))) :
  FitH N [(k,k'),(0,0),(ab,ab')] [] ⟨n,[f,VS k x.s]⟩ ⟨m',[[(ab',.cells (agC x))],VS k' x.s]⟩:=
 have h:=fitAR (n:=n) hN d' d hne hf0 hfk ht
 ⟨h.nd1,h.nd2,by simpa[Heap.ents,AR]using h.nd3,h.lt,h.idn,h.num,fun e he=>h.src e (by simpa[Heap.ents,AR]using he),h.frz⟩
theorem c134(hc0:qa9 79 T=some e79.g) (n:Nd) (hn:n.name.length<=1000000000):CallAt (ctx T) 134 [qag n] zH (.bool (qd5 n.space n.name)) zH:=by
 have kc0:=@k79 T hc0;have kS:=fun H=>kc0 n.space n.name hn H;clear kc0;generalize qd5 n.space n.name=b at *;refine qa0 (s0:=⟨[0,1,2],[qag n,uD,uD],[],8,⟨0,[[]]⟩⟩) Tryz.func134 rfl rfl rfl ?_
 (repeat' (first
  |with_reducible apply qaa
  |(with_reducible apply rE;simp[zS, *,Nd.cs,qag,qau];exact rfl)
  |(with_reducible apply qad;simp only[qab,qa5])
  |(with_reducible apply qa7;simp[zQ,Tryz.f134])))
 all_goals first|exact qak rfl (by first|(simp[*];done)|(simp_all;done))|(exfalso;omega)
def e134:Entry PG:=mkE 134 [[0,0,0,2,0,0,1]] (fun z:Nd=>[qag z]) (fun z=>(z.name.length<=1000000000)) (fun z=>.bool (qd5 z.space z.name)) fun z h=>c134 (T:=[e79]) rfl z h
theorem k134(hT:qa9 134 T=some e134.g) (n:Nd) (hn:n.name.length<=1000000000) (H:Heap):qat (ctx T) (.fn 134) [qag n] H=some (.bool (qd5 n.space n.name),H):=
 qb2 hT zbg (n) hn rfl (by simp[qaj])
theorem c50(hc0:qa9 51 T=some e51.g) (n:Nd) (hn:n.name.length<=1000000000):CallAt (ctx T) 50 [qag n] zH (.bool (qgi 0 n.space n.name)) zH:=by
 have kc0:=@k51 T hc0;have kS:=fun H=>kc0 0 n.space n.name hn H;clear kc0;generalize qgi 0 n.space n.name=b at *;refine qa0 (s0:=⟨[0,1,2],[qag n,uD,uD],[],8,⟨0,[[]]⟩⟩) Tryz.func50 rfl rfl rfl ?_
 (repeat' (first
  |with_reducible apply qaa
  |(with_reducible apply rE;simp[zS, *,Nd.cs,qag,qau];exact rfl)
  |(with_reducible apply qad;simp only[qab,qa5])
  |(with_reducible apply qa7;simp[zQ,Tryz.f50])))
 all_goals first|exact qak rfl (by first|(simp[*];done)|(simp_all;done))|(exfalso;omega)
def e50:Entry PG:=mkE 50 [[0,0,0,2,0,0,1]] (fun z:Nd=>[qag z]) (fun z=>(z.name.length<=1000000000)) (fun z=>.bool (qgi 0 z.space z.name)) fun z h=>c50 (T:=[e51]) rfl z h
theorem k50(hT:qa9 50 T=some e50.g) (n:Nd) (hn:n.name.length<=1000000000) (H:Heap):qat (ctx T) (.fn 50) [qag n] H=some (.bool (qgi 0 n.space n.name),H):=
 qb2 hT zbg (n) hn rfl (by simp[qaj])
def qmr(s:SS) (p:Nd->Bool) (a:Nat):Int:=qal (fun i=>p (qa1 s.tree i)) (s.opn.drop (a+1)) (a+1)
theorem beh_at{clo:FuncId} {p:Nd->Bool} {s:SS} {el mk:Int} (ne:s.tree≠[]) (a:Nat) (ha:a<=100000) (ho:s.opn.length<=100000) (hr:∀i,i∈s.opn->0<=i/\i < (s.tree.length:Int))
  (kP:∀i,i∈s.opn->∀H,qat (ctx T) (.fn clo) [qag (qa1 s.tree i)] H=some (.bool (p (qa1 s.tree i)),H)):GC T 49 [.int .i64 (a:Int),.func (.func clo) [] []] ⟨s,el,mk⟩ (.int .i64 (qmr s p a)) ⟨s,el,mk⟩:=by
 have g0:=@vg0;have gk:=@vgk;have lO:=fun H=>qn0 (H:=H) (L:=s.opn);have fS:∀(f:List (Nat × Blk)) (n k:Nat),k=2\/3<=k->getF 0 f=none->getF k f=none->getF 1 f=some (.cells [.ptr 0 0,.int .i64 el,.int .i64 mk])->FitH 3 [(k,3),(0,0),(1,1)] [] ⟨n,[f,VS k s]⟩ ⟨4,[[(1,.cells [.ptr 0 0,.int .i64 el,.int .i64 mk])],VS 3 s]⟩:=fun f n k hk h1 h2 h3=>fitA2 (x:=⟨s,el,mk⟩) (by omega) (by omega) (by omega) ne h1 h2 h3;refine qa0 (s0:=⟨[0,1,2,6,7],[.ptr 1 0,.int .i64 (a:Int),.func (.func clo) [] [],uD,uD],[],45,⟨3,[]::[_]⟩⟩) Tryz.func49 rfl rfl rfl ?_;apply qp2;apply qR;simp[zS];apply qR;simp[zS,qbo (show a<=1000000000 by omega)];apply qa4;refine qb1 (fun k:Nat=>(⟨[0,1,2,6,7],[.ptr 1 0,uD,.func (.func clo) [] [],uD,.int .i64 (k:Int)],[],45,⟨4,[[(1,.cells [.ptr 0 0,.int .i64 el,.int .i64 mk])],VS 3 s]⟩⟩ : St)) (fun k=>a+1<=k/\(a+1 < k->k<=s.opn.length)/\qmr s p a=qal (fun i=>p (qa1 s.tree i)) (s.opn.drop k) k) (fun k=>s.opn.length - k) [(2,3),(0,0),(1,1)] [] (a+1) ⟨Nat.le_refl _,fun h=>by omega,rfl⟩
  ⟨rfl,rfl,rfl,by simp[qax,qap,qav,qa2],fS _ _ 2 (by omega) (by simp[getF]) (by simp[getF]) (by simp[getF])⟩ ?_
 rintro k ⟨h1,h2,he⟩ B hB;by_cases hk:k < s.opn.length
 case neg=>
  have hb:qmr s p a = -1:=by rw[he,List.drop_eq_nil_of_le (by omega)];rfl
  rw[hb];have hlt:¬ (k:Int) < (s.opn.length:Int):=by omega
  apply qR;simp[zS,g0,ne,SS.post,lO,hlt];apply qai rfl;apply qas;simp;apply qR;simp[zS];apply qa7;simp[zQ,Tryz.f49];exact qjm rfl rfl rfl (by omega) ne (by simp[getF]) (by simp[getF]) (by simp[getF])
 case pos=>
  have hlt:(k:Int) < (s.opn.length:Int):=by omega
  have hat:=atI hk;have hm:=List.getElem_mem hk;have hd:=List.drop_eq_getElem_cons hk;rw[hd]at he;obtain⟨r0,r1⟩:=hr _ hm;have kP:=kP _ hm;generalize s.opn[k]=i at *;obtain⟨u,rfl⟩ : ∃u:Nat,i=u:=⟨i.toNat,by omega⟩;have hul:u < s.tree.length:=by omega
  have ix:=ixN (k:=3) (t:=s.tree) hul;have sb:=subN (t:=s.tree) hul;have en:(qa1 s.tree u).cs=[.int .i64 (qa1 s.tree u).kind,.int .i64 (qa1 s.tree u).space,.str (qa1 s.tree u).name,qaf (qa1 s.tree u).attrs,.str (qa1 s.tree u).data,.int .i64 (qa1 s.tree u).up,qac (qa1 s.tree u).kids]:=rfl;have ea:qag (qa1 s.tree u)=.agg (qa1 s.tree u).cs:=rfl;rw[ea]at kP;rw[en]at sb kP;clear en ea;unfold qal at he;generalize p (qa1 s.tree u)=b at *;generalize (qa1 s.tree u).kind=n1 at *;generalize (qa1 s.tree u).space=n2 at *;generalize (qa1 s.tree u).name=n3 at *;generalize (qa1 s.tree u).attrs=n4 at *;generalize (qa1 s.tree u).data=n5 at *;generalize (qa1 s.tree u).up=n6 at *;generalize (qa1 s.tree u).kids=n7 at *;have hw:wr .i64 ((k:Int)+1)=some ((k+1:Nat):Int):=qbo (by omega);cases b with
  |true=>
   rw[if_pos rfl]at he;rw[he];clear he hB hr hd hm h1 h2
   (repeat' (first
    |with_reducible apply qaa
    |with_reducible apply qa4
    |(with_reducible apply rE;simp[zS, *,SS.post];exact rfl)
    |(with_reducible apply qad;simp only[qab,qa5])
    |(refine qay mixed qb6 (by decide +kernel) (by decide +kernel) rfl ?_;apply qh0;simp[zS,zW,qb9,qbt,qaz,Heap.lay,qb8, *,SS.post];exact rfl)
    |(with_reducible apply qbc;refine⟨by repeat first|exact qdi|refine qdj (by decide +kernel) ?_,?_⟩;simp only[qab,qa5,allPend,Heap.lay,qb8])
    |apply qah rfl
    |(with_reducible apply qa6;simp only[qab,qa5])
    |(with_reducible apply qa7;simp[zQ,Tryz.f49])))
   all_goals first|(exact qjm rfl rfl rfl (by omega) ne (by simp[getF]) (by simp[getF]) (by simp[getF]))|(exfalso;omega)
  |false=>
   rw[if_neg (by simp)]at he;have hB2:=fun s' h=>hB s' (k+1) (by omega) ⟨by omega,fun _=>by omega,he⟩ h;clear he hB hr hd hm h1 h2
   (repeat' (first
    |with_reducible apply qaa
    |with_reducible apply qa4
    |(with_reducible apply rE;simp[zS, *,SS.post];exact rfl)
    |(with_reducible apply qad;simp only[qab,qa5])
    |(refine qay mixed qb6 (by decide +kernel) (by decide +kernel) rfl ?_;apply qh0;simp[zS,zW,qb9,qbt,qaz,Heap.lay,qb8, *,SS.post];exact rfl)
    |(with_reducible apply qbc;refine⟨by repeat first|exact qdi|refine qdj (by decide +kernel) ?_,?_⟩;simp only[qab,qa5,allPend,Heap.lay,qb8])
    |apply qah rfl
    |apply qai rfl
    |(with_reducible apply qa6;simp only[qab,qa5])))
   all_goals first|(exact hB2 _ ⟨[(_,3),(0,0),(1,1)],[],rfl,rfl,rfl,by simp[qax,qap,qav,qa2],fS _ _ _ (by omega) (by simp[getF]) (by simp[getF]) (by simp[getF])⟩)|(exfalso;omega)
theorem nm_at{t:Tr} (h:qhc t) {i:Int} (hi:0<=i/\i < (t.length:Int)):(qa1 t i).name.length<=1000000000:=by have:=h i;unfold qbh at this;rw[if_pos (by simp[isB];omega)]at this;exact this
abbrev qz0(n:Nd):Bool:=qd5 n.space n.name
abbrev stpN(n:Nd):Bool:=qgi 0 n.space n.name
theorem inj_behr(x y:Nat) (h:(fun a:Nat=>([.int .i64 (a:Int),.func (.func 134) [] []]:List AV)) x=(fun a:Nat=>([.int .i64 (a:Int),.func (.func 134) [] []]:List AV)) y):x=y:=by simp only[List.cons.injEq,AV.int.injEq,true_and,and_true]at h;omega
def e49r:Entry PG:=mkG 49 [[],[]] (fun a:Nat=>[.int .i64 (a:Int),.func (.func 134) [] []]) (fun a x=>a<=100000/\x.s.opn.length<=100000/\(∀i,i∈x.s.opn->0<=i/\i < (x.s.tree.length:Int))/\qhc x.s.tree) (fun a x=>.int .i64 (qmr x.s qz0 a)) (fun a x=>x) fun a x ne h=>
 ⟨beh_at (T:=[e134]) ne a h.1 h.2.1 h.2.2.1 (fun i hi H=>k134 rfl (qa1 x.s.tree i) (nm_at h.2.2.2 (h.2.2.1 i hi)) H),by simp[qa3,qa2],by simp[qa2],ne⟩
theorem k49r(hT:qa9 49 T=some e49r.g) {s:SS} {el mk:Int} (ne:s.tree≠[]) (a:Nat) (ha:a<=100000) (ho:s.opn.length<=100000) (hr:∀i,i∈s.opn->0<=i/\i < (s.tree.length:Int)) (hn:qhc s.tree) {n k ab:Nat} {fr:List (Nat × Blk)} (d:dT n k ab) (of:qg9 k ab fr) :
  qat (ctx T) (.fn 49) [.ptr ab 0,.int .i64 (a:Int),.func (.func 134) [] []] ⟨n,[(ab,.cells [.ptr 0 0,.int .i64 el,.int .i64 mk])::fr,VS k s]⟩=some (.int .i64 (qmr s qz0 a),⟨n+1,[(ab,.cells [.ptr 0 0,.int .i64 el,.int .i64 mk])::fr,VS n s]⟩):=
 qkw (x:=⟨s,el,mk⟩) (f1:=[]) hT inj_behr a ne ⟨ha,ho,hr,hn⟩ (by simp[qa3,qa2]) (by simp[qbb,qaj,okV,qa2,qa3]) d (by simp) of
theorem inj_behR(x y:Nat) (h:(fun a:Nat=>([.int .i64 (a:Int),.func (.func 50) [] []]:List AV)) x=(fun a:Nat=>([.int .i64 (a:Int),.func (.func 50) [] []]:List AV)) y):x=y:=by simp only[List.cons.injEq,AV.int.injEq,true_and,and_true]at h;omega
def e49R:Entry PG:=mkG 49 [[],[]] (fun a:Nat=>[.int .i64 (a:Int),.func (.func 50) [] []]) (fun a x=>a<=100000/\x.s.opn.length<=100000/\(∀i,i∈x.s.opn->0<=i/\i < (x.s.tree.length:Int))/\qhc x.s.tree) (fun a x=>.int .i64 (qmr x.s stpN a)) (fun a x=>x) fun a x ne h=>
 ⟨beh_at (T:=[e50]) ne a h.1 h.2.1 h.2.2.1 (fun i hi H=>k50 rfl (qa1 x.s.tree i) (nm_at h.2.2.2 (h.2.2.1 i hi)) H),by simp[qa3,qa2],by simp[qa2],ne⟩
theorem k49R(hT:qa9 49 T=some e49R.g) {s:SS} {el mk:Int} (ne:s.tree≠[]) (a:Nat) (ha:a<=100000) (ho:s.opn.length<=100000) (hr:∀i,i∈s.opn->0<=i/\i < (s.tree.length:Int)) (hn:qhc s.tree) {n k ab:Nat} {fr:List (Nat × Blk)} (d:dT n k ab) (of:qg9 k ab fr) :
  qat (ctx T) (.fn 49) [.ptr ab 0,.int .i64 (a:Int),.func (.func 50) [] []] ⟨n,[(ab,.cells [.ptr 0 0,.int .i64 el,.int .i64 mk])::fr,VS k s]⟩=some (.int .i64 (qmr s stpN a),⟨n+1,[(ab,.cells [.ptr 0 0,.int .i64 el,.int .i64 mk])::fr,VS n s]⟩):=
 qkw (x:=⟨s,el,mk⟩) (f1:=[]) hT inj_behR a ne ⟨ha,ho,hr,hn⟩ (by simp[qa3,qa2]) (by simp[qbb,qaj,okV,qa2,qa3]) d (by simp) of
structure CS where
 s:SS
 mr:Int
 last:Int
def clU(k:Nat) (i:Int) (s:SS):SS:=if 3 < k then { s with act:=qd8 s.act i } else s
def clM(k:Nat) (i:Int) (s:SS) (mk:Int):Int:=if 3 < k then qrr s.act i mk else mk
def clD(k:Nat) (i:Int) (c:CS):CS:=⟨{ clU k i c.s with opn:=qcj c.s.opn i },clM k i c.s c.mr,c.last⟩
def clT(s:SS) (i last:Int):Tr:=qlf (qix s.tree (qgw s.tree i)) (s.tree.length:Int) ((qa1 (qix s.tree (qgw s.tree i)) (s.tree.length:Int)).kids.length:Int) last
def clR(block:Int) (i:Int) (c:CS):CS:=⟨{ qks c.s i with tree:=clT c.s i c.last },if c.last=block then atP (c.s.act.map (swp i (c.s.tree.length:Int))) (c.s.tree.length:Int)+1 else c.mr,(c.s.tree.length:Int)⟩
def qfo(block:Int) (k:Nat) (i:Int) (c:CS):CS:=if 3 < k\/i ∉ c.s.act then clD k i c else clR block i c
def qjn(el block:Int):Nat->Nat->CS->CS
 |0,_,c=>c
 |p+1,k,c=>if c.s.opn.getD p 0=el then c else qjn el block p (k+1) (qfo block k (c.s.opn.getD p 0) c)
structure CI (el block:Int) (B d a c e:Nat) (p k:Nat) (x:CS):Prop where
 bi:∃n,n+2 * (4 - k)<=B/\BI n d a c e x.s
 eo:el∈x.s.opn.take p
 pl:p<=x.s.opn.length
 bk:block∈x.s.opn.drop p
 ea:el∈x.s.act
 ll:0<=x.last/\x.last < (x.s.tree.length:Int)
 ml:x.mr<=1000
theorem unlM_le(L:List Int) (i mk:Int):qrr L i mk<=mk:=by unfold qrr;split<;>omega
theorem zcv(L:List Int) (i:Int):atP L i < (L.length:Int)\/atP L i = -1:=by have:=qpq (p:=fun k=>decide (k=i)) L 0;unfold atP;omega
theorem zbl{α:Type} {p:α->Bool}:∀(L:List α) (k:Nat),-1<=qal p L k
 |[],k=>by unfold qal;omega
 |a::r,k=>by
  unfold qal;split
  ·omega
  ·exact zbl r (k+1)
theorem atP_ge(L:List Int) (i:Int) : -1<=atP L i:=zbl _ _
theorem zb0{L:List Int} {i x:Int} (h:x∈L) (hx:x≠i):x∈qd8 L i:=by unfold qd8;rw[List.mem_filter];exact⟨h,by simp[hx]⟩
theorem zau{L:List Int} {i:Int} (h:0<=i):i ∉ qd8 L i:=by unfold qd8;rw[List.mem_filter];simp[h]
theorem opn_at{o:List Int} {p:Nat} (hn:o.Nodup) (hp:p < o.length) {el:Int} (he:el∈o.take (p+1)) (hi:o[p]≠el):el∈o.take p/\o[p] ∉ o.take p/\o[p] ∉ o.drop (p+1)/\1<=p:=by
 rw[List.take_succ_eq_append_getElem hp,List.mem_append,List.mem_singleton]at he;have h1:el∈o.take p:=he.resolve_right fun e=>hi e.symm;have e:o=o.take p++o[p]::o.drop (p+1):=by rw[<- List.drop_eq_getElem_cons hp,List.take_append_drop]
 rw[e,List.nodup_append]at hn;refine⟨h1,fun h=>hn.2.2 _ h _ (List.mem_cons_self ..) rfl,(List.nodup_cons.1 hn.2.1).1,?_⟩;cases p with
 |zero=>simp at h1
 |succ p=>omega
theorem qtk{l:List Int} {i:Int} (h:i ∉ l):qcj l i=l:=by unfold qcj;rw[List.filter_eq_self];intro x hx;have:x≠i:=fun e=>h (e ▸ hx);simp[this]
theorem qvn{l:List Int} {i b:Int} (h:i ∉ l):l.map (swp i b)=l:=by refine(List.map_congr_left fun x hx=>?_).trans (List.map_id l);have:x≠i:=fun e=>h (e ▸ hx);unfold swp;rw[if_neg this];rfl
theorem CI.step{el block:Int} {B d a c e p k:Nat} {x:CS} (h:CI el block B d a c e (p+1) k x) (hk:1<=k) (he:e<=900) (hi:x.s.opn.getD p 0≠el):CI el block B d a c e p (k+1) (qfo block k (x.s.opn.getD p 0) x)/\KeepN x.s.tree (qfo block k (x.s.opn.getD p 0) x).s.tree:=by
 obtain⟨n,hn,bi⟩:=h.bi;have hp:p < x.s.opn.length:=by have:=h.pl;omega
 have hg:x.s.opn.getD p 0=x.s.opn[p]:=by simp[List.getD_eq_getElem?_getD,hp]
 rw[hg]at hi ⊢;have him:x.s.opn[p]∈x.s.opn:=List.getElem_mem hp;obtain⟨o1,o2,o3,o4⟩:=opn_at bi.nd hp h.eo hi;have eo:x.s.opn=x.s.opn.take p++x.s.opn[p]::x.s.opn.drop (p+1):=by rw[<- List.drop_eq_getElem_cons hp,List.take_append_drop]
 have hne1:x.s.opn[p]≠1:=fun e=>by
  have h0:x.s.opn[0]? = some 1:=by rw[<- List.head?_eq_getElem?];exact bi.hd
  have h1:x.s.opn[0]'(by omega)=1:=by rw[List.getElem?_eq_getElem (by omega)]at h0;exact Option.some.inj h0
  have:=(List.nodup_iff_pairwise_ne.1 bi.nd);rw[List.pairwise_iff_getElem]at this;exact this 0 p (by omega) hp (by omega) (by rw[h1,e])
 have hrg:=bi.rg _ him;have hbk:=h.bk;obtain⟨L,hL⟩ : ∃L,L=x.s.opn.drop (p+1):=⟨_,rfl⟩;obtain⟨F,hF⟩ : ∃F,F=x.s.opn.take p:=⟨_,rfl⟩;have lF:F.length=p:=by rw[hF,List.length_take];omega
 have ei:∃i,i=x.s.opn[p]:=⟨_,rfl⟩;obtain⟨i,ei⟩:=ei;rw[<- hL]at o3 hbk eo;rw[<- hF]at o1 o2 eo;rw[<- ei]at o2 o3 eo hi him hne1 hrg ⊢;clear hL hF hg;unfold qfo;split
 ·rename_i hc;have ed:qcj x.s.opn i=F++L:=by rw[eo];have:qcj (F++i::L) i=qcj F i++qcj L i:=(by unfold qcj;simp);rw[this,qtk o2,qtk o3]
  have hu:BI n d a c e (clU k i x.s)/\(clU k i x.s).opn=x.s.opn/\(clU k i x.s).tree=x.s.tree/\el∈(clU k i x.s).act:=by
   unfold clU;split
   ·exact⟨bi.act List.filter_sublist,rfl,rfl,zb0 h.ea fun e=>hi e.symm⟩
   ·exact⟨bi,rfl,rfl,h.ea⟩
  obtain⟨u1,u2,u3,u4⟩:=hu;have hd:=u1.drop hne1;rw[u2]at hd;refine⟨⟨⟨n,by omega,hd⟩,?_,?_,?_,u4,?_,?_⟩,by show KeepN x.s.tree (clU k i x.s).tree;rw[u3];exact .refl _⟩
  ·show el∈(qcj x.s.opn i).take p;rw[ed,<- lF,List.take_left];exact o1
  ·show p<=(qcj x.s.opn i).length;rw[ed,List.length_append];omega
  ·show block∈(qcj x.s.opn i).drop p;rw[ed,<- lF,List.drop_left];exact hbk
  ·show 0<=x.last/\x.last < ((clU k i x.s).tree.length:Int);rw[u3];exact h.ll
  ·show clM k i x.s x.mr<=1000;have:=h.ml;unfold clM;split
   ·have:=unlM_le x.s.act i x.mr;omega
   ·exact this
 ·rename_i hc;have hk3:k<=3:=by omega
  have hia:i∈x.s.act:=Decidable.byContradiction fun h=>hc (.inr h);obtain⟨M,hM,hcv⟩:=bi.cv;obtain⟨at1,at2,_⟩:=bi.tb.at_ (i:=i) (by omega) (by omega);have lt:(clT x.s i x.last).length=x.s.tree.length+1:=by unfold clT;rw[qmw,qlc]
  have tb:TB (n+1) (n+1) d a (clT x.s i x.last):=(bi.tb.add (qgw x.s.tree i) at2 (by simp[qgw]) at1).put _ _ _;have kp:KeepN x.s.tree (clT x.s i x.last):=(qqw _ _).trans (qn1 _ _ _ _);have hfo:∀y,y∈x.s.opn->y≠(x.s.tree.length:Int):=fun y hy=>by have:=bi.rg y hy;omega
  have hfa:∀y,y∈x.s.act->y≠(x.s.tree.length:Int):=fun y hy=>by have:=bi.ac y hy;omega
  have em:x.s.opn.map (swp i (x.s.tree.length:Int))=F++(x.s.tree.length:Int)::L:=by rw[eo,List.map_append,List.map_cons,qvn o2,qvn o3];unfold swp;rw[if_pos rfl]
  have mM:i∈M:=hcv i (.inl him);have n1:i ≠ -1:=by omega
  refine⟨⟨⟨n+2,by omega,⟨tb.mono (by omega) (by omega) (Nat.le_refl _) (Nat.le_refl _),bi.fo,?_,?_,nd_map bi.nd hfo,?_,zav bi.an hfa n1,by show (x.s.act.map _).length<=e;rw[List.length_map];exact bi.al,bi.fm,⟨M.map (swp i (x.s.tree.length:Int)),by simpa using hM,?_⟩,qwv bi.h1 kp⟩⟩,?_,?_,?_,?_,?_,?_⟩,kp⟩
  ·show (x.s.opn.map (swp i (x.s.tree.length:Int))).head? = some 1;have:=bi.hd;rw[List.head?_map,this];simp only[Option.map_some];unfold swp;rw[if_neg fun h=>hne1 h.symm]
  ·intro y hy;show 1<=y/\y < ((clT x.s i x.last).length:Int);rw[lt];rcases qlr hy with⟨hy,_⟩|⟨rfl,_⟩
   ·have:=bi.rg y hy;omega
   ·have:=bi.h1.1;omega
  ·intro y hy;show y = -1\/(2<=y/\y < ((clT x.s i x.last).length:Int));rw[lt];rcases qlr hy with⟨hy,_⟩|⟨rfl,_⟩
   ·have:=bi.ac y hy;omega
   ·have:=bi.h1.1;omega
  ·intro y hy;rcases hy with hy|⟨hy,hy1⟩
   ·rcases qlr hy with⟨hy,hyi⟩|⟨rfl,_⟩
    ·exact qm1 (hcv y (.inl hy)) hyi
    ·exact qm2 mM
   ·rcases qlr hy with⟨hy,hyi⟩|⟨rfl,_⟩
    ·exact qm1 (hcv y (.inr ⟨hy,hy1⟩)) hyi
    ·exact qm2 mM
  ·show el∈(x.s.opn.map (swp i (x.s.tree.length:Int))).take p;rw[em,<- lF,List.take_left];exact o1
  ·show p<=(x.s.opn.map (swp i (x.s.tree.length:Int))).length;rw[List.length_map];omega
  ·show block∈(x.s.opn.map (swp i (x.s.tree.length:Int))).drop p;rw[em,<- lF,List.drop_left];exact List.mem_cons_of_mem _ hbk
  ·show el∈x.s.act.map (swp i (x.s.tree.length:Int));exact List.mem_map.2 ⟨el,h.ea,by unfold swp;rw[if_neg fun e=>hi e.symm]⟩
  ·show 0<=(x.s.tree.length:Int)/\(x.s.tree.length:Int) < ((clT x.s i x.last).length:Int);rw[lt];omega
  ·show (if x.last=block then atP (x.s.act.map (swp i (x.s.tree.length:Int))) (x.s.tree.length:Int)+1 else x.mr)<=1000;have:=h.ml;have:=bi.al;have:=zcv (x.s.act.map (swp i (x.s.tree.length:Int))) (x.s.tree.length:Int);rw[List.length_map]at this;split<;>omega
theorem CI.all{el block:Int} {B d a c e:Nat} (he:e<=900):∀(p k:Nat) {x:CS},CI el block B d a c e p k x->1<=k->(∃q j,CI el block B d a c e q j (qjn el block p k x))/\KeepN x.s.tree (qjn el block p k x).s.tree
 |0,k,x,h,_=>⟨⟨0,k,h⟩,.refl _⟩
 |p+1,k,x,h,hk=>by
  unfold qjn;split
  ·exact⟨⟨p+1,k,h⟩,.refl _⟩
  next hi=>obtain⟨h1,h2⟩:=h.step hk he hi;obtain⟨h3,h4⟩:=CI.all he p (k+1) h1 (by omega);exact⟨h3,h2.trans h4⟩
set_option maxHeartbeats 2000000
def ClOk(el block:Int) (s:SS) (mk:Int):Prop:=∃p:Nat,qal (fun y=>decide (block=y)) s.opn 0=(p:Int)/\CI el block 90000 1000000 850 900 900 p 1 ⟨s,mk,block⟩
def qfn(el block:Int) (s:SS) (mk:Int):CS:=qjn el block (qal (fun y=>decide (block=y)) s.opn 0).toNat 1 ⟨s,mk,block⟩
theorem zcf{el block:Int} {s:SS} {mk:Int} (h:ClOk el block s mk):(qfn el block s mk).s.tree≠[]:=by obtain⟨p,hp,hc⟩:=h;unfold qfn;rw[hp,Int.toNat_natCast];obtain⟨⟨q,j,hq⟩,_⟩:=CI.all (by omega) p 1 hc (Nat.le_refl 1);obtain⟨n,_,bi⟩:=hq.bi;exact bi.ne
theorem c136(hc0:qa9 47 T=some e47.g) (hc1:qa9 141 T=some e141.g) (hc2:qa9 43 T=some e43.g) (hc3:qa9 143 T=some e143.g) (hc4:qa9 194 T=some e194.g) (hc5:qa9 135 T=some e135.g) (hc6:qa9 140 T=some e140.g) {s:SS} {el mk:Int} (ne:s.tree≠[]) (block:Int) (h:ClOk el block s mk):GC T 136 [.int .i64 block] ⟨s,el,mk⟩ (.int .i64 (qfn el block s mk).last) ⟨(qfn el block s mk).s,el,(qfn el block s mk).mr⟩:=by
 have kc0:=@k47 T hc0;have kc1:=@k141 T hc1;have kc2:=@k43 T hc2;have kc3:=@k143 T hc3;have kc4:=@k194 T hc4;have kc5:=@k135 T hc5;have kc6:=@k140 T hc6;have g0:=@vg0;have v0:=@vset;obtain⟨p0,hp0,h0⟩:=h;have eR:qfn el block s mk=qjn el block p0 1 ⟨s,mk,block⟩:=by unfold qfn;rw[hp0];rfl
 rw[eR];have hol:s.opn.length<=900:=by obtain⟨n,_,bi⟩:=h0.bi;exact bi.ol
 have kX:=fun H=>kc0 (L:=s.opn) block (by omega) H;rw[hp0]at kX;have hp0l:p0<=900:=by have:=h0.pl;simp only at this;omega
 clear hp0 eR kc0;obtain⟨R,hR⟩ : ∃R,R=qjn el block p0 1 ⟨s,mk,block⟩:=⟨_,rfl⟩;have neR:R.s.tree≠[]:=by obtain⟨⟨q,j,hq⟩,_⟩:=CI.all (by omega) p0 1 h0 (Nat.le_refl 1);obtain⟨n,_,bi⟩:=hq.bi;rw[hR];exact bi.ne
 rw[<- hR];have gk:=@vgk;have fS:∀(c:CS) (f:List (Nat × Blk)) (n k:Nat),k=2\/3<=k->c.s.tree≠[]->getF 0 f=none->getF k f=none->getF 1 f=some (.cells [.ptr 0 0,.int .i64 el,.int .i64 c.mr])->FitH 3 [(k,3),(0,0),(1,1)] [] ⟨n,[f,VS k c.s]⟩ ⟨4,[[(1,.cells [.ptr 0 0,.int .i64 el,.int .i64 c.mr])],VS 3 c.s]⟩:=fun c f n k hk ne h1 h2 h3=>fitA2 (x:=⟨c.s,el,c.mr⟩) (by omega) (by omega) (by omega) ne h1 h2 h3;all_goals
  (try simp only[Tk.cs]at *)
  refine qa0 (s0:=⟨[0,1,4,5,6,7,8,9],[.ptr 1 0,.int .i64 block,uD,uD,uD,uD,uD,uD],[],89,⟨3,[]::[_]⟩⟩) Tryz.func136 rfl rfl rfl ?_;apply qp2;apply qR;simp[zS];apply qR;simp[zS];apply qR;simp[zS,g0,ne,SS.post,kX];apply qR;simp[zS];apply qa4;refine qb1 (fun x:Nat × Nat × CS=>(⟨[0,1,4,5,6,7,8,9],[.ptr 1 0,.int .i64 block,uD,.int .i64 x.2.2.last,.int .i64 (x.1:Int),.int .i64 (x.2.1:Int),uD,uD],[],89,⟨4,[[(1,.cells [.ptr 0 0,.int .i64 el,.int .i64 x.2.2.mr])],VS 3 x.2.2.s]⟩⟩ : St)) (fun x=>CI el block 90000 1000000 850 900 900 x.1 x.2.1 x.2.2/\1<=x.2.1/\x.2.1+x.1<=p0+1/\R=qjn el block x.1 x.2.1 x.2.2) (fun x=>x.1) [(2,3),(0,0),(1,1)] [] (p0,1,⟨s,mk,block⟩) ⟨h0,Nat.le_refl 1,by simp only;omega,hR⟩
   ⟨rfl,rfl,rfl,by simp[qax,qap,qav,qa2],fS ⟨s,mk,block⟩ _ _ 2 (by omega) ne (by simp[getF]) (by simp[getF]) (by simp[getF])⟩ ?_
  rintro⟨p,k,⟨s0,mk0,last⟩⟩ ⟨hc,hk1,hkp,hx⟩ B hB;simp only at hc hk1 hkp hx hB ⊢;clear hR kX ne h0 hol s;obtain⟨n,hn,bi⟩:=hc.bi;have bi:BI n 1000000 850 900 900 s0:=bi;have ne:=bi.ne;have hpl:=hc.pl;have hml:=hc.ml;have hal:=bi.al;have hol2:=bi.ol;have hll:=hc.ll;have htl:=bi.tb.n1;simp only at hpl hml hll;cases p with
  |zero=>have:=hc.eo;simp at this
  |succ p=>
   have hp:p < s0.opn.length:=(by omega);have hat:=atI hp;have hg:s0.opn.getD p 0=s0.opn[p]:=(by simp[List.getD_eq_getElem?_getD,hp]);have hrg:=bi.rg _ (List.getElem_mem hp);have hst:s0.opn[p]≠el->CI el block 90000 1000000 850 900 900 p (k+1) (qfo block k s0.opn[p] ⟨s0,mk0,last⟩):=fun hi=>(by have:=(hc.step hk1 (by omega) (by simp only;rw[hg];exact hi)).1;simp only[hg]at this;exact this);have hx2:R=if s0.opn[p]=el then ⟨s0,mk0,last⟩ else qjn el block p (k+1) (qfo block k s0.opn[p] ⟨s0,mk0,last⟩):=(by rw[hx];show (if s0.opn.getD p 0=el then _ else qjn el block p (k+1) (qfo block k (s0.opn.getD p 0) _))=_;rw[hg]);have hatt:=(bi.tb.at_ (i:=s0.opn[p]) (by omega) (by omega)).1;have hws:wr .i64 (((p+1:Nat):Int) - 1)=some (p:Int):=(by rw[show (((p+1:Nat):Int) - 1)=(p:Int) by omega];exact qbs (by omega) (by omega));obtain⟨pp,hpp⟩ : ∃pp:Int,pp=((p+1:Nat):Int):=⟨_,rfl⟩;rw[<- hpp]at hws ⊢;clear hpp;generalize s0.opn[p]=i at *;by_cases hi:i=el
   ·rw[if_pos hi]at hx2;subst hx2 hi;clear hB hst hx hc bi
    (repeat' (first
     |with_reducible apply qaa
     |with_reducible apply qa4
     |(with_reducible apply rE;simp[zS, *,SS.post];exact rfl)
     |(with_reducible apply qad;simp only[qab,qa5])
     |apply qah rfl
     |(with_reducible apply qa7;simp[zQ,Tryz.f136])))
    all_goals first|(exact qjm rfl rfl (by simp[qa2,qa3]) (by omega) ne (by simp[getF]) (by simp[getF]) (by simp[getF]))|(exfalso;omega)
   ·rw[if_neg hi]at hx2;have hst:=hst hi;have hB2:=fun s' hh=>hB s' (p,k+1,qfo block k i ⟨s0,mk0,last⟩) (by simp only;omega) ⟨hst,by simp only;omega,by simp only;omega,hx2⟩ hh;have nst:(qfo block k i ⟨s0,mk0,last⟩).s.tree≠[]:=(by obtain⟨_,_,b2⟩:=hst.bi;exact b2.ne);have fT:=fS (qfo block k i ⟨s0,mk0,last⟩);have hkw:wr .i64 ((k:Int)+1)=some ((k+1:Nat):Int):=qbo (by omega);simp only at hB2;clear hB hx hx2 hst;by_cases h3:3 < k
    ·have e:qfo block k i ⟨s0,mk0,last⟩=⟨⟨s0.tree,qcj s0.opn i,qd8 s0.act i,s0.mode,s0.back,s0.lex,s0.form,s0.head,s0.foster,s0.skip,s0.inside⟩,qrr s0.act i mk0,last⟩:=(by unfold qfo clD clU clM;rw[if_pos (.inl h3),if_pos h3,if_pos h3]);rw[e]at hB2 nst fT;have hda:(qd8 s0.act i).length<=1000:=(by have:(qd8 s0.act i).length<=s0.act.length:=List.length_filter_le _ _;omega);have kU:=fun n k ab fr=>@kc1 s0 el mk0 ne i (by omega) (by omega) n k ab fr;have kL:=fun n k ab fr=>@kc2 ⟨s0.tree,s0.opn,qd8 s0.act i,s0.mode,s0.back,s0.lex,s0.form,s0.head,s0.foster,s0.skip,s0.inside⟩ el (qrr s0.act i mk0) ne i (by simp only;omega) n k ab fr;have hno:decide (i∈qd8 s0.act i)=false:=decide_eq_false (zau (by omega));simp only[hno]at kL;have kD:=fun H=>kc3 (L:=s0.opn) (by omega) i H;have h3':(3:Int) < (k:Int):=(by omega);clear kc1 kc2 kc3 kc4 kc5 kc6 e hc bi hno hg;generalize qcj s0.opn i=O1 at *;generalize qd8 s0.act i=A1 at *;generalize qrr s0.act i mk0=m1 at *
     (repeat' (first
      |with_reducible apply qaa
      |with_reducible apply qa4
      |(with_reducible apply rE;simp[zS, *,SS.post];exact rfl)
      |(with_reducible apply qad;simp only[qab,qa5])
      |(refine qay mixed qb6 (by decide +kernel) (by decide +kernel) rfl ?_;apply qh0;simp[zS,zW,qb9,qbt,qaz,Heap.lay,qb8, *,SS.post];exact rfl)
      |(with_reducible apply qbc;refine⟨by repeat first|exact qdi|refine qdj (by decide +kernel) ?_,?_⟩;simp only[qab,qa5,allPend,Heap.lay,qb8])
      |apply qah rfl
      |apply qai rfl
      |(with_reducible apply qa6;simp only[qab,qa5])
      |(with_reducible apply qas;simp)))
     all_goals first|(exact hB2 _ ⟨[(_,3),(0,0),(1,1)],[],rfl,rfl,rfl,by simp[qax,qap,qav,qa2],fT _ _ _ (by omega) nst (by simp[getF]) (by simp[getF]) (by simp[getF])⟩)|(exfalso;omega)
    ·by_cases hia:i∈s0.act
     ·have e:qfo block k i ⟨s0,mk0,last⟩=clR block i ⟨s0,mk0,last⟩:=(by unfold qfo;rw[if_neg (fun h=>h.elim h3 (fun h=>h hia))]);have h3':¬ (3:Int) < (k:Int):=(by omega);have kL:=fun n k ab fr=>@kc2 s0 el mk0 ne i (by omega) n k ab fr;simp only[decide_eq_true hia]at kL;have kR:=fun n k ab fr=>@kc4 s0 el mk0 ne i (by omega) (by omega) (by omega) (by omega) (by omega) (by omega) n k ab fr;have kA:=fun H=>kc5 (L:=s0.act.map (swp i (s0.tree.length:Int))) (s0.tree.length:Int) (by rw[List.length_map];omega) H;have hal2:=zcv (s0.act.map (swp i (s0.tree.length:Int))) (s0.tree.length:Int);rw[List.length_map]at hal2;have hal3:=atP_ge (s0.act.map (swp i (s0.tree.length:Int))) (s0.tree.length:Int);have eT:clT s0 i last=qlf (qix s0.tree (qgw s0.tree i)) (s0.tree.length:Int) ((qa1 (qix s0.tree (qgw s0.tree i)) (s0.tree.length:Int)).kids.length:Int) last:=rfl;have rne:(qks s0 i).tree≠[]:=qhr _ _;have rle:qd1 (qks s0 i).tree 999999:=(bi.tb.add (qgw s0.tree i) (by have:=(bi.tb.at_ (i:=i) (by omega) (by omega)).2.1;exact this) (by simp[qgw]) hatt).le (by omega);have rln:(qks s0 i).tree.length=s0.tree.length+1:=qlc _;have kI:=fun mk n k ab fr=>@kc6 (qks s0 i) el mk rne (s0.tree.length:Int) last (by omega) (by rw[rln];omega) (by rw[rln];omega) rle n k ab fr;have eI:({ qks s0 i with tree:=qlf (qks s0 i).tree (s0.tree.length:Int) ((qa1 (qks s0 i).tree (s0.tree.length:Int)).kids.length:Int) last }:SS)={ qks s0 i with tree:=clT s0 i last }:=rfl;simp only[eI]at kI;have er:qks s0 i=⟨qix s0.tree (qgw s0.tree i),s0.opn.map (swp i (s0.tree.length:Int)),s0.act.map (swp i (s0.tree.length:Int)),s0.mode,s0.back,s0.lex,s0.form,s0.head,s0.foster,s0.skip,s0.inside⟩:=rfl;by_cases hlb:last=block
      ·have e2:clR block i ⟨s0,mk0,last⟩=⟨⟨clT s0 i last,s0.opn.map (swp i (s0.tree.length:Int)),s0.act.map (swp i (s0.tree.length:Int)),s0.mode,s0.back,s0.lex,s0.form,s0.head,s0.foster,s0.skip,s0.inside⟩,atP (s0.act.map (swp i (s0.tree.length:Int))) (s0.tree.length:Int)+1,(s0.tree.length:Int)⟩:=(by unfold clR;simp only;rw[if_pos hlb];rfl);rw[e,e2]at hB2 nst fT;clear e e2;subst hlb;rw[er]at kR kI rne;have haw:wr .i64 (atP (s0.act.map (swp i (s0.tree.length:Int))) (s0.tree.length:Int)+1)=some (atP (s0.act.map (swp i (s0.tree.length:Int))) (s0.tree.length:Int)+1):=qbs (by omega) (by omega);clear kc1 kc2 kc3 kc4 kc5 kc6 er eI eT bi hc hatt rle rln hia;simp only at kI rne;generalize clT s0 i last=t1 at *;generalize qix s0.tree (qgw s0.tree i)=t2 at *;generalize atP (s0.act.map (swp i (s0.tree.length:Int))) (s0.tree.length:Int)=v at *;generalize s0.act.map (swp i (s0.tree.length:Int))=A1 at *;generalize s0.opn.map (swp i (s0.tree.length:Int))=O1 at *
       (repeat' (first
        |with_reducible apply qaa
        |with_reducible apply qa4
        |(with_reducible apply rE;simp[zS, *,SS.post];exact rfl)
        |(with_reducible apply qad;simp only[qab,qa5])
        |apply qah rfl
        |apply qai rfl
        |(with_reducible apply qa6;simp only[qab,qa5])))
       all_goals first|(exact hB2 _ ⟨[(_,3),(0,0),(1,1)],[],rfl,rfl,rfl,by simp[qax,qap,qav,qa2],fT _ _ _ (by omega) nst (by simp[getF]) (by simp[getF]) (by simp[getF])⟩)|(exfalso;omega)
      ·have e2:clR block i ⟨s0,mk0,last⟩=⟨⟨clT s0 i last,s0.opn.map (swp i (s0.tree.length:Int)),s0.act.map (swp i (s0.tree.length:Int)),s0.mode,s0.back,s0.lex,s0.form,s0.head,s0.foster,s0.skip,s0.inside⟩,mk0,(s0.tree.length:Int)⟩:=(by unfold clR;simp only;rw[if_neg hlb];rfl);rw[e,e2]at hB2 nst fT;rw[er]at kR kI rne;clear kc1 kc2 kc3 kc4 kc5 kc6 e e2 er eI eT bi hc hatt rle rln hia kA hal2 hal3;simp only at kI rne;generalize clT s0 i last=t1 at *;generalize qix s0.tree (qgw s0.tree i)=t2 at *;generalize s0.act.map (swp i (s0.tree.length:Int))=A1 at *;generalize s0.opn.map (swp i (s0.tree.length:Int))=O1 at *
       (repeat' (first
        |with_reducible apply qaa
        |with_reducible apply qa4
        |(with_reducible apply rE;simp[zS, *,SS.post];exact rfl)
        |(with_reducible apply qad;simp only[qab,qa5])
        |apply qai rfl
        |(with_reducible apply qa6;simp only[qab,qa5])))
       all_goals first|(exact hB2 _ ⟨[(_,3),(0,0),(1,1)],[],rfl,rfl,rfl,by simp[qax,qap,qav,qa2],fT _ _ _ (by omega) nst (by simp[getF]) (by simp[getF]) (by simp[getF])⟩)|(exfalso;omega)
     ·have e:qfo block k i ⟨s0,mk0,last⟩=⟨⟨s0.tree,qcj s0.opn i,s0.act,s0.mode,s0.back,s0.lex,s0.form,s0.head,s0.foster,s0.skip,s0.inside⟩,mk0,last⟩:=(by unfold qfo clD clU clM;rw[if_pos (.inr hia),if_neg h3,if_neg h3]);rw[e]at hB2 nst fT;have kL:=fun n k ab fr=>@kc2 s0 el mk0 ne i (by omega) n k ab fr;simp only[decide_eq_false hia]at kL;have kD:=fun H=>kc3 (L:=s0.opn) (by omega) i H;have h3':¬ (3:Int) < (k:Int):=(by omega);clear kc1 kc2 kc3 kc4 kc5 kc6 e hc bi hia;generalize qcj s0.opn i=O1 at *
      (repeat' (first
       |with_reducible apply qaa
       |with_reducible apply qa4
       |(with_reducible apply rE;simp[zS, *,SS.post];exact rfl)
       |(with_reducible apply qad;simp only[qab,qa5])
       |(refine qay mixed qb6 (by decide +kernel) (by decide +kernel) rfl ?_;apply qh0;simp[zS,zW,qb9,qbt,qaz,Heap.lay,qb8, *,SS.post];exact rfl)
       |(with_reducible apply qbc;refine⟨by repeat first|exact qdi|refine qdj (by decide +kernel) ?_,?_⟩;simp only[qab,qa5,allPend,Heap.lay,qb8])
       |apply qah rfl
       |apply qai rfl
       |(with_reducible apply qa6;simp only[qab,qa5])
       |(with_reducible apply qas;simp)))
      all_goals first|(exact hB2 _ ⟨[(_,3),(0,0),(1,1)],[],rfl,rfl,rfl,by simp[qax,qap,qav,qa2],fT _ _ _ (by omega) nst (by simp[getF]) (by simp[getF]) (by simp[getF])⟩)|(exfalso;omega)
def e136:Entry PG:=mkG 136 [[]] (fun z:Int=>[.int .i64 z]) (fun z x=>(ClOk x.el z x.s x.mr)) (fun z x=>.int .i64 (qfn x.el z x.s x.mr).last) (fun z x=>⟨(qfn x.el z x.s x.mr).s,x.el,(qfn x.el z x.s x.mr).mr⟩) fun z x ne h=>⟨c136 (T:=[e47,e141,e43,e143,e194,e135,e140]) rfl rfl rfl rfl rfl rfl rfl ne z h,by simp[qa3,qa2],by simp[qa2,qa3],zcf h⟩
theorem k136(hT:qa9 136 T=some e136.g) {s:SS} {el mk:Int} (ne:s.tree≠[]) (block:Int) (h:ClOk el block s mk) {n k ab:Nat} {fr:List (Nat × Blk)} (d:dT n k ab) (of:qg9 k ab fr):qat (ctx T) (.fn 136) [.ptr ab 0,.int .i64 block] ⟨n,[(ab,.cells [.ptr 0 0,.int .i64 (el),.int .i64 (mk)])::fr,VS k s]⟩=some (.int .i64 (qfn el block s mk).last,⟨n+1,[(ab,.cells [.ptr 0 0,.int .i64 (el),.int .i64 ((qfn el block s mk).mr)])::fr,VS n ((qfn el block s mk).s)]⟩):=
 qkw (x:=⟨s,el,mk⟩) (f1:=[]) hT inj_162 (block) ne h (by simp[qa3,qa2]) (by simp[qbb,qaj]) d (by simp) of
theorem qn2{K:List Int} {p x k:Int} (h:k∈qlh K p x):k∈K\/k=x:=qt3 h
theorem insP_len{K:List Int} {p x:Int}:(qlh K p x).length=K.length+1:=qt4
theorem zbb{K:List Int} {p x:Int} (hp:1<=p) (hK:K≠[]):(qlh K p x).head? = K.head?:=by
 unfold qlh qey;cases K with
 |nil=>exact absurd rfl hK
 |cons y r=>obtain⟨j,hj⟩ : ∃j,(min (max p 0) ((y::r).length:Int)).toNat=j+1:=⟨(min (max p 0) ((y::r).length:Int)).toNat - 1,by simp only[List.length_cons];omega⟩;rw[hj];rfl
theorem insP_nd{K:List Int} {p x:Int} (h:K.Nodup) (hx:x ∉ K):(qlh K p x).Nodup:=by
 unfold qlh qey;generalize (min (max p 0) (K.length:Int)).toNat=j;rw[<- List.take_append_drop j K,List.nodup_append]at h;rw[List.nodup_append,List.nodup_cons];refine⟨h.1,⟨fun hm=>hx (List.mem_of_mem_drop hm),h.2.1⟩,fun a ha b hb=>?_⟩;rcases List.mem_cons.1 hb with rfl|hb
 ·exact fun e=>hx (e ▸ List.mem_of_mem_take ha)
 ·exact h.2.2 a ha b hb
theorem insP_ndm{K:List Int} {p x:Int} (h:NDm K) (hx:x ∉ K):NDm (qlh K p x):=by
 unfold NDm qlh qey at *;generalize (min (max p 0) (K.length:Int)).toNat=j;rw[<- List.take_append_drop j K,List.pairwise_append]at h;rw[List.pairwise_append,List.pairwise_cons];refine⟨h.1,⟨fun y hy e=>absurd (List.mem_of_mem_drop (e ▸ hy)) hx,h.2.1⟩,fun a ha b hb=>?_⟩;rcases List.mem_cons.1 hb with rfl|hb
 ·exact fun e=>absurd (e ▸ List.mem_of_mem_take ha) hx
 ·exact h.2.2 a ha b hb
def qkd(L:List Int) (i:Int):Int:=qal (fun y=>decide (i=y)) L 0
theorem idxI_in{L:List Int} {i:Int} (h:i∈L):0<=qkd L i:=(qr0 L 0).2 h
def qjy(C:CS):Tr:=qk8 C.s.tree C.last
def qkt(C:CS) (outer:Int):Tr:=qlf (qjy C) (whP (qjy C) outer) ((qa1 (qjy C) (whP (qjy C) outer)).kids.length:Int) C.last
def qz7(C:CS) (outer el:Int):Tr:=qix (qkt C outer) (qgw (qkt C outer) el)
def qz6(C:CS) (outer el block:Int):Tr:=qsp (qz7 C outer el) block ((qkt C outer).length:Int)
def qw8(C:CS) (outer el block:Int):Tr:=qlf (qz6 C outer el block) block ((qa1 (qz6 C outer el block) block).kids.length:Int) ((qkt C outer).length:Int)
def rdS(C:CS) (outer el block:Int):SS:=⟨qw8 C outer el block,qlh (qcj C.s.opn el) (qkd (qcj C.s.opn el) block+1) ((qkt C outer).length:Int),qlh (qd8 C.s.act el) (qrr C.s.act el C.mr) ((qkt C outer).length:Int),C.s.mode,C.s.back,C.s.lex,C.s.form,C.s.head,C.s.foster,C.s.skip,C.s.inside⟩
theorem zac(C:CS) (outer el block:Int):(qjy C).length=C.s.tree.length/\(qkt C outer).length=C.s.tree.length/\(qz7 C outer el).length=C.s.tree.length+1/\(qz6 C outer el block).length=C.s.tree.length+1/\(qw8 C outer el block).length=C.s.tree.length+1:=by
 have h1:(qjy C).length=C.s.tree.length:=qja _ _;have h2:(qkt C outer).length=C.s.tree.length:=by unfold qkt;rw[qmw,h1]
 have h3:(qz7 C outer el).length=C.s.tree.length+1:=by unfold qz7;rw[qlc,h2]
 have h4:(qz6 C outer el block).length=C.s.tree.length+1:=by unfold qz6;rw[movT_len,h3]
 exact⟨h1,h2,h3,h4,by unfold qw8;rw[qmw,h4]⟩
theorem rd_tb{C:CS} {n d a c e:Nat} (h:BI n d a c e C.s) {outer el block:Int} (h0:0<=el) (h1:el < (C.s.tree.length:Int)) :
  TB n n d a (qjy C)/\TB n (n+1) d a (qkt C outer)/\TB (n+1) (n+1) d a (qz7 C outer el)/\TB (n+1) (n+1) d a (qz6 C outer el block)/\TB (n+2) (n+2) d a (qw8 C outer el block):=by
 have l:=zac C outer el block;have t1:TB n n d a (qjy C):=h.tb.cut _;have t2:TB n (n+1) d a (qkt C outer):=t1.put _ _ _;have b:=t2.at_ (i:=el) h0 (by rw[l.2.1];exact h1);have t3:TB (n+1) (n+1) d a (qz7 C outer el):=t2.add _ b.2.1 (by simp[qgw]) b.1;have t4:TB (n+1) (n+1) d a (qz6 C outer el block):=t3.mov _ _ (by unfold qz7;rw[zay,if_pos (by simp)];rfl);exact⟨t1,t2,t3,t4,(t4.put _ _ _).mono (by omega) (by omega) (Nat.le_refl _) (Nat.le_refl _)⟩
theorem zad(C:CS) (outer el block:Int):KeepN C.s.tree (qw8 C outer el block):=
 ((((qwu _ _).trans (qn1 _ _ _ _)).trans (qqw _ _)).trans (keep_mov _ _ _)).trans (qn1 _ _ _ _)
theorem BI.rd{C:CS} {el block:Int} {B d a c e q j:Nat} (hc:CI el block B d a c e q j C) (outer:Int):BI (B+2) d a c e (rdS C outer el block):=by
 obtain⟨n,hn,bi⟩:=hc.bi;obtain⟨M,hM,hcv⟩:=bi.cv;have hel:el∈C.s.opn:=List.mem_of_mem_take hc.eo;have hbl:block∈C.s.opn:=List.mem_of_mem_drop hc.bk;have hne:block≠el:=fun e=>by have hn:=bi.nd;rw[<- List.take_append_drop q C.s.opn,List.nodup_append]at hn;exact hn.2.2 el hc.eo block hc.bk e.symm
 have hr:=bi.rg el hel;have ha:=bi.ac el hc.ea;obtain⟨l1,l2,l3,l4,l5⟩:=zac C outer el block;have tb:=(rd_tb bi (outer:=outer) (block:=block) (by omega) hr.2).2.2.2.2;have hb1:block∈qcj C.s.opn el:=by unfold qcj;rw[List.mem_filter];exact⟨hbl,by simp[hne]⟩
 have hi:=idxI_in hb1;have fo:((qkt C outer).length:Int) ∉ qcj C.s.opn el:=fun h=>by have:=bi.rg _ (List.mem_filter.1 h).1;omega
 have fa:((qkt C outer).length:Int) ∉ qd8 C.s.act el:=fun h=>by have:=bi.ac _ (List.mem_filter.1 h).1;omega
 have hdr:=bi.drop (i:=el) (by omega);have hda:=bi.act (A:=qd8 C.s.act el) List.filter_sublist;refine⟨tb.mono (by omega) (by omega) (Nat.le_refl _) (Nat.le_refl _),bi.fo,?_,?_,insP_nd hdr.nd fo,?_,insP_ndm hda.an fa,?_,bi.fm,⟨M.map (swp el ((qkt C outer).length:Int)),by simpa using hM,?_⟩,qwv bi.h1 (zad _ _ _ _)⟩
 ·show (qlh _ _ _).head? = some 1;rw[zbb (by omega) (fun e=>by rw[e]at hb1;simp at hb1)];exact hdr.hd
 ·intro y hy;show 1<=y/\y < ((qw8 C outer el block).length:Int);rw[l5];rcases qn2 hy with hy|rfl
  ·have:=hdr.rg y hy;simp only at this;omega
  ·omega
 ·intro y hy;show y = -1\/(2<=y/\y < ((qw8 C outer el block).length:Int));rw[l5];rcases qn2 hy with hy|rfl
  ·have:=hda.ac y hy;simp only at this;omega
  ·omega
 ·show (qlh _ _ _).length<=e;rw[insP_len];have h1:(qd8 C.s.act el).length < C.s.act.length:=by unfold qd8;rw[List.length_filter_lt_length_iff_exists];exact⟨el,hc.ea,by simp;omega⟩
  have:=bi.al;omega
 ·intro y hy;rcases hy with hy|⟨hy,hy1⟩
  ·rcases qn2 hy with hy|rfl
   ·unfold qcj at hy;rw[List.mem_filter]at hy;exact qm1 (hcv y (.inl hy.1)) (by simpa using hy.2)
   ·exact qm2 (hcv el (.inl hel))
  ·rcases qn2 hy with hy|rfl
   ·unfold qd8 at hy;rw[List.mem_filter]at hy;refine qm1 (hcv y (.inr ⟨hy.1,hy1⟩)) fun e=>?_;subst e;have:=hy.2;simp at this;omega
   ·exact qm2 (hcv el (.inl hel))
theorem idxI_at{L:List Int} (hn:L.Nodup) {p:Nat} (hp:p < L.length):qkd L L[p]=(p:Int):=by
 have key:∀(L:List Int) (k p:Nat) (hn:L.Nodup) (hp:p < L.length),qal (fun y=>decide (L[p]=y)) L k=((k+p:Nat):Int):=by
  intro L;induction L with
  |nil=>intro k p _ hp;simp at hp
  |cons x r ih=>
   intro k p hn hp;unfold qal;cases p with
   |zero=>simp
   |succ p=>have h1:=(List.nodup_cons.1 hn).1;have hp':p < r.length:=(by simp at hp;omega);have:¬ r[p]=x:=fun e=>h1 (e ▸ List.getElem_mem hp');simp only[List.getElem_cons_succ,this,decide_false,Bool.false_eq_true,if_false];rw[ih (k+1) p (List.nodup_cons.1 hn).2 hp'];omega
 have:=key L 0 p hn hp;unfold qkd;rw[this];omega
theorem qwy{L:List Int} {i:Int} (h:0<=qkd L i):∃h2:(qkd L i).toNat < L.length,L[(qkd L i).toNat]=i:=by
 have key:∀(L:List Int) (k:Nat),0<=qal (fun y=>decide (i=y)) L k->∃p:Nat,∃hp:p < L.length,qal (fun y=>decide (i=y)) L k=((k+p:Nat):Int)/\L[p]=i:=by
  intro L;induction L with
  |nil=>intro k h;unfold qal at h;omega
  |cons x r ih=>
   intro k h;unfold qal at h ⊢;by_cases e:i=x
   ·subst e;exact⟨0,by simp,by simp,rfl⟩
   ·simp only[e,decide_false,Bool.false_eq_true,if_false]at h ⊢;obtain⟨p,hp,h1,h2⟩:=ih (k+1) h;exact⟨p+1,by simp;omega,by rw[h1];omega,by simpa using h2⟩
 obtain⟨p,hp,h1,h2⟩:=key L 0 h;have e:(qkd L i).toNat=p:=by unfold qkd;rw[h1];omega
 exact⟨by rw[e];exact hp,by simp only[e];exact h2⟩
theorem beh_get{s:SS} {p:Nat->Bool} {q:Nd->Bool} {a:Nat} (h:0<=qmr s q a):∃f:Nat,qmr s q a=f/\a < f/\f < s.opn.length:=by
 unfold qmr at h ⊢;have key:∀(L:List Int) (k:Nat),0<=qal (fun i=>q (qa1 s.tree i)) L k->∃p:Nat,p < L.length/\qal (fun i=>q (qa1 s.tree i)) L k=((k+p:Nat):Int):=by
  intro L;induction L with
  |nil=>intro k h;unfold qal at h;omega
  |cons x r ih=>
   intro k h;unfold qal at h ⊢;split at h
   next hq=>rw[if_pos hq];exact⟨0,by simp,by simp⟩
   next hq=>rw[if_neg hq];obtain⟨p,h1,h2⟩:=ih (k+1) h;exact⟨p+1,by simp;omega,by rw[h2];omega⟩
 obtain⟨p,h1,h2⟩:=key _ _ h;refine⟨a+1+p,h2,by omega,?_⟩;rw[List.length_drop]at h1;omega
theorem BI.cl{n d a c e:Nat} {s:SS} (h:BI n d a c e s) (he:e<=900) {el:Int} {p f:Nat} (hp:p < s.opn.length) (e1:s.opn[p]=el) (hf:p < f) (hfl:f < s.opn.length) (hea:el∈s.act):CI el s.opn[f] (n+6) d a c e f 1 ⟨s,atP s.act el,s.opn[f]⟩ where
 bi:=⟨n,by omega,h⟩
 eo:=by show el∈s.opn.take f;rw[<- e1];exact List.mem_take_iff_getElem.2 ⟨p,by omega,rfl⟩
 pl:=by show f<=s.opn.length;omega
 bk:=by show s.opn[f]∈s.opn.drop f;rw[List.drop_eq_getElem_cons hfl];exact List.mem_cons_self ..
 ea:=hea
 ll:=by have:=h.rg _ (List.getElem_mem hfl);show 0<=s.opn[f]/\s.opn[f] < (s.tree.length:Int);omega
 ml:=by show atP s.act el<=1000;have:=zcv s.act el;have:=h.al;omega
theorem CI.mono{el block:Int} {B B' d a c e p k:Nat} {x:CS} (h:CI el block B d a c e p k x) (hB:B<=B'):CI el block B' d a c e p k x:=
 ⟨by obtain⟨n,h1,h2⟩:=h.bi;exact⟨n,by omega,h2⟩,h.eo,h.pl,h.bk,h.ea,h.ll,h.ml⟩
set_option maxHeartbeats 2000000
theorem qv5{t:Tr} (hne:t≠[]) (i:Int):qk8 t i≠[]:=fun e=>by have:=qja t i;rw[e]at this;exact hne (List.length_eq_zero_iff.1 this.symm)
theorem c90S(hc0:qa9 173 T=some e173G.g) (hc1:qa9 88 T=some e88.g) (hc2:qa9 78 T=some e78.g) {s:SS} (ne:s.tree≠[]) (kid:Int) (hk:qd1 s.tree 1000000):SC T 90 [.int .i64 kid] s (.tup []) ({ s with tree:=qk8 s.tree kid }):=by have g0:=@vg0;have v0:=@vset;exact SC.of (c90G (T:=T) hc0 hc1 hc2 (ok_S s (k:=1) (m:=2) (by omega) (by omega)) ne hk kid) rfl (qv5 ne _)
def e90S:Entry PG:=mkS 90 [[]] (fun z:Int=>[.int .i64 z]) (fun z s=>(qd1 s.tree 1000000)) (fun z s=>.tup []) (fun z s=>{ s with tree:=qk8 s.tree z }) fun z s ne h=>⟨c90S (T:=[e173G,e88,e78]) rfl rfl rfl ne z h,by simp[qa3,qa2],by simp[qa2,qa3],qv5 ne _⟩
theorem k90S(hT:qa9 90 T=some e90S.g) {s:SS} (ne:s.tree≠[]) (kid:Int) (hk:qd1 s.tree 1000000) {n k:Nat} {fr:List (Nat × Blk)} (k0:0 < k) (kn:k < n) (of:qga k fr):qat (ctx T) (.fn 90) [.ptr 0 0,.int .i64 kid] ⟨n,[fr,VS k s]⟩=some (.tup [],⟨n+1,[fr,VS n ({ s with tree:=qk8 s.tree kid })]⟩):=
 qct hT inj_162 (kid) ne hk (by simp[qa3,qa2]) (by simp[qbb,qaj]) k0 kn of
theorem c139S(hc0:qa9 88 T=some e88.g) (hc1:qa9 89 T=some e89.g) (hc2:qa9 196 T=some e196.g) {s:SS} (ne:s.tree≠[]) (a1:Int) (b1:Int) (ht:s.tree.length<=1000000) (hk:qd1 s.tree 400000):SC T 139 [.int .i64 a1,.int .i64 b1] s (.tup []) ({ s with tree:=qsp s.tree a1 b1 }):=by have g0:=@vg0;have v0:=@vset;exact SC.of (c139 (T:=T) hc0 hc1 hc2 (ok_S s (k:=1) (m:=2) (by omega) (by omega)) ne ht hk a1 b1) rfl (quj ne _ _)
def e139S:Entry PG:=mkS 139 [[],[]] (fun z:Int × Int=>[.int .i64 z.1,.int .i64 z.2]) (fun z s=>(s.tree.length<=1000000)/\(qd1 s.tree 400000)) (fun z s=>.tup []) (fun z s=>{ s with tree:=qsp s.tree z.1 z.2 }) fun z s ne h=>⟨c139S (T:=[e88,e89,e196]) rfl rfl rfl ne z.1 z.2 h.1 h.2,by simp[qa3,qa2],by simp[qa2,qa3],quj ne _ _⟩
theorem k139S(hT:qa9 139 T=some e139S.g) {s:SS} (ne:s.tree≠[]) (a1:Int) (b1:Int) (ht:s.tree.length<=1000000) (hk:qd1 s.tree 400000) {n k:Nat} {fr:List (Nat × Blk)} (k0:0 < k) (kn:k < n) (of:qga k fr):qat (ctx T) (.fn 139) [.ptr 0 0,.int .i64 a1,.int .i64 b1] ⟨n,[fr,VS k s]⟩=some (.tup [],⟨n+1,[fr,VS n ({ s with tree:=qsp s.tree a1 b1 })]⟩):=
 qct hT inj_140 (a1,b1) ne ⟨ht,hk⟩ (by simp[qa3,qa2]) (by simp[qbb,qaj]) k0 kn of
def qts(s:SS) (p:Nat):Int:=s.opn.getD (qmr s qz0 p).toNat 0
def outI(s:SS) (p:Nat):Int:=s.opn.getD (p - 1) 0
def clC(s:SS) (el:Int) (p:Nat):CS:=qfn el (qts s p) s (atP s.act el)
def rnS(s:SS) (el:Int) (p:Nat):SS:=if qmr s qz0 p < 0 then { s with opn:=s.opn.take p,act:=qd8 s.act el } else rdS (clC s el p) (outI s p) el (qts s p)
def rnM(s:SS) (el:Int) (p:Nat) (mk:Int):Int:=if qmr s qz0 p < 0 then mk else qrr (clC s el p).s.act el (clC s el p).mr
def rnB(s:SS) (p:Nat):Bool:=decide (0<=qmr s qz0 p)
structure RdOk (n d a c e:Nat) (s:SS) (el:Int) (p:Nat):Prop where
 bi:BI n d a c e s
 pl:p < s.opn.length
 at_:s.opn.getD p 0=el
 ea:el∈s.act
theorem RdOk.get{n d a c e:Nat} {s:SS} {el:Int} {p:Nat} (h:RdOk n d a c e s el p):s.opn[p]'h.pl=el:=by have:=h.at_;rw[List.getD_eq_getElem?_getD,List.getElem?_eq_getElem h.pl]at this;exact this
theorem RdOk.p1{n d a c e:Nat} {s:SS} {el:Int} {p:Nat} (h:RdOk n d a c e s el p):1<=p:=by
 have h1:=h.get;have hl:=h.pl;have ha:=h.bi.ac el h.ea;have hr:=h.bi.rg el (h1 ▸ List.getElem_mem hl);cases p with
 |zero=>have:=h.bi.hd;rw[List.head?_eq_getElem?,List.getElem?_eq_getElem hl]at this;have:=Option.some.inj this;omega
 |succ p=>omega
theorem RdOk.cl{n d a c e:Nat} {s:SS} {el:Int} {p:Nat} (h:RdOk n d a c e s el p) (he:e<=900) (hb:¬ qmr s qz0 p < 0):∃f:Nat,qmr s qz0 p=f/\p < f/\f < s.opn.length/\qkd s.opn (qts s p)=f/\CI el (qts s p) (n+6) d a c e f 1 ⟨s,atP s.act el,qts s p⟩:=by
 obtain⟨f,e1,h1,h2⟩:=beh_get (p:=fun _=>true) (s:=s) (q:=qz0) (a:=p) (by omega);have eb:qts s p=s.opn[f]:=by unfold qts;rw[e1,Int.toNat_natCast,List.getD_eq_getElem?_getD,List.getElem?_eq_getElem h2];rfl
 refine⟨f,e1,h1,h2,?_,?_⟩
 ·rw[eb];exact idxI_at h.bi.nd h2
 ·rw[eb];exact h.bi.cl he h.pl h.get h1 h2 h.ea
theorem RdOk.end_{n d a c e:Nat} {s:SS} {el:Int} {p:Nat} (h:RdOk n d a c e s el p) (he:e<=900) (hb:¬ qmr s qz0 p < 0):(∃q j,CI el (qts s p) (n+6) d a c e q j (clC s el p))/\KeepN s.tree (clC s el p).s.tree:=by obtain⟨f,_,_,_,h4,h5⟩:=h.cl he hb;have:=CI.all he f 1 h5 (Nat.le_refl 1);unfold clC qfn;unfold qkd at h4;rw[h4,Int.toNat_natCast];exact this
theorem BI.rn{n d a c e:Nat} {s:SS} {el:Int} {p:Nat} (h:RdOk n d a c e s el p) (he:e<=900):BI (n+8) d a c e (rnS s el p):=by
 unfold rnS;split
 ·have h1:=h.bi.pre (qqi s.opn h.p1);exact(h1.act (A:=qd8 s.act el) List.filter_sublist).mono (by omega) (Nat.le_refl _) (Nat.le_refl _) (Nat.le_refl _) (Nat.le_refl _)
 next hb=>obtain⟨⟨q,j,hq⟩,_⟩:=h.end_ he hb;exact BI.rd hq _
theorem rn_keep{n d a c e:Nat} {s:SS} {el:Int} {p:Nat} (h:RdOk n d a c e s el p) (he:e<=900):KeepN s.tree (rnS s el p).tree:=by
 unfold rnS;split
 ·exact .refl _
 next hb=>exact(h.end_ he hb).2.trans (zad _ _ _ _)
def RdOk'(s:SS) (el x:Int):Prop:=0<=x/\RdOk 80000 1000000 850 900 900 s el x.toNat
theorem RdOk'.ne{s:SS} {el x:Int} (h:RdOk' s el x):(rnS s el x.toNat).tree≠[]:=(BI.rn h.2 (by omega)).ne
theorem c52(hc0:qa9 49 T=some e49r.g) (hc1:qa9 78 T=some e78z.g) (hc2:qa9 48 T=some e48.g) (hc3:qa9 135 T=some e135.g) (hc4:qa9 136 T=some e136.g) (hc5:qa9 90 T=some e90S.g) (hc6:qa9 137 T=some e137.g) (hc7:qa9 26 T=some e26S.g) (hc8:qa9 138 T=some e138.g) (hc9:qa9 139 T=some e139S.g) (hc10:qa9 140 T=some e140.g) (hc11:qa9 141 T=some e141.g) (hc12:qa9 142 T=some e142.g) (hc13:qa9 143 T=some e143.g) (hc14:qa9 47 T=some e47.g) {s:SS} {el mk:Int} (ne:s.tree≠[]) (w:Int) (h:RdOk' s el w):GC T 52 [.int .i64 w] ⟨s,el,mk⟩ (.bool (rnB s w.toNat)) ⟨rnS s el w.toNat,el,rnM s el w.toNat mk⟩:=by
 have kc0:=@k49r T hc0;have kc1:=@k78z T hc1;have kc2:=@k48 T hc2;have kc3:=@k135 T hc3;have kc4:=@k136 T hc4;have kc5:=@k90S T hc5;have kc6:=@k137 T hc6;have kc7:=@k26S T hc7;have kc8:=@k138 T hc8;have kc9:=@k139S T hc9;have kc10:=@k140 T hc10;have kc11:=@k141 T hc11;have kc12:=@k142 T hc12;have kc13:=@k143 T hc13;have kc14:=@k47 T hc14;have g0:=@vg0;have v0:=@vset;obtain⟨x0,hr⟩:=h;obtain⟨p,hp⟩ : ∃p:Nat,w=(p:Int):=⟨w.toNat,by omega⟩;have ep:w.toNat=p:=by omega
 rw[ep]at hr ⊢;have bi:=hr.bi;have p1:=hr.p1;have pl:=hr.pl;have ol:=bi.ol;have al:=bi.al;have n9:=(BI.rn hr (by omega)).ne;have kB:=fun n k ab fr=>@kc0 s el mk ne p (by omega) (by omega) bi.r0 bi.tb.nm n k ab fr;simp only[<- hp]at kB;have lO:=fun H=>qn0 (H:=H) (L:=s.opn);by_cases hb:qmr s qz0 p < 0
 case pos=>
  have e1:rnS s el p=⟨s.tree,s.opn.take p,qd8 s.act el,s.mode,s.back,s.lex,s.form,s.head,s.foster,s.skip,s.inside⟩:=by unfold rnS;rw[if_pos hb]
  have e2:rnM s el p mk=mk:=by unfold rnM;rw[if_pos hb]
  have e3:rnB s p=false:=by unfold rnB;simp;omega
  rw[e1,e2,e3];have sl:=fun H=>qx0 (H:=H) (L:=s.opn) (k:=p) (by omega);simp only[<- hp]at sl;have kC:=fun H=>kc1 (L:=s.opn.take p) (by simp;omega) H;have kD:=fun H=>kc2 (L:=s.act) (by omega) el H;clear e1 e2 e3 kc0 kc1 kc2 kc3 kc4 kc5 kc6 kc7 kc8 kc9 kc10 kc11 kc12 kc13 kc14 hr bi hp ep n9 x0 al ol p1 pl;generalize qmr s qz0 p=v at *;generalize s.opn.take p=O1 at *;generalize qd8 s.act el=A1 at *;refine qa0 (s0:=⟨[0,1,4,5,6,7,8,9,10,11],[.ptr 1 0,.int .i64 w,uD,uD,uD,uD,uD,uD,uD,uD],[],205,⟨3,[]::[_]⟩⟩) Tryz.func52 rfl rfl rfl ?_;apply qp2
  (repeat' (first
   |with_reducible apply qaa
   |(with_reducible apply rE;simp[zS, *,SS.post];exact rfl)
   |(with_reducible apply qad;simp only[qab,qa5])
   |(refine qay mixed qb6 (by decide +kernel) (by decide +kernel) rfl ?_;apply qh0;simp[zS,zW,qb9,qbt,qaz,Heap.lay,qb8, *,SS.post];exact rfl)
   |(with_reducible apply qbc;refine⟨by repeat first|exact qdi|refine qdj (by decide +kernel) ?_,?_⟩;simp only[qab,qa5,allPend,Heap.lay,qb8])
   |apply qah rfl
   |(with_reducible apply qa7;simp[zQ,Tryz.f52])))
  all_goals first|(exact qjm rfl rfl (by simp[qa2,qa3]) (by omega) ne (by simp[getF]) (by simp[getF]) (by simp[getF]))|(exfalso;omega)
 case neg=>
  have e3:rnB s p=true:=by unfold rnB;simp;omega
  have e1:rnS s el p=rdS (clC s el p) (outI s p) el (qts s p):=by unfold rnS;rw[if_neg hb]
  have e2:rnM s el p mk=qrr (clC s el p).s.act el (clC s el p).mr:=by unfold rnM;rw[if_neg hb]
  obtain⟨f,ef,f1,f2,f3,f4⟩:=hr.cl (by omega) hb;obtain⟨⟨q,j,hq⟩,_⟩:=hr.end_ (by omega) hb;obtain⟨n2,hn2,b2⟩:=hq.bi;rw[e1]at n9;rw[e1,e2,e3];have hel:=b2.rg el (List.mem_of_mem_take hq.eo);have hbl:=b2.rg (qts s p) (List.mem_of_mem_drop hq.bk);obtain⟨t1,t2,t3,t4,t5⟩:=rd_tb b2 (outer:=outI s p) (block:=qts s p) (el:=el) (by omega) hel.2;obtain⟨l1,l2,l3,l4,l5⟩:=zac (clC s el p) (outI s p) el (qts s p);have fo2:=b2.fo;have ol2:=b2.ol;have al2:=b2.al;have ml2:=hq.ml;have ne2:=b2.ne;have tl2:=b2.tb.n1;have kd2:qd1 (clC s el p).s.tree 1000000:=b2.le (by omega);have atF:=atI f2;have eb:s.opn[f]=qts s p:=by unfold qts;rw[ef,Int.toNat_natCast,List.getD_eq_getElem?_getD,List.getElem?_eq_getElem f2];rfl
  rw[eb]at atF;have atP1:=atI (L:=s.opn) (i:=p - 1) (by omega);have eo:s.opn[p - 1]=outI s p:=by unfold outI;rw[List.getD_eq_getElem?_getD,List.getElem?_eq_getElem (by omega)];rfl
  rw[eo]at atP1;have hw1:wr .i64 (w - 1)=some (((p - 1:Nat):Int)):=by rw[hp,show ((p:Int) - 1)=((p - 1:Nat):Int) by omega];exact qbs (by omega) (by omega)
  have mx:qnx false (.int .i64 ((p - 1:Nat):Int)) [.int .i64 0]=some (.int .i64 ((p - 1:Nat):Int)):=by simp[qnx]
  have kA:=fun H=>kc3 (L:=s.act) el (by omega) H;have kcl:=fun n k ab fr=>@kc4 s el (atP s.act el) ne (qts s p) ⟨f,f3,f4.mono (by omega)⟩ n k ab fr;rw[show qfn el (qts s p) s (atP s.act el)=clC s el p from rfl]at kcl;generalize clC s el p=C at *;generalize qts s p=bk at *;generalize outI s p=ou at *;have n1:qjy C≠[]:=qv5 ne2 _;have n2:qkt C ou≠[]:=qi5 n1 _ _ _;have n3:qz7 C ou el≠[]:=qhr _ _;have n4:qz6 C ou el bk≠[]:=quj n3 _ _;have bel:=(t2.at_ (i:=el) (by omega) (by omega)).1;have kCut:∀(n k:Nat) (fr:List (Nat × Blk)) (k0:0 < k) (kn:k < n) (of:qga k fr),qat (ctx T) (.fn 90) [.ptr 0 0,.int .i64 C.last] ⟨n,[fr,VS k C.s]⟩=some (.tup [],⟨n+1,[fr,VS n (⟨qjy C,C.s.opn,C.s.act,C.s.mode,C.s.back,C.s.lex,C.s.form,C.s.head,C.s.foster,C.s.skip,C.s.inside⟩ : SS)]⟩):=fun n k fr=>@kc5 C.s ne2 C.last kd2 n k fr;have kWh:∀(n k:Nat) (fr:List (Nat × Blk)) (k0:0 < k) (kn:k < n) (of:qga k fr),qat (ctx T) (.fn 137) [.ptr 0 0,.int .i64 ou] ⟨n,[fr,VS k (⟨qjy C,C.s.opn,C.s.act,C.s.mode,C.s.back,C.s.lex,C.s.form,C.s.head,C.s.foster,C.s.skip,C.s.inside⟩ : SS)]⟩=some (.tup [.int .i64 (whP (qjy C) ou),.int .i64 ((qa1 (qjy C) (whP (qjy C) ou)).kids.length:Int)],⟨n+1,[fr,VS n (⟨qjy C,C.s.opn,C.s.act,C.s.mode,C.s.back,C.s.lex,C.s.form,C.s.head,C.s.foster,C.s.skip,C.s.inside⟩ : SS)]⟩):=fun n k fr=>@kc6 (⟨qjy C,C.s.opn,C.s.act,C.s.mode,C.s.back,C.s.lex,C.s.form,C.s.head,C.s.foster,C.s.skip,C.s.inside⟩ : SS) n1 ou fo2 n k fr;have kPut:∀(n k:Nat) (fr:List (Nat × Blk)) (k0:0 < k) (kn:k < n) (of:qga k fr),qat (ctx T) (.fn 26) [.ptr 0 0,.int .i64 (whP (qjy C) ou),.int .i64 ((qa1 (qjy C) (whP (qjy C) ou)).kids.length:Int),.int .i64 C.last] ⟨n,[fr,VS k (⟨qjy C,C.s.opn,C.s.act,C.s.mode,C.s.back,C.s.lex,C.s.form,C.s.head,C.s.foster,C.s.skip,C.s.inside⟩ : SS)]⟩=some (.tup [],⟨n+1,[fr,VS n (⟨qkt C ou,C.s.opn,C.s.act,C.s.mode,C.s.back,C.s.lex,C.s.form,C.s.head,C.s.foster,C.s.skip,C.s.inside⟩ : SS)]⟩):=fun n k fr=>@kc7 (⟨qjy C,C.s.opn,C.s.act,C.s.mode,C.s.back,C.s.lex,C.s.form,C.s.head,C.s.foster,C.s.skip,C.s.inside⟩ : SS) n1 (whP (qjy C) ou) ((qa1 (qjy C) (whP (qjy C) ou)).kids.length:Int) C.last (by simp only;omega) (t1.le (by omega)) n k fr;have kBar:∀(mk:Int) (n k ab:Nat) (fr:List (Nat × Blk)) (d:dT n k ab) (of:qg9 k ab fr),qat (ctx T) (.fn 138) [.ptr ab 0,.int .i64 el] ⟨n,[(ab,.cells [.ptr 0 0,.int .i64 el,.int .i64 mk])::fr,VS k (⟨qkt C ou,C.s.opn,C.s.act,C.s.mode,C.s.back,C.s.lex,C.s.form,C.s.head,C.s.foster,C.s.skip,C.s.inside⟩ : SS)]⟩=some (.int .i64 ((qkt C ou).length:Int),⟨n+1,[(ab,.cells [.ptr 0 0,.int .i64 el,.int .i64 mk])::fr,VS n (⟨qz7 C ou el,C.s.opn,C.s.act,C.s.mode,C.s.back,C.s.lex,C.s.form,C.s.head,C.s.foster,C.s.skip,C.s.inside⟩ : SS)]⟩):=fun mk n k ab fr=>@kc8 (⟨qkt C ou,C.s.opn,C.s.act,C.s.mode,C.s.back,C.s.lex,C.s.form,C.s.head,C.s.foster,C.s.skip,C.s.inside⟩ : SS) el mk n2 el (by omega) (by simp only;omega) (by simp only;omega) (Nat.le_trans bel (by omega)) n k ab fr;have kMov:∀(n k:Nat) (fr:List (Nat × Blk)) (k0:0 < k) (kn:k < n) (of:qga k fr),qat (ctx T) (.fn 139) [.ptr 0 0,.int .i64 bk,.int .i64 ((qkt C ou).length:Int)] ⟨n,[fr,VS k (⟨qz7 C ou el,C.s.opn,C.s.act,C.s.mode,C.s.back,C.s.lex,C.s.form,C.s.head,C.s.foster,C.s.skip,C.s.inside⟩ : SS)]⟩=some (.tup [],⟨n+1,[fr,VS n (⟨qz6 C ou el bk,C.s.opn,C.s.act,C.s.mode,C.s.back,C.s.lex,C.s.form,C.s.head,C.s.foster,C.s.skip,C.s.inside⟩ : SS)]⟩):=fun n k fr=>@kc9 (⟨qz7 C ou el,C.s.opn,C.s.act,C.s.mode,C.s.back,C.s.lex,C.s.form,C.s.head,C.s.foster,C.s.skip,C.s.inside⟩ : SS) n3 bk ((qkt C ou).length:Int) (by simp only;omega) (t3.le (by omega)) n k fr;have kInt:∀(mk:Int) (n k ab:Nat) (fr:List (Nat × Blk)) (d:dT n k ab) (of:qg9 k ab fr),qat (ctx T) (.fn 140) [.ptr ab 0,.int .i64 bk,.int .i64 ((qkt C ou).length:Int)] ⟨n,[(ab,.cells [.ptr 0 0,.int .i64 el,.int .i64 mk])::fr,VS k (⟨qz6 C ou el bk,C.s.opn,C.s.act,C.s.mode,C.s.back,C.s.lex,C.s.form,C.s.head,C.s.foster,C.s.skip,C.s.inside⟩ : SS)]⟩=some (.tup [],⟨n+1,[(ab,.cells [.ptr 0 0,.int .i64 el,.int .i64 mk])::fr,VS n (⟨qw8 C ou el bk,C.s.opn,C.s.act,C.s.mode,C.s.back,C.s.lex,C.s.form,C.s.head,C.s.foster,C.s.skip,C.s.inside⟩ : SS)]⟩):=fun mk n k ab fr=>@kc10 (⟨qz6 C ou el bk,C.s.opn,C.s.act,C.s.mode,C.s.back,C.s.lex,C.s.form,C.s.head,C.s.foster,C.s.skip,C.s.inside⟩ : SS) el mk n4 bk ((qkt C ou).length:Int) (by omega) (by simp only;omega) (by simp only;omega) (t4.le (by omega)) n k ab fr;have kUnl:∀(n k ab:Nat) (fr:List (Nat × Blk)) (d:dT n k ab) (of:qg9 k ab fr),qat (ctx T) (.fn 141) [.ptr ab 0,.int .i64 el] ⟨n,[(ab,.cells [.ptr 0 0,.int .i64 el,.int .i64 C.mr])::fr,VS k (⟨qw8 C ou el bk,C.s.opn,C.s.act,C.s.mode,C.s.back,C.s.lex,C.s.form,C.s.head,C.s.foster,C.s.skip,C.s.inside⟩ : SS)]⟩=some (.tup [],⟨n+1,[(ab,.cells [.ptr 0 0,.int .i64 el,.int .i64 (qrr C.s.act el C.mr)])::fr,VS n (⟨qw8 C ou el bk,C.s.opn,(qd8 C.s.act el),C.s.mode,C.s.back,C.s.lex,C.s.form,C.s.head,C.s.foster,C.s.skip,C.s.inside⟩ : SS)]⟩):=fun n k ab fr=>@kc11 (⟨qw8 C ou el bk,C.s.opn,C.s.act,C.s.mode,C.s.back,C.s.lex,C.s.form,C.s.head,C.s.foster,C.s.skip,C.s.inside⟩ : SS) el C.mr (qi5 n4 _ _ _) el (by simp only;omega) (by omega) n k ab fr;have dal:(qd8 C.s.act el).length<=900:=by have:(qd8 C.s.act el).length<=C.s.act.length:=List.length_filter_le _ _;omega
  have dol:(qcj C.s.opn el).length<=900:=by have:(qcj C.s.opn el).length<=C.s.opn.length:=List.length_filter_le _ _;omega
  have kInA:=fun H=>kc12 (L:=qd8 C.s.act el) (by omega) (qrr C.s.act el C.mr) ((qkt C ou).length:Int) H;have kDro:=fun H=>kc13 (L:=C.s.opn) (by omega) el H;have kIdx:=fun H=>kc14 (L:=qcj C.s.opn el) bk (by omega) H;rw[show qal (fun y=>decide (bk=y)) (qcj C.s.opn el) 0=qkd (qcj C.s.opn el) bk from rfl]at kIdx;have kInO:=fun H=>kc12 (L:=qcj C.s.opn el) (by omega) (qkd (qcj C.s.opn el) bk+1) ((qkt C ou).length:Int) H;have hix : -1<=qkd (qcj C.s.opn el) bk/\qkd (qcj C.s.opn el) bk < 1000:=by refine⟨zbl _ _,?_⟩;have:=qpq (p:=fun y=>decide (bk=y)) (qcj C.s.opn el) 0;unfold qkd;omega
  have hw2:wr .i64 (qkd (qcj C.s.opn el) bk+1)=some (qkd (qcj C.s.opn el) bk+1):=qbs (by omega) (by omega);have eS:rdS C ou el bk=⟨qw8 C ou el bk,qlh (qcj C.s.opn el) (qkd (qcj C.s.opn el) bk+1) ((qkt C ou).length:Int),qlh (qd8 C.s.act el) (qrr C.s.act el C.mr) ((qkt C ou).length:Int),C.s.mode,C.s.back,C.s.lex,C.s.form,C.s.head,C.s.foster,C.s.skip,C.s.inside⟩:=rfl;rw[eS]at n9 ⊢;have n5:qw8 C ou el bk≠[]:=n9;rw[ef]at kB;clear eS e1 e2 e3 kc0 kc1 kc2 kc3 kc4 kc5 kc6 kc7 kc8 kc9 kc10 kc11 kc12 kc13 kc14 hr bi hp ep x0 al ol b2 hq t1 t2 t3 t4 t5 l1 l2 l3 l4 l5 fo2 ol2 al2 ml2 tl2 kd2 eb eo f3 f4 hel hbl bel dal dol hix hb pl p1 hn2;generalize qw8 C ou el bk=T5 at *;generalize qz6 C ou el bk=T4 at *;generalize qz7 C ou el=T3 at *;generalize ((qkt C ou).length:Int)=by_ at *;generalize qkt C ou=T2 at *;generalize ((qa1 (qjy C) (whP (qjy C) ou)).kids.length:Int)=wl at *;generalize whP (qjy C) ou=wu at *;generalize qjy C=T1 at *;generalize qlh (qcj C.s.opn el) (qkd (qcj C.s.opn el) bk+1) by_=O2 at *;generalize qkd (qcj C.s.opn el) bk=ix at *;generalize qcj C.s.opn el=O1 at *;generalize qlh (qd8 C.s.act el) (qrr C.s.act el C.mr) by_=A2 at *;generalize qrr C.s.act el C.mr=M2 at *;generalize qd8 C.s.act el=A1 at *;generalize atP s.act el=m1 at *;generalize ((p - 1:Nat):Int)=pm at *;have hf0:¬ (f:Int) < 0:=by omega
  clear f1 f2;generalize (f:Int)=fi at *;refine qa0 (s0:=⟨[0,1,4,5,6,7,8,9,10,11],[.ptr 1 0,.int .i64 w,uD,uD,uD,uD,uD,uD,uD,uD],[],205,⟨3,[]::[_]⟩⟩) Tryz.func52 rfl rfl rfl ?_;apply qp2
  (repeat' (first
   |with_reducible apply qaa
   |(with_reducible apply rE;simp[zS, *,SS.post];exact rfl)
   |(with_reducible apply qad;simp only[qab,qa5])
   |(refine qay mixed qb6 (by decide +kernel) (by decide +kernel) rfl ?_;apply qh0;simp[zS,zW,qb9,qbt,qaz,Heap.lay,qb8, *,SS.post];exact rfl)
   |(with_reducible apply qbc;refine⟨by repeat first|exact qdi|refine qdj (by decide +kernel) ?_,?_⟩;simp only[qab,qa5,allPend,Heap.lay,qb8])
   |apply qai rfl
   |(with_reducible apply qa6;simp only[qab,qa5])
   |(with_reducible apply qa7;simp[zQ,Tryz.f52])))
  all_goals first|(exact qjm rfl rfl (by simp[qa2,qa3]) (by omega) n9 (by simp[getF]) (by simp[getF]) (by simp[getF]))|(exfalso;omega)
 all_goals
  (try simp only[Tk.cs]at *)
  refine qa0 (s0:=⟨[0,1,4,5,6,7,8,9,10,11],[.ptr 1 0,.int .i64 w,uD,uD,uD,uD,uD,uD,uD,uD],[],205,⟨3,[]::[_]⟩⟩) Tryz.func52 rfl rfl rfl ?_;apply qp2
  skip
def e52:Entry PG:=mkG 52 [[]] (fun z:Int=>[.int .i64 z]) (fun z x=>(RdOk' x.s x.el z)) (fun z x=>.bool (rnB x.s z.toNat)) (fun z x=>⟨rnS x.s x.el z.toNat,x.el,rnM x.s x.el z.toNat x.mr⟩) fun z x ne h=>⟨c52 (T:=[e49r,e78z,e48,e135,e136,e90S,e137,e26S,e138,e139S,e140,e141,e142,e143,e47]) rfl rfl rfl rfl rfl rfl rfl rfl rfl rfl rfl rfl rfl rfl rfl ne z h,by simp[qa3,qa2],by simp[qa2,qa3],h.ne⟩
theorem k52(hT:qa9 52 T=some e52.g) {s:SS} {el mk:Int} (ne:s.tree≠[]) (w:Int) (h:RdOk' s el w) {n k ab:Nat} {fr:List (Nat × Blk)} (d:dT n k ab) (of:qg9 k ab fr):qat (ctx T) (.fn 52) [.ptr ab 0,.int .i64 w] ⟨n,[(ab,.cells [.ptr 0 0,.int .i64 (el),.int .i64 (mk)])::fr,VS k s]⟩=some (.bool (rnB s w.toNat),⟨n+1,[(ab,.cells [.ptr 0 0,.int .i64 (el),.int .i64 (rnM s el w.toNat mk)])::fr,VS n (rnS s el w.toNat)]⟩):=
 qkw (x:=⟨s,el,mk⟩) (f1:=[]) hT inj_162 (w) ne h (by simp[qa3,qa2]) (by simp[qbb,qaj]) d (by simp) of
def zbn(j:Nat) (i:Int):Option Int:=if i = -1 then some ((j+1:Nat):Int) else none
theorem qzn(L:List Int):∀k,(qp1 (fun j=>zbn j (L.getD j 0)) k).getD 0=endN L k
 |0=>rfl
 |k+1=>by
  unfold qp1 endN;by_cases h:L.getD k 0 = -1
  ·simp only[zbn,h,if_true];rfl
  ·simp only[zbn,if_neg h];exact qzn L k
def kTl(L:List Int):RgK:=⟨[0,2,3,4,6,7,8],[qac L,.ptr 0 0,uD,uD,qvf L,uD,uD],13,[7,8],rgA Tryz.f104.body,rgB Tryz.f104.body⟩
def rTl(r:Option Int):List (Nat × Blk):=[(0,.cells [.int .i64 (r.getD 0)])]
theorem kTl_ok(L:List Int):(kTl L).Ok 1 rTl where
 vs:=fun σ hσ=>by simp[kTl,qax,qap,hσ 0 (by omega),qnr,qa2]
 rows:=fun c=>by cases c<;>simp[rTl,qy0,qa3,qa2]
theorem round_tl(L:List Int) (i:Int) (j:Nat) (hj:j<=1000000) :
  qg8 (ctx T) 1 [.int .i64 (j:Int),.int .i64 i] ⟨2,[[],(1,(kTl L).blk .ready none [])::rTl none]⟩ (.bool (zbn j i).isNone) ⟨2,[[],(kTl L).rows 1 rTl (zbn j i)]⟩:=by
 refine quc (kTl_ok L) (s1:=⟨[0,2,3,4,6,7,8],[qac L,.ptr 0 0,uD,uD,qvf L,.int .i64 (j:Int),.int .i64 i],[],13,⟨2,[[],[],(1,(kTl L).blk .ready none [])::rTl none]⟩⟩) rfl fun l=>?_;generalize (kTl L).blk .ready none []=B0;generalize (kTl L).blk .busy none []=B1;have hw:=qbo (show j<=1000000000 by omega);by_cases h:i = -1
 ·have hg:zbn j i=some ((j+1:Nat):Int):=by unfold zbn;rw[if_pos h]
  rw[hg];subst h;clear hg;generalize ((j+1:Nat):Int)=j1 at *;simp only[kTl,rgA,rgB,qz3,Tryz.f104,Option.bind_some];repeat apply wq
  refine qam qb6 ?_;simp[zN];refine qam qb6 ?_;simp[zN];refine⟨_,_,⟨rfl,rfl⟩,rfl,?_⟩;simp only[rTl,Option.getD_none]
  (repeat' (first
   |with_reducible apply qaa
   |with_reducible apply qa4
   |(with_reducible apply rE;simp[zS, *];exact rfl)
   |(with_reducible apply qad;simp only[qab,qa5])
   |apply qah rfl
   |(with_reducible apply qa7;simp[zQ,Tryz.f104])))
  all_goals first|(exact⟨2,_,fun i hi=>rfl,⟨rfl,rfl⟩,rfl⟩)|(exfalso;omega)
 ·have hg:zbn j i=none:=by unfold zbn;rw[if_neg h]
  rw[hg];clear hg;simp only[kTl,rgA,rgB,qz3,Tryz.f104,Option.bind_some];repeat apply wq
  refine qam qb6 ?_;simp[zN];refine qam qb6 ?_;simp[zN];refine⟨_,_,⟨rfl,rfl⟩,rfl,?_⟩;simp only[rTl,Option.getD_none]
  (repeat' (first
   |with_reducible apply qaa
   |with_reducible apply qa4
   |(with_reducible apply rE;simp[zS, *];exact rfl)
   |(with_reducible apply qad;simp only[qab,qa5])
   |apply qai rfl
   |(with_reducible apply qa6;simp only[qab,qa5])))
  all_goals first|(exact⟨2,_,fun i hi=>rfl,rfl,rfl⟩)|(exfalso;omega)
theorem c104(hc0:qa9 130 T=some e130.g) (L:List Int) (hL:L.length<=1000000):CallAt (ctx T) 104 [qac L] zH (.int .i64 (qrt L)) zH:=by
 have kc0:=@k130 T hc0;have kb:=fun H=>k130 hc0 L H;clear kc0;have ht:=qzn L L.length;refine qa0 (s0:=⟨[0,2,3,4,6,7,8],[qac L,uD,uD,uD,uD,uD,uD],[],13,⟨0,[[]]⟩⟩) Tryz.func104 rfl rfl rfl ?_;apply qR;simp[zS];apply qR;simp[zS,kb];apply qa4;refine qne (K:=kTl L) (b:=1) (R:=rTl) (kTl_ok L) L hL (fun j=>zbn j (L.getD j 0)) (fun j hj=>?_) rfl rfl ?_
 ·have:=round_tl (T:=T) L L[j] j (by omega);rw[show L.getD j 0=L[j] by simp[List.getD_eq_getElem?_getD,hj]];exact this
 ·obtain⟨r,hr⟩ : ∃r,qp1 (fun j=>zbn j (L.getD j 0)) L.length=r:=⟨_,rfl⟩;unfold qrt;rw[<- ht];rw[hr];cases r with
  |none=>simp[qrs,kTl,rTl];apply qR;simp[zS];apply qa7;simp[zQ,Tryz.f104];exact⟨[.int .i64 0],rfl,[],[],qbd rfl,FitH.empty⟩
  |some i=>simp[qrs,kTl,rTl,qab,qa5];exact⟨[.int .i64 i],rfl,[],[],qbd rfl,FitH.empty⟩
theorem inj_104(x y:List Int) (h:(fun z:List Int=>([qac z]:List AV)) x=(fun z:List Int=>([qac z]:List AV)) y):x=y:=by simp only[List.cons.injEq,and_true]at h;exact qd2 h
def e104:Entry PG:=mkE 104 [[1]] (fun z:List Int=>[qac z]) (fun z=>(z.length<=1000000)) (fun z=>.int .i64 (qrt z)) fun z h=>c104 (T:=[e130]) rfl z h
theorem k104(hT:qa9 104 T=some e104.g) (L:List Int) (hL:L.length<=1000000) (H:Heap):qat (ctx T) (.fn 104) [qac L] H=some (.int .i64 (qrt L),H):=
 qb2 hT inj_104 (L) hL rfl (by simp[qaj])
theorem qv3(L:List Int):0<=qrt L/\qrt L<=(L.length:Int):=zc7 L L.length
theorem c59(hE:qa9 104 T=some e104.g) (hC:qa9 78 T=some e78z.g) (L:List Int) (hl:L.length<=1000000):CallAt (ctx T) 59 [qac L] zH (qac (ql8 L)) zH:=by
 obtain⟨e0,e1⟩:=qv3 L;have hk:=fun H=>k104 hE L hl H;obtain⟨k,hkk⟩ : ∃k:Nat,max 0 (qrt L - 1)=(k:Int):=Int.eq_ofNat_of_zero_le (by omega);have ec:ql8 L=L.take k:=by unfold ql8;rw[hkk];rfl
 have hkl:k<=L.length:=by omega
 have hs:wr .i64 (qrt L - 1)=some (qrt L - 1):=qbs (by omega) (by omega);have mx:qnx false (.int .i64 (qrt L - 1)) [.int .i64 0]=some (.int .i64 (k:Int)):=by rw[<- hkk];simp[qnx];omega
 have sl:=fun H=>qx0 (H:=H) hkl;have kC:=fun H=>k78z hC (L:=L.take k) (by simp;omega) H;rw[ec];generalize L.take k=M at *;clear ec;generalize qrt L=e at *;refine qa0 (s0:=⟨[0,2],[qac L,uD],[],10,⟨0,[[]]⟩⟩) Tryz.func59 rfl rfl rfl ?_;apply qR;simp[zS];apply qR;simp[zS,hk,hs,mx,sl,kC];apply qa7;simp[zQ,Tryz.f59];exact⟨[],[],FitH.empty⟩
def e59:Entry PG:=mkE 59 [[1]] (fun L:List Int=>[qac L]) (fun L=>L.length<=1000000) (fun L=>qac (ql8 L)) fun L h=>c59 (T:=[e104,e78z]) rfl rfl L h
theorem k59(hT:qa9 59 T=some e59.g) {L:List Int} (hl:L.length<=1000000) (H:Heap):qat (ctx T) (.fn 59) [qac L] H=some (qac (ql8 L),H):=
 qee hT (fun x y h=>by simp only[List.cons.injEq,and_true]at h;exact qd2 h) L hl (by simp[qa3]) (by simp[qbb,qaj]) H
def qc4(t:Tr) (i:Int):Nd:=if isB t i=true then qa1 t i else ⟨0,0,[],[],[],0,[]⟩
def qqn(t:Tr) (i:Int):AV:=.tup [qag (qc4 t i),.bool (isB t i)]
theorem c103(t:Tr) (i:Int):CallAt (ctx T) 103 [qba t,.int .i64 i] zH (qqn t i) zH:=by
 refine qa0 (s0:=⟨[0,1,2,4,5],[qba t,.int .i64 i,uD,uD,uD],[],21,⟨0,[[]]⟩⟩) Tryz.func103 rfl rfl rfl ?_;apply qR;simp[zS,qba];have bld:qdw PG 65 []=some (.agg [.int .i64 0,.int .i64 0,.str [],.nilS,.str [],.int .i64 0,.nilS]):=rfl;by_cases h:0<=i
 ·have h0:¬ i < 0:=by omega
  by_cases h2:i < (t.length:Int)
  ·have h3:¬ (t.length:Int)<=i:=(by omega);have ho:isB t i=true:=isB_iff.2 ⟨h,h2⟩;apply qR;simp[zS,lenN,h,h2,h0,h3];apply qai rfl;apply qa6;simp;have sA:∀L,(qaf L).single=true:=fun _=>rfl;have sI:∀L,(qac L).single=true:=fun _=>rfl;have rA:∀L,refs 6 (qaf L)=[]:=fun _=>rfl;have rI:∀L,refs 6 (qac L)=[]:=fun _=>rfl;apply qR;simp[zS,atX h h2,Nd.cs,qau,sA,sI,rA,rI];apply qa7;simp[zQ,Tryz.f103,readCells,zG,Blk.rd,qf1,qe8];refine⟨[],[],?_,FitH.empty⟩;simp[qqn,qc4,ho,qag,Nd.cs,qau,qap,qax,qa2]
  ·have ho:isB t i=false:=(by simp[isB,h2]);have h3:(t.length:Int)<=i:=(by omega);apply qR;simp[zS,lenN,h,h2,h0,h3];apply qah rfl;apply qR;simp[zS,bld];apply qa7;simp[zQ,Tryz.f103,readCells,zG,Blk.rd,qf1,qe8];refine⟨[],[],?_,FitH.empty⟩;simp[qqn,qc4,ho,qag,Nd.cs,qau,qac,qaf,qap,qax,qa2]
 ·have ho:isB t i=false:=by simp[isB,h]
  have h0:i < 0:=by omega
  apply qR;simp[zS,lenN,h,h0];apply qah rfl;apply qR;simp[zS,bld];apply qa7;simp[zQ,Tryz.f103,readCells,zG,Blk.rd,qf1,qe8];refine⟨[],[],?_,FitH.empty⟩;simp[qqn,qc4,ho,qag,Nd.cs,qau,qac,qaf,qap,qax,qa2]
theorem inj_tI(x y:Tr × Int) (h:[qba x.1,AV.int .i64 x.2]=[qba y.1,AV.int .i64 y.2]):x=y:=by simp only[List.cons.injEq,and_true,AV.int.injEq,true_and]at h;exact Prod.ext (qfg h.1) h.2
def e103:Entry PG:=mkE 103 [[7],[]] (fun x:Tr × Int=>[qba x.1,.int .i64 x.2]) (fun _=>True) (fun x=>qqn x.1 x.2) fun x _=>c103 (T:=[]) x.1 x.2
theorem k103(hT:qa9 103 T=some e103.g) (t:Tr) (i:Int) (H:Heap):qat (ctx T) (.fn 103) [qba t,.int .i64 i] H=some (qqn t i,H):=
 qee hT inj_tI (t,i) trivial (by simp[qa3,qa2]) (by simp[qbb,qaj]) H
def isFd(t:Tr) (W:Str) (i:Int):Bool:=isB t i && decide ((qc4 t i).kind=1) && decide ((qc4 t i).space=0) && decide ((qc4 t i).name=W)
def zbo(t:Tr) (W:Str) (i:Int):Option Int:=if isFd t W i=true then some i else none
def qym(t:Tr) (M:List Int) (W:Str):Int:=(qp1 (fun j=>zbo t W (M.getD j 0)) M.length).getD (-1)
def qds(t:Tr) (L:List Int) (W:Str):Int:=qym t (L.drop (qrt L).toNat) W
def kFd(t:Tr) (L M:List Int) (W:Str):RgK:=⟨[0,1,2,3,5,6,8,9,10,15,16,17],[qba t,qac L,.str W,.ptr 0 0,.ptr 1 0,.ptr 2 0,uD,uD,uD,qvf M,uD,uD],42,[16,17],rgA Tryz.f46.body,rgB Tryz.f46.body⟩
def rFd(t:Tr) (W:Str) (r:Option Int):List (Nat × Blk):=[(2,.cells [.int .i64 (r.getD 0)]),(1,.cells [.str W]),(0,.cells [qcf t])]
theorem kFd_ok(t:Tr) (L M:List Int) (W:Str):(kFd t L M W).Ok 3 (rFd t W) where
 vs:=fun σ hσ=>by simp[kFd,qax,qap,hσ 0 (by omega),hσ 1 (by omega),hσ 2 (by omega),qnr,qa2]
 rows:=fun c=>by cases c<;>simp[rFd,qy0,qa3,qa2]
theorem round_fd(hN:qa9 103 T=some e103.g) (t:Tr) (L M:List Int) (W:Str) (i j:Int) :
  qg8 (ctx T) 3 [.int .i64 j,.int .i64 i] ⟨4,[[],(3,(kFd t L M W).blk .ready none [])::rFd t W none]⟩ (.bool (zbo t W i).isNone) ⟨4,[[],(kFd t L M W).rows 3 (rFd t W) (zbo t W i)]⟩:=by
 have kn:=fun H=>k103 hN t i H;simp only[qba,qqn,qag,Nd.cs]at kn;refine quc (kFd_ok t L M W) (s1:=⟨[0,1,2,3,5,6,8,9,10,15,16,17],[qba t,qac L,.str W,.ptr 0 0,.ptr 1 0,.ptr 2 0,uD,uD,uD,qvf M,.int .i64 j,.int .i64 i],[],42,⟨4,[[],[],(3,(kFd t L M W).blk .ready none [])::rFd t W none]⟩⟩) rfl fun l=>?_;generalize (kFd t L M W).blk .ready none []=B0;generalize (kFd t L M W).blk .busy none []=B1;have hg:zbo t W i=if (isB t i && decide ((qc4 t i).kind=1) && decide ((qc4 t i).space=0) && decide ((qc4 t i).name=W))=true then some i else none:=rfl;rw[hg];clear hg hN;generalize isB t i=b at *;generalize (qc4 t i).kind=n1 at *;generalize (qc4 t i).space=n2 at *;generalize (qc4 t i).name=n3 at *;generalize (qc4 t i).attrs=n4 at *;generalize (qc4 t i).data=n5 at *;generalize (qc4 t i).up=n6 at *;generalize (qc4 t i).kids=n7 at *;simp only[kFd,rgA,rgB,qz3,Tryz.f46,Option.bind_some];refine qam qb6 ?_;simp[zN];refine⟨_,_,⟨rfl,rfl⟩,rfl,?_⟩;simp only[rFd,Option.getD_none];cases b with
 |false=>
  simp only[Bool.false_and,Bool.false_eq_true,if_false]
  (repeat' (first
   |with_reducible apply qaa
   |with_reducible apply qa4
   |(with_reducible apply rE;simp[zS, *,qau];exact rfl)
   |(with_reducible apply qad;simp only[qab,qa5])
   |apply qai rfl
   |(with_reducible apply qa6;simp only[qab,qa5])))
  all_goals first|(first|exact⟨5,_,fun i hi=>qc6 (by omega),rfl,rfl⟩|exact⟨5,_,fun i hi=>qc6 (by omega),⟨rfl,rfl,rfl⟩,rfl⟩|exact⟨5,_,fun i hi=>qc6 (by omega),⟨rfl,rfl⟩,rfl⟩)|(exfalso;omega)
 |true=>
  try simp only[Bool.true_and]
  by_cases h1:n1=1
  ·subst h1;by_cases h2:n2=0
   ·subst h2;by_cases h3:n3=W
    ·subst h3;simp only[and_true,true_and,and_false,false_and,if_true,if_false,Option.getD_none,Option.getD_some,Option.isNone_none,Option.isNone_some,eq_self]
     (repeat' (first
      |with_reducible apply qaa
      |with_reducible apply qa4
      |(with_reducible apply rE;simp[zS, *,qau];exact rfl)
      |(with_reducible apply qad;simp only[qab,qa5])
      |apply qah rfl
      |(with_reducible apply qa7;simp[zQ,Tryz.f46])))
     all_goals first|(first|exact⟨5,_,fun i hi=>qc6 (by omega),rfl,rfl⟩|exact⟨5,_,fun i hi=>qc6 (by omega),⟨rfl,rfl,rfl⟩,rfl⟩|exact⟨5,_,fun i hi=>qc6 (by omega),⟨rfl,rfl⟩,rfl⟩)|(exfalso;omega)
    ·simp only[h3,and_true,true_and,and_false,false_and,if_true,if_false,Option.getD_none,Option.getD_some,Option.isNone_none,Option.isNone_some,eq_self]
     (repeat' (first
      |with_reducible apply qaa
      |with_reducible apply qa4
      |(with_reducible apply rE;simp[zS, *,qau];exact rfl)
      |(with_reducible apply qad;simp only[qab,qa5])
      |apply qai rfl
      |(with_reducible apply qa6;simp only[qab,qa5])))
     all_goals first|(first|exact⟨5,_,fun i hi=>qc6 (by omega),rfl,rfl⟩|exact⟨5,_,fun i hi=>qc6 (by omega),⟨rfl,rfl,rfl⟩,rfl⟩|exact⟨5,_,fun i hi=>qc6 (by omega),⟨rfl,rfl⟩,rfl⟩)|(exfalso;omega)
   ·simp only[h2,and_true,true_and,and_false,false_and,if_true,if_false,Option.getD_none,Option.getD_some,Option.isNone_none,Option.isNone_some,eq_self]
    (repeat' (first
     |with_reducible apply qaa
     |with_reducible apply qa4
     |(with_reducible apply rE;simp[zS, *,qau];exact rfl)
     |(with_reducible apply qad;simp only[qab,qa5])
     |apply qai rfl
     |(with_reducible apply qa6;simp only[qab,qa5])))
    all_goals first|(first|exact⟨5,_,fun i hi=>qc6 (by omega),rfl,rfl⟩|exact⟨5,_,fun i hi=>qc6 (by omega),⟨rfl,rfl,rfl⟩,rfl⟩|exact⟨5,_,fun i hi=>qc6 (by omega),⟨rfl,rfl⟩,rfl⟩)|(exfalso;omega)
  ·simp only[h1,and_true,true_and,and_false,false_and,if_true,if_false,Option.getD_none,Option.getD_some,Option.isNone_none,Option.isNone_some,eq_self]
   (repeat' (first
    |with_reducible apply qaa
    |with_reducible apply qa4
    |(with_reducible apply rE;simp[zS, *,qau];exact rfl)
    |(with_reducible apply qad;simp only[qab,qa5])
    |apply qai rfl
    |(with_reducible apply qa6;simp only[qab,qa5])))
   all_goals first|(first|exact⟨5,_,fun i hi=>qc6 (by omega),rfl,rfl⟩|exact⟨5,_,fun i hi=>qc6 (by omega),⟨rfl,rfl,rfl⟩,rfl⟩|exact⟨5,_,fun i hi=>qc6 (by omega),⟨rfl,rfl⟩,rfl⟩)|(exfalso;omega)
theorem c46(hc0:qa9 103 T=some e103.g) (hc1:qa9 104 T=some e104.g) (hc2:qa9 130 T=some e130.g) (t:Tr) (L:List Int) (W:Str) (hL:L.length<=1000000):CallAt (ctx T) 46 [qba t,qac L,.str W] zH (.int .i64 (qds t L W)) zH:=by
 have kc1:=@k104 T hc1;have kc2:=@k130 T hc2;obtain⟨e0,e1⟩:=qv3 L;have kt:=fun H=>kc1 L hL H;obtain⟨k,hk⟩ : ∃k:Nat,qrt L=(k:Int):=Int.eq_ofNat_of_zero_le e0;have hf:=fun H=>qn3 (H:=H) (L:=L) (k:=k) (by omega);have ef:qds t L W=qym t (L.drop k) W:=by unfold qds;rw[hk];rfl
 have hM:(L.drop k).length<=1000000:=by simp;omega
 rw[ef];clear ef;generalize L.drop k=M at *;rw[hk]at kt;have kb:=fun H=>k130 hc2 M H;clear kc1 kc2 e0 e1 hk;generalize (k:Int)=kk at *;refine qa0 (s0:=⟨[0,1,2,3,5,6,8,9,10,15,16,17],[qba t,qac L,.str W,uD,uD,uD,uD,uD,uD,uD,uD,uD],[],42,⟨0,[[]]⟩⟩) Tryz.func46 rfl rfl rfl ?_;apply qR;simp[zS,qba];apply qR;simp[zS,kt,hf,kb];apply qa4;refine qne (K:=kFd t L M W) (b:=3) (R:=rFd t W) (kFd_ok t L M W) M hM (fun j=>zbo t W (M.getD j 0)) (fun j hj=>?_) rfl rfl ?_
 ·have:=round_fd hc0 t L M W M[j] (j:Int);rw[show M.getD j 0=M[j] by simp[List.getD_eq_getElem?_getD,hj]];exact this
 ·obtain⟨r,hr⟩ : ∃r,qp1 (fun j=>zbo t W (M.getD j 0)) M.length=r:=⟨_,rfl⟩;unfold qym;rw[hr];cases r with
  |none=>simp[qrs,kFd,rFd];apply qR;simp[zS];apply qa7;simp[zQ,Tryz.f46];exact⟨[.int .i64 (-1)],rfl,[],[],qbd rfl,FitH.empty⟩
  |some i=>simp[qrs,kFd,rFd,qab,qa5];exact⟨[.int .i64 i],rfl,[],[],qbd rfl,FitH.empty⟩
theorem inj_46(x y:Tr × List Int × Str) (h:(fun z:Tr × List Int × Str=>([qba z.1,qac z.2.1,.str z.2.2]:List AV)) x=(fun z:Tr × List Int × Str=>([qba z.1,qac z.2.1,.str z.2.2]:List AV)) y):x=y:=by obtain⟨x0,x1,x2⟩:=x;obtain⟨y0,y1,y2⟩:=y;simp only[List.cons.injEq,and_true]at h;obtain⟨h0,h1,h2⟩:=h;have g0:x0=y0:=qfg h0;have g1:x1=y1:=qd2 h1;have g2:x2=y2:=AV.str.inj h2;subst g0 g1 g2;rfl
def e46:Entry PG:=mkE 46 [[7],[1],[]] (fun z:Tr × List Int × Str=>[qba z.1,qac z.2.1,.str z.2.2]) (fun z=>(z.2.1.length<=1000000)) (fun z=>.int .i64 (qds z.1 z.2.1 z.2.2)) fun z h=>c46 (T:=[e103,e104,e130]) rfl rfl rfl z.1 z.2.1 z.2.2 h
theorem q46(hT:qa9 46 T=some e46.g) {H:Heap} {a0:AV} {t:Tr} (b0:qcy H [7] a0=some (qba t)) {a1:AV} {L:List Int} (b1:qcy H [1] a1=some (qac L)) (W:Str) (hL:L.length<=1000000):qat (ctx T) (.fn 46) [a0,a1,.str W] H=some (.int .i64 (qds t L W),H):=
 qb2 hT inj_46 (t,L,W) hL rfl (by simp[b0,b1])
theorem findL_in(t:Tr) (M:List Int) (W:Str):qym t M W = -1\/(qym t M W∈M/\isFd t W (qym t M W)=true):=by
 have key:∀k,k<=M.length->(qp1 (fun j=>zbo t W (M.getD j 0)) k).getD (-1) = -1\/((qp1 (fun j=>zbo t W (M.getD j 0)) k).getD (-1)∈M/\isFd t W ((qp1 (fun j=>zbo t W (M.getD j 0)) k).getD (-1))=true):=by
  intro k;induction k with
  |zero=>intro _;exact .inl rfl
  |succ k ih=>
   intro hk;have hg:M.getD k 0=M[k]:=(by simp[List.getD_eq_getElem?_getD,show k < M.length by omega]);unfold qp1;rw[hg];by_cases h:isFd t W M[k]=true
   ·simp only[zbo,if_pos h];exact .inr ⟨List.getElem_mem _,h⟩
   ·simp only[zbo,if_neg h];exact ih (by omega)
 exact key M.length (Nat.le_refl _)
theorem qx7(t:Tr) (L:List Int) (W:Str):qds t L W = -1\/(qds t L W∈L/\isFd t W (qds t L W)=true):=by unfold qds;exact(findL_in t _ W).imp id fun h=>⟨List.mem_of_mem_drop h.1,h.2⟩
set_option maxHeartbeats 2000000
section
variable {C:Ctx} {n:Nat} {Q:Out->St->Prop}
def qoa(body:Code) (B:Nat->St->Prop) (Q:Out->St->Prop):Out->St->Prop
 |.goto l,s=>(findLabel body l).isSome=true/\B l s
 |x,s=>Q x s
theorem qxm{ι:Type} (inv:ι->St) (φ:ι->Prop) (m:ι->Nat) (M:Nat) (lab:ι->Nat) {body:Code} {s:St}
  (first:∀B:Nat->St->Prop,(∀s' y,m y < M->φ y->(∃σ Φ,Fit n σ Φ s' (inv y))->B (lab y) s')->WpS C n body s (qoa body B Q))
  (step:∀x rest,φ x->findLabel body (lab x)=some rest->∀B:Nat->St->Prop,(∀s' y,m y < m x->φ y->(∃σ Φ,Fit n σ Φ s' (inv y))->B (lab y) s')->WpS C n rest (inv x) (qoa body B Q)) :
  WpS C n (.scope body) s Q:=by
 have key:∀(k:Nat) (R:Code->St->Prop),(∀s' y rest,m y < k->φ y->findLabel body (lab y)=some rest->(∃σ Φ,Fit n σ Φ s' (inv y))->R rest s') ->
   ∀o s',qoa body (fun l s'=>∃y,lab y=l/\m y < k/\φ y/\∃σ Φ,Fit n σ Φ s' (inv y)) Q o s'->gotoQ body R Q o s':=by
  intro k R hR o s' h;cases o with
  |goto l=>
   obtain⟨h1,y,rfl,h2,h3,h4⟩:=h;simp only[gotoQ];cases hf:findLabel body (lab y)with
   |none=>rw[hf]at h1;cases h1
   |some rest=>exact hR s' y rest h2 h3 hf h4
  |normal=>exact h
  |exit k=>exact h
  |ret=>exact h
 repeat apply wq
 refine qzd (fun x:Option ι=>match x with|none=>body|some y=>(findLabel body (lab y)).getD .skip) (fun x=>match x with|none=>s|some y=>inv y)
  (fun x=>match x with|none=>True|some y=>φ y/\∃rest,findLabel body (lab y)=some rest) (fun x=>match x with|none=>M|some y=>m y) none trivial rfl ?_
 intro x hx B hB;cases x with
 |none=>refine(first _ fun s' y h1 h2 h3=>⟨y,rfl,h1,h2,h3⟩).mono (key M B fun s' y rest h1 h2 h3 h4=>?_);have:=hB s' (some y) h1 ⟨h2,rest,h3⟩ h4;simpa only[h3,Option.getD_some]using this
 |some x=>obtain⟨h1,rest,h2⟩:=hx;show WpS C n ((findLabel body (lab x)).getD .skip) (inv x) _;rw[h2];refine(step x rest h1 h2 _ fun s' y h1 h2 h3=>⟨y,rfl,h1,h2,h3⟩).mono (key (m x) B fun s' y rest h1 h2 h3 h4=>?_);have:=hB s' (some y) h1 ⟨h2,rest,h3⟩ h4;simpa only[h3,Option.getD_some]using this
@[simp]theorem gotoB_normal{body:Code} {B:Nat->St->Prop} {s:St}:qoa body B Q .normal s=Q .normal s:=rfl
@[simp]theorem gotoB_ret{body:Code} {B:Nat->St->Prop} {s:St}:qoa body B Q .ret s=Q .ret s:=rfl
@[simp]theorem gotoB_exit{body:Code} {B:Nat->St->Prop} {s:St} {k:Nat}:qoa body B Q (.exit k) s=Q (.exit k) s:=rfl
theorem qp8{ι:Type} (inv:ι->St) (φ:ι->Prop) (m:ι->Nat) (M l:Nat) {body rest:Code} {s:St} (hf:findLabel body l=some (.seq .skip rest)) (hM:∀x,φ x->m x<=M)
  (key:∀x,φ x->∀B:St->Prop,(∀s' y,m y < m x->φ y->(∃σ Φ,Fit n σ Φ s' (inv y))->B s')->WpS C n rest (inv x) (qoa body (fun k s'=>k=l/\B s') Q))
  (first:∀B:Nat->St->Prop,(∀x,φ x->WpS C n rest (inv x) (qoa body B Q))->WpS C n body s (qoa body B Q)):WpS C n (.scope body) s Q:=by
 have conv:∀(B:Nat->St->Prop) (o:Out) (s':St),qoa body (fun k s'=>k=l/\B l s') Q o s'->qoa body B Q o s':=by
  intro B o s' h;cases o with
  |goto k=>obtain⟨h1,rfl,h2⟩:=h;exact⟨h1,h2⟩
  |normal=>exact h
  |exit k=>exact h
  |ret=>exact h
 refine qxm inv φ m (M+1) (fun _=>l) (fun B hB=>?_) (fun x rest' hx hfind B hB=>?_)
 ·exact first B fun x hx=>(key x hx (B l) fun s' y h1 h2 h3=>hB s' y (by have:=hM x hx;omega) h2 h3).mono (conv B)
 ·rw[hf]at hfind;obtain rfl:=Option.some.inj hfind;apply qaa;repeat apply wq
  apply qa6;exact(key x hx (B l) fun s' y h1 h2 h3=>hB s' y h1 h2 h3).mono (conv B)
end
def runF(nm:Str):Nat->SS->SS × Bool
 |0,s=>(s,false)
 |r+1,s=>
  if qds s.tree s.act nm < 0 then (s,true)
  else if qkd s.opn (qds s.tree s.act nm) < 0 then ({ s with act:=qd8 s.act (qds s.tree s.act nm) },false)
  else if 0<=qmr s stpN (qkd s.opn (qds s.tree s.act nm)).toNat then (s,false)
  else if rnB s (qkd s.opn (qds s.tree s.act nm)).toNat=true then runF nm r (rnS s (qds s.tree s.act nm) (qkd s.opn (qds s.tree s.act nm)).toNat)
  else (rnS s (qds s.tree s.act nm) (qkd s.opn (qds s.tree s.act nm)).toNat,false)
def qf2(nm:Str) (s:SS):SS × Bool:=if qbv (qbh s.tree (qgd s.opn)) nm=true/\qgd s.opn ∉ s.act then ({ s with opn:=qmn s.tree s.opn nm },false) else runF nm 8 s
theorem rd_of{n d a c e:Nat} {s:SS} (h:BI n d a c e s) {nm:Str} (h1:¬ qds s.tree s.act nm < 0) (h2:¬ qkd s.opn (qds s.tree s.act nm) < 0):RdOk n d a c e s (qds s.tree s.act nm) (qkd s.opn (qds s.tree s.act nm)).toNat:=by
 obtain⟨g1,g2⟩:=qwy (L:=s.opn) (i:=qds s.tree s.act nm) (by omega);refine⟨h,g1,?_,?_⟩
 ·rw[List.getD_eq_getElem?_getD,List.getElem?_eq_getElem g1];exact g2
 ·rcases qx7 s.tree s.act nm with e|e
  ·omega
  ·exact e.1
theorem BI.runF{d a c e:Nat} {nm:Str} (he:e<=900):∀(r:Nat) {n:Nat} {s:SS},BI n d a c e s->BI (n+8 * r) d a c e (runF nm r s).1/\KeepN s.tree (Go.Proofs.YtnfdakclfmchfaaGreat.runF nm r s).1.tree
 |0,n,s,h=>⟨h,.refl _⟩
 |r+1,n,s,h=>by
  have hm:=h.mono (show n<=n+8 * (r+1) by omega) (Nat.le_refl d) (Nat.le_refl a) (Nat.le_refl c) (Nat.le_refl e);unfold Go.Proofs.YtnfdakclfmchfaaGreat.runF;split
  ·exact⟨hm,.refl _⟩
  split
  ·exact⟨hm.act List.filter_sublist,.refl _⟩
  split
  ·exact⟨hm,.refl _⟩
  have hr:=rd_of h (nm:=nm) (by assumption) (by assumption);have h1:=BI.rn hr he;have k1:=rn_keep hr he;split
  ·obtain⟨i1,i2⟩:=BI.runF he r h1;exact⟨i1.mono (by omega) (Nat.le_refl _) (Nat.le_refl _) (Nat.le_refl _) (Nat.le_refl _),k1.trans i2⟩
  ·exact⟨h1.mono (by omega) (Nat.le_refl _) (Nat.le_refl _) (Nat.le_refl _) (Nat.le_refl _),k1⟩
theorem BI.run{n d a c e:Nat} {s:SS} (h:BI n d a c e s) (he:e<=900) (nm:Str):BI (n+64) d a c e (qf2 nm s).1/\KeepN s.tree (qf2 nm s).1.tree:=by
 unfold qf2;split
 ·exact⟨(h.pre (qqj _ _ _)).mono (by omega) (Nat.le_refl _) (Nat.le_refl _) (Nat.le_refl _) (Nat.le_refl _),.refl _⟩
 ·exact BI.runF he 8 h
theorem c13(hc0:qa9 42 T=some e42.g) (hc1:qa9 44 T=some e44.g) (hc2:qa9 43 T=some e43.g) (hc3:qa9 45 T=some e45.g) (hc4:qa9 46 T=some e46.g) (hc5:qa9 47 T=some e47.g) (hc6:qa9 48 T=some e48.g) (hc7:qa9 49 T=some e49R.g) (hc8:qa9 52 T=some e52.g) {s:SS} (ne:s.tree≠[]) (nm:Str) (h:BI 70000 1000000 850 900 900 s) (hl:nm.length<=100000):SC T 13 [.str nm] s (.bool (qf2 nm s).2) ((qf2 nm s).1):=by
 have kc0:=@k42 T hc0;have kc1:=@k44 T hc1;have kc2:=@k43 T hc2;have kc3:=@k45 T hc3;have kc5:=@k47 T hc5;have kc6:=@k48 T hc6;have kc7:=@k49R T hc7;have kc8:=@k52 T hc8;have g0:=@vg0;have v0:=@vset;have gk:=@vgk;have ol:=h.ol;have al:=h.al;have kI:=fun n k fr=>@kc0 s ne nm trivial hl h.tb.nm (by omega) n k fr;have kT:=fun H=>kc1 (L:=s.opn) (by omega) H;have kL:=fun n k ab fr=>@kc2 s 0 0 ne (qgd s.opn) (by omega) n k ab fr;have kP:=fun n k fr=>@kc3 s ne nm trivial hl h.tb.nm (by omega) n k fr;have bld:qdw PG 78 [(0,.ptr 0 0)]=some (.agg [.ptr 0 0,.int .i64 0,.int .i64 0]):=rfl;have fS:∀(s:SS) (el mk:Int) (f:List (Nat × Blk)) (n k:Nat),k=1\/3<=k->s.tree≠[]->getF 0 f=none->getF k f=none->getF 2 f=some (.cells [.ptr 0 0,.int .i64 el,.int .i64 mk])->FitH 2 [(k,3),(0,0),(2,2)] [] ⟨n,[f,VS k s]⟩ ⟨4,[[(2,.cells [.ptr 0 0,.int .i64 el,.int .i64 mk])],VS 3 s]⟩:=fun s el mk f n k hk ne h1 h2 h3=>fitA2 (x:=⟨s,el,mk⟩) (by omega) (by omega) (by omega) ne h1 h2 h3;refine qa0 (s0:=⟨[0,1,4,5,6,7],[.ptr 0 0,.str nm,uD,uD,uD,uD],[],79,⟨2,[]::[VS 1 s]⟩⟩) Tryz.func13 rfl rfl rfl ?_;apply qR;simp[zS];by_cases hq:qbv (qbh s.tree (qgd s.opn)) nm=true/\qgd s.opn ∉ s.act
 case pos=>
  refine qp8 (fun _:Unit=>(⟨[0,1,4,5,6,7],[.ptr 0 0,uD,uD,uD,uD,uD],[],79,⟨0,[[]]⟩⟩ : St)) (fun _=>False) (fun _=>0) 0 0 rfl (fun x hx=>hx.elim) (fun x hx=>hx.elim) fun B hB=>?_;have e:qf2 nm s=(⟨s.tree,qmn s.tree s.opn nm,s.act,s.mode,s.back,s.lex,s.form,s.head,s.foster,s.skip,s.inside⟩,false):=by unfold qf2;rw[if_pos hq]
  rw[e];obtain⟨q1,q2⟩:=hq;rw[q1]at kI;simp only[decide_eq_false q2]at kL;clear hB kc0 kc1 kc2 kc3 e q1 q2 h;generalize qgd s.opn=tp at *;generalize qmn s.tree s.opn nm=O1 at *
  (repeat' (first
   |with_reducible apply qaa
   |(with_reducible apply rE;simp[zS, *,SS.post];exact rfl)
   |(with_reducible apply qad;simp only[qab,qa5])
   |apply qah rfl
   |(with_reducible apply qa7;simp[zQ,Tryz.f13])))
  all_goals first|(((try simp[zQ,Tryz.f13]);exact qbz rfl rfl rfl (by decide) ne rfl rfl))|(exfalso;omega)
 refine qp8 (fun x:Nat × SS × Int × Int=>(⟨[0,1,4,5,6,7],[.ptr 0 0,.str nm,uD,.ptr 2 0,.int .i64 ((8 - x.1:Nat):Int),uD],[],79,⟨4,[[(2,.cells [.ptr 0 0,.int .i64 x.2.2.1,.int .i64 x.2.2.2])],VS 3 x.2.1]⟩⟩ : St)) (fun x=>x.1<=8/\BI (70000+8 * (8 - x.1)) 1000000 850 900 900 x.2.1/\qf2 nm s=runF nm x.1 x.2.1) (fun x=>x.1) 8 0 rfl (fun x hx=>hx.1) ?key ?first
 case first=>
  intro B hB;have fin:∀(f:List (Nat × Blk)) (n k:Nat) (ts:List (Nat × AV)),k=1\/3<=k->getF 0 f=none->getF k f=none->getF 2 f=some (.cells [.ptr 0 0,.int .i64 0,.int .i64 0])->Fit 2 [(k,3),(0,0),(2,2)] [] (⟨[0,1,4,5,6,7],[.ptr 0 0,.str nm,.bool false,.ptr 2 0,.int .i64 0,.int .i64 0],ts,79,⟨n,[f,VS k s]⟩⟩ : St) ((⟨[0,1,4,5,6,7],[.ptr 0 0,.str nm,uD,.ptr 2 0,.int .i64 0,uD],[],79,⟨4,[[(2,.cells [.ptr 0 0,.int .i64 0,.int .i64 0])],VS 3 s]⟩⟩ : St)):=fun f n k ts hk a1 a2 a3=>⟨rfl,rfl,rfl,by(have hk2:¬ k=2:=by omega);(have hk0:¬ 0=k:=by omega);(have hk1:¬ 2=k:=by omega);(have hk3:¬ k=0:=by omega);simp[hk3,qax,qap,qav,qa2,hk0,hk1,hk2],fS s 0 0 f n k hk ne a1 a2 a3⟩;have hb:=hB (8,s,0,0) ⟨Nat.le_refl 8,h,by unfold qf2;rw[if_neg hq]⟩;simp only[Nat.sub_self,Int.natCast_zero]at hb;cases hn:qbv (qbh s.tree (qgd s.opn)) nm with
  |false=>
   rw[hn]at kI;generalize qgd s.opn=tp at *;apply qR;simp[zS,bld];apply qR;simp[zS];apply qR;simp[zS,g0,ne,SS.post,kI,kT,kL];apply qai rfl;apply qa6;simp only[qab,qa5];try apply qaa
   apply qdq;simp only[qab,qa5];exact .fit _ _ (fin _ _ _ _ (by omega) (by simp[getF]) (by simp[getF]) (by simp[getF])) hb
  |true=>
   have q2:qgd s.opn∈s.act:=Decidable.byContradiction fun h=>hq ⟨hn,h⟩;rw[hn]at kI;simp only[decide_eq_true q2]at kL;generalize qgd s.opn=tp at *;apply qR;simp[zS,bld];apply qR;simp[zS];apply qR;simp[zS,g0,ne,SS.post,kI,kT,kL];apply qai rfl;apply qa6;simp only[qab,qa5];try apply qaa
   apply qdq;simp only[qab,qa5];exact .fit _ _ (fin _ _ _ _ (by omega) (by simp[getF]) (by simp[getF]) (by simp[getF])) hb
 case key=>
  rintro⟨r,s1,el,mk⟩ ⟨h1,h2,h3⟩ B hB;simp only at h1 h2 h3 hB ⊢;clear kI kT kL kP bld ol al hl kc0 kc1 kc2 kc3;have ne1:=h2.ne;have ol:=h2.ol;have al:=h2.al;have tl:=h2.tb.n1;have h2a:=h2;have h3b:=h3;rw[h3];clear h3 h hq ne;generalize qf2 nm s=Q0 at *;cases r with
  |zero=>
   have e:runF nm 0 s1=(s1,false):=rfl;rw[e];clear e h3b hB h2 h2a kc5 kc6 kc7 kc8
   (repeat' (first
    |with_reducible apply qaa
    |(with_reducible apply rE;simp[zS, *,SS.post];exact rfl)
    |(with_reducible apply qad;simp only[qab,qa5])
    |apply qah rfl
    |(with_reducible apply qa7;simp[zQ,Tryz.f13])))
   all_goals first|(((try simp[zQ,Tryz.f13]);exact qbz rfl rfl rfl (by omega) ne1 (by simp[getF]) (by simp[getF])))|(exfalso;omega)
  |succ r=>
   obtain⟨i,hi⟩ : ∃i,i=qds s1.tree s1.act nm:=⟨_,rfl⟩;obtain⟨x,hx⟩ : ∃x,x=qkd s1.opn i:=⟨_,rfl⟩;have er:runF nm (r+1) s1=if i < 0 then (s1,true) else if x < 0 then ({ s1 with act:=qd8 s1.act i },false) else if 0<=qmr s1 stpN x.toNat then (s1,false) else if rnB s1 x.toNat=true then runF nm r (rnS s1 i x.toNat) else (rnS s1 i x.toNat,false):=(by rw[hx,hi];rfl);have kF:=fun n k f (k0:0 < k) (hf:getF k f=none)=>q46 hc4 (thS (n:=n) k0 ne1 hf) (a1:=qac s1.act) (L:=s1.act) (qaj (by simp[okV,qa2])) nm (by omega);have kX:=fun H=>kc5 (L:=s1.opn) i (by omega) H;rw[show qal (fun y=>decide (i=y)) s1.opn 0=x from hx.symm]at kX;rw[<- hi]at kF;have kD:=fun H=>kc6 (L:=s1.act) (by omega) i H;have w1:((8 - (r+1):Nat):Int)≠8:=(by omega);have w2:wr .i64 (((8 - (r+1):Nat):Int)+1)=some ((8 - r:Nat):Int):=(by rw[show (((8 - (r+1):Nat):Int)+1)=((8 - r:Nat):Int) by omega];exact qbs (by omega) (by omega));generalize ((8 - (r+1):Nat):Int)=rr at *;rw[er]at h3b ⊢;clear er;by_cases c1:i < 0
   ·rw[if_pos c1];clear h3b;clear hB h2 h2a kc5 kc6 kc7 kc8 kX kD hx hi
    (repeat' (first
     |with_reducible apply qaa
     |(with_reducible apply rE;simp[zS, *,SS.post];exact rfl)
     |(with_reducible apply qad;simp only[qab,qa5])
     |(refine qay mixed qb6 (by decide +kernel) (by decide +kernel) rfl ?_;apply qh0;simp[zS,zW,qb9,qbt,qaz,Heap.lay,qb8, *,SS.post];exact rfl)
     |(with_reducible apply qbc;refine⟨by repeat first|exact qdi|refine qdj (by decide +kernel) ?_,?_⟩;simp only[qab,qa5,allPend,Heap.lay,qb8])
     |apply qah rfl
     |apply qai rfl
     |(with_reducible apply qa6;simp only[qab,qa5])
     |(with_reducible apply qa7;simp[zQ,Tryz.f13])))
    all_goals first|(((try simp[zQ,Tryz.f13]);exact qbz rfl rfl rfl (by omega) ne1 (by simp[getF]) (by simp[getF])))|(exfalso;omega)
   rw[if_neg c1]at h3b ⊢;by_cases c2:x < 0
   ·rw[if_pos c2];clear h3b;clear hB h2 h2a kc5 kc6 kc7 kc8 hx hi;generalize qd8 s1.act i=A1 at *
    (repeat' (first
     |with_reducible apply qaa
     |(with_reducible apply rE;simp[zS, *,SS.post];exact rfl)
     |(with_reducible apply qad;simp only[qab,qa5])
     |(refine qay mixed qb6 (by decide +kernel) (by decide +kernel) rfl ?_;apply qh0;simp[zS,zW,qb9,qbt,qaz,Heap.lay,qb8, *,SS.post];exact rfl)
     |(with_reducible apply qbc;refine⟨by repeat first|exact qdi|refine qdj (by decide +kernel) ?_,?_⟩;simp only[qab,qa5,allPend,Heap.lay,qb8])
     |apply qah rfl
     |apply qai rfl
     |(with_reducible apply qa6;simp only[qab,qa5])
     |(with_reducible apply qa7;simp[zQ,Tryz.f13])))
    all_goals first|(((try simp[zQ,Tryz.f13]);exact qbz rfl rfl rfl (by omega) ne1 (by simp[getF]) (by simp[getF])))|(exfalso;omega)
   rw[if_neg c2]at h3b ⊢;have hr0:=rd_of h2 (nm:=nm) (by rw[<- hi];exact c1) (by rw[<- hi,<- hx];exact c2);rw[<- hi,<- hx]at hr0;obtain⟨p,hp⟩ : ∃p:Nat,x=(p:Int):=⟨x.toNat,by omega⟩;have ep:x.toNat=p:=(by omega);rw[ep]at hr0 h3b ⊢;have hpl:=hr0.pl;have kB:=fun n k ab fr=>@kc7 s1 i mk ne1 p (by omega) (by omega) h2.r0 h2.tb.nm n k ab fr;simp only[<- hp]at kB;by_cases c3:0<=qmr s1 stpN p
   ·rw[if_pos c3];clear h3b;clear hB h2 h2a kc5 kc6 kc7 kc8 hx hi kD hr0 hp ep;generalize qmr s1 stpN p=v at *
    (repeat' (first
     |with_reducible apply qaa
     |(with_reducible apply rE;simp[zS, *,SS.post];exact rfl)
     |(with_reducible apply qad;simp only[qab,qa5])
     |(refine qay mixed qb6 (by decide +kernel) (by decide +kernel) rfl ?_;apply qh0;simp[zS,zW,qb9,qbt,qaz,Heap.lay,qb8, *,SS.post];exact rfl)
     |(with_reducible apply qbc;refine⟨by repeat first|exact qdi|refine qdj (by decide +kernel) ?_,?_⟩;simp only[qab,qa5,allPend,Heap.lay,qb8])
     |apply qah rfl
     |apply qai rfl
     |(with_reducible apply qa6;simp only[qab,qa5])
     |(with_reducible apply qa7;simp[zQ,Tryz.f13])))
    all_goals first|(((try simp[zQ,Tryz.f13]);exact qbz rfl rfl rfl (by omega) ne1 (by simp[getF]) (by simp[getF])))|(exfalso;omega)
   rw[if_neg c3]at h3b ⊢;have hrn:=BI.rn hr0 (by omega);have nr:=hrn.ne;have kR:=fun n k ab fr=>@kc8 s1 i mk ne1 x ⟨by omega,by rw[ep];exact⟨h2.mono (by omega) (Nat.le_refl _) (Nat.le_refl _) (Nat.le_refl _) (Nat.le_refl _),hr0.pl,hr0.at_,hr0.ea⟩⟩ n k ab fr;simp only[ep]at kR;cases hb:rnB s1 p with
   |false=>
    rw[hb]at kR;simp only[Bool.false_eq_true,if_false];clear h3b hB h2 h2a kc5 kc6 kc7 kc8 hx hi kD hr0 hp ep hrn;generalize qmr s1 stpN p=v at *;generalize rnS s1 i p=s2 at *;generalize rnM s1 i p mk=m2 at *
    (repeat' (first
     |with_reducible apply qaa
     |(with_reducible apply rE;simp[zS, *,SS.post];exact rfl)
     |(with_reducible apply qad;simp only[qab,qa5])
     |(refine qay mixed qb6 (by decide +kernel) (by decide +kernel) rfl ?_;apply qh0;simp[zS,zW,qb9,qbt,qaz,Heap.lay,qb8, *,SS.post];exact rfl)
     |(with_reducible apply qbc;refine⟨by repeat first|exact qdi|refine qdj (by decide +kernel) ?_,?_⟩;simp only[qab,qa5,allPend,Heap.lay,qb8])
     |apply qai rfl
     |(with_reducible apply qa6;simp only[qab,qa5])
     |(with_reducible apply qa7;simp[zQ,Tryz.f13])))
    all_goals first|(((try simp[zQ,Tryz.f13]);exact qbz rfl rfl rfl (by omega) nr (by simp[getF]) (by simp[getF])))|(exfalso;omega)
   |true=>
    rw[hb]at kR h3b;simp only[if_true]at h3b ⊢;have hB2:=fun(s':St) (mk':Int) h=>hB s' (r,rnS s1 i p,i,mk') (by simp) ⟨by simp only;omega,hrn.mono (by simp only;omega) (Nat.le_refl _) (Nat.le_refl _) (Nat.le_refl _) (Nat.le_refl _),h3b⟩ h;simp only at hB2;have fT:=fS (rnS s1 i p) i (rnM s1 i p mk);clear hB h2 h2a kc5 kc6 kc7 kc8 hx hi kD hr0 hp ep hrn h3b;generalize qmr s1 stpN p=v at *;generalize rnS s1 i p=s2 at *;generalize rnM s1 i p mk=m2 at *;generalize ((8 - r:Nat):Int)=rr2 at *
    (repeat' (first
     |with_reducible apply qaa
     |(with_reducible apply rE;simp[zS, *,SS.post];exact rfl)
     |(with_reducible apply qad;simp only[qab,qa5])
     |(refine qay mixed qb6 (by decide +kernel) (by decide +kernel) rfl ?_;apply qh0;simp[zS,zW,qb9,qbt,qaz,Heap.lay,qb8, *,SS.post];exact rfl)
     |(with_reducible apply qbc;refine⟨by repeat first|exact qdi|refine qdj (by decide +kernel) ?_,?_⟩;simp only[qab,qa5,allPend,Heap.lay,qb8])
     |apply qah rfl
     |apply qai rfl
     |(with_reducible apply qa6;simp only[qab,qa5])))
    all_goals first|(skip)|(exfalso;omega)
    all_goals
     apply wps_goto;refine⟨rfl,rfl,hB2 _ m2 ⟨[(_,3),(0,0),(2,2)],[],rfl,rfl,rfl,by simp[qax,qap,qav,qa2],fT _ _ _ (by omega) nr (by simp[getF]) (by simp[getF]) (by simp[getF])⟩⟩
def e13:Entry PG:=mkS 13 [[]] (fun z:Str=>[.str z]) (fun z s=>(BI 70000 1000000 850 900 900 s)/\(z.length<=100000)) (fun z s=>.bool (qf2 z s).2) (fun z s=>(qf2 z s).1) fun z s ne h=>⟨c13 (T:=[e42,e44,e43,e45,e46,e47,e48,e49R,e52]) rfl rfl rfl rfl rfl rfl rfl rfl rfl ne z h.1 h.2,by simp[qa3,qa2],by simp[qa2,qa3],(BI.run h.1 (by omega) _).1.ne⟩
theorem k13(hT:qa9 13 T=some e13.g) {s:SS} (ne:s.tree≠[]) (nm:Str) (h:BI 70000 1000000 850 900 900 s) (hl:nm.length<=100000) {n k:Nat} {fr:List (Nat × Blk)} (k0:0 < k) (kn:k < n) (of:qga k fr):qat (ctx T) (.fn 13) [.ptr 0 0,.str nm] ⟨n,[fr,VS k s]⟩=some (.bool (qf2 nm s).2,⟨n+1,[fr,VS n ((qf2 nm s).1)]⟩):=
 qct hT inj_147 (nm) ne ⟨h,hl⟩ (by simp[qa3,qa2]) (by simp[qbb,qaj]) k0 kn of
