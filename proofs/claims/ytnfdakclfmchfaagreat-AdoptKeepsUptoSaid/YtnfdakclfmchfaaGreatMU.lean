/- law18.Done on two states. No condition. -/
import Derived.Test.YtnfdakclfmchfaaGreatMT
namespace Go.Proofs.YtnfdakclfmchfaaGreat
set_option linter.unusedSimpArgs false
set_option linter.unusedVariables false
open Go Go.RowKit
noncomputable section
set_option maxRecDepth 100000
set_option maxHeartbeats 2000000
@[simp]theorem szT29:qcj PG 29=some 4:=rfl
@[simp]theorem agT29:qh4 PG 29=some true:=rfl
@[simp]theorem byT29:qch PG 29=some 56:=rfl
@[simp]theorem alT29(H:Heap):alV PG H 29=some (.ptr H.n 0,H.new (.cells [.int .i64 0,.int .i64 0,.str [],.nilS])):=rfl
@[simp]theorem zeT29:qby PG 29=some (.agg [.int .i64 0,.int .i64 0,.str [],.nilS]):=rfl
attribute [simp] Tryz.underlying29
@[simp 500]theorem rvF29(H:Heap) (cs:List AV) (o:Nat):qb2 PG H 29 (.fptr cs o)=(qfe o 4 cs).bind fun cs=>some (.agg cs):=rfl
@[simp 500]theorem rvP29(H:Heap) (b o:Nat):qb2 PG H 29 (.ptr b o)=(readCells H b o 4).bind fun cs=>some (.agg cs):=rfl
@[simp]theorem fa29_0(x:AV):qb1 PG 29 x 0=(match x with | .ptr b o=>some (.ptr b (o+0)) | .fptr cs o=>some (.fptr cs (o+0))|_=>none):=rfl
@[simp]theorem fd29_0(cs:List AV):qbu PG 29 (.agg cs) 0=qcb cs 0:=rfl
@[simp]theorem fa29_1(x:AV):qb1 PG 29 x 1=(match x with | .ptr b o=>some (.ptr b (o+1)) | .fptr cs o=>some (.fptr cs (o+1))|_=>none):=rfl
@[simp]theorem fd29_1(cs:List AV):qbu PG 29 (.agg cs) 1=qcb cs 1:=rfl
@[simp]theorem fa29_2(x:AV):qb1 PG 29 x 2=(match x with | .ptr b o=>some (.ptr b (o+2)) | .fptr cs o=>some (.fptr cs (o+2))|_=>none):=rfl
@[simp]theorem fd29_2(cs:List AV):qbu PG 29 (.agg cs) 2=qcb cs 2:=rfl
@[simp]theorem fa29_3(x:AV):qb1 PG 29 x 3=(match x with | .ptr b o=>some (.ptr b (o+3)) | .fptr cs o=>some (.fptr cs (o+3))|_=>none):=rfl
@[simp]theorem fd29_3(cs:List AV):qbu PG 29 (.agg cs) 3=qcb cs 3:=rfl
@[simp]theorem szT31:qcj PG 31=some 5:=rfl
@[simp]theorem agT31:qh4 PG 31=some true:=rfl
@[simp]theorem byT31:qch PG 31=some 64:=rfl
@[simp]theorem alT31(H:Heap):alV PG H 31=some (.ptr H.n 0,H.new (.cells [.int .i64 0,.int .i64 0,.str [],.nilS,.int .i64 0])):=rfl
@[simp]theorem zeT31:qby PG 31=some (.agg [.int .i64 0,.int .i64 0,.str [],.nilS,.int .i64 0]):=rfl
attribute [simp] Tryz.underlying31
@[simp 500]theorem rvF31(H:Heap) (cs:List AV) (o:Nat):qb2 PG H 31 (.fptr cs o)=(qfe o 5 cs).bind fun cs=>some (.agg cs):=rfl
@[simp 500]theorem rvP31(H:Heap) (b o:Nat):qb2 PG H 31 (.ptr b o)=(readCells H b o 5).bind fun cs=>some (.agg cs):=rfl
@[simp]theorem fa31_0(x:AV):qb1 PG 31 x 0=(match x with | .ptr b o=>some (.ptr b (o+0)) | .fptr cs o=>some (.fptr cs (o+0))|_=>none):=rfl
@[simp]theorem fd31_0(cs:List AV):qbu PG 31 (.agg cs) 0=(qfe 0 4 cs).bind fun r=>some (.agg r):=rfl
@[simp]theorem fa31_1(x:AV):qb1 PG 31 x 1=(match x with | .ptr b o=>some (.ptr b (o+4)) | .fptr cs o=>some (.fptr cs (o+4))|_=>none):=rfl
@[simp]theorem fd31_1(cs:List AV):qbu PG 31 (.agg cs) 1=qcb cs 4:=rfl
def Opn.cs(o:Opn):List AV:=[.int .i64 o.do18,.int .i64 o.space,.str o.name,qae o.attrs]
def qz3(o:Opn):AV:=.agg o.cs
structure Op18 (o:Opn) (s:SS):Prop where
 bi:BI 60000 100000 850 800 800 s
 ok:OpOk o
 no:o.do18≠6
theorem Op18.ne{o:Opn} {s:SS} (h:Op18 o s):(op18 s o).tree≠[]:=(h.bi.op18 h.ok (by omega) (by omega)).ne
theorem c35{T:List (Entry PG)} (hc0:qac 53 T=some (upE e53).g) (hc1:qac 66 T=some (upE e66).g) (hc2:qac 54 T=some (upE e54).g) (hc3:qac 98 T=some (upE e98).g) (hc4:qac 84 T=some (upE e84).g) (hc5:qac 99 T=some (upE e99).g) (hc6:qac 45 T=some (upE e45).g) (hc7:qac 100 T=some (upE e100).g) (hc8:qac 77 T=some (upE e77).g) (hc9:qac 81 T=some (upE e81).g) (hc10:qac 101 T=some (upE e101).g) (hc11:qac 102 T=some (upE e102).g) {s:SS} (ne:s.tree≠[]) (o:Opn) (h:Op18 o s):CA T 35 [.ptr 0 0,.ptr 1 0,qz3 o] ⟨4,[VS 2 s,VP 1 3 s]⟩ (.tup []) ⟨6,[VS 4 (op18 s o),VP 1 5 (op18 s o)]⟩:=by
 obtain⟨bi,⟨h60,h14⟩,h6⟩:=h;obtain⟨dd,sp,nm,L⟩:=o;simp only at h60 h14 h6;have hf:=bi.fo;have ok:=bi.sok (by omega) (by omega);have kk:=bi.kok (by omega);have hon:=bi.on;have ha:L.length<=1000000:=by omega
 have hx:nm.length<=1000000000:=by omega
 have hl:nm.length<=1100000:=by omega
 have hl2:nm.length<=100000:=by omega
 have hn:=bi.tb.nm;have ho:s.opn.length<=100000:=by have:=bi.ol;omega
 have bld:qe6 PG 48 [(0,.int .i64 1),(1,.str nm),(2,qae L)]=some (.agg [.int .i64 1,.str nm,qae L,.bool false,.str []]):=rfl;have sA:(qae L).single=true:=rfl;have rA:refs 4 (qae L)=[]:=rfl;have rB:refs 5 (qae L)=[]:=rfl;have ob1:zax 48 objs=false:=rfl;have ob2:zax 29 objs=false:=rfl;clear bi;by_cases h0:dd=0
 ·subst h0;have nS:(elS s sp nm L:SS).tree≠[]:=qdi _ _ _ _;have eS:op18 s ⟨0,sp,nm,L⟩=elS s sp nm L:=rfl;rw[eS];have k1:=fun n k j fr (h1:1 < k) (h2:1 < j) (h3:k≠j) (h4:k < n) (h5:j < n) (o:qi2 k j fr)=>upA (rest:=[.agg [.int .i64 1,.str nm,qae L,.bool false,.str []],.int .i64 sp]) (v:=.int .i64 (s.tree.length:Int)) (s':=elS s sp nm L) (y:=s) hc0 (k53 (T:=[e53]) rfl ne ⟨1,nm,L,false,[]⟩ sp hf ok ha (n:=2) (k:=1) (fr:=[]) (by omega) (by omega) (by simp)) (by simp[qa6,qa2,qae]) (by simp[qa2,qa6]) ne nS ne ⟨h1,h2,h3,h4,h5⟩ o;have k2:=fun n k j fr (h1:1 < k) (h2:1 < j) (h3:k≠j) (h4:k < n) (h5:j < n) (o:qi2 k j fr)=>upB (rest:=[.agg [.int .i64 1,.str nm,qae L,.bool false,.str []],.int .i64 sp]) (v:=.int .i64 (s.tree.length:Int)) (s':=elS s sp nm L) (x:=elS s sp nm L) hc1 (k66 (T:=[e66]) rfl ne ⟨1,nm,L,false,[]⟩ sp hf ok ha hon (n:=2) (k:=1) (fr:=[]) (by omega) (by omega) (by simp)) (by simp[qa6,qa2,qae]) (by simp[qa2,qa6]) ne nS nS ⟨h1,h2,h3,h4,h5⟩ o;clear hc0 hc1 hc2 hc3 hc4 hc5 hc6 hc7 hc8 hc9 hc10 hc11 eS hf ok kk hon ha hx hl hl2 hn ho h60 h14 h6;generalize (elS s sp nm L:SS)=S1 at *;refine qa1 (s0:=⟨[0,1,2,5,6,13],[.ptr 0 0,.ptr 1 0,.agg [.int .i64 0,.int .i64 sp,.str nm,qae L],uD,uD,uD],[],94,⟨4,[]::[VS 2 s,VP 1 3 s]⟩⟩) Tryz.func35 rfl rfl rfl ?_
  (repeat' (first
   |with_reducible apply qad
   |with_reducible apply qa3
   |(with_reducible apply rE;simp[zS, *];exact rfl)
   |(with_reducible apply qaf;simp only[qab,qa4])
   |(apply qag rfl)))
  all_goals first|(skip)|(exfalso;omega)
  all_goals (try simp[zQ,Tryz.f35])
  all_goals exact qje rfl ⟨rfl,rfl⟩ (by decide) (by decide) nS (by simp)
 by_cases h1:dd=1
 ·subst h1;have nS:({ s with tree:=chT s.tree (qdw s.opn) nm }:SS).tree≠[]:=zcc ne _ _;have eS:op18 s ⟨1,sp,nm,L⟩={ s with tree:=chT s.tree (qdw s.opn) nm }:=rfl;rw[eS];have k1:=fun n k j fr (h1:1 < k) (h2:1 < j) (h3:k≠j) (h4:k < n) (h5:j < n) (o:qi2 k j fr)=>upA (rest:=[.str nm]) (v:=.tup []) (s':={ s with tree:=chT s.tree (qdw s.opn) nm }) (y:=s) hc2 (k54 (T:=[e54]) rfl ne nm hf ok kk hx (n:=2) (k:=1) (fr:=[]) (by omega) (by omega) (by simp)) (by simp[qa6,qa2,qae]) (by simp[qa2,qa6]) ne nS ne ⟨h1,h2,h3,h4,h5⟩ o;have k2:=fun n k j fr (h1:1 < k) (h2:1 < j) (h3:k≠j) (h4:k < n) (h5:j < n) (o:qi2 k j fr)=>upB (rest:=[.str nm]) (v:=.tup []) (s':={ s with tree:=chT s.tree (qdw s.opn) nm }) (x:={ s with tree:=chT s.tree (qdw s.opn) nm }) hc3 (k98 (T:=[e98]) rfl ne nm hf ok kk hx (n:=2) (k:=1) (fr:=[]) (by omega) (by omega) (by simp)) (by simp[qa6,qa2,qae]) (by simp[qa2,qa6]) ne nS nS ⟨h1,h2,h3,h4,h5⟩ o;clear hc0 hc1 hc2 hc3 hc4 hc5 hc6 hc7 hc8 hc9 hc10 hc11 eS hf ok kk hon ha hx hl hl2 hn ho h60 h14 h6 h0;generalize ({ s with tree:=chT s.tree (qdw s.opn) nm }:SS)=S1 at *;refine qa1 (s0:=⟨[0,1,2,5,6,13],[.ptr 0 0,.ptr 1 0,.agg [.int .i64 1,.int .i64 sp,.str nm,qae L],uD,uD,uD],[],94,⟨4,[]::[VS 2 s,VP 1 3 s]⟩⟩) Tryz.func35 rfl rfl rfl ?_
  (repeat' (first
   |with_reducible apply qad
   |with_reducible apply qa3
   |(with_reducible apply rE;simp[zS, *];exact rfl)
   |(with_reducible apply qaf;simp only[qab,qa4])
   |apply qag rfl
   |(apply qaj rfl)))
  all_goals first|(skip)|(exfalso;omega)
  all_goals (try simp[zQ,Tryz.f35])
  all_goals exact qje rfl ⟨rfl,rfl⟩ (by decide) (by decide) nS (by simp)
 by_cases h2:dd=2
 ·subst h2;have nS:({ s with tree:=ntT s.tree (ntP s (-1)) nm }:SS).tree≠[]:=qdi _ _ _ _;have eS:op18 s ⟨2,sp,nm,L⟩={ s with tree:=ntT s.tree (ntP s (-1)) nm }:=rfl;rw[eS];have k1:=fun n k j fr (h1:1 < k) (h2:1 < j) (h3:k≠j) (h4:k < n) (h5:j < n) (o:qi2 k j fr)=>upA (rest:=[.str nm,.int .i64 (-1)]) (v:=.tup []) (s':={ s with tree:=ntT s.tree (ntP s (-1)) nm }) (y:=s) hc4 (k84 (T:=[e84]) rfl ne nm (-1) hf ok (n:=2) (k:=1) (fr:=[]) (by omega) (by omega) (by simp)) (by simp[qa6,qa2,qae]) (by simp[qa2,qa6]) ne nS ne ⟨h1,h2,h3,h4,h5⟩ o;have k2:=fun n k j fr (h1:1 < k) (h2:1 < j) (h3:k≠j) (h4:k < n) (h5:j < n) (o:qi2 k j fr)=>upB (rest:=[.str nm,.int .i64 (-1)]) (v:=.tup []) (s':={ s with tree:=ntT s.tree (ntP s (-1)) nm }) (x:={ s with tree:=ntT s.tree (ntP s (-1)) nm }) hc5 (k99 (T:=[e99]) rfl ne nm (-1) hf ok (n:=2) (k:=1) (fr:=[]) (by omega) (by omega) (by simp)) (by simp[qa6,qa2,qae]) (by simp[qa2,qa6]) ne nS nS ⟨h1,h2,h3,h4,h5⟩ o;clear hc0 hc1 hc2 hc3 hc4 hc5 hc6 hc7 hc8 hc9 hc10 hc11 eS hf ok kk hon ha hx hl hl2 hn ho h60 h14 h6 h0 h1;generalize ({ s with tree:=ntT s.tree (ntP s (-1)) nm }:SS)=S1 at *;refine qa1 (s0:=⟨[0,1,2,5,6,13],[.ptr 0 0,.ptr 1 0,.agg [.int .i64 2,.int .i64 sp,.str nm,qae L],uD,uD,uD],[],94,⟨4,[]::[VS 2 s,VP 1 3 s]⟩⟩) Tryz.func35 rfl rfl rfl ?_
  (repeat' (first
   |with_reducible apply qad
   |with_reducible apply qa3
   |(with_reducible apply rE;simp[zS, *];exact rfl)
   |(with_reducible apply qaf;simp only[qab,qa4])
   |apply qag rfl
   |(apply qaj rfl)))
  all_goals first|(skip)|(exfalso;omega)
  all_goals (try simp[zQ,Tryz.f35])
  all_goals exact qje rfl ⟨rfl,rfl⟩ (by decide) (by decide) nS (by simp)
 by_cases h3:dd=3
 ·subst h3;have nS:({ s with opn:=qiu s.tree s.opn nm }:SS).tree≠[]:=ne;have eS:op18 s ⟨3,sp,nm,L⟩={ s with opn:=qiu s.tree s.opn nm }:=rfl;rw[eS];have k1:=fun n k j fr (h1:1 < k) (h2:1 < j) (h3:k≠j) (h4:k < n) (h5:j < n) (o:qi2 k j fr)=>upA (rest:=[.str nm]) (v:=.tup []) (s':={ s with opn:=qiu s.tree s.opn nm }) (y:=s) hc6 (k45 (T:=[e45]) rfl ne nm trivial hl hn ho (n:=2) (k:=1) (fr:=[]) (by omega) (by omega) (by simp)) (by simp[qa6,qa2,qae]) (by simp[qa2,qa6]) ne nS ne ⟨h1,h2,h3,h4,h5⟩ o;have k2:=fun n k j fr (h1:1 < k) (h2:1 < j) (h3:k≠j) (h4:k < n) (h5:j < n) (o:qi2 k j fr)=>upB (rest:=[.str nm]) (v:=.tup []) (s':={ s with opn:=qiu s.tree s.opn nm }) (x:={ s with opn:=qiu s.tree s.opn nm }) hc7 (k100 (T:=[e100]) rfl ne nm hl2 ho (n:=2) (k:=1) (fr:=[]) (by omega) (by omega) (by simp)) (by simp[qa6,qa2,qae]) (by simp[qa2,qa6]) ne nS nS ⟨h1,h2,h3,h4,h5⟩ o;clear hc0 hc1 hc2 hc3 hc4 hc5 hc6 hc7 hc8 hc9 hc10 hc11 eS hf ok kk hon ha hx hl hl2 hn ho h60 h14 h6 h0 h1 h2;generalize ({ s with opn:=qiu s.tree s.opn nm }:SS)=S1 at *;refine qa1 (s0:=⟨[0,1,2,5,6,13],[.ptr 0 0,.ptr 1 0,.agg [.int .i64 3,.int .i64 sp,.str nm,qae L],uD,uD,uD],[],94,⟨4,[]::[VS 2 s,VP 1 3 s]⟩⟩) Tryz.func35 rfl rfl rfl ?_
  (repeat' (first
   |with_reducible apply qad
   |with_reducible apply qa3
   |(with_reducible apply rE;simp[zS, *];exact rfl)
   |(with_reducible apply qaf;simp only[qab,qa4])
   |apply qag rfl
   |(apply qaj rfl)))
  all_goals first|(skip)|(exfalso;omega)
  all_goals (try simp[zQ,Tryz.f35])
  all_goals exact qje rfl ⟨rfl,rfl⟩ (by decide) (by decide) nS (by simp)
 by_cases h4:dd=4
 ·subst h4;have nS:({ s with opn:=qk0 s.tree s.opn nm }:SS).tree≠[]:=ne;have eS:op18 s ⟨4,sp,nm,L⟩={ s with opn:=qk0 s.tree s.opn nm }:=rfl;rw[eS];have k1:=fun n k j fr (h1:1 < k) (h2:1 < j) (h3:k≠j) (h4:k < n) (h5:j < n) (o:qi2 k j fr)=>upA (rest:=[.str nm]) (v:=.tup []) (s':={ s with opn:=qk0 s.tree s.opn nm }) (y:=s) hc8 (k77 (T:=[e77]) rfl ne nm trivial hl hn ho (n:=2) (k:=1) (fr:=[]) (by omega) (by omega) (by simp)) (by simp[qa6,qa2,qae]) (by simp[qa2,qa6]) ne nS ne ⟨h1,h2,h3,h4,h5⟩ o;have k2:=fun n k j fr (h1:1 < k) (h2:1 < j) (h3:k≠j) (h4:k < n) (h5:j < n) (o:qi2 k j fr)=>upB (rest:=[.str nm]) (v:=.tup []) (s':={ s with opn:=qk0 s.tree s.opn nm }) (x:={ s with opn:=qk0 s.tree s.opn nm }) hc9 (k81 (T:=[e81]) rfl ne nm hl2 ho (n:=2) (k:=1) (fr:=[]) (by omega) (by omega) (by simp)) (by simp[qa6,qa2,qae]) (by simp[qa2,qa6]) ne nS nS ⟨h1,h2,h3,h4,h5⟩ o;clear hc0 hc1 hc2 hc3 hc4 hc5 hc6 hc7 hc8 hc9 hc10 hc11 eS hf ok kk hon ha hx hl hl2 hn ho h60 h14 h6 h0 h1 h2 h3;generalize ({ s with opn:=qk0 s.tree s.opn nm }:SS)=S1 at *;refine qa1 (s0:=⟨[0,1,2,5,6,13],[.ptr 0 0,.ptr 1 0,.agg [.int .i64 4,.int .i64 sp,.str nm,qae L],uD,uD,uD],[],94,⟨4,[]::[VS 2 s,VP 1 3 s]⟩⟩) Tryz.func35 rfl rfl rfl ?_
  (repeat' (first
   |with_reducible apply qad
   |with_reducible apply qa3
   |(with_reducible apply rE;simp[zS, *];exact rfl)
   |(with_reducible apply qaf;simp only[qab,qa4])
   |apply qag rfl
   |(apply qaj rfl)))
  all_goals first|(skip)|(exfalso;omega)
  all_goals (try simp[zQ,Tryz.f35])
  all_goals exact qje rfl ⟨rfl,rfl⟩ (by decide) (by decide) nS (by simp)
 by_cases h5:dd=5
 ·subst h5;have nS:({ s with opn:=toL s.tree s.opn nm }:SS).tree≠[]:=ne;have eS:op18 s ⟨5,sp,nm,L⟩={ s with opn:=toL s.tree s.opn nm }:=rfl;rw[eS];have k1:=fun n k j fr (h1:1 < k) (h2:1 < j) (h3:k≠j) (h4:k < n) (h5:j < n) (o:qi2 k j fr)=>upA (rest:=[.str nm]) (v:=.tup []) (s':={ s with opn:=toL s.tree s.opn nm }) (y:=s) hc10 (k101 (T:=[e101]) rfl ne nm trivial hl hn ho (n:=2) (k:=1) (fr:=[]) (by omega) (by omega) (by simp)) (by simp[qa6,qa2,qae]) (by simp[qa2,qa6]) ne nS ne ⟨h1,h2,h3,h4,h5⟩ o;have k2:=fun n k j fr (h1:1 < k) (h2:1 < j) (h3:k≠j) (h4:k < n) (h5:j < n) (o:qi2 k j fr)=>upB (rest:=[.str nm]) (v:=.tup []) (s':={ s with opn:=toL s.tree s.opn nm }) (x:={ s with opn:=toL s.tree s.opn nm }) hc11 (k102 (T:=[e102]) rfl ne nm hl2 ho (n:=2) (k:=1) (fr:=[]) (by omega) (by omega) (by simp)) (by simp[qa6,qa2,qae]) (by simp[qa2,qa6]) ne nS nS ⟨h1,h2,h3,h4,h5⟩ o;clear hc0 hc1 hc2 hc3 hc4 hc5 hc6 hc7 hc8 hc9 hc10 hc11 eS hf ok kk hon ha hx hl hl2 hn ho h60 h14 h6 h0 h1 h2 h3 h4;generalize ({ s with opn:=toL s.tree s.opn nm }:SS)=S1 at *;refine qa1 (s0:=⟨[0,1,2,5,6,13],[.ptr 0 0,.ptr 1 0,.agg [.int .i64 5,.int .i64 sp,.str nm,qae L],uD,uD,uD],[],94,⟨4,[]::[VS 2 s,VP 1 3 s]⟩⟩) Tryz.func35 rfl rfl rfl ?_
  (repeat' (first
   |with_reducible apply qad
   |with_reducible apply qa3
   |(with_reducible apply rE;simp[zS, *];exact rfl)
   |(with_reducible apply qaf;simp only[qab,qa4])
   |apply qag rfl
   |(apply qaj rfl)))
  all_goals first|(skip)|(exfalso;omega)
  all_goals (try simp[zQ,Tryz.f35])
  all_goals exact qje rfl ⟨rfl,rfl⟩ (by decide) (by decide) nS (by simp)
 have eS:op18 s ⟨dd,sp,nm,L⟩=s:=by unfold op18;simp[h0,h1,h2,h3,h4,h5]
 rw[eS];clear hc0 hc1 hc2 hc3 hc4 hc5 hc6 hc7 hc8 hc9 hc10 hc11 eS hf ok kk hon ha hx hl hl2 hn ho h60 h14;refine qa1 (s0:=⟨[0,1,2,5,6,13],[.ptr 0 0,.ptr 1 0,.agg [.int .i64 dd,.int .i64 sp,.str nm,qae L],uD,uD,uD],[],94,⟨4,[]::[VS 2 s,VP 1 3 s]⟩⟩) Tryz.func35 rfl rfl rfl ?_
 (repeat' (first
  |with_reducible apply qad
  |with_reducible apply qa3
  |(with_reducible apply rE;simp[zS, *];exact rfl)
  |(with_reducible apply qaf;simp only[qab,qa4])
  |apply qaj rfl
  |(with_reducible apply qa5;simp only[qab,qa4])))
 all_goals first|(skip)|(exfalso;omega)
 all_goals (try simp[zQ,Tryz.f35])
 all_goals exact qje rfl ⟨rfl,rfl⟩ (by decide) (by decide) ne (by simp)
def e35:Entry PG:=mk2 35 (fun o:Opn=>[qz3 o]) Op18 (fun _ _=>.tup []) (fun o s=>op18 s o) fun o s ne h=>⟨c35 (T:=[upE e53,upE e66,upE e54,upE e98,upE e84,upE e99,upE e45,upE e100,upE e77,upE e81,upE e101,upE e102]) rfl rfl rfl rfl rfl rfl rfl rfl rfl rfl rfl rfl ne o h,by simp[qa6,qa2,qz3,Opn.cs,qae],rfl,h.ne⟩
theorem zbc{x y:Opn} (h:qz3 x=qz3 y):x=y:=by
 unfold qz3 Opn.cs at h;simp only[AV.agg.injEq,jl,AV.int.injEq,AV.str.injEq,yc,jJ]at h;obtain⟨h1,h2,h3,h4⟩:=h;have h4:=qdp h4;cases x;cases y
 simp_all
theorem k35{T:List (Entry PG)} (hT:qIn 35 T e35) {s:SS} (ne:s.tree≠[]) (o:Opn) (h:Op18 o s) {n k j:Nat} {fr:List (Nat × Blk)} (d:d2J n k j) (of:qi2 k j fr) :
  qb5 (ctx T) (.fn 35) [.ptr 0 0,.ptr 1 0,qz3 o] ⟨n,[fr,VS k s,VP 1 j s]⟩=some (.tup [],⟨n+2,[fr,VS n (op18 s o),VP 1 (n+1) (op18 s o)]⟩):=
 mk2_eq hT (fun x y h=>zbc (by simpa using h)) o ne h d of
