/- words.In for closed runs; law 24's closed test. No condition. -/
import Derived.Test.YtnfdakclfmchfaaGreatMR
namespace Go.Proofs.YtnfdakclfmchfaaGreat
noncomputable section
set_option linter.unusedSimpArgs false
set_option linter.unusedVariables false
open Go Go.RowKit
set_option maxRecDepth 100000
set_option maxHeartbeats 4000000
variable {T:List (Entry Tryz.prog)}
theorem zc5{v v':AV} {s':SS} {t:Tk} {H:Heap} {k c:Nat} (e:v=v') (hv:qa2 v'=true) (ne:s'.tree≠[]) (kc:(k≠0/\c≠0)/\k≠c/\k≠1/\c≠1/\3<=k)
  (h0:H.get 0=some (.cells (nV k s'.tree::qac s'.opn::.slc c 0 s'.act.length (.rest 1)::s'.post.tail.tail))) (hk:H.get k=some (.cells (qa8 (s'.tree.map qag)))) (h1:H.get 1=some (.cells t.cs)) (hc:H.get c=some (.cells (s'.act.map qau))) :
  ∃σ Φ,qap σ Φ v v'/\FitH 3 σ Φ H ⟨4,[TKR 1 ⟨s',t⟩++VS 3 s']⟩:=by
 subst e;refine⟨[(k,3),(0,0),(1,1)],[(c,s'.act.map qau)],qbd hv,?_⟩;constructor
 case nd1=>simp;omega
 case nd2=>simp
 case nd3=>rw[qf4 ne];simp[Heap.ents,TKR]
 case lt=>simp
 case idn=>simp
 case num=>simp
 case src=>
  intro e he;rw[qf4 ne]at he;simp only[Heap.ents,TKR,List.flatten_cons,List.flatten_nil,List.append_nil,List.cons_append,List.nil_append,List.mem_cons,List.not_mem_nil,or_false]at he;rcases he with rfl|rfl|rfl
  ·exact⟨1,_,by simp,h1,qao (qqh t)⟩
  ·refine⟨0,_,by simp,h0,?_⟩;have b1:¬ 0=k:=(by omega);have b2:¬ k=0:=(by omega);simp only[qji,qax,SS.post,List.tail_cons];refine⟨by simp[qap,qav,b1,b2],qbd (by simp),ql4 (by simp[qcn]),?_⟩;simp[qax,qap,qa2]
  ·exact⟨k,_,by simp,hk,qao (qbw s'.tree).pure⟩
 case frz=>
  intro x hx;simp at hx;subst hx;exact⟨_,hc,qao (qsi _),qsi _⟩
def markS(s:SS) (nm:Str) (L:List At1):SS:={ qdf s nm L with act:=(qdf s nm L).act++[-1] }
def qqp(s:SS) (t:Tk):SS:=
 if t.name=[116,101,120,116,97,114,101,97] then { qgh s t.name t.attrs with skip:=true }
 else if t.name=[120,109,112] then qgh (qci (qdg s)) t.name t.attrs
 else if t.name=[105,102,114,97,109,101]\/t.name=[110,111,101,109,98,101,100] then qgh s t.name t.attrs
 else if t.name=[98,117,116,116,111,110] then qjv (qcr s [98,117,116,116,111,110] 0 []) t
 else if t.name=[111,112,116,103,114,111,117,112]\/t.name=[111,112,116,105,111,110] then qjv (qxn s [111,112,116,105,111,110]) t
 else if t.name=[97,112,112,108,101,116]\/t.name=[109,97,114,113,117,101,101]\/t.name=[111,98,106,101,99,116] then markS s t.name t.attrs
 else qjv s t
theorem BI.mark{n d a c e:Nat} {s:SS} (h:BI n d a c e s) {nm:Str} {L:List At1} (hn:nm.length<=40) (hL:L.length<=a):BI (n+e+1) d a (c+1) (e+1) (markS s nm L):=by
 have hi:=h.inl hn hL;obtain⟨M,hM,hcv⟩:=hi.cv;refine⟨hi.tb,hi.fo,hi.hd,hi.rg,hi.nd,fun i hx=>?_,?_,?_,hi.fm,⟨M,hM,fun x hx=>?_⟩,hi.h1⟩
 ·rcases List.mem_append.1 hx with hx|hx
  ·exact hi.ac i hx
  ·simp at hx;exact .inl hx
 ·show NDm ((qdf s nm L).act++[-1]);unfold NDm;rw[List.pairwise_append];refine⟨hi.an,by simp,fun x hx y hy exy=>?_⟩;simp at hy;omega
 ·show ((qdf s nm L).act++[-1]).length<=e+1;rw[List.length_append];have:=hi.al;simp;omega
 ·rcases hx with hx|⟨hx,hx1⟩
  ·exact hcv x (.inl hx)
  ·rcases List.mem_append.1 hx with hx|hx
   ·exact hcv x (.inr ⟨hx,hx1⟩)
   ·simp at hx;exact absurd hx hx1
theorem BI.more{n d a c e:Nat} {s:SS} (h:BI n d a c e s) (he:e<=900) {t:Tk} (hn:t.name.length<=40) (hL:t.attrs.length<=a):BI (n+e+64+e+1) d a (c+1) (e+1) (qqp s t):=by
 have up:∀{s:SS} {m k j:Nat},m<=n+e+64+e+1->k<=c+1->j<=e+1->BI m d a k j s->BI (n+e+64+e+1) d a (c+1) (e+1) s:=fun h1 h2 h3 h=>h.mono h1 (Nat.le_refl _) (Nat.le_refl _) h2 h3;unfold qqp;split
 ·exact up (by omega) (by omega) (by omega) ((h.texts hn hL).mode rfl rfl rfl rfl rfl)
 split
 ·exact up (by omega) (by omega) (by omega) (h.endp.recon.texts hn hL)
 split
 ·exact up (by omega) (by omega) (by omega) (h.texts hn hL)
 split
 ·exact(h.clos _ _ _).rest_ he hn hL
 split
 ·exact(h.topp (W:=[111,112,116,105,111,110]) (by decide)).rest_ he hn hL
 split
 ·exact up (by omega) (by omega) (by omega) (h.mark hn hL)
 ·exact h.rest_ he hn hL
theorem c171(hc0:qa9 172 T=some e172t.g) (hc1:qa9 145 T=some e145.g) (hc2:qa9 146 T=some e146.g) (hc3:qa9 39 T=some e39.g) (hc4:qa9 77 T=some e77.g) (hc5:qa9 45 T=some e45.g) (hc6:qa9 42 T=some e42.g) (hc7:qa9 165 T=some e165.g) (hc8:qa9 206 T=some e206g.g) (hc9:qa9 78 T=some e78.g) (hc10:qa9 208 T=some e208.g) {s:SS} {t:Tk} (ne:s.tree≠[])  (h:BI 50000 1000000 850 800 800 s) (ha:t.attrs.length<=14) (hn:t.name.length<=40) (hk:t.kind=1):TC T 171 [] ⟨s,t⟩ (.tup []) ⟨qqp s t,t⟩:=by
 have kc0:=@k172t T hc0;have kc1:=@k145 T hc1;have kc2:=@k146 T hc2;have kc3:=@k39 T hc3;have kc4:=@k77 T hc4;have kc5:=@k45 T hc5;have kc6:=@k42 T hc6;have kc7:=@k165 T hc7;have kc8:=@k206g T hc8;have kc9:=@k78 T hc9;have kc10:=@k208 T hc10;have g0:=@vg0;have v0:=@vset;obtain⟨kd,nm,L,sf,dt⟩:=t;simp only at ha hn hk;have ol:=h.ol;have nmk:=h.tb.nm;have sok:=h.sok (by omega) (by omega);have he:=h.endp;have hel:=he.ol;have her:=he.recon;have kT:=fun n k tb fr=>@kc0 s ⟨kd,nm,L,sf,dt⟩ ne h.fo sok (by simp only;omega) n k tb fr;have kTx:=fun n k tb fr=>@kc0 (qci (qdg s)) ⟨kd,nm,L,sf,dt⟩ her.ne her.fo (her.sok (by omega) (by omega)) (by simp only;omega) n k tb fr;have kHp:=fun n k fr=>@kc1 s ne [112] 2 trivial (by decide) nmk (by omega) n k fr;have kHb:=fun n k fr=>@kc1 s ne [98,117,116,116,111,110] 0 trivial (by decide) nmk (by omega) n k fr;have kPa:=fun n k fr=>@kc2 s ne nmk (by omega) n k fr;have kRe:=fun n k fr=>@kc3 (qdg s) he.ne (he.rok (by omega) (by omega) (by omega)) n k fr;have kIm:=fun n k fr=>@kc4 s ne [] trivial (by decide) nmk (by omega) n k fr;have kPo:=fun n k fr=>@kc5 { s with opn:=qgt s.tree s.opn [] } ne [98,117,116,116,111,110] trivial (by decide) nmk (by have:=qhn s.tree s.opn [];simp only;omega) n k fr;have kIs:=fun n k fr=>@kc6 s ne [111,112,116,105,111,110] trivial (by decide) nmk (by omega) n k fr;have kSh:=fun n k fr=>@kc7 s ne h.on (by omega) n k fr;have hr:=h.recon;have kIn:=fun n k tb fr=>@kc8 s ⟨kd,nm,L,sf,dt⟩ ne (h.rok (by omega) (by omega) (by omega)) (hr.sok (by omega) (by omega)) h.fo (by simp only;omega) n k tb fr;have hi:=h.inl (nm:=nm) (L:=L) hn (by omega);have hia:=hi.al;have kCl:=fun H=>kc9 (L:=(qdf s nm L).act) (by omega) H;have hcl:=h.clos [98,117,116,116,111,110] 0 [];have htp:=h.topp (W:=[111,112,116,105,111,110]) (by decide);have kR1:=fun n k tb fr=>@kc10 (qcr s [98,117,116,116,111,110] 0 []) ⟨kd,nm,L,sf,dt⟩ hcl.ne hcl (by simp only;omega) hn hk n k tb fr;have kR2:=fun n k tb fr=>@kc10 (qxn s [111,112,116,105,111,110]) ⟨kd,nm,L,sf,dt⟩ htp.ne htp (by simp only;omega) hn hk n k tb fr;have kR3:=fun n k tb fr=>@kc10 s ⟨kd,nm,L,sf,dt⟩ ne h (by simp only;omega) hn hk n k tb fr;have n1:=(h.texts (nm:=nm) (L:=L) hn (by omega)).ne;have n2:=(her.texts (nm:=nm) (L:=L) hn (by omega)).ne;have n3:=(hcl.rest_ (t:=⟨kd,nm,L,sf,dt⟩) (by omega) hn (by simp only;omega)).ne;have n4:=(htp.rest_ (t:=⟨kd,nm,L,sf,dt⟩) (by omega) hn (by simp only;omega)).ne;have n5:=(h.rest_ (t:=⟨kd,nm,L,sf,dt⟩) (by omega) hn (by simp only;omega)).ne;have n6:=hi.ne;have n7:=hcl.ne;have n8:=htp.ne;have n9:=he.ne;have n10:=her.ne;have npa:(qow s).tree≠[]:=ne;have nim:({ s with opn:=qgt s.tree s.opn [] }:SS).tree≠[]:=ne;have e:qqp s ⟨kd,nm,L,sf,dt⟩=if nm=[116,101,120,116,97,114,101,97] then { qgh s nm L with skip:=true } else if nm=[120,109,112] then qgh (qci (qdg s)) nm L else if nm=[105,102,114,97,109,101]\/nm=[110,111,101,109,98,101,100] then qgh s nm L else if nm=[98,117,116,116,111,110] then qjv (qcr s [98,117,116,116,111,110] 0 []) ⟨kd,nm,L,sf,dt⟩ else if nm=[111,112,116,103,114,111,117,112]\/nm=[111,112,116,105,111,110] then qjv (qxn s [111,112,116,105,111,110]) ⟨kd,nm,L,sf,dt⟩ else if nm=[97,112,112,108,101,116]\/nm=[109,97,114,113,117,101,101]\/nm=[111,98,106,101,99,116] then markS s nm L else qjv s ⟨kd,nm,L,sf,dt⟩:=rfl;have ein:elS (qci s) 0 (Tk.mk kd nm L sf dt).name (Tk.mk kd nm L sf dt).attrs=qdf s nm L:=rfl;rw[ein]at kIn;have een:qdg s=if qgb s.tree s.opn [112] 2=true then qow s else s:=rfl;have ecl:qcr s [98,117,116,116,111,110] 0 []=if qgb s.tree s.opn [98,117,116,116,111,110] 0=true then ⟨s.tree,qmn s.tree (qgt s.tree s.opn []) [98,117,116,116,111,110],s.act,s.mode,s.back,s.lex,s.form,s.head,s.foster,s.skip,s.inside⟩ else s:=rfl;have eto:qxn s [111,112,116,105,111,110]=if qbv (qbh s.tree (qgd s.opn)) [111,112,116,105,111,110]=true then ⟨s.tree,s.opn.dropLast,s.act,s.mode,s.back,s.lex,s.form,s.head,s.foster,s.skip,s.inside⟩ else s:=rfl;rw[e];simp only[Tk.cs,qer]at kT kTx kIn kR1 kR2 kR3 ⊢;simp only at kPo;clear e ein kc0 kc1 kc2 kc3 kc4 kc5 kc6 kc7 kc8 kc9 kc10 nmk sok he hel her hr hcl htp h ha hn hk;generalize qjv (qcr s [98,117,116,116,111,110] 0 []) ⟨kd,nm,L,sf,dt⟩=s3 at *;generalize qjv (qxn s [111,112,116,105,111,110]) ⟨kd,nm,L,sf,dt⟩=s4 at *;generalize qjv s ⟨kd,nm,L,sf,dt⟩=s5 at *;generalize qgh (qci (qdg s)) nm L=s2 at *;generalize qgh s nm L=s1 at *;unfold markS;generalize qdf s nm L=s6 at *;by_cases c1:nm=[116,101,120,116,97,114,101,97]
 case pos=>
  rw[if_pos c1];subst c1;clear een ecl eto;refine qa0 (s0:=⟨[0,1,7,27,41,48],[.ptr 0 0,.ptr 1 0,uD,uD,uD,uD],[],68,⟨3,[]::[_]⟩⟩) Tryz.func171 rfl rfl rfl ?_;apply qcg;simp only[Tk.cs]
  (repeat' (first
   |with_reducible apply qaa
   |with_reducible apply qa4
   |(with_reducible apply rE;simp[zS, *,SS.post];exact rfl)
   |(with_reducible apply qad;simp only[qab,qa5])
   |apply qah rfl
   |(with_reducible apply qa7;simp[zQ,Tryz.f171])))
  all_goals first|(((try simp[zQ,Tryz.f171]);exact qbe rfl (by first|rfl|(simp[*];done)) (by simp[qa2,qa3]) (by omega) n1 (by simp[getF]) (by simp[getF]) (by first|(simp[getF,Tk.cs];done)|(simp[getF,Tk.cs, *];done))))|(exfalso;omega)
 rw[if_neg c1];by_cases c2:nm=[120,109,112]
 case pos=>
  rw[if_pos c2];subst c2;clear ecl eto c1;generalize qci (qdg s)=r at *;generalize qdg s=q at *;generalize qow s=p at *;generalize qgb s.tree s.opn [112] 2=b at *;cases b;all_goals
   simp only[Bool.false_eq_true,if_true,if_false]at een;subst een;refine qa0 (s0:=⟨[0,1,7,27,41,48],[.ptr 0 0,.ptr 1 0,uD,uD,uD,uD],[],68,⟨3,[]::[_]⟩⟩) Tryz.func171 rfl rfl rfl ?_;apply qcg;simp only[Tk.cs]
   (repeat' (first
    |with_reducible apply qaa
    |with_reducible apply qa4
    |(with_reducible apply rE;simp[zS, *,SS.post];exact rfl)
    |(with_reducible apply qad;simp only[qab,qa5])
    |apply qah rfl
    |apply qai rfl
    |(with_reducible apply qa6;simp only[qab,qa5])
    |(with_reducible apply qa7;simp[zQ,Tryz.f171])))
   all_goals first|(((try simp[zQ,Tryz.f171]);exact qbe rfl (by first|rfl|(simp[*];done)) (by simp[qa2,qa3]) (by omega) n2 (by simp[getF]) (by simp[getF]) (by first|(simp[getF,Tk.cs];done)|(simp[getF,Tk.cs, *];done))))|(exfalso;omega)
 rw[if_neg c2];by_cases c3:nm=[105,102,114,97,109,101]\/nm=[110,111,101,109,98,101,100]
 case pos=>
  rw[if_pos c3];clear een ecl eto;rcases c3 with c3|c3;all_goals
   subst c3;clear c1 c2;refine qa0 (s0:=⟨[0,1,7,27,41,48],[.ptr 0 0,.ptr 1 0,uD,uD,uD,uD],[],68,⟨3,[]::[_]⟩⟩) Tryz.func171 rfl rfl rfl ?_;apply qcg;simp only[Tk.cs]
   (repeat' (first
    |with_reducible apply qaa
    |with_reducible apply qa4
    |(with_reducible apply rE;simp[zS, *,SS.post];exact rfl)
    |(with_reducible apply qad;simp only[qab,qa5])
    |apply qah rfl
    |apply qai rfl
    |(with_reducible apply qa6;simp only[qab,qa5])
    |(with_reducible apply qa7;simp[zQ,Tryz.f171])))
   all_goals first|(((try simp[zQ,Tryz.f171]);exact qbe rfl (by first|rfl|(simp[*];done)) (by simp[qa2,qa3]) (by omega) n1 (by simp[getF]) (by simp[getF]) (by first|(simp[getF,Tk.cs];done)|(simp[getF,Tk.cs, *];done))))|(exfalso;omega)
 rw[if_neg c3];by_cases c4:nm=[98,117,116,116,111,110]
 case pos=>
  rw[if_pos c4];subst c4;clear c1 c2 c3 een eto;generalize qcr s [98,117,116,116,111,110] 0 []=q at *;generalize qmn s.tree (qgt s.tree s.opn []) [98,117,116,116,111,110]=O2 at *;generalize qgt s.tree s.opn []=O1 at *;generalize qgb s.tree s.opn [98,117,116,116,111,110] 0=b at *;cases b;all_goals
   simp only[Bool.false_eq_true,if_true,if_false]at ecl;subst ecl;refine qa0 (s0:=⟨[0,1,7,27,41,48],[.ptr 0 0,.ptr 1 0,uD,uD,uD,uD],[],68,⟨3,[]::[_]⟩⟩) Tryz.func171 rfl rfl rfl ?_;apply qcg;simp only[Tk.cs]
   (repeat' (first
    |with_reducible apply qaa
    |with_reducible apply qa4
    |(with_reducible apply rE;simp[zS, *,SS.post];exact rfl)
    |(with_reducible apply qad;simp only[qab,qa5])
    |apply qah rfl
    |apply qai rfl
    |(with_reducible apply qa6;simp only[qab,qa5])))
   all_goals first|(((try simp[zQ,Tryz.f171]);exact qbe rfl (by first|rfl|(simp[*];done)) (by simp[qa2,qa3]) (by omega) n3 (by simp[getF]) (by simp[getF]) (by first|(simp[getF,Tk.cs];done)|(simp[getF,Tk.cs, *];done))))|(exfalso;omega)
 rw[if_neg c4];by_cases c5:nm=[111,112,116,103,114,111,117,112]\/nm=[111,112,116,105,111,110]
 case pos=>
  rw[if_pos c5];clear een ecl;generalize qxn s [111,112,116,105,111,110]=q at *;generalize s.opn.dropLast=O1 at *;generalize qbv (qbh s.tree (qgd s.opn)) [111,112,116,105,111,110]=b at *;rcases c5 with c5|c5;all_goals
   subst c5;clear c1 c2 c3 c4;cases b;all_goals
    simp only[Bool.false_eq_true,if_true,if_false]at eto;subst eto;refine qa0 (s0:=⟨[0,1,7,27,41,48],[.ptr 0 0,.ptr 1 0,uD,uD,uD,uD],[],68,⟨3,[]::[_]⟩⟩) Tryz.func171 rfl rfl rfl ?_;apply qcg;simp only[Tk.cs]
    (repeat' (first
     |with_reducible apply qaa
     |with_reducible apply qa4
     |(with_reducible apply rE;simp[zS, *,SS.post];exact rfl)
     |(with_reducible apply qad;simp only[qab,qa5])
     |apply qah rfl
     |apply qai rfl
     |(with_reducible apply qa6;simp only[qab,qa5])))
    all_goals first|(((try simp[zQ,Tryz.f171]);exact qbe rfl (by first|rfl|(simp[*];done)) (by simp[qa2,qa3]) (by omega) n4 (by simp[getF]) (by simp[getF]) (by first|(simp[getF,Tk.cs];done)|(simp[getF,Tk.cs, *];done))))|(exfalso;omega)
 rw[if_neg c5];by_cases c6:nm=[97,112,112,108,101,116]\/nm=[109,97,114,113,117,101,101]\/nm=[111,98,106,101,99,116]
 case pos=>
  rw[if_pos c6];clear een ecl eto;have rS:=@prom_S;have sR:=@setR;have hv:∀e,e∈[[(1,Blk.cells [.int .i64 kd,.str nm,qaf L,.bool sf,.str dt])],VS 3 s6].flatten->e.1≠4:=fun e he=>by rw[qf4 n6]at he;simp at he;rcases he with rfl|rfl|rfl<;>simp
  clear v0 c1 c2 c3 c4 c5 kT kTx kHp kHb kPa kRe kIm kPo kIs kSh kR1 kR2 kR3;cases eA:s6.act with
  |nil=>
   rw[eA]at kCl;simp only[List.map_nil,qcv,qhu]at kCl;have hap:∀H t,Heap.get H t=some (.cells [.int .i64 (-1)])->qby PG H 3 .zslc (.slc t 0 1 (.ex 1))=some (.slc H.n 0 1 (.rest 1),H.new (.cells [.int .i64 (-1)])):=fun H t ht=>(by have hx:qb3 H 1 1 (.slc t 0 1 (.ex 1))=some [.int .i64 (-1)]:=(by simp[qb3,readCells,ht,Blk.rd]);simp only[qby,qmt,qxh,qvk,Option.bind_some,qc3,hx];rfl);rcases c6 with c6|c6|c6;all_goals
    subst c6;refine qa0 (s0:=⟨[0,1,7,27,41,48],[.ptr 0 0,.ptr 1 0,uD,uD,uD,uD],[],68,⟨3,[]::[_]⟩⟩) Tryz.func171 rfl rfl rfl ?_;apply qcg;simp only[Tk.cs]
    (repeat' (first
     |with_reducible apply qaa
     |with_reducible apply qa4
     |(with_reducible apply rE;simp[zS, *,SS.post,qa3,qa2,qau];exact rfl)
     |(with_reducible apply qad;simp only[qab,qa5])
     |apply qah rfl
     |apply qai rfl
     |(with_reducible apply qa6;simp only[qab,qa5])
     |(with_reducible apply qa7;simp[zQ,Tryz.f171])))
    all_goals first|(((try simp[zQ,Tryz.f171]);exact zc5 (k:=3) (c:=5) rfl rfl n6 (by omega) (by simp[zG,SS.post,eA]) (by simp[zG]) (by simp[zG,Tk.cs]) (by simp[zG,qau,eA])))|(exfalso;omega)
  |cons y q=>
   obtain⟨o1,_⟩:=qk0 (k:=4) (L:=y::q) (by simp);have eH:∀H:Heap,qhu H ((y::q).map qau)=H.new (.cells ((y::q).map qau)):=fun H=>(by simp only[List.map_cons,qhu];rw[<- List.map_cons,qfk]);rw[eA]at kCl hia;simp only[eH,(qk0 (k:=_) (L:=y::q) (by simp)).1]at kCl;have hap:=qqk (P:=PG) (elem:=3) (b:=4) (t:=5) (m:=6) (es:=(y::q).map qau) (cs:=[.int .i64 (-1)]) (g:=[(1,.cells [.int .i64 kd,.str nm,qaf L,.bool sf,.str dt])]) (fs:=[VS 3 s6]) qmt qxh qvk rfl (by omega) (by omega) rfl rfl (qg6 (y::q)) (by simp at hia ⊢;omega) (by omega) (fun e he=>hv e (by simp at he ⊢;exact .inl he)) (fun e he=>hv e (by simp at he ⊢;exact .inr he));rw[(qk0 (k:=4) (L:=y::q) (by simp)).1,(qk0 (k:=4) (L:=y::q) (by simp)).2,List.length_map,qfk]at hap;simp only[List.cons_append,List.nil_append]at hap;clear o1 eH;generalize y::q=A at *;rcases c6 with c6|c6|c6;all_goals
    subst c6;refine qa0 (s0:=⟨[0,1,7,27,41,48],[.ptr 0 0,.ptr 1 0,uD,uD,uD,uD],[],68,⟨3,[]::[_]⟩⟩) Tryz.func171 rfl rfl rfl ?_;apply qcg;simp only[Tk.cs]
    (repeat' (first
     |with_reducible apply qaa
     |with_reducible apply qa4
     |(with_reducible apply rE;simp[zS, *,SS.post,qa3,qa2,qau];exact rfl)
     |(with_reducible apply qad;simp only[qab,qa5])
     |apply qah rfl
     |apply qai rfl
     |(with_reducible apply qa6;simp only[qab,qa5])
     |(with_reducible apply qa7;simp[zQ,Tryz.f171])))
    all_goals first|(((try simp[zQ,Tryz.f171]);exact zc5 (k:=3) (c:=6) rfl rfl n6 (by omega) (by simp[zG,SS.post,eA]) (by simp[zG]) (by simp[zG,Tk.cs]) (by simp[zG,qau,eA])))|(exfalso;omega)
 rw[if_neg c6];clear een ecl eto;simp only[not_or]at c3 c5 c6;obtain⟨c31,c32⟩:=c3;obtain⟨c51,c52⟩:=c5;obtain⟨c61,c62,c63⟩:=c6;refine qa0 (s0:=⟨[0,1,7,27,41,48],[.ptr 0 0,.ptr 1 0,uD,uD,uD,uD],[],68,⟨3,[]::[_]⟩⟩) Tryz.func171 rfl rfl rfl ?_;apply qcg;simp only[Tk.cs]
 (repeat' (first
  |with_reducible apply qaa
  |with_reducible apply qa4
  |(with_reducible apply rE;simp[zS, *,SS.post];exact rfl)
  |(with_reducible apply qad;simp only[qab,qa5])
  |apply qai rfl
  |(with_reducible apply qa6;simp only[qab,qa5])))
 all_goals first|(((try simp[zQ,Tryz.f171]);exact qbe rfl (by first|rfl|(simp[*];done)) (by simp[qa2,qa3]) (by omega) n5 (by simp[getF]) (by simp[getF]) (by first|(simp[getF,Tk.cs];done)|(simp[getF,Tk.cs, *];done))))|(exfalso;omega)
 all_goals
  (try simp only[Tk.cs]at *)
  refine qa0 (s0:=⟨[0,1,7,27,41,48],[.ptr 0 0,.ptr 1 0,uD,uD,uD,uD],[],68,⟨3,[]::[_]⟩⟩) Tryz.func171 rfl rfl rfl ?_;apply qcg;try simp only[Tk.cs]
  skip
def e171:Entry PG:=mkT 171 [] (fun z:Unit=>[]) (fun z x=>(BI 50000 1000000 850 800 800 x.s)/\(x.t.attrs.length<=14)/\(x.t.name.length<=40)/\(x.t.kind=1)) (fun z x=>.tup []) (fun z x=>⟨qqp x.s x.t,x.t⟩) fun z x ne h=>⟨c171 (T:=[e172t,e145,e146,e39,e77,e45,e42,e165,e206g,e78,e208]) rfl rfl rfl rfl rfl rfl rfl rfl rfl rfl rfl ne  h.1 h.2.1 h.2.2.1 h.2.2.2,by simp[qa3,qa2],by simp[qa2,qa3],(BI.more h.1 (by omega) h.2.2.1 (by have:=h.2.1;omega)).ne⟩
theorem k171(hT:qa9 171 T=some e171.g) {s:SS} {t:Tk} (ne:s.tree≠[])  (h:BI 50000 1000000 850 800 800 s) (ha:t.attrs.length<=14) (hn:t.name.length<=40) (hk:t.kind=1) {n k tb:Nat} {fr:List (Nat × Blk)} (d:dT n k tb) (of:qg9 k tb fr):qat (ctx T) (.fn 171) [.ptr 0 0,.ptr tb 0] ⟨n,[(tb,.cells t.cs)::fr,VS k s]⟩=some (.tup [],⟨n+1,[(tb,.cells (Tk.cs (t)))::fr,VS n (qqp s t)]⟩):=
 qg3 (x:=⟨s,t⟩) (f1:=[]) hT inj_165 () ne ⟨h,ha,hn,hk⟩ (by simp[qa3,qa2]) (by simp[qbb,qaj]) d (by simp) of
set_option maxHeartbeats 1000000
section
variable {n d a c e d' a':Nat} {s:SS}
theorem TB.set{q:Nat} {t:Tr} (h:TB n q d a t) {u:Nat} (hu:u < t.length) (D:Str) (A:List At1) (h1:d<=d') (h2:a<=a') (hD:D.length<=d') (hA:A.length<=a'):TB n q d' a' (t.take u++{ qa1 t u with data:=D,attrs:=A }::t.drop (u+1)):=by
 have l:(t.take u++{ qa1 t u with data:=D,attrs:=A }::t.drop (u+1)).length=t.length:=za1 hu _;have sm:∀j:Nat,qa1 (t.take u++{ qa1 t u with data:=D,attrs:=A }::t.drop (u+1)) j=if j=u then { qa1 t u with data:=D,attrs:=A } else qa1 t j:=fun j=>by rw[qso hu];simp
 refine⟨by rw[l];exact h.n0,by rw[l];exact h.n1,?_,?_,?_,?_,?_,?_⟩<;>intro j hj<;>rw[l]at hj<;>rw[sm j]<;>(try rw[l])<;>split
 ·exact h.up u hu
 ·exact h.up j hj
 ·exact h.kid u hu
 ·exact h.kid j hj
 ·exact h.kl u hu
 ·exact h.kl j hj
 ·exact hD
 ·exact Nat.le_trans (h.dl j hj) h1
 ·exact h.nl u hu
 ·exact h.nl j hj
 ·exact hA
 ·exact Nat.le_trans (h.al j hj) h2
theorem qwt{t:Tr} {u:Nat} (hu:u < t.length) (D:Str) (A:List At1):KeepN t (t.take u++{ qa1 t u with data:=D,attrs:=A }::t.drop (u+1)):=⟨by rw[za1 hu];exact Nat.le_refl _,fun j hj=>by
 rw[qso hu];split
 next e=>rw[Int.toNat_natCast]at e;subst e;exact⟨rfl,rfl,rfl⟩
 ·exact⟨rfl,rfl,rfl⟩⟩
theorem BI.tree_{n':Nat} (h:BI n d a c e s) {t':Tr} (tb:TB n' n' d' a' t') (k:KeepN s.tree t'):BI n' d' a' c e { s with tree:=t' }:=
 ⟨tb,h.fo,h.hd,fun i hi=>by have:=h.rg i hi;have:=k.1;simp only at *;omega,h.nd,fun i hi=>by have:=h.ac i hi;have:=k.1;simp only at *;omega,h.an,h.al,h.fm,h.cv,qwv h.h1 k⟩
theorem BI.lend(h:BI n d a c e s) (at_:Nat) (nm:Str) (L:List At1) {m:Nat} (hL:L.length<=m):BI n d (a+m) c e (qhl s at_ nm L):=by
 unfold qhl;split
 ·rename_i hb;have hlt:at_ < s.opn.length:=by unfold zb3 at hb;simp at hb;omega
  have e1:s.opn.getD at_ 0=s.opn[at_]:=by simp[List.getD_eq_getElem?_getD,hlt]
  have hy:=h.rg _ (List.getElem_mem hlt);rw[e1];obtain⟨p,hp⟩ : ∃p:Nat,s.opn[at_]=p:=⟨s.opn[at_].toNat,by omega⟩;rw[hp]at hy ⊢;rw[Int.toNat_natCast];have hal:=h.tb.al p (by omega);have hf:=qx1 L (qa1 s.tree p).attrs;exact h.tree_ (h.tb.set (d':=d) (a':=a+m) (u:=p) (by omega) (qa1 s.tree p).data (L.foldl qnb (qa1 s.tree p).attrs) (Nat.le_refl _) (by omega) (h.tb.dl p (by omega)) (by omega)) (qwt (by omega) _ _)
 ·exact h.mono (Nat.le_refl _) (Nat.le_refl _) (by omega) (Nat.le_refl _) (Nat.le_refl _)
def chrS(s:SS) (x:Str):SS:={ s with tree:=chT s.tree (qgd s.opn) x }
theorem BI.chars(h:BI n d a c e s) {x:Str} {m:Nat} (hx:x.length<=m):BI (n+1) (d+m) a c e (chrS s x):=by
 have h0:=h.mono (show n<=n+1 by omega) (show d<=d+m by omega) (Nat.le_refl a) (Nat.le_refl c) (Nat.le_refl e);have hb:=h.tb.mono (Nat.le_refl n) (Nat.le_refl n) (show d<=d+m by omega) (Nat.le_refl a);have main:∀u:Int,BI (n+1) (d+m) a c e { s with tree:=chN s.tree u x }:=fun u=>by unfold chN;exact h0.tree_ (hb.new _ _ _ (by simp) (by simp only;omega) (by simp)) (qqv _ _ _ _)
 unfold chrS chT;split
 ·exact h0
 split
 ·rename_i k hk;split
  ·obtain⟨u,hu,hul⟩:=qzh h.ne (qgd s.opn);rw[hu]at hk;obtain⟨c1,c2⟩:=h.tb.kid u hul k (List.mem_of_getLast? hk);obtain⟨q,rfl⟩ : ∃q:Nat,k=q:=⟨k.toNat,by omega⟩;have hd:=h.tb.dl q (by omega);have ha:=h.tb.al q (by omega);rw[Int.toNat_natCast];exact h0.tree_ (h0.tb.set (u:=q) (by omega) ((qa1 s.tree q).data++x) (qa1 s.tree q).attrs (Nat.le_refl _) (Nat.le_refl _) (by rw[List.length_append];omega) ha) (qwt (by omega) _ _)
  ·exact main _
 ·exact main _
theorem BI.note(h:BI n d a c e s) {x:Str} (hx:x.length<=d) (up:Int):BI (n+1) d a c e { s with tree:=ntT s.tree up x }:=by unfold ntT;exact h.tree_ (h.tb.new _ _ _ (by simp) hx (by simp)) (qqv _ _ _ _)
theorem BI.kok(h:BI n d a c e s) (hd:d<=1000000000):KOk s.tree:=⟨fun x hx k hk=>by
 obtain⟨i,hi,rfl⟩:=List.getElem_of_mem hx;have:=h.tb.kid i hi k (by rw[qfw hi];exact hk);exact this,fun x hx=>by
 obtain⟨i,hi,rfl⟩:=List.getElem_of_mem hx;have:=h.tb.dl i hi;rw[qfw hi]at this;omega⟩
theorem BI.ann(h:BI n d a c e s) (but:Str):BI n d a c e (qox s but):=by
 unfold qox;split
 ·exact h.pre (qlo _ _ _)
 ·exact h
end
def hrS(s:SS) (nm:Str) (L:List At1):SS:={ qd7 s nm L with opn:=(qd7 s nm L).opn.dropLast }
def zbx(s:SS) (nm:Str) (L:List At1):SS:=if s.form=0 then { qd7 s nm L with form:=(s.tree.length:Int) } else s
def qfm(s:SS) (t:Tk):Bool × SS × Str:=
 if t.name=[104,116,109,108] then (false,qhl s 0 [] t.attrs,t.name)
 else if t.name=[98,111,100,121] then (false,qhl s 1 [98,111,100,121] t.attrs,t.name)
 else if t.name=[105,109,97,103,101] then (true,s,[105,109,103])
 else if t.name=[104,114] then (false,hrS s t.name t.attrs,t.name)
 else if t.name=[116,97,98,108,101] then (false,{ qd7 s t.name t.attrs with mode:=7 },t.name)
 else if t.name=[112,114,101]\/t.name=[108,105,115,116,105,110,103] then (false,{ qd7 s t.name t.attrs with skip:=true },t.name)
 else if t.name=[112,108,97,105,110,116,101,120,116] then (false,{ qd7 s t.name t.attrs with lex:=4 },t.name)
 else if t.name=[102,111,114,109] then (false,zbx s t.name t.attrs,t.name)
 else if t.name=[108,105] then (false,qd7 (qfj s [108,105]) t.name t.attrs,t.name)
 else if t.name=[100,100]\/t.name=[100,116] then (false,qd7 (qfj s [100,100,32,100,116]) t.name t.attrs,t.name)
 else if t.name=[115,101,108,101,99,116] then (false,slS s t.name t.attrs,t.name)
 else if t.name=[109,97,116,104] then (false,alS s t 2,t.name)
 else if t.name=[115,118,103] then (false,alS s t 1,t.name)
 else if t.name=[114,98]\/t.name=[114,116,99] then (false,elS (qox s []) 0 t.name t.attrs,t.name)
 else if t.name=[114,112]\/t.name=[114,116] then (false,elS (qox s [114,116,99]) 0 t.name t.attrs,t.name)
 else if t.name=[112,97,114,97,109]\/t.name=[115,111,117,114,99,101]\/t.name=[116,114,97,99,107] then (false,qhb s t.name t.attrs,t.name)
 else (false,qqp s t,t.name)
theorem BI.start{n d a c e:Nat} {s:SS} (h:BI n d a c e s) (he:e<=900) {t:Tk} (hn:t.name.length<=40) (hL:t.attrs.length<=14) (ha:14<=a):BI (n+e+64+e+1) d (a+14) (c+1) (e+1) (qfm s t).2.1:=by
 have up:∀{s:SS} {m k j b:Nat},m<=n+e+64+e+1->k<=c+1->j<=e+1->b<=a+14->BI m d b k j s->BI (n+e+64+e+1) d (a+14) (c+1) (e+1) s:=fun h1 h2 h3 h4 h=>h.mono h1 (Nat.le_refl _) h4 h2 h3;have hL2:t.attrs.length<=a:=by omega
 have hbl:=h.block (nm:=t.name) (L:=t.attrs) hn hL2;unfold qfm;by_cases c0:t.name=[104,116,109,108]
 ·rw[if_pos c0];exact up (by omega) (by omega) (by omega) (by omega) (h.lend _ _ _ hL)
 rw[if_neg c0];by_cases c1:t.name=[98,111,100,121]
 ·rw[if_pos c1];exact up (by omega) (by omega) (by omega) (by omega) (h.lend _ _ _ hL)
 rw[if_neg c1];by_cases c2:t.name=[105,109,97,103,101]
 ·rw[if_pos c2];exact up (by omega) (by omega) (by omega) (by omega) h
 rw[if_neg c2];by_cases c3:t.name=[104,114]
 ·rw[if_pos c3];exact up (by omega) (by omega) (by omega) (by omega) (qku hbl (qn8 h.endp _ _ _))
 rw[if_neg c3];by_cases c4:t.name=[116,97,98,108,101]
 ·rw[if_pos c4];exact up (by omega) (by omega) (by omega) (by omega) (hbl.mode rfl rfl rfl rfl rfl)
 rw[if_neg c4];by_cases c5:t.name=[112,114,101]\/t.name=[108,105,115,116,105,110,103]
 ·rw[if_pos c5];exact up (by omega) (by omega) (by omega) (by omega) (hbl.mode rfl rfl rfl rfl rfl)
 rw[if_neg c5];by_cases c6:t.name=[112,108,97,105,110,116,101,120,116]
 ·rw[if_pos c6];exact up (by omega) (by omega) (by omega) (by omega) (hbl.mode rfl rfl rfl rfl rfl)
 rw[if_neg c6];by_cases c7:t.name=[102,111,114,109]
 ·rw[if_pos c7];show BI _ _ _ _ _ (zbx s t.name t.attrs);unfold zbx;by_cases hf:s.form=0
  ·rw[if_pos hf];exact up (by omega) (by omega) (by omega) (by omega) (show BI (n+1) d a (c+1) e { qd7 s t.name t.attrs with form:=(s.tree.length:Int) } from⟨hbl.tb,hbl.fo,hbl.hd,hbl.rg,hbl.nd,hbl.ac,hbl.an,hbl.al,.inr (by have:=h.h1.1;simp only;omega),hbl.cv,hbl.h1⟩)
  ·rw[if_neg hf];exact up (by omega) (by omega) (by omega) (by omega) h
 rw[if_neg c7];by_cases c8:t.name=[108,105]
 ·rw[if_pos c8];exact up (by omega) (by omega) (by omega) (by omega) ((h.item _).block hn hL2)
 rw[if_neg c8];by_cases c9:t.name=[100,100]\/t.name=[100,116]
 ·rw[if_pos c9];exact up (by omega) (by omega) (by omega) (by omega) ((h.item _).block hn hL2)
 rw[if_neg c9];by_cases c10:t.name=[115,101,108,101,99,116]
 ·rw[if_pos c10];exact up (by omega) (by omega) (by omega) (by omega) ((h.inl hn hL2).mode rfl rfl rfl rfl rfl)
 rw[if_neg c10];by_cases c11:t.name=[109,97,116,104]
 ·rw[if_pos c11];exact up (by omega) (by omega) (by omega) (by omega) (h.als 2 hn hL2)
 rw[if_neg c11];by_cases c12:t.name=[115,118,103]
 ·rw[if_pos c12];exact up (by omega) (by omega) (by omega) (by omega) (h.als 1 hn hL2)
 rw[if_neg c12];by_cases c13:t.name=[114,98]\/t.name=[114,116,99]
 ·rw[if_pos c13];exact up (by omega) (by omega) (by omega) (by omega) ((h.ann _).elS 0 hn hL2)
 rw[if_neg c13];by_cases c14:t.name=[114,112]\/t.name=[114,116]
 ·rw[if_pos c14];exact up (by omega) (by omega) (by omega) (by omega) ((h.ann _).elS 0 hn hL2)
 rw[if_neg c14];by_cases c15:t.name=[112,97,114,97,109]\/t.name=[115,111,117,114,99,101]\/t.name=[116,114,97,99,107]
 ·rw[if_pos c15];exact up (by omega) (by omega) (by omega) (by omega) (h.alone hn hL2)
 rw[if_neg c15];exact up (by omega) (by omega) (by omega) (by omega) (h.more he hn hL2)
def qge(s:SS) (t:Tk):Bool × SS × Str:=
 if t.kind=3 then (false,chrS (qci s) t.data,t.name)
 else if t.kind=4 then (false,{ s with tree:=ntT s.tree (ntP s (-1)) t.data },t.name)
 else if t.kind=2 then ((qu2 s t).1,(qu2 s t).2,t.name)
 else if t.kind=1 then qfm s t
 else (false,s,t.name)
theorem BI.step{n d a c e:Nat} {s:SS} (h:BI n d a c e s) (he:e<=900) {t:Tk} (hn:t.name.length<=40) (hL:t.attrs.length<=14) (hd:t.data.length<=200) (ha:14<=a) (hdd:200<=d):BI (n+e+64+e+1) (d+200) (a+14) (c+1) (e+1) (qge s t).2.1:=by
 have up:∀{s:SS} {m k j b g:Nat},m<=n+e+64+e+1->k<=c+1->j<=e+1->b<=a+14->g<=d+200->BI m g b k j s->BI (n+e+64+e+1) (d+200) (a+14) (c+1) (e+1) s:=fun h1 h2 h3 h4 h5 h=>h.mono h1 h5 h4 h2 h3;unfold qge;split
 ·exact up (by omega) (by omega) (by omega) (by omega) (by omega) (h.recon.chars hd)
 split
 ·exact up (by omega) (by omega) (by omega) (by omega) (by omega) (h.note (by omega) _)
 split
 ·exact up (by omega) (by omega) (by omega) (by omega) (by omega) (qrh h he t)
 split
 ·exact up (by omega) (by omega) (by omega) (by omega) (by omega) (h.start he hn hL ha)
 ·exact up (by omega) (by omega) (by omega) (by omega) (by omega) h
set_option maxHeartbeats 8000000
theorem TB.al_all{n q d a:Nat} {t:Tr} (h:TB n q d a t) (i:Int):(qa1 t i).attrs.length<=a:=by
 by_cases hi:i.toNat < t.length
 ·have:=h.al i.toNat hi;have e:qa1 t i=qa1 t (i.toNat:Int):=rfl;rw[e];exact this
 ·unfold qa1;rw[List.getD_eq_getElem?_getD,List.getElem?_eq_none (by omega)];exact Nat.zero_le _
theorem c85g(hc0:qa9 163 T=some e163.g) (hc1:qa9 164 T=some e164.g) (hc2:qa9 165 T=some e165.g) (hc3:qa9 166 T=some e166.g) (hc4:qa9 167 T=some e167.g) (hc5:qa9 168 T=some e168.g) (hc6:qa9 169 T=some e169.g) (hc7:qa9 170 T=some e170t.g) (hc8:qa9 171 T=some e171.g) {s:SS} {t:Tk} (ne:s.tree≠[])  (h:BI 50000 1000000 800 700 700 s) (ha:t.attrs.length<=14) (hn:t.name.length<=40) (hk:t.kind=1):TC T 85 [] ⟨s,t⟩ (.bool (qfm s t).1) ⟨(qfm s t).2.1,{ t with name:=(qfm s t).2.2 }⟩:=by
 have kc0:=@k163 T hc0;have kc1:=@k164 T hc1;have kc2:=@k165 T hc2;have kc3:=@k166 T hc3;have kc4:=@k167 T hc4;have kc5:=@k168 T hc5;have kc6:=@k169 T hc6;have kc7:=@k170t T hc7;have kc8:=@k171 T hc8;have g0:=@vg0;have v0:=@vset;obtain⟨kd,nm,L,sf,dt⟩:=t;simp only at ha hn hk;have ol:=h.ol;have nmk:=h.tb.nm;have h2:=h.mono (show 50000<=50000 by omega) (Nat.le_refl _) (show 800<=850 by omega) (show 700<=800 by omega) (show 700<=800 by omega);have h3:=h.mono (show 50000<=60000 by omega) (Nat.le_refl _) (show 800<=850 by omega) (show 700<=800 by omega) (show 700<=800 by omega);have h4:=h.mono (show 50000<=60000 by omega) (Nat.le_refl _) (show 800<=850 by omega) (show 700<=900 by omega) (show 700<=900 by omega);have kL0:∀(n k:Nat) (fr:List (Nat × Blk)) (k0:0 < k) (kn:k < n) (of:qga k fr),qat (ctx T) (.fn 163) [.ptr 0 0,.int .i64 0,.str [],qaf L] ⟨n,[fr,VS k s]⟩=some (.tup [],⟨n+1,[fr,VS n (qhl s 0 [] L)]⟩):=fun n k fr k0 kn of=>
  @kc0 s ne 0 [] L trivial (by decide) nmk (by omega) h.r0 (by decide) (by have:=h.tb.al_all (s.opn.getD 0 0);omega) n k fr k0 kn of
 have kL1:∀(n k:Nat) (fr:List (Nat × Blk)) (k0:0 < k) (kn:k < n) (of:qga k fr),qat (ctx T) (.fn 163) [.ptr 0 0,.int .i64 1,.str [98,111,100,121],qaf L] ⟨n,[fr,VS k s]⟩=some (.tup [],⟨n+1,[fr,VS n (qhl s 1 [98,111,100,121] L)]⟩):=fun n k fr k0 kn of=>
  @kc0 s ne 1 [98,111,100,121] L trivial (by decide) nmk (by omega) h.r0 (by decide) (by have:=h.tb.al_all (s.opn.getD 1 0);omega) n k fr k0 kn of
 have kBl:=fun n k tb fr=>@kc1 s ⟨kd,nm,L,sf,dt⟩ ne (h.bok (by omega) (by omega)) (by simp only;omega) n k tb fr;have ebl:elS (qdg s) 0 (Tk.mk kd nm L sf dt).name (Tk.mk kd nm L sf dt).attrs=qd7 s nm L:=rfl;rw[ebl]at kBl;have hb:=h.block (nm:=nm) (L:=L) hn (by omega);have hbl:=hb.ol;have kSh:=fun n k fr=>@kc2 (qd7 s nm L) hb.ne hb.on (by omega) n k fr;have kI1:=fun n k tb fr=>@kc3 s ⟨kd,nm,L,sf,dt⟩ ne [108,105] h3 (by decide) (by simp only;omega) n k tb fr;have kI2:=fun n k tb fr=>@kc3 s ⟨kd,nm,L,sf,dt⟩ ne [100,100,32,100,116] h3 (by decide) (by simp only;omega) n k tb fr;have kCh:=fun n k tb fr=>@kc4 s ⟨kd,nm,L,sf,dt⟩ ne h4 (by simp only;omega) n k tb fr;have kA1:=fun n k tb fr=>@kc5 s ⟨kd,nm,L,sf,dt⟩ ne 1 h3 (by simp only;omega) hn (.inl rfl) n k tb fr;have kA2:=fun n k tb fr=>@kc5 s ⟨kd,nm,L,sf,dt⟩ ne 2 h3 (by simp only;omega) hn (.inr rfl) n k tb fr;have kN1:=fun n k tb fr=>@kc6 s ⟨kd,nm,L,sf,dt⟩ ne [] (h.bok (by omega) (by omega)) trivial (by decide) (by simp only;omega) n k tb fr;have kN2:=fun n k tb fr=>@kc6 s ⟨kd,nm,L,sf,dt⟩ ne [114,116,99] (h.bok (by omega) (by omega)) trivial (by decide) (by simp only;omega) n k tb fr;have kAo:=fun n k tb fr=>@kc7 s ⟨kd,nm,L,sf,dt⟩ ne h.fo (h.sok (by omega) (by omega)) (by simp only;omega) n k tb fr;have kMo:=fun n k tb fr=>@kc8 s ⟨kd,nm,L,sf,dt⟩ ne h2 (by simp only;omega) hn hk n k tb fr;have n0:=(h.lend 0 [] L ha).ne;have n1:=(h.lend 1 [98,111,100,121] L ha).ne;have n2:=hb.ne;have n3:=((h.item [108,105]).block (nm:=nm) (L:=L) hn (by omega)).ne;have n4:=((h.item [100,100,32,100,116]).block (nm:=nm) (L:=L) hn (by omega)).ne;have n5:(slS s nm L).tree≠[]:=qbi _ _ _ _;have n6:=(h.als (t:=⟨kd,nm,L,sf,dt⟩) 2 hn (by simp only;omega)).ne;have n7:=(h.als (t:=⟨kd,nm,L,sf,dt⟩) 1 hn (by simp only;omega)).ne;have n8:(elS (qox s []) 0 nm L).tree≠[]:=qbi _ _ _ _;have n9:(elS (qox s [114,116,99]) 0 nm L).tree≠[]:=qbi _ _ _ _;have n10:(qhb s nm L).tree≠[]:=qbi _ _ _ _;have n11:=(h2.more (t:=⟨kd,nm,L,sf,dt⟩) (by omega) hn (by simp only;omega)).ne;obtain⟨R,hR⟩ : ∃R,R=qfm s ⟨kd,nm,L,sf,dt⟩:=⟨_,rfl⟩;rw[<- hR];have eR:qfm s ⟨kd,nm,L,sf,dt⟩=if nm=[104,116,109,108] then (false,qhl s 0 [] L,nm) else if nm=[98,111,100,121] then (false,qhl s 1 [98,111,100,121] L,nm) else if nm=[105,109,97,103,101] then (true,s,[105,109,103]) else if nm=[104,114] then (false,hrS s nm L,nm) else if nm=[116,97,98,108,101] then (false,{ qd7 s nm L with mode:=7 },nm) else if nm=[112,114,101]\/nm=[108,105,115,116,105,110,103] then (false,{ qd7 s nm L with skip:=true },nm) else if nm=[112,108,97,105,110,116,101,120,116] then (false,{ qd7 s nm L with lex:=4 },nm) else if nm=[102,111,114,109] then (false,zbx s nm L,nm) else if nm=[108,105] then (false,qd7 (qfj s [108,105]) nm L,nm) else if nm=[100,100]\/nm=[100,116] then (false,qd7 (qfj s [100,100,32,100,116]) nm L,nm) else if nm=[115,101,108,101,99,116] then (false,slS s nm L,nm) else if nm=[109,97,116,104] then (false,alS s ⟨kd,nm,L,sf,dt⟩ 2,nm) else if nm=[115,118,103] then (false,alS s ⟨kd,nm,L,sf,dt⟩ 1,nm) else if nm=[114,98]\/nm=[114,116,99] then (false,elS (qox s []) 0 nm L,nm) else if nm=[114,112]\/nm=[114,116] then (false,elS (qox s [114,116,99]) 0 nm L,nm) else if nm=[112,97,114,97,109]\/nm=[115,111,117,114,99,101]\/nm=[116,114,97,99,107] then (false,qhb s nm L,nm) else (false,qqp s ⟨kd,nm,L,sf,dt⟩,nm):=rfl;rw[eR]at hR;clear eR ebl kc0 kc1 kc2 kc3 kc4 kc5 kc6 kc7 kc8 ol nmk h2 h3 h4 hb hbl h ha hn hk;simp only[Tk.cs,qer]at kBl kI1 kI2 kCh kA1 kA2 kN1 kN2 kAo kMo ⊢;unfold zbx hrS at hR;generalize qhl s 0 [] L=s0 at *;generalize qhl s 1 [98,111,100,121] L=s1 at *;generalize qd7 (qfj s [108,105]) nm L=s3 at *;generalize qd7 (qfj s [100,100,32,100,116]) nm L=s4 at *;generalize qd7 s nm L=s2 at *;generalize slS s nm L=s5 at *;generalize alS s ⟨kd,nm,L,sf,dt⟩ 2=s6 at *;generalize alS s ⟨kd,nm,L,sf,dt⟩ 1=s7 at *;generalize elS (qox s []) 0 nm L=s8 at *;generalize elS (qox s [114,116,99]) 0 nm L=s9 at *;generalize qhb s nm L=s10 at *;generalize qqp s ⟨kd,nm,L,sf,dt⟩=s11 at *;by_cases c0:nm=[104,116,109,108]
 case pos=>
  rw[if_pos c0]at hR;subst c0;subst hR;refine qa0 (s0:=⟨[0,1,4,8,48,83,104,110,116],[.ptr 0 0,.ptr 1 0,uD,uD,uD,uD,uD,uD,uD],[],123,⟨3,[]::[_]⟩⟩) Tryz.func85 rfl rfl rfl ?_;apply qcg;simp only[Tk.cs]
  (repeat' (first
   |with_reducible apply qaa
   |with_reducible apply qa4
   |(with_reducible apply rE;simp[zS, *,SS.post];exact rfl)
   |(with_reducible apply qad;simp only[qab,qa5])
   |apply qah rfl
   |(with_reducible apply qa7;simp[zQ,Tryz.f85])))
  all_goals first|(((try simp[zQ,Tryz.f85]);exact qbe rfl (by first|rfl|(simp[*];done)) (by simp[qa2,qa3]) (by omega) n0 (by simp[getF]) (by simp[getF]) (by first|(simp[getF,Tk.cs];done)|(simp[getF,Tk.cs, *];done))))|(exfalso;omega)
 rw[if_neg c0]at hR;by_cases c1:nm=[98,111,100,121]
 case pos=>
  rw[if_pos c1]at hR;subst c1;clear c0;subst hR;refine qa0 (s0:=⟨[0,1,4,8,48,83,104,110,116],[.ptr 0 0,.ptr 1 0,uD,uD,uD,uD,uD,uD,uD],[],123,⟨3,[]::[_]⟩⟩) Tryz.func85 rfl rfl rfl ?_;apply qcg;simp only[Tk.cs]
  (repeat' (first
   |with_reducible apply qaa
   |with_reducible apply qa4
   |(with_reducible apply rE;simp[zS, *,SS.post];exact rfl)
   |(with_reducible apply qad;simp only[qab,qa5])
   |apply qah rfl
   |apply qai rfl
   |(with_reducible apply qa7;simp[zQ,Tryz.f85])))
  all_goals first|(((try simp[zQ,Tryz.f85]);exact qbe rfl (by first|rfl|(simp[*];done)) (by simp[qa2,qa3]) (by omega) n1 (by simp[getF]) (by simp[getF]) (by first|(simp[getF,Tk.cs];done)|(simp[getF,Tk.cs, *];done))))|(exfalso;omega)
 rw[if_neg c1]at hR;by_cases c2:nm=[105,109,97,103,101]
 case pos=>
  rw[if_pos c2]at hR;subst c2;clear c0 c1;subst hR;refine qa0 (s0:=⟨[0,1,4,8,48,83,104,110,116],[.ptr 0 0,.ptr 1 0,uD,uD,uD,uD,uD,uD,uD],[],123,⟨3,[]::[_]⟩⟩) Tryz.func85 rfl rfl rfl ?_;apply qcg;simp only[Tk.cs]
  (repeat' (first
   |with_reducible apply qaa
   |with_reducible apply qa4
   |(with_reducible apply rE;simp[zS, *,SS.post];exact rfl)
   |(with_reducible apply qad;simp only[qab,qa5])
   |apply qah rfl
   |apply qai rfl
   |(with_reducible apply qa7;simp[zQ,Tryz.f85])))
  all_goals first|(((try simp[zQ,Tryz.f85]);exact qbe rfl (by first|rfl|(simp[*];done)) (by simp[qa2,qa3]) (by omega) ne (by simp[getF]) (by simp[getF]) (by first|(simp[getF,Tk.cs];done)|(simp[getF,Tk.cs, *];done))))|(exfalso;omega)
 rw[if_neg c2]at hR;by_cases c3:nm=[104,114]
 case pos=>
  rw[if_pos c3]at hR;subst c3;clear c0 c1 c2;subst hR;refine qa0 (s0:=⟨[0,1,4,8,48,83,104,110,116],[.ptr 0 0,.ptr 1 0,uD,uD,uD,uD,uD,uD,uD],[],123,⟨3,[]::[_]⟩⟩) Tryz.func85 rfl rfl rfl ?_;apply qcg;simp only[Tk.cs]
  (repeat' (first
   |with_reducible apply qaa
   |with_reducible apply qa4
   |(with_reducible apply rE;simp[zS, *,SS.post];exact rfl)
   |(with_reducible apply qad;simp only[qab,qa5])
   |apply qah rfl
   |apply qai rfl
   |(with_reducible apply qa7;simp[zQ,Tryz.f85])))
  all_goals first|(((try simp[zQ,Tryz.f85]);exact qbe rfl (by first|rfl|(simp[*];done)) (by simp[qa2,qa3]) (by omega) n2 (by simp[getF]) (by simp[getF]) (by first|(simp[getF,Tk.cs];done)|(simp[getF,Tk.cs, *];done))))|(exfalso;omega)
 rw[if_neg c3]at hR;by_cases c4:nm=[116,97,98,108,101]
 case pos=>
  rw[if_pos c4]at hR;subst c4;clear c0 c1 c2 c3;subst hR;refine qa0 (s0:=⟨[0,1,4,8,48,83,104,110,116],[.ptr 0 0,.ptr 1 0,uD,uD,uD,uD,uD,uD,uD],[],123,⟨3,[]::[_]⟩⟩) Tryz.func85 rfl rfl rfl ?_;apply qcg;simp only[Tk.cs]
  (repeat' (first
   |with_reducible apply qaa
   |with_reducible apply qa4
   |(with_reducible apply rE;simp[zS, *,SS.post];exact rfl)
   |(with_reducible apply qad;simp only[qab,qa5])
   |apply qah rfl
   |apply qai rfl
   |(with_reducible apply qa7;simp[zQ,Tryz.f85])))
  all_goals first|(((try simp[zQ,Tryz.f85]);exact qbe rfl (by first|rfl|(simp[*];done)) (by simp[qa2,qa3]) (by omega) n2 (by simp[getF]) (by simp[getF]) (by first|(simp[getF,Tk.cs];done)|(simp[getF,Tk.cs, *];done))))|(exfalso;omega)
 rw[if_neg c4]at hR;by_cases c5:nm=[112,114,101]\/nm=[108,105,115,116,105,110,103]
 case pos=>
  rw[if_pos c5]at hR;rcases c5 with c5|c5;all_goals
   subst c5;clear c0 c1 c2 c3 c4;subst hR;refine qa0 (s0:=⟨[0,1,4,8,48,83,104,110,116],[.ptr 0 0,.ptr 1 0,uD,uD,uD,uD,uD,uD,uD],[],123,⟨3,[]::[_]⟩⟩) Tryz.func85 rfl rfl rfl ?_;apply qcg;simp only[Tk.cs]
   (repeat' (first
    |with_reducible apply qaa
    |with_reducible apply qa4
    |(with_reducible apply rE;simp[zS, *,SS.post];exact rfl)
    |(with_reducible apply qad;simp only[qab,qa5])
    |apply qah rfl
    |apply qai rfl
    |(with_reducible apply qa6;simp only[qab,qa5])
    |(with_reducible apply qa7;simp[zQ,Tryz.f85])))
   all_goals first|(((try simp[zQ,Tryz.f85]);exact qbe rfl (by first|rfl|(simp[*];done)) (by simp[qa2,qa3]) (by omega) n2 (by simp[getF]) (by simp[getF]) (by first|(simp[getF,Tk.cs];done)|(simp[getF,Tk.cs, *];done))))|(exfalso;omega)
 rw[if_neg c5]at hR;by_cases c6:nm=[112,108,97,105,110,116,101,120,116]
 case pos=>
  rw[if_pos c6]at hR;subst c6;clear c0 c1 c2 c3 c4 c5;subst hR;refine qa0 (s0:=⟨[0,1,4,8,48,83,104,110,116],[.ptr 0 0,.ptr 1 0,uD,uD,uD,uD,uD,uD,uD],[],123,⟨3,[]::[_]⟩⟩) Tryz.func85 rfl rfl rfl ?_;apply qcg;simp only[Tk.cs]
  (repeat' (first
   |with_reducible apply qaa
   |with_reducible apply qa4
   |(with_reducible apply rE;simp[zS, *,SS.post];exact rfl)
   |(with_reducible apply qad;simp only[qab,qa5])
   |apply qah rfl
   |apply qai rfl
   |(with_reducible apply qa7;simp[zQ,Tryz.f85])))
  all_goals first|(((try simp[zQ,Tryz.f85]);exact qbe rfl (by first|rfl|(simp[*];done)) (by simp[qa2,qa3]) (by omega) n2 (by simp[getF]) (by simp[getF]) (by first|(simp[getF,Tk.cs];done)|(simp[getF,Tk.cs, *];done))))|(exfalso;omega)
 rw[if_neg c6]at hR;by_cases c7:nm=[102,111,114,109]
 case pos=>
  rw[if_pos c7]at hR;subst c7;clear c0 c1 c2 c3 c4 c5 c6;by_cases hf:s.form=0
  ·rw[if_pos hf]at hR;subst hR;refine qa0 (s0:=⟨[0,1,4,8,48,83,104,110,116],[.ptr 0 0,.ptr 1 0,uD,uD,uD,uD,uD,uD,uD],[],123,⟨3,[]::[_]⟩⟩) Tryz.func85 rfl rfl rfl ?_;apply qcg;simp only[Tk.cs]
   (repeat' (first
    |with_reducible apply qaa
    |with_reducible apply qa4
    |(with_reducible apply rE;simp[zS, *,SS.post];exact rfl)
    |(with_reducible apply qad;simp only[qab,qa5])
    |apply qah rfl
    |apply qai rfl
    |(with_reducible apply qa7;simp[zQ,Tryz.f85])))
   all_goals first|(((try simp[zQ,Tryz.f85]);exact qbe rfl (by first|rfl|(simp[*];done)) (by simp[qa2,qa3]) (by omega) n2 (by simp[getF]) (by simp[getF]) (by first|(simp[getF,Tk.cs];done)|(simp[getF,Tk.cs, *];done))))|(exfalso;omega)
  ·rw[if_neg hf]at hR;subst hR;refine qa0 (s0:=⟨[0,1,4,8,48,83,104,110,116],[.ptr 0 0,.ptr 1 0,uD,uD,uD,uD,uD,uD,uD],[],123,⟨3,[]::[_]⟩⟩) Tryz.func85 rfl rfl rfl ?_;apply qcg;simp only[Tk.cs]
   (repeat' (first
    |with_reducible apply qaa
    |with_reducible apply qa4
    |(with_reducible apply rE;simp[zS, *,SS.post];exact rfl)
    |(with_reducible apply qad;simp only[qab,qa5])
    |apply qah rfl
    |apply qai rfl
    |(with_reducible apply qa6;simp only[qab,qa5])
    |(with_reducible apply qa7;simp[zQ,Tryz.f85])))
   all_goals first|(((try simp[zQ,Tryz.f85]);exact qbe rfl (by first|rfl|(simp[*];done)) (by simp[qa2,qa3]) (by omega) ne (by simp[getF]) (by simp[getF]) (by first|(simp[getF,Tk.cs];done)|(simp[getF,Tk.cs, *];done))))|(exfalso;omega)
 rw[if_neg c7]at hR;by_cases c8:nm=[108,105]
 case pos=>
  rw[if_pos c8]at hR;subst c8;clear c0 c1 c2 c3 c4 c5 c6 c7;subst hR;refine qa0 (s0:=⟨[0,1,4,8,48,83,104,110,116],[.ptr 0 0,.ptr 1 0,uD,uD,uD,uD,uD,uD,uD],[],123,⟨3,[]::[_]⟩⟩) Tryz.func85 rfl rfl rfl ?_;apply qcg;simp only[Tk.cs]
  (repeat' (first
   |with_reducible apply qaa
   |with_reducible apply qa4
   |(with_reducible apply rE;simp[zS, *,SS.post];exact rfl)
   |(with_reducible apply qad;simp only[qab,qa5])
   |apply qah rfl
   |apply qai rfl
   |(with_reducible apply qa7;simp[zQ,Tryz.f85])))
  all_goals first|(((try simp[zQ,Tryz.f85]);exact qbe rfl (by first|rfl|(simp[*];done)) (by simp[qa2,qa3]) (by omega) n3 (by simp[getF]) (by simp[getF]) (by first|(simp[getF,Tk.cs];done)|(simp[getF,Tk.cs, *];done))))|(exfalso;omega)
 rw[if_neg c8]at hR;by_cases c9:nm=[100,100]\/nm=[100,116]
 case pos=>
  rw[if_pos c9]at hR;rcases c9 with c9|c9;all_goals
   subst c9;clear c0 c1 c2 c3 c4 c5 c6 c7 c8;subst hR;refine qa0 (s0:=⟨[0,1,4,8,48,83,104,110,116],[.ptr 0 0,.ptr 1 0,uD,uD,uD,uD,uD,uD,uD],[],123,⟨3,[]::[_]⟩⟩) Tryz.func85 rfl rfl rfl ?_;apply qcg;simp only[Tk.cs]
   (repeat' (first
    |with_reducible apply qaa
    |with_reducible apply qa4
    |(with_reducible apply rE;simp[zS, *,SS.post];exact rfl)
    |(with_reducible apply qad;simp only[qab,qa5])
    |apply qah rfl
    |apply qai rfl
    |(with_reducible apply qa6;simp only[qab,qa5])
    |(with_reducible apply qa7;simp[zQ,Tryz.f85])))
   all_goals first|(((try simp[zQ,Tryz.f85]);exact qbe rfl (by first|rfl|(simp[*];done)) (by simp[qa2,qa3]) (by omega) n4 (by simp[getF]) (by simp[getF]) (by first|(simp[getF,Tk.cs];done)|(simp[getF,Tk.cs, *];done))))|(exfalso;omega)
 rw[if_neg c9]at hR;by_cases c10:nm=[115,101,108,101,99,116]
 case pos=>
  rw[if_pos c10]at hR;subst c10;clear c0 c1 c2 c3 c4 c5 c6 c7 c8 c9;subst hR;refine qa0 (s0:=⟨[0,1,4,8,48,83,104,110,116],[.ptr 0 0,.ptr 1 0,uD,uD,uD,uD,uD,uD,uD],[],123,⟨3,[]::[_]⟩⟩) Tryz.func85 rfl rfl rfl ?_;apply qcg;simp only[Tk.cs]
  (repeat' (first
   |with_reducible apply qaa
   |with_reducible apply qa4
   |(with_reducible apply rE;simp[zS, *,SS.post];exact rfl)
   |(with_reducible apply qad;simp only[qab,qa5])
   |apply qah rfl
   |apply qai rfl
   |(with_reducible apply qa7;simp[zQ,Tryz.f85])))
  all_goals first|(((try simp[zQ,Tryz.f85]);exact qbe rfl (by first|rfl|(simp[*];done)) (by simp[qa2,qa3]) (by omega) n5 (by simp[getF]) (by simp[getF]) (by first|(simp[getF,Tk.cs];done)|(simp[getF,Tk.cs, *];done))))|(exfalso;omega)
 rw[if_neg c10]at hR;by_cases c11:nm=[109,97,116,104]
 case pos=>
  rw[if_pos c11]at hR;subst c11;clear c0 c1 c2 c3 c4 c5 c6 c7 c8 c9 c10;subst hR;refine qa0 (s0:=⟨[0,1,4,8,48,83,104,110,116],[.ptr 0 0,.ptr 1 0,uD,uD,uD,uD,uD,uD,uD],[],123,⟨3,[]::[_]⟩⟩) Tryz.func85 rfl rfl rfl ?_;apply qcg;simp only[Tk.cs]
  (repeat' (first
   |with_reducible apply qaa
   |with_reducible apply qa4
   |(with_reducible apply rE;simp[zS, *,SS.post];exact rfl)
   |(with_reducible apply qad;simp only[qab,qa5])
   |apply qah rfl
   |apply qai rfl
   |(with_reducible apply qa7;simp[zQ,Tryz.f85])))
  all_goals first|(((try simp[zQ,Tryz.f85]);exact qbe rfl (by first|rfl|(simp[*];done)) (by simp[qa2,qa3]) (by omega) n6 (by simp[getF]) (by simp[getF]) (by first|(simp[getF,Tk.cs];done)|(simp[getF,Tk.cs, *];done))))|(exfalso;omega)
 rw[if_neg c11]at hR;by_cases c12:nm=[115,118,103]
 case pos=>
  rw[if_pos c12]at hR;subst c12;clear c0 c1 c2 c3 c4 c5 c6 c7 c8 c9 c10 c11;subst hR;refine qa0 (s0:=⟨[0,1,4,8,48,83,104,110,116],[.ptr 0 0,.ptr 1 0,uD,uD,uD,uD,uD,uD,uD],[],123,⟨3,[]::[_]⟩⟩) Tryz.func85 rfl rfl rfl ?_;apply qcg;simp only[Tk.cs]
  (repeat' (first
   |with_reducible apply qaa
   |with_reducible apply qa4
   |(with_reducible apply rE;simp[zS, *,SS.post];exact rfl)
   |(with_reducible apply qad;simp only[qab,qa5])
   |apply qah rfl
   |apply qai rfl
   |(with_reducible apply qa7;simp[zQ,Tryz.f85])))
  all_goals first|(((try simp[zQ,Tryz.f85]);exact qbe rfl (by first|rfl|(simp[*];done)) (by simp[qa2,qa3]) (by omega) n7 (by simp[getF]) (by simp[getF]) (by first|(simp[getF,Tk.cs];done)|(simp[getF,Tk.cs, *];done))))|(exfalso;omega)
 rw[if_neg c12]at hR;by_cases c13:nm=[114,98]\/nm=[114,116,99]
 case pos=>
  rw[if_pos c13]at hR;rcases c13 with c13|c13;all_goals
   subst c13;clear c0 c1 c2 c3 c4 c5 c6 c7 c8 c9 c10 c11 c12;subst hR;refine qa0 (s0:=⟨[0,1,4,8,48,83,104,110,116],[.ptr 0 0,.ptr 1 0,uD,uD,uD,uD,uD,uD,uD],[],123,⟨3,[]::[_]⟩⟩) Tryz.func85 rfl rfl rfl ?_;apply qcg;simp only[Tk.cs]
   (repeat' (first
    |with_reducible apply qaa
    |with_reducible apply qa4
    |(with_reducible apply rE;simp[zS, *,SS.post];exact rfl)
    |(with_reducible apply qad;simp only[qab,qa5])
    |apply qah rfl
    |apply qai rfl
    |(with_reducible apply qa6;simp only[qab,qa5])
    |(with_reducible apply qa7;simp[zQ,Tryz.f85])))
   all_goals first|(((try simp[zQ,Tryz.f85]);exact qbe rfl (by first|rfl|(simp[*];done)) (by simp[qa2,qa3]) (by omega) n8 (by simp[getF]) (by simp[getF]) (by first|(simp[getF,Tk.cs];done)|(simp[getF,Tk.cs, *];done))))|(exfalso;omega)
 rw[if_neg c13]at hR;by_cases c14:nm=[114,112]\/nm=[114,116]
 case pos=>
  rw[if_pos c14]at hR;rcases c14 with c14|c14;all_goals
   subst c14;clear c0 c1 c2 c3 c4 c5 c6 c7 c8 c9 c10 c11 c12 c13;subst hR;refine qa0 (s0:=⟨[0,1,4,8,48,83,104,110,116],[.ptr 0 0,.ptr 1 0,uD,uD,uD,uD,uD,uD,uD],[],123,⟨3,[]::[_]⟩⟩) Tryz.func85 rfl rfl rfl ?_;apply qcg;simp only[Tk.cs]
   (repeat' (first
    |with_reducible apply qaa
    |with_reducible apply qa4
    |(with_reducible apply rE;simp[zS, *,SS.post];exact rfl)
    |(with_reducible apply qad;simp only[qab,qa5])
    |apply qah rfl
    |apply qai rfl
    |(with_reducible apply qa6;simp only[qab,qa5])
    |(with_reducible apply qa7;simp[zQ,Tryz.f85])))
   all_goals first|(((try simp[zQ,Tryz.f85]);exact qbe rfl (by first|rfl|(simp[*];done)) (by simp[qa2,qa3]) (by omega) n9 (by simp[getF]) (by simp[getF]) (by first|(simp[getF,Tk.cs];done)|(simp[getF,Tk.cs, *];done))))|(exfalso;omega)
 rw[if_neg c14]at hR;by_cases c15:nm=[112,97,114,97,109]\/nm=[115,111,117,114,99,101]\/nm=[116,114,97,99,107]
 case pos=>
  rw[if_pos c15]at hR;rcases c15 with c15|c15|c15;all_goals
   subst c15;clear c0 c1 c2 c3 c4 c5 c6 c7 c8 c9 c10 c11 c12 c13 c14;subst hR;refine qa0 (s0:=⟨[0,1,4,8,48,83,104,110,116],[.ptr 0 0,.ptr 1 0,uD,uD,uD,uD,uD,uD,uD],[],123,⟨3,[]::[_]⟩⟩) Tryz.func85 rfl rfl rfl ?_;apply qcg;simp only[Tk.cs]
   (repeat' (first
    |with_reducible apply qaa
    |with_reducible apply qa4
    |(with_reducible apply rE;simp[zS, *,SS.post];exact rfl)
    |(with_reducible apply qad;simp only[qab,qa5])
    |apply qah rfl
    |apply qai rfl
    |(with_reducible apply qa6;simp only[qab,qa5])
    |(with_reducible apply qa7;simp[zQ,Tryz.f85])))
   all_goals first|(((try simp[zQ,Tryz.f85]);exact qbe rfl (by first|rfl|(simp[*];done)) (by simp[qa2,qa3]) (by omega) n10 (by simp[getF]) (by simp[getF]) (by first|(simp[getF,Tk.cs];done)|(simp[getF,Tk.cs, *];done))))|(exfalso;omega)
 rw[if_neg c15]at hR;subst hR;simp only[not_or]at c5;obtain⟨d50,d51⟩:=c5;simp only[not_or]at c9;obtain⟨d90,d91⟩:=c9;simp only[not_or]at c13;obtain⟨d130,d131⟩:=c13;simp only[not_or]at c14;obtain⟨d140,d141⟩:=c14;simp only[not_or]at c15;obtain⟨d150,d151,d152⟩:=c15;refine qa0 (s0:=⟨[0,1,4,8,48,83,104,110,116],[.ptr 0 0,.ptr 1 0,uD,uD,uD,uD,uD,uD,uD],[],123,⟨3,[]::[_]⟩⟩) Tryz.func85 rfl rfl rfl ?_;apply qcg;simp only[Tk.cs]
 (repeat' (first
  |with_reducible apply qaa
  |with_reducible apply qa4
  |(with_reducible apply rE;simp[zS, *,SS.post];exact rfl)
  |(with_reducible apply qad;simp only[qab,qa5])
  |apply qai rfl
  |(with_reducible apply qa7;simp[zQ,Tryz.f85])))
 all_goals first|(((try simp[zQ,Tryz.f85]);exact qbe rfl (by first|rfl|(simp[*];done)) (by simp[qa2,qa3]) (by omega) n11 (by simp[getF]) (by simp[getF]) (by first|(simp[getF,Tk.cs];done)|(simp[getF,Tk.cs, *];done))))|(exfalso;omega)
 all_goals
  (try simp only[Tk.cs]at *)
  refine qa0 (s0:=⟨[0,1,4,8,48,83,104,110,116],[.ptr 0 0,.ptr 1 0,uD,uD,uD,uD,uD,uD,uD],[],123,⟨3,[]::[_]⟩⟩) Tryz.func85 rfl rfl rfl ?_;apply qcg;try simp only[Tk.cs]
  skip
def e85g:Entry PG:=mkT 85 [] (fun z:Unit=>[]) (fun z x=>(BI 50000 1000000 800 700 700 x.s)/\(x.t.attrs.length<=14)/\(x.t.name.length<=40)/\(x.t.kind=1)) (fun z x=>.bool (qfm x.s x.t).1) (fun z x=>⟨(qfm x.s x.t).2.1,{ x.t with name:=(qfm x.s x.t).2.2 }⟩) fun z x ne h=>⟨c85g (T:=[e163,e164,e165,e166,e167,e168,e169,e170t,e171]) rfl rfl rfl rfl rfl rfl rfl rfl rfl ne  h.1 h.2.1 h.2.2.1 h.2.2.2,by simp[qa3,qa2],by simp[qa2,qa3],(BI.start h.1 (by omega) h.2.2.1 h.2.1 (by omega)).ne⟩
theorem k85g(hT:qa9 85 T=some e85g.g) {s:SS} {t:Tk} (ne:s.tree≠[])  (h:BI 50000 1000000 800 700 700 s) (ha:t.attrs.length<=14) (hn:t.name.length<=40) (hk:t.kind=1) {n k tb:Nat} {fr:List (Nat × Blk)} (d:dT n k tb) (of:qg9 k tb fr):qat (ctx T) (.fn 85) [.ptr 0 0,.ptr tb 0] ⟨n,[(tb,.cells t.cs)::fr,VS k s]⟩=some (.bool (qfm s t).1,⟨n+1,[(tb,.cells (Tk.cs ({ t with name:=(qfm s t).2.2 })))::fr,VS n ((qfm s t).2.1)]⟩):=
 qg3 (x:=⟨s,t⟩) (f1:=[]) hT inj_165 () ne ⟨h,ha,hn,hk⟩ (by simp[qa3,qa2]) (by simp[qbb,qaj]) d (by simp) of
theorem c22g(hc0:qa9 39 T=some e39.g) (hc1:qa9 54 T=some e54.g) (hc2:qa9 84 T=some e84.g) (hc3:qa9 16 T=some e16.g) (hc4:qa9 85 T=some e85g.g) {s:SS} {t:Tk} (ne:s.tree≠[])  (h:BI 50000 1000000 800 700 700 s) (ha:t.attrs.length<=14) (hn:t.name.length<=40) (hd:t.data.length<=200):TC T 22 [] ⟨s,t⟩ (.bool (qge s t).1) ⟨(qge s t).2.1,{ t with name:=(qge s t).2.2 }⟩:=by
 have kc0:=@k39 T hc0;have kc1:=@k54 T hc1;have kc2:=@k84 T hc2;have kc3:=@k16 T hc3;have kc4:=@k85g T hc4;have g0:=@vg0;have v0:=@vset;obtain⟨kd,nm,L,sf,dt⟩:=t;simp only at ha hn hd;have hr:=h.recon;have h3:=h.mono (show 50000<=60000 by omega) (Nat.le_refl _) (show 800<=850 by omega) (show 700<=800 by omega) (show 700<=800 by omega);have kR:=fun n k fr=>@kc0 s ne (h.rok (by omega) (by omega) (by omega)) n k fr;have kC:=fun n k fr=>@kc1 (qci s) hr.ne dt hr.fo (hr.sok (by omega) (by omega)) (hr.kok (by omega)) (by omega) n k fr;have kN:=fun n k fr=>@kc2 s ne dt (-1) h.fo (h.sok (by omega) (by omega)) n k fr;have kE:=fun n k tb fr=>@kc3 s ⟨kd,nm,L,sf,dt⟩ ne h3 hn n k tb fr;have kS:=fun(hk:kd=1) n k tb fr=>@kc4 s ⟨kd,nm,L,sf,dt⟩ ne h (by simp only;omega) hn hk n k tb fr;have n0:=hr.ne;have n1:(chrS (qci s) dt).tree≠[]:=(hr.chars hd).ne;have n2:({ s with tree:=ntT s.tree (ntP s (-1)) dt }:SS).tree≠[]:=qbi _ _ _ _;have n3:=(qrh h (by omega) ⟨kd,nm,L,sf,dt⟩).ne;have n4:=(h.start (t:=⟨kd,nm,L,sf,dt⟩) (by omega) hn ha (by omega)).ne;obtain⟨R,hR⟩ : ∃R,R=qge s ⟨kd,nm,L,sf,dt⟩:=⟨_,rfl⟩;rw[<- hR];have eR:qge s ⟨kd,nm,L,sf,dt⟩=if kd=3 then (false,chrS (qci s) dt,nm) else if kd=4 then (false,{ s with tree:=ntT s.tree (ntP s (-1)) dt },nm) else if kd=2 then ((qu2 s ⟨kd,nm,L,sf,dt⟩).1,(qu2 s ⟨kd,nm,L,sf,dt⟩).2,nm) else if kd=1 then qfm s ⟨kd,nm,L,sf,dt⟩ else (false,s,nm):=rfl;rw[eR]at hR;have ec:({ qci s with tree:=chT (qci s).tree (qgd (qci s).opn) dt }:SS)=chrS (qci s) dt:=rfl;simp only[ec]at kC;clear eR ec kc0 kc1 kc2 kc3 kc4 h h3 hr ha hn hd;simp only[Tk.cs,qer]at kE kS ⊢;generalize chrS (qci s) dt=s1 at *;generalize qci s=s0 at *;generalize ntT s.tree (ntP s (-1)) dt=t2 at *;generalize (qu2 s ⟨kd,nm,L,sf,dt⟩).2=s3 at *;generalize (qu2 s ⟨kd,nm,L,sf,dt⟩).1=b3 at *;generalize qfm s ⟨kd,nm,L,sf,dt⟩=S4 at *;obtain⟨b4,s4,m4⟩:=S4;simp only at kS n4;by_cases c1:kd=3
 case pos=>
  rw[if_pos c1]at hR;subst hR;subst c1;clear kE kS;refine qa0 (s0:=⟨[0,1,4,8],[.ptr 0 0,.ptr 1 0,uD,uD],[],37,⟨3,[]::[_]⟩⟩) Tryz.func22 rfl rfl rfl ?_;apply qcg;simp only[Tk.cs]
  (repeat' (first
   |with_reducible apply qaa
   |with_reducible apply qa4
   |(with_reducible apply rE;simp[zS, *,SS.post];exact rfl)
   |(with_reducible apply qad;simp only[qab,qa5])
   |apply qah rfl
   |(with_reducible apply qa7;simp[zQ,Tryz.f22])))
  all_goals first|(((try simp[zQ,Tryz.f22]);exact qbe rfl (by first|rfl|(simp[*];done)) (by simp[qa2,qa3]) (by omega) n1 (by simp[getF]) (by simp[getF]) (by first|(simp[getF,Tk.cs];done)|(simp[getF,Tk.cs, *];done))))|(exfalso;omega)
 rw[if_neg c1]at hR;by_cases c2:kd=4
 case pos=>
  rw[if_pos c2]at hR;subst hR;subst c2;clear kE kS c1;refine qa0 (s0:=⟨[0,1,4,8],[.ptr 0 0,.ptr 1 0,uD,uD],[],37,⟨3,[]::[_]⟩⟩) Tryz.func22 rfl rfl rfl ?_;apply qcg;simp only[Tk.cs]
  (repeat' (first
   |with_reducible apply qaa
   |with_reducible apply qa4
   |(with_reducible apply rE;simp[zS, *,SS.post];exact rfl)
   |(with_reducible apply qad;simp only[qab,qa5])
   |apply qah rfl
   |apply qai rfl
   |(with_reducible apply qa7;simp[zQ,Tryz.f22])))
  all_goals first|(((try simp[zQ,Tryz.f22]);exact qbe rfl (by first|rfl|(simp[*];done)) (by simp[qa2,qa3]) (by omega) n2 (by simp[getF]) (by simp[getF]) (by first|(simp[getF,Tk.cs];done)|(simp[getF,Tk.cs, *];done))))|(exfalso;omega)
 rw[if_neg c2]at hR;by_cases c3:kd=2
 case pos=>
  rw[if_pos c3]at hR;subst hR;subst c3;clear kS c1 c2;refine qa0 (s0:=⟨[0,1,4,8],[.ptr 0 0,.ptr 1 0,uD,uD],[],37,⟨3,[]::[_]⟩⟩) Tryz.func22 rfl rfl rfl ?_;apply qcg;simp only[Tk.cs]
  (repeat' (first
   |with_reducible apply qaa
   |with_reducible apply qa4
   |(with_reducible apply rE;simp[zS, *,SS.post];exact rfl)
   |(with_reducible apply qad;simp only[qab,qa5])
   |apply qah rfl
   |apply qai rfl
   |(with_reducible apply qa7;simp[zQ,Tryz.f22])))
  all_goals first|(((try simp[zQ,Tryz.f22]);exact qbe rfl (by first|rfl|(simp[*];done)) (by simp[qa2,qa3]) (by omega) n3 (by simp[getF]) (by simp[getF]) (by first|(simp[getF,Tk.cs];done)|(simp[getF,Tk.cs, *];done))))|(exfalso;omega)
 rw[if_neg c3]at hR;by_cases c4:kd=1
 case pos=>
  rw[if_pos c4]at hR;have kS:=kS c4;subst hR;subst c4;clear kE c1 c2 c3;refine qa0 (s0:=⟨[0,1,4,8],[.ptr 0 0,.ptr 1 0,uD,uD],[],37,⟨3,[]::[_]⟩⟩) Tryz.func22 rfl rfl rfl ?_;apply qcg;simp only[Tk.cs]
  (repeat' (first
   |with_reducible apply qaa
   |with_reducible apply qa4
   |(with_reducible apply rE;simp[zS, *,SS.post];exact rfl)
   |(with_reducible apply qad;simp only[qab,qa5])
   |apply qah rfl
   |apply qai rfl
   |(with_reducible apply qa7;simp[zQ,Tryz.f22])))
  all_goals first|(((try simp[zQ,Tryz.f22]);exact qbe rfl (by first|rfl|(simp[*];done)) (by simp[qa2,qa3]) (by omega) n4 (by simp[getF]) (by simp[getF]) (by first|(simp[getF,Tk.cs];done)|(simp[getF,Tk.cs, *];done))))|(exfalso;omega)
 rw[if_neg c4]at hR;subst hR;clear kE kS;refine qa0 (s0:=⟨[0,1,4,8],[.ptr 0 0,.ptr 1 0,uD,uD],[],37,⟨3,[]::[_]⟩⟩) Tryz.func22 rfl rfl rfl ?_;apply qcg;simp only[Tk.cs]
 (repeat' (first
  |with_reducible apply qaa
  |with_reducible apply qa4
  |(with_reducible apply rE;simp[zS, *,SS.post];exact rfl)
  |(with_reducible apply qad;simp only[qab,qa5])
  |apply qai rfl
  |(with_reducible apply qa6;simp only[qab,qa5])
  |(with_reducible apply qa7;simp[zQ,Tryz.f22])))
 all_goals first|(((try simp[zQ,Tryz.f22]);exact qbe rfl (by first|rfl|(simp[*];done)) (by simp[qa2,qa3]) (by omega) ne (by simp[getF]) (by simp[getF]) (by first|(simp[getF,Tk.cs];done)|(simp[getF,Tk.cs, *];done))))|(exfalso;omega)
 all_goals
  (try simp only[Tk.cs]at *)
  refine qa0 (s0:=⟨[0,1,4,8],[.ptr 0 0,.ptr 1 0,uD,uD],[],37,⟨3,[]::[_]⟩⟩) Tryz.func22 rfl rfl rfl ?_;apply qcg;try simp only[Tk.cs]
  skip
def e22g:Entry PG:=mkT 22 [] (fun z:Unit=>[]) (fun z x=>(BI 50000 1000000 800 700 700 x.s)/\(x.t.attrs.length<=14)/\(x.t.name.length<=40)/\(x.t.data.length<=200)) (fun z x=>.bool (qge x.s x.t).1) (fun z x=>⟨(qge x.s x.t).2.1,{ x.t with name:=(qge x.s x.t).2.2 }⟩) fun z x ne h=>⟨c22g (T:=[e39,e54,e84,e16,e85g]) rfl rfl rfl rfl rfl ne  h.1 h.2.1 h.2.2.1 h.2.2.2,by simp[qa3,qa2],by simp[qa2,qa3],(BI.step h.1 (by omega) h.2.2.1 h.2.1 h.2.2.2 (by omega) (by omega)).ne⟩
theorem k22g(hT:qa9 22 T=some e22g.g) {s:SS} {t:Tk} (ne:s.tree≠[])  (h:BI 50000 1000000 800 700 700 s) (ha:t.attrs.length<=14) (hn:t.name.length<=40) (hd:t.data.length<=200) {n k tb:Nat} {fr:List (Nat × Blk)} (d:dT n k tb) (of:qg9 k tb fr):qat (ctx T) (.fn 22) [.ptr 0 0,.ptr tb 0] ⟨n,[(tb,.cells t.cs)::fr,VS k s]⟩=some (.bool (qge s t).1,⟨n+1,[(tb,.cells (Tk.cs ({ t with name:=(qge s t).2.2 })))::fr,VS n ((qge s t).2.1)]⟩):=
 qg3 (x:=⟨s,t⟩) (f1:=[]) hT inj_165 () ne ⟨h,ha,hn,hd⟩ (by simp[qa3,qa2]) (by simp[qbb,qaj]) d (by simp) of
def ascW:Str->Bool
 |[]=>true
 |c::r=>match Nat.blt c.toNat 128 with
  |true=>ascW r
  |false=>false
theorem ascW_ok{W:Str} (_:ascW W=true):qbx W:=trivial
def r133:Entry PG:=⟨133,fun args H=>match args with
 |[.str W,.str x]=>match ascW W && Nat.ble W.length 100000 && Nat.ble x.length 1000 with
  |true=>some (.bool (inB W x),H)
  |false=>none
 |_=>none,fun args H v H' h=>by
  split at h
  ·rename_i W x;split at h
   next hl=>rw[Bool.and_eq_true,Bool.and_eq_true]at hl;simp only[sj,Prod.mk.injEq]at h;obtain⟨rfl,rfl⟩:=h;rw[inB_eq];exact(c133a (T:=[]) W x (ascW_ok hl.1.1) (Nat.le_of_ble_eq_true hl.1.2) (by have:=Nat.le_of_ble_eq_true hl.2;omega)).lift (by simp[qa3,qa2]) H
   ·cases h
  ·cases h⟩
def TW:List (Entry PG):=[r133]
