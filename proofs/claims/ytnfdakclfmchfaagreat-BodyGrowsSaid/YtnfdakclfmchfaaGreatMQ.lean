/- Rows of bytes. No condition. -/
import Derived.Test.YtnfdakclfmchfaaGreatMP
namespace Go.Proofs.YtnfdakclfmchfaaGreat
noncomputable section
set_option linter.unusedSimpArgs false
set_option linter.unusedVariables false
open Go Go.RowKit
set_option maxRecDepth 100000
variable {T:List (Entry Tryz.prog)}
theorem c172t(hc0:qa9 53 T=some e53.g) (hc1:qa9 27 T=some e27.g) {s:SS} {t:Tk} (ne:s.tree≠[])  (hf:s.foster=false) (ok:SOk s) (ha:t.attrs.length<=1000000):TC T 172 [] ⟨s,t⟩ (.tup []) ⟨qgh s t.name t.attrs,t⟩:=by
 have kc0:=@k53 T hc0;have kc1:=@k27 T hc1;have g0:=@vg0;have v0:=@vset;obtain⟨kd,nm,L,sf,dt⟩:=t;have kE:=fun n k fr=>@kc0 s ne ⟨kd,nm,L,sf,dt⟩ 0 hf ok ha n k fr;simp only[qer,Tk.cs]at kE;have e:qgh s nm L=⟨(elS s 0 nm L).tree,(elS s 0 nm L).opn,s.act,6,s.mode,qo3 nm,s.form,s.head,s.foster,s.skip,s.inside⟩:=rfl;have n1:(elS s 0 nm L).tree≠[]:=qbi _ _ _ _;have e1:elS s 0 nm L=⟨(elS s 0 nm L).tree,(elS s 0 nm L).opn,s.act,s.mode,s.back,s.lex,s.form,s.head,s.foster,s.skip,s.inside⟩:=rfl;rw[e1]at kE;simp only;rw[e];generalize (elS s 0 nm L).tree=t1 at *;generalize (elS s 0 nm L).opn=o1 at *;clear e e1 kc0;all_goals
  (try simp only[Tk.cs]at *)
  refine qa0 (s0:=⟨[0,1],[.ptr 0 0,.ptr 1 0],[],27,⟨3,[]::[_]⟩⟩) Tryz.func172 rfl rfl rfl ?_;apply qcg;try simp only[Tk.cs]
  (repeat' (first
   |with_reducible apply qaa
   |(with_reducible apply rE;simp[zS, *,SS.post];exact rfl)
   |(with_reducible apply qad;simp only[qab,qa5])
   |(refine qay mixed qb6 (by decide +kernel) (by decide +kernel) rfl ?_;apply qh0;simp[zS,zW,qb9,qbt,qaz,Heap.lay,qb8, *,SS.post];exact rfl)
   |(with_reducible apply qbc;refine⟨by repeat first|exact qdi|refine qdj (by decide +kernel) ?_,?_⟩;simp only[qab,qa5,allPend,Heap.lay,qb8])))
  all_goals first|(((try simp[zQ,Tryz.f172]);refine qbe (by simp[*]) (by first|rfl|(simp[*];done)) (by simp[qa2,qa3]) (by omega) (by(try exact n1);(all_goals exact qbi _ _ _ _)) (by simp[getF]) (by simp[getF]) (by first|(simp[getF,Tk.cs];done)|(simp[getF,Tk.cs, *];done))))|(exfalso;omega)
def e172t:Entry PG:=mkT 172 [] (fun z:Unit=>[]) (fun z x=>(x.s.foster=false)/\(SOk x.s)/\(x.t.attrs.length<=1000000)) (fun z x=>.tup []) (fun z x=>⟨qgh x.s x.t.name x.t.attrs,x.t⟩) fun z x ne h=>⟨c172t (T:=[e53,e27]) rfl rfl ne  h.1 h.2.1 h.2.2,by simp[qa3,qa2],by simp[qa2,qa3],by(try exact n1);(all_goals exact qbi _ _ _ _)⟩
theorem k172t(hT:qa9 172 T=some e172t.g) {s:SS} {t:Tk} (ne:s.tree≠[])  (hf:s.foster=false) (ok:SOk s) (ha:t.attrs.length<=1000000) {n k tb:Nat} {fr:List (Nat × Blk)} (d:dT n k tb) (of:qg9 k tb fr):qat (ctx T) (.fn 172) [.ptr 0 0,.ptr tb 0] ⟨n,[(tb,.cells t.cs)::fr,VS k s]⟩=some (.tup [],⟨n+1,[(tb,.cells (Tk.cs (t)))::fr,VS n (qgh s t.name t.attrs)]⟩):=
 qg3 (x:=⟨s,t⟩) (f1:=[]) hT inj_165 () ne ⟨hf,ok,ha⟩ (by simp[qa3,qa2]) (by simp[qbb,qaj]) d (by simp) of
theorem c170t(hc0:qa9 53 T=some e53.g) (hc1:qa9 165 T=some e165.g) {s:SS} {t:Tk} (ne:s.tree≠[])  (hf:s.foster=false) (ok:SOk s) (ha:t.attrs.length<=1000000):TC T 170 [] ⟨s,t⟩ (.tup []) ⟨qhb s t.name t.attrs,t⟩:=by
 have kc0:=@k53 T hc0;have kc1:=@k165 T hc1;have g0:=@vg0;have v0:=@vset;obtain⟨kd,nm,L,sf,dt⟩:=t;have kE:=fun n k fr=>@kc0 s ne ⟨kd,nm,L,sf,dt⟩ 0 hf ok ha n k fr;simp only[qer,Tk.cs]at kE;have n1:(qhb s nm L).tree≠[]:=qbi _ _ _ _;have kS:=fun n k fr=>@kc1 (elS s 0 nm L) (qbi _ _ _ _) (by simp[elS]) (by have:=ok.op;simp[elS];omega) n k fr;rw[qtx]at kS;clear kc0 kc1 ok;simp only;generalize elS s 0 nm L=s1 at *;generalize qhb s nm L=s2 at *;all_goals
  (try simp only[Tk.cs]at *)
  refine qa0 (s0:=⟨[0,1],[.ptr 0 0,.ptr 1 0],[],11,⟨3,[]::[_]⟩⟩) Tryz.func170 rfl rfl rfl ?_;apply qcg;try simp only[Tk.cs]
  (repeat' (first
   |with_reducible apply qaa
   |(with_reducible apply rE;simp[zS, *,SS.post];exact rfl)
   |(with_reducible apply qad;simp only[qab,qa5])))
  all_goals first|(((try simp[zQ,Tryz.f170]);refine qbe (by simp[*]) (by first|rfl|(simp[*];done)) (by simp[qa2,qa3]) (by omega) (by(try exact n1);(all_goals exact qbi _ _ _ _)) (by simp[getF]) (by simp[getF]) (by first|(simp[getF,Tk.cs];done)|(simp[getF,Tk.cs, *];done))))|(exfalso;omega)
def e170t:Entry PG:=mkT 170 [] (fun z:Unit=>[]) (fun z x=>(x.s.foster=false)/\(SOk x.s)/\(x.t.attrs.length<=1000000)) (fun z x=>.tup []) (fun z x=>⟨qhb x.s x.t.name x.t.attrs,x.t⟩) fun z x ne h=>⟨c170t (T:=[e53,e165]) rfl rfl ne  h.1 h.2.1 h.2.2,by simp[qa3,qa2],by simp[qa2,qa3],by(try exact n1);(all_goals exact qbi _ _ _ _)⟩
theorem k170t(hT:qa9 170 T=some e170t.g) {s:SS} {t:Tk} (ne:s.tree≠[])  (hf:s.foster=false) (ok:SOk s) (ha:t.attrs.length<=1000000) {n k tb:Nat} {fr:List (Nat × Blk)} (d:dT n k tb) (of:qg9 k tb fr):qat (ctx T) (.fn 170) [.ptr 0 0,.ptr tb 0] ⟨n,[(tb,.cells t.cs)::fr,VS k s]⟩=some (.tup [],⟨n+1,[(tb,.cells (Tk.cs (t)))::fr,VS n (qhb s t.name t.attrs)]⟩):=
 qg3 (x:=⟨s,t⟩) (f1:=[]) hT inj_165 () ne ⟨hf,ok,ha⟩ (by simp[qa3,qa2]) (by simp[qbb,qaj]) d (by simp) of
theorem c86t(hc0:qa9 170 T=some e170t.g) (hc1:qa9 172 T=some e172t.g) {s:SS} {t:Tk} (ne:s.tree≠[])  (hf:s.foster=false) (ok:SOk s) (ha:t.attrs.length<=1000000):TC T 86 [] ⟨s,t⟩ (.bool (qqs t)) ⟨qlq s t,t⟩:=by
 have kc0:=@k170t T hc0;have kc1:=@k172t T hc1;have g0:=@vg0;have v0:=@vset;obtain⟨kd,nm,L,sf,dt⟩:=t;have n1:=qwk ne ⟨kd,nm,L,sf,dt⟩;have kA:=fun n k tb fr=>@kc0 s ⟨kd,nm,L,sf,dt⟩ ne hf ok ha n k tb fr;have kT:=fun n k tb fr=>@kc1 s ⟨kd,nm,L,sf,dt⟩ ne hf ok ha n k tb fr;simp only[Tk.cs]at kA kT;clear kc0 kc1 hf ok ha;all_goals
  (try simp only[Tk.cs]at *)
  refine qa0 (s0:=⟨[0,1,4,13,14,23],[.ptr 0 0,.ptr 1 0,uD,uD,uD,uD],[],31,⟨3,[]::[_]⟩⟩) Tryz.func86 rfl rfl rfl ?_;apply qcg;try simp only[Tk.cs]
  (repeat' (first
   |with_reducible apply qaa
   |with_reducible apply qa4
   |(with_reducible apply rE;simp[zS, *,SS.post];exact rfl)
   |(with_reducible apply qad;simp only[qab,qa5])
   |apply qah rfl
   |(refine qbf rfl (fun hc=>?_) (fun hc=>?_)<;>(have hd:=hc;(try simp at hd);(try subst hd)))
   |(with_reducible apply qa6;simp only[qab,qa5])
   |(with_reducible apply qa7;simp[zQ,Tryz.f86])))
  all_goals first|(((try simp[zQ,Tryz.f86]);refine qbe (by simp_all [qqs,metaA,metaT]) (by simp_all [qlq,metaA,metaT]) (by simp[qa2,qa3]) (by omega) n1 (by simp[getF]) (by simp[getF]) (by first|(simp[getF,Tk.cs];done)|(simp[getF,Tk.cs, *];done))))|(exfalso;omega)
def e86t:Entry PG:=mkT 86 [] (fun z:Unit=>[]) (fun z x=>(x.s.foster=false)/\(SOk x.s)/\(x.t.attrs.length<=1000000)) (fun z x=>.bool (qqs x.t)) (fun z x=>⟨qlq x.s x.t,x.t⟩) fun z x ne h=>⟨c86t (T:=[e170t,e172t]) rfl rfl ne  h.1 h.2.1 h.2.2,by simp[qa3,qa2],by simp[qa2,qa3],by(try exact n1);(all_goals exact qwk ne _)⟩
theorem k86t(hT:qa9 86 T=some e86t.g) {s:SS} {t:Tk} (ne:s.tree≠[])  (hf:s.foster=false) (ok:SOk s) (ha:t.attrs.length<=1000000) {n k tb:Nat} {fr:List (Nat × Blk)} (d:dT n k tb) (of:qg9 k tb fr):qat (ctx T) (.fn 86) [.ptr 0 0,.ptr tb 0] ⟨n,[(tb,.cells t.cs)::fr,VS k s]⟩=some (.bool (qqs t),⟨n+1,[(tb,.cells (Tk.cs (t)))::fr,VS n (qlq s t)]⟩):=
 qg3 (x:=⟨s,t⟩) (f1:=[]) hT inj_165 () ne ⟨hf,ok,ha⟩ (by simp[qa3,qa2]) (by simp[qbb,qaj]) d (by simp) of
set_option maxHeartbeats 2000000
def qmk(x:Str):Bool:=inW lsB5 x
def qgu(x:Str):Bool:=inW lsB7 x
abbrev hdW:Str:= lsB2
def qi8(s:SS) (nm:Str):SS:=
 if qmk nm=true then qcr s nm 0 []
 else if qez 0 nm=true then qcr s hdW 0 []
 else if qgu nm=false then qe7 s nm
 else if (qf2 nm s).2=true then qe7 (qf2 nm s).1 nm
 else (qf2 nm s).1
theorem qjc(s:SS) (W:Str) (sc:Int) (but:Str):(qcr s W sc but).tree=s.tree:=by unfold qcr;split<;>rfl
theorem zce(s:SS) (W:Str) (sc:Int) (but:Str):(qcr s W sc but).act=s.act:=by unfold qcr;split<;>rfl
theorem BI.clos{n d a c e:Nat} {s:SS} (h:BI n d a c e s) (W:Str) (sc:Int) (but:Str):BI n d a c e (qcr s W sc but):=by
 unfold qcr;split
 ·exact h.pre ((qqj _ _ _).trans (qlo _ _ _))
 ·exact h
theorem pre_cut{I L:List Int} (h:PreL I L) {n d a c e:Nat} {s:SS} (hs:BI n d a c e s) (e1:L=s.opn) {i:Int} (hi:i≠1):PreL (cutI I i) L:=by
 unfold cutI;split
 ·rename_i hx;refine(qqi I ?_).trans h;obtain⟨g1,g2⟩:=qwy (L:=I) (i:=i) hx;have hl:=h.head;rw[e1,hs.hd]at hl;rcases Nat.eq_zero_or_pos (qkd I i).toNat with h0|h0
  ·exfalso;rw[List.head?_eq_getElem?]at hl;have:I[0]? = some i:=(by have h3:=List.getElem?_eq_getElem g1;rw[g2,h0]at h3;exact h3);rw[this]at hl;exact hi (Option.some.inj hl)
  ·exact h0
 ·exact h
theorem zap{t:Tr} {L:List Int} {W:Str}:∀(k:Nat) {j:Nat},othN t L W k=some j->1<=j/\j<=k
 |0,j,h=>by cases h
 |k+1,j,h=>by
  unfold othN at h;split at h
  ·obtain rfl:=Option.some.inj h;omega
  split at h
  ·cases h
  ·have:=zap k h;omega
theorem opn_ne1{n d a c e:Nat} {s:SS} (h:BI n d a c e s) {j:Nat} (h1:1<=j) (hl:j < s.opn.length):s.opn[j]≠1:=fun e=>by
 have h0:s.opn[0]? = some 1:=by rw[<- List.head?_eq_getElem?];exact h.hd
 have h2:s.opn[0]'(by omega)=1:=by rw[List.getElem?_eq_getElem (by omega)]at h0;exact Option.some.inj h0
 have:=(List.nodup_iff_pairwise_ne.1 h.nd);rw[List.pairwise_iff_getElem]at this;exact this 0 j (by omega) hl (by omega) (by rw[h2,e])
theorem BI.other{n d a c e:Nat} {s:SS} (h:BI n d a c e s) (W:Str):BI n d a c e (qe7 s W):=by
 unfold qe7;split
 ·exact h
 ·rename_i k hk;obtain⟨k1,k2⟩:=zap _ hk;have hl:k < s.opn.length:=by have:=List.length_pos_iff.2 h.on;omega
  refine h.pre (pre_cut (qlo _ _ _) h rfl ?_);rw[List.getD_eq_getElem?_getD,List.getElem?_eq_getElem hl];exact opn_ne1 h k1 hl
theorem BI.named{n d a c e:Nat} {s:SS} (h:BI n d a c e s) (he:e<=900) (nm:Str):BI (n+64) d a c e (qi8 s nm)/\KeepN s.tree (qi8 s nm).tree:=by
 have up:∀{s:SS},BI n d a c e s->BI (n+64) d a c e s:=fun h=>h.mono (by omega) (Nat.le_refl _) (Nat.le_refl _) (Nat.le_refl _) (Nat.le_refl _);obtain⟨r1,r2⟩:=h.run he nm;unfold qi8;split
 ·exact⟨up (h.clos _ _ _),by rw[qjc];exact .refl _⟩
 split
 ·exact⟨up (h.clos _ _ _),by rw[qjc];exact .refl _⟩
 split
 ·exact⟨up (h.other _),by rw[qf8];exact .refl _⟩
 split
 ·exact⟨r1.other _,by rw[qf8];exact r2⟩
 ·exact⟨r1,r2⟩
theorem c61(hc0:qa9 147 T=some e147.g) (hc1:qa9 148 T=some e148.g) (hc2:qa9 149 T=some e149.g) (hc3:qa9 58 T=some e58.g) (hc4:qa9 13 T=some e13.g) (hc5:qa9 19 T=some e19.g) {s:SS} (ne:s.tree≠[]) (nm:Str) (h:BI 60000 1000000 850 900 900 s) (hl:nm.length<=100000):SC T 61 [.str nm] s (.tup []) (qi8 s nm):=by
 have kc0:=@k147 T hc0;have kc1:=@k148 T hc1;have kc2:=@k149 T hc2;have kc3:=@k58 T hc3;have kc4:=@k13 T hc4;have kc5:=@k19 T hc5;have g0:=@vg0;have v0:=@vset;have ol:=h.ol;have kB:=fun H=>kc0 nm (by omega) H;have kH:=fun H=>kc1 0 nm H;have kF:=fun H=>kc2 0 nm (by omega) H;have kC1:=fun n k fr=>@kc3 s ne nm 0 [] trivial hl trivial (by decide) h.tb.nm (by omega) n k fr;have kC2:=fun n k fr=>@kc3 s ne hdW 0 [] trivial (by decide) trivial (by decide) h.tb.nm (by omega) n k fr;obtain⟨r1,r2⟩:=h.run (by omega) nm;have kR:=fun n k fr=>@kc4 s ne nm (h.mono (by omega) (Nat.le_refl _) (Nat.le_refl _) (Nat.le_refl _) (Nat.le_refl _)) hl n k fr;have kO1:=fun n k fr=>@kc5 s ne nm hl h.tb.nm (by omega) h.on h.r0 n k fr;have ol2:=r1.ol;have nr:=r1.ne;have kO2:=fun n k fr=>@kc5 (qf2 nm s).1 nr nm hl r1.tb.nm (by omega) r1.on r1.r0 n k fr;have n9:=(BI.named h (by omega) nm).1.ne;have e:qi8 s nm=if qmk nm=true then qcr s nm 0 [] else if qez 0 nm=true then qcr s hdW 0 [] else if qgu nm=false then qe7 s nm else if (qf2 nm s).2=true then qe7 (qf2 nm s).1 nm else (qf2 nm s).1:=rfl;have eB:∀H,qat (ctx T) (.fn 147) [.str nm] H=some (.bool (qmk nm),H):=kB;have eF:∀H,qat (ctx T) (.fn 149) [.int .i64 0,.str nm] H=some (.bool (qgu nm),H):=fun H=>(kF H).trans (by simp[qgu]);clear kB kF kc0 kc1 kc2 kc3 kc4 kc5 r1 r2 h hl ol ol2;have n1:(qcr s nm 0 []).tree≠[]:=by rw[qjc];exact ne
 have n2:(qcr s hdW 0 []).tree≠[]:=by rw[qjc];exact ne
 have n3:(qe7 s nm).tree≠[]:=by rw[qf8];exact ne
 have n4:(qe7 (qf2 nm s).1 nm).tree≠[]:=by rw[qf8];exact nr
 rw[e]at n9 ⊢;clear e n9;generalize qe7 (qf2 nm s).1 nm=s4 at *;generalize qe7 s nm=s3 at *;generalize qcr s hdW 0 []=s2 at *;generalize qcr s nm 0 []=s1 at *;generalize (qf2 nm s).1=s5 at *;generalize (qf2 nm s).2=b5 at *;generalize qgb s.tree s.opn nm 0=h1 at *;generalize qgb s.tree s.opn hdW 0=h2 at *;generalize qmk nm=b1 at *;generalize qez 0 nm=b2 at *;generalize qgu nm=b3 at *;cases b1
 case true=>
  rw[if_pos rfl];refine qa0 (s0:=⟨[0,1],[.ptr 0 0,.str nm],[],27,⟨2,[]::[VS 1 s]⟩⟩) Tryz.func61 rfl rfl rfl ?_
  (repeat' (first
   |with_reducible apply qaa
   |with_reducible apply qa4
   |(with_reducible apply rE;simp[zS, *,SS.post];exact rfl)
   |(with_reducible apply qad;simp only[qab,qa5])
   |(apply qah rfl)))
  all_goals first|(((try simp[zQ,Tryz.f61]);exact qbz rfl rfl rfl (by omega) n1 (by simp[getF]) (by simp[getF])))|(exfalso;omega)
 rw[if_neg (by simp)];cases b2
 case true=>
  rw[if_pos rfl];refine qa0 (s0:=⟨[0,1],[.ptr 0 0,.str nm],[],27,⟨2,[]::[VS 1 s]⟩⟩) Tryz.func61 rfl rfl rfl ?_
  (repeat' (first
   |with_reducible apply qaa
   |with_reducible apply qa4
   |(with_reducible apply rE;simp[zS, *,SS.post];exact rfl)
   |(with_reducible apply qad;simp only[qab,qa5])
   |apply qah rfl
   |(apply qai rfl)))
  all_goals first|(((try simp[zQ,Tryz.f61]);exact qbz rfl rfl rfl (by omega) n2 (by simp[getF]) (by simp[getF])))|(exfalso;omega)
 rw[if_neg (by simp)];cases b3
 case false=>
  rw[if_pos rfl];refine qa0 (s0:=⟨[0,1],[.ptr 0 0,.str nm],[],27,⟨2,[]::[VS 1 s]⟩⟩) Tryz.func61 rfl rfl rfl ?_
  (repeat' (first
   |with_reducible apply qaa
   |with_reducible apply qa4
   |(with_reducible apply rE;simp[zS, *,SS.post];exact rfl)
   |(with_reducible apply qad;simp only[qab,qa5])
   |apply qah rfl
   |(apply qai rfl)))
  all_goals first|(((try simp[zQ,Tryz.f61]);exact qbz rfl rfl rfl (by omega) n3 (by simp[getF]) (by simp[getF])))|(exfalso;omega)
 rw[if_neg (by simp)];cases b5
 case true=>
  rw[if_pos rfl];refine qa0 (s0:=⟨[0,1],[.ptr 0 0,.str nm],[],27,⟨2,[]::[VS 1 s]⟩⟩) Tryz.func61 rfl rfl rfl ?_
  (repeat' (first
   |with_reducible apply qaa
   |with_reducible apply qa4
   |(with_reducible apply rE;simp[zS, *,SS.post];exact rfl)
   |(with_reducible apply qad;simp only[qab,qa5])
   |apply qah rfl
   |(apply qai rfl)))
  all_goals first|(((try simp[zQ,Tryz.f61]);exact qbz rfl rfl rfl (by omega) n4 (by simp[getF]) (by simp[getF])))|(exfalso;omega)
 rw[if_neg (by simp)];refine qa0 (s0:=⟨[0,1],[.ptr 0 0,.str nm],[],27,⟨2,[]::[VS 1 s]⟩⟩) Tryz.func61 rfl rfl rfl ?_
 (repeat' (first
  |with_reducible apply qaa
  |with_reducible apply qa4
  |(with_reducible apply rE;simp[zS, *,SS.post];exact rfl)
  |(with_reducible apply qad;simp only[qab,qa5])
  |apply qai rfl
  |(with_reducible apply qa6;simp only[qab,qa5])))
 all_goals first|(((try simp[zQ,Tryz.f61]);exact qbz rfl rfl rfl (by omega) nr (by simp[getF]) (by simp[getF])))|(exfalso;omega)
def e61:Entry PG:=mkS 61 [[]] (fun z:Str=>[.str z]) (fun z s=>(BI 60000 1000000 850 900 900 s)/\(z.length<=100000)) (fun z s=>.tup []) (fun z s=>qi8 s z) fun z s ne h=>⟨c61 (T:=[e147,e148,e149,e58,e13,e19]) rfl rfl rfl rfl rfl rfl ne z h.1 h.2,by simp[qa3,qa2],by simp[qa2,qa3],(BI.named h.1 (by omega) _).1.ne⟩
theorem k61(hT:qa9 61 T=some e61.g) {s:SS} (ne:s.tree≠[]) (nm:Str) (h:BI 60000 1000000 850 900 900 s) (hl:nm.length<=100000) {n k:Nat} {fr:List (Nat × Blk)} (k0:0 < k) (kn:k < n) (of:qga k fr):qat (ctx T) (.fn 61) [.ptr 0 0,.str nm] ⟨n,[fr,VS k s]⟩=some (.tup [],⟨n+1,[fr,VS n (qi8 s nm)]⟩):=
 qct hT inj_147 (nm) ne ⟨h,hl⟩ (by simp[qa3,qa2]) (by simp[qbb,qaj]) k0 kn of
set_option maxHeartbeats 4000000
def qsv(s:SS) (nm:Str):SS:=if qgb s.tree s.opn nm 0=true then { qcr s nm 0 []with act:=ql8 (qcr s nm 0 []).act } else qcr s nm 0 []
def endR(s:SS) (nm:Str):Bool × SS:=
 if nm=[98,111,100,121]\/nm=[104,116,109,108] then (qgb s.tree s.opn [98,111,100,121] 0 && decide (nm=[104,116,109,108]),qhv s)
 else if nm=[102,111,114,109] then (false,qh8 s)
 else if nm=[112] then (false,qow (qe6 s))
 else if nm=[108,105] then (false,qcr s nm 1 nm)
 else if nm=[100,100]\/nm=[100,116] then (false,qcr s nm 0 nm)
 else if nm=[98,117,116,116,111,110] then (false,qcr s nm 0 [])
 else if nm=[97,112,112,108,101,116]\/nm=[109,97,114,113,117,101,101]\/nm=[111,98,106,101,99,116] then (false,qsv s nm)
 else if nm=[98,114] then (false,brS (qci s))
 else (false,qi8 s nm)
def qu2(s:SS) (t:Tk):Bool × SS:=if t.kind=2 then endR s t.name else (false,s)
theorem BI.popen{n d a c e:Nat} {s:SS} (h:BI n d a c e s):BI (n+1) d a (c+1) e (qe6 s):=by
 unfold qe6;split
 ·exact h.mono (by omega) (Nat.le_refl _) (Nat.le_refl _) (by omega) (Nat.le_refl _)
 ·exact h.elS 0 (by decide) (Nat.zero_le _)
theorem BI.par{n d a c e:Nat} {s:SS} (h:BI n d a c e s):BI n d a c e (qow s):=h.pre ((qqj _ _ _).trans (qlo _ _ _))
theorem zcg(L:List Int):(ql8 L).Sublist L:=List.take_sublist _ _
theorem BI.marks{n d a c e:Nat} {s:SS} (h:BI n d a c e s) (nm:Str):BI n d a c e (qsv s nm):=by
 unfold qsv;split
 ·exact(h.clos _ _ _).act (zcg _)
 ·exact h.clos _ _ _
theorem BI.br{n d a c e:Nat} {s:SS} (h:BI n d a c e s):BI (n+e+1) d a (c+1) e (brS (qci s)):=by have hr:=h.recon;have he:=hr.elS 0 (nm:=[98,114]) (L:=[]) (by decide) (Nat.zero_le _);have hl:=hr.h1.1;exact he.drop (i:=((qci s).tree.length:Int)) (by omega)
theorem BI.form{n d a c e:Nat} {s:SS} (h:BI n d a c e s):BI n d a c e (qh8 s):=by
 have h0:BI n d a c e (f0S s):=⟨h.tb,h.fo,h.hd,h.rg,h.nd,h.ac,h.an,h.al,.inl rfl,h.cv,h.h1⟩;unfold qh8;split
 ·exact h0
 rename_i hn;split
 ·exact h0
 ·have:=(h0.pre (qlo s.tree s.opn [])).drop (i:=s.form) (by
   rcases h.fm with e|e
   ·exact absurd (.inl e) hn
   ·omega)
  exact this
theorem BI.whole{n d a c e:Nat} {s:SS} (h:BI n d a c e s):BI n d a c e (qhv s):=by
 unfold qhv;split
 ·exact⟨h.tb,h.fo,h.hd,h.rg,h.nd,h.ac,h.an,h.al,h.fm,h.cv,h.h1⟩
 ·exact h
theorem BI.end_{n d a c e:Nat} {s:SS} (h:BI n d a c e s) (he:e<=900) (nm:Str):BI (n+e+64) d a (c+1) e (endR s nm).2:=by
 have up:∀{s:SS} {m k:Nat},m<=n+e+64->k<=c+1->BI m d a k e s->BI (n+e+64) d a (c+1) e s:=fun h1 h2 h=>h.mono h1 (Nat.le_refl _) (Nat.le_refl _) h2 (Nat.le_refl _);unfold endR;split
 ·exact up (by omega) (by omega) h.whole
 split
 ·exact up (by omega) (by omega) h.form
 split
 ·exact up (by omega) (by omega) h.popen.par
 split
 ·exact up (by omega) (by omega) (h.clos _ _ _)
 split
 ·exact up (by omega) (by omega) (h.clos _ _ _)
 split
 ·exact up (by omega) (by omega) (h.clos _ _ _)
 split
 ·exact up (by omega) (by omega) (h.marks _)
 split
 ·exact up (by omega) (by omega) h.br
 ·exact up (by omega) (by omega) (h.named he nm).1
theorem qrh{n d a c e:Nat} {s:SS} (h:BI n d a c e s) (he:e<=900) (t:Tk):BI (n+e+64) d a (c+1) e (qu2 s t).2:=by
 unfold qu2;split
 ·exact h.end_ he _
 ·exact h.mono (by omega) (Nat.le_refl _) (Nat.le_refl _) (by omega) (Nat.le_refl _)
theorem c16(hc0:qa9 55 T=some e55.g) (hc1:qa9 56 T=some e56.g) (hc2:qa9 57 T=some e57.g) (hc3:qa9 58 T=some e58.g) (hc4:qa9 59 T=some e59.g) (hc5:qa9 60 T=some e60.g) (hc6:qa9 61 T=some e61.g) {s:SS} {t:Tk} (ne:s.tree≠[])  (h:BI 60000 1000000 850 800 800 s) (hl:t.name.length<=40):TC T 16 [] ⟨s,t⟩ (.bool (qu2 s t).1) ⟨(qu2 s t).2,t⟩:=by
 have kc0:=@k55 T hc0;have kc1:=@k56 T hc1;have kc2:=@k57 T hc2;have kc3:=@k58 T hc3;have kc4:=@k59 T hc4;have kc5:=@k60 T hc5;have kc6:=@k61 T hc6;have g0:=@vg0;have v0:=@vset;obtain⟨kd,nm,L,sf,dt⟩:=t;simp only at hl;have ol:=h.ol;have al:=h.al;have nmk:=h.tb.nm;have hpo:=h.popen;have hpl:=hpo.ol;have hrc:=h.recon;have hrl:=hrc.ol;have h9:=h.mono (show 60000<=60000 by omega) (Nat.le_refl _) (Nat.le_refl _) (show 800<=900 by omega) (show 800<=900 by omega);have kW:=fun n k fr=>@kc0 s ne nm nmk (by omega) n k fr;have kF:=fun n k fr=>@kc1 s ne nmk (by omega) h.r0 n k fr;have kP:=fun n k fr=>@kc2 s ne (h.bok (by omega) (by omega)) hpo.tb.nm (by omega) n k fr;have kL:=fun n k fr=>@kc3 s ne nm 1 nm trivial (by omega) trivial (by omega) nmk (by omega) n k fr;have kD:=fun n k fr=>@kc3 s ne nm 0 nm trivial (by omega) trivial (by omega) nmk (by omega) n k fr;have kB:=fun n k fr=>@kc3 s ne nm 0 [] trivial (by omega) trivial (by decide) nmk (by omega) n k fr;have kC:=fun H=>kc4 (L:=(qcr s nm 0 []).act) (by rw[zce];omega) H;have kR:=fun n k fr=>@kc5 s ne (h.rok (by omega) (by omega) (by omega)) (hrc.sok (by omega) (by omega)) h.fo (by omega) n k fr;have kN:=fun n k fr=>@kc6 s ne nm h9 (by omega) n k fr;have n1:(qhv s).tree≠[]:=h.whole.ne;have n2:(qh8 s).tree≠[]:=h.form.ne;have n3:(qow (qe6 s)).tree≠[]:=hpo.par.ne;have n4:∀W sc but,(qcr s W sc but).tree≠[]:=fun W sc but=>(h.clos W sc but).ne;have n5:(brS (qci s)).tree≠[]:=h.br.ne;have n6:(qi8 s nm).tree≠[]:=(BI.named h9 (by omega) nm).1.ne;have n9:(qu2 s ⟨kd,nm,L,sf,dt⟩).2.tree≠[]:=(qrh h (by omega) _).ne;clear kc0 kc1 kc2 kc3 kc4 kc5 kc6 h hl h9 ol al nmk hpo hpl hrc hrl;have n7:=n4 nm 1 nm;have n8:=n4 nm 0 nm;have n10:=n4 nm 0 [];have eM:qsv s nm=if qgb s.tree s.opn nm 0=true then ⟨(qcr s nm 0 []).tree,(qcr s nm 0 []).opn,ql8 (qcr s nm 0 []).act,(qcr s nm 0 []).mode,(qcr s nm 0 []).back,(qcr s nm 0 []).lex,(qcr s nm 0 []).form,(qcr s nm 0 []).head,(qcr s nm 0 []).foster,(qcr s nm 0 []).skip,(qcr s nm 0 []).inside⟩ else qcr s nm 0 []:=rfl;have eE:qu2 s ⟨kd,nm,L,sf,dt⟩=if kd=2 then (if nm=[98,111,100,121]\/nm=[104,116,109,108] then (qgb s.tree s.opn [98,111,100,121] 0 && decide (nm=[104,116,109,108]),qhv s) else if nm=[102,111,114,109] then (false,qh8 s) else if nm=[112] then (false,qow (qe6 s)) else if nm=[108,105] then (false,qcr s nm 1 nm) else if nm=[100,100]\/nm=[100,116] then (false,qcr s nm 0 nm) else if nm=[98,117,116,116,111,110] then (false,qcr s nm 0 []) else if nm=[97,112,112,108,101,116]\/nm=[109,97,114,113,117,101,101]\/nm=[111,98,106,101,99,116] then (false,qsv s nm) else if nm=[98,114] then (false,brS (qci s)) else (false,qi8 s nm)) else (false,s):=rfl;rw[eE]at n9 ⊢;clear eE n4;rw[eM]at n9 ⊢;clear eM;generalize qhv s=s1 at *;generalize qh8 s=s2 at *;generalize qow (qe6 s)=s3 at *;generalize qcr s nm 1 nm=s4 at *;generalize qcr s nm 0 nm=s5 at *;generalize qcr s nm 0 []=s6 at *;generalize ql8 s6.act=A6 at *;generalize brS (qci s)=s7 at *;generalize qi8 s nm=s8 at *;generalize qgb s.tree s.opn [98,111,100,121] 0=b1 at *;generalize qgb s.tree s.opn nm 1=b2 at *;generalize qgb s.tree s.opn nm 0=b3 at *;all_goals
  (try simp only[Tk.cs]at *)
  refine qa0 (s0:=⟨[0,1,4,5,15,19,39,51],[.ptr 0 0,.ptr 1 0,uD,uD,uD,uD,uD,uD],[],70,⟨3,[]::[_]⟩⟩) Tryz.func16 rfl rfl rfl ?_;apply qcg;try simp only[Tk.cs]
  (repeat' (first
   |with_reducible apply qaa
   |with_reducible apply qa4
   |(with_reducible apply rE;simp[zS, *,SS.post];exact rfl)
   |(with_reducible apply qad;simp only[qab,qa5])
   |apply qah rfl
   |(refine qbf rfl (fun hc=>?_) (fun hc=>?_)<;>(have hd:=hc;(try simp at hd);(try subst hd)))
   |(with_reducible apply qa6;simp only[qab,qa5])
   |(with_reducible apply qa7;simp[zQ,Tryz.f16])))
  all_goals first|(skip)|(exfalso;omega)
  all_goals (try simp[zQ,Tryz.f16])
  all_goals refine qbe (by first|rfl|(simp[*];done)) (by first|rfl|(simp[*];done)) (by simp[qa2,qa3]) (by omega) (by first|exact n1|exact n2|exact n3|exact n5|exact n6|exact n7|exact n8|exact n10|exact ne|(simp[*];done)) (by simp[getF]) (by simp[getF]) (by first|(simp[getF,Tk.cs];done)|(simp[getF,Tk.cs, *];done))
def e16:Entry PG:=mkT 16 [] (fun z:Unit=>[]) (fun z x=>(BI 60000 1000000 850 800 800 x.s)/\(x.t.name.length<=40)) (fun z x=>.bool (qu2 x.s x.t).1) (fun z x=>⟨(qu2 x.s x.t).2,x.t⟩) fun z x ne h=>⟨c16 (T:=[e55,e56,e57,e58,e59,e60,e61]) rfl rfl rfl rfl rfl rfl rfl ne  h.1 h.2,by simp[qa3,qa2],by simp[qa2,qa3],(qrh h.1 (by omega) _).ne⟩
theorem k16(hT:qa9 16 T=some e16.g) {s:SS} {t:Tk} (ne:s.tree≠[])  (h:BI 60000 1000000 850 800 800 s) (hl:t.name.length<=40) {n k tb:Nat} {fr:List (Nat × Blk)} (d:dT n k tb) (of:qg9 k tb fr):qat (ctx T) (.fn 16) [.ptr 0 0,.ptr tb 0] ⟨n,[(tb,.cells t.cs)::fr,VS k s]⟩=some (.bool (qu2 s t).1,⟨n+1,[(tb,.cells (Tk.cs (t)))::fr,VS n ((qu2 s t).2)]⟩):=
 qg3 (x:=⟨s,t⟩) (f1:=[]) hT inj_165 () ne ⟨h,hl⟩ (by simp[qa3,qa2]) (by simp[qbb,qaj]) d (by simp) of
set_option maxHeartbeats 2000000
theorem fitT2{x:TS} {n k tb:Nat} {f:List (Nat × Blk)} {N k' m' tb':Nat} (hN:(k' < N->k=k')/\(tb' < N->tb=tb')/\N<=m') (d':(k'≠0/\tb'≠0)/\k'≠tb'/\k' < m'/\tb' < m') (d:(k≠0/\tb≠0)/\k≠tb)
  (hne:x.s.tree≠[]) (hf0:getF 0 f=none) (hfk:getF k f=none) (ht:getF tb f=some (.cells x.t.cs)) :
  FitH N [(k,k'),(0,0),(tb,tb')] [] ⟨n,[f,VS k x.s]⟩ ⟨m',[[(tb',.cells x.t.cs)],VS k' x.s]⟩:=
 have h:=fitTR (n:=n) hN d' d hne hf0 hfk ht
 ⟨h.nd1,h.nd2,by simpa[Heap.ents,TKR]using h.nd3,h.lt,h.idn,h.num,fun e he=>h.src e (by simpa[Heap.ents,TKR]using he),h.frz⟩
theorem qrx{C:Ctx} {n:Nat} {r:Option Nat} {c d:Code} {s:St} {Q:Out->St->Prop} {ι:Type} (inv:ι->St) (φ:ι->Prop) (h1:∀x,φ x->WpSr C n r d (inv x) Q) (h2:∀P:St->Prop,(∀s' x,φ x->(∃σ Φ,Fit n σ Φ s' (inv x))->P s')->WpSr C n r c s (qab P Q)):WpSr C n r (.seq c d) s Q:=
 qaa (h2 (fun s'=>WpSr C n r d s' Q) fun s' x hx ⟨σ,Φ,f⟩=>.fit σ Φ f (h1 x hx))
def qye(t:Tr) (L:List Int) (W:Str):Nat->Option Nat
 |0=>none
 |k+1=>if qbv (qbh t (L.getD (k+1) 0)) W=true then some (k+1) else if (qd5 (qa1 t (L.getD (k+1) 0)).space (qa1 t (L.getD (k+1) 0)).name && !qbv (qbh t (L.getD (k+1) 0)) [97,100,100,114,101,115,115,32,100,105,118,32,112])=true then none else qye t L W k
def popN(s:SS) (nm:Str):SS:=⟨s.tree,qmn s.tree (qgt s.tree s.opn nm) nm,s.act,s.mode,s.back,s.lex,s.form,s.head,s.foster,s.skip,s.inside⟩
def qfj(s:SS) (W:Str):SS:=match qye s.tree s.opn W (s.opn.length - 1)with
 |none=>s
 |some k=>popN s (qa1 s.tree (s.opn.getD k 0)).name
theorem BI.item{n d a c e:Nat} {s:SS} (h:BI n d a c e s) (W:Str):BI n d a c e (qfj s W):=by
 unfold qfj;split
 ·exact h
 ·exact h.pre ((qqj _ _ _).trans (qlo _ _ _))
theorem BI.endp{n d a c e:Nat} {s:SS} (h:BI n d a c e s):BI n d a c e (qdg s):=by
 unfold qdg;split
 ·exact h.par
 ·exact h
def qd7(s:SS) (nm:Str) (L:List At1):SS:=elS (qdg s) 0 nm L
theorem BI.block{n d a c e:Nat} {s:SS} (h:BI n d a c e s) {nm:Str} {L:List At1} (hn:nm.length<=40) (hL:L.length<=a):BI (n+1) d a (c+1) e (qd7 s nm L):=h.endp.elS 0 hn hL
theorem c166(hc0:qa9 76 T=some e76.g) (hc1:qa9 77 T=some e77.g) (hc2:qa9 45 T=some e45.g) (hc3:qa9 79 T=some e79.g) (hc4:qa9 164 T=some e164.g) {s:SS} {t:Tk} (ne:s.tree≠[]) (W:Str) (h:BI 60000 1000000 850 800 800 s) (hl:W.length<=100000) (ha:t.attrs.length<=14):TC T 166 [.str W] ⟨s,t⟩ (.tup []) ⟨qd7 (qfj s W) t.name t.attrs,t⟩:=by
 have kc1:=@k77 T hc1;have kc2:=@k45 T hc2;have kc3:=@k79 T hc3;have kc4:=@k164 T hc4;have g0:=@vg0;have v0:=@vset;obtain⟨kd,nm,L,sf,dt⟩:=t;simp only at ha;have ol:=h.ol;have nmk:=h.tb.nm;have hi:=h.item W;have ni:(qfj s W).tree≠[]:=hi.ne;have kBl:=fun n k tb fr=>@kc4 (qfj s W) ⟨kd,nm,L,sf,dt⟩ ni (hi.bok (by omega) (by omega)) (by simp only;omega) n k tb fr;have eb:elS (qdg (qfj s W)) 0 (Tk.mk kd nm L sf dt).name (Tk.mk kd nm L sf dt).attrs=qd7 (qfj s W) nm L:=rfl;rw[eb]at kBl;simp only[Tk.cs]at kBl;have lO:=fun H=>qn0 (H:=H) (L:=s.opn);have nb:(qd7 (qfj s W) nm L).tree≠[]:=qbi _ _ _ _;have hlen:=List.length_pos_iff.2 h.on;have fS:∀(s:SS) (f:List (Nat × Blk)) (n k:Nat),k=2\/3<=k->s.tree≠[]->getF 0 f=none->getF k f=none->getF 1 f=some (.cells [.int .i64 kd,.str nm,qaf L,.bool sf,.str dt])->FitH 3 [(k,3),(0,0),(1,1)] [] ⟨n,[f,VS k s]⟩ ⟨4,[[(1,.cells [.int .i64 kd,.str nm,qaf L,.bool sf,.str dt])],VS 3 s]⟩:=fun s f n k hk ne h1 h2 h3=>fitT2 (x:=⟨s,⟨kd,nm,L,sf,dt⟩⟩) (by omega) (by omega) (by omega) ne h1 h2 h3;have hw:wr .i64 ((s.opn.length:Int) - 1)=some ((s.opn.length - 1:Nat):Int):=by rw[show ((s.opn.length:Int) - 1)=((s.opn.length - 1:Nat):Int) by omega];exact qbs (by omega) (by omega)
 obtain⟨m,hm⟩ : ∃m,m=s.opn.length - 1:=⟨_,rfl⟩;rw[<- hm]at hw;all_goals
  (try simp only[Tk.cs]at *)
  refine qa0 (s0:=⟨[0,1,2,6,7],[.ptr 0 0,.ptr 1 0,.str W,uD,uD],[],76,⟨3,[]::[_]⟩⟩) Tryz.func166 rfl rfl rfl ?_;apply qcg;try simp only[Tk.cs]
  refine qrx (fun _:Unit=>(⟨[0,1,2,6,7],[.ptr 0 0,.ptr 1 0,uD,uD,uD],[],76,⟨4,[[(1,.cells [.int .i64 kd,.str nm,qaf L,.bool sf,.str dt])],VS 3 (qfj s W)]⟩⟩ : St)) (fun _=>True) (fun _ _=>?rest) fun P hE=>?_
  case rest=>
   clear hw fS kc1 kc2 kc3 kc4 h hi hlen lO nmk ol hm;show WpSr _ _ _ _ _ _;generalize qd7 (qfj s W) nm L=s9 at *;generalize qfj s W=s8 at *
   (repeat' (first
    |(with_reducible apply rE;simp[zS, *,SS.post];exact rfl)
    |(with_reducible apply qad;simp only[qab,qa5])))
   all_goals first|(((try simp[zQ,Tryz.f166]);exact qbe rfl rfl (by simp[qa2,qa3]) (by omega) nb (by simp[getF]) (by simp[getF]) (by simp[getF,Tk.cs])))|(exfalso;omega)
  apply qR;simp[zS,g0,ne,SS.post,lO,hw];apply qa4;refine qb1 (fun k:Nat=>(⟨[0,1,2,6,7],[.ptr 0 0,.ptr 1 0,.str W,.int .i64 (k:Int),uD],[],76,⟨4,[[(1,.cells [.int .i64 kd,.str nm,qaf L,.bool sf,.str dt])],VS 3 s]⟩⟩ : St)) (fun k=>k < s.opn.length/\qye s.tree s.opn W m=qye s.tree s.opn W k) (fun k=>k) [(2,3),(0,0),(1,1)] [] m ⟨by omega,rfl⟩
   ⟨rfl,rfl,rfl,by simp[qax,qap,qav,qa2],fS s _ _ 2 (by omega) ne (by simp[getF]) (by simp[getF]) (by simp[getF])⟩ ?_
  rintro k ⟨hk,he⟩ B hB;cases k with
  |zero=>have eo:qfj s W=s:=(by unfold qfj;rw[<- hm,he];rfl);rw[eo]at hE ⊢;apply qR;simp[zS];apply qai rfl;apply qas;simp;exact hE _ () trivial ⟨[(3,3),(0,0),(1,1)],[],rfl,rfl,rfl,by simp[qax,qap,qav,qa2],fS s _ _ 3 (by omega) ne (by simp[getF]) (by simp[getF]) (by simp[getF])⟩
  |succ k=>
   have hat:=atI (L:=s.opn) (i:=k+1) hk;have hg:s.opn.getD (k+1) 0=s.opn[k+1]:=(by simp[List.getD_eq_getElem?_getD,hk]);have hwk:wr .i64 (((k+1:Nat):Int) - 1)=some (k:Int):=(by rw[show (((k+1:Nat):Int) - 1)=(k:Int) by omega];exact qbs (by omega) (by omega));have hp:(0:Int) < ((k+1:Nat):Int):=(by omega);obtain⟨r0,r1⟩:=h.r0 s.opn[k+1] (List.getElem_mem hk);obtain⟨u,hu⟩ : ∃u:Nat,s.opn[k+1]=u:=⟨s.opn[k+1].toNat,by omega⟩;rw[hu]at hat r1 hg;have hul:u < s.tree.length:=(by omega);have ix:=ixN (k:=3) (t:=s.tree) hul;have sb:=subN (t:=s.tree) hul;have gk:=@vgk;have mT:memT 65 objs=false:=rfl;have nl:=(h.tb.at_ (i:=(u:Int)) (by omega) (by omega)).2.1;have kI:=fun n k f (k0:0 < k) (hf:getF k f=none)=>q76 hc0 (thS (n:=n) k0 ne hf) (u:Int) (trivial:qbx W) hl (nmk _);have kJ:=fun n k f (k0:0 < k) (hf:getF k f=none)=>q76 hc0 (thS (n:=n) k0 ne hf) (u:Int) (W:=[97,100,100,114,101,115,115,32,100,105,118,32,112]) trivial (by decide) (nmk _);have kM:=fun n k fr=>@kc1 s ne (qa1 s.tree u).name trivial (by omega) nmk (by omega) n k fr;have nI:({ s with opn:=qgt s.tree s.opn (qa1 s.tree u).name }:SS).tree≠[]:=ne;have kP:=fun n k fr=>@kc2 { s with opn:=qgt s.tree s.opn (qa1 s.tree u).name } nI (qa1 s.tree u).name trivial (by omega) nmk (by have:=qhn s.tree s.opn (qa1 s.tree u).name;simp only;omega) n k fr;have kS:=fun H=>kc3 (qa1 s.tree u).space (qa1 s.tree u).name (by omega) H;have ho:qye s.tree s.opn W (k+1)=if qbv (qbh s.tree u) W=true then some (k+1) else if (qd5 (qa1 s.tree u).space (qa1 s.tree u).name && !qbv (qbh s.tree u) [97,100,100,114,101,115,115,32,100,105,118,32,112])=true then none else qye s.tree s.opn W k:=(by show (if qbv (qbh s.tree (s.opn.getD (k+1) 0)) W=true then _ else _)=_;rw[hg]);rw[ho]at he;have ln:(qa1 s.tree u).cs=[.int .i64 (qa1 s.tree u).kind,.int .i64 (qa1 s.tree u).space,.str (qa1 s.tree u).name,qaf (qa1 s.tree u).attrs,.str (qa1 s.tree u).data,.int .i64 (qa1 s.tree u).up,qac (qa1 s.tree u).kids]:=rfl;rw[ln]at sb;have eO:qbv (qbh s.tree u) W=true->qfj s W=popN s (qa1 s.tree u).name:=fun hb=>(by rw[hb,if_pos rfl]at he;unfold qfj;rw[<- hm,he];simp only;rw[hg]);have eN:qbv (qbh s.tree u) W=false->(qd5 (qa1 s.tree u).space (qa1 s.tree u).name && !qbv (qbh s.tree u) [97,100,100,114,101,115,115,32,100,105,118,32,112])=true->qfj s W=s:=fun hb hc=>(by rw[hb,if_neg (by simp),if_pos hc]at he;unfold qfj;rw[<- hm,he]);obtain⟨kk,hkk⟩ : ∃kk:Int,kk=((k+1:Nat):Int):=⟨_,rfl⟩;rw[<- hkk]at hwk hp hat ⊢;clear ln ho hkk kBl kc1 kc2 kc3 kc4 hw lO;cases hb:qbv (qbh s.tree u) W with
   |true=>
    have eO:=eO hb;rw[hb]at kI;rw[eO]at hE ⊢;have np:(popN s (qa1 s.tree u).name).tree≠[]:=ne;have fP:=fS (popN s (qa1 s.tree u).name);have ep:popN s (qa1 s.tree u).name=⟨s.tree,qmn s.tree (qgt s.tree s.opn (qa1 s.tree u).name) (qa1 s.tree u).name,s.act,s.mode,s.back,s.lex,s.form,s.head,s.foster,s.skip,s.inside⟩:=rfl;rw[ep]at hE np fP;simp only at kP;clear hB he eN eO ep nb h hi fS hg hm;generalize qmn s.tree (qgt s.tree s.opn (qa1 s.tree u).name) (qa1 s.tree u).name=O2 at *;generalize qgt s.tree s.opn (qa1 s.tree u).name=O1 at *;generalize (qa1 s.tree u).kind=n1 at *;generalize (qa1 s.tree u).space=n2 at *;generalize (qa1 s.tree u).name=n3 at *;generalize (qa1 s.tree u).attrs=n4 at *;generalize (qa1 s.tree u).data=n5 at *;generalize (qa1 s.tree u).up=n6 at *;generalize (qa1 s.tree u).kids=n7 at *
    (repeat' (first
     |with_reducible apply qaa
     |with_reducible apply qa4
     |(with_reducible apply rE;simp[zS, *,SS.post];exact rfl)
     |(with_reducible apply qad;simp only[qab,qa5])
     |(refine qay mixed qb6 (by decide +kernel) (by decide +kernel) rfl ?_;apply qh0;simp[zS,zW,qb9,qbt,qaz,Heap.lay,qb8, *,SS.post];exact rfl)
     |(with_reducible apply qbc;refine⟨by repeat first|exact qdi|refine qdj (by decide +kernel) ?_,?_⟩;simp only[qab,qa5,allPend,Heap.lay,qb8])
     |apply qah rfl
     |(with_reducible apply qa6;simp only[qab,qa5])
     |(with_reducible apply qas;simp)))
    all_goals first|(exact hE _ () trivial ⟨[(_,3),(0,0),(1,1)],[],rfl,rfl,rfl,by simp[qax,qap,qav,qa2],fP _ _ _ (by omega) np (by simp[getF]) (by simp[getF]) (by simp[getF])⟩)|(exfalso;omega)
   |false=>
    rw[hb]at kI;cases hc:(qd5 (qa1 s.tree u).space (qa1 s.tree u).name && !qbv (qbh s.tree u) [97,100,100,114,101,115,115,32,100,105,118,32,112])with
    |true=>
     have eN:=eN hb hc;rw[eN]at hE ⊢;simp only[Bool.and_eq_true,Bool.not_eq_true']at hc;rw[hc.1]at kS;rw[hc.2]at kJ;clear hB he eN eO nb hi hg hm hc h hb;generalize (qa1 s.tree u).kind=n1 at *;generalize (qa1 s.tree u).space=n2 at *;generalize (qa1 s.tree u).name=n3 at *;generalize (qa1 s.tree u).attrs=n4 at *;generalize (qa1 s.tree u).data=n5 at *;generalize (qa1 s.tree u).up=n6 at *;generalize (qa1 s.tree u).kids=n7 at *
     (repeat' (first
      |with_reducible apply qaa
      |with_reducible apply qa4
      |(with_reducible apply rE;simp[zS, *,SS.post];exact rfl)
      |(with_reducible apply qad;simp only[qab,qa5])
      |(refine qay mixed qb6 (by decide +kernel) (by decide +kernel) rfl ?_;apply qh0;simp[zS,zW,qb9,qbt,qaz,Heap.lay,qb8, *,SS.post];exact rfl)
      |(with_reducible apply qbc;refine⟨by repeat first|exact qdi|refine qdj (by decide +kernel) ?_,?_⟩;simp only[qab,qa5,allPend,Heap.lay,qb8])
      |apply qah rfl
      |apply qai rfl
      |(with_reducible apply qa6;simp only[qab,qa5])
      |(with_reducible apply qas;simp)))
     all_goals first|(exact hE _ () trivial ⟨[(_,3),(0,0),(1,1)],[],rfl,rfl,rfl,by simp[qax,qap,qav,qa2],fS s _ _ _ (by omega) ne (by simp[getF]) (by simp[getF]) (by simp[getF])⟩)|(exfalso;omega)
    |false=>
     rw[hb,if_neg (by simp),hc,if_neg (by simp)]at he;have hB2:=fun s' h=>hB s' k (by omega) ⟨by omega,he⟩ h;clear hB he eN eO nb hi hg hm h hE hb;generalize qd5 (qa1 s.tree u).space (qa1 s.tree u).name=b1 at *;generalize qbv (qbh s.tree u) [97,100,100,114,101,115,115,32,100,105,118,32,112]=b2 at *;generalize (qa1 s.tree u).kind=n1 at *;generalize (qa1 s.tree u).space=n2 at *;generalize (qa1 s.tree u).name=n3 at *;generalize (qa1 s.tree u).attrs=n4 at *;generalize (qa1 s.tree u).data=n5 at *;generalize (qa1 s.tree u).up=n6 at *;generalize (qa1 s.tree u).kids=n7 at *;cases b1;all_goals cases b2
     all_goals (first|(cases hc;done)|clear hc)
     all_goals
      (repeat' (first
       |with_reducible apply qaa
       |with_reducible apply qa4
       |(with_reducible apply rE;simp[zS, *,SS.post];exact rfl)
       |(with_reducible apply qad;simp only[qab,qa5])
       |(refine qay mixed qb6 (by decide +kernel) (by decide +kernel) rfl ?_;apply qh0;simp[zS,zW,qb9,qbt,qaz,Heap.lay,qb8, *,SS.post];exact rfl)
       |(with_reducible apply qbc;refine⟨by repeat first|exact qdi|refine qdj (by decide +kernel) ?_,?_⟩;simp only[qab,qa5,allPend,Heap.lay,qb8])
       |apply qah rfl
       |apply qai rfl
       |(with_reducible apply qa6;simp only[qab,qa5])))
      all_goals first|(exact hB2 _ ⟨[(_,3),(0,0),(1,1)],[],rfl,rfl,rfl,by simp[qax,qap,qav,qa2],fS s _ _ _ (by omega) ne (by simp[getF]) (by simp[getF]) (by simp[getF])⟩)|(exfalso;omega)
def e166:Entry PG:=mkT 166 [[]] (fun z:Str=>[.str z]) (fun z x=>(BI 60000 1000000 850 800 800 x.s)/\(z.length<=100000)/\(x.t.attrs.length<=14)) (fun z x=>.tup []) (fun z x=>⟨qd7 (qfj x.s z) x.t.name x.t.attrs,x.t⟩) fun z x ne h=>⟨c166 (T:=[e76,e77,e45,e79,e164]) rfl rfl rfl rfl rfl ne z h.1 h.2.1 h.2.2,by simp[qa3,qa2],by simp[qa2,qa3],qbi _ _ _ _⟩
theorem k166(hT:qa9 166 T=some e166.g) {s:SS} {t:Tk} (ne:s.tree≠[]) (W:Str) (h:BI 60000 1000000 850 800 800 s) (hl:W.length<=100000) (ha:t.attrs.length<=14) {n k tb:Nat} {fr:List (Nat × Blk)} (d:dT n k tb) (of:qg9 k tb fr):qat (ctx T) (.fn 166) [.ptr 0 0,.ptr tb 0,.str W] ⟨n,[(tb,.cells t.cs)::fr,VS k s]⟩=some (.tup [],⟨n+1,[(tb,.cells (Tk.cs (t)))::fr,VS n (qd7 (qfj s W) t.name t.attrs)]⟩):=
 qg3 (x:=⟨s,t⟩) (f1:=[]) hT inj_147 (W) ne ⟨h,hl,ha⟩ (by simp[qa3,qa2]) (by simp[qbb,qaj]) d (by simp) of
theorem qfy:∀{s:Str} {i:Nat} (h:i < s.length),qca (qck s) i=some (.int .u8 (s[i].toNat:Int))
 |[],i,h=>absurd h (Nat.not_lt_zero i)
 |c::r,0,_=>rfl
 |c::r,i+1,h=>by have:=qfy (s:=r) (i:=i) (by simpa using h);simpa[qck]using this
theorem qpo{x:UInt8}:∀{s:Str} {i:Nat} (h:i < s.length),qjh [.int .u8 (x.toNat:Int)] i (qck s)=some (qck (s.set i x))
 |[],i,h=>absurd h (Nat.not_lt_zero i)
 |c::r,0,_=>by simp[qck]
 |c::r,i+1,h=>by have:=qpo (x:=x) (s:=r) (i:=i) (by simpa using h);simp[qck,this]
theorem qla:∀(s:Str),qm6 (qck s)=some s
 |[]=>rfl
 |c::r=>by simp[qck,qm6,qva,qla r]
theorem qpk:∀(s:Str),qa3 (qck s)=true
 |[]=>by simp[qck,qa3]
 |c::r=>by simp[qck,qa3,qa2,qpk r]
theorem qzs{s:Str}:qf1 0 s.length (qck s)=some (qck s):=by have:=qhe (n:=s.length) (l:=qck s) (by rw[qcx];omega);rw[qj0 (by rw[qcx];omega)];simp[List.take_of_length_le,qcx]
def qfh(n:Nat) (s:Str):Heap:=⟨n,[[(0,.cells (qck s))]]⟩
theorem conv1{s:Str} (h:s.length<=1000000):qrk PG ⟨0,[[]]⟩ 9 186 (.str s)=some (.slc 0 0 s.length (.rest 1),qfh 1 s):=by
 have:qde s.length 1=true:=by simp[qde];omega
 simp[qrk,this,qfh,Heap.new,pushF]
theorem conv2{n len:Nat} {s:Str} {cap:Cap} (e:s.length=len):qrk PG (qfh n s) 186 9 (.slc 0 0 len cap)=some (.str s,qfh n s):=by subst e;simp[qrk,qc3,qb3,readCells,qfh,zG,qzs,qla]
theorem ix52{b o len i:Nat} {cap:Cap} (h:i < len):qan PG 186 (.slc b o len cap) (.int .i64 (i:Int))=some (.ptr b (o+i)):=by simp[qan,qbj h]
theorem len52{H:Heap} {b o n:Nat} {cap:Cap}:qeq PG H 186 (.slc b o n cap)=some n:=by simp[qeq]
theorem qn4{n:Nat} {s t:Str} (e:s=t):FitH 0 [(0,0)] [] (qfh n s) (qfh 1 t):=by
 subst e;have hb:qji [(0,0)] [] (.cells (qck s)) (.cells (qck s)):=by show qax _ _ _ _;exact qao (qpk s)
 refine⟨by simp,by simp,by simp[qfh,Heap.ents],by simp[qfh],by simp,Nat.zero_le _,?_,by simp⟩;intro e he;simp[qfh,Heap.ents]at he;subst he;exact⟨0,_,by simp,by simp[qfh,zG],hb⟩
theorem qx6{len:Nat} {cap:Cap}:qap [(0,0)] [] (.slc 0 0 len cap) (.slc 0 0 len cap):=by simp[qap,qav]
