/- A writer's memory; frames told in another way. No condition. -/
import Derived.Test.YtnfdakclfmchfaaGreatMG
import Derived.Shelf.Strings.Search3
import Derived.Lib.IndexMore
import Derived.Test.YtnfdakclfmchfaaGreatProg
namespace Go.Proofs.YtnfdakclfmchfaaGreat
set_option linter.unusedSimpArgs false
set_option linter.unusedVariables false
open Go Go.RowKit
noncomputable section
set_option maxRecDepth 100000
variable {T:List (Entry Tryz.prog)}
theorem c189(L:List Int) (hl:L.length<=1000) (clo:FuncId) (cap:List AV) (hc:qa3 cap=true) (p:Int->Bool) (hp:∀a,a∈L->CallAt (ctx T) clo (.int .i64 a::cap) zH (.bool (p a)) zH) :
  CallAt (ctx T) 189 [qac L,.func (.func clo) [] cap] zH (.int .i64 (qal p L 0)) zH:=by
 refine qa0 (s0:=⟨[0,1,4,5,7,8],[qac L,.func (.func clo) [] cap,uD,uD,uD,uD],[],19,⟨0,[[]]⟩⟩) Tryz.func189 rfl rfl rfl ?_;apply qR;simp[zS];apply qR;simp[zS,qn0];refine qa4 (qb1 (fun i:Nat=>(⟨[0,1,4,5,7,8],[qac L,.func (.func clo) [] cap,uD,uD,.int .i64 L.length,.int .i64 i],[],19,⟨0,[[]]⟩⟩ : St))
  (fun i=>i<=L.length/\qal p L 0=qal p (L.drop i) i) (fun i=>L.length - i) [] [] 0 ⟨Nat.zero_le _,rfl⟩ ⟨rfl,rfl,rfl,by simp[qax,qap,qa2,qa3,hc,qac],FitH.nothing⟩ ?_)
 rintro i ⟨hi,hx⟩ B hB;apply qR;simp[zS];repeat apply wq
 refine qbf rfl (fun h=>?_) fun h=>?_
 ·simp at h;apply qa6;simp;repeat apply wq
  apply qa4;apply qR;simp[zS];repeat apply wq
  refine qam (ql9 qb6 [⟨clo,[.int .i64 L[i]]++cap,⟨0,[[]]⟩,.bool (p L[i]),⟨0,[[]]⟩,(hp L[i] (List.getElem_mem _)).lift (by simp[qa3,qa2,hc]) _⟩]) ?_;simp[zS,atI h,qd9];refine qbf rfl (fun h2=>?_) fun h2=>?_
  ·apply qR;simp[zS];apply qa7;simp[zQ,Tryz.f189];refine⟨[],[],?_,FitH.empty⟩;rw[hx,qf9 h,if_pos h2];exact qbd rfl
  ·repeat apply wq
   apply qa6;simp;apply qR;simp[zS,qbo (show i<=1000000000 by omega)];refine hB _ (i+1) (by omega) ⟨by omega,?_⟩ ⟨[],[],⟨rfl,rfl,rfl,by simp[qax,qap,qa2,qa3,hc,qac],FitH.nothing⟩⟩;rw[hx,qf9 h,h2];simp
 ·simp at h;apply qas;simp;apply qR;simp[zS];apply qa7;simp[zQ,Tryz.f189];refine⟨[],[],?_,FitH.empty⟩;rw[hx,List.drop_eq_nil_of_le (by omega)];exact qbd rfl
theorem qo9{α:Type} {p:α->Bool}:∀(L:List α) (k:Nat),(qal p L k = -1/\∀a,a∈L->p a=false)\/∃i,∃h:i < L.length,qal p L k=(k+i:Nat)/\p L[i]=true/\∀a,a∈L.take i->p a=false
 |[],k=>.inl ⟨rfl,fun a ha=>by cases ha⟩
 |x::r,k=>by
  by_cases hx:p x=true
  ·exact .inr ⟨0,by simp,by simp[qal,hx],by simpa using hx,fun a ha=>by simp at ha⟩
  ·simp only[Bool.not_eq_true]at hx;rcases qo9 r (k+1)with⟨h1,h2⟩|⟨i,h,h1,h2,h3⟩
   ·refine .inl ⟨by rw[qal,if_neg (by simp[hx]),h1],fun a ha=>?_⟩;rcases List.mem_cons.1 ha with rfl|ha
    ·exact hx
    ·exact h2 a ha
   ·refine .inr ⟨i+1,by simpa using h,by simp[qal,hx,h1];omega,by simpa using h2,fun a ha=>?_⟩;rw[List.take_succ_cons]at ha;rcases List.mem_cons.1 ha with rfl|ha
    ·exact hx
    ·exact h3 a ha
def owX(b:Nat) (K:List Int):AV:=match K with
 |[]=>.fslc 1 []
 |_::_=>.slc b 0 K.length (.rest 1)
def owB(b:Nat) (K:List Int):List (Nat × Blk):=match K with
 |[]=>[]
 |_::_=>[(b,.cells (qbm K))]
theorem zao{b:Nat} {K:List Int} (h:K≠[]):owX b K=.slc b 0 K.length (.rest 1):=by cases K<;>first|exact absurd rfl h|rfl
theorem owB_ne{b:Nat} {K:List Int} (h:K≠[]):owB b K=[(b,.cells (qbm K))]:=by cases K<;>first|exact absurd rfl h|rfl
theorem thawI{H:Heap} {b:Nat} {r:List Nat} {cap:Cap} {L:List Int} (h:H.get b=some (.cells (qbm L))):qcy H (1::r) (.slc b 0 L.length cap)=some (qac L):=by have:=qkk (r:=r) (cap:=cap) (qg6 L) (by rw[qc8];exact h);rw[show (qbm L).length=L.length by simp[qbm]]at this;exact this
theorem ixO{b n i:Nat} {cap:Cap} (h:i < n):qan PG 38 (.slc b 0 n cap) (.int .i64 (i:Int))=some (.ptr b i):=by simp[qan,qbj h]
theorem qwz{L:List Int} {i:Nat} (h:i < L.length):qca (qbm L) i=some (.int .i64 L[i]):=by simp[qbm,qgn h,qau]
theorem qwp{L:List Int} {i:Nat} {v:Int} (h:i < L.length):qjh [.int .i64 v] i (qbm L)=some (qbm (L.set i v)):=by have:=lay_at (qg6 L) (i:=i) (e:=.int .i64 v) (by rw[qcd];exact h) rfl;simp only[Nat.mul_one,qc8,AV.cells]at this;rw[this,show (qbm L).set i (.int .i64 v)=qbm (L.set i v) by simp[qbm,qau],qc8]
structure DelOk (L:List Int) (p:Int->Bool) (i j:Nat) (R:List Int):Prop where
 ij:i < j
 jn:j<=L.length
 len:R.length=L.length
 fr:R.take i=(L.take j).filter fun a=>!p a
 bk:R.drop j=L.drop j
theorem DelOk.at{L R:List Int} {p:Int->Bool} {i j:Nat} (h:DelOk L p i j R) (hj:j < L.length):R[j]'(by rw[h.len];exact hj)=L[j]:=by
 have hR:j < R.length:=by rw[h.len];exact hj
 have:=h.bk;rw[List.drop_eq_getElem_cons hR,List.drop_eq_getElem_cons hj]at this;exact(List.cons.inj this).1
theorem DelOk.keep{L R:List Int} {p:Int->Bool} {i j:Nat} (h:DelOk L p i j R) (hj:j < L.length) (hp:p L[j]=false):DelOk L p (i+1) (j+1) (R.set i L[j]):=by
 have hR:j < R.length:=by rw[h.len];exact hj
 have hij:=h.ij;refine⟨by omega,by omega,by simp[h.len],?_,?_⟩
 ·rw[List.take_succ_eq_append_getElem hj,List.filter_append,<- h.fr,List.take_succ_eq_append_getElem (by simp;omega)];simp[hp,List.take_set_of_le]
 ·rw[List.drop_set_of_lt (by omega)];have:=h.bk;rw[List.drop_eq_getElem_cons hR,List.drop_eq_getElem_cons hj]at this;exact(List.cons.inj this).2
theorem DelOk.pass{L R:List Int} {p:Int->Bool} {i j:Nat} (h:DelOk L p i j R) (hj:j < L.length) (hp:p L[j]=true):DelOk L p i (j+1) R:=by
 have hR:j < R.length:=by rw[h.len];exact hj
 have hij:=h.ij;refine⟨by omega,by omega,h.len,?_,?_⟩
 ·rw[List.take_succ_eq_append_getElem hj,List.filter_append,<- h.fr];simp[hp]
 ·have:=h.bk;rw[List.drop_eq_getElem_cons hR,List.drop_eq_getElem_cons hj]at this;exact(List.cons.inj this).2
theorem DelOk.start{L:List Int} {p:Int->Bool} {i:Nat} (hi:i < L.length) (hp:p L[i]=true) (hb:∀a,a∈L.take i->p a=false):DelOk L p i (i+1) L:=by
 refine⟨by omega,by omega,rfl,?_,rfl⟩;rw[List.take_succ_eq_append_getElem hi,List.filter_append];have:(L.take i).filter (fun a=>!p a)=L.take i:=List.filter_eq_self.2 fun a ha=>by simp[hb a ha]
 simp[this,hp]
def zrs(n:Nat):List Int:=List.replicate n 0
theorem qw5:∀(n:Nat),replL [.int .i64 0] n=qbm (zrs n)
 |0=>rfl
 |n+1=>by simp only[replL,qw5 n,zrs,List.replicate_succ,qbm,List.map_cons];rfl
theorem qxf{m i n:Nat} {f:List (Nat × Blk)} {R:List Int} (hf:getF 0 f=none) (hs:setF 0 (.cells (qbm (R.take i++zrs (n - i)))) f=none) (hR:R.length=n) (hi:i < n) :
  qq0 PG ⟨m,[f,[(0,.cells (qbm R))]]⟩ 38 (.slc 0 i (n - i) (.rest 1))=some ⟨m,[f,[(0,.cells (qbm (R.take i++zrs (n - i))))]]⟩:=by
 have hl:=lay_end (qg6 R) (i:=i) (l:=qbm (zrs (n - i))) (by rw[qcd];omega) (by rw[qcd,qcd,hR];simp[zrs]);rw[Nat.mul_one,qc8]at hl;have e:qa8 ((qbm R).take i)++qbm (zrs (n - i))=qbm (R.take i++zrs (n - i)):=by rw[show (qbm R).take i=qbm (R.take i) by simp[qbm],qc8];simp[qbm]
 rw[e]at hl;have hsng:allSingle (qbm (zrs (n - i)))=true:=by
  have:∀(l:List Int),allSingle (qbm l)=true:=by
   intro l;induction l with
   |nil=>rfl
   |cons x r ih=>simp only[qbm,List.map_cons,allSingle,qau,AV.single]at ih ⊢;exact ih
  exact this _
 have hz:qbq PG 3=some (.int .i64 0):=qvk;have hsz:qc1 PG 3=some 1:=qmt;have hrf:(qbm (zrs (n - i))).flatMap (refs 6)=[]:=by
  have:∀(l:List Int),(qbm l).flatMap (refs 6)=[]:=by
   intro l;induction l with
   |nil=>rfl
   |cons x r ih=>simp only[qbm,List.map_cons,List.flatMap_cons,qau,refs]at ih ⊢;exact ih
  exact this _
 simp only[qq0,Tryz.underlying38,Option.bind_some,hz,hsz];simp[AV.cells,allSingle,AV.single,qw5,writeCells,Heap.get,getFs,hf,getF,Blk.wt,hl,Heap.ready,hrf,Heap.set,setFs,hs,setF,Blk.re]
theorem c1310(clo:FuncId) (cap:List AV) (hc:qa3 cap=true) :
  CallAt (ctx T) 131 [.fslc 1 [],.func (.func clo) [] cap] zH (.fslc 1 []) zH:=by
 have hi:=c189 (T:=T) [] (by simp) clo cap hc (fun _=>false) (fun a ha=>by cases ha);have hk:=hi.lift (by simp[qa3,qa2,qac,hc]) ⟨0,[[]]⟩;simp only[qac,List.map_nil,qal]at hk;refine qa0 (s0:=⟨[0,1,4,5,6,7],[.fslc 1 [],.func (.func clo) [] cap,uD,uD,uD,uD],[],42,⟨0,[[]]⟩⟩) Tryz.func131 rfl rfl rfl ?_;apply qR;simp[zS];repeat apply wq
 refine qam (qbu [⟨189,_,_,_,_,hk⟩]) ?_;simp[zS,qd9];apply qR;simp[zS];apply qah rfl;apply qR;simp[zS];apply qa7;simp[zQ,Tryz.f131];exact⟨[],[],by simp[qap,qa2],FitH.empty⟩
theorem fitD{n m:Nat} {f:List (Nat × Blk)} {K:List Int} (hf:getF 0 f=none) (hn:n<=1):FitH n [(0,0)] [] ⟨m,[f,[(0,.cells (qbm K))]]⟩ ⟨1,[[],[(0,.cells (qbm K))]]⟩:=by refine .same (by simp) (by simp) (by simp) hn (by simp[Heap.ents]) ?_;intro e he;simp[Heap.ents]at he;subst he;exact⟨by simp,by simp[Heap.get,getFs,hf,getF],qao (qh1 _)⟩
theorem c131(L:List Int) (hl:L.length<=1000) (hne:L≠[]) (clo:FuncId) (cap:List AV) (hc:qa3 cap=true) (p:Int->Bool) (hp:∀a,a∈L->CallAt (ctx T) clo (.int .i64 a::cap) zH (.bool (p a)) zH) :
  CallAt (ctx T) 131 [.slc 0 0 L.length (.rest 1),.func (.func clo) [] cap] ⟨1,[[(0,.cells (qbm L))]]⟩ (owX 0 (L.filter fun a=>!p a)) ⟨1,[owB 0 (L.filter fun a=>!p a)]⟩:=by
 have hk:=CallAt.thaw (c189 (T:=T) L hl clo cap hc p hp) rfl [[1],[]] (H:=⟨1,[[],[(0,.cells (qbm L))]]⟩) (args:=[.slc 0 0 L.length (.rest 1),.func (.func clo) [] cap])
  (by simp[qbb,thawI (H:=⟨1,[[],[(0,.cells (qbm L))]]⟩) (b:=0) (r:=[]) (cap:=.rest 1) (L:=L) rfl,qaj,okV,qa2,qa3,hc])
 have ends:∀(m:Nat) (K:List Int),K≠[]->FitH 1 [(0,0)] [] ⟨m,[[],[(0,.cells (qbm K))]]⟩ ⟨1,[owB 0 K]⟩:=fun m K hK=>by rw[owB_ne hK];refine .same (by simp) (by simp) (by simp) (by simp) (by simp[Heap.ents]) ?_;intro e he;simp[Heap.ents]at he;subst he;exact⟨by simp,by simp[zG],qao (qh1 _)⟩
 refine qa0 (s0:=⟨[0,1,4,5,6,7],[.slc 0 0 L.length (.rest 1),.func (.func clo) [] cap,uD,uD,uD,uD],[],42,⟨1,[]::[[(0,.cells (qbm L))]]⟩⟩) Tryz.func131 rfl rfl rfl ?_;apply qR;simp[zS];repeat apply wq
 refine qam (qbu [⟨189,_,_,_,_,hk⟩]) ?_;simp[zS,qd9];rcases qo9 (p:=p) L 0 with⟨h1,h2⟩|⟨i0,hi0,h1,h2,h3⟩
 ·have hK:(L.filter fun a=>!p a)=L:=List.filter_eq_self.2 fun a ha=>by simp[h2 a ha]
  apply qR;simp[zS,h1];apply qah rfl;apply qR;simp[zS];apply qa7;simp[zQ,Tryz.f131];rw[hK];exact⟨[(0,0)],[],by rw[zao hne];simp[qap,qav],ends _ L hne⟩
 ·rw[Nat.zero_add]at h1;have hno:¬ ((i0:Int) = -1):=by omega
  apply qR;simp[zS,h1,hno];apply qai rfl;apply qa6;simp;apply qR;simp[zS,qbo (show i0<=1000000000 by omega)];refine qa4 (qb1 (fun x:Nat × Nat × List Int=>(⟨[0,1,4,5,6,7],[.slc 0 0 L.length (.rest 1),.func (.func clo) [] cap,uD,.int .i64 x.1,.int .i64 x.2.1,uD],[],42,⟨1,[[],[(0,.cells (qbm x.2.2))]]⟩⟩ : St))
   (fun x=>DelOk L p x.1 x.2.1 x.2.2) (fun x=>L.length - x.2.1) [(0,0)] [] (i0,i0+1,L) (.start hi0 h2 h3) ⟨rfl,rfl,rfl,by simp[qax,qap,qav,qa2,qa3,hc],fitD rfl (by omega)⟩ ?_)
  rintro⟨i,j,R⟩ hx B hB;simp only at hx;have hij:=hx.ij;have hjn:=hx.jn;have hRl:=hx.len;apply qR;simp[zS,qeq];refine qbf rfl (fun h=>?_) fun h=>?_
  ·simp at h;apply qa6;simp;repeat apply wq
   apply qa4;have hR:j < R.length:=(by omega);apply qR;simp[zS,ixO h,qwz hR,hx.at h];have hcall:=(hp L[j] (List.getElem_mem _)).lift (by simp[qa3,qa2,hc]) ⟨1,[[],[(0,.cells (qbm R))]]⟩;repeat apply wq
   refine qam (qbu [⟨clo,_,_,_,_,hcall⟩]) ?_;rcases Bool.eq_false_or_eq_true (p L[j])with hv|hv
   case inr=>
    simp[zS,qd9,hv];apply qah rfl;apply qR;simp[zS,ixO (show i < L.length by omega),qwp (L:=R) (show i < R.length by omega),qbo (show i<=1000000000 by omega)];apply qR;simp[zS,qbo (show i<=1000000000 by omega)];apply qR;simp[zS,qbo (show j<=1000000000 by omega)];exact hB _ (i+1,j+1,R.set i L[j]) (by simp;omega) (hx.keep h hv) ⟨[(0,0)],[],rfl,rfl,rfl,by simp[qax,qap,qav,qa2,qa3,hc],fitD rfl (by omega)⟩
   case inl=>
    simp[zS,qd9,hv];apply qai rfl;apply qa6;simp;apply qR;simp[zS,qbo (show j<=1000000000 by omega)];exact hB _ (i,j+1,R) (by simp;omega) (hx.pass h hv) ⟨[(0,0)],[],rfl,rfl,rfl,by simp[qax,qap,qav,qa2,qa3,hc],fitD rfl (by omega)⟩
  ·simp at h;have hje:j=L.length:=(by omega);subst hje;have hfr:R.take i=L.filter fun a=>!p a:=(by have:=hx.fr;rwa [List.take_length]at this);apply qas;simp;have hs1:=qpd (P:=PG) (H:=⟨1,[[],[(0,.cells (qbm R))]]⟩) (t:=38) (elem:=3) (sz:=1) (b:=0) (cs:=qbm R) (len:=L.length) (i:=i) Tryz.underlying38 qmt (by omega) rfl (by rw[qcd,hRl];omega) (by omega);have hcl:=qxf (m:=1) (i:=i) (n:=L.length) (f:=[]) (R:=R) rfl rfl hRl (by omega);have hs2:=qqd (P:=PG) (H:=⟨1,[[],[(0,.cells (qbm (R.take i++zrs (L.length - i))))]]⟩) (t:=38) (elem:=3) (sz:=1) (b:=0) (cs:=qbm (R.take i++zrs (L.length - i))) (len:=L.length) (i:=i) Tryz.underlying38 qmt (by omega) rfl (by rw[qcd];simp[zrs];omega) (by omega) (by omega);apply qR;simp[zS,hs1,hcl,qg2];apply qR;simp[zS,hs2,qg2];rw[<- hfr];have hKl:(R.take i).length=i:=(by simp;omega);generalize R.take i=K at *;cases K with
   |nil=>
    apply qa7;simp[zQ,Tryz.f131];refine⟨[],[],?_,?_⟩
    ·simp only[List.length_nil]at hKl;subst hKl;simp[owX,qap]
    ·exact FitH.same (by simp) (by simp) (by simp) (by simp) (by simp[owB,Heap.ents]) (fun e he=>by simp[owB,Heap.ents]at he)
   |cons k K=>refine .shr (H':=⟨1,[[],[(0,.cells (qbm (k::K)))]]⟩) ⟨rfl,⟨rfl,.inr ⟨qbm (k::K),qbm (zrs (L.length - i)),by simp[qbm],rfl⟩,trivial⟩⟩ ?_;apply qa7;simp[zQ,Tryz.f131];refine⟨[(0,0)],[],?_,ends _ (k::K) (by simp)⟩;rw[zao (by simp),hKl];simp[qap,qav]
section
variable {ρ ρ':Place} {H H':Heap} {w w':World} {b:Nat} {k k':Blk}
end
theorem qj8{σ:List (Nat × Nat)} {Φ:List (Nat × List AV)}:∀{a a' b b':List AV},qax σ Φ a a'->qax σ Φ b b'->qax σ Φ (a++b) (a'++b')
 |[],[],_,_,_,h=>h
 |x::a,y::a',b,b',h,k=>by simp only[List.cons_append,qax]at h ⊢;exact⟨h.1,qj8 h.2 k⟩
 |[],_::_,_,_,h,_=>by simp[qax]at h
 |_::_,[],_,_,h,_=>by simp[qax]at h
section
variable {C:Ctx} {f:FuncId} {args:List AV} {v:AV} {H:Heap} {bt nb n n':Nat} {cap cap':Cap} {pre post cs cs':List AV}
end
def isB(t:Tr) (i:Int):Bool:=decide (0<=i) && decide (i < (t.length:Int))
theorem c88(t:Tr) (i:Int):CallAt (ctx T) 88 [qba t,.int .i64 i] zH (.bool (isB t i)) zH:=by
 refine qa0 (s0:=⟨[0,1,2,4],[qba t,.int .i64 i,uD,uD],[],14,⟨0,[[]]⟩⟩) Tryz.func88 rfl rfl rfl ?_;apply qR;simp[zS,qba];by_cases h:0<=i
 ·apply qR;simp[zS,lenN,h];apply qa7;simp[zQ,Tryz.f88];exact qak rfl (by simp[isB,h])
 ·apply qR;simp[zS,lenN,h];apply qa7;simp[zQ,Tryz.f88];exact qak rfl (by simp[isB,h])
def qmd(t:Tr) (up:Int):Nat->Int->Bool
 |0,_=>false
 |n+1,kid=>if isB t kid=true then (if kid=up then true else qmd t up n (qa1 t kid).up) else false
def qif(t:Tr) (up kid:Int):Bool:=isB t up && qmd t up (t.length+1) kid
theorem qzm(H:Heap) (t:Tr):qcy H [7] (qba t)=some (qba t):=qaj (by simp)
def e88:Entry PG:=mkE 88 [[7],[]] (fun x:Tr × Int=>[qba x.1,.int .i64 x.2]) (fun _=>True) (fun x=>.bool (isB x.1 x.2)) fun x _=>c88 (T:=[]) x.1 x.2
theorem k88(hT:qa9 88 T=some e88.g) (t:Tr) (i:Int) (H:Heap):qat (ctx T) (.fn 88) [qba t,.int .i64 i] H=some (.bool (isB t i),H):=
 qb2 hT injTI (t,i) trivial rfl (by simp[qzm])
theorem c89(hS:qa9 88 T=some e88.g) (t:Tr) (ht:t.length<=1000000) (up kid:Int):CallAt (ctx T) 89 [qba t,.int .i64 up,.int .i64 kid] zH (.bool (qif t up kid)) zH:=by
 have ks:=fun i H=>k88 hS t i H;simp only[qba]at ks;refine qa0 (s0:=⟨[0,1,2,3,6,14,15],[qba t,.int .i64 up,.int .i64 kid,uD,uD,uD,uD],[],31,⟨0,[[]]⟩⟩) Tryz.func89 rfl rfl rfl ?_;apply qR;simp[zS,qba];apply qR;simp[zS,qba,ks];cases h0:isB t up with
 |false=>apply qah rfl;apply qR;simp[zS];apply qa7;simp[zQ,Tryz.f89];exact qak rfl (by simp[qif,h0])
 |true=>
  apply qai rfl;apply qa6;simp;apply qR;simp[zS,lenN,qba,qbo (show t.length<=1000000000 by omega)];refine qa4 (qb1 (fun x:Nat × Int=>(⟨[0,1,2,3,6,14,15],[uD,.int .i64 up,.int .i64 x.2,.ptr 0 0,uD,.int .i64 ((t.length:Int)+1),.int .i64 (x.1:Int)],[],31,⟨1,[[(0,.cells [qcf t])]]⟩⟩ : St))
   (fun x=>x.1<=t.length+1/\qmd t up (t.length+1) kid=qmd t up (t.length+1 - x.1) x.2) (fun x=>t.length+1 - x.1) [(0,0)] [] (0,kid) ⟨by omega,rfl⟩ ⟨rfl,rfl,rfl,by simp[qax,qap,qav,qa2],.id1 (g:=[(0,.cells [qcf t])]) (by simp) (by simp) (by simp[zG,qa3])⟩ ?_)
  rintro⟨i,k⟩ ⟨hi,hx⟩ B hB;simp only at hi hx;by_cases h:i < t.length+1
  ·have hc:(i:Int) < (t.length:Int)+1:=(by omega);have hs:t.length+1 - i=(t.length - i)+1:=(by omega);rw[hs]at hx;apply qR;simp[zS,hc];repeat apply wq
   apply qah rfl;apply qa6;simp;repeat apply wq
   apply qa4;apply qR;simp[zS,ks];cases h1:isB t k with
   |false=>apply qah rfl;apply qR;simp[zS];apply qa7;simp[zQ,Tryz.f89];exact qak rfl (by unfold qif;rw[h0,hx];simp[h0,qmd,h1])
   |true=>
    apply qai rfl;apply qa6;simp;by_cases h2:k=up
    ·apply qR;simp[zS,h2];apply qah rfl;apply qR;simp[zS];apply qa7;simp[zQ,Tryz.f89];exact qak rfl (by unfold qif;rw[h0,hx];simp[h0,qmd,h1,h2])
    ·have hk:0<=k/\k < (t.length:Int):=(by simpa[isB]using h1);apply qR;simp[zS,h2];apply qai rfl;apply qa6;simp;apply qR;simp[zS,atX hk.1 hk.2,Nd.cs,qau];apply qR;simp[zS,qbo (show i<=1000000000 by omega)];refine hB _ (i+1,(qa1 t k).up) (by simp only;omega) ⟨by simp only;omega,?_⟩ ⟨[(0,0)],[],rfl,rfl,rfl,by simp[qax,qap,qav,qa2],.id1 (g:=[(0,.cells [qcf t])]) (by simp) (by simp) (by simp[zG,qa3])⟩;simp only;rw[show t.length+1 - (i+1)=t.length - i by omega,hx];simp[h0,qmd,h1,h2]
  ·have hc:¬ (i:Int) < (t.length:Int)+1:=(by omega);rw[show t.length+1 - i=0 by omega]at hx;apply qR;simp[zS,hc];repeat apply wq
   apply qai rfl;apply qas;simp;apply qR;simp[zS];apply qa7;simp[zQ,Tryz.f89];exact qak rfl (by unfold qif;rw[h0,hx];simp[h0,qmd])
theorem injTII(x y:Tr × Int × Int) (h:[qba x.1,.int .i64 x.2.1,.int .i64 x.2.2]=[qba y.1,.int .i64 y.2.1,.int .i64 y.2.2]):x=y:=by simp at h;exact Prod.ext (qfg h.1) (Prod.ext h.2.1 h.2.2)
theorem q88(hT:qa9 88 T=some e88.g) {a:AV} {H:Heap} {t:Tr} (ha:qcy H [7] a=some (qba t)) (i:Int):qat (ctx T) (.fn 88) [a,.int .i64 i] H=some (.bool (isB t i),H):=
 qb2 hT injTI (t,i) trivial rfl (by simp[ha])
structure WordAt (s x:Str) (p:Nat):Prop where
 room:p+x.length<=s.length
 occ:(s.drop p).take x.length=x
 pre:∀c,0 < p->s[p - 1]? = some c->sp c=true
 post:∀c,s[p+x.length]? = some c->sp c=true
structure WInv (s:Str) (i:Nat) (st:List Str × Str):Prop where
 le:i<=s.length
 words:∀w,w∈st.1->∃p,WordAt s w p
 len:st.2.length<=i
 cur:(s.take i).drop (i - st.2.length)=st.2
 pre:∀c,0 < i - st.2.length->s[i - st.2.length - 1]? = some c->sp c=true
theorem winv{s:Str}:∀(i:Nat),i<=s.length->WInv s i (wst (s.take i))
 |0,_=>by
  have e:wst (s.take 0)=([],[]):=by simp[wst]
  rw[e];exact⟨Nat.zero_le _,fun w h=>(by cases h),Nat.le_refl _,rfl,fun c h=>absurd h (Nat.lt_irrefl 0)⟩
 |i+1,hi=>by
  have ih:=winv (s:=s) i (by omega);have hlt:i < s.length:=by omega
  rw[qkg hlt];generalize wst (s.take i)=st at ih;obtain⟨W,c⟩:=st;have ihl:=ih.len;have ihc:=ih.cur;have ihp:=ih.pre;simp only at ihl ihc ihp;unfold qea;by_cases hs:sp s[i]=true
  ·rw[if_pos hs];refine⟨hi,?_,Nat.zero_le _,?_,?_⟩
   ·intro w hw;simp only at hw;by_cases hc:c=[]
    ·rw[if_pos hc]at hw;exact ih.words w hw
    ·rw[if_neg hc]at hw;rcases List.mem_append.1 hw with hw|hw
     ·exact ih.words w hw
     ·rw[List.mem_singleton]at hw;subst hw;refine⟨i - w.length,by omega,?_,fun d h1 h2=>ihp d h1 h2,fun d h=>?_⟩
      ·rw[List.drop_take,show i - (i - w.length)=w.length by omega]at ihc;exact ihc
      ·rw[show i - w.length+w.length=i by omega,List.getElem?_eq_getElem hlt,sj]at h;rw[<- h];exact hs
   ·simp
   ·intro d _ h;simp only[List.length_nil,Nat.sub_zero,Nat.add_sub_cancel]at h;rw[List.getElem?_eq_getElem hlt,sj]at h;rw[<- h];exact hs
  ·rw[if_neg hs];refine⟨hi,ih.words,by simp;omega,?_,?_⟩
   ·simp only[List.length_append,List.length_singleton];rw[show i+1 - (c.length+1)=i - c.length by omega,List.take_succ_eq_append_getElem hlt,List.drop_append_of_le_length (by simp;omega),ihc]
   ·simp only[List.length_append,List.length_singleton];rw[show i+1 - (c.length+1)=i - c.length by omega];exact ihp
theorem word_at{s x:Str} (h:x∈qe5 s):∃p,WordAt s x p:=by
 have inv:=winv (s:=s) s.length (Nat.le_refl _);rw[List.take_of_length_le (Nat.le_refl _)]at inv;unfold qe5 qzi at h;generalize wst s=st at *;obtain⟨W,c⟩:=st;have il:=inv.len;have ic:=inv.cur;have ip:=inv.pre;simp only at il ic ip h;by_cases hc:c=[]
 ·rw[if_pos hc]at h;exact inv.words x h
 ·rw[if_neg hc]at h;rcases List.mem_append.1 h with h|h
  ·exact inv.words x h
  ·rw[List.mem_singleton]at h;subst h;refine⟨s.length - x.length,by omega,?_,ip,fun d h=>?_⟩
   ·rw[List.take_of_length_le (Nat.le_refl _)]at ic;rw[ic,List.take_of_length_le (Nat.le_refl _)]
   ·rw[show s.length - x.length+x.length=s.length by omega,List.getElem?_eq_none (Nat.le_refl _)]at h;cases h
theorem word_ne{s x:Str} (h:x∈qe5 s):x≠[]:=by
 have key:∀(l:Str) (st:List Str × Str),(∀w,w∈st.1->w≠[])->∀w,w∈(l.foldl qea st).1->w≠[]:=by
  intro l;induction l with
  |nil=>intro st h;exact h
  |cons c r ih=>
   intro st h;rw[List.foldl_cons];refine ih _ ?_;intro w hw;unfold qea at hw;split at hw
   ·simp only at hw;split at hw
    ·exact h w hw
    ·rename_i hn;rcases List.mem_append.1 hw with hw|hw
     ·exact h w hw
     ·rw[List.mem_singleton]at hw;rw[hw];exact hn
   ·exact h w hw
 unfold qe5 qzi at h;split at h
 ·exact key s ([],[]) (fun w h=>by cases h) x h
 ·rename_i hn;rcases List.mem_append.1 h with h|h
  ·exact key s ([],[]) (fun w h=>by cases h) x h
  ·rw[List.mem_singleton]at h;rw[h];exact hn
def qul:Go.Shelf.Ren:=⟨fun | 143=>190 | 219=>212 | 217=>223 | 225=>224 | 224=>225 | 267=>226 | 266=>233 | 314=>234|n=>n,fun | 9=>9 | 3=>3 | 4=>4 | 5=>5 | 46=>175 | 146=>184 | 51=>183|n=>n,fun | 1=>0|n=>n⟩
theorem lays143:Go.Proofs.Lays.n143 PG qul where
 mixed:=by kernel_rfl
 f143:=Tryz.func190.trans (congrArg some (by kernel_rfl))
 f217:=Tryz.func223.trans (congrArg some (by kernel_rfl))
 f219:=Tryz.func212.trans (congrArg some (by kernel_rfl))
 f224:=Tryz.func225.trans (congrArg some (by kernel_rfl))
 f225:=Tryz.func224.trans (congrArg some (by kernel_rfl))
 f266:=Tryz.func233.trans (congrArg some (by kernel_rfl))
 f267:=Tryz.func226.trans (congrArg some (by kernel_rfl))
 f314:=Tryz.func234.trans (congrArg some (by kernel_rfl))
 t3:=Tryz.underlying3
 a3:=Tryz.isAgg3
 z3:=Tryz.sizeOf3
 v3:=Tryz.zeroValue3
 t4:=Tryz.underlying4
 a4:=Tryz.isAgg4
 z4:=Tryz.sizeOf4
 v4:=Tryz.zeroValue4
 t5:=Tryz.underlying5
 a5:=Tryz.isAgg5
 z5:=Tryz.sizeOf5
 v5:=Tryz.zeroValue5
 t9:=Tryz.underlying9
 a9:=Tryz.isAgg9
 z9:=Tryz.sizeOf9
 v9:=Tryz.zeroValue9
 t46:=Tryz.underlying175
 a46:=Tryz.isAgg175
 z46:=Tryz.sizeOf175
 v46:=Tryz.zeroValue175
 t51:=Tryz.underlying183
 a51:=Tryz.isAgg183
 z51:=Tryz.sizeOf183
 v51:=Tryz.zeroValue183
 t146:=Tryz.underlying184
 a146:=Tryz.isAgg184
 z146:=Tryz.sizeOf184
 v146:=Tryz.zeroValue184
 g1:=by kernel_rfl
theorem index_at(s sub:ByteArray) (m:Int) (w:World) (hs:s.size < 4294967281) (hm:w.cell? ⟨0,0,none⟩=some (.int .i64 m)) :
  Calls PG 190 #[.string s,.string sub] w fun e w'=>e=.returned (.int .i64 (Lib.index s.data.toList sub.data.toList))/\w'=w:=Any.strings_Index lays143 s sub m w hs hm
theorem c190(s t:Str) (hl:s.length<=1000000):CallAt (ctx T) 190 [.str s,.str t] zH (.int .i64 (Lib.index s t)) zH:=by
 intro ρ w xs sm hx
 match xs,hx with
 |[x,y],hx=>
  have h0:=hx.2 0 (by simp) (by simp);have h1:=hx.2 1 (by simp) (by simp);simp only[List.getElem_cons_zero,List.getElem_cons_succ]at h0 h1;cases h0;cases h1;obtain⟨hB,m,hm⟩:=ρ.gl 0 (by simp[globs]);have hc:w.cell? ⟨0,0,none⟩=some (.int .i64 m):=by rw[World.cell?,sm.below 0 hB];exact hm
  have hrun:(callFunc 190 #[.string ⟨s.toArray⟩,.string ⟨t.toArray⟩]).run (ctx T).P w=.ok (.enter 190 #[.string ⟨s.toArray⟩,.string ⟨t.toArray⟩]) w:=by
   have hf:(ctx T).P.funcs[190]? = some Tryz.f190:=Tryz.func190
   have hn : ¬ Tryz.f190.name = "runtime.NumGoroutine" := by decide +kernel
   simp[callFunc,hf,hn,Tryz.f190]
  refine .inr ⟨190,_,hrun,callsIn_wide.2 ((index_at ⟨s.toArray⟩ ⟨t.toArray⟩ m w ?_ hc).mono ?_)⟩
  ·show s.toArray.size < _;simp;omega
  ·rintro e w' ⟨rfl,rfl⟩;exact⟨_,ρ,rfl,.int _ _,sm,Step.refl _ _ _⟩
def e190:Entry PG:=mkE 190 [[],[]] (fun x:Str × Str=>[.str x.1,.str x.2]) (fun x=>x.1.length<=1000000) (fun x=>.int .i64 (Lib.index x.1 x.2)) fun x h=>c190 (T:=[]) x.1 x.2 h
theorem k190(hT:qa9 190 T=some e190.g) {s t:Str} (h1:s.length<=1000000) (H:Heap):qat (ctx T) (.fn 190) [.str s,.str t] H=some (.int .i64 (Lib.index s t),H):=
 qb2 hT inj_str2 (s,t) h1 rfl (by simp)
theorem c191(c:UInt8):CallAt (ctx T) 191 [.int .u8 c.toNat] zH (.bool (sp c)) zH:=by
 refine qa0 (s0:=⟨[0,2,3,4],[.int .u8 c.toNat,uD,uD,uD],[],10,⟨0,[[]]⟩⟩) Tryz.func191 rfl rfl rfl ?_;apply qR;simp[zS];apply qR;simp[zS];apply qa4;by_cases h1:(c.toNat:Int)=9
 ·(repeat (first
   |(apply qaa)
   |(apply qa4)
   |(apply qdq;simp only[qab,qa5])
   |((refine qam qb6 ?_);simp[zS,h1])
   |apply qah rfl
   |apply qai rfl
   |((apply qa6);simp only[qab,qa5])
   |((apply qas);simp)))
  apply qa7;simp[zQ,Tryz.f191];exact qak rfl (by simp[sp,h1])
 by_cases h2:(c.toNat:Int)=10
 ·(repeat (first
   |(apply qaa)
   |(apply qa4)
   |(apply qdq;simp only[qab,qa5])
   |((refine qam qb6 ?_);simp[zS,h1,h2])
   |apply qah rfl
   |apply qai rfl
   |((apply qa6);simp only[qab,qa5])
   |((apply qas);simp)))
  apply qa7;simp[zQ,Tryz.f191];exact qak rfl (by simp[sp,h2])
 by_cases h3:(c.toNat:Int)=12
 ·(repeat (first
   |(apply qaa)
   |(apply qa4)
   |(apply qdq;simp only[qab,qa5])
   |((refine qam qb6 ?_);simp[zS,h1,h2,h3])
   |apply qah rfl
   |apply qai rfl
   |((apply qa6);simp only[qab,qa5])
   |((apply qas);simp)))
  apply qa7;simp[zQ,Tryz.f191];exact qak rfl (by simp[sp,h3])
 by_cases h4:(c.toNat:Int)=13
 ·(repeat (first
   |(apply qaa)
   |(apply qa4)
   |(apply qdq;simp only[qab,qa5])
   |((refine qam qb6 ?_);simp[zS,h1,h2,h3,h4])
   |apply qah rfl
   |apply qai rfl
   |((apply qa6);simp only[qab,qa5])
   |((apply qas);simp)))
  apply qa7;simp[zQ,Tryz.f191];exact qak rfl (by simp[sp,h4])
 by_cases h5:(c.toNat:Int)=32
 ·(repeat (first
   |(apply qaa)
   |(apply qa4)
   |(apply qdq;simp only[qab,qa5])
   |((refine qam qb6 ?_);simp[zS,h1,h2,h3,h4,h5])
   |apply qah rfl
   |apply qai rfl
   |((apply qa6);simp only[qab,qa5])
   |((apply qas);simp)))
  apply qa7;simp[zQ,Tryz.f191];exact qak rfl (by simp[sp,h5])
 ·(repeat (first
   |(apply qaa)
   |(apply qa4)
   |(apply qdq;simp only[qab,qa5])
   |((refine qam qb6 ?_);simp[zS,h1,h2,h3,h4,h5])
   |apply qah rfl
   |apply qai rfl
   |((apply qa6);simp only[qab,qa5])
   |((apply qas);simp)))
  apply qa7;simp[zQ,Tryz.f191];exact qak rfl (by simp[sp,h1,h2,h3,h4,h5])
def e191:Entry PG:=mkE 191 [[]] (fun x:UInt8=>[.int .u8 x.toNat]) (fun _=>True) (fun x=>.bool (sp x)) fun x _=>c191 (T:=[]) x
theorem k191(hT:qa9 191 T=some e191.g) (c:UInt8) (H:Heap):qat (ctx T) (.fn 191) [.int .u8 c.toNat] H=some (.bool (sp c),H):=
 qb2 hT inj_u8 c trivial rfl (by simp)
theorem occ_iff{s x:Str} {i:Nat}:Lib.occAt s x i=true↔(s.drop i).take x.length=x:=by unfold Lib.occAt;rw[List.isPrefixOf_iff_prefix,List.prefix_iff_eq_take];exact eq_comm
theorem c133(hI:qa9 190 T=some e190.g) (hS:qa9 191 T=some e191.g) (W x:Str) (hl:W.length<=100000) (hx1:x.length<=1000000000)
  (hsp:CallAt (ctx T) 193 [.str W] zH (qd4 (qe5 W)) zH) (hco:CallAt (ctx T) 192 [qd4 (qe5 W),.str x] zH (.bool (decide (x∈qe5 W))) zH) :
  CallAt (ctx T) 133 [.str W,.str x] zH (.bool (inW W x)) zH:=by
 have h1:=hsp.lift (by simp[qa3,qa2]) ⟨0,[[]]⟩;have h2:=hco.lift (by simp[qd4,qa3,qa2]) ⟨0,[[]]⟩;refine qa0 (s0:=⟨[0,1,4,5,6,7,8],[.str W,.str x,uD,uD,uD,uD,uD],[],52,⟨0,[[]]⟩⟩) Tryz.func133 rfl rfl rfl ?_;apply qR;simp[zS];by_cases hx:x=[]
 ·apply qR;simp[zS,hx];apply qah rfl;apply qR;simp[zS];apply qa7;simp[zQ,Tryz.f133];exact qak rfl (by simp only[inW];symm;simp;intro h;exact word_ne h rfl)
 apply qR;simp[zS,hx];apply qai rfl;apply qa6;simp;have hx0:0 < x.length:=List.length_pos_iff.2 hx;apply qR;simp[zS];refine qa4 (qb1 (fun i:Nat=>(⟨[0,1,4,5,6,7,8],[.str W,.str x,uD,.int .i64 i,uD,uD,uD],[],52,⟨0,[[]]⟩⟩ : St))
  (fun i=>i<=W.length/\(x∈qe5 W->∃p,i<=p/\WordAt W x p)) (fun i=>W.length+1 - i) [] [] 0 ⟨Nat.zero_le _,fun h=>let ⟨p,hp⟩:=word_at h;⟨p,Nat.zero_le _,hp⟩⟩ ⟨rfl,rfl,rfl,by simp[qax,qap,qa2,qa3],FitH.nothing⟩ ?_)
 rintro i ⟨hi,hw⟩ B hB;have hd:(W.drop i).length<=1000000:=by simp;omega
 apply qa4;rcases Lib.index_spec (W.drop i) x with⟨h0,hn⟩|⟨k,h0,hk,ho,hno⟩
 ·have hnot:¬ x∈qe5 W:=fun h=>by obtain⟨p,hp,hwa⟩:=hw h;have hr:=hwa.room;have:=hn (p - i) (by simp;omega);have h3:Lib.occAt (W.drop i) x (p - i)=true:=occ_iff.2 (by rw[List.drop_drop,show i+(p - i)=p by omega];exact hwa.occ);rw[h3]at this;cases this
  apply qR;simp[zS,slStr hi,k190 hI hd,h0];apply qR;simp[zS];apply qah rfl;apply qR;simp[zS];apply qa7;simp[zQ,Tryz.f133];exact qak rfl (by simp[inW,hnot])
 ·have hk0:¬ (k:Int) < 0:=by omega
  obtain⟨j,hj⟩ : ∃j,j=i+k:=⟨_,rfl⟩;have ho':=occ_iff.1 ho;rw[List.drop_drop,<- hj]at ho';have hroom:j+x.length<=W.length:=by have:=congrArg List.length ho';simp at this;simp at hk;omega
  have a1:wr .i64 ((i:Int)+(k:Int))=some (j:Int):=by rw[qbs (by omega) (by omega),hj];simp
  obtain⟨q,hq⟩ : ∃q,q=j+x.length:=⟨_,rfl⟩;have a2:wr .i64 ((j:Int)+(x.length:Int))=some (q:Int):=by rw[qbs (by omega) (by omega),hq];simp
  have nxt:∀s',¬ WordAt W x j->(∃σ Φ,Fit 0 σ Φ s' (⟨[0,1,4,5,6,7,8],[.str W,.str x,uD,.int .i64 ((j+1:Nat):Int),uD,uD,uD],[],52,⟨0,[[]]⟩⟩ : St))->B s':=fun s' hno2 hf=>
   hB s' (j+1) (by omega) ⟨by omega,fun h=>by
    obtain⟨p,hp,hwa⟩:=hw h;refine⟨p,?_,hwa⟩;have hr:=hwa.room;apply Decidable.byContradiction;intro hlt;rcases Nat.lt_or_ge p j with hpj|hpj
    ·have h3:=hno (p - i) (by omega);have h4:Lib.occAt (W.drop i) x (p - i)=true:=occ_iff.2 (by rw[List.drop_drop,show i+(p - i)=p by omega];exact hwa.occ);rw[h4]at h3;cases h3
    ·have:p=j:=(by omega);subst this;exact hno2 hwa⟩ hf
  apply qR;simp[zS,slStr hi,k190 hI hd,h0];apply qR;simp[zS,hk0];apply qai rfl;apply qa6;simp;apply qR;simp[zS,a1];apply qR;simp[zS,a2];have kS:=fun c H=>k191 hS c H;by_cases c0:j=0
  ·have a4:wr .i64 1=some ((j+1:Nat):Int):=(by rw[c0];rfl);by_cases d0:q=W.length
   ·apply qR;simp[zS,c0,d0];apply qah rfl;repeat apply wq
    refine qam (qbu [⟨193,_,_,_,_,h1⟩,⟨192,_,_,_,_,h2⟩]) ?_;simp[zS,qd9,qd4];apply qa7;simp[zQ,Tryz.f133];exact qak rfl (by simp[inW])
   ·have hql:q < W.length:=(by omega);have d0i:¬ (q:Int)=(W.length:Int):=(by omega);rcases Bool.eq_false_or_eq_true (sp W[q])with d1|d1
    ·apply qR;simp[zS,c0,d0i,qp3 hql,kS,d1];apply qah rfl;repeat apply wq
     refine qam (qbu [⟨193,_,_,_,_,h1⟩,⟨192,_,_,_,_,h2⟩]) ?_;simp[zS,qd9,qd4];apply qa7;simp[zQ,Tryz.f133];exact qak rfl (by simp[inW])
    ·apply qR;simp[zS,c0,d0i,qp3 hql,kS,d1];apply qai rfl;apply qa6;simp;apply qR;simp[zS,a4];exact nxt _ (fun hwa=>by have:=hwa.post _ (by rw[<- hq];exact List.getElem?_eq_getElem hql);rw[d1]at this;cases this) ⟨[],[],⟨rfl,rfl,rfl,by simp[qax,qap,qa2,qa3],FitH.nothing⟩⟩
  ·obtain⟨q1,hq1⟩ : ∃q1,q1+1=j:=⟨j - 1,by omega⟩;have hq1l:q1 < W.length:=(by omega);have a3:wr .i64 ((j:Int) - 1)=some (q1:Int):=(by rw[qbs (by omega) (by omega)];congr 1;omega);rcases Bool.eq_false_or_eq_true (sp W[q1])with c1|c1
   ·skip
    by_cases d0:q=W.length
    ·apply qR;simp[zS,c0,a3,qp3 hq1l,kS,c1,d0];apply qah rfl;repeat apply wq
     refine qam (qbu [⟨193,_,_,_,_,h1⟩,⟨192,_,_,_,_,h2⟩]) ?_;simp[zS,qd9,qd4];apply qa7;simp[zQ,Tryz.f133];exact qak rfl (by simp[inW])
    ·have hql:q < W.length:=(by omega);have d0i:¬ (q:Int)=(W.length:Int):=(by omega);rcases Bool.eq_false_or_eq_true (sp W[q])with d1|d1
     ·apply qR;simp[zS,c0,a3,qp3 hq1l,kS,c1,d0i,qp3 hql,kS,d1];apply qah rfl;repeat apply wq
      refine qam (qbu [⟨193,_,_,_,_,h1⟩,⟨192,_,_,_,_,h2⟩]) ?_;simp[zS,qd9,qd4];apply qa7;simp[zQ,Tryz.f133];exact qak rfl (by simp[inW])
     ·apply qR;simp[zS,c0,a3,qp3 hq1l,kS,c1,d0i,qp3 hql,kS,d1];apply qai rfl;apply qa6;simp;apply qR;simp[zS,qbo (show j<=1000000000 by omega)];exact nxt _ (fun hwa=>by have:=hwa.post _ (by rw[<- hq];exact List.getElem?_eq_getElem hql);rw[d1]at this;cases this) ⟨[],[],⟨rfl,rfl,rfl,by simp[qax,qap,qa2,qa3],FitH.nothing⟩⟩
   ·apply qR;simp[zS,c0,a3,qp3 hq1l,kS,c1];apply qai rfl;apply qa6;simp;apply qR;simp[zS,qbo (show j<=1000000000 by omega)];exact nxt _ (fun hwa=>by have:=hwa.pre _ (by omega) (by rw[<- hq1,Nat.add_sub_cancel];exact List.getElem?_eq_getElem hq1l);rw[c1]at this;cases this) ⟨[],[],⟨rfl,rfl,rfl,by simp[qax,qap,qa2,qa3],FitH.nothing⟩⟩
theorem c213(L:List Str) (x:Str) (hl:L.length<=1000000):CallAt (ctx T) 213 [qd4 L,.str x] zH (.int .i64 (qal (fun y=>decide (x=y)) L 0)) zH:=by
 refine qa0 (s0:=⟨[0,1,4,5,7,8],[qd4 L,.str x,uD,uD,uD,uD],[],19,⟨0,[[]]⟩⟩) Tryz.func213 rfl rfl rfl ?_;apply qR;simp[zS];apply qR;simp[zS,lenS];refine qa4 (qb1 (fun i:Nat=>(⟨[0,1,4,5,7,8],[qd4 L,.str x,uD,uD,.int .i64 (L.length:Nat),.int .i64 i],[],19,⟨0,[[]]⟩⟩ : St))
  (fun i=>i<=L.length/\qal (fun y=>decide (x=y)) L 0=qal (fun y=>decide (x=y)) (L.drop i) i) (fun i=>L.length - i) [] [] 0 ⟨Nat.zero_le _,rfl⟩ ⟨rfl,rfl,rfl,by simp[qax,qap,qa2,qa3,qd4],FitH.nothing⟩ ?_)
 rintro i ⟨hi,hx⟩ B hB;apply qR;simp[zS];repeat apply wq
 refine qbf rfl (fun h=>?_) fun h=>?_
 ·simp at h;rw[qf9 h]at hx;apply qa6;simp;repeat apply wq
  apply qa4;apply qR;simp[zS];by_cases h2:L[i]=x
  ·apply qR;simp[zS,atS h,h2];apply qah rfl;apply qR;simp[zS];apply qa7;simp[zQ,Tryz.f213];exact qak rfl (by rw[hx,if_pos (by simp[h2])])
  ·have h2':¬ x=L[i]:=fun e=>h2 e.symm;apply qR;simp[zS,atS h,h2'];apply qai rfl;apply qa6;simp;apply qR;simp[zS,qbo (show i<=1000000000 by omega)];exact hB _ (i+1) (by omega) ⟨by omega,by rw[hx,if_neg (by simp[h2'])]⟩ ⟨[],[],⟨rfl,rfl,rfl,by simp[qax,qap,qa2,qa3,qd4],FitH.nothing⟩⟩
 ·simp at h;apply qas;simp;apply qR;simp[zS];apply qa7;simp[zQ,Tryz.f213];exact qak rfl (by rw[hx,List.drop_eq_nil_of_le h];rfl)
def e213:Entry PG:=mkE 213 [[1],[]] (fun x:List Str × Str=>[qd4 x.1,.str x.2]) (fun x=>x.1.length<=1000000) (fun x=>.int .i64 (qal (fun y=>decide (x.2=y)) x.1 0)) fun x hx=>c213 (T:=[]) x.1 x.2 hx
theorem injSS(x y:List Str × Str) (h:[qd4 x.1,.str x.2]=[qd4 y.1,.str y.2]):x=y:=by simp at h;exact Prod.ext (qww (by simpa[qd4]using h.1)) h.2
theorem k213(hT:qa9 213 T=some e213.g) {L:List Str} (x:Str) (hl:L.length<=1000000) (H:Heap):qat (ctx T) (.fn 213) [qd4 L,.str x] H=some (.int .i64 (qal (fun y=>decide (x=y)) L 0),H):=
 qb2 hT injSS (L,x) hl rfl (by simp[qd4])
theorem zbk{x:Str}:∀(L:List Str) (k:Nat),(0<=qal (fun y=>decide (x=y)) L k)↔x∈L
 |[],k=>by simp[qal]
 |y::r,k=>by
  unfold qal;by_cases h:x=y
  ·simp[h]
  ·simp only[h,decide_false,Bool.false_eq_true,if_false,List.mem_cons,false_or];exact zbk r (k+1)
theorem c192(hI:qa9 213 T=some e213.g) (L:List Str) (x:Str) (hl:L.length<=1000000):CallAt (ctx T) 192 [qd4 L,.str x] zH (.bool (decide (x∈L))) zH:=by
 have hk:=fun H=>k213 hI x hl H;have hm:=zbk (x:=x) L 0;generalize qal (fun y=>decide (x=y)) L 0=v at *;simp only[qd4]at hk;refine qa0 (s0:=⟨[0,1,4],[qd4 L,.str x,uD],[],9,⟨0,[[]]⟩⟩) Tryz.func192 rfl rfl rfl ?_
 (repeat (first
  |(apply qaa)
  |(apply qa4)
  |(apply qdq;simp only[qab,qa5])
  |((refine qam qb6 ?_);simp[zS,qd4,hk])
  |apply qah rfl
  |apply qai rfl
  |((apply qa6);simp only[qab,qa5])
  |((apply qas);simp)))
 apply qa7;simp[zQ,Tryz.f192];exact qak rfl (by simp[hm])
@[simp]theorem szT186:qc1 PG 186=some 1:=rfl
@[simp]theorem agT186:qgc PG 186=some false:=rfl
@[simp]theorem byT186:qce PG 186=some 24:=rfl
@[simp]theorem alT186(H:Heap):alV PG H 186=some (.ptr H.n 0,H.new (.cells [.nilS])):=rfl
@[simp]theorem zeT186:qbq PG 186=some (.nilS):=rfl
attribute [simp] Tryz.underlying186
@[simp 500]theorem rvF186(H:Heap) (cs:List AV) (o:Nat):qaq PG H 186 (.fptr cs o)=qca cs o:=rfl
@[simp 500]theorem rvP186(H:Heap) (b o:Nat):qaq PG H 186 (.ptr b o)=(H.get b).bind fun k=>k.rd.bind fun cs=>qca cs o:=rfl
@[simp]theorem slz186(sz:Nat) (e:AV) (r:List AV):qda PG .eql 186 (.fslc sz (e::r)) .nilS=some (.bool false):=rfl
@[simp]theorem sln186(sz:Nat) (e:AV) (r:List AV):qda PG .neq 186 (.fslc sz (e::r)) .nilS=some (.bool true):=rfl
@[simp]theorem slze186:qda PG .eql 186 .eslc .nilS=some (.bool false):=rfl
@[simp]theorem slzz186:qda PG .eql 186 .nilS .nilS=some (.bool true):=rfl
theorem Sim.perm{ρ:Place} {H H2:Heap} {w:World} (h:Sim ρ H w) (n:H2.n=H.n) (p:H2.ents.Perm H.ents):Sim ρ H2 w where
 base:=h.base
 below:=h.below
 os:=h.os
 tape:=h.tape
 output:=h.output
 dom:=fun b hb=>h.dom b (n ▸ hb)
 nodup:=(p.map _).nodup_iff.2 h.nodup
 live:=fun e he=>h.live e (p.mem_iff.1 he)
 inj:=fun e e' he he'=>h.inj e e' (p.mem_iff.1 he) (p.mem_iff.1 he')
theorem Step.perm{ρ ρ':Place} {H H2 H' H2':Heap} {w w':World} (h:Step ρ H w ρ' H' w') (n:H2.n=H.n) (n':H2'.n=H'.n) (p:H2.ents.Perm H.ents) (p':H2'.ents.Perm H'.ents):Step ρ H2 w ρ' H2' w' where
 le:=h.le
 size:=h.size
 keeps:=fun k hk hn=>h.keeps k hk fun e he=>hn e (p.mem_iff.2 he)
 rows:=fun e' he' l' hl'=>by
  rcases h.rows e' (p'.mem_iff.1 he') l' hl' with⟨e,he,x⟩|x
  ·exact .inl ⟨e,p.mem_iff.2 he,x⟩
  ·exact .inr x
 num:=by rw[n,n'];exact h.num
 low:=fun b hb=>h.low b (n ▸ hb)
 cold:=fun k hk=>by
  rcases h.cold k hk with x|⟨e,he,x⟩|x
  ·exact .inl x
  ·exact .inr (.inl ⟨e,p.mem_iff.2 he,x⟩)
  ·exact .inr (.inr x)
theorem CallAt.perm{C:Ctx} {f:FuncId} {args:List AV} {H H2 H' H2':Heap} {v:AV} (h:CallAt C f args H v H') (n:H2.n=H.n) (n':H2'.n=H'.n) (p:H2.ents.Perm H.ents) (p':H2'.ents.Perm H'.ents):CallAt C f args H2 v H2':=by
 intro ρ w xs sm hx;have sm':=sm.perm n.symm p.symm;rcases h ρ w xs sm' hx with⟨x,ρ',w',h0,h1,h2,h3⟩|⟨g,ys,h0,h1⟩
 ·exact .inl ⟨x,ρ',w',h0,h1,h2.perm n' p',h3.perm n n' p p'⟩
 ·refine .inr ⟨g,ys,h0,h1.mono ?_⟩;rintro e w' ⟨x,ρ',rfl,m1,m2,m3⟩;exact⟨x,ρ',rfl,m1,m2.perm n' p',m3.perm n n' p p'⟩
theorem qwd{x:Nat × Blk} {f B g:List (Nat × Blk)}:(f++(x::(B++g))).Perm (x::(B++(f++g))):=by refine(List.perm_append_comm (l₁:=f) (l₂:=x::(B++g))).trans ?_;show (x::((B++g)++f)).Perm _;refine List.Perm.cons _ ?_;rw[List.append_assoc];exact List.Perm.append_left _ List.perm_append_comm
theorem CallAt.top{C:Ctx} {f:FuncId} {args:List AV} {v:AV} {m m':Nat} {x x':Nat × Blk} {fr B B' g g':List (Nat × Blk)} (h:CallAt C f args ⟨m,[x::(B++(fr++g))]⟩ v ⟨m',[x'::(B'++(fr++g'))]⟩):CallAt C f args ⟨m,[fr,x::(B++g)]⟩ v ⟨m',[fr,x'::(B'++g')]⟩:=
 h.perm rfl rfl (by simpa[Heap.ents]using qwd) (by simpa[Heap.ents]using qwd)
def idn(m:Nat):List (Nat × Nat):=(List.range m).map fun i=>(i,i)
theorem qho{m i:Nat} (h:i < m):(i,i)∈idn m:=List.mem_map.2 ⟨i,by simpa using h,rfl⟩
theorem qwm:∀{σ:List (Nat × Nat)} {i j:Nat},(σ.map (·.1)).Nodup->(i,j)∈σ->qav i σ=some j
 |[],_,_,_,h=>by cases h
 |x::r,i,j,nd,h=>by
  rw[List.map_cons,List.nodup_cons]at nd;unfold qav;rcases List.mem_cons.1 h with rfl|h
  ·simp
  ·have hne:¬ x.1=i:=fun e=>nd.1 (List.mem_map.2 ⟨_,h,e.symm⟩);rw[if_neg hne];exact qwm nd.2 h
theorem qt8(m:Nat):((idn m).map (·.1)).Nodup:=by
 have:(idn m).map (·.1)=List.range m:=by simp[idn,Function.comp_def]
 rw[this];exact List.nodup_range
theorem qr1(m:Nat):((idn m).map (·.2)).Nodup:=by
 have:(idn m).map (·.2)=List.range m:=by simp[idn,Function.comp_def]
 rw[this];exact List.nodup_range
theorem qdz{m i:Nat} (h:i < m):qav i (idn m)=some i:=qwm (qt8 m) (qho h)
def Idl(m:Nat) (σ:List (Nat × Nat)):Prop:=∀i,i < m->qav i σ=some i
theorem qr2(m:Nat):Idl m (idn m):=fun i h=>qdz h
theorem idl_cons{m k k':Nat} (h:m<=k):Idl m ((k,k')::idn m):=fun i hi=>by
 have:¬ k=i:=by omega
 simp[qav,this,qdz hi]
def SelfB(m:Nat) (k:Blk):Prop:=∀σ,Idl m σ->qji σ [] k k
theorem SelfB.mono{m m':Nat} {k:Blk} (h:SelfB m k) (hm:m<=m'):SelfB m' k:=fun σ hσ=>h σ fun i hi=>hσ i (by omega)
theorem qgz{m:Nat} {cs:List AV} (h:qa3 cs=true):SelfB m (.cells cs):=fun σ _=>qao h
structure Bs where
 k:Nat
 out:Str
def upd(m:Nat) (b:Bs) (s:Str):Bs:=match s with
 |[]=>b
 |_::_=>⟨m,b.out++s⟩
