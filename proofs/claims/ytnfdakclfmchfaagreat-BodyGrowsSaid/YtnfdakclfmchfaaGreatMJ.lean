/- Entries of stack.node, ref15.node. No condition. -/
import Derived.Test.YtnfdakclfmchfaaGreatMI
namespace Go.Proofs.YtnfdakclfmchfaaGreat
set_option linter.unusedSimpArgs false
set_option linter.unusedVariables false
open Go Go.RowKit
noncomputable section
set_option maxRecDepth 100000
variable {T:List (Entry Tryz.prog)}
mutual
theorem zbw{σ:List (Nat × Nat)} {Φ:List (Nat × List AV)}:∀(a b:AV),qap σ [] a b->qap σ Φ a b
 |.undef,b,h=>by cases b<;>simp_all [qap,qcn]
 |.bool _,b,h=>by cases b<;>simp_all [qap,qcn]
 |.int _ _,b,h=>by cases b<;>simp_all [qap,qcn]
 |.float _ _,b,h=>by cases b<;>simp_all [qap,qcn]
 |.cplx _ _ _,b,h=>by cases b<;>simp_all [qap,qcn]
 |.str _,b,h=>by cases b<;>simp_all [qap,qcn]
 |.nilP,b,h=>by cases b<;>simp_all [qap,qcn]
 |.ptr _ _,b,h=>by cases b<;>simp_all [qap,qcn]
 |.fptr _ _,b,h=>by cases b<;>simp_all [qap,qcn]
 |.nilS,b,h=>by cases b<;>simp_all [qap,qcn]
 |.eslc,b,h=>by cases b<;>simp_all [qap,qcn]
 |.zslc,b,h=>by cases b<;>simp_all [qap,qcn]
 |.slc _ _ _ _,b,h=>by cases b<;>simp_all [qap,qcn]
 |.fslc _ _,b,h=>by cases b<;>simp_all [qap,qcn]
 |.xslc _ _,b,h=>by cases b<;>simp_all [qap,qcn]
 |.nilM,b,h=>by cases b<;>simp_all [qap,qcn]
 |.map _,b,h=>by cases b<;>simp_all [qap,qcn]
 |.nilF,b,h=>by cases b<;>simp_all [qap,qcn]
 |.nilI,b,h=>by cases b<;>simp_all [qap,qcn]
 |.iface _ _,b,h=>by cases b<;>simp_all [qap,qcn]
 |.yld _,b,h=>by cases b<;>simp_all [qap,qcn]
 |.zptr _ _,b,h=>by cases b<;>simp_all [qap,qcn]
 |.val _,b,h=>by cases b<;>simp_all [qap,qcn]
 |.agg xs,b,h=>by
  cases b with
  |agg ys=>simp only[qap]at h ⊢;exact h.imp (qig xs ys) id
  |undef=>simp[qap]
  |_=>simp[qap]at h
 |.tup xs,b,h=>by
  cases b with
  |tup ys=>simp only[qap]at h ⊢;exact h.imp (qig xs ys) id
  |undef=>simp[qap]
  |_=>simp[qap]at h
 |.func f x y,b,h=>by
  cases b with
  |func f' x' y'=>simp only[qap]at h ⊢;exact h.imp (fun⟨h1,h2,h3⟩=>⟨h1,qig x x' h2,qig y y' h3⟩) id
  |undef=>simp[qap]
  |_=>simp[qap]at h
theorem qig{σ:List (Nat × Nat)} {Φ:List (Nat × List AV)}:∀(a b:List AV),qax σ [] a b->qax σ Φ a b
 |[],b,h=>by simpa[qax]using h
 |x::r,[],h=>by simp[qax]at h
 |x::r,y::s,h=>by simp only[qax]at h ⊢;exact⟨zbw x y h.1,qig r s h.2⟩
end
def setKids(t:Tr) (i:Nat) (K:List Int):Tr:=t.take i++{ qa1 t i with kids:=K }::t.drop (i+1)
theorem qc2{t:Tr} {i:Nat} (h:i < t.length) (K:List Int):(setKids t i K).length=t.length:=by simp[setKids];omega
def qie(t:Tr) (i:Nat) (v:AV):List AV:=(qa8 ((t.take i).map qag)++[qau (qa1 t i).kind,qau (qa1 t i).space,.str (qa1 t i).name,qaf (qa1 t i).attrs,.str (qa1 t i).data,qau (qa1 t i).up])++[v]++qa8 ((t.drop (i+1)).map qag)
theorem qwo{t:Tr} {i:Nat} (h:i < t.length) (v:AV):qjh [v] (i * 7+6) (qa8 (t.map qag))=some (qie t i v):=by
 have hl:(qa8 ((t.take i).map qag)).length=i * 7:=by rw[(qbw _).len];simp;omega
 have e1:qa8 (t.map qag)=qie t i (qac (qa1 t i).kids):=by
  conv=>lhs;rw[qem h]
  simp[qbk,qa8,Nd.cs,qie]
 rw[e1];have:=qef (a:=qa8 ((t.take i).map qag)++[qau (qa1 t i).kind,qau (qa1 t i).space,.str (qa1 t i).name,qaf (qa1 t i).attrs,.str (qa1 t i).data,qau (qa1 t i).up]) (b:=[qac (qa1 t i).kids]) (b':=[v]) (c:=qa8 ((t.drop (i+1)).map qag)) rfl;rw[List.length_append,hl]at this;exact this
section
variable {m n pb k sz:Nat} {pre post es:List AV} {g f:List (Nat × Blk)}
theorem zd0(h:Eok m pb pre k sz es post g):((VE pb pre k sz es post g).map (·.1)).Nodup:=by
 have nd:=h.nd;rw[List.nodup_cons]at nd;have hk:=h.lk.2;simp only[List.mem_cons,not_or]at hk;unfold VE;cases es with
 |nil=>simpa[qd6]using nd
 |cons x r=>simp only[qd6,List.map_cons,List.cons_append,List.nil_append,List.nodup_cons,List.mem_cons,not_or];exact⟨⟨fun e=>hk.1 e.symm,nd.1⟩,hk.2,nd.2⟩
theorem qty(h:Eok m pb pre k sz es post g):∀e,e∈VE pb pre k sz es post g->e.1 < m/\SelfB m e.2:=by
 intro e he;unfold VE at he;rw[List.mem_cons,List.mem_append]at he;rcases he with rfl|he|he
 ·refine⟨h.lp,fun σ hσ=>?_⟩;show qax _ _ _ _;refine qj8 (h.sp σ hσ) ?_;simp only[qax];refine⟨?_,h.sq σ hσ⟩;cases es with
  |nil=>simp[qcv,qap]
  |cons x r=>rw[qcm (by simp)];simp[qap,hσ k h.lk.1]
 ·cases es with
  |nil=>cases he
  |cons x r=>simp only[qd6,List.mem_singleton]at he;subst he;exact⟨h.lk.1,qgz h.el.pure⟩
 ·exact⟨h.lg e he,h.sg e he⟩
theorem qlw{N:Nat} {H H':Heap} (hN:N<=m) (nd:(H'.ents.map (·.1)).Nodup) (ha:∀e,e∈H'.ents->e.1 < m/\SelfB m e.2/\H.get e.1=some e.2) (hn:m<=H'.n):FitH N (idn m) [] H H' where
 nd1:=by simpa using qt8 m
 nd2:=qr1 m
 nd3:=nd
 lt:=fun x hx=>by
  obtain⟨i,hi,rfl⟩:=List.mem_map.1 hx;have:i < m:=by simpa using hi
  show i < H'.n;omega
 idn:=fun x hx hlt=>by obtain⟨i,hi,rfl⟩:=List.mem_map.1 hx;rfl
 num:=Nat.le_trans hN hn
 src:=fun e he=>by obtain⟨h1,h2,h3⟩:=ha e he;exact⟨e.1,e.2,qho h1,h3,h2 _ (qr2 m)⟩
 frz:=fun x h=>by cases h
theorem zbv{N m':Nat} (h:Eok m pb pre k sz es post g) (hN:N<=m) (hm:m<=m') (hf:∀i,i < m->getF i f=none):FitH N (idn m) [] ⟨n,[f,VE pb pre k sz es post g]⟩ ⟨m',[[],VE pb pre k sz es post g]⟩:=by refine qlw hN (by simpa[Heap.ents]using zd0 h) (fun e he=>?_) hm;simp only[Heap.ents,List.flatten_cons,List.flatten_nil,List.append_nil,List.nil_append]at he;obtain⟨h1,h2⟩:=qty h e he;refine⟨h1,h2,?_⟩;simp only[Heap.get,getFs];rw[hf _ h1,qp4 (zd0 h) he]
theorem qf0{N m':Nat} (h:Eok m pb pre k sz es post g) (hN:N<=m) (hm:m<=m') (hf:∀i,i < m->getF i f=none):FitH N (idn m) [] ⟨n,[f,VE pb pre k sz es post g]⟩ ⟨m',[VE pb pre k sz es post g]⟩:=by refine qlw hN (by simpa[Heap.ents]using zd0 h) (fun e he=>?_) hm;simp only[Heap.ents,List.flatten_cons,List.flatten_nil,List.append_nil,List.nil_append]at he;obtain⟨h1,h2⟩:=qty h e he;refine⟨h1,h2,?_⟩;simp only[Heap.get,getFs];rw[hf _ h1,qp4 (zd0 h) he]
end
theorem qob{t:Tr} {i:Nat} (h:i < t.length):qca (qa8 (t.map qag)) (i * 7+6)=some (qac (qa1 t i).kids):=by
 have hl:(qa8 ((t.take i).map qag)).length=i * 7:=by rw[(qbw _).len];simp;omega
 have e1:qa8 (t.map qag)=(qa8 ((t.take i).map qag)++[qau (qa1 t i).kind,qau (qa1 t i).space,.str (qa1 t i).name,qaf (qa1 t i).attrs,.str (qa1 t i).data,qau (qa1 t i).up])++(qac (qa1 t i).kids::qa8 ((t.drop (i+1)).map qag)):=by
  conv=>lhs;rw[qem h]
  simp[qbk,qa8,Nd.cs]
 have l6:(qa8 ((t.take i).map qag)++[qau (qa1 t i).kind,qau (qa1 t i).space,.str (qa1 t i).name,qaf (qa1 t i).attrs,.str (qa1 t i).data,qau (qa1 t i).up]).length=i * 7+6:=by rw[List.length_append,hl];rfl
 rw[e1,qe2 (by rw[List.length_append,l6];simp),List.getElem_append_right (by omega)];simp only[l6,Nat.sub_self,List.getElem_cons_zero]
theorem get_up{t:Tr} {i:Nat} (h:i < t.length):qca (qa8 (t.map qag)) (i * 7+5)=some (.int .i64 (qa1 t i).up):=by
 have hl:(qa8 ((t.take i).map qag)).length=i * 7:=by rw[(qbw _).len];simp;omega
 have e1:qa8 (t.map qag)=(qa8 ((t.take i).map qag)++[qau (qa1 t i).kind,qau (qa1 t i).space,.str (qa1 t i).name,qaf (qa1 t i).attrs,.str (qa1 t i).data])++(qau (qa1 t i).up::qac (qa1 t i).kids::qa8 ((t.drop (i+1)).map qag)):=by
  conv=>lhs;rw[qem h]
  simp[qbk,qa8,Nd.cs]
 have l6:(qa8 ((t.take i).map qag)++[qau (qa1 t i).kind,qau (qa1 t i).space,.str (qa1 t i).name,qaf (qa1 t i).attrs,.str (qa1 t i).data]).length=i * 7+5:=by rw[List.length_append,hl];rfl
 rw[e1,qe2 (by rw[List.length_append,l6];simp),List.getElem_append_right (by omega)];simp only[l6,Nat.sub_self,List.getElem_cons_zero];rfl
theorem qpp{t:Tr} {i:Nat} {K:List Int}:qie t i (qac K)=qa8 ((setKids t i K).map qag):=by simp[setKids,qbk,qa8,Nd.cs,qau,qie]
theorem qjq{m n pb k:Nat} {pre post:List AV} {g f:List (Nat × Blk)} {t:Tr} (h:Eok m pb pre k 7 (t.map qag) post g) {i:Nat} (hi:i < t.length) (K:List Int) (hf:∀j,j < m->getF j f=none) :
  writeVar PG ⟨n,[f,VE pb pre k 7 (t.map qag) post g]⟩ 38 (.ptr k (i * 7+6)) (qac K)=some ⟨n,[f,VE pb pre k 7 ((setKids t i K).map qag) post g]⟩:=by
 have hne:t.map qag≠[]:=by intro e;have:=congrArg List.length e;simp at this;subst this;simp at hi
 have hne':(setKids t i K).map qag≠[]:=by simp[setKids]
 have hk:getF k f=none:=hf k h.lk.1;have hg:Heap.get ⟨n,[f,VE pb pre k 7 (t.map qag) post g]⟩ k=some (.cells (qa8 (t.map qag))):=by simp only[Heap.get,getFs];rw[hk,VE_k h hne]
 have hs:Heap.set ⟨n,[f,VE pb pre k 7 (t.map qag) post g]⟩ k (.cells (qa8 ((setKids t i K).map qag)))=some ⟨n,[f,VE pb pre k 7 ((setKids t i K).map qag) post g]⟩:=by simp only[Heap.set,setFs];rw[qlm hk];unfold VE;rw[qe9 hne,qe9 hne',qcm hne,qcm hne'];simp[setF,h.k_p,qc2 hi]
 have hl:=qwo hi (qac K);rw[qpp]at hl;have rf:refs 6 (qac K)=[]:=qg1 6 _ (qfv K);unfold writeVar;simp[qac]at hl rf ⊢;simp[AV.cells,allSingle,AV.single,writeCells,hg,Blk.wt,hl,Heap.ready,rf,hs,Blk.re]
theorem ownV_mid(A D:List Int) (c:Int) (b:Nat):qcv b 1 ((A++c::D).map qau)=.slc b 0 (A.length+D.length+1) (.rest 1):=by rw[qcm (by simp)];simp;omega
theorem qwe(A D:List Int) (c:Int) (H:Heap):qhu H ((A++c::D).map qau)=H.new (.cells (qbm (A++c::D))):=by
 rw[show (A++c::D).map qau=qbm (A++c::D) from rfl];obtain⟨x,r,e⟩ : ∃x r,qbm (A++c::D)=x::r:=by cases A<;>exact⟨_,_,rfl⟩
 have:=qc8 (A++c::D);rw[e]at this ⊢;simp only[qhu,this]
def cutK(t:Tr) (i:Int):Tr:=if 0<=qff t i then setKids t (qa1 t i).up.toNat ((qa1 t (qa1 t i).up).kids.eraseIdx (qff t i).toNat) else t
def qk8(t:Tr) (i:Int):Tr:=if i≠0/\isB t i=true then setUp (cutK t i) i.toNat (-1) else cutK t i
theorem qjb(t:Tr) (i:Int):(cutK t i).length=t.length:=by
 unfold cutK;split
 ·rename_i h;unfold qff at h;split at h
  next h2=>have:=isB_iff.1 h2.2;exact qc2 (by omega) _
  ·omega
 ·rfl
theorem qja(t:Tr) (i:Int):(qk8 t i).length=t.length:=by
 unfold qk8;split
 next h=>have h2:=isB_iff.1 h.2;have h3:=qjb t i;rw[qi0 (by omega),h3]
 ·exact qjb t i
theorem zcu{L:List Int} {x:Int} {a:Nat} (h:atP L x=(a:Int)):∃A D,L=A++x::D/\A.length=a:=by
 have hc:=qo9 (p:=fun y=>decide (y=x)) L 0;rw[show qal (fun y=>decide (y=x)) L 0=atP L x from rfl,h]at hc;rcases hc with⟨h1,_⟩|⟨i,hi,h1,h2,_⟩
 ·omega
 ·have:i=a:=by omega
  subst this;have h3:L[i]=x:=by simpa using h2
  refine⟨L.take i,L.drop (i+1),?_,by simp;omega⟩;rw[<- h3,List.getElem_cons_drop,List.take_append_drop]
theorem c90G(hP:qa9 173 T=some e173G.g) (hS:qa9 88 T=some e88.g) (hC:qa9 78 T=some e78.g)
  {m pb k:Nat} {pre post:List AV} {g:List (Nat × Blk)} {t:Tr} (h:Eok m pb pre k 7 (t.map qag) post g) (hne:t≠[]) (hk:∀n,n∈t->n.kids.length<=1000000) (i:Int) :
  CallAt (ctx T) 90 [.ptr pb pre.length,.int .i64 i] ⟨m,[VE pb pre k 7 (t.map qag) post g]⟩ (.tup []) ⟨m,[VE pb pre k 7 ((qk8 t i).map qag) post g]⟩:=by
 have hne':t.map qag≠[]:=by simpa using hne
 have nf:∀j,j < m->getF j ([]:List (Nat × Blk))=none:=fun _ _=>rfl;have rdT:=fun n=>(qev (n:=n) h nf).1;have rdN:=fun n=>(qev (n:=n) h nf).2;have hkg:∀n,Heap.get ⟨n,[[],VE pb pre k 7 (t.map qag) post g]⟩ k=some (.cells (qa8 (t.map qag))):=fun n=>by simp only[Heap.get,getFs];rw[nf k h.lk.1,VE_k h hne']
 have kp:=fun n=>q173G hP (qet hne (hkg n)) hk i;by_cases hp:0<=qff t i
 ·have hp0:=hp;unfold qff at hp;split at hp
  case isFalse=>omega
  rename_i hb;obtain⟨i0,i1⟩:=isB_iff.1 hb.1;obtain⟨u0,u1⟩:=isB_iff.1 hb.2;have hpe:qff t i=atP (qa1 t (qa1 t i).up).kids i:=by unfold qff;rw[if_pos hb]
  obtain⟨I,rfl⟩:=Int.eq_ofNat_of_zero_le i0;obtain⟨u,hu⟩:=Int.eq_ofNat_of_zero_le u0;obtain⟨a,ha⟩:=Int.eq_ofNat_of_zero_le hp0;obtain⟨A,D,hAD,hA⟩:=zcu (hpe.symm.trans ha);rw[hu]at hAD u1;have hI:I < t.length:=by omega
  have hU:u < t.length:=by omega
  have hkU:=hk _ (qh2 (t:=t) (i:=(u:Int)) (by omega) (by omega));rw[hAD]at hkU;have ecut:cutK t (I:Int)=setKids t u (A++D):=by unfold cutK;rw[if_pos hp0,hu,ha,hAD];simp only[Int.toNat_natCast];rw[erase_eq,<- hA,List.take_left' rfl,show A.length+1=(A++[(I:Int)]).length by simp,show A++(I:Int)::D=(A++[(I:Int)])++D by simp,List.drop_left]
  have gu:=get_up hI;have gk:=qob hU;rw[hu]at gu;rw[hAD]at gk;have ixI:qan PG 35 (qcv k 7 (t.map qag)) (.int .i64 (I:Int))=some (.ptr k (I * 7)):=by rw[qcm hne'];simp[qan,qbj hI]
  have ixU:qan PG 35 (qcv k 7 (t.map qag)) (.int .i64 (u:Int))=some (.ptr k (u * 7)):=by rw[qcm hne'];simp[qan,qbj hU]
  have rdU:∀n,qaq PG ⟨n,[[],VE pb pre k 7 (t.map qag) post g]⟩ 3 (.ptr k (I * 7+5))=some (.int .i64 (u:Int)):=fun n=>by simp[hkg,gu]
  have rdK:∀n,qaq PG ⟨n,[[],VE pb pre k 7 (t.map qag) post g]⟩ 38 (.ptr k (u * 7+6))=some (qac (A++(I:Int)::D)):=fun n=>by simp[hkg,gk]
  have kcl:=fun H=>k78 hC (L:=A++(I:Int)::D) hkU H;simp only[ownV_mid,qwe]at kcl;have hw:=fun n=>qjq (n:=n) h hU (A++D) nf;rw[ha]at kp;obtain⟨j,hj⟩ : ∃j,j=a+1:=⟨_,rfl⟩;have aj:wr .i64 ((a:Int)+1)=some (j:Int):=by rw[hj];exact qbo (by simp at hkU;omega)
  refine qa0 (s0:=⟨[0,1,4,5],[.ptr pb pre.length,.int .i64 (I:Int),uD,uD],[],54,⟨m,[]::[VE pb pre k 7 (t.map qag) post g]⟩⟩) Tryz.func90 rfl rfl rfl ?_;apply qR;simp[zS,rdT,kp];apply qR;simp[zS];apply qah rfl;try apply qaa
  refine qdh mixed qb6 (by decide +kernel) fun B_ hB_=>?_;apply qom B_;simp[zS,qbt,qaz,qb9,qc7,qar,qbg,qb7,Heap.lay,qb8,qok,qoj,qi6,qi4,qhw,qi3,qiy,qid,qg4,qg5,qin,qim,qik,qil,qiq,qir,qip,qio,rdN,ixI,ixU,rdU];exact rfl;refine⟨_,rfl,?_,?_⟩;simp[zS,qc7,qar,qcp,qcq,qeb,rdN,ixI,ixU,rdU];try simp[allPend,Heap.lay,qb8,qab]
  refine qam (qbu [⟨106,_,_,_,_,del_row (T:=T) A D (I:Int) (i:=a) (j:=j) (N:=A.length+D.length+1) (b:=m+14) (n:=m+15) (g:=[]) (fs:=[VE pb pre k 7 (t.map qag) post g]) (by simp at hkU;omega) hA.symm hj rfl ?_⟩]) ?_
  ·intro e he;have:=qty h e (by simpa using he);omega
  simp[zS,qd9,rdK,kcl,aj,hw];have hbI:=hb.1;have hX:=h.mono (Nat.le_refl m) (qbw (setKids t u (A++D)));have lX:(setKids t u (A++D)).length=t.length:=by rw[<- ecut];exact qjb t _
  have hXne:(setKids t u (A++D))≠[]:=by intro e;rw[e]at lX;exact hne (List.length_eq_zero_iff.1 lX.symm)
  have hXne':(setKids t u (A++D)).map qag≠[]:=by simpa using hXne
  have hkgX:∀n,Heap.get ⟨n,[[],VE pb pre k 7 ((setKids t u (A++D)).map qag) post g]⟩ k=some (.cells (qa8 ((setKids t u (A++D)).map qag))):=fun n=>by simp only[Heap.get,getFs];rw[nf k hX.lk.1,VE_k hX hXne']
  have rdTX:=fun n=>(qev (n:=n) hX nf).1;have rdNX:=fun n=>(qev (n:=n) hX nf).2;have ksX:=fun n=>q88 hS (qet hXne (hkgX n)) (I:Int);have bX:isB (setKids t u (A++D)) (I:Int)=isB t (I:Int):=by simp only[isB,lX]
  simp only[bX,hbI]at ksX;have hJX:I < (setKids t u (A++D)).length:=by have:=(isB_iff.1 hbI).2;rw[lX];omega
  have ixX:qan PG 35 (qcv k 7 ((setKids t u (A++D)).map qag)) (.int .i64 (I:Int))=some (.ptr k (I * 7)):=by rw[qcm hXne'];have:=qbj hJX;simp[qan,this]
  by_cases hz:I=0
  ·have ec:qk8 t (I:Int)=setKids t u (A++D):=(by unfold qk8;rw[if_neg (by simp[hz])];exact ecut);rw[ec];apply qR;simp[zS,hz];apply qai rfl;apply qa6;simp;refine⟨[],rfl,_,_,by simp[oneOr,qap,qax,qa3],qf0 hX (Nat.le_refl m) (Nat.le_refl m) fun _ _=>rfl⟩
  ·have ec:qk8 t (I:Int)=setUp (setKids t u (A++D)) I (-1):=(by unfold qk8;rw[if_pos ⟨by omega,hbI⟩,ecut];rfl);have hwX:=fun n=>qms (n:=n) hX hJX (-1) nf;have hU2:=hX.mono (Nat.le_refl m) (qbw (setUp (setKids t u (A++D)) I (-1)));rw[ec];apply qR;simp[zS,rdTX,ksX,hz];apply qah rfl;apply qR;simp[zS,rdNX,ixX,hwX];refine⟨[],rfl,_,_,by simp[oneOr,qap,qax,qa3],qf0 hU2 (Nat.le_refl m) (Nat.le_refl m) fun _ _=>rfl⟩
 ·have ecut:cutK t i=t:=by unfold cutK;rw[if_neg hp]
  have hp':¬ (0:Int)<=qff t i:=hp;refine qa0 (s0:=⟨[0,1,4,5],[.ptr pb pre.length,.int .i64 i,uD,uD],[],54,⟨m,[]::[VE pb pre k 7 (t.map qag) post g]⟩⟩) Tryz.func90 rfl rfl rfl ?_;apply qR;simp[zS,rdT,kp];apply qR;simp[zS,hp];refine qai (by simp[qbr,St.get,hp]) ?_;apply qa6;simp;rcases Bool.eq_false_or_eq_true (isB t i)with hbI|hbI
  ·obtain⟨J,rfl⟩:=Int.eq_ofNat_of_zero_le (isB_iff.1 hbI).1;have hX:=h;have hXne:=hne;have hXne':=hne';have hkgX:=hkg;have rdTX:=rdT;have rdNX:=rdN;have lX:t.length=t.length:=rfl;have ksX:=fun n=>q88 hS (qet hXne (hkgX n)) (J:Int);simp only[hbI]at ksX;have hJX:J < (t).length:=(by have:=(isB_iff.1 hbI).2;rw[lX];omega);have ixX:qan PG 35 (qcv k 7 ((t).map qag)) (.int .i64 (J:Int))=some (.ptr k (J * 7)):=(by rw[qcm hXne'];have:=qbj hJX;simp[qan,this]);by_cases hz:J=0
   ·have ec:qk8 t (J:Int)=t:=(by unfold qk8;rw[if_neg (by simp[hz])];exact ecut);rw[ec];apply qR;simp[zS,hz];apply qai rfl;apply qa6;simp;refine⟨[],rfl,_,_,by simp[oneOr,qap,qax,qa3],qf0 hX (Nat.le_refl m) (Nat.le_refl m) fun _ _=>rfl⟩
   ·have ec:qk8 t (J:Int)=setUp (t) J (-1):=(by unfold qk8;rw[if_pos ⟨by omega,hbI⟩,ecut];rfl);have hwX:=fun n=>qms (n:=n) hX hJX (-1) nf;have hU2:=hX.mono (Nat.le_refl m) (qbw (setUp (t) J (-1)));rw[ec];apply qR;simp[zS,rdTX,ksX,hz];apply qah rfl;apply qR;simp[zS,rdNX,ixX,hwX];refine⟨[],rfl,_,_,by simp[oneOr,qap,qax,qa3],qf0 hU2 (Nat.le_refl m) (Nat.le_refl m) fun _ _=>rfl⟩
  ·skip
   have hX:=h;have hXne:=hne;have hXne':=hne';have hkgX:=hkg;have rdTX:=rdT;have rdNX:=rdN;have lX:t.length=t.length:=rfl;have ksX:=fun n=>q88 hS (qet hXne (hkgX n)) i;simp only[hbI]at ksX;have ec:qk8 t i=t:=(by unfold qk8;rw[if_neg (by simp[hbI])];exact ecut);rw[ec];by_cases hz:i=0
   ·apply qR;simp[zS,hz];apply qai rfl;apply qa6;simp;refine⟨[],rfl,_,_,by simp[oneOr,qap,qax,qa3],qf0 hX (Nat.le_refl m) (Nat.le_refl m) fun _ _=>rfl⟩
   ·apply qR;simp[zS,rdTX,ksX,hz];apply qai rfl;apply qa6;simp;refine⟨[],rfl,_,_,by simp[oneOr,qap,qax,qa3],qf0 hX (Nat.le_refl m) (Nat.le_refl m) fun _ _=>rfl⟩
theorem qnt{n:Nat} {f:List (Nat × Blk)} {fs:List (List (Nat × Blk))} (es:List AV):qhu ⟨n,f::fs⟩ es=⟨n+(if es=[] then 0 else 1),(qd6 n es++f)::fs⟩:=by cases es<;>simp[qhu,qd6,Heap.new,pushF]
def qd1(t:Tr) (b:Nat):Prop:=∀n,n∈t->n.kids.length<=b
theorem qh3{t:Tr} {b:Nat} (h:qd1 t b) (j:Int):(qa1 t j).kids.length<=b:=by
 unfold qa1;rw[List.getD_eq_getElem?_getD];cases hq:t[j.toNat]? with
 |none=>exact Nat.zero_le _
 |some x=>exact h x (List.mem_of_getElem? hq)
theorem qxy{t:Tr} {i b:Nat} {K:List Int} (h:qd1 t b) (hK:K.length<=b):qd1 (setKids t i K) b:=by
 intro n hn;unfold setKids at hn;rcases List.mem_append.1 hn with hn|hn
 ·exact h n (List.mem_of_mem_take hn)
 ·rcases List.mem_cons.1 hn with rfl|hn
  ·exact hK
  ·exact h n (List.mem_of_mem_drop hn)
theorem setUp_le{t:Tr} {i b:Nat} {u:Int} (h:qd1 t b):qd1 (setUp t i u) b:=by
 intro n hn;unfold setUp at hn;rcases List.mem_append.1 hn with hn|hn
 ·exact h n (List.mem_of_mem_take hn)
 ·rcases List.mem_cons.1 hn with rfl|hn
  ·exact qh3 h _
  ·exact h n (List.mem_of_mem_drop hn)
theorem cutT_le{t:Tr} {b:Nat} (h:qd1 t b) (i:Int):qd1 (qk8 t i) b:=by
 have h1:qd1 (cutK t i) b:=by
  unfold cutK;split
  ·exact qxy h (Nat.le_trans (List.length_eraseIdx_le _ _) (qh3 h _))
  ·exact h
 unfold qk8;split
 ·exact setUp_le h1
 ·exact h1
def quf(t:Tr) (up kid:Int):Bool:=isB t up && isB t kid && !decide (kid=0) && !qif t kid up
def qlh(K:List Int) (at_ kid:Int):List Int:=qey K (min (max at_ 0) (K.length:Int)).toNat kid
def qlf(t:Tr) (up at_ kid:Int):Tr:=if quf t up kid=true then setUp (setKids (qk8 t kid) up.toNat (qlh (qa1 (qk8 t kid) up).kids at_ kid)) kid.toNat up else t
theorem c26G(hP:qa9 173 T=some e173G.g) (hS:qa9 88 T=some e88.g) (hH:qa9 89 T=some e89.g) (hC:qa9 78 T=some e78.g)
  {m pb k:Nat} {pre post:List AV} {g:List (Nat × Blk)} {t:Tr} (h:Eok m pb pre k 7 (t.map qag) post g) (hne:t≠[]) (ht:t.length<=1000000) (hk:qd1 t 999999) (up at_ kid:Int) :
  CallAt (ctx T) 26 [.ptr pb pre.length,.int .i64 up,.int .i64 at_,.int .i64 kid] ⟨m,[VE pb pre k 7 (t.map qag) post g]⟩ (.tup []) ⟨m,[VE pb pre k 7 ((qlf t up at_ kid).map qag) post g]⟩:=by
 have hne':t.map qag≠[]:=by simpa using hne
 have nf:∀j,j < m->getF j ([]:List (Nat × Blk))=none:=fun _ _=>rfl;have rdT:=fun n=>(qev (n:=n) h nf).1;have hkg:∀n,Heap.get ⟨n,[[],VE pb pre k 7 (t.map qag) post g]⟩ k=some (.cells (qa8 (t.map qag))):=fun n=>by simp only[Heap.get,getFs];rw[nf k h.lk.1,VE_k h hne']
 have ksi:=fun n=>q88 hS (qet hne (hkg n)) kid;have ksu:=fun n=>q88 hS (qet hne (hkg n)) up;have kh:=fun n=>q89 hH (qet hne (hkg n)) ht kid up;by_cases hok:quf t up kid=true
 case neg=>
  have e:qlf t up at_ kid=t:=by unfold qlf;rw[if_neg hok]
  rw[e];cases bu:isB t up with
  |false=>rw[bu]at ksu;refine qa0 (s0:=⟨[0,1,2,3,8],[.ptr pb pre.length,.int .i64 up,.int .i64 at_,.int .i64 kid,uD],[],71,⟨m,[]::[VE pb pre k 7 (t.map qag) post g]⟩⟩) Tryz.func26 rfl rfl rfl ?_;apply qR;simp[zS,rdT,ksu];apply qah rfl;apply qa7;simp[zQ,Tryz.f26];exact⟨_,_,by simp[qap,qax,qa3],qf0 h (Nat.le_refl m) (Nat.le_refl m) fun _ _=>rfl⟩
  |true=>cases bi:isB t kid with
   |false=>rw[bu]at ksu;rw[bi]at ksi;refine qa0 (s0:=⟨[0,1,2,3,8],[.ptr pb pre.length,.int .i64 up,.int .i64 at_,.int .i64 kid,uD],[],71,⟨m,[]::[VE pb pre k 7 (t.map qag) post g]⟩⟩) Tryz.func26 rfl rfl rfl ?_;apply qR;simp[zS,rdT,ksu,ksi];apply qah rfl;apply qa7;simp[zQ,Tryz.f26];exact⟨_,_,by simp[qap,qax,qa3],qf0 h (Nat.le_refl m) (Nat.le_refl m) fun _ _=>rfl⟩
   |true=>
    by_cases h0:kid=0
    ·subst h0;rw[bu]at ksu;rw[bi]at ksi;refine qa0 (s0:=⟨[0,1,2,3,8],[.ptr pb pre.length,.int .i64 up,.int .i64 at_,.int .i64 0,uD],[],71,⟨m,[]::[VE pb pre k 7 (t.map qag) post g]⟩⟩) Tryz.func26 rfl rfl rfl ?_;apply qR;simp[zS,rdT,ksu,ksi];apply qah rfl;apply qa7;simp[zQ,Tryz.f26];exact⟨_,_,by simp[qap,qax,qa3],qf0 h (Nat.le_refl m) (Nat.le_refl m) fun _ _=>rfl⟩
    ·have bh:qif t kid up=true:=(by simpa[quf,bu,bi,h0]using hok);rw[bu]at ksu;rw[bi]at ksi;rw[bh]at kh;refine qa0 (s0:=⟨[0,1,2,3,8],[.ptr pb pre.length,.int .i64 up,.int .i64 at_,.int .i64 kid,uD],[],71,⟨m,[]::[VE pb pre k 7 (t.map qag) post g]⟩⟩) Tryz.func26 rfl rfl rfl ?_;apply qR;simp[zS,rdT,ksu,ksi,kh,h0];apply qah rfl;apply qa7;simp[zQ,Tryz.f26];exact⟨_,_,by simp[qap,qax,qa3],qf0 h (Nat.le_refl m) (Nat.le_refl m) fun _ _=>rfl⟩
 case pos=>
  have ep:qlf t up at_ kid=setUp (setKids (qk8 t kid) up.toNat (qlh (qa1 (qk8 t kid) up).kids at_ kid)) kid.toNat up:=by unfold qlf;rw[if_pos hok]
  rw[ep];simp only[quf,Bool.and_eq_true,Bool.not_eq_true',decide_eq_false_iff_not]at hok;obtain⟨⟨⟨bu,bi⟩,h0⟩,bh⟩:=hok;rw[bu]at ksu;rw[bi]at ksi;rw[bh]at kh;have hcut:=(c90G (T:=T) hP hS hC h hne (fun n hn=>Nat.le_trans (hk n hn) (by omega)) kid).perm (H2:=⟨m,[[],VE pb pre k 7 (t.map qag) post g]⟩) (H2':=⟨m,[[],VE pb pre k 7 ((qk8 t kid).map qag) post g]⟩) rfl rfl (by simp[Heap.ents]) (by simp[Heap.ents]);have lX:=qja t kid;have kX:=cutT_le hk kid;generalize qk8 t kid=X at *;obtain⟨u,rfl⟩:=Int.eq_ofNat_of_zero_le (isB_iff.1 bu).1;obtain⟨i,rfl⟩:=Int.eq_ofNat_of_zero_le (isB_iff.1 bi).1;have hu:u < X.length:=by have:=(isB_iff.1 bu).2;omega
  have hi:i < X.length:=by have:=(isB_iff.1 bi).2;omega
  simp only[Int.toNat_natCast];have hX:=h.mono (Nat.le_refl m) (qbw X);have hXne:X≠[]:=by intro e;rw[e]at lX;exact hne (List.length_eq_zero_iff.1 lX.symm)
  have hXne':X.map qag≠[]:=by simpa using hXne
  have hkgX:∀n (f:List (Nat × Blk)),(∀j,j < m->getF j f=none)->Heap.get ⟨n,[f,VE pb pre k 7 (X.map qag) post g]⟩ k=some (.cells (qa8 (X.map qag))):=fun n f hf=>by simp only[Heap.get,getFs];rw[hf k hX.lk.1,VE_k hX hXne']
  have rdN:=fun n=>(qev (n:=n) hX nf).2;have ix:qan PG 35 (qcv k 7 (X.map qag)) (.int .i64 (u:Int))=some (.ptr k (u * 7)):=by rw[qcm hXne'];simp[qan,qbj hu]
  obtain⟨K,hK⟩ : ∃K,K=(qa1 X (u:Int)).kids:=⟨_,rfl⟩;have hKl:K.length<=999999:=by rw[hK];exact qh3 kX _
  rw[<- hK];obtain⟨p,hp⟩ : ∃p:Nat,min (max at_ 0) (K.length:Int)=(p:Int):=Int.eq_ofNat_of_zero_le (by omega);have hpl:p<=K.length:=by omega
  have eins:qlh K at_ (i:Int)=qey K p (i:Int):=by unfold qlh;rw[hp];rfl
  rw[eins];have rdK:∀(n:Nat) (f:List (Nat × Blk)),(∀j,j < m->getF j f=none)->qaq PG ⟨n,[f,VE pb pre k 7 (X.map qag) post g]⟩ 38 (.ptr k (u * 7+6))=some (qac K):=fun n f hf=>by simp[hkgX n f hf,qob hu,hK]
  have rdK0:=fun n=>rdK n [] nf;have rdK1:=fun n=>rdK n (qd6 (m+20) (K.map qau)) fun j hj=>by
   cases K with
   |nil=>rfl
   |cons y r=>simp[qd6,getF,qb4 (show m+20≠j by omega)]
  have kcl:=k78 hC (L:=K) (by omega) ⟨m+20,[[],VE pb pre k 7 (X.map qag) post g]⟩;rw[qnt]at kcl;simp only[List.append_nil]at kcl;have lK:∀H,qeq PG H 38 (qac K)=some K.length:=fun H=>by simp[qeq,qac]
  have mx:qnx false (.int .i64 at_) [.int .i64 0]=some (.int .i64 (max at_ 0)):=rfl;have mn:qnx true (.int .i64 (max at_ 0)) [.int .i64 (K.length:Int)]=some (.int .i64 (p:Int)):=by simp[qnx,hp]
  have hins:=quq (T:=T) K (i:Int) p hpl (by omega) (b:=m+20) (vb:=m+15) (n:=m+20+(if K.map qau=[] then 0 else 1)) (g:=[]) (fs:=[VE pb pre k 7 (X.map qag) post g]) (by omega) (fun e he=>by have:=(qty hX e (by simpa using he)).1;omega);simp only[List.append_nil]at hins;have hw:=fun n=>qjq (n:=n) hX hu (qey K p (i:Int)) nf;have hX2:=hX.mono (Nat.le_refl m) (qbw (setKids X u (qey K p (i:Int))));have lX2:(setKids X u (qey K p (i:Int))).length=X.length:=qc2 hu _;have hX2ne:(setKids X u (qey K p (i:Int))).map qag≠[]:=by simp[setKids]
  have rdN2:=fun n=>(qev (n:=n) hX2 nf).2;have ix2:qan PG 35 (qcv k 7 ((setKids X u (qey K p (i:Int))).map qag)) (.int .i64 (i:Int))=some (.ptr k (i * 7)):=by have:=qbj (show i < (setKids X u (qey K p (i:Int))).length by omega);rw[qcm hX2ne];simp[qan,this]
  have hw2:=fun n=>qms (n:=n) hX2 (show i < (setKids X u (qey K p (i:Int))).length by omega) (u:Int) nf;have hX3:=hX2.mono (Nat.le_refl m) (qbw (setUp (setKids X u (qey K p (i:Int))) i (u:Int)));generalize hd:(if K.map qau=[] then 0 else 1)=d at kcl hins;generalize qey K p (i:Int)=K' at *;have h0':¬ i=0:=by omega
  refine qa0 (s0:=⟨[0,1,2,3,8],[.ptr pb pre.length,.int .i64 (u:Int),.int .i64 at_,.int .i64 (i:Int),uD],[],71,⟨m,[]::[VE pb pre k 7 (t.map qag) post g]⟩⟩) Tryz.func26 rfl rfl rfl ?_;apply qR;simp[zS,rdT,ksi,ksu,kh,h0,h0'];apply qai rfl;apply qa6;simp;repeat apply wq
  refine qam (qbu [⟨90,_,_,_,_,hcut⟩]) ?_;simp[zS,qd9];apply qR;simp[zS,rdN,ix];have rB:∀cs,qz2 PG 38 (some 59) cs=.buf 3 0 cs:=fun _=>rfl;repeat apply wq
  refine qdh mixed (qbu [⟨91,_,_,_,_,hins⟩]) (by decide +kernel) fun B_ hB_=>?_;have hD_:ahead B_ 4 5=true/\ahead B_ 4 16=true/\ahead B_ 4 19=true/\ahead B_ 5 4=false/\ahead B_ 5 11=false/\ahead B_ 5 12=false/\ahead B_ 11 5=false/\ahead B_ 11 16=true/\ahead B_ 11 19=true/\ahead B_ 12 5=false/\ahead B_ 12 16=true/\ahead B_ 12 19=true/\ahead B_ 15 5=false/\ahead B_ 15 16=true/\ahead B_ 15 19=true/\ahead B_ 16 4=false/\ahead B_ 16 11=false/\ahead B_ 16 12=false/\ahead B_ 19 4=false/\ahead B_ 19 11=false/\ahead B_ 19 12=false:=by rw[hB_];decide +kernel
  apply qom B_;simp[zS,qbt,qaz,qb9,qc7,qar,qbg,qb7,Heap.lay,qb8,qok,qoj,qi6,qi4,qhw,qi3,qiy,qid,qg4,qg5,qin,qim,qik,qil,qiq,qir,qip,qio,hD_,hw,rB,qd9,rdK0,rdK1,kcl,lK,mx,mn];exact rfl;refine⟨_,rfl,?_,?_⟩;simp[zS,qc7,qar,qcp,qcq,qeb,hD_,hw,rB,qd9,rdK0,rdK1,kcl,lK,mx,mn];try simp[allPend,Heap.lay,qb8,qab]
  apply qR;simp[zS,rdN2,ix2,hw2];exact⟨[],rfl,_,_,by simp[oneOr,qap,qax,qa3],qf0 hX3 (Nat.le_refl m) (Nat.le_refl m) fun _ _=>rfl⟩
structure SS where
 tree:Tr
 opn:List Int
 act:List Int
 mode:Int
 back:Int
 lex:Int
 form:Int
 head:Int
 foster:Bool
 skip:Bool
 inside:Str
def SS.post(s:SS):List AV:=[qac s.opn,qac s.act,.int .i64 s.mode,.int .i64 s.back,.int .i64 s.lex,.int .i64 s.form,.int .i64 s.head,.bool s.foster,.bool s.skip,.str s.inside]
def VS(k:Nat) (s:SS):List (Nat × Blk):=VE 0 [] k 7 (s.tree.map qag) s.post []
abbrev nV(k:Nat) (t:Tr):AV:=.slc k 0 t.length (.rest 7)
theorem qfe(s:SS):qa3 s.post=true:=by simp[SS.post,qa3,qa2]
section
variable {s s':SS} {t:Tr} {m n k:Nat} {f:List (Nat × Blk)}
theorem ok_S(s:SS) (k0:0 < k) (km:k < m):Eok m 0 [] k 7 (s.tree.map qag) s.post [] where
 lp:=by omega
 lk:=⟨km,by simp;omega⟩
 lg:=fun e he=>by cases he
 nd:=by simp
 sg:=fun e he=>by cases he
 sp:=fun σ hσ=>qao rfl
 sq:=fun σ hσ=>qao (qfe s)
 el:=qbw s.tree
theorem qf4(hne:s.tree≠[]):VS k s=[(0,.cells (nV k s.tree::s.post)),(k,.cells (qa8 (s.tree.map qag)))]:=by
 have h:s.tree.map qag≠[]:=by simpa using hne
 simp[VS,VE,qe9 h,qcm h]
theorem vg0(hne:s.tree≠[]):getF 0 (VS k s)=some (.cells (nV k s.tree::s.post)):=by rw[qf4 hne];simp[getF]
theorem vgk(k0:0 < k) (hne:s.tree≠[]):getF k (VS k s)=some (.cells (qa8 (s.tree.map qag))):=by rw[qf4 hne];have b1:Nat.beq 0 k=false:=qb4 (by omega);simp[getF,b1]
theorem sget0(hne:s.tree≠[]) (hf:getF 0 f=none):Heap.get ⟨n,[f,VS k s]⟩ 0=some (.cells (nV k s.tree::s.post)):=by rw[qf4 hne];simp[Heap.get,getFs,hf,getF]
theorem sgetk(k0:0 < k) (hne:s.tree≠[]) (hf:getF k f=none):Heap.get ⟨n,[f,VS k s]⟩ k=some (.cells (qa8 (s.tree.map qag))):=by rw[qf4 hne];have b1:Nat.beq 0 k=false:=qb4 (by omega);simp[Heap.get,getFs,hf,getF,b1]
theorem fitS{N k' m':Nat} (hN:(k' < N->k=k')/\k' < m'/\N<=m') (h':0 < k') (k0:0 < k) (hne:s.tree≠[]) (hf0:getF 0 f=none) (hfk:getF k f=none):FitH N [(k,k'),(0,0)] [] ⟨n,[f,VS k s]⟩ ⟨m',[VS k' s]⟩ where
 nd1:=by simp;omega
 nd2:=by simp;omega
 nd3:=by rw[qf4 hne];simp[Heap.ents];omega
 lt:=by simp;omega
 idn:=by simp;omega
 num:=by simp;omega
 src:=by
  intro e he;rw[qf4 hne]at he;simp only[Heap.ents,List.flatten_cons,List.flatten_nil,List.append_nil,List.mem_cons,List.not_mem_nil,or_false]at he;rcases he with rfl|rfl
  ·refine⟨0,_,by simp,sget0 hne hf0,?_⟩;simp only[qji,qax];exact⟨by simp[qap,qav],qao (qfe s)⟩
  ·exact⟨k,_,by simp,sgetk k0 hne hfk,qao (qbw s.tree).pure⟩
 frz:=fun x h=>by cases h
theorem fitSG{N k k' m':Nat} {H:Heap} {c0:List AV} {Φ:List (Nat × List AV)} (hN:(k' < N->k=k')/\k' < m'/\N<=m') (h':0 < k') (k0:0 < k) (hne:s'.tree≠[]) (h0:H.get 0=some (.cells c0)) (hk:H.get k=some (.cells (qa8 (s'.tree.map qag)))) (hc:qax [(k,k'),(0,0)] Φ c0 (nV k' s'.tree::s'.post))
  (nd:(k::0::Φ.map (·.1)).Nodup) (hΦ:∀x,x∈Φ->H.get x.1=some (.cells x.2)/\qa3 x.2=true):FitH N [(k,k'),(0,0)] Φ H ⟨m',[VS k' s']⟩ where
 nd1:=by simpa using nd
 nd2:=by simp;omega
 nd3:=by rw[qf4 hne];simp[Heap.ents];omega
 lt:=by simp;omega
 idn:=by simp;omega
 num:=by simp;omega
 src:=by
  intro e he;rw[qf4 hne]at he;simp only[Heap.ents,List.flatten_cons,List.flatten_nil,List.append_nil,List.mem_cons,List.not_mem_nil,or_false]at he;rcases he with rfl|rfl
  ·exact⟨0,_,by simp,h0,by simpa only[qji]using hc⟩
  ·exact⟨k,_,by simp,hk,qao (qbw s'.tree).pure⟩
 frz:=fun x h=>⟨x.2,(hΦ x h).1,qao (hΦ x h).2,(hΦ x h).2⟩
theorem qv0{N k' m':Nat} (hN:(k' < N->k=k')/\k' < m'/\N<=m') (h':0 < k') (k0:0 < k) (hne:s.tree≠[]) (hf0:getF 0 f=none) (hfk:getF k f=none):FitH N [(k,k'),(0,0)] [] ⟨n,[f,VS k s]⟩ ⟨m',[[],VS k' s]⟩:=
 have h:=fitS (n:=n) (m':=m') hN h' k0 hne hf0 hfk
 ⟨h.nd1,h.nd2,by simpa[Heap.ents]using h.nd3,h.lt,h.idn,h.num,fun e he=>h.src e (by simpa[Heap.ents]using he),h.frz⟩
theorem fitS0{N k' m':Nat} (hN:(k' < N->k=k')/\k' < m'/\N<=m') (h':0 < k') (k0:0 < k) (hne:s.tree≠[]):FitH N [(k,k'),(0,0)] [] ⟨n,[VS k s]⟩ ⟨m',[VS k' s]⟩:=
 have hf:=fitS (n:=n) (f:=[]) hN h' k0 hne rfl rfl
 ⟨hf.nd1,hf.nd2,hf.nd3,hf.lt,hf.idn,hf.num,fun e he=>by obtain⟨b,k,h1,h2,h3⟩:=hf.src e he;exact⟨b,k,h1,by simpa[zG]using h2,h3⟩,fun x h=>by cases h⟩
theorem thS(k0:0 < k) (hne:s.tree≠[]) (hf:getF k f=none):qcy ⟨n,[f,VS k s]⟩ [7] (.agg [nV k s.tree])=some (qba s.tree):=by have:=qet (H:=⟨n,[f,VS k s]⟩) (k:=k) (t:=s.tree) hne (sgetk k0 hne hf);rw[qcm (by simpa using hne)]at this;simpa[nV]using this
theorem cut7{i:Nat} (hi:i < t.length):qa8 (t.map qag)=qa8 ((t.take i).map qag)++(qa1 t i).cs++qa8 ((t.drop (i+1)).map qag)/\(qa8 ((t.take i).map qag)).length=i * 7:=by
 constructor
 ·conv=>lhs;rw[qem hi]
  simp[qbk,qa8]
 ·rw[(qbw _).len];simp;omega
theorem getN{i c:Nat} (hi:i < t.length) (hc:c < 7):qca (qa8 (t.map qag)) (i * 7+c)=qca (qa1 t i).cs c:=by obtain⟨e,l⟩:=cut7 hi;have l7:(qa1 t i).cs.length=7:=rfl;rw[e];generalize qa8 ((t.take i).map qag)=A at *;generalize qa8 ((t.drop (i+1)).map qag)=B at *;generalize (qa1 t i).cs=C at *;rw[qe2 (by simp[l,l7];omega),qe2 (by omega),List.getElem_append_left (by simp[l,l7];omega),List.getElem_append_right (by omega)];simp[l]
theorem subN{i:Nat} (hi:i < t.length):qf1 (i * 7) 7 (qa8 (t.map qag))=some (qa1 t i).cs:=by obtain⟨e,l⟩:=cut7 hi;have l7:(qa1 t i).cs.length=7:=rfl;rw[e];generalize qa8 ((t.take i).map qag)=A at *;generalize qa8 ((t.drop (i+1)).map qag)=B at *;generalize (qa1 t i).cs=C at *;rw[<- l];exact qkm rfl l7
theorem ixN{i:Nat} (hi:i < t.length):qan PG 35 (nV k t) (.int .i64 (i:Int))=some (.ptr k (i * 7)):=by simp[qan,qbj hi]
theorem lenN'(H:Heap):qeq PG H 35 (nV k t)=some t.length:=by simp[qeq]
theorem quu{b:Nat}:∀{f:List (Nat × Blk)},(∀e,e∈f->e.1≠b)->getF b f=none
 |[],_=>rfl
 |e::r,h=>by have h1:=h e (by simp);unfold getF;rw[qb4 h1];exact quu fun x hx=>h x (by simp[hx])
theorem call_S{C:Ctx} {g:FuncId} {args:List AV} {v:AV} (h:CallAt C g (.ptr 0 0::args) ⟨2,[VS 1 s]⟩ v ⟨3,[VS 2 s']⟩) (ha:qa3 args=true) (hv:qa2 v=true) (k0:0 < k) (hk:k < n) (hne:s.tree≠[]) (hne':s'.tree≠[]) (hfr:∀e,e∈f->e.1≠0/\e.1≠k) :
  CallAt C g (.ptr 0 0::args) ⟨n,[f,VS k s]⟩ v ⟨n+1,[f,VS n s']⟩:=by
 have fh:FitH 0 [(k,1),(0,0)] [] ⟨n,[f,VS k s]⟩ ⟨2,[VS 1 s]⟩:=fitS ⟨by omega,by omega,by omega⟩ (by omega) k0 hne (quu fun e he=>(hfr e he).1) (quu fun e he=>(hfr e he).2);have:=h.framed (H':=⟨n+1,[f,VS n s']⟩) (args:=.ptr 0 0::args) fh (by simp only[qax];exact⟨by simp[qap,qav];omega,qao ha⟩) ?_ (by simp)
 ·simpa[qg0 _ hv]using this
 ·have e0:qlg [(k,1),(0,0)] n 2 0=0:=by simp[qlg,qf3]
  have e2:qlg [(k,1),(0,0)] n 2 2=n:=by simp[qlg,qf3]
  refine⟨by simp,?_,?_⟩
  ·intro nd lt;rw[qf4 hne'];simp only[Heap.ents,List.flatten_cons,List.flatten_nil,List.append_nil,List.map_append]at nd ⊢;rw[List.nodup_append]at nd ⊢;refine⟨nd.1,by simp;omega,fun a ha b hb=>?_⟩;obtain⟨e,he,rfl⟩:=List.mem_map.1 ha;have l1:=lt e (by simp[Heap.ents,he]);have l2:=(hfr e he).1;simp only at l1;simp at hb;rcases hb with rfl|rfl<;>omega
  ·intro e he;simp only[Heap.ents,List.flatten_cons,List.flatten_nil,List.append_nil,List.mem_append]at he ⊢;rcases he with he|he
   ·refine .inr ⟨.inl he,fun x hx=>?_⟩;have:=hfr e he;simp at hx;rcases hx with rfl|rfl
    ·exact fun h=>this.2 h.symm
    ·exact fun h=>this.1 h.symm
   ·rw[qf4 hne']at he ⊢;simp only[List.mem_cons,List.not_mem_nil,or_false]at he;rcases he with rfl|rfl
    ·refine .inl ⟨(0,.cells (nV 2 s'.tree::s'.post)),by simp,?_⟩;simp only[qz4,qln,qdb _ (qfe s'),qmv,e0,e2]
    ·refine .inl ⟨(2,.cells (qa8 (s'.tree.map qag))),by simp,?_⟩;simp only[qz4,e2,qdb _ (qbw s'.tree).pure]
end
abbrev SC(T:List (Entry PG)) (g:FuncId) (args:List AV) (s:SS) (v:AV) (s':SS):Prop:=CallAt (ctx T) g (.ptr 0 0::args) ⟨2,[VS 1 s]⟩ v ⟨3,[VS 2 s']⟩
theorem SC.of{g:FuncId} {args:List AV} {v:AV} {s s':SS} (h:CallAt (ctx T) g (.ptr 0 0::args) ⟨2,[VS 1 s]⟩ v ⟨2,[VS 1 s']⟩) (hv:qa2 v=true) (hne:s'.tree≠[]):SC T g args s v s':=
 h.post (σ:=[(1,2),(0,0)]) (Φ:=[]) (qbd hv) (fitS0 ⟨by simp,by omega,by simp⟩ (by omega) (by omega) hne)
theorem CallAt.norm1{C:Ctx} {f:FuncId} {a:AV} {args args':List AV} {H H':Heap} {v:AV} (h:CallAt C f (a::args') H v H') (hf:qax [] [] args args'):CallAt C f (a::args) H v H':=by
 intro ρ w xs sm hx;have ft:Fits [] [] ρ ρ H w:=⟨ρ.bare_le,sm.below,fun _ _ h=>(by cases h),fun _ _ h=>(by cases h)⟩;obtain⟨k1,k2⟩:=qco hf;refine h ρ w xs sm ⟨by rw[hx.1];simp[k1],fun i h1 h2=>?_⟩;cases i with
 |zero=>exact hx.2 0 (by simp) h2
 |succ i=>simp only[List.length_cons]at h1;have:=hx.2 (i+1) (by simp;omega) h2;exact Fits.run ft sm _ (Nat.le_refl _) this (k2 i (by omega) (by omega))
theorem qx4:∀{a b:Tr},qa8 (a.map qag)=qa8 (b.map qag)->a=b
 |[],[],_=>rfl
 |[],y::s,h=>by simp[qa8,qag,Nd.cs,AV.cells]at h
 |x::r,[],h=>by simp[qa8,qag,Nd.cs,AV.cells]at h
 |x::r,y::s,h=>by simp only[List.map_cons,qa8]at h;obtain⟨h1,h2⟩:=List.append_inj h rfl;have e:x=y:=qh7 (congrArg AV.agg h1);rw[qx4 h2,e]
theorem zcz{k k':Nat} {s s':SS} (h0:s.tree≠[]) (h0':s'.tree≠[]) (h:VS k s=VS k' s'):k=k'/\s=s':=by
 rw[qf4 h0,qf4 h0']at h;simp only[List.cons.injEq,Prod.mk.injEq,Blk.cells.injEq,AV.slc.injEq,true_and,and_true,SS.post,AV.int.injEq,AV.bool.injEq,AV.str.injEq]at h;obtain⟨⟨⟨hk,hl⟩,ho,ha,h1,h2,h3,h4,h5,h6,h7,h8⟩,_,hf⟩:=h;refine⟨hk,?_⟩;have ht:=qx4 hf;have ho:=qd2 ho;have ha:=qd2 ha;cases s;cases s'
 simp_all
def qga(k:Nat) (fr:List (Nat × Blk)):Prop:=∀e,e∈fr->e.1≠0/\e.1≠k
@[simp]theorem offS_nil{k:Nat}:qga k []=True:=by simp[qga]
@[simp]theorem offS_cons{k:Nat} {e:Nat × Blk} {r:List (Nat × Blk)}:qga k (e::r)=((e.1≠0/\e.1≠k)/\qga k r):=by simp[qga]
section
variable {α:Type} (f:FuncId) (ss:List (List Nat)) (enc:α->List AV) (pre:α->SS->Prop) (post:α->SS->AV) (st:α->SS->SS)
structure SArg (args:List AV) (H:Heap) (x:α × SS × Nat × List (Nat × Blk)):Prop where
 ar:∃rest,args=.ptr 0 0::rest/\qa3 rest=true/\qbb zH ss rest=some (enc x.1)
 hp:H=⟨H.n,[x.2.2.2,VS x.2.2.1 x.2.1]⟩
 k0:0 < x.2.2.1
 kn:x.2.2.1 < H.n
 of:qga x.2.2.1 x.2.2.2
 ne:x.2.1.tree≠[]
 pr:pre x.1 x.2.1
open Classical in
def sG (args:List AV) (H:Heap):Option (AV × Heap):=
 if h:∃x,SArg ss enc pre args H x then some (post h.choose.1 h.choose.2.1,⟨H.n+1,[h.choose.2.2.2,VS H.n (st h.choose.1 h.choose.2.1)]⟩) else none
def mkS (h:∀x s,s.tree≠[]->pre x s->CallAt ⟨PG,fun _=>[],fun _=>none⟩ f (.ptr 0 0::enc x) ⟨2,[VS 1 s]⟩ (post x s) ⟨3,[VS 2 (st x s)]⟩/\qa3 (enc x)=true/\qa2 (post x s)=true/\(st x s).tree≠[]):Entry PG:=
 ⟨f,sG ss enc pre post st,fun args H v H' hv=>by
  unfold sG at hv;split at hv
  next hx=>simp only[sj,Prod.mk.injEq]at hv;obtain⟨rfl,rfl⟩:=hv;have hs:=hx.choose_spec;generalize hx.choose=x at *;obtain⟨⟨rest,rfl,hp,ht⟩,hH,k0,kn,of,ne,pr⟩:=hs;obtain⟨h1,h2,h3,h4⟩:=h x.1 x.2.1 ne pr;have hf:=qeu (H:=zH) List.nodup_nil ht;have:=(call_S (n:=H.n) h1 h2 h3 k0 kn ne h4 of).norm1 hf;rw[<- hH]at this;exact this
  ·cases hv⟩
variable {f ss enc pre post st}
theorem qct{h:∀x s,s.tree≠[]->pre x s->CallAt ⟨PG,fun _=>[],fun _=>none⟩ f (.ptr 0 0::enc x) ⟨2,[VS 1 s]⟩ (post x s) ⟨3,[VS 2 (st x s)]⟩/\qa3 (enc x)=true/\qa2 (post x s)=true/\(st x s).tree≠[]}
  {T:List (Entry PG)} (hT:qa9 f T=some (mkS f ss enc pre post st h).g) (inj:∀x y,enc x=enc y->x=y) (x:α) {s:SS} (hne:s.tree≠[]) (hx:pre x s) {rest:List AV} (hp:qa3 rest=true) (ht:qbb zH ss rest=some (enc x))
  {n k:Nat} {fr:List (Nat × Blk)} (k0:0 < k) (kn:k < n) (of:qga k fr):qat (ctx T) (.fn f) (.ptr 0 0::rest) ⟨n,[fr,VS k s]⟩=some (post x s,⟨n+1,[fr,VS n (st x s)]⟩):=by
 rw[qfa (C:=ctx T) (g:=(mkS f ss enc pre post st h).g) hT];show sG ss enc pre post st _ _=_;unfold sG;have hex:∃y,SArg ss enc pre (.ptr 0 0::rest) ⟨n,[fr,VS k s]⟩ y:=⟨(x,s,k,fr),⟨rest,rfl,hp,ht⟩,rfl,k0,kn,of,hne,hx⟩;rw[dif_pos hex];have hs:=hex.choose_spec;generalize hex.choose=y at *;obtain⟨⟨rest',e1,_,ht'⟩,hH,_,_,_,ne,_⟩:=hs;obtain⟨y1,y2,y3,y4⟩:=y;simp only[List.cons.injEq,true_and]at e1;subst e1;have ex:y1=x:=inj _ _ (Option.some.inj (ht'.symm.trans ht));simp only[Heap.mk.injEq,true_and,List.cons.injEq,and_true]at hH;obtain⟨rfl,hv⟩:=hH;obtain⟨rfl,rfl⟩:=zcz hne ne hv;subst ex;rfl
end
theorem zbe(x y:List Int × Int × Int) (h:[qac x.1,AV.int .i64 x.2.1,.int .i64 x.2.2]=[qac y.1,AV.int .i64 y.2.1,.int .i64 y.2.2]):x=y:=by simp only[List.cons.injEq,and_true,AV.int.injEq,true_and]at h;obtain⟨h1,h2,h3⟩:=h;exact Prod.ext (zbf x.1 y.1 (by rw[h1])) (Prod.ext h2 h3)
theorem c142(hC:qa9 78 T=some e78.g) (L:List Int) (hl:L.length<=1000000) (at_ x:Int):CallAt (ctx T) 142 [qac L,.int .i64 at_,.int .i64 x] zH (qac (qlh L at_ x)) zH:=by
 obtain⟨p,hp⟩ : ∃p:Nat,min (max at_ 0) (L.length:Int)=(p:Int):=Int.eq_ofNat_of_zero_le (by omega);have hpl:p<=L.length:=by omega
 have eins:qlh L at_ x=qey L p x:=by unfold qlh;rw[hp];rfl
 rw[eins];obtain⟨N,hN⟩ : ∃N,N=L.length:=⟨_,rfl⟩;have lK:∀H,qeq PG H 38 (qac L)=some N:=fun H=>by simp[qeq,qac,hN]
 rw[<- hN]at hp;have mx:qnx false (.int .i64 at_) [.int .i64 0]=some (.int .i64 (max at_ 0)):=rfl;have mn:qnx true (.int .i64 (max at_ 0)) [.int .i64 (N:Int)]=some (.int .i64 (p:Int)):=by simp[qnx,hp]
 have rB:∀cs,qz2 PG 38 (some 15) cs=.buf 3 0 cs:=fun _=>rfl;have kcl:=fun H=>k78 hC (L:=L) hl H;cases L with
 |nil=>
  have hins:=quq (T:=T) [] x p hpl (by simp) (b:=1) (vb:=0) (n:=1) (g:=[]) (fs:=[]) (by omega) (fun e he=>by simp at he);simp only[List.map_nil,qcv,qd6,qhu,List.nil_append]at hins kcl;refine qa0 (s0:=⟨[0,1,2,6],[qac ([]),.int .i64 at_,.int .i64 x,uD],[],17,⟨0,[[]]⟩⟩) Tryz.func142 rfl rfl rfl ?_;apply qR;simp[zS];repeat apply wq
  refine qam (qbu [⟨91,_,_,_,_,hins⟩]) ?_;simp[zS,qd9,kcl,lK,mx,mn,rB];apply qa7;simp[zQ,Tryz.f142];exact⟨[],[],FitH.empty⟩
 |cons y r=>
  have hins:=quq (T:=T) (y::r) x p hpl hl (b:=0) (vb:=1) (n:=2) (g:=[]) (fs:=[]) (by omega) (fun e he=>by simp at he);simp only[List.map_cons,qcv,qd6,qhu,List.append_nil,List.cons_append,List.nil_append]at hins kcl;generalize qey (y::r) p x=K' at *;refine qa0 (s0:=⟨[0,1,2,6],[qac (y::r),.int .i64 at_,.int .i64 x,uD],[],17,⟨0,[[]]⟩⟩) Tryz.func142 rfl rfl rfl ?_;apply qR;simp[zS];repeat apply wq
  refine qam (qbu [⟨91,_,_,_,_,hins⟩]) ?_;simp[zS,qd9,kcl,lK,mx,mn,rB];apply qa7;simp[zQ,Tryz.f142];exact⟨[],[],FitH.empty⟩
def e142:Entry PG:=mkE 142 [[1],[],[]] (fun x:List Int × Int × Int=>[qac x.1,.int .i64 x.2.1,.int .i64 x.2.2]) (fun x=>x.1.length<=1000000) (fun x=>qac (qlh x.1 x.2.1 x.2.2)) fun x h=>c142 (T:=[e78]) rfl x.1 h x.2.1 x.2.2
theorem k142(hT:qa9 142 T=some e142.g) {L:List Int} (hl:L.length<=1000000) (at_ x:Int) (H:Heap):qat (ctx T) (.fn 142) [qac L,.int .i64 at_,.int .i64 x] H=some (qac (qlh L at_ x),H):=
 qee hT zbe (L,at_,x) hl (by simp[qa3,qa2]) (by simp[qbb,qaj,okV,qa2]) H
def swp(a b x:Int):Int:=if x=a then b else x
def qs2(a b:Int) (L:List Int) (j:Nat):List Int:=(L.take j).map (swp a b)++L.drop j
theorem qvo{a b:Int} {L:List Int} {j:Nat} (h:j<=L.length):(qs2 a b L j).length=L.length:=by simp[qs2];omega
theorem swpR_at{a b:Int} {L:List Int} {j:Nat} (h:j < L.length):(qs2 a b L j)[j]'(by rw[qvo (by omega)];exact h)=L[j]:=by simp only[qs2];rw[List.getElem_append_right (by simp;omega)];simp[show j - min j L.length=0 by omega]
theorem qzr{a b:Int} {L:List Int} {j:Nat} (h:j < L.length):qs2 a b L (j+1)=(qs2 a b L j).set j (swp a b L[j]):=by
 have hl:((L.take j).map (swp a b)).length=j:=by simp;omega
 unfold qs2;rw[List.set_append_right _ _ (by omega),hl,Nat.sub_self,List.take_succ_eq_append_getElem h,List.drop_eq_getElem_cons h,List.set_cons_zero,List.map_append,List.append_assoc];rfl
theorem c124(hC:qa9 78 T=some e78.g) (L:List Int) (hl:L.length<=1000000) (a b:Int):CallAt (ctx T) 124 [qac L,.int .i64 a,.int .i64 b] zH (qac (L.map (swp a b))) zH:=by
 have kcl:=fun H=>k78 hC (L:=L) hl H;by_cases h0:L=[]
 ·subst h0;simp only[List.map_nil,qcv,qhu]at kcl;refine qa0 (s0:=⟨[0,1,2,6,7,8,12,13],[qac [],.int .i64 a,.int .i64 b,uD,uD,uD,uD,uD],[],28,⟨0,[[]]⟩⟩) Tryz.func124 rfl rfl rfl ?_;apply qR;simp[zS];apply qR;simp[zS,kcl];have l0:∀H,qeq PG H 38 .zslc=some 0:=fun _=>rfl;apply qR;simp[zS,l0];refine qa4 (qb1 (fun _:Unit=>(⟨[0,1,2,6,7,8,12,13],[qac [],.int .i64 a,.int .i64 b,.nilS,.zslc,uD,.int .i64 0,.int .i64 0],[],28,⟨0,[[]]⟩⟩ : St)) (fun _=>True) (fun _=>0) [] [] () trivial ⟨rfl,rfl,rfl,by simp[qax,qap,qa2,qa3,qac],FitH.nothing⟩ ?_);rintro⟨⟩ _ B hB;apply qR;simp[zS];repeat apply wq
  apply qai rfl;apply qas;simp;apply qR;simp[zS];apply qa7;simp[zQ,Tryz.f124];exact zc4 rfl
 ·obtain⟨y,r,hyr⟩ : ∃y r,L=y::r:=by cases L;exact absurd rfl h0;exact⟨_,_,rfl⟩
  have e1:qcv 0 1 (L.map qau)=.slc 0 0 L.length (.rest 1):=by rw[qcm (by simp[h0])];simp
  have e2:qhu ⟨0,[[]]⟩ (L.map qau)=⟨1,[[(0,.cells (qbm L))]]⟩:=by subst hyr;exact(qwe [] r y ⟨0,[[]]⟩).trans rfl
  have kc0:=kcl ⟨0,[[]]⟩;simp only[e1,e2]at kc0;refine qa0 (s0:=⟨[0,1,2,6,7,8,12,13],[qac L,.int .i64 a,.int .i64 b,uD,uD,uD,uD,uD],[],28,⟨0,[[]]⟩⟩) Tryz.func124 rfl rfl rfl ?_;apply qR;simp[zS];apply qR;simp[zS,kc0];apply qR;simp[zS,qeq];refine qa4 (qb1 (fun j:Nat=>(⟨[0,1,2,6,7,8,12,13],[qac L,.int .i64 a,.int .i64 b,.nilS,.slc 0 0 L.length (.rest 1),uD,.int .i64 (L.length:Int),.int .i64 (j:Int)],[],28,⟨1,[[(0,.cells (qbm (qs2 a b L j)))]]⟩⟩ : St))
   (fun j=>j<=L.length) (fun j=>L.length - j) [(0,0)] [] 0 (Nat.zero_le _)
   ⟨rfl,rfl,rfl,by simp[qax,qap,qav,qa2,qfv],by rw[show qs2 a b L 0=L by simp[qs2]];exact FitH.id1 (g:=[(0,.cells (qbm (L)))]) (by simp) (by simp) (by simp[zG,qh6])⟩ ?_)
  rintro j hj B hB;by_cases hj2:j < L.length
  ·have hn:(j:Int) < (L.length:Int):=(by omega);have hR:j < (qs2 a b L j).length:=(by rw[qvo hj];exact hj2);have hat:=swpR_at (a:=a) (b:=b) hj2;have hnx:=qzr (a:=a) (b:=b) hj2;have hg:=qwz hR;rw[hat]at hg;have hly:=fun v=>qwp (L:=qs2 a b L j) (i:=j) (v:=v) hR;have hself:(qs2 a b L j).set j L[j]=qs2 a b L j:=by
    have:=List.set_getElem_self hR
    rwa [hat]at this
   clear hat;generalize L[j]=c at *;generalize qs2 a b L j=R at *;apply qR;simp[zS,hn,hj2];repeat apply wq
   apply qah rfl;apply qa6;simp;repeat apply wq
   apply qa4;apply qR;simp[zS];by_cases q:c=a
   ·have hs:swp a b c=b:=if_pos q;rw[hs]at hnx;apply qR;simp[zS,ixO hj2,hg,q];refine qah (by simp[qbr,St.get,q]) ?_;apply qR;simp[zS,ixO hj2,hly];apply qR;simp[zS,qbo (show j<=1000000000 by omega)];refine hB _ (j+1) (by omega) (by omega) ⟨[(0,0)],[],rfl,rfl,rfl,by simp[qax,qap,qav,qa2,qfv],?_⟩;rw[hnx];exact FitH.id1 (g:=[(0,.cells (qbm (R.set j b)))]) (by simp) (by simp) (by simp[zG,qh6])
   ·have hs:swp a b c=c:=if_neg q;rw[hs]at hnx;apply qR;simp[zS,ixO hj2,hg,q];refine qai (by simp[qbr,St.get,q]) ?_;apply qa6;simp;apply qR;simp[zS,qbo (show j<=1000000000 by omega)];refine hB _ (j+1) (by omega) (by omega) ⟨[(0,0)],[],rfl,rfl,rfl,by simp[qax,qap,qav,qa2,qfv],?_⟩;rw[hnx,hself];exact FitH.id1 (g:=[(0,.cells (qbm (R)))]) (by simp) (by simp) (by simp[zG,qh6])
  ·have ej:j=L.length:=(by omega);have hn:¬ (j:Int) < (L.length:Int):=(by omega);apply qR;simp[zS,hn,hj2];repeat apply wq
   apply qai rfl;apply qas;simp;apply qR;simp[zS];apply qa7;simp[zQ,Tryz.f124];have er:qs2 a b L j=L.map (swp a b):=(by rw[ej];simp[qs2]);rw[er];exact qha (es:=qbm (L.map (swp a b))) (fr:=qbm (L.map (swp a b))) (qg6 _) (by rw[qc8];simp[zG]) (by rw[qcd];simp) (by rw[List.take_of_length_le (by rw[qcd];simp)])
def e124:Entry PG:=mkE 124 [[1],[],[]] (fun x:List Int × Int × Int=>[qac x.1,.int .i64 x.2.1,.int .i64 x.2.2]) (fun x=>x.1.length<=1000000) (fun x=>qac (x.1.map (swp x.2.1 x.2.2))) fun x h=>c124 (T:=[e78]) rfl x.1 h x.2.1 x.2.2
theorem k124(hT:qa9 124 T=some e124.g) {L:List Int} (hl:L.length<=1000000) (a b:Int) (H:Heap):qat (ctx T) (.fn 124) [qac L,.int .i64 a,.int .i64 b] H=some (qac (L.map (swp a b)),H):=
 qee hT zbe (L,a,b) hl (by simp[qa3,qa2]) (by simp[qbb,qaj,okV,qa2]) H
theorem c135(hI:qa9 47 T=some e47.g) (L:List Int) (x:Int) (hl:L.length<=1000000):CallAt (ctx T) 135 [qac L,.int .i64 x] zH (.int .i64 (atP L x)) zH:=by have hk:=fun H=>k47 hI x hl H;rw[atP_eq]at hk;generalize atP L x=v at *;refine qa0 (s0:=⟨[0,1,4],[qac L,.int .i64 x,uD],[],8,⟨0,[[]]⟩⟩) Tryz.func135 rfl rfl rfl ?_;apply qR;simp[zS];apply qR;simp[zS,hk];apply qa7;simp[zQ,Tryz.f135];exact qak rfl (by rfl)
def endN(L:List Int):Nat->Int
 |0=>0
 |j+1=>if L.getD j 0 = -1 then ((j+1:Nat):Int) else endN L j
def qrt(L:List Int):Int:=endN L L.length
theorem zc7(L:List Int):∀j:Nat,0<=endN L j/\endN L j<=(j:Int)
 |0=>⟨Int.le_refl _,Int.le_refl _⟩
 |j+1=>by have:=zc7 L j;unfold endN;split<;>omega
theorem qx0{H:Heap} {L:List Int} {k:Nat} (h:k<=L.length):qcs PG H 38 (qac L) none (some (.int .i64 (k:Int))) none=some (qac (L.take k)):=by have h2:idx (k:Int) (Nat.succ (List.map qau L).length)=some k:=qbj (by simp;omega);unfold qcs qac;simp only[qr3,Tryz.underlying38,Option.bind_some,qmt,Nat.beq_refl,qch,Nat.sub_zero,h2,List.drop_zero,List.map_take]
theorem qn3{H:Heap} {L:List Int} {k:Nat} (h:k<=L.length):qcs PG H 38 (qac L) (some (.int .i64 (k:Int))) none none=some (qac (L.drop k)):=by have h2:idx (k:Int) (Nat.succ (List.map qau L).length)=some k:=qbj (by simp;omega);unfold qcs qac;simp only[qr3,Tryz.underlying38,Option.bind_some,qmt,Nat.beq_refl,qch,Nat.sub_zero,h2,List.take_length,List.map_drop]
def ql8(L:List Int):List Int:=L.take (max 0 (qrt L - 1)).toNat
def e135:Entry PG:=mkE 135 [[1],[]] (fun x:List Int × Int=>[qac x.1,.int .i64 x.2]) (fun x=>x.1.length<=1000000) (fun x=>.int .i64 (atP x.1 x.2)) fun x h=>c135 (T:=[e47]) rfl x.1 x.2 h
theorem k135(hT:qa9 135 T=some e135.g) {L:List Int} (x:Int) (hl:L.length<=1000000) (H:Heap):qat (ctx T) (.fn 135) [qac L,.int .i64 x] H=some (.int .i64 (atP L x),H):=
 qb2 hT qt6 (L,x) hl rfl (by simp[qac])
def qbh(t:Tr) (i:Int):Nd:=if isB t i=true then qa1 t i else ⟨1,0,[],[],[],0,[]⟩
theorem c157(t:Tr) (i:Int):CallAt (ctx T) 157 [qba t,.int .i64 i] zH (qag (qbh t i)) zH:=by
 refine qa0 (s0:=⟨[0,1,2,4],[qba t,.int .i64 i,uD,uD],[],20,⟨0,[[]]⟩⟩) Tryz.func157 rfl rfl rfl ?_;apply qR;simp[zS,qba];by_cases h:0<=i
 ·by_cases h2:i < (t.length:Int)
  ·apply qR;simp[zS,lenN,h,h2];apply qah rfl;have sA:∀L,(qaf L).single=true:=fun _=>rfl;have sI:∀L,(qac L).single=true:=fun _=>rfl;have rA:∀L,refs 6 (qaf L)=[]:=fun _=>rfl;have rI:∀L,refs 6 (qac L)=[]:=fun _=>rfl;have ho:isB t i=true:=isB_iff.2 ⟨h,h2⟩;apply qR;simp[zS,atX h h2,Nd.cs,qau,sA,sI,rA,rI];apply qa7;simp[zQ,Tryz.f157,readCells,zG,Blk.rd,qf1,qe8];refine⟨[],[],?_,FitH.empty⟩;simp[qbh,ho,qag,Nd.cs,qau,qap,qax,qa2]
  ·apply qR;simp[zS,lenN,h,h2];apply qai rfl;have ho:isB t i=false:=(by simp[isB,h2]);have bld:qdw PG 65 [(0,.int .i64 1)]=some (.agg [.int .i64 1,.int .i64 0,.str [],.nilS,.str [],.int .i64 0,.nilS]):=rfl;apply qa6;simp;apply qR;simp[zS,bld];apply qa7;simp[zQ,Tryz.f157,readCells,zG,Blk.rd,qf1,qe8];refine⟨[],[],?_,FitH.empty⟩;simp[qbh,ho,qag,Nd.cs,qau,qac,qaf,qap,qax,qa2]
 ·have ho:isB t i=false:=by simp[isB,h]
  have bld:qdw PG 65 [(0,.int .i64 1)]=some (.agg [.int .i64 1,.int .i64 0,.str [],.nilS,.str [],.int .i64 0,.nilS]):=rfl;apply qR;simp[zS,lenN,h];apply qai rfl;apply qa6;simp;apply qR;simp[zS,bld];apply qa7;simp[zQ,Tryz.f157,readCells,zG,Blk.rd,qf1,qe8];refine⟨[],[],?_,FitH.empty⟩;simp[qbh,ho,qag,Nd.cs,qau,qac,qaf,qap,qax,qa2]
def e157:Entry PG:=mkE 157 [[7],[]] (fun x:Tr × Int=>[qba x.1,.int .i64 x.2]) (fun _=>True) (fun x=>qag (qbh x.1 x.2)) fun x _=>c157 (T:=[]) x.1 x.2
theorem k157(hT:qa9 157 T=some e157.g) (t:Tr) (i:Int) (H:Heap):qat (ctx T) (.fn 157) [qba t,.int .i64 i] H=some (qag (qbh t i),H):=
 qee hT injTI (t,i) trivial (by simp[qa3,qa2,qba]) (by simp[qbb,qaj,okV,qa2,qzm]) H
