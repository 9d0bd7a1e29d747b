/- stack.Implied; state.Implied, Paragraph; blocks. No condition. -/
import Derived.Test.YtnfdakclfmchfaaGreatMM
namespace Go.Proofs.YtnfdakclfmchfaaGreat
noncomputable section
set_option linter.unusedSimpArgs false
set_option linter.unusedVariables false
open Go Go.RowKit
set_option maxRecDepth 100000
variable {T:List (Entry Tryz.prog)}
def qdm(t:Tr) (i:Nat) (L:List At1):Tr:=t.take i++{ qa1 t i with attrs:=L }::t.drop (i+1)
theorem qs9(t:Tr) (i:Nat) (L:List At1):qdm t i L≠[]:=by simp[qdm]
theorem qj1{t:Tr} {i:Nat} (h:i < t.length) (L:List At1):(qdm t i L).length=t.length:=by simp[qdm];omega
theorem qsa{t:Tr} {i:Nat} (h:i < t.length) (L:List At1):qa1 (qdm t i L) (i:Int)={ qa1 t i with attrs:=L }:=by
 have h2:i < (qdm t i L).length:=by rw[qj1 h];exact h
 rw[qfw h2];simp[qdm,List.getElem_append_right,List.length_take,Nat.min_eq_left (Nat.le_of_lt h)]
theorem qub{t:Tr} {i:Nat} (h:i < t.length):qdm t i (qa1 t i).attrs=t:=(qem h).symm
theorem qxz{t:Tr} {i:Nat} (h:i < t.length) (L M:List At1):qdm (qdm t i L) i M=qdm t i M:=by
 have e:=qsa h L;have hl:(t.take i).length=i:=by simp;omega
 have h1:(qdm t i L).take i=t.take i:=by unfold qdm;rw[List.take_append_of_le_length (by omega),List.take_of_length_le (by omega)]
 have h2:(qdm t i L).drop (i+1)=t.drop (i+1):=by unfold qdm;rw[List.drop_append,hl];simp[Nat.min_eq_left (Nat.le_of_lt h),hl,List.drop_eq_nil_of_le]
 generalize qdm t i L=X at *;have h3:qdm X i M=X.take i++{ qa1 X i with attrs:=M }::X.drop (i+1):=rfl;rw[h3,h1,h2,e];rfl
theorem lay_at2{t:Tr} {i:Nat} (h:i < t.length) (L:List At1):qjh [qaf L] (i * 7+3) (qa8 (t.map qag))=some (qa8 ((qdm t i L).map qag)):=by
 have hl:(qa8 ((t.take i).map qag)).length=i * 7:=by rw[(qbw _).len];simp;omega
 have e1:qa8 (t.map qag)=(qa8 ((t.take i).map qag)++[qau (qa1 t i).kind,qau (qa1 t i).space,.str (qa1 t i).name])++[qaf (qa1 t i).attrs]++([.str (qa1 t i).data,qau (qa1 t i).up,qac (qa1 t i).kids]++qa8 ((t.drop (i+1)).map qag)):=by
  conv=>lhs;rw[qem h]
  simp[qbk,qa8,Nd.cs]
 have e2:qa8 ((qdm t i L).map qag)=(qa8 ((t.take i).map qag)++[qau (qa1 t i).kind,qau (qa1 t i).space,.str (qa1 t i).name])++[qaf L]++([.str (qa1 t i).data,qau (qa1 t i).up,qac (qa1 t i).kids]++qa8 ((t.drop (i+1)).map qag)):=by unfold qdm;simp[qbk,qa8,Nd.cs]
 rw[e1,e2];have:=qef (a:=qa8 ((t.take i).map qag)++[qau (qa1 t i).kind,qau (qa1 t i).space,.str (qa1 t i).name]) (b:=[qaf (qa1 t i).attrs]) (b':=[qaf L]) (c:=[.str (qa1 t i).data,qau (qa1 t i).up,qac (qa1 t i).kids]++qa8 ((t.drop (i+1)).map qag)) rfl;rw[List.length_append,hl]at this;exact this
def qtv(s:SS) (i:Nat) (L:List At1):SS:={ s with tree:=qdm s.tree i L }
theorem k205(hT:qa9 205 T=some e205.g) {L:List At1} {a:At1} (hl:L.length<=900) (H:Heap):qat (ctx T) (.fn 205) [qaf L,.agg [.str a.1,.str a.2]] H=some (qaf (qnb L a),H):=
 qee hT (fun x y h=>by simp only[List.cons.injEq,and_true]at h;exact Prod.ext (qdv h.1) (qt5 h.2)) (L,a) hl (by simp[qa3,qa2]) (by simp[qbb,qcy,okV,qa3,qa2,qaf,qb0]) H
def zb3(s:SS) (at_:Nat) (nm:Str):Bool:=decide (at_ < s.opn.length) && (decide (nm=[]) || qbv (qbh s.tree (s.opn.getD at_ 0)) nm)
def qhl(s:SS) (at_:Nat) (nm:Str) (l:List At1):SS:=if zb3 s at_ nm=true then qtv s (s.opn.getD at_ 0).toNat (l.foldl qnb (qa1 s.tree (s.opn.getD at_ 0)).attrs) else s
theorem lendS_ne{s:SS} (ne:s.tree≠[]) (at_:Nat) (nm:Str) (l:List At1):(qhl s at_ nm l).tree≠[]:=by
 unfold qhl qtv;split
 ·exact qs9 _ _ _
 ·exact ne
theorem c163(hc0:qa9 76 T=some e76.g) (hc1:qa9 205 T=some e205.g) {s:SS} (ne:s.tree≠[]) (at_:Nat) (nm:Str) (l:List At1) (hW:qbx nm) (hl:nm.length<=100000) (hn:qhc s.tree) (ho:s.opn.length<=100000) (hr:∀i,i∈s.opn->0<=i/\i < (s.tree.length:Int)) (ha:at_<=100000) (h9:(qa1 s.tree (s.opn.getD at_ 0)).attrs.length+l.length<=900):SC T 163 [.int .i64 ((at_:Nat):Int),.str nm,qaf l] s (.tup []) (qhl s at_ nm l):=by
 have g0:=@vg0;have v0:=@vset;have lO:=fun H=>qn0 (H:=H) (L:=s.opn);have fin:∀(s':SS) (f:List (Nat × Blk)) (n:Nat),s'.tree≠[]->getF 0 f=none->getF 1 f=none->∃σ Φ,qap σ Φ (AV.tup []) (AV.tup [])/\FitH 2 σ Φ ⟨n,[f,VS 1 s']⟩ ⟨3,[VS 2 s']⟩:=fun s' f n h1 h2 h3=>qbz rfl rfl rfl (by decide) h1 h2 h3;by_cases hlt:at_ < s.opn.length
 case neg=>
  have e:qhl s at_ nm l=s:=by unfold qhl zb3;simp[hlt]
  have hge:((s.opn.length:Int)<=(at_:Int)):=by omega
  rw[e];clear hr h9;refine qa0 (s0:=⟨[0,1,2,3,8,10,51,52,53],[.ptr 0 0,.int .i64 (at_:Int),.str nm,qaf l,uD,uD,uD,uD,uD],[],67,⟨2,[]::[VS 1 s]⟩⟩) Tryz.func163 rfl rfl rfl ?_
  (repeat' (first
   |with_reducible apply qaa
   |(refine qay mixed qb6 (by decide +kernel) (by decide +kernel) rfl ?_;apply qh0;simp[zS,zW,qb9,qbt,qaz,Heap.lay,qb8, *,SS.post];exact rfl)
   |(with_reducible apply qbc;refine⟨by repeat first|exact qdi|refine qdj (by decide +kernel) ?_,?_⟩;simp only[qab,qa5,allPend,Heap.lay,qb8])
   |apply qah rfl
   |(with_reducible apply qa7;simp[zQ,Tryz.f163])))
  all_goals first|(((try simp[zQ,Tryz.f163]);exact fin _ _ _ ne rfl rfl))|(exfalso;omega)
 case pos=>
  obtain⟨q,hq⟩ : ∃q,q=s.opn.getD at_ 0:=⟨_,rfl⟩;rw[<- hq]at h9;have hqi:q=s.opn[at_]:=by rw[hq];simp[List.getD_eq_getElem?_getD,hlt]
  obtain⟨u,hu⟩ : ∃u:Nat,q=(u:Int):=⟨q.toNat,by have:=(hr q (hqi ▸ List.getElem_mem hlt)).1;omega⟩;have hul:u < s.tree.length:=by have:=(hr q (hqi ▸ List.getElem_mem hlt)).2;omega
  have hge:¬ ((s.opn.length:Int)<=(at_:Int)):=by omega
  have hat:=atI hlt;rw[<- hqi,hu]at hat;have kI:=fun n k f (k0:0 < k) (hf:getF k f=none)=>q76 hc0 (thS (n:=n) k0 ne hf) (u:Int) hW hl (hn _);obtain⟨b,hb⟩ : ∃b,b=qbv (qbh s.tree (u:Int)) nm:=⟨_,rfl⟩;rw[<- hb]at kI;rw[hu]at h9;have eB:zb3 s at_ nm=(decide (nm=[]) || b):=by unfold zb3;rw[<- hq,hu,<- hb];simp[hlt]
  have eS:qhl s at_ nm l=if (decide (nm=[]) || b)=true then qtv s u (l.foldl qnb (qa1 s.tree (u:Int)).attrs) else s:=by unfold qhl;rw[eB,<- hq,hu];rfl
  rw[eS];clear eS eB hr hn hq hqi;by_cases hgo:nm=[]\/b=true
  case neg=>
   have h1:¬ nm=[]:=fun h=>hgo (.inl h);have h2:b=false:=(by cases b with|false=>rfl|true=>exact absurd (.inr rfl) hgo);subst h2;rw[if_neg (by simp[h1])];clear hb hgo;refine qa0 (s0:=⟨[0,1,2,3,8,10,51,52,53],[.ptr 0 0,.int .i64 (at_:Int),.str nm,qaf l,uD,uD,uD,uD,uD],[],67,⟨2,[]::[VS 1 s]⟩⟩) Tryz.func163 rfl rfl rfl ?_
   (repeat' (first
    |with_reducible apply qaa
    |(refine qay mixed qb6 (by decide +kernel) (by decide +kernel) rfl ?_;apply qh0;simp[zS,zW,qb9,qbt,qaz,Heap.lay,qb8, *,SS.post];exact rfl)
    |(with_reducible apply qbc;refine⟨by repeat first|exact qdi|refine qdj (by decide +kernel) ?_,?_⟩;simp only[qab,qa5,allPend,Heap.lay,qb8])
    |apply qah rfl
    |(with_reducible apply qa7;simp[zQ,Tryz.f163])))
   all_goals first|(((try simp[zQ,Tryz.f163]);exact fin _ _ _ ne rfl rfl))|(exfalso;omega)
  case pos=>
   rw[if_pos (by rcases hgo with h|h<;>simp[h])];have ix:=ixN (k:=1) hul;have lA:∀H,qeq PG H 27 (qaf l)=some l.length:=fun H=>(by simp[qeq,qaf]);obtain⟨A0,hA0⟩ : ∃A0,A0=(qa1 s.tree (u:Int)).attrs:=⟨_,rfl⟩;rw[<- hA0]at h9 ⊢;obtain⟨stl,hstl⟩ : ∃stl:Nat->SS,stl=fun j=>qtv s u ((l.take j).foldl qnb A0):=⟨_,rfl⟩;have e0:stl 0=s:=(by rw[hstl];simp only[List.take_zero,List.foldl_nil,hA0];unfold qtv;rw[qub hul]);have eE:qtv s u (l.foldl qnb A0)=stl l.length:=(by rw[hstl];simp);have nS:∀j,(stl j).tree≠[]:=fun j=>(by rw[hstl];exact qs9 _ _ _);have kA:=@k205 T hc1;rw[eE];clear hb eE;have fits:∀(j:Nat) (f:List (Nat × Blk)) (n:Nat),getF 0 f=none->getF 1 f=none->FitH 2 [(1,1),(0,0)] [] ⟨n,[f,VS 1 (stl j)]⟩ ⟨2,[[],VS 1 (stl j)]⟩:=fun j f n h1 h2=>qv0 ⟨by omega,by omega,by omega⟩ (by omega) (by omega) (nS j) h1 h2;have hgo2:¬ nm=[]->b=true:=fun h=>hgo.resolve_left h;by_cases hnm:nm=[];all_goals
    try have hbt:=hgo2 hnm
    clear hgo hgo2;refine qa0 (s0:=⟨[0,1,2,3,8,10,51,52,53],[.ptr 0 0,.int .i64 (at_:Int),.str nm,qaf l,uD,uD,uD,uD,uD],[],67,⟨2,[]::[VS 1 s]⟩⟩) Tryz.func163 rfl rfl rfl ?_
    (repeat' (first
     |with_reducible apply qaa
     |with_reducible apply qa4
     |(with_reducible apply rE;simp[zS, *,SS.post];exact rfl)
     |(with_reducible apply qad;simp only[qab,qa5])
     |(refine qay mixed qb6 (by decide +kernel) (by decide +kernel) rfl ?_;apply qh0;simp[zS,zW,qb9,qbt,qaz,Heap.lay,qb8, *,SS.post];exact rfl)
     |(with_reducible apply qbc;refine⟨by repeat first|exact qdi|refine qdj (by decide +kernel) ?_,?_⟩;simp only[qab,qa5,allPend,Heap.lay,qb8])
     |apply qai rfl
     |(with_reducible apply qa6;simp only[qab,qa5])))
    all_goals first|(skip)|(exfalso;omega)
    clear ix hat lO hge kI;refine qb1 (fun j:Nat=>(⟨[0,1,2,3,8,10,51,52,53],[.ptr 0 0,.int .i64 (at_:Int),uD,qaf l,.ptr 1 (u * 7),uD,qaf l,.int .i64 (l.length:Int),.int .i64 (j:Int)],[],67,⟨2,[[],VS 1 (stl j)]⟩⟩ : St)) (fun j=>j<=l.length) (fun j=>l.length - j) [(1,1),(0,0)] [] 0 (Nat.zero_le _)
     ⟨rfl,rfl,rfl,by simp[qax,qap,qav,qa2],by have:=fits 0 [] 43 rfl rfl;rw[e0]at this ⊢;exact this⟩ ?_
    intro j hj B hB;by_cases hjl:j < l.length
    ·have hB1:=fun(f:List (Nat × Blk)) (n:Nat) (h1:getF 0 f=none) (h2:getF 1 f=none) (hB':_)=>hB ⟨[0,1,2,3,8,10,51,52,53],[.ptr 0 0,.int .i64 (at_:Int),uD,qaf l,.ptr 1 (u * 7),uD,qaf l,.int .i64 (l.length:Int),.int .i64 ((j+1:Nat):Int)],[],67,⟨n,[f,VS 1 (stl (j+1))]⟩⟩ (j+1) (by omega) (by omega) hB';obtain⟨Aj,hAj⟩ : ∃Aj,Aj=(l.take j).foldl qnb A0:=⟨_,rfl⟩;have hAl:Aj.length<=900:=(by have:=qtd (l.take j) A0;rw[<- hAj]at this;simp at this;omega);have hsj:stl j=qtv s u Aj:=(by rw[hstl,hAj]);have hsn:stl (j+1)=qtv s u (qnb Aj l[j]):=(by rw[hstl,hAj];simp only[List.take_succ_eq_append_getElem hjl,List.foldl_append,List.foldl_cons,List.foldl_nil]);have g0:=vg0 (k:=1) (nS j);have gk:=vgk (k:=1) (by omega) (nS j);have hlj:(stl j).tree.length=s.tree.length:=(by rw[hsj];exact qj1 hul _);have gA:qca (qa8 ((stl j).tree.map qag)) (u * 7+3)=some (qaf Aj):=(by rw[getN (by omega) (by omega),hsj];show qca (qa1 (qdm s.tree u Aj) (u:Int)).cs 3=_;rw[qsa hul];rfl);have ld:qjh [qaf (qnb Aj l[j])] (u * 7+3) (qa8 ((stl j).tree.map qag))=some (qa8 ((stl (j+1)).tree.map qag)):=(by rw[lay_at2 (by omega),hsj,hsn];show some (qa8 ((qdm (qdm s.tree u Aj) u _).map qag))=_;rw[qxz hul];rfl);have sk:setF 1 (.cells (qa8 ((stl (j+1)).tree.map qag))) (VS 1 (stl j))=some (VS 1 (stl (j+1))):=(by rw[set_k (by omega) (nS j) (by rw[hsj,hsn];show (qdm _ _ _).length=(qdm _ _ _).length;rw[qj1 hul,qj1 hul])];rw[hsj,hsn];rfl);have kj:=fun H=>@kA Aj l[j] hAl H;have ixA:qan PG 27 (qaf l) (.int .i64 (j:Int))=some (.fptr [.str l[j].1,.str l[j].2] 0):=(by simp[qan,qaf,qbj hjl,qe2,qb0,AV.cells,hjl]);have hlt2:((j:Int) < (l.length:Int)):=(by omega);have hw1:wr .i64 ((j:Int)+1)=some ((j:Int)+1):=qbs (by omega) (by omega);clear hsj hsn hlj hAj hstl kA hAl e0 hB1;generalize l[j]=a at *
     (repeat' (first
      |with_reducible apply qaa
      |with_reducible apply qa4
      |(with_reducible apply rE;simp[zS, *,SS.post];exact rfl)
      |(with_reducible apply qad;simp only[qab,qa5])
      |(refine qay mixed qb6 (by decide +kernel) (by decide +kernel) rfl ?_;apply qh0;simp[zS,zW,qb9,qbt,qaz,Heap.lay,qb8, *,SS.post];exact rfl)
      |(with_reducible apply qbc;refine⟨by repeat first|exact qdi|refine qdj (by decide +kernel) ?_,?_⟩;simp only[qab,qa5,allPend,Heap.lay,qb8])
      |apply qah rfl
      |(with_reducible apply qa6;simp only[qab,qa5])))
     all_goals first|(exact hB _ (j+1) (by omega) (by omega) ⟨[(1,1),(0,0)],[],rfl,rfl,rfl,by simp[qax,qap,qav,qa2],fits (j+1) _ _ (by simp[getF]) (by simp[getF])⟩)|(exfalso;omega)
    ·have hj2:j=l.length:=(by omega);subst hj2;have hlt2:¬ ((l.length:Int) < (l.length:Int)):=(by omega);clear hstl e0
     (repeat' (first
      |with_reducible apply qaa
      |(with_reducible apply rE;simp[zS, *,SS.post];exact rfl)
      |(with_reducible apply qad;simp only[qab,qa5])
      |apply qai rfl
      |(with_reducible apply qas;simp)))
     all_goals first|(((try simp[zQ,Tryz.f163]);exact fin _ _ _ (nS _) (by simp[getF]) (by simp[getF])))|(exfalso;omega)
theorem inj_163(x y:Nat × Str × List At1) (h:(fun z:Nat × Str × List At1=>([.int .i64 ((z.1:Nat):Int),.str z.2.1,qaf z.2.2]:List AV)) x=(fun z:Nat × Str × List At1=>([.int .i64 ((z.1:Nat):Int),.str z.2.1,qaf z.2.2]:List AV)) y):x=y:=by obtain⟨x0,x1,x2⟩:=x;obtain⟨y0,y1,y2⟩:=y;simp only[List.cons.injEq,and_true]at h;obtain⟨h0,h1,h2⟩:=h;have g0:x0=y0:=(by have:=(AV.int.inj h0).2;omega);have g1:x1=y1:=AV.str.inj h1;have g2:x2=y2:=qdv h2;subst g0 g1 g2;rfl
def e163:Entry PG:=mkS 163 [[],[],[2]] (fun z:Nat × Str × List At1=>[.int .i64 ((z.1:Nat):Int),.str z.2.1,qaf z.2.2]) (fun z s=>(qbx z.2.1)/\(z.2.1.length<=100000)/\(qhc s.tree)/\(s.opn.length<=100000)/\(∀i,i∈s.opn->0<=i/\i < (s.tree.length:Int))/\(z.1<=100000)/\((qa1 s.tree (s.opn.getD z.1 0)).attrs.length+z.2.2.length<=900)) (fun z s=>.tup []) (fun z s=>qhl s z.1 z.2.1 z.2.2) fun z s ne h=>⟨c163 (T:=[e76,e205]) rfl rfl ne z.1 z.2.1 z.2.2 h.1 h.2.1 h.2.2.1 h.2.2.2.1 h.2.2.2.2.1 h.2.2.2.2.2.1 h.2.2.2.2.2.2,by simp[qa3,qa2],by simp[qa2,qa3],lendS_ne ne _ _ _⟩
theorem k163(hT:qa9 163 T=some e163.g) {s:SS} (ne:s.tree≠[]) (at_:Nat) (nm:Str) (l:List At1) (hW:qbx nm) (hl:nm.length<=100000) (hn:qhc s.tree) (ho:s.opn.length<=100000) (hr:∀i,i∈s.opn->0<=i/\i < (s.tree.length:Int)) (ha:at_<=100000) (h9:(qa1 s.tree (s.opn.getD at_ 0)).attrs.length+l.length<=900) {n k:Nat} {fr:List (Nat × Blk)} (k0:0 < k) (kn:k < n) (of:qga k fr):qat (ctx T) (.fn 163) [.ptr 0 0,.int .i64 ((at_:Nat):Int),.str nm,qaf l] ⟨n,[fr,VS k s]⟩=some (.tup [],⟨n+1,[fr,VS n (qhl s at_ nm l)]⟩):=
 qct hT inj_163 (at_,nm,l) ne ⟨hW,hl,hn,ho,hr,ha,h9⟩ (by simp[qa3,qa2]) (by simp[qbb,qaj]) k0 kn of
theorem qso{t:Tr} {i:Nat} (h:i < t.length) (x:Nd) (j:Int):qa1 (t.take i++x::t.drop (i+1)) j=if j.toNat=i then x else qa1 t j:=by
 unfold qa1;rw[List.getD_eq_getElem?_getD,List.getD_eq_getElem?_getD];have hl:(t.take i).length=i:=by simp;omega
 by_cases h1:j.toNat < i
 ·rw[List.getElem?_append_left (by omega),List.getElem?_take,if_pos h1,if_neg (by omega)]
 ·by_cases h2:j.toNat=i
  ·rw[List.getElem?_append_right (by omega),hl,h2,if_pos rfl];simp
  ·rw[List.getElem?_append_right (by omega),hl,if_neg h2];obtain⟨d,hd⟩ : ∃d,j.toNat - i=d+1:=⟨j.toNat - i - 1,by omega⟩;rw[hd,List.getElem?_cons_succ,List.getElem?_drop,show i+1+d=j.toNat by omega]
theorem za1{t:Tr} {i:Nat} (h:i < t.length) (x:Nd):(t.take i++x::t.drop (i+1)).length=t.length:=by simp;omega
theorem zay(t:Tr) (nd:Nd) (j:Int):qa1 (qix t nd) j=if j.toNat=t.length then fresh nd else qa1 t j:=by
 unfold qa1 qix;rw[List.getD_eq_getElem?_getD,List.getD_eq_getElem?_getD];by_cases h1:j.toNat < t.length
 ·rw[List.getElem?_append_left h1,if_neg (by omega)]
 ·rw[List.getElem?_append_right (by omega)];by_cases h2:j.toNat=t.length
  ·simp[h2]
  ·rw[if_neg h2,List.getElem?_eq_none (by simp;omega),List.getElem?_eq_none (by omega)]
theorem qx1:∀(l A:List At1),(l.foldl qnb A).length<=A.length+l.length
 |[],A=>by simp
 |a::l,A=>by
  have:=qx1 l (qnb A a);have h1:(qnb A a).length<=A.length+1:=by unfold qnb;split<;>simp
  simp only[List.foldl_cons,List.length_cons];omega
theorem nodeS_at{t:Tr} {i:Int} (h0:0<=i) (h:i < (t.length:Int)):qbh t i=qa1 t i:=by unfold qbh;rw[if_pos (by simp[isB,h0,h])]
set_option maxHeartbeats 1000000
def upT(u:Int) (t:Tr) (k:Int):Tr:=if isB t k=true then setUp t k.toNat u else t
def qyz(t:Tr) (K:List Int) (u:Int):Tr:=K.foldl (upT u) t
def quk(t:Tr) (fr to:Int):Bool:=isB t fr && isB t to && !qif t fr to
def qui(t:Tr) (fr to:Int):Tr:=qyz t (qa1 t fr).kids to
def qsp(t:Tr) (fr to:Int):Tr:=if quk t fr to=true then setKids (setKids (qui t fr to) to.toNat ((qa1 (qui t fr to) to).kids++(qa1 t fr).kids)) fr.toNat [] else t
theorem qzk(u:Int) (t:Tr) (k:Int):(upT u t k).length=t.length:=by
 unfold upT;split
 next h=>have:=isB_iff.1 h;unfold setUp;rw[List.length_append,List.length_cons,List.length_take,List.length_drop];omega
 ·rfl
theorem qki:∀(K:List Int) (t:Tr) (u:Int),(qyz t K u).length=t.length
 |[],_,_=>rfl
 |k::K,t,u=>by have:=qki K (upT u t k) u;unfold qyz at this ⊢;rw[List.foldl_cons,this,qzk]
theorem upT_kids(u:Int) (t:Tr) (k i:Int):(qa1 (upT u t k) i).kids=(qa1 t i).kids:=by
 unfold upT;split
 ·rename_i h;have hk:=isB_iff.1 h;unfold setUp;rw[qso (by omega)];split
  next e=>have:qa1 t i=qa1 t (k.toNat:Int):=(by unfold qa1;rw[e];rfl);rw[this]
  ·rfl
 ·rfl
theorem qng:∀(K:List Int) (t:Tr) (u i:Int),(qa1 (qyz t K u) i).kids=(qa1 t i).kids
 |[],_,_,_=>rfl
 |k::K,t,u,i=>by have:=qng K (upT u t k) u i;unfold qyz at this ⊢;rw[List.foldl_cons,this,upT_kids]
theorem quj{t:Tr} (hne:t≠[]) (fr to:Int):qsp t fr to≠[]:=by
 unfold qsp;split
 ·simp[setKids]
 ·exact hne
def qy5(pb:Nat) (pre:List AV) (k:Nat) (t:Tr) (i:Nat) (post:List AV) (g:List (Nat × Blk)):List (Nat × Blk):=(pb,.cells (pre++qcv k 7 (t.map qag)::post))::(k,.cells (qie t i .nilS))::g
theorem qu4{m n pb k:Nat} {pre post:List AV} {g f:List (Nat × Blk)} {t:Tr} (h:Eok m pb pre k 7 (t.map qag) post g) {i:Nat} (hi:i < t.length) (hf:∀j,j < m->getF j f=none) :
  writeVar PG ⟨n,[f,VE pb pre k 7 (t.map qag) post g]⟩ 38 (.ptr k (i * 7+6)) .nilS=some ⟨n,[f,qy5 pb pre k t i post g]⟩:=by
 have hne:t.map qag≠[]:=by intro e;have:=congrArg List.length e;simp at this;subst this;simp at hi
 have hk:getF k f=none:=hf k h.lk.1;have hg:Heap.get ⟨n,[f,VE pb pre k 7 (t.map qag) post g]⟩ k=some (.cells (qa8 (t.map qag))):=by simp only[Heap.get,getFs];rw[hk,VE_k h hne]
 have hs:Heap.set ⟨n,[f,VE pb pre k 7 (t.map qag) post g]⟩ k (.cells (qie t i .nilS))=some ⟨n,[f,qy5 pb pre k t i post g]⟩:=by simp only[Heap.set,setFs];rw[qlm hk];unfold VE;rw[qe9 hne];simp[setF,h.k_p,qy5]
 have hl:=qwo hi .nilS;have rf:refs 6 AV.nilS=[]:=rfl;unfold writeVar;simp[AV.cells,allSingle,AV.single,writeCells,hg,Blk.wt,hl,Heap.ready,rf,hs,Blk.re]
theorem fit_rawN{N m m' n pb k:Nat} {pre post:List AV} {g f:List (Nat × Blk)} {t:Tr} (h:Eok m pb pre k 7 (t.map qag) post g) {i:Nat} (hi:i < t.length) (hN:N<=m) (hm:m<=m') (hf:∀j,j < m->getF j f=none) :
  FitH N (idn m) [] ⟨n,[f,qy5 pb pre k t i post g]⟩ ⟨m',[VE pb pre k 7 ((setKids t i []).map qag) post g]⟩:=by
 have h2:=h.mono (Nat.le_refl m) (qbw (setKids t i []));have hne:t.map qag≠[]:=by intro e;have:=congrArg List.length e;simp at this;subst this;simp at hi
 have hne2:(setKids t i []).map qag≠[]:=by simp[setKids]
 have nd:=zd0 h2;have ov:qcv k 7 ((setKids t i []).map qag)=qcv k 7 (t.map qag):=by rw[qcm hne,qcm hne2,List.length_map,List.length_map,qc2 hi]
 have hx:∀e,e∈qy5 pb pre k t i post g->Heap.get ⟨n,[f,qy5 pb pre k t i post g]⟩ e.1=some e.2/\e.1 < m:=fun e he=>by
  have nd':((qy5 pb pre k t i post g).map (·.1)).Nodup:=by have:(qy5 pb pre k t i post g).map (·.1)=(VE pb pre k 7 ((setKids t i []).map qag) post g).map (·.1):=(by unfold qy5 VE;rw[qe9 hne2];rfl);rw[this];exact nd
  have hl:e.1 < m:=by
   simp only[qy5,List.mem_cons]at he;rcases he with rfl|rfl|he
   ·exact h.lp
   ·exact h.lk.1
   ·exact h.lg e he
  refine⟨?_,hl⟩;simp only[Heap.get,getFs];rw[hf _ hl,qp4 nd' he]
 have hall:=qty h2;constructor
 case nd1=>simpa using qt8 m
 case nd2=>exact qr1 m
 case nd3=>simpa[Heap.ents]using nd
 case lt=>
  intro x hx;obtain⟨i,hi,rfl⟩:=List.mem_map.1 hx;have:i < m:=by simpa using hi
  show i < m';omega
 case idn=>
  intro x hx hlt;obtain⟨i,hi,rfl⟩:=List.mem_map.1 hx;rfl
 case num=>exact Nat.le_trans hN hm
 case src=>
  intro e he;simp only[Heap.ents,List.flatten_cons,List.flatten_nil,List.append_nil]at he;obtain⟨h1,hs⟩:=hall e he;unfold VE at he;rw[qe9 hne2]at he;simp only[List.mem_cons,List.cons_append,List.nil_append]at he;rcases he with rfl|rfl|he
  ·obtain⟨e1,e2⟩:=hx (pb,.cells (pre++qcv k 7 (t.map qag)::post)) (by simp[qy5]);refine⟨pb,_,qho h1,e1,?_⟩;have:=hs _ (qr2 m);simp only[qji,ov]at this ⊢;exact this
  ·obtain⟨e1,e2⟩:=hx (k,.cells (qie t i .nilS)) (by simp[qy5]);refine⟨k,_,qho h1,e1,?_⟩;have key:qax (idn m) [] (qie t i .nilS) (qie t i (qac [])):=(by unfold qie;refine qj8 (qj8 (qao ?_) (by simp[qax,qap,qac,qa3])) (qao (qbw _).pure);rw[qdn,(qbw _).pure];simp[qa3,qa2,qau]);rw[qpp]at key;exact key
  ·obtain⟨e1,e2⟩:=hx e (by simp[qy5,he]);exact⟨e.1,_,qho h1,e1,hs _ (qr2 m)⟩
 case frz=>intro x h;cases h
theorem c139(hS:qa9 88 T=some e88.g) (hH:qa9 89 T=some e89.g) (hC:qa9 196 T=some e196.g)
  {m pb k:Nat} {pre post:List AV} {g:List (Nat × Blk)} {t:Tr} (h:Eok m pb pre k 7 (t.map qag) post g) (hne:t≠[]) (ht:t.length<=1000000) (hk:qd1 t 400000) (fr to:Int) :
  CallAt (ctx T) 139 [.ptr pb pre.length,.int .i64 fr,.int .i64 to] ⟨m,[VE pb pre k 7 (t.map qag) post g]⟩ (.tup []) ⟨m,[VE pb pre k 7 ((qsp t fr to).map qag) post g]⟩:=by
 have nf:∀j,j < m->getF j ([]:List (Nat × Blk))=none:=fun _ _=>rfl;have thX:∀(X:Tr),X≠[]->∀n,qcy ⟨n,[[],VE pb pre k 7 (X.map qag) post g]⟩ [7] (.agg [qcv k 7 (X.map qag)])=some (qba X):=fun X hX n=>by have hX2:=h.mono (Nat.le_refl m) (qbw X);refine qet hX ?_;simp only[Heap.get,getFs];rw[nf k hX2.lk.1,VE_k hX2 (by simpa using hX)]
 have rdT:=fun n=>(qev (n:=n) h nf).1;have rdN0:=fun n=>(qev (n:=n) h nf).2;have ksf:=fun n=>q88 hS (thX t hne n) fr;have kst:=fun n=>q88 hS (thX t hne n) to;have kh:=fun n=>q89 hH (thX t hne n) ht fr to;by_cases hok:quk t fr to=true
 case neg=>
  have e:qsp t fr to=t:=by unfold qsp;rw[if_neg hok]
  rw[e];cases bu:isB t fr with
  |false=>rw[bu]at ksf;refine qa0 (s0:=⟨[0,1,2,6,8,39,40,41],[.ptr pb pre.length,.int .i64 fr,.int .i64 to,uD,uD,uD,uD,uD],[],84,⟨m,[]::[VE pb pre k 7 (t.map qag) post g]⟩⟩) Tryz.func139 rfl rfl rfl ?_;apply qR;simp[zS,rdT,ksf];apply qah rfl;apply qa7;simp[zQ,Tryz.f139];exact⟨_,_,by simp[qap,qax,qa3],qf0 h (Nat.le_refl m) (Nat.le_refl m) fun _ _=>rfl⟩
  |true=>cases bi:isB t to with
   |false=>rw[bu]at ksf;rw[bi]at kst;refine qa0 (s0:=⟨[0,1,2,6,8,39,40,41],[.ptr pb pre.length,.int .i64 fr,.int .i64 to,uD,uD,uD,uD,uD],[],84,⟨m,[]::[VE pb pre k 7 (t.map qag) post g]⟩⟩) Tryz.func139 rfl rfl rfl ?_;apply qR;simp[zS,rdT,ksf,kst];apply qah rfl;apply qa7;simp[zQ,Tryz.f139];exact⟨_,_,by simp[qap,qax,qa3],qf0 h (Nat.le_refl m) (Nat.le_refl m) fun _ _=>rfl⟩
   |true=>have bh:qif t fr to=true:=(by simpa[quk,bu,bi]using hok);rw[bu]at ksf;rw[bi]at kst;rw[bh]at kh;refine qa0 (s0:=⟨[0,1,2,6,8,39,40,41],[.ptr pb pre.length,.int .i64 fr,.int .i64 to,uD,uD,uD,uD,uD],[],84,⟨m,[]::[VE pb pre k 7 (t.map qag) post g]⟩⟩) Tryz.func139 rfl rfl rfl ?_;apply qR;simp[zS,rdT,ksf,kst,kh];apply qah rfl;apply qa7;simp[zQ,Tryz.f139];exact⟨_,_,by simp[qap,qax,qa3],qf0 h (Nat.le_refl m) (Nat.le_refl m) fun _ _=>rfl⟩
 case pos=>
  have ep:qsp t fr to=setKids (setKids (qui t fr to) to.toNat ((qa1 (qui t fr to) to).kids++(qa1 t fr).kids)) fr.toNat []:=by unfold qsp;rw[if_pos hok]
  rw[ep];simp only[quk,Bool.and_eq_true,Bool.not_eq_true']at hok;obtain⟨⟨bu,bi⟩,bh⟩:=hok;rw[bu]at ksf;rw[bi]at kst;rw[bh]at kh;obtain⟨a,rfl⟩:=Int.eq_ofNat_of_zero_le (isB_iff.1 bu).1;obtain⟨b,rfl⟩:=Int.eq_ofNat_of_zero_le (isB_iff.1 bi).1;have ha:a < t.length:=by have:=(isB_iff.1 bu).2;omega
  have hb:b < t.length:=by have:=(isB_iff.1 bi).2;omega
  simp only[Int.toNat_natCast];obtain⟨K,hK⟩ : ∃K,K=(qa1 t (a:Int)).kids:=⟨_,rfl⟩;have hKl:K.length<=400000:=by rw[hK];exact qh3 hk _
  have hbl:(qa1 t (b:Int)).kids.length<=400000:=qh3 hk _;have eX:qui t (a:Int) (b:Int)=qyz t K b:=by unfold qui;rw[<- hK]
  rw[eX,<- hK];have ixT:∀(X:Tr) (i:Nat),X≠[]->i < X.length->qan PG 35 (qcv k 7 (X.map qag)) (.int .i64 (i:Int))=some (.ptr k (i * 7)):=fun X i hX hi=>by rw[qcm (by simpa using hX)];simp[qan,qbj hi]
  have rdKf:∀(X:Tr) (i:Nat),X≠[]->i < X.length->∀n (f:List (Nat × Blk)),(∀j,j < m->getF j f=none)->qaq PG ⟨n,[f,VE pb pre k 7 (X.map qag) post g]⟩ 38 (.ptr k (i * 7+6))=some (qac (qa1 X (i:Int)).kids):=fun X i hX hi n f hf=>by have hX2:=h.mono (Nat.le_refl m) (qbw X);have hg:Heap.get ⟨n,[f,VE pb pre k 7 (X.map qag) post g]⟩ k=some (.cells (qa8 (X.map qag))):=(by simp only[Heap.get,getFs];rw[hf k hX2.lk.1,VE_k hX2 (by simpa using hX)]);simp[hg,qob hi]
  have rdK:=fun X i hX hi n=>rdKf X i hX hi n [] nf;have rdKa:=rdK t a hne ha;rw[<- hK]at rdKa;have ixa:=ixT t a hne ha;have lK:∀H,qeq PG H 38 (qac K)=some K.length:=fun H=>by simp[qeq,qac]
  obtain⟨Ut,hUt⟩ : ∃Ut:Nat->Tr,Ut=fun j=>qyz t (K.take j) b:=⟨_,rfl⟩;have S0:Ut 0=t:=by rw[hUt];rfl
  have Sn:Ut K.length=qyz t K b:=by rw[hUt];simp
  have Sl:∀j,(Ut j).length=t.length:=fun j=>by rw[hUt];exact qki _ _ _
  have Sne:∀j,Ut j≠[]:=fun j e=>by have:=Sl j;rw[e]at this;exact hne (List.length_eq_zero_iff.1 this.symm)
  have Ss:∀j (hj:j < K.length),Ut (j+1)=upT b (Ut j) K[j]:=fun j hj=>by rw[hUt];show qyz t (K.take (j+1)) b=_;unfold qyz;rw[List.take_succ_eq_append_getElem hj,List.foldl_append];rfl
  have Sk:∀j i,(qa1 (Ut j) i).kids=(qa1 t i).kids:=fun j i=>by rw[hUt];exact qng _ _ _ _
  rw[<- Sn];clear hUt Sn eX ep;refine qa0 (s0:=⟨[0,1,2,6,8,39,40,41],[.ptr pb pre.length,.int .i64 (a:Int),.int .i64 (b:Int),uD,uD,uD,uD,uD],[],84,⟨m,[]::[VE pb pre k 7 (t.map qag) post g]⟩⟩) Tryz.func139 rfl rfl rfl ?_;apply qR;simp[zS,rdT,ksf,kst,kh];apply qai rfl;apply qa6;simp;apply qR;simp[zS,rdN0,ixa,rdKa];apply qR;simp[zS,lK];apply qa4;refine qb1 (fun j:Nat=>(⟨[0,1,2,6,8,39,40,41],[.ptr pb pre.length,.int .i64 (a:Int),.int .i64 (b:Int),qac K,uD,qac K,.int .i64 (K.length:Int),.int .i64 (j:Int)],[],84,⟨m,[[],VE pb pre k 7 ((Ut j).map qag) post g]⟩⟩ : St)) (fun j=>j<=K.length) (fun j=>K.length - j) (idn m) [] 0 (Nat.zero_le _)
   ⟨rfl,rfl,rfl,by simp[qax,qap,qdz h.lp,qa2,qac],by rw[S0];exact zbv h (Nat.le_refl m) (Nat.le_refl m) fun _ _=>rfl⟩ ?_
  intro j hj B hB;have hX:=h.mono (Nat.le_refl m) (qbw (Ut j));have qjy:=fun n=>(qev (n:=n) hX nf).1;have rdN1:=fun n=>(qev (n:=n) hX nf).2;apply qR;simp[zS];repeat apply wq
  refine qbf rfl (fun h=>?_) fun h=>?_
  ·simp at h;apply qa6;simp;repeat apply wq
   apply qa4;have hat:=atI h;have es:=Ss j h;generalize K[j]=x at *;have ksx:=fun n=>q88 hS (thX (Ut j) (Sne j) n) x;cases bx:isB (Ut j) x with
   |false=>rw[bx]at ksx;have es:Ut (j+1)=Ut j:=(by rw[es];unfold upT;rw[bx];rfl);apply qR;simp[zS,hat];apply qR;simp[zS,qjy,ksx];apply qai rfl;apply qa6;simp;apply qR;simp[zS,qbo (show j<=1000000000 by omega)];exact hB _ (j+1) (by omega) (by omega) ⟨idn m,[],rfl,rfl,rfl,by simp[qax,qap,qdz hX.lp,qa2,qac],by rw[es];exact zbv hX (Nat.le_refl m) (Nat.le_refl m) fun _ _=>rfl⟩
   |true=>rw[bx]at ksx;obtain⟨i,rfl⟩:=Int.eq_ofNat_of_zero_le (isB_iff.1 bx).1;have hi:i < (Ut j).length:=(by have:=(isB_iff.1 bx).2;omega);have es:Ut (j+1)=setUp (Ut j) i b:=(by rw[es];unfold upT;rw[if_pos bx];rfl);have ixx:=ixT (Ut j) i (Sne j) hi;have hw:=fun n=>qms (n:=n) hX hi (b:Int) nf;have hX3:=hX.mono (Nat.le_refl m) (qbw (setUp (Ut j) i (b:Int)));apply qR;simp[zS,hat];apply qR;simp[zS,qjy,ksx];apply qah rfl;apply qR;simp[zS,rdN1,ixx,hw];apply qR;simp[zS,qbo (show j<=1000000000 by omega)];exact hB _ (j+1) (by omega) (by omega) ⟨idn m,[],rfl,rfl,rfl,by simp[qax,qap,qdz hX.lp,qa2,qac],by rw[es];exact zbv hX3 (Nat.le_refl m) (Nat.le_refl m) fun _ _=>rfl⟩
  ·simp at h;have hjn:j=K.length:=(by omega);subst hjn;apply qas;simp;have la:a < (Ut K.length).length:=(by rw[Sl];exact ha);have lb:b < (Ut K.length).length:=(by rw[Sl];exact hb);have kb:(qa1 (Ut K.length) (b:Int)).kids=(qa1 t (b:Int)).kids:=Sk _ _;have rdKb:=rdK (Ut K.length) b (Sne _) lb;have ixb:=ixT (Ut K.length) b (Sne _) lb;obtain⟨B1,hB1⟩ : ∃B1,B1=(qa1 (Ut K.length) (b:Int)).kids:=⟨_,rfl⟩;rw[<- hB1]at rdKb kb ⊢;rw[<- kb]at hbl;have nf2:∀c j,j < m->getF j [(m+14,Blk.cells c)]=none:=fun c j hj=>(by simp[getF,qb4 (show m+14≠j by omega)]);have hw:=fun n=>qjq (n:=n) hX lb (B1++K) (nf2 [.fslc 1 (B1.map qau),.fslc 1 (K.map qau)]);have rdN3:=fun n=>(qev (n:=n) hX (nf2 [.fslc 1 (B1.map qau),.fslc 1 (K.map qau)])).2;have rdKb3:=fun n=>rdKf (Ut K.length) b (Sne _) lb n _ (nf2 [.fslc 1 (B1.map qau),.fslc 1 (K.map qau)]);rw[<- hB1]at rdKb3;have hX2:=hX.mono (Nat.le_refl m) (qbw (setKids (Ut K.length) b (B1++K)));have lX2:(setKids (Ut K.length) b (B1++K)).length=(Ut K.length).length:=qc2 lb _;have nX2:setKids (Ut K.length) b (B1++K)≠[]:=(by simp[setKids]);have rdN2:=fun n=>(qev (n:=n) hX2 nf).2;have ixa2:=ixT (setKids (Ut K.length) b (B1++K)) a nX2 (by omega);have hw2:=fun n c=>qu4 (n:=n) hX2 (show a < (setKids (Ut K.length) b (B1++K)).length by omega) (nf2 c);have hfr:=fun n c=>fit_rawN (n:=n) hX2 (show a < (setKids (Ut K.length) b (B1++K)).length by omega) (Nat.le_refl m) (Nat.le_refl m) (nf2 c);have rdN4:=fun n c=>(qev (n:=n) hX2 (nf2 c)).2;have hX3:=hX2.mono (Nat.le_refl m) (qbw (setKids (setKids (Ut K.length) b (B1++K)) a []));have kC:=fun(H:Heap) q (hq:H.get q=some (.cells [qac B1,qac K]))=>k196 hC (LL:=[B1,K]) (a:=.slc q 0 2 (.ex 2)) (H:=H) (by simp;omega) (by simp) (qkk (r:=[]) (b:=q) (cap:=.ex 2) (es:=[qac B1,qac K]) (.map (sz:=1) (f:=qac) (by decide) (fun x=>⟨rfl,by simp[AV.cells,qac,qa3,qa2],fun _=>rfl,fun h=>absurd rfl h⟩) [B1,K]) hq);simp only[List.flatten_cons,List.flatten_nil,List.append_nil]at kC;generalize Ut K.length=X at *;generalize setKids X b (B1++K)=Y at *;generalize B1++K=BK at *;have bl2:∀cs,qz2 PG 170 (some 73) cs=.cells cs:=fun _=>rfl;repeat apply wq
   refine qdh mixed qb6 (by decide +kernel) fun B_ hB_=>?_;have hD_:ahead B_ 3 15=false/\ahead B_ 3 18=true/\ahead B_ 8 15=true/\ahead B_ 8 18=true/\ahead B_ 12 15=true/\ahead B_ 12 18=true/\ahead B_ 14 15=true/\ahead B_ 14 18=true/\ahead B_ 15 3=false/\ahead B_ 15 8=false/\ahead B_ 15 12=false/\ahead B_ 18 3=false/\ahead B_ 18 8=false/\ahead B_ 18 12=false:=(by rw[hB_];decide +kernel);apply qom B_;simp[zS,qbt,qaz,qb9,qc7,qar,qbg,qb7,Heap.lay,qb8,qok,qoj,qi6,qi4,qhw,qi3,qiy,qid,qg4,qg5,qin,qim,qik,qil,qiq,qir,qip,qio,hD_,rdN1,rdN3,ixb,rdKb,rdKb3,kC,hw,bl2];exact rfl;refine⟨_,rfl,?_,?_⟩;simp[zS,qc7,qar,qcp,qcq,qeb,hD_,rdN1,rdN3,ixb,rdKb,rdKb3,kC,hw,bl2];try simp[allPend,Heap.lay,qb8,qab]
   apply qR;simp[zS,rdN4,ixa2,hw2];exact⟨[],rfl,_,_,by simp[oneOr,qap,qax,qa3],hfr _ _⟩
def qv1(t:Tk):Bool:=decide (t.name.length<=40) && (decide (t.data.length<=200) && ql5 t.attrs)
theorem c21(hc0:qa9 34 T=some e34.g) (t:Tk):CallAt (ctx T) 21 [qer t] zH (.bool (qv1 t)) zH:=by
 have kc0:=@k34 T hc0;have hk:=fun H=>k34 hc0 t.attrs H;obtain⟨kd,nm,L,sf,dt⟩:=t;rcases Bool.eq_false_or_eq_true (decide ((nm.length:Int)<=40))with b1|b1<;>rcases Bool.eq_false_or_eq_true (decide ((dt.length:Int)<=200))with b2|b2;all_goals
  have c1:=b1;have c2:=b2;simp only[decide_eq_true_eq,decide_eq_false_iff_not]at c1 c2;refine qa0 (s0:=⟨[0,1,2],[qer ⟨kd,nm,L,sf,dt⟩,uD,uD],[],18,⟨0,[[]]⟩⟩) Tryz.func21 rfl rfl rfl ?_
  (repeat (first
   |(apply qaa)
   |(apply qa4)
   |(apply qdq;simp only[qab,qa5])
   |((refine qam qb6 ?_);simp[zS,qer,Tk.cs,c1,c2,hk])
   |apply qah rfl
   |apply qai rfl
   |((apply qa6);simp only[qab,qa5])
   |((apply qas);simp)))
  have e1:(nm.length<=40)↔((nm.length:Int)<=40):=by omega
  have e2:(dt.length<=200)↔((dt.length:Int)<=200):=by omega
  repeat apply wq
  apply qa7;simp[zQ,Tryz.f21];exact qak rfl (by simp only[qv1,e1,e2,b1,b2];simp)
theorem inj_21(x y:Tk) (h:(fun z:Tk=>([qer z]:List AV)) x=(fun z:Tk=>([qer z]:List AV)) y):x=y:=by simp only[List.cons.injEq,and_true]at h;exact qqx h
def e21:Entry PG:=mkE 21 [[0,0,2,0,0]] (fun z:Tk=>[qer z]) (fun z=>True) (fun z=>.bool (qv1 z)) fun z h=>c21 (T:=[e34]) rfl z 
theorem k21(hT:qa9 21 T=some e21.g) (t:Tk) (H:Heap):qat (ctx T) (.fn 21) [qer t] H=some (.bool (qv1 t),H):=
 qb2 hT inj_21 (t) trivial rfl (by simp[qaj])
theorem qry{C:Ctx} {n:Nat} {r:Option Nat} {c d:Code} {s:St} {Q:Out->St->Prop} {ι:Type} (inv:ι->St) (φ:ι->Prop) (h1:∀x,φ x->WpSr C n r d (inv x) Q) (h2:(∀s' x,φ x->(∃σ Φ,Fit n σ Φ s' (inv x))->WpSr C n r d s' Q)->WpSr C n r c s (qab (fun s'=>WpSr C n r d s' Q) Q)):WpSr C n r (.seq c d) s Q:=
 qaa (h2 fun s' x hx ⟨σ,Φ,f⟩=>.fit σ Φ f (h1 x hx))
theorem atTk{l:List Tk} {i:Nat} (h:i < l.length):qan PG 58 (.fslc 5 (l.map qer)) (.int .i64 (i:Int))=some (.fptr l[i].cs 0):=by simp[qan,qbj h,qe2,qer,AV.cells,h]
theorem lenTk(H:Heap) (l:List Tk):qeq PG H 58 (.fslc 5 (l.map qer))=some l.length:=by simp[qeq]
structure TB (n q d a:Nat) (t:Tr):Prop where
 n0:1<=t.length
 n1:t.length<=n
 up:∀i:Nat,i < t.length->(qa1 t i).up < (t.length:Int)
 kid:∀i:Nat,i < t.length->∀k,k∈(qa1 t i).kids->0<=k/\k < (t.length:Int)
 kl:∀i:Nat,i < t.length->(qa1 t i).kids.length<=q
 dl:∀i:Nat,i < t.length->(qa1 t i).data.length<=d
 nl:∀i:Nat,i < t.length->(qa1 t i).name.length<=40
 al:∀i:Nat,i < t.length->(qa1 t i).attrs.length<=a
section
variable {n q d a n' q' d' a':Nat} {t:Tr}
theorem TB.mono(h:TB n q d a t) (h1:n<=n') (h2:q<=q') (h3:d<=d') (h4:a<=a'):TB n' q' d' a' t:=
 ⟨h.n0,by have:=h.n1;omega,h.up,h.kid,fun i hi=>by have:=h.kl i hi;omega,fun i hi=>by have:=h.dl i hi;omega,h.nl,fun i hi=>by have:=h.al i hi;omega⟩
theorem nd_up{i:Nat} (hi:i < t.length) (u j:Int):qa1 (setUp t i u) j=if j.toNat=i then { qa1 t i with up:=u } else qa1 t j:=by unfold setUp;exact qso hi _ j
theorem zaw{i:Nat} (hi:i < t.length) (K:List Int) (j:Int):qa1 (setKids t i K) j=if j.toNat=i then { qa1 t i with kids:=K } else qa1 t j:=by unfold setKids;exact qso hi _ j
theorem TB.setUp(h:TB n q d a t) {i:Nat} (hi:i < t.length) {u:Int} (hu:u < (t.length:Int)):TB n q d a (setUp t i u):=by
 have l:=qi0 hi u;have sm:∀j:Nat,qa1 (Go.Proofs.YtnfdakclfmchfaaGreat.setUp t i u) j=if j=i then { qa1 t i with up:=u } else qa1 t j:=fun j=>by rw[nd_up hi];simp
 refine⟨by rw[l];exact h.n0,by rw[l];exact h.n1,?_,?_,?_,?_,?_,?_⟩<;>intro j hj<;>rw[l]at hj<;>rw[sm j]<;>(try rw[l])<;>split
 ·exact hu
 ·exact h.up j hj
 ·exact h.kid i hi
 ·exact h.kid j hj
 ·exact h.kl i hi
 ·exact h.kl j hj
 ·exact h.dl i hi
 ·exact h.dl j hj
 ·exact h.nl i hi
 ·exact h.nl j hj
 ·exact h.al i hi
 ·exact h.al j hj
theorem TB.setKids(h:TB n q d a t) {i:Nat} (hi:i < t.length) {K:List Int} (hK:∀k,k∈K->0<=k/\k < (t.length:Int)) (hq:q<=q') (hl:K.length<=q'):TB n q' d a (setKids t i K):=by
 have l:(Go.Proofs.YtnfdakclfmchfaaGreat.setKids t i K).length=t.length:=qc2 hi K;have sm:∀j:Nat,qa1 (Go.Proofs.YtnfdakclfmchfaaGreat.setKids t i K) j=if j=i then { qa1 t i with kids:=K } else qa1 t j:=fun j=>by rw[zaw hi];simp
 refine⟨by rw[l];exact h.n0,by rw[l];exact h.n1,?_,?_,?_,?_,?_,?_⟩<;>intro j hj<;>rw[l]at hj<;>rw[sm j]<;>(try rw[l])<;>split
 ·exact h.up i hi
 ·exact h.up j hj
 ·exact hK
 ·exact h.kid j hj
 ·exact hl
 ·exact Nat.le_trans (h.kl j hj) hq
 ·exact h.dl i hi
 ·exact h.dl j hj
 ·exact h.nl i hi
 ·exact h.nl j hj
 ·exact h.al i hi
 ·exact h.al j hj
theorem TB.add(h:TB n q d a t) (nd:Nd) (hnl:nd.name.length<=40) (hdl:nd.data.length<=d) (hal:nd.attrs.length<=a):TB (n+1) q d a (qix t nd):=by
 have l:(qix t nd).length=t.length+1:=by simp[qix]
 have n0:=h.n0;have n1:=h.n1;have sm:∀j:Nat,qa1 (qix t nd) j=if j=t.length then fresh nd else qa1 t j:=fun j=>by rw[zay];simp
 have cs:∀j:Nat,j < (qix t nd).length->j=t.length\/(j≠t.length/\j < t.length):=fun j hj=>by omega
 refine⟨by omega,by omega,?_,?_,?_,?_,?_,?_⟩<;>intro j hj<;>rw[sm j]<;>(try rw[l])<;>rcases cs j hj with rfl|⟨e,hl⟩<;>(first|rw[if_pos rfl]|rw[if_neg e])
 ·simp only[fresh];omega
 ·have:=h.up j hl;omega
 ·intro k hk;cases hk
 ·intro k hk;have:=h.kid j hl k hk;omega
 ·simp[fresh]
 ·exact h.kl j hl
 ·exact hdl
 ·exact h.dl j hl
 ·exact hnl
 ·exact h.nl j hl
 ·exact hal
 ·exact h.al j hl
theorem isN{i:Int} (h:isB t i=true):∃u:Nat,i=u/\u < t.length:=by obtain⟨h1,h2⟩:=isB_iff.1 h;exact⟨i.toNat,by omega,by omega⟩
theorem TB.cutK(h:TB n q d a t) (i:Int):TB n q d a (cutK t i):=by
 unfold Go.Proofs.YtnfdakclfmchfaaGreat.cutK;split
 ·rename_i hp;unfold qff at hp;split at hp
  next hb=>obtain⟨u,e,hu⟩:=isN hb.2;rw[e,Int.toNat_natCast];exact h.setKids hu (fun k hk=>h.kid u hu k (List.mem_of_mem_eraseIdx hk)) (Nat.le_refl q) (Nat.le_trans (List.length_eraseIdx_le _ _) (h.kl u hu))
  ·omega
 ·exact h
theorem TB.cut(h:TB n q d a t) (i:Int):TB n q d a (qk8 t i):=by
 unfold qk8;have hc:=h.cutK i;split
 next hb=>obtain⟨u,e,hu⟩:=isN hb.2;rw[e,Int.toNat_natCast];rw[e]at hc;exact hc.setUp (by rw[qjb];exact hu) (by rw[qjb];omega)
 ·exact hc
theorem qt3{K:List Int} {p:Nat} {x k:Int} (h:k∈qey K p x):k∈K\/k=x:=by
 unfold qey at h;rcases List.mem_append.1 h with h|h
 ·exact .inl (List.mem_of_mem_take h)
 ·rcases List.mem_cons.1 h with h|h
  ·exact .inr h
  ·exact .inl (List.mem_of_mem_drop h)
theorem qt4{K:List Int} {p:Nat} {x:Int}:(qey K p x).length=K.length+1:=by unfold qey;simp;omega
theorem TB.put(h:TB n q d a t) (up at_ kid:Int):TB n (q+1) d a (qlf t up at_ kid):=by
 unfold qlf;split
 ·rename_i ok;simp only[quf,Bool.and_eq_true]at ok;obtain⟨u,e,hu⟩:=isN ok.1.1.1;obtain⟨i,e2,hi⟩:=isN ok.1.1.2;have hc:=h.cut kid;have lc:=qja t kid;rw[e,e2,Int.toNat_natCast,Int.toNat_natCast];rw[e2]at hc lc;generalize qk8 t (i:Int)=X at *;have h1:TB n (q+1) d a (Go.Proofs.YtnfdakclfmchfaaGreat.setKids X u (qlh (qa1 X (u:Int)).kids at_ (i:Int))):=hc.setKids (by omega) (fun k hk=>by
   rcases qt3 hk with hk|rfl
   ·exact hc.kid u (by omega) k hk
   ·omega) (by omega) (by unfold qlh;rw[qt4];have:=hc.kl u (by omega);omega)
  have l1:(Go.Proofs.YtnfdakclfmchfaaGreat.setKids X u (qlh (qa1 X (u:Int)).kids at_ (i:Int))).length=X.length:=qc2 (by omega) _;exact h1.setUp (by omega) (by omega)
 ·exact h.mono (Nat.le_refl n) (by omega) (Nat.le_refl d) (Nat.le_refl a)
theorem qmw(up at_ kid:Int):(qlf t up at_ kid).length=t.length:=by
 unfold qlf;split
 next ok=>simp only[quf,Bool.and_eq_true]at ok;obtain⟨u,e,hu⟩:=isN ok.1.1.1;obtain⟨i,e2,hi⟩:=isN ok.1.1.2;have lc:=qja t kid;rw[e,e2,Int.toNat_natCast,Int.toNat_natCast];rw[e2]at lc;rw[qi0 (by rw[qc2 (by omega)];omega),qc2 (by omega),lc]
 ·rfl
theorem qlc(nd:Nd):(qix t nd).length=t.length+1:=by simp[qix]
theorem qqo(up at_:Int) (nd:Nd):(qwh t up at_ nd).length=t.length+1:=by unfold qwh;rw[qmw,qlc]
theorem TB.new(h:TB n q d a t) (up at_:Int) (nd:Nd) (hnl:nd.name.length<=40) (hdl:nd.data.length<=d) (hal:nd.attrs.length<=a):TB (n+1) (q+1) d a (qwh t up at_ nd):=(h.add nd hnl hdl hal).put _ _ _
theorem TB.ups:∀(K:List Int) {t:Tr} (h:TB n q d a t) {u:Int} (hu:u < (t.length:Int)),TB n q d a (qyz t K u)
 |[],_,h,_,_=>h
 |k::K,t,h,u,hu=>by
  have h1:TB n q d a (upT u t k):=by
   unfold upT;split
   next hb=>obtain⟨i,e,hi⟩:=isN hb;rw[e,Int.toNat_natCast];exact h.setUp hi hu
   ·exact h
  exact TB.ups K h1 (by rw[qzk];exact hu)
theorem TB.mov(h:TB n q d a t) (fr to:Int) (hto:(qa1 t to).kids=[]):TB n q d a (qsp t fr to):=by
 unfold qsp;split
 ·rename_i ok;simp only[quk,Bool.and_eq_true]at ok;obtain⟨u,e,hu⟩:=isN ok.1.1;obtain⟨v,e2,hv⟩:=isN ok.1.2;have hx:TB n q d a (qui t fr to):=by unfold qui;exact TB.ups _ h (by omega)
  have lx:(qui t fr to).length=t.length:=qki _ _ _;have kx:(qa1 (qui t fr to) to).kids=[]:=by unfold qui;rw[qng,hto]
  rw[kx,List.nil_append];rw[e,e2,Int.toNat_natCast,Int.toNat_natCast];rw[e,e2]at hx lx;generalize qui t (u:Int) (v:Int)=X at *;have h1:TB n q d a (Go.Proofs.YtnfdakclfmchfaaGreat.setKids X v (qa1 t (u:Int)).kids):=hx.setKids (by omega) (fun k hk=>by have:=h.kid u hu k hk;omega) (Nat.le_refl q) (h.kl u hu);have l1:(Go.Proofs.YtnfdakclfmchfaaGreat.setKids X v (qa1 t (u:Int)).kids).length=X.length:=qc2 (by omega) _;exact h1.setKids (by omega) (fun k hk=>by cases hk) (Nat.le_refl q) (by simp)
 ·exact h
theorem movT_len(fr to:Int):(qsp t fr to).length=t.length:=by
 unfold qsp;split
 next ok=>simp only[quk,Bool.and_eq_true]at ok;obtain⟨u,e,hu⟩:=isN ok.1.1;obtain⟨v,e2,hv⟩:=isN ok.1.2;have lx:(qui t fr to).length=t.length:=qki _ _ _;rw[e,e2,Int.toNat_natCast,Int.toNat_natCast];rw[e,e2]at lx;rw[qc2 (by rw[qc2 (by omega)];omega),qc2 (by omega),lx]
 ·rfl
theorem TB.le(h:TB n q d a t) {m:Nat} (hm:q<=m):qd1 t m:=fun x hx=>by obtain⟨i,hi,rfl⟩:=List.getElem_of_mem hx;have:=h.kl i hi;rw[qfw hi]at this;omega
theorem TB.nm(h:TB n q d a t):qhc t:=fun i=>by
 unfold qbh;split
 next hb=>obtain⟨u,e,hu⟩:=isN hb;rw[e];have:=h.nl u hu;omega
 ·simp
theorem TB.at_(h:TB n q d a t) {i:Int} (h0:0<=i) (h1:i < (t.length:Int)):(qa1 t i).attrs.length<=a/\(qa1 t i).name.length<=40/\(qa1 t i).kids.length<=q:=by obtain⟨u,rfl⟩ : ∃u:Nat,i=u:=⟨i.toNat,by omega⟩;exact⟨h.al u (by omega),h.nl u (by omega),h.kl u (by omega)⟩
end
def KeepN(t t':Tr):Prop:=t.length<=t'.length/\∀i:Nat,i < t.length->(qa1 t' i).kind=(qa1 t i).kind/\(qa1 t' i).space=(qa1 t i).space/\(qa1 t' i).name=(qa1 t i).name
theorem KeepN.refl(t:Tr):KeepN t t:=⟨Nat.le_refl _,fun _ _=>⟨rfl,rfl,rfl⟩⟩
theorem KeepN.trans{t t' t'':Tr} (h:KeepN t t') (g:KeepN t' t''):KeepN t t'':=⟨Nat.le_trans h.1 g.1,fun i hi=>by obtain⟨a1,a2,a3⟩:=h.2 i hi;obtain⟨b1,b2,b3⟩:=g.2 i (Nat.lt_of_lt_of_le hi h.1);exact⟨by rw[b1,a1],by rw[b2,a2],by rw[b3,a3]⟩⟩
theorem qum{t:Tr} {i:Nat} (hi:i < t.length) (u:Int):KeepN t (setUp t i u):=⟨by rw[qi0 hi];exact Nat.le_refl _,fun j hj=>by
 rw[nd_up hi];split
 next e=>rw[Int.toNat_natCast]at e;subst e;exact⟨rfl,rfl,rfl⟩
 ·exact⟨rfl,rfl,rfl⟩⟩
theorem ql0{t:Tr} {i:Nat} (hi:i < t.length) (K:List Int):KeepN t (setKids t i K):=⟨by rw[qc2 hi];exact Nat.le_refl _,fun j hj=>by
 rw[zaw hi];split
 next e=>rw[Int.toNat_natCast]at e;subst e;exact⟨rfl,rfl,rfl⟩
 ·exact⟨rfl,rfl,rfl⟩⟩
theorem qqw(t:Tr) (nd:Nd):KeepN t (qix t nd):=⟨by rw[qlc];omega,fun j hj=>by rw[zay,if_neg (by simp;omega)];exact⟨rfl,rfl,rfl⟩⟩
theorem qwu(t:Tr) (i:Int):KeepN t (qk8 t i):=by
 have h1:KeepN t (cutK t i):=by
  unfold cutK;split
  ·rename_i hp;unfold qff at hp;split at hp
   next hb=>obtain⟨u,e,hu⟩:=isN hb.2;rw[e,Int.toNat_natCast];exact ql0 hu _
   ·omega
  ·exact .refl t
 unfold qk8;split
 next hb=>obtain⟨u,e,hu⟩:=isN hb.2;refine h1.trans ?_;rw[e,Int.toNat_natCast];exact qum (by rw[qjb];exact hu) _
 ·exact h1
theorem qn1(t:Tr) (up at_ kid:Int):KeepN t (qlf t up at_ kid):=by
 unfold qlf;split
 next ok=>simp only[quf,Bool.and_eq_true]at ok;obtain⟨u,e,hu⟩:=isN ok.1.1.1;obtain⟨i,e2,hi⟩:=isN ok.1.1.2;have lc:=qja t kid;refine(qwu t kid).trans ?_;rw[e,e2,Int.toNat_natCast,Int.toNat_natCast];rw[e2]at lc;exact(ql0 (by omega) _).trans (qum (by rw[qc2 (by omega)];omega) _)
 ·exact .refl t
theorem qqv(t:Tr) (up at_:Int) (nd:Nd):KeepN t (qwh t up at_ nd):=(qqw t nd).trans (qn1 _ _ _ _)
theorem qws:∀(K:List Int) (t:Tr) (u:Int),KeepN t (qyz t K u)
 |[],t,_=>.refl t
 |k::K,t,u=>by
  have h1:KeepN t (upT u t k):=by
   unfold upT;split
   next hb=>obtain⟨i,e,hi⟩:=isN hb;rw[e,Int.toNat_natCast];exact qum hi _
   ·exact .refl t
  exact h1.trans (qws K _ u)
theorem keep_mov(t:Tr) (fr to:Int):KeepN t (qsp t fr to):=by
 unfold qsp;split
 next ok=>simp only[quk,Bool.and_eq_true]at ok;obtain⟨u,e,hu⟩:=isN ok.1.1;obtain⟨v,e2,hv⟩:=isN ok.1.2;have lx:(qui t fr to).length=t.length:=qki _ _ _;refine(show KeepN t (qui t fr to) from qws _ _ _).trans ?_;rw[e,e2,Int.toNat_natCast,Int.toNat_natCast];rw[e,e2]at lx;exact(ql0 (by omega) _).trans (ql0 (by rw[qc2 (by omega)];omega) _)
 ·exact .refl t
set_option maxHeartbeats 1000000
def e78z:Entry PG:=mkL 78 [[1]] (fun L:List Int=>[qac L]) (fun L=>L.length<=1000000) (fun L=>L) fun L hl=>c78 (T:=[]) L hl
theorem k78z(hT:qa9 78 T=some e78z.g) {L:List Int} (hl:L.length<=1000000) (H:Heap):qat (ctx T) (.fn 78) [qac L] H=some (qac L,H):=
 qsq hT (fun x y h=>by simp only[List.cons.injEq,and_true]at h;exact qd2 h) L hl (by simp[qbb,qaj])
theorem c165(hc0:qa9 78 T=some e78z.g) {s:SS} (ne:s.tree≠[])  (h:s.opn≠[]) (ho:s.opn.length<=100001):SC T 165 [] s (.tup []) ({ s with opn:=s.opn.dropLast }):=by
 have kc0:=@k78z T hc0;have g0:=@vg0;have v0:=@vset;have lO:=fun H=>qn0 (H:=H) (L:=s.opn);have hp:=List.length_pos_iff.2 h;have hw:wr .i64 ((s.opn.length:Int) - 1)=some ((s.opn.length - 1:Nat):Int):=by rw[show ((s.opn.length:Int) - 1)=((s.opn.length - 1:Nat):Int) by omega];exact qbs (by omega) (by omega)
 have hs:=fun H=>qx0 (H:=H) (L:=s.opn) (k:=s.opn.length - 1) (by omega);rw[<- List.dropLast_eq_take]at hs;have kC:=fun H=>kc0 (L:=s.opn.dropLast) (by simp;omega) H;clear kc0;generalize ((s.opn.length - 1:Nat):Int)=w at *;generalize s.opn.dropLast=D at *;clear hp ho h;refine qa0 (s0:=⟨[0],[.ptr 0 0],[],17,⟨2,[]::[VS 1 s]⟩⟩) Tryz.func165 rfl rfl rfl ?_
 (repeat' (first
  |(refine qay mixed qb6 (by decide +kernel) (by decide +kernel) rfl ?_;apply qh0;simp[zS,zW,qb9,qbt,qaz,Heap.lay,qb8, *,SS.post];exact rfl)
  |(with_reducible apply qbc;refine⟨by repeat first|exact qdi|refine qdj (by decide +kernel) ?_,?_⟩;simp only[qab,qa5,allPend,Heap.lay,qb8])))
 all_goals first|((try simp[zQ,Tryz.f165]);exact qbz (by simp[*]) (by first|rfl|(simp[*];done)) (by simp[qa2,qa3]) (by decide) (ne) rfl rfl)|(exfalso;omega)
theorem inj_165(x y:Unit) (h:(fun z:Unit=>([]:List AV)) x=(fun z:Unit=>([]:List AV)) y):x=y:=by rfl
def e165:Entry PG:=mkS 165 [] (fun z:Unit=>[]) (fun z s=>(s.opn≠[])/\(s.opn.length<=100001)) (fun z s=>.tup []) (fun z s=>{ s with opn:=s.opn.dropLast }) fun z s ne h=>⟨c165 (T:=[e78z]) rfl ne  h.1 h.2,by simp[qa3,qa2],by simp[qa2,qa3],ne⟩
theorem k165(hT:qa9 165 T=some e165.g) {s:SS} (ne:s.tree≠[])  (h:s.opn≠[]) (ho:s.opn.length<=100001) {n k:Nat} {fr:List (Nat × Blk)} (k0:0 < k) (kn:k < n) (of:qga k fr):qat (ctx T) (.fn 165) [.ptr 0 0] ⟨n,[fr,VS k s]⟩=some (.tup [],⟨n+1,[fr,VS n ({ s with opn:=s.opn.dropLast })]⟩):=
 qct hT inj_165 () ne ⟨h,ho⟩ (by simp[qa3,qa2]) (by simp[qbb,qaj]) k0 kn of
def qgh(s:SS) (nm:Str) (L:List At1):SS:={ elS s 0 nm L with back:=s.mode,mode:=6,lex:=qo3 nm }
def qhb(s:SS) (nm:Str) (L:List At1):SS:={ s with tree:=elT s.tree (qgd s.opn) 0 nm L }
theorem qtx(s:SS) (nm:Str) (L:List At1):{ elS s 0 nm L with opn:=(elS s 0 nm L).opn.dropLast }=qhb s nm L:=by simp[qhb,elS]
def metaA(x:Str):Bool:=decide (x=[98,97,115,101]\/x=[98,97,115,101,102,111,110,116]\/x=[98,103,115,111,117,110,100]\/x=[108,105,110,107]\/x=[109,101,116,97])
def metaT(x:Str):Bool:=decide (x=[116,105,116,108,101]\/x=[110,111,102,114,97,109,101,115]\/x=[115,116,121,108,101]\/x=[115,99,114,105,112,116])
def qqs(t:Tk):Bool:=decide (t.kind=1) && (metaA t.name || metaT t.name)
def qlq(s:SS) (t:Tk):SS:=if t.kind=1 then if metaA t.name=true then qhb s t.name t.attrs else if metaT t.name=true then qgh s t.name t.attrs else s else s
theorem qwk{s:SS} (ne:s.tree≠[]) (t:Tk):(qlq s t).tree≠[]:=by
 unfold qlq;split
 ·split
  ·exact qbi _ _ _ _
  ·split
   ·exact qbi _ _ _ _
   ·exact ne
 ·exact ne
theorem c158(hC:qa9 78 T=some e78.g) (hN:qa9 157 T=some e157.g) (hI:qa9 203 T=some e203.g) (hw:qa9 133 T=some e133a.g) (t:Tr) (L:List Int) (W:Str) (hW:qbx W) (hl:W.length<=100000) (hL:L.length<=1000000) (hx:∀i,i∈L->(qbh t i).name.length<=1000000000) :
  CallAt (ctx T) 158 [qba t,qac L,.str W] zH (qcv 0 1 ((qgt t L W).map qau)) ⟨1,[qd6 0 ((qgt t L W).map qau)]⟩:=by
 have hc:=cut_at (T:=T) hC (m:=2) (rows:=qz9 t W) (fn:=202) (cap:=[.ptr 0 0,.ptr 1 0]) (fun x=>⟨by simp[qz9],fun e he=>by simp[qz9]at he;rcases he with rfl|rfl<;>exact⟨by simp,_,rfl,by simp[qa3,qa2]⟩⟩) L hL (by simp[qax,qap,qdz]) (fun x i hi=>cut_imp hN hI hw t W i hW hl (hx i hi) x) ();rw[show (qn9 (fun(_:Unit) i=>qus t W i) (fun _ _=>()) () L.reverse).1.reverse=qgt t L W from rfl]at hc;generalize (qn9 (fun(_:Unit) i=>qus t W i) (fun _ _=>()) () L.reverse).2=b at hc;generalize qgt t L W=M at *;unfold qz9 at hc;refine qa0 (s0:=⟨[0,1,2,3,5,6],[qba t,qac L,.str W,uD,uD,uD],[],10,⟨0,[[]]⟩⟩) Tryz.func158 rfl rfl rfl ?_;apply qR;simp[zS,qba];repeat apply wq
 refine qam (qbu [⟨186,_,_,_,_,hc⟩]) ?_;simp[zS,qd9];apply qa7;simp[zQ,Tryz.f158];exact qj7 fun hne=>by rw[(qk0 hne).2];simp[zG]
def e158:Entry PG:=mkL 158 [[7],[1],[]] (fun x:Tr × List Int × Str=>[qba x.1,qac x.2.1,.str x.2.2]) (fun x=>qbx x.2.2/\x.2.2.length<=100000/\x.2.1.length<=1000000/\∀i,i∈x.2.1->(qbh x.1 i).name.length<=1000000000) (fun x=>qgt x.1 x.2.1 x.2.2)
 fun x h=>c158 (T:=[e78,e157,e203,e133a]) rfl rfl rfl rfl x.1 x.2.1 x.2.2 h.1 h.2.1 h.2.2.1 h.2.2.2
theorem k158(hT:qa9 158 T=some e158.g) {t:Tr} {L:List Int} {W:Str} (hW:qbx W) (hl:W.length<=100000) (hL:L.length<=1000000) (hx:∀i,i∈L->(qbh t i).name.length<=1000000000) {a:AV} {H:Heap} (ha:qcy H [7] a=some (qba t)) :
  qat (ctx T) (.fn 158) [a,qac L,.str W] H=some (qac (qgt t L W),H):=
 qsq hT zbc (t,L,W) ⟨hW,hl,hL,hx⟩ (by simp[qbb,ha,qaj])
theorem c77(hc0:qa9 158 T=some e158.g) {s:SS} (ne:s.tree≠[]) (W:Str) (hW:qbx W) (hl:W.length<=100000) (hn:qhc s.tree) (ho:s.opn.length<=100000):SC T 77 [.str W] s (.tup []) ({ s with opn:=qgt s.tree s.opn W }):=by
 have g0:=@vg0;have v0:=@vset;have kI:=fun n k f (k0:0 < k) (hf:getF k f=none)=>k158 hc0 hW hl (L:=s.opn) (by omega) (fun i _=>hn i) (thS (n:=n) k0 ne hf);refine qa0 (s0:=⟨[0,1],[.ptr 0 0,.str W],[],17,⟨2,[]::[VS 1 s]⟩⟩) Tryz.func77 rfl rfl rfl ?_
 (repeat' (first
  |(refine qay mixed qb6 (by decide +kernel) (by decide +kernel) rfl ?_;apply qh0;simp[zS,zW,qb9,qbt,qaz,Heap.lay,qb8, *,SS.post];exact rfl)
  |(with_reducible apply qbc;refine⟨by repeat first|exact qdi|refine qdj (by decide +kernel) ?_,?_⟩;simp only[qab,qa5,allPend,Heap.lay,qb8])))
 all_goals first|((try simp[zQ,Tryz.f77]);exact qbz (by simp[*]) (by first|rfl|(simp[*];done)) (by simp[qa2,qa3]) (by decide) (ne) rfl rfl)|(exfalso;omega)
def e77:Entry PG:=mkS 77 [[]] (fun z:Str=>[.str z]) (fun z s=>(qbx z)/\(z.length<=100000)/\(qhc s.tree)/\(s.opn.length<=100000)) (fun z s=>.tup []) (fun z s=>{ s with opn:=qgt s.tree s.opn z }) fun z s ne h=>⟨c77 (T:=[e158]) rfl ne z h.1 h.2.1 h.2.2.1 h.2.2.2,by simp[qa3,qa2],by simp[qa2,qa3],ne⟩
theorem k77(hT:qa9 77 T=some e77.g) {s:SS} (ne:s.tree≠[]) (W:Str) (hW:qbx W) (hl:W.length<=100000) (hn:qhc s.tree) (ho:s.opn.length<=100000) {n k:Nat} {fr:List (Nat × Blk)} (k0:0 < k) (kn:k < n) (of:qga k fr):qat (ctx T) (.fn 77) [.ptr 0 0,.str W] ⟨n,[fr,VS k s]⟩=some (.tup [],⟨n+1,[fr,VS n ({ s with opn:=qgt s.tree s.opn W })]⟩):=
 qct hT inj_147 (W) ne ⟨hW,hl,hn,ho⟩ (by simp[qa3,qa2]) (by simp[qbb,qaj]) k0 kn of
theorem qhn(t:Tr) (L:List Int) (W:Str):(qgt t L W).length<=L.length:=by unfold qgt;have:=qrj (goes:=fun(_:Unit) i=>qus t W i) (nx:=fun _ _=>()) () L.reverse;simpa using this
theorem pop_len(t:Tr) (L:List Int) (W:Str):(qmn t L W).length<=L.length:=by unfold qmn;have:=qrj (goes:=fun(b:Bool) _=>!b) (nx:=fun b i=>if b=true then true else qbv (qbh t i) W) false L.reverse;simpa using this
def qow(s:SS):SS:={ s with opn:=qmn s.tree (qgt s.tree s.opn [112]) [112] }
theorem c146(hc0:qa9 77 T=some e77.g) (hc1:qa9 45 T=some e45.g) {s:SS} (ne:s.tree≠[])  (hn:qhc s.tree) (ho:s.opn.length<=100000):SC T 146 [] s (.tup []) (qow s):=by
 have kc0:=@k77 T hc0;have kc1:=@k45 T hc1;have g0:=@vg0;have v0:=@vset;have kI:=fun n k fr=>@kc0 s ne [112] (qyw (by decide)) (by decide) hn ho n k fr;have kP:=fun n k fr=>@kc1 { s with opn:=qgt s.tree s.opn [112] } ne [112] (qyw (by decide)) (by decide) hn (by have:=qhn s.tree s.opn [112];simp only;omega) n k fr;clear kc0 kc1;refine qa0 (s0:=⟨[0],[.ptr 0 0],[],6,⟨2,[]::[VS 1 s]⟩⟩) Tryz.func146 rfl rfl rfl ?_
 (repeat' (first
  |with_reducible apply qaa
  |(with_reducible apply rE;simp[zS, *,SS.post];exact rfl)
  |(with_reducible apply qad;simp only[qab,qa5])))
 all_goals first|((try simp[zQ,Tryz.f146]);exact qbz (by simp[*]) (by first|rfl|(simp[*];done)) (by simp[qa2,qa3]) (by decide) (ne) rfl rfl)|(exfalso;omega)
def e146:Entry PG:=mkS 146 [] (fun z:Unit=>[]) (fun z s=>(qhc s.tree)/\(s.opn.length<=100000)) (fun z s=>.tup []) (fun z s=>qow s) fun z s ne h=>⟨c146 (T:=[e77,e45]) rfl rfl ne  h.1 h.2,by simp[qa3,qa2],by simp[qa2,qa3],ne⟩
theorem k146(hT:qa9 146 T=some e146.g) {s:SS} (ne:s.tree≠[])  (hn:qhc s.tree) (ho:s.opn.length<=100000) {n k:Nat} {fr:List (Nat × Blk)} (k0:0 < k) (kn:k < n) (of:qga k fr):qat (ctx T) (.fn 146) [.ptr 0 0] ⟨n,[fr,VS k s]⟩=some (.tup [],⟨n+1,[fr,VS n (qow s)]⟩):=
 qct hT inj_165 () ne ⟨hn,ho⟩ (by simp[qa3,qa2]) (by simp[qbb,qaj]) k0 kn of
def qdg(s:SS):SS:=if qgb s.tree s.opn [112] 2=true then qow s else s
theorem qpx(s:SS):(qdg s).tree=s.tree/\(qdg s).foster=s.foster:=by unfold qdg;split<;>exact⟨rfl,rfl⟩
theorem zc6(s:SS):(qdg s).opn.length<=s.opn.length:=by
 unfold qdg;split
 ·exact Nat.le_trans (pop_len _ _ _) (qhn _ _ _)
 ·exact Nat.le_refl _
