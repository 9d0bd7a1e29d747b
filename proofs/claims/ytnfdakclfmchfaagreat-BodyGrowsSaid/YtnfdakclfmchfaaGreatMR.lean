/- body.rest: the walk. No condition. -/
import Derived.Test.YtnfdakclfmchfaaGreatMQ
namespace Go.Proofs.YtnfdakclfmchfaaGreat
noncomputable section
set_option linter.unusedSimpArgs false
set_option linter.unusedVariables false
open Go Go.RowKit
set_option maxRecDepth 100000
variable {T:List (Entry Tryz.prog)}
def lw(c:UInt8):UInt8:=if 65<=c.toNat/\c.toNat<=90 then c+32 else c
def qhk(s:Str):Str:=s.map lw
theorem u8_or:∀n:Fin 256,65<=n.val->n.val<=90->IntKind.wrap .u8 ((BitVec.ofInt 8 (n.val:Int) ||| BitVec.ofInt 8 32).toNat:Int)=((UInt8.ofNat n.val+32).toNat:Int):=by decide +kernel
theorem or8{c:UInt8} (h1:65<=c.toNat) (h2:c.toNat<=90):qda PG .or 5 (.int .u8 (c.toNat:Int)) (.int .u8 32)=some (.int .u8 ((lw c).toNat:Int)):=by have:=u8_or ⟨c.toNat,c.toNat_lt⟩ h1 h2;simp only[UInt8.ofNat_toNat]at this;have e:qda PG .or 5 (.int .u8 (c.toNat:Int)) (.int .u8 32)=some (.int .u8 (IntKind.wrap .u8 ((BitVec.ofInt 8 (c.toNat:Int) ||| BitVec.ofInt 8 32).toNat:Int))):=rfl;rw[e,this];simp only[lw,h1,h2,and_self,if_true]
theorem zb1{c:UInt8} (h:¬ (65<=c.toNat/\c.toNat<=90)):lw c=c:=by simp only[lw,h,if_false]
def qwj(s:Str) (i:Nat):Str:=(s.take i).map lw++s.drop i
theorem qqq(s:Str) (i:Nat):(qwj s i).length=s.length:=by simp[qwj];omega
theorem qj5{s:Str} {i:Nat} (h:i < s.length):(qwj s i)[i]'(by rw[qqq];exact h)=s[i]:=by
 have h1:((s.take i).map lw).length=i:=by simp;omega
 simp only[qwj];rw[List.getElem_append_right (by omega)];simp only[List.getElem_drop,h1,Nat.sub_self,Nat.add_zero]
theorem qss{s:Str} {i:Nat} (h:i < s.length):(qwj s i).set i (lw s[i])=qwj s (i+1):=by
 have h1:((s.take i).map lw).length=i:=by simp;omega
 simp only[qwj];rw[List.set_append_right _ _ (by omega),h1,Nat.sub_self,List.drop_eq_getElem_cons h,List.set_cons_zero,List.take_succ_eq_append_getElem h];simp only[List.map_append,List.map_cons,List.map_nil,List.append_assoc,List.singleton_append]
theorem qst{s:Str} {i:Nat} (h:i < s.length) (e:lw s[i]=s[i]):qwj s (i+1)=qwj s i:=by
 have:=qss h;rw[e]at this;rw[<- this];have h2:=qj5 h
 conv=>lhs;rw[<- h2]
 exact List.set_getElem_self _
theorem midL_all(s:Str):qwj s s.length=qhk s:=by simp[qwj,qhk]
theorem c231(s:Str) (hl:s.length<=1000000):CallAt (ctx T) 231 [.str s] zH (.str (qhk s)) zH:=by
 refine qa0 (s0:=⟨[0,2,3,4,5,8,9,10],[.str s,uD,uD,uD,uD,uD,uD,uD],[],29,⟨0,[[]]⟩⟩) Tryz.func231 rfl rfl rfl ?_;apply qR;simp[zS];apply qR;simp[zS,conv1 hl];apply qR;simp[zS,len52];refine qa4 (qb1 (fun i:Nat=>(⟨[0,2,3,4,5,8,9,10],[uD,uD,.slc 0 0 s.length (.rest 1),uD,uD,.slc 0 0 s.length (.rest 1),.int .i64 s.length,.int .i64 i],[],29,qfh 1 (qwj s i)⟩ : St))
  (fun i=>i<=s.length) (fun i=>s.length - i) [(0,0)] [] 0 (Nat.zero_le _) ⟨rfl,rfl,rfl,by simp[qax,qap,qx6,qav,qa2],by simpa[qwj]using qn4 (n:=1) (s:=s) rfl⟩ ?_)
 rintro i hi B hB;apply qR;simp[zS];repeat apply wq
 refine qbf rfl (fun h=>?_) fun h=>?_
 ·simp at h;apply qa6;simp;repeat apply wq
  apply qa4;have hm:i < (qwj s i).length:=by rw[qqq];exact h
  apply qR;simp[zS,qfh,ix52 h,qfy hm,qj5 h];by_cases h1:65<=s[i].toNat/\s[i].toNat<=90
  ·have e1:(65:Int)<=s[i].toNat:=(by omega);have e2:(s[i].toNat:Int)<=90:=(by omega);apply qR;simp[zS,qfh,ix52 h,qfy hm,qj5 h,e1,e2];apply qah rfl;apply qR;simp[zS,qfh,ix52 h,qfy hm,qj5 h,or8 h1.1 h1.2,qpo hm];apply qR;simp[zS,qbo (show i<=1000000000 by omega)];exact hB _ (i+1) (by omega) (by omega) ⟨[(0,0)],[],rfl,rfl,rfl,by simp[qax,qap,qx6,qav,qa2],qn4 (qss h)⟩
  ·by_cases e1:(65:Int)<=s[i].toNat
   ·have e2:¬ (s[i].toNat:Int)<=90:=(by omega);apply qR;simp[zS,qfh,ix52 h,qfy hm,qj5 h,e1,e2];apply qai rfl;apply qa6;simp;apply qR;simp[zS,qbo (show i<=1000000000 by omega)];exact hB _ (i+1) (by omega) (by omega) ⟨[(0,0)],[],rfl,rfl,rfl,by simp[qax,qap,qx6,qav,qa2],qn4 (qst h (zb1 h1)).symm⟩
   ·apply qR;simp[zS,qfh,ix52 h,qfy hm,qj5 h,e1];apply qai rfl;apply qa6;simp;apply qR;simp[zS,qbo (show i<=1000000000 by omega)];exact hB _ (i+1) (by omega) (by omega) ⟨[(0,0)],[],rfl,rfl,rfl,by simp[qax,qap,qx6,qav,qa2],qn4 (qst h (zb1 h1)).symm⟩
 ·simp at h;apply qas;simp;apply qR;simp[zS,conv2 (qqq s i)];apply qa7;simp[zQ,Tryz.f231];exact qak rfl (by rw[show i=s.length by omega,midL_all])
theorem inj_strL(x y:Str) (h:[AV.str x]=[AV.str y]):x=y:=by simpa using h
def e231:Entry PG:=mkE 231 [[]] (fun x:Str=>[.str x]) (fun x=>x.length<=1000000) (fun x=>.str (qhk x)) fun x hx=>c231 (T:=[]) x hx
theorem k231(hT:qa9 231 T=some e231.g) {s:Str} (hl:s.length<=1000000) (H:Heap):qat (ctx T) (.fn 231) [.str s] H=some (.str (qhk s),H):=
 qb2 hT inj_strL s hl rfl (by simp)
theorem qyq{f:FuncId} (h:qup (callN (ctx T) 100000 (.fn f) [] zH)=true):CallAt (ctx T) f [] zH (.bool true) zH:=by
 revert h;cases hr:callN (ctx T) 100000 (.fn f) [] zH with
 |none=>intro h;cases h
 |some r=>
  obtain⟨v,H'⟩:=r;intro h;cases v<;>simp only[qup]at h<;>first|(cases h;done)|skip
  subst h;exact((call_ok mixed (mkC_ok _ _ _) 100000).fn f [] zH _ _ hr).freeze (Φ:=[]) (by simp[qap,qa2]) FitH.empty
def noneL:List AV->Bool
 |[]=>true
 |_::_=>false
mutual
def qlx(Φ:List (Nat × List AV)):AV->AV->Bool
 |.slc b o len cap,v'=>match v' with
  |.undef=>true
  |.fslc sz es=>(match qcn b Φ with
   |some cs=>(match qf1 o (len * sz) cs with
    |some x=>AV.beqL x (qa8 es) && Nat.beq es.length len && qfl sz es
    |none=>false)
   |none=>false) || (Nat.beq len 0 && noneL es)
  |_=>false
 |.ptr b o,v'=>match v' with
  |.undef=>true
  |.fptr cs o'=>(match qcn b Φ with
   |some c=>AV.beqL c cs
   |none=>false) && Nat.beq o' o
  |_=>false
 |.nilS,v'=>match v' with
  |.undef=>true
  |.nilS=>true
  |.fslc _ es=>noneL es
  |_=>false
 |.fslc sz es,v'=>match v' with
  |.undef=>true
  |.fslc sz' es'=>Nat.beq sz sz' && AV.beqL es es'
  |_=>false
 |.agg cs,v'=>match v' with
  |.undef=>true
  |.agg cs'=>qyl Φ cs cs'
  |_=>false
 |.tup cs,v'=>match v' with
  |.undef=>true
  |.tup cs'=>qyl Φ cs cs'
  |_=>false
 |.int k n,v'=>match v' with
  |.undef=>true
  |.int k' n'=>decide (k'=k) && decide (n'=n)
  |_=>false
 |.str s,v'=>match v' with
  |.undef=>true
  |.str s'=>eqN s' s
  |_=>false
 |.bool s,v'=>match v' with
  |.undef=>true
  |.bool s'=>s' == s
  |_=>false
 |_,v'=>match v' with
  |.undef=>true
  |_=>false
def qyl(Φ:List (Nat × List AV)):List AV->List AV->Bool
 |[],l'=>noneL l'
 |a::r,l'=>match l' with
  |[]=>false
  |a'::r'=>qlx Φ a a' && qyl Φ r r'
end
theorem qql{l:List AV} (h:noneL l=true):l=[]:=by cases l<;>first|rfl|cases h
mutual
theorem fitVb_ok{Φ:List (Nat × List AV)}:∀{v v':AV},qlx Φ v v'=true->qap [] Φ v v':=by
 intro v v' h;cases v with
 |slc b o len cap=>
  unfold qlx at h;unfold qap;cases v'<;>simp only[Bool.false_eq_true]at h ⊢;rename_i sz es;simp only[Bool.or_eq_true,Bool.and_eq_true]at h;rcases h with h|h
  ·left;cases hl:qcn b Φ with
   |none=>rw[hl]at h;cases h
   |some cs=>
    rw[hl]at h;simp only at h;cases hs:qf1 o (len * sz) cs with
    |none=>rw[hs]at h;cases h
    |some x=>rw[hs]at h;simp only[Bool.and_eq_true]at h;exact⟨cs,rfl,by rw[hs,AV.eqL_of_beq _ _ h.1.1],Nat.eq_of_beq_eq_true h.1.2,h.2⟩
  ·exact .inr ⟨Nat.eq_of_beq_eq_true h.1,qql h.2⟩
 |fslc sz es=>
  cases v' with
  |undef=>simp[qap]
  |fslc sz' es'=>unfold qlx at h;simp only[Bool.and_eq_true]at h;have h1:=Nat.eq_of_beq_eq_true h.1;have h2:=AV.eqL_of_beq _ _ h.2;subst h1;subst h2;exact qbd rfl
  |_=>simp[qlx]at h
 |ptr b o=>
  unfold qlx at h;unfold qap;cases v'<;>simp only[Bool.false_eq_true]at h ⊢;simp only[Bool.and_eq_true]at h;cases hl:qcn b Φ with
  |none=>rw[hl]at h;cases h.1
  |some cs=>rw[hl]at h;exact⟨by rw[AV.eqL_of_beq _ _ h.1],Nat.eq_of_beq_eq_true h.2⟩
 |nilS=>unfold qlx at h;unfold qap;cases v'<;>simp only[Bool.false_eq_true]at h ⊢;exact qql h
 |agg cs=>unfold qlx at h;unfold qap;cases v'<;>simp only[Bool.false_eq_true]at h ⊢;exact .inl (qr9 h)
 |tup cs=>unfold qlx at h;unfold qap;cases v'<;>simp only[Bool.false_eq_true]at h ⊢;exact .inl (qr9 h)
 |int k n=>
  unfold qlx at h;unfold qap;cases v'<;>simp only[Bool.false_eq_true]at h ⊢
  ·simp
  ·simp only[Bool.and_eq_true,decide_eq_true_eq]at h;obtain⟨rfl,rfl⟩:=h;exact .inr ⟨rfl,rfl⟩
 |str s=>
  unfold qlx at h;unfold qap;cases v'<;>simp only[Bool.false_eq_true]at h ⊢
  ·simp
  ·rw[eqN_eq,decide_eq_true_eq]at h;subst h;exact .inr ⟨rfl,rfl⟩
 |bool s=>
  unfold qlx at h;unfold qap;cases v'<;>simp only[Bool.false_eq_true]at h ⊢
  ·simp
  ·simp only[beq_iff_eq]at h;subst h;exact .inr ⟨rfl,rfl⟩
 |_=>unfold qlx at h;cases v'<;>simp only[Bool.false_eq_true]at h;simp[qap]
theorem qr9{Φ:List (Nat × List AV)}:∀{l l':List AV},qyl Φ l l'=true->qax [] Φ l l':=by
 intro l l' h;cases l with
 |nil=>unfold qyl at h;unfold qax;exact qql h
 |cons a r=>
  unfold qyl at h;unfold qax;cases l' with
  |nil=>cases h
  |cons a' r'=>simp only[Bool.and_eq_true]at h;exact⟨fitVb_ok h.1,qr9 h.2⟩
end
set_option maxHeartbeats 2000000
@[simp]theorem szT79:qc1 PG 79=some 1:=rfl
@[simp]theorem agT79:qgc PG 79=some false:=rfl
@[simp]theorem byT79:qce PG 79=some 8:=rfl
@[simp]theorem alT79(H:Heap):alV PG H 79=some (.ptr H.n 0,H.new (.cells [.nilF])):=rfl
@[simp]theorem zeT79:qbq PG 79=some (.nilF):=rfl
attribute [simp] Tryz.underlying79
@[simp 500]theorem rvF79(H:Heap) (cs:List AV) (o:Nat):qaq PG H 79 (.fptr cs o)=qca cs o:=rfl
@[simp 500]theorem rvP79(H:Heap) (b o:Nat):qaq PG H 79 (.ptr b o)=(H.get b).bind fun k=>k.rd.bind fun cs=>qca cs o:=rfl
theorem c229(L:List Str) (hl:L.length<=1000000) (f:FuncId) (cap:List AV) (hc:qa3 cap=true) (p:Str->Bool) (hp:∀s,s∈L->CallAt (ctx T) f (.str s::cap) zH (.bool (p s)) zH) :
  CallAt (ctx T) 229 [qd4 L,.func (.func f) [] cap] zH (.int .i64 (qal p L 0)) zH:=by
 refine qa0 (s0:=⟨[0,1,4,5,7,8],[qd4 L,.func (.func f) [] cap,uD,uD,uD,uD],[],19,⟨0,[[]]⟩⟩) Tryz.func229 rfl rfl rfl ?_;apply qR;simp[zS];apply qR;simp[zS,lenS];refine qa4 (qb1 (fun i:Nat=>(⟨[0,1,4,5,7,8],[qd4 L,.func (.func f) [] cap,.int .i64 0,uD,.int .i64 (L.length:Nat),.int .i64 i],[],19,⟨0,[[]]⟩⟩ : St))
  (fun i=>i<=L.length/\qal p L 0=qal p (L.drop i) i) (fun i=>L.length - i) [] [] 0 ⟨Nat.zero_le _,rfl⟩ ⟨rfl,rfl,rfl,by simp[qax,qap,qa2,qa3,qd4,hc],FitH.nothing⟩ ?_)
 rintro i ⟨hi,hx⟩ B hB;apply qR;simp[zS];repeat apply wq
 refine qbf rfl (fun h=>?_) fun h=>?_
 ·simp at h;rw[qf9 h]at hx;apply qa6;simp;repeat apply wq
  apply qa4;apply qR;simp[zS];have hcall:=(hp L[i] (List.getElem_mem h)).lift (by simp[qa3,qa2,hc]) ⟨0,[[]]⟩;rcases Bool.eq_false_or_eq_true (p L[i])with hb|hb
  ·rw[hb]at hcall hx;repeat apply wq
   refine qam (qbu [⟨f,_,_,_,_,hcall⟩]) ?_;simp[zS,atS h,qd9];apply qah rfl;apply qR;simp[zS];apply qa7;simp[zQ,Tryz.f229];exact qak rfl (by rw[hx,if_pos rfl])
  ·rw[hb]at hcall hx;repeat apply wq
   refine qam (qbu [⟨f,_,_,_,_,hcall⟩]) ?_;simp[zS,atS h,qd9];apply qai rfl;apply qa6;simp;apply qR;simp[zS,qbo (show i<=1000000000 by omega)];exact hB _ (i+1) (by omega) ⟨by omega,by rw[hx,if_neg (by decide)]⟩ ⟨[],[],⟨rfl,rfl,rfl,by simp[qax,qap,qa2,qa3,qd4,hc],FitH.nothing⟩⟩
 ·simp at h;apply qas;simp;apply qR;simp[zS];apply qa7;simp[zQ,Tryz.f229];exact qak rfl (by rw[hx,List.drop_eq_nil_of_le h];rfl)
def qgr(nm:Str) (N:List Str):Str:=if qal (fun s=>decide (qhk s=nm)) N 0 < 0 then nm else N.getD (qal (fun s=>decide (qhk s=nm)) N 0).toNat []
theorem c230(hc0:qa9 231 T=some e231.g) (s:Str) (nm:Str) (hs:s.length<=1000000):CallAt (ctx T) 230 [.str s,.fptr [.str nm] 0] zH (.bool (decide (qhk s=nm))) zH:=by
 have kc0:=@k231 T hc0;have kL:=fun H=>kc0 (s:=s) hs H;clear kc0;generalize qhk s=x at *;refine qa0 (s0:=⟨[0,1,3],[.str s,.fptr [.str nm] 0,uD],[],8,⟨0,[[]]⟩⟩) Tryz.func230 rfl rfl rfl ?_
 (repeat' (first
  |with_reducible apply qaa
  |(with_reducible apply rE;simp[zS, *];exact rfl)
  |(with_reducible apply qad;simp only[qab,qa5])
  |(refine qay mixed qb6 (by decide +kernel) (by decide +kernel) rfl ?_;apply qh0;simp[zS,zW,qb9,qbt,qaz,Heap.lay,qb8, *];exact rfl)
  |(with_reducible apply qbc;refine⟨by repeat first|exact qdi|refine qdj (by decide +kernel) ?_,?_⟩;simp only[qab,qa5,allPend,Heap.lay,qb8])
  |(with_reducible apply qa7;simp[zQ,Tryz.f230])))
 all_goals first|exact qak rfl (by first|(simp[*];done)|(simp_all;done))|(exfalso;omega)
theorem c220(hL:qa9 231 T=some e231.g) (nm:Str) (N:List Str) (hn:N.length<=1000) (hN:∀s,s∈N->s.length<=1000000):CallAt (ctx T) 220 [.str nm,qd4 N] zH (.str (qgr nm N)) zH:=by
 have hv:qal (fun s=>decide (qhk s=nm)) N 0 < 0\/∃f:Nat,∃h:f < N.length,qal (fun s=>decide (qhk s=nm)) N 0=(f:Int):=by
  have key:∀(L:List Str) (k:Nat),qal (fun s=>decide (qhk s=nm)) L k < 0\/∃p:Nat,p < L.length/\qal (fun s=>decide (qhk s=nm)) L k=((k+p:Nat):Int):=by
   intro L;induction L with
   |nil=>intro k;left;unfold qal;omega
   |cons x r ih=>
    intro k;unfold qal;split
    ·exact .inr ⟨0,by simp,by simp⟩
    ·rcases ih (k+1)with h|⟨p,h1,h2⟩
     ·exact .inl h
     ·exact .inr ⟨p+1,by simp;omega,by rw[h2];omega⟩
  rcases key N 0 with h|⟨p,h1,h2⟩
  ·exact .inl h
  ·exact .inr ⟨p,h1,by rw[h2];simp⟩
 have er:qgr nm N=if qal (fun s=>decide (qhk s=nm)) N 0 < 0 then nm else N.getD (qal (fun s=>decide (qhk s=nm)) N 0).toNat []:=rfl;refine qa0 (s0:=⟨[0,1,2,4,5],[.str nm,qd4 N,uD,uD,uD],[],16,⟨0,[[]]⟩⟩) Tryz.func220 rfl rfl rfl ?_;apply qR;simp[zS];repeat apply wq
 refine qam (qbu [⟨229,[qd4 N,.func (.func 230) [] [.ptr 0 0]],⟨1,[[(0,.cells [.str nm])]]⟩,.int .i64 (qal (fun s=>decide (qhk s=nm)) N 0),_,
  CallAt.thaw (c229 N (by omega) 230 [.fptr [.str nm] 0] rfl (fun s=>decide (qhk s=nm)) fun s hs=>c230 hL s nm (hN s hs)) rfl [] (by simp[qaj,qd4,okV,qa2,qrz (H:=⟨1,[[(0,.cells [.str nm])]]⟩) (b:=0) (cs:=[.str nm]) rfl rfl])⟩]) ?_
 simp[zS,qd9];rcases hv with h|⟨f,hf,e⟩
 ·rw[er,if_pos h];clear er;generalize qal (fun s=>decide (qhk s=nm)) N 0=v at *
  (repeat' (first
   |with_reducible apply qaa
   |(with_reducible apply rE;simp[zS, *];exact rfl)
   |(with_reducible apply qad;simp only[qab,qa5])
   |apply qah rfl
   |(with_reducible apply qa7;simp[zQ,Tryz.f220])))
  all_goals first|(((try simp[zQ,Tryz.f220]);exact qak rfl rfl))|(exfalso;omega)
 ·have h:¬ (f:Int) < 0:=by omega
  rw[er,e,if_neg h,Int.toNat_natCast];have hat:=atS hf;have hg:N.getD f []=N[f]:=by simp[List.getD_eq_getElem?_getD,hf]
  rw[hg];generalize N[f]=y at *;clear er e
  (repeat' (first
   |with_reducible apply qaa
   |(with_reducible apply rE;simp[zS, *];exact rfl)
   |(with_reducible apply qad;simp only[qab,qa5])
   |apply qai rfl
   |(with_reducible apply qa6;simp only[qab,qa5])
   |(with_reducible apply qa7;simp[zQ,Tryz.f220])))
  all_goals first|(((try simp[zQ,Tryz.f220]);exact qak rfl rfl))|(exfalso;omega)
theorem inj_ss(x y:Str × List Str) (h:[AV.str x.1,qd4 x.2]=[AV.str y.1,qd4 y.2]):x=y:=by simp only[List.cons.injEq,and_true,AV.str.injEq]at h;exact Prod.ext h.1 (qww h.2)
def e220:Entry PG:=mkE 220 [[],[1]] (fun x:Str × List Str=>[.str x.1,qd4 x.2]) (fun x=>x.2.length<=1000/\∀s,s∈x.2->s.length<=1000000) (fun x=>.str (qgr x.1 x.2)) fun x h=>c220 (T:=[e231]) rfl x.1 x.2 h.1 h.2
theorem q220(hT:qa9 220 T=some e220.g) (nm:Str) {N:List Str} (hn:N.length<=1000) (hN:∀s,s∈N->s.length<=1000000) {a:AV} {H:Heap} (ha:qcy H [1] a=some (qd4 N)):qat (ctx T) (.fn 220) [.str nm,a] H=some (.str (qgr nm N),H):=
 qb2 hT inj_ss (nm,N) ⟨hn,hN⟩ rfl (by simp[ha])
theorem qgo{q:Nat}:∀(f r:List (Nat × Blk)),getF q f=none->getF q (f++r)=getF q r
 |[],r,_=>rfl
 |z::f,r,h=>by
  cases hb:Nat.beq z.1 q with
  |true=>simp[getF,hb]at h
  |false=>simp only[getF,hb]at h;simp only[List.cons_append,getF,hb];exact qgo f r h
def qjo(L M:List At1):Bool:=L.all fun a=>M.contains a
def qjp(L M:List At1):Bool:=decide (L.length=M.length) && qjo L M && qjo M L
theorem qux(a:At1):AV.agg [.str a.1,.str a.2]=qb0 a:=rfl
theorem qlj{α:Type} {L:List α} {i:Nat} (h:i < L.length):L.take (i+1)=L.take i++[L[i]]:=by simp
theorem eqAt(a b:At1):eqA PG 105 (qb0 a) (qb0 b)=some (decide (a=b)):=by
 have h1:PG.stoodInHeld 105=false:=by decide +kernel
 have h2:PG.eqGuardType PG.depth 105=false:=by decide +kernel
 have h3:decide (a=b)=(eqB a.1 b.1 && eqB a.2 b.2):=by rw[ql7,ql7];simp[Prod.ext_iff]
 rw[h3];unfold eqA;simp only[Tryz.underlying105,Option.bind_some,qb0,h1,h2];simp[eqFields,qhs,qca,qih];cases eqB a.1 b.1<;>simp;cases eqB a.2 b.2<;>simp
@[simp]theorem szT155:qc1 PG 155=some 1:=rfl
@[simp]theorem agT155:qgc PG 155=some false:=rfl
@[simp]theorem byT155:qce PG 155=some 8:=rfl
@[simp]theorem alT155(H:Heap):alV PG H 155=some (.ptr H.n 0,H.new (.cells [.nilM])):=rfl
@[simp]theorem zeT155:qbq PG 155=some (.nilM):=rfl
attribute [simp] Tryz.underlying155
@[simp 500]theorem rvF155(H:Heap) (cs:List AV) (o:Nat):qaq PG H 155 (.fptr cs o)=qca cs o:=rfl
@[simp 500]theorem rvP155(H:Heap) (b o:Nat):qaq PG H 155 (.ptr b o)=(H.get b).bind fun k=>k.rd.bind fun cs=>qca cs o:=rfl
def quh(_:Unit):AV:=.int .i64 1
def mapAt:MapT PG 155 qb0 quh where
 tk:=105
 te:=3
 kd:=_
 hu:=Tryz.underlying155
 hk:=Tryz.underlying105
 eq:=fun a b=>by have h:∀fs,qt2 PG 105 (.struct fs) (qb0 a) (qb0 b)=eqA PG 105 (qb0 a) (qb0 b):=fun fs=>rfl;rw[h,eqAt]
 pure:=fun a v=>rfl
def qf6(M:List At1):List (At1 × Unit)->List (At1 × Unit):=fun m=>M.foldl (fun m a=>qs7 a () m) m
def qk5(M:List At1):List (At1 × Unit)->List (At1 × Unit):=fun m=>M.foldl (fun m a=>qu3 a m) m
theorem qkq{c:At1}:∀(M:List At1) (m:List (At1 × Unit)),(qk6 c (qf6 M m)).isSome=(M.contains c || (qk6 c m).isSome)
 |[],m=>by simp[qf6]
 |a::r,m=>by
  have:=qkq (c:=c) r (qs7 a () m);simp only[qf6,List.foldl_cons]at this ⊢;rw[this,qr5];by_cases h:a=c
  ·subst h;simp
  ·have h':¬ c=a:=fun e=>h e.symm;simp[h,h']
theorem qph:∀(M:List At1) (m:List (At1 × Unit)),(m.map (·.1)).Nodup->((qf6 M m).map (·.1)).Nodup
 |[],m,h=>h
 |a::r,m,h=>qph r (qs7 a () m) (za2 h)
theorem qr4{c:At1}:∀(M:List At1) (m:List (At1 × Unit)),(m.map (·.1)).Nodup->(qk6 c (qk5 M m)).isSome=((qk6 c m).isSome && !M.contains c)
 |[],m,_=>by simp[qk5]
 |a::r,m,h=>by
  have:=qr4 (c:=c) r (qu3 a m) (zcb h);simp only[qk5,List.foldl_cons]at this ⊢;rw[this,qr6 h];by_cases h2:a=c
  ·subst h2;simp
  ·have h':¬ c=a:=fun e=>h2 e.symm;simp[h2,h']
theorem qyi(L M:List At1):(qk5 L (qf6 M [])).length=0↔qjo M L=true:=by
 have hk:=qph M [] List.nodup_nil;constructor
 ·intro h;have h0:qk5 L (qf6 M [])=[]:=List.length_eq_zero_iff.1 h;simp only[qjo,List.all_eq_true];intro c hc;have:=qr4 (c:=c) L (qf6 M []) hk;rw[h0,qkq]at this;have hm:M.contains c=true:=by simpa using hc
  simp only[qk6,Option.isSome_none,hm,Bool.true_or,Bool.true_and]at this;simpa using this.symm
 ·intro h;rw[List.length_eq_zero_iff];cases hg:qk5 L (qf6 M [])with
  |nil=>rfl
  |cons p r=>
   exfalso;have h1:=qr4 (c:=p.1) L (qf6 M []) hk;rw[hg,qkq]at h1;simp only[qk6,if_true,Option.isSome_some,Option.isSome_none,Bool.or_false]at h1;simp only[qjo,List.all_eq_true]at h;have hp:M.contains p.1=true:=by
    cases hc:M.contains p.1 with
    |true=>rfl
    |false=>rw[hc]at h1;simp at h1
   have:=h p.1 (by simpa using hp);rw[this,hp]at h1;cases h1
theorem c105(L M:List At1) (hl:L.length<=900) (hm:M.length<=900):CallAt (ctx T) 105 [qaf L,qaf M] zH (.bool (qjp L M)) zH:=by
 have hget:∀(m:List (At1 × Unit)) (f:List (Nat × Blk)) (n:Nat),getF 0 f=none->Heap.get ⟨n,[f++[(0,.map (qcz qb0 quh m))]]⟩ 0=some (.map (qcz qb0 quh m)):=fun m f n h=>by
  show getFs 0 [f++_]=_;have:getF 0 (f++[(0,.map (qcz qb0 quh m))])=some (.map (qcz qb0 quh m)):=by
   induction f with
   |nil=>rfl
   |cons e r ih=>
    unfold getF at h;simp only[List.cons_append];unfold getF;cases hb:Nat.beq e.1 0 with
    |true=>simp[hb]at h
    |false=>simp only[hb]at h ⊢;exact ih h
  simp only[getFs,this]
 have fith:∀(m:List (At1 × Unit)) (f:List (Nat × Blk)) (n:Nat),getF 0 f=none->FitH 0 [(0,0)] [] ⟨n,[f++[(0,.map (qcz qb0 quh m))]]⟩ ⟨1,[[(0,.map (qcz qb0 quh m))]]⟩:=fun m f n h=>by
  refine .same (by simp) (by simp) (by simp) (by simp) (by simp[Heap.ents]) ?_;intro e he;simp[Heap.ents]at he;subst he;refine⟨by simp,hget m f n h,?_,?_⟩
  ·apply qao;apply qwc;intro v hv;simp only[qcz,List.map_map,List.mem_map,Function.comp]at hv;obtain⟨p,_,rfl⟩:=hv;simp
  ·apply qao;apply qwc;intro v hv;simp only[qcz,List.map_map,List.mem_map,Function.comp]at hv;obtain⟨p,_,rfl⟩:=hv;rfl
 refine qa0 (s0:=⟨[0,1,4,5,7,9,11,18,19,20,27,28,29,38,39,40],[qaf L,qaf M,uD,uD,uD,uD,uD,uD,uD,uD,uD,uD,uD,uD,uD,uD],[],50,⟨0,[[]]⟩⟩) Tryz.func105 rfl rfl rfl ?_;apply qR;simp[zS];apply qR;simp[zS,qsy];refine qbf rfl (fun h=>?_) fun h=>?_
 ·apply qR;simp[zS];apply qa7;simp[zQ,Tryz.f105];have hne:¬ L.length=M.length:=by simp at h;omega
  exact qak rfl (by simp[qjp,hne])
 have hlm:L.length=M.length:=by simp at h;omega
 apply qa6;simp;apply qR;simp[zS];apply qR;simp[zS,qsy];refine qa4 (qb1 (fun i:Nat=>(⟨[0,1,4,5,7,9,11,18,19,20,27,28,29,38,39,40],[qaf L,qaf M,uD,.map 0,uD,uD,uD,qaf M,.int .i64 M.length,.int .i64 i,uD,uD,uD,uD,uD,uD],[],50,⟨1,[[(0,.map (qcz qb0 quh (qf6 (M.take i) [])))]]⟩⟩ : St))
  (fun i=>i<=M.length) (fun i=>M.length - i) [(0,0)] [] 0 (Nat.zero_le _) ⟨rfl,rfl,rfl,by simp[qax,qap,qav,qa2],fith [] [] _ rfl⟩ ?_)
 rintro i hi B hB;apply qR;simp[zS];repeat apply wq
 refine qbf rfl (fun h=>?_) fun h=>?_
 ·simp at h;apply qa6;simp;repeat apply wq
  apply qa4;apply qR;simp[zS,atA h,rdA1];have hu:=mapAt.update (H:=⟨2,[[(1,.cells [.str M[i].1,.str M[i].2]),(0,.map (qcz qb0 quh (qf6 (M.take i) [])))]]⟩) (b:=0) (M:=qf6 (M.take i) []) (by simp[zG]) M[i] ();simp only[quh]at hu;apply qR;simp[zS,qux,hu];apply qR;simp[zS,qbo (show i<=1000000000 by omega)];have hs:qf6 (M.take (i+1)) []=qs7 M[i] () (qf6 (M.take i) []):=by unfold qf6;rw[qlj h,List.foldl_append];rfl
  refine hB _ (i+1) (by omega) (by omega) ⟨[(0,0)],[],rfl,rfl,rfl,by simp[qax,qap,qav,qa2],?_⟩;rw[hs];exact fith _ [(1,.cells [.str M[i].1,.str M[i].2])] _ rfl
 simp at h;apply qas;simp;rw[List.take_of_length_le h];apply qR;simp[zS,qsy];refine qa4 (qb1 (fun i:Nat=>(⟨[0,1,4,5,7,9,11,18,19,20,27,28,29,38,39,40],[qaf L,qaf M,uD,.map 0,uD,uD,uD,uD,uD,uD,qaf L,.int .i64 L.length,.int .i64 i,uD,uD,uD],[],50,⟨1,[[(0,.map (qcz qb0 quh (qf6 M [])))]]⟩⟩ : St))
  (fun i=>i<=L.length/\(L.take i).all (fun a=>M.contains a)=true) (fun i=>L.length - i) [(0,0)] [] 0 ⟨Nat.zero_le _,by simp⟩ ⟨rfl,rfl,rfl,by simp[qax,qap,qav,qa2],fith _ [] _ rfl⟩ ?_)
 rintro i ⟨hi,hx⟩ B hB;apply qR;simp[zS];repeat apply wq
 refine qbf rfl (fun h=>?_) fun h=>?_
 ·simp at h;apply qa6;simp;repeat apply wq
  apply qa4;apply qR;simp[zS,atA h,rdA1];have hlook:qia PG ⟨2,[[(1,.cells [.str L[i].1,.str L[i].2]),(0,.map (qcz qb0 quh (qf6 M [])))]]⟩ 155 (.map 0) (qb0 L[i]) false=some (.int .i64 (if M.contains L[i]=true then 1 else 0)):=by rw[mapAt.look (M:=qf6 M []) qvk (by simp[zG])];have hs:=qkq (c:=L[i]) M [];simp only[qk6,Option.isSome_none,Bool.or_false]at hs;rw[<- hs];cases qk6 L[i] (qf6 M [])<;>rfl
  apply qR;simp[zS,qux,hlook];refine qbf rfl (fun h2=>?_) fun h2=>?_
  ·apply qR;simp[zS];apply qa7;simp[zQ,Tryz.f105];have hn:M.contains L[i]=false:=(by simp at h2;simpa using h2);have ha:qjo L M=false:=by
    cases ha:qjo L M with
    |false=>rfl
    |true=>simp only[qjo,List.all_eq_true]at ha;rw[ha L[i] (List.getElem_mem h)]at hn;cases hn
   exact qak rfl (by simp[qjp,ha])
  ·have hn:M.contains L[i]=true:=(by simp at h2;simpa using h2);apply qa6;simp;apply qR;simp[zS,qbo (show i<=1000000000 by omega)];refine hB _ (i+1) (by omega) ⟨by omega,?_⟩ ⟨[(0,0)],[],rfl,rfl,rfl,by simp[qax,qap,qav,qa2],fith _ [(1,.cells [.str L[i].1,.str L[i].2])] _ rfl⟩;rw[qlj h,List.all_append,hx];simpa using hn
 simp at h;rw[List.take_of_length_le h]at hx;have ha:qjo L M=true:=hx;apply qas;simp;apply qR;simp[zS,qsy];refine qa4 (qb1 (fun i:Nat=>(⟨[0,1,4,5,7,9,11,18,19,20,27,28,29,38,39,40],[qaf L,qaf M,uD,.map 0,uD,uD,uD,uD,uD,uD,uD,uD,uD,qaf L,.int .i64 L.length,.int .i64 i],[],50,⟨1,[[(0,.map (qcz qb0 quh (qk5 (L.take i) (qf6 M []))))]]⟩⟩ : St))
  (fun i=>i<=L.length) (fun i=>L.length - i) [(0,0)] [] 0 (Nat.zero_le _) ⟨rfl,rfl,rfl,by simp[qax,qap,qav,qa2],fith _ [] _ rfl⟩ ?_)
 rintro i hi B hB;apply qR;simp[zS];repeat apply wq
 refine qbf rfl (fun h=>?_) fun h=>?_
 ·simp at h;apply qa6;simp;repeat apply wq
  apply qa4;apply qR;simp[zS,atA h,rdA1];have hd:=mapAt.delete (H:=⟨2,[[(1,.cells [.str L[i].1,.str L[i].2]),(0,.map (qcz qb0 quh (qk5 (L.take i) (qf6 M []))))]]⟩) (b:=0) (M:=qk5 (L.take i) (qf6 M [])) (by simp[zG]) L[i];apply qR;simp[zS,qux,hd];apply qR;simp[zS,qbo (show i<=1000000000 by omega)];have hs:qk5 (L.take (i+1)) (qf6 M [])=qu3 L[i] (qk5 (L.take i) (qf6 M [])):=by unfold qk5;rw[qlj h,List.foldl_append];rfl
  refine hB _ (i+1) (by omega) (by omega) ⟨[(0,0)],[],rfl,rfl,rfl,by simp[qax,qap,qav,qa2],?_⟩;rw[hs];exact fith _ [(1,.cells [.str L[i].1,.str L[i].2])] _ rfl
 simp at h;apply qas;simp;rw[List.take_of_length_le h];have hlen:=mapAt.len (H:=⟨1,[[(0,.map (qcz qb0 quh (qk5 L (qf6 M []))))]]⟩) (b:=0) (M:=qk5 L (qf6 M [])) (by simp[zG]);apply qR;simp[zS,hlen];apply qa7;simp[zQ,Tryz.f105];apply qak rfl;have he:=qyi L M;cases hb:qjo M L with
 |true=>simp[qjp,hlm,ha,hb,List.length_eq_zero_iff.1 (he.2 hb)]
 |false=>
  have:qk5 L (qf6 M [])≠[]:=fun e=>by rw[he.1 (by rw[e];rfl)]at hb;cases hb
  simp[qjp,hlm,ha,hb,this]
def e105:Entry PG:=mkE 105 [[2],[2]] (fun x:List At1 × List At1=>[qaf x.1,qaf x.2]) (fun x=>x.1.length<=900/\x.2.length<=900) (fun x=>.bool (qjp x.1 x.2)) fun x h=>c105 (T:=[]) x.1 x.2 h.1 h.2
theorem k105(hT:qa9 105 T=some e105.g) {L M:List At1} (hl:L.length<=900) (hm:M.length<=900) (H:Heap):qat (ctx T) (.fn 105) [qaf L,qaf M] H=some (.bool (qjp L M),H):=
 qb2 hT (fun x y h=>by simp only[List.cons.injEq,and_true]at h;exact Prod.ext (qdv h.1) (qdv h.2)) (L,M) ⟨hl,hm⟩ rfl (by simp[qaj])
set_option maxHeartbeats 2000000
def svgN:List Str:=[[102,111,114,101,105,103,110,79,98,106,101,99,116],[108,105,110,101,97,114,71,114,97,100,105,101,110,116],[99,108,105,112,80,97,116,104],[116,101,120,116,80,97,116,104]]
def svgA:List Str:=[[118,105,101,119,66,111,120],[112,114,101,115,101,114,118,101,65,115,112,101,99,116,82,97,116,105,111],[103,114,97,100,105,101,110,116,85,110,105,116,115]]
def mathA:List Str:=[[100,101,102,105,110,105,116,105,111,110,85,82,76]]
def qgx(N:List Str) (a:At1):At1:=(qgr a.1 N,a.2)
def qru(t:Tk) (sp:Int):Tk:=if sp=1 then ⟨t.kind,qgr t.name svgN,t.attrs.map (qgx svgA),t.self,t.data⟩ else ⟨t.kind,t.name,t.attrs.map (qgx mathA),t.self,t.data⟩
def qkx(f:At1->At1) (L:List At1) (j:Nat):List At1:=(L.take j).map f++L.drop j
theorem qqr{f:At1->At1} {L:List At1} {j:Nat} (h:j<=L.length):(qkx f L j).length=L.length:=by simp[qkx];omega
theorem zaz{f:At1->At1} {L:List At1} {j:Nat} (h:j < L.length):(qkx f L j)[j]'(by rw[qqr (by omega)];exact h)=L[j]:=by simp only[qkx];rw[List.getElem_append_right (by simp;omega)];simp[show j - min j L.length=0 by omega]
theorem qsu{f:At1->At1} {L:List At1} {j:Nat} (h:j < L.length):qkx f L (j+1)=(qkx f L j).set j (f L[j]):=by
 have hl:((L.take j).map f).length=j:=by simp;omega
 unfold qkx;rw[List.set_append_right _ _ (by omega),hl,Nat.sub_self,List.take_succ_eq_append_getElem h,List.drop_eq_getElem_cons h,List.set_cons_zero,List.map_append,List.append_assoc];rfl
theorem qte(ss:List Str):qa8 (ss.map .str)=ss.map .str:=by
 induction ss with
 |nil=>rfl
 |cons x r ih=>simp only[List.map_cons,qa8,ih];rfl
theorem c207svg(hC:qa9 87 T=some e87o.g) (hR:qa9 220 T=some e220.g) (t:Tk) (hl:t.attrs.length<=900):CallAt (ctx T) 207 [qer t,.int .i64 1] zH (qer (qru t 1)) zH:=by
 obtain⟨kd,nm,L,sf,dt⟩:=t;simp only at hl;have kcl:=fun H=>k87o hC (L:=L) (by omega) H;have eT:qru ⟨kd,nm,L,sf,dt⟩ 1=⟨kd,(qgr nm svgN),L.map (qgx svgA),sf,dt⟩:=rfl;rw[eT];clear eT;have kN:=fun(H:Heap) (a:AV) ha=>q220 hR nm (N:=svgN) (by decide) (by decide) (a:=a) (H:=H) ha;have th:∀(H:Heap) (b:Nat) (ss:List Str),H.get b=some (.cells (ss.map .str))->qcy H [1] (.slc b 0 ss.length (.ex ss.length))=some (qd4 ss):=fun H b ss hb=>by have e:=qte ss;have:=qkk (H:=H) (r:=[]) (b:=b) (cap:=.ex ss.length) (zc8 ss) (by rw[e];exact hb);simpa using this
 have g1:=fun(n:Nat) (f:List (Nat × Blk)) (b:Nat) (hb:Heap.get ⟨n,[f]⟩ b=some (.cells (svgN.map .str)))=>th ⟨n,[f]⟩ b svgN hb;have g2:=fun(n:Nat) (f:List (Nat × Blk)) (b:Nat) (hb:Heap.get ⟨n,[f]⟩ b=some (.cells (svgA.map .str)))=>th ⟨n,[f]⟩ b svgA hb;simp only[svgN,svgA,List.map_cons,List.map_nil,List.length_cons,List.length_nil,Nat.zero_add,Nat.reduceAdd]at g1 g2;by_cases h0:L=[]
 ·subst h0;simp only[List.map_nil,qcv,qhu]at kcl;have e2:qer ⟨kd,(qgr nm svgN),([]:List At1).map (qgx svgA),sf,dt⟩=.agg [.int .i64 kd,.str (qgr nm svgN),qaf [],.bool sf,.str dt]:=rfl;rw[e2];clear e2;generalize qgr nm svgN=n9 at *;simp only[svgN]at kN;have l0:∀H,qeq PG H 27 .zslc=some 0:=fun _=>rfl;have zc:AV.zslc.cells=[AV.zslc]:=rfl;have zr:∀n,refs n AV.zslc=[]:=fun n=>qg1 n _ rfl;refine qa0 (s0:=⟨[0,1,2,4,5,6,7,8,13,22,23,24,42,43,44],[.agg [.int .i64 kd,.str nm,qaf [],.bool sf,.str dt],.int .i64 1,uD,uD,uD,uD,uD,uD,uD,uD,uD,uD,uD,uD,uD],[],60,⟨0,[[]]⟩⟩) Tryz.func207 rfl rfl rfl ?_
  (repeat' (first
   |with_reducible apply qaa
   |with_reducible apply qa4
   |(with_reducible apply rE;simp[zS, *];exact rfl)
   |(with_reducible apply qad;simp only[qab,qa5])
   |(apply qah rfl)))
  all_goals first|(skip)|(exfalso;omega)
  refine qb1 (fun _:Unit=>(⟨[0,1,2,4,5,6,7,8,13,22,23,24,42,43,44],[uD,uD,.ptr 0 0,.ptr 1 0,uD,uD,uD,uD,uD,.zslc,.int .i64 0,.int .i64 0,uD,uD,uD],[],60,⟨2,[[(1,.cells [.int .i64 0,.str [],.nilS,.bool false,.str []]),(0,.cells [.int .i64 kd,.str n9,.zslc,.bool sf,.str dt])]]⟩⟩ : St)) (fun _=>True) (fun _=>0) [(0,0),(1,1)] [] () trivial
   ⟨rfl,rfl,rfl,by simp[qax,qap,qav,qa2],.same (by simp) (by simp) (by simp) (Nat.zero_le _) (by simp[Heap.ents]) (fun e he=>by
    simp[Heap.ents]at he;rcases he with rfl|rfl
    ·exact⟨by simp,by simp[zG],by simp[qji,qax,qap,qa2]⟩
    ·exact⟨by simp,by simp[zG],by simp[qji,qax,qap,qa2]⟩)⟩ ?_
  rintro⟨⟩ _ B hB;clear hB
  (repeat' (first
   |with_reducible apply qaa
   |(with_reducible apply rE;simp[zS, *];exact rfl)
   |(with_reducible apply qad;simp only[qab,qa5])
   |apply qai rfl
   |(with_reducible apply qas;simp)
   |(with_reducible apply qa7;simp[zQ,Tryz.f207])))
  all_goals first|(((try simp[zQ,Tryz.f207,readCells,zG,Blk.rd,qf1,qe8]);exact⟨[],[],by simp[qap,qax,qa2,qaf],.keep0 rfl⟩))|(exfalso;omega)
 ·have h0':L.map qb0≠[]:=by simpa using h0
  have oV:∀b,qcv b 2 (L.map qb0)=.slc b 0 L.length (.rest 2):=fun b=>by rw[qcm h0',List.length_map]
  have oH:∀H:Heap,qhu H (L.map qb0)=H.new (.cells (qa8 (L.map qb0))):=fun H=>by
   obtain⟨x,r,e⟩ : ∃x r,L.map qb0=x::r:=by
    cases hL:L.map qb0 with
    |nil=>exact absurd hL h0'
    |cons x r=>exact⟨x,r,rfl⟩
   rw[e];rfl
  simp only[oV,oH]at kcl;have e2:qer ⟨kd,(qgr nm svgN),L.map (qgx svgA),sf,dt⟩=.agg [.int .i64 kd,.str (qgr nm svgN),qaf (L.map (qgx svgA)),.bool sf,.str dt]:=rfl;rw[e2];clear e2 oV oH;generalize qgr nm svgN=n9 at *;simp only[svgN]at kN;have kA:=fun(x:Str) (H:Heap) (a:AV) ha=>q220 hR x (N:=svgA) (by decide) (by decide) (a:=a) (H:=H) ha;have pM:∀M:List At1,qa3 (qa8 (M.map qb0))=true:=fun M=>(qdp M).pure;have fS:∀(M:List At1) (n:Nat) (f:List (Nat × Blk)),getF 0 f=none->getF 1 f=none->getF 2 f=none->FitH 0 [(0,0),(1,1),(2,2)] [] ⟨n,[f++[(2,.cells (qa8 (M.map qb0))),(1,.cells [.int .i64 0,.str [],.nilS,.bool false,.str []]),(0,.cells [.int .i64 kd,.str n9,.slc 2 0 L.length (.rest 2),.bool sf,.str dt])]]⟩ ⟨3,[[(2,.cells (qa8 (M.map qb0))),(1,.cells [.int .i64 0,.str [],.nilS,.bool false,.str []]),(0,.cells [.int .i64 kd,.str n9,.slc 2 0 L.length (.rest 2),.bool sf,.str dt])]]⟩:=fun M n f f0 f1 f2=>by
   refine .same (by simp) (by simp) (by simp) (Nat.zero_le _) (by simp[Heap.ents]) ?_;intro e he;simp only[Heap.ents,List.flatten_cons,List.flatten_nil,List.append_nil,List.mem_cons,List.not_mem_nil,or_false]at he;rcases he with rfl|rfl|rfl
   ·refine⟨by simp,?_,qao (pM M)⟩;simp only[Heap.get,getFs,qgo f _ f2];simp[getF]
   ·refine⟨by simp,?_,by simp[qji,qax,qap,qa2]⟩;simp only[Heap.get,getFs,qgo f _ f1];simp[getF]
   ·refine⟨by simp,?_,by simp[qji,qax,qap,qa2,qav]⟩;simp only[Heap.get,getFs,qgo f _ f0];simp[getF]
  have l0:∀H,qeq PG H 27 (.slc 2 0 L.length (.rest 2))=some L.length:=fun H=>by simp[qeq]
  have pT:∀A B C,qdd 0 [2] [] [[(2,A),(1,B),(0,C)]]=[[(2,A),(1,B),(0,C)]]:=fun _ _ _=>qmx rfl;refine qa0 (s0:=⟨[0,1,2,4,5,6,7,8,13,22,23,24,42,43,44],[.agg [.int .i64 kd,.str nm,qaf L,.bool sf,.str dt],.int .i64 1,uD,uD,uD,uD,uD,uD,uD,uD,uD,uD,uD,uD,uD],[],60,⟨0,[[]]⟩⟩) Tryz.func207 rfl rfl rfl ?_
  (repeat' (first
   |with_reducible apply qaa
   |with_reducible apply qa4
   |(with_reducible apply rE;simp[zS, *];exact rfl)
   |(with_reducible apply qad;simp only[qab,qa5])
   |(apply qah rfl)))
  all_goals first|(skip)|(exfalso;omega)
  refine qb1 (fun j:Nat=>(⟨[0,1,2,4,5,6,7,8,13,22,23,24,42,43,44],[uD,uD,.ptr 0 0,.ptr 1 0,uD,uD,uD,uD,uD,.slc 2 0 L.length (.rest 2),.int .i64 (L.length:Int),.int .i64 (j:Int),uD,uD,uD],[],60,⟨3,[[(2,.cells (qa8 ((qkx (qgx svgA) L j).map qb0))),(1,.cells [.int .i64 0,.str [],.nilS,.bool false,.str []]),(0,.cells [.int .i64 kd,.str n9,.slc 2 0 L.length (.rest 2),.bool sf,.str dt])]]⟩⟩ : St)) (fun j=>j<=L.length) (fun j=>L.length - j) [(0,0),(1,1),(2,2)] [] 0 (Nat.zero_le _)
   ⟨rfl,rfl,rfl,by simp[qax,qap,qav,qa2],fS L _ [(3,_)] (by simp[getF]) (by simp[getF]) (by simp[getF])⟩ ?_
  intro j hj B hB;apply qR;simp[zS];repeat apply wq
  refine qbf rfl (fun h=>?_) fun h=>?_
  ·simp at h;apply qa6;simp;repeat apply wq
   apply qa4;have hlen:=qqr (f:=qgx svgA) (L:=L) (j:=j) hj;have hat:=zaz (f:=qgx svgA) h;have hnx:=qsu (f:=qgx svgA) h;have hjm:j < (qkx (qgx svgA) L j).length:=(by omega);have ix:qan PG 27 (.slc 2 0 L.length (.rest 2)) (.int .i64 (j:Int))=some (.ptr 2 (j * 2)):=(by simp[qan,qbj h]);have sb:=sub_at (qdp (qkx (qgx svgA) L j)) (i:=j) (by simp;omega);have ly:=fun v=>qwq (qdp (qkx (qgx svgA) L j)) (i:=j) (by simp;omega) (p:=[]) (q:=[.str L[j].2]) (x:=.str L[j].1) (v:=v) (by simp only[List.getElem_map,hat];rfl);have e1:((qkx (qgx svgA) L j).map qb0).set j (.agg ([]++.str (qgr L[j].1 svgA)::[.str L[j].2]))=(qkx (qgx svgA) L (j+1)).map qb0:=(by rw[hnx,List.map_set];rfl);have ly:=ly (.str (qgr L[j].1 svgA));rw[e1]at ly;simp only[List.getElem_map,hat,List.length_nil,Nat.add_zero]at sb ly;rw[show (qb0 L[j]).cells=[.str L[j].1,.str L[j].2] from rfl]at sb;have kA:=kA L[j].1;have hB2:=fun s' hh=>hB s' (j+1) (by omega) (by omega) hh;have fT:=fS (qkx (qgx svgA) L (j+1));have haw:=qbo (show j<=1000000000 by omega);generalize qgr L[j].1 svgA=x9 at *;generalize L[j].1=x1 at *;generalize L[j].2=x2 at *;simp only[svgA]at kA;generalize qa8 ((qkx (qgx svgA) L (j+1)).map qb0)=R2 at *;generalize qa8 ((qkx (qgx svgA) L j).map qb0)=R1 at *;clear hB hlen hat hnx hjm e1 fS pM kcl kN hC hR th;apply qR;simp[zS,ix,sb];refine qdh mixed qb6 (by decide +kernel) fun B_ hB_=>?_;have hD_:ahead B_ 1 6=false/\ahead B_ 1 9=true/\ahead B_ 4 6=true/\ahead B_ 4 9=true/\ahead B_ 5 6=true/\ahead B_ 5 9=true/\ahead B_ 6 1=false/\ahead B_ 6 4=false/\ahead B_ 9 1=false/\ahead B_ 9 4=false:=(by rw[hB_];decide +kernel);apply qom B_;simp[zS,qbt,qaz,qb9,qc7,qar,qbg,qb7,Heap.lay,qb8,qok,qoj,qi6,qi4,qhw,qi3,qiy,qid,qg4,qg5,qin,qim,qik,qil,qiq,qir,qip,qio,hD_,ix,kA,g2,ly];exact rfl;refine⟨_,rfl,?_,?_⟩;simp[zS,qc7,qar,qcp,qcq,qeb,hD_,ix,kA,g2,ly];try simp[allPend,Heap.lay,qb8,qab]
   apply qR;simp[zS,haw];exact hB2 _ ⟨[(0,0),(1,1),(2,2)],[],rfl,rfl,rfl,by simp[qax,qap,qav,qa2],fT _ [(_,_),(3,_)] (by simp[getF]) (by simp[getF]) (by simp[getF])⟩
  ·simp at h;have hjn:j=L.length:=(by omega);have em:qkx (qgx svgA) L j=L.map (qgx svgA):=(by unfold qkx;rw[hjn,List.take_length,List.drop_length,List.append_nil]);rw[em];have lm:(L.map (qgx svgA)).length=L.length:=List.length_map _;have pT1:∀A B C,qdd 1 [2] [] [[(2,A),(1,B),(0,C)]]=[[(2,A),(1,B),(0,C)]]:=fun _ _ _=>qmx rfl;clear hB hjn em fS kcl hC hR th kA g1 g2;generalize L.map (qgx svgA)=M at *;have ef:=qha (H:=⟨3,[[(2,.cells (qa8 (M.map qb0))),(1,.cells [.int .i64 kd,.str n9,.slc 2 0 L.length (.rest 2),.bool sf,.str dt]),(0,.cells [.int .i64 kd,.str n9,.slc 2 0 L.length (.rest 2),.bool sf,.str dt])]]⟩) (b:=2) (len:=L.length) (cap:=.rest 2) (fr:=M.map qb0) (qdp M) (by simp[zG]) (by simp;omega) (by rw[List.take_of_length_le (by simp;omega)]);obtain⟨σ,Φ,f1,f2⟩:=ef;generalize qa8 (M.map qb0)=R at *;apply qas;simp
   (repeat' (first
    |with_reducible apply qaa
    |(with_reducible apply rE;simp[zS, *];exact rfl)
    |(with_reducible apply qad;simp only[qab,qa5])
    |(with_reducible apply qa7;simp[zQ,Tryz.f207])))
   all_goals first|(((try simp[zQ,Tryz.f207,readCells,zG,Blk.rd,qf1,qe8]);exact⟨σ,Φ,(show qax _ _ _ _\/_ from .inl ⟨qbd rfl,qbd rfl,f1,qbd rfl,qbd rfl,(by simp[qax])⟩),f2⟩))|(exfalso;omega)
theorem c207math(hC:qa9 87 T=some e87o.g) (hR:qa9 220 T=some e220.g) (t:Tk) (hl:t.attrs.length<=900):CallAt (ctx T) 207 [qer t,.int .i64 2] zH (qer (qru t 2)) zH:=by
 obtain⟨kd,nm,L,sf,dt⟩:=t;simp only at hl;have kcl:=fun H=>k87o hC (L:=L) (by omega) H;have eT:qru ⟨kd,nm,L,sf,dt⟩ 2=⟨kd,nm,L.map (qgx mathA),sf,dt⟩:=rfl;rw[eT];clear eT;have th:∀(H:Heap) (b:Nat) (ss:List Str),H.get b=some (.cells (ss.map .str))->qcy H [1] (.slc b 0 ss.length (.ex ss.length))=some (qd4 ss):=fun H b ss hb=>by have e:=qte ss;have:=qkk (H:=H) (r:=[]) (b:=b) (cap:=.ex ss.length) (zc8 ss) (by rw[e];exact hb);simpa using this
 have g1:=fun(n:Nat) (f:List (Nat × Blk)) (b:Nat) (hb:Heap.get ⟨n,[f]⟩ b=some (.cells (svgN.map .str)))=>th ⟨n,[f]⟩ b svgN hb;have g2:=fun(n:Nat) (f:List (Nat × Blk)) (b:Nat) (hb:Heap.get ⟨n,[f]⟩ b=some (.cells (mathA.map .str)))=>th ⟨n,[f]⟩ b mathA hb;simp only[svgN,mathA,List.map_cons,List.map_nil,List.length_cons,List.length_nil,Nat.zero_add,Nat.reduceAdd]at g1 g2;by_cases h0:L=[]
 ·subst h0;simp only[List.map_nil,qcv,qhu]at kcl;have e2:qer ⟨kd,nm,([]:List At1).map (qgx mathA),sf,dt⟩=.agg [.int .i64 kd,.str nm,qaf [],.bool sf,.str dt]:=rfl;rw[e2];clear e2;have l0:∀H,qeq PG H 27 .zslc=some 0:=fun _=>rfl;have zc:AV.zslc.cells=[AV.zslc]:=rfl;have zr:∀n,refs n AV.zslc=[]:=fun n=>qg1 n _ rfl;refine qa0 (s0:=⟨[0,1,2,4,5,6,7,8,13,22,23,24,42,43,44],[.agg [.int .i64 kd,.str nm,qaf [],.bool sf,.str dt],.int .i64 2,uD,uD,uD,uD,uD,uD,uD,uD,uD,uD,uD,uD,uD],[],60,⟨0,[[]]⟩⟩) Tryz.func207 rfl rfl rfl ?_
  (repeat' (first
   |with_reducible apply qaa
   |with_reducible apply qa4
   |(with_reducible apply rE;simp[zS, *];exact rfl)
   |(with_reducible apply qad;simp only[qab,qa5])
   |apply qah rfl
   |(apply qai rfl)))
  all_goals first|(skip)|(exfalso;omega)
  refine qb1 (fun _:Unit=>(⟨[0,1,2,4,5,6,7,8,13,22,23,24,42,43,44],[uD,uD,.ptr 0 0,.ptr 1 0,uD,uD,uD,uD,uD,uD,uD,uD,.zslc,.int .i64 0,.int .i64 0],[],60,⟨2,[[(1,.cells [.int .i64 0,.str [],.nilS,.bool false,.str []]),(0,.cells [.int .i64 kd,.str nm,.zslc,.bool sf,.str dt])]]⟩⟩ : St)) (fun _=>True) (fun _=>0) [(0,0),(1,1)] [] () trivial
   ⟨rfl,rfl,rfl,by simp[qax,qap,qav,qa2],.same (by simp) (by simp) (by simp) (Nat.zero_le _) (by simp[Heap.ents]) (fun e he=>by
    simp[Heap.ents]at he;rcases he with rfl|rfl
    ·exact⟨by simp,by simp[zG],by simp[qji,qax,qap,qa2]⟩
    ·exact⟨by simp,by simp[zG],by simp[qji,qax,qap,qa2]⟩)⟩ ?_
  rintro⟨⟩ _ B hB;clear hB
  (repeat' (first
   |with_reducible apply qaa
   |(with_reducible apply rE;simp[zS, *];exact rfl)
   |(with_reducible apply qad;simp only[qab,qa5])
   |apply qai rfl
   |(with_reducible apply qas;simp)
   |(with_reducible apply qa7;simp[zQ,Tryz.f207])))
  all_goals first|(((try simp[zQ,Tryz.f207,readCells,zG,Blk.rd,qf1,qe8]);exact⟨[],[],by simp[qap,qax,qa2,qaf],.keep0 rfl⟩))|(exfalso;omega)
 ·have h0':L.map qb0≠[]:=by simpa using h0
  have oV:∀b,qcv b 2 (L.map qb0)=.slc b 0 L.length (.rest 2):=fun b=>by rw[qcm h0',List.length_map]
  have oH:∀H:Heap,qhu H (L.map qb0)=H.new (.cells (qa8 (L.map qb0))):=fun H=>by
   obtain⟨x,r,e⟩ : ∃x r,L.map qb0=x::r:=by
    cases hL:L.map qb0 with
    |nil=>exact absurd hL h0'
    |cons x r=>exact⟨x,r,rfl⟩
   rw[e];rfl
  simp only[oV,oH]at kcl;have e2:qer ⟨kd,nm,L.map (qgx mathA),sf,dt⟩=.agg [.int .i64 kd,.str nm,qaf (L.map (qgx mathA)),.bool sf,.str dt]:=rfl;rw[e2];clear e2 oV oH;have kA:=fun(x:Str) (H:Heap) (a:AV) ha=>q220 hR x (N:=mathA) (by decide) (by decide) (a:=a) (H:=H) ha;have pM:∀M:List At1,qa3 (qa8 (M.map qb0))=true:=fun M=>(qdp M).pure;have fS:∀(M:List At1) (n:Nat) (f:List (Nat × Blk)),getF 0 f=none->getF 1 f=none->getF 2 f=none->FitH 0 [(0,0),(1,1),(2,2)] [] ⟨n,[f++[(2,.cells (qa8 (M.map qb0))),(1,.cells [.int .i64 0,.str [],.nilS,.bool false,.str []]),(0,.cells [.int .i64 kd,.str nm,.slc 2 0 L.length (.rest 2),.bool sf,.str dt])]]⟩ ⟨3,[[(2,.cells (qa8 (M.map qb0))),(1,.cells [.int .i64 0,.str [],.nilS,.bool false,.str []]),(0,.cells [.int .i64 kd,.str nm,.slc 2 0 L.length (.rest 2),.bool sf,.str dt])]]⟩:=fun M n f f0 f1 f2=>by
   refine .same (by simp) (by simp) (by simp) (Nat.zero_le _) (by simp[Heap.ents]) ?_;intro e he;simp only[Heap.ents,List.flatten_cons,List.flatten_nil,List.append_nil,List.mem_cons,List.not_mem_nil,or_false]at he;rcases he with rfl|rfl|rfl
   ·refine⟨by simp,?_,qao (pM M)⟩;simp only[Heap.get,getFs,qgo f _ f2];simp[getF]
   ·refine⟨by simp,?_,by simp[qji,qax,qap,qa2]⟩;simp only[Heap.get,getFs,qgo f _ f1];simp[getF]
   ·refine⟨by simp,?_,by simp[qji,qax,qap,qa2,qav]⟩;simp only[Heap.get,getFs,qgo f _ f0];simp[getF]
  have l0:∀H,qeq PG H 27 (.slc 2 0 L.length (.rest 2))=some L.length:=fun H=>by simp[qeq]
  have pT:∀A B C,qdd 0 [2] [] [[(2,A),(1,B),(0,C)]]=[[(2,A),(1,B),(0,C)]]:=fun _ _ _=>qmx rfl;refine qa0 (s0:=⟨[0,1,2,4,5,6,7,8,13,22,23,24,42,43,44],[.agg [.int .i64 kd,.str nm,qaf L,.bool sf,.str dt],.int .i64 2,uD,uD,uD,uD,uD,uD,uD,uD,uD,uD,uD,uD,uD],[],60,⟨0,[[]]⟩⟩) Tryz.func207 rfl rfl rfl ?_
  (repeat' (first
   |with_reducible apply qaa
   |with_reducible apply qa4
   |(with_reducible apply rE;simp[zS, *];exact rfl)
   |(with_reducible apply qad;simp only[qab,qa5])
   |apply qah rfl
   |(apply qai rfl)))
  all_goals first|(skip)|(exfalso;omega)
  refine qb1 (fun j:Nat=>(⟨[0,1,2,4,5,6,7,8,13,22,23,24,42,43,44],[uD,uD,.ptr 0 0,.ptr 1 0,uD,uD,uD,uD,uD,uD,uD,uD,.slc 2 0 L.length (.rest 2),.int .i64 (L.length:Int),.int .i64 (j:Int)],[],60,⟨3,[[(2,.cells (qa8 ((qkx (qgx mathA) L j).map qb0))),(1,.cells [.int .i64 0,.str [],.nilS,.bool false,.str []]),(0,.cells [.int .i64 kd,.str nm,.slc 2 0 L.length (.rest 2),.bool sf,.str dt])]]⟩⟩ : St)) (fun j=>j<=L.length) (fun j=>L.length - j) [(0,0),(1,1),(2,2)] [] 0 (Nat.zero_le _)
   ⟨rfl,rfl,rfl,by simp[qax,qap,qav,qa2],fS L _ [] (by simp[getF]) (by simp[getF]) (by simp[getF])⟩ ?_
  intro j hj B hB;apply qR;simp[zS];repeat apply wq
  refine qbf rfl (fun h=>?_) fun h=>?_
  ·simp at h;apply qa6;simp;repeat apply wq
   apply qa4;have hlen:=qqr (f:=qgx mathA) (L:=L) (j:=j) hj;have hat:=zaz (f:=qgx mathA) h;have hnx:=qsu (f:=qgx mathA) h;have hjm:j < (qkx (qgx mathA) L j).length:=(by omega);have ix:qan PG 27 (.slc 2 0 L.length (.rest 2)) (.int .i64 (j:Int))=some (.ptr 2 (j * 2)):=(by simp[qan,qbj h]);have sb:=sub_at (qdp (qkx (qgx mathA) L j)) (i:=j) (by simp;omega);have ly:=fun v=>qwq (qdp (qkx (qgx mathA) L j)) (i:=j) (by simp;omega) (p:=[]) (q:=[.str L[j].2]) (x:=.str L[j].1) (v:=v) (by simp only[List.getElem_map,hat];rfl);have e1:((qkx (qgx mathA) L j).map qb0).set j (.agg ([]++.str (qgr L[j].1 mathA)::[.str L[j].2]))=(qkx (qgx mathA) L (j+1)).map qb0:=(by rw[hnx,List.map_set];rfl);have ly:=ly (.str (qgr L[j].1 mathA));rw[e1]at ly;simp only[List.getElem_map,hat,List.length_nil,Nat.add_zero]at sb ly;rw[show (qb0 L[j]).cells=[.str L[j].1,.str L[j].2] from rfl]at sb;have kA:=kA L[j].1;have hB2:=fun s' hh=>hB s' (j+1) (by omega) (by omega) hh;have fT:=fS (qkx (qgx mathA) L (j+1));have haw:=qbo (show j<=1000000000 by omega);generalize qgr L[j].1 mathA=x9 at *;generalize L[j].1=x1 at *;generalize L[j].2=x2 at *;simp only[mathA]at kA;generalize qa8 ((qkx (qgx mathA) L (j+1)).map qb0)=R2 at *;generalize qa8 ((qkx (qgx mathA) L j).map qb0)=R1 at *;clear hB hlen hat hnx hjm e1 fS pM kcl hC hR th;apply qR;simp[zS,ix,sb];refine qdh mixed qb6 (by decide +kernel) fun B_ hB_=>?_;have hD_:ahead B_ 1 6=false/\ahead B_ 1 9=true/\ahead B_ 4 6=true/\ahead B_ 4 9=true/\ahead B_ 5 6=true/\ahead B_ 5 9=true/\ahead B_ 6 1=false/\ahead B_ 6 4=false/\ahead B_ 9 1=false/\ahead B_ 9 4=false:=(by rw[hB_];decide +kernel);apply qom B_;simp[zS,qbt,qaz,qb9,qc7,qar,qbg,qb7,Heap.lay,qb8,qok,qoj,qi6,qi4,qhw,qi3,qiy,qid,qg4,qg5,qin,qim,qik,qil,qiq,qir,qip,qio,hD_,ix,kA,g2,ly];exact rfl;refine⟨_,rfl,?_,?_⟩;simp[zS,qc7,qar,qcp,qcq,qeb,hD_,ix,kA,g2,ly];try simp[allPend,Heap.lay,qb8,qab]
   apply qR;simp[zS,haw];exact hB2 _ ⟨[(0,0),(1,1),(2,2)],[],rfl,rfl,rfl,by simp[qax,qap,qav,qa2],fT _ [(_,_),(3,_)] (by simp[getF]) (by simp[getF]) (by simp[getF])⟩
  ·simp at h;have hjn:j=L.length:=(by omega);have em:qkx (qgx mathA) L j=L.map (qgx mathA):=(by unfold qkx;rw[hjn,List.take_length,List.drop_length,List.append_nil]);rw[em];have lm:(L.map (qgx mathA)).length=L.length:=List.length_map _;have pT1:∀A B C,qdd 1 [2] [] [[(2,A),(1,B),(0,C)]]=[[(2,A),(1,B),(0,C)]]:=fun _ _ _=>qmx rfl;clear hB hjn em fS kcl hC hR th kA g1 g2;generalize L.map (qgx mathA)=M at *;have ef:=qha (H:=⟨3,[[(2,.cells (qa8 (M.map qb0))),(1,.cells [.int .i64 kd,.str nm,.slc 2 0 L.length (.rest 2),.bool sf,.str dt]),(0,.cells [.int .i64 kd,.str nm,.slc 2 0 L.length (.rest 2),.bool sf,.str dt])]]⟩) (b:=2) (len:=L.length) (cap:=.rest 2) (fr:=M.map qb0) (qdp M) (by simp[zG]) (by simp;omega) (by rw[List.take_of_length_le (by simp;omega)]);obtain⟨σ,Φ,f1,f2⟩:=ef;generalize qa8 (M.map qb0)=R at *;apply qas;simp
   (repeat' (first
    |with_reducible apply qaa
    |(with_reducible apply rE;simp[zS, *];exact rfl)
    |(with_reducible apply qad;simp only[qab,qa5])
    |(with_reducible apply qa7;simp[zQ,Tryz.f207])))
   all_goals first|(((try simp[zQ,Tryz.f207,readCells,zG,Blk.rd,qf1,qe8]);exact⟨σ,Φ,(show qax _ _ _ _\/_ from .inl ⟨qbd rfl,qbd rfl,f1,qbd rfl,qbd rfl,(by simp[qax])⟩),f2⟩))|(exfalso;omega)
theorem c207(hC:qa9 87 T=some e87o.g) (hR:qa9 220 T=some e220.g) (t:Tk) (sp:Int) (hs:sp=1\/sp=2) (hl:t.attrs.length<=900):CallAt (ctx T) 207 [qer t,.int .i64 sp] zH (qer (qru t sp)) zH:=by
 rcases hs with rfl|rfl
 ·exact c207svg hC hR t hl
 ·exact c207math hC hR t hl
theorem inj_ti(x y:Tk × Int) (h:[qer x.1,AV.int .i64 x.2]=[qer y.1,AV.int .i64 y.2]):x=y:=by simp only[List.cons.injEq,and_true,AV.int.injEq,true_and]at h;exact Prod.ext (qqx h.1) h.2
def e207:Entry PG:=mkE 207 [[0,0,2,0,0],[]] (fun x:Tk × Int=>[qer x.1,.int .i64 x.2]) (fun x=>(x.2=1\/x.2=2)/\x.1.attrs.length<=900) (fun x=>qer (qru x.1 x.2)) fun x h=>c207 (T:=[e87o,e220]) rfl rfl x.1 x.2 h.1 h.2
theorem k207(hT:qa9 207 T=some e207.g) (t:Tk) (sp:Int) (hs:sp=1\/sp=2) (hl:t.attrs.length<=900) (H:Heap):qat (ctx T) (.fn 207) [qer t,.int .i64 sp] H=some (qer (qru t sp),H):=
 qee hT inj_ti (t,sp) ⟨hs,hl⟩ (by simp[qa3,qa2,qer,Tk.cs]) (by simp[qbb,qcy,qjf,qhd,okV,qer,Tk.cs,qaf,qa3,qa2]) H
theorem qxj(t:Tk) (sp:Int):(qru t sp).attrs.length=t.attrs.length/\(qru t sp).kind=t.kind:=by unfold qru;split<;>simp
theorem resp_len{nm:Str} {N:List Str} {m:Nat} (h:nm.length<=m) (hN:∀s,s∈N->s.length<=m):(qgr nm N).length<=m:=by
 unfold qgr;split
 ·exact h
 ·rw[List.getD_eq_getElem?_getD];cases hg:N[(qal (fun s=>decide (qhk s=nm)) N 0).toNat]? with
  |none=>simp
  |some y=>exact hN y (List.mem_of_getElem? hg)
theorem adjT_nm{t:Tk} (sp:Int) (h:t.name.length<=40):(qru t sp).name.length<=40:=by
 unfold qru;split
 ·exact resp_len h (by decide)
 ·exact h
def alkN(o n:Nd):Bool:=decide (o.space=n.space) && decide (o.name=n.name) && qjp o.attrs n.attrs
def alkB(t:Tr) (i x:Int):Bool:=isB t i && isB t x && alkN (qc4 t x) (qc4 t i)
def qsh(t:Tr) (l:List Int) (i:Int):List Int:=if 3<=(l.drop (qrt l).toNat).countP (alkB t i) then l.eraseIdx (qal (alkB t i) (l.drop (qrt l).toNat) (qrt l).toNat).toNat else l
def qhh(t:Tr) (l:List Int) (i:Int):List Int:=qsh t l i++[i]
theorem qod{b k:Nat} (h:b≠k) (es:List AV) (r:List (Nat × Blk)):getF k (qd6 b es++r)=getF k r:=by
 cases es with
 |nil=>rfl
 |cons x q=>simp[qd6,getF,qb4 h]
theorem qtc{b:Nat} {l:List Int} (h:l≠[]) (r:List (Nat × Blk)):getF b (qd6 b (l.map qau)++r)=some (.cells (l.map qau)):=by rw[(qk0 h).2];simp[getF]
theorem fitPu{H:Heap} {a b c:Nat} {t:Tr} {l:List Int} {nd:List AV} (hd:a≠b/\a≠c/\b≠c) (ha:H.get a=some (.cells [qcf t])) (hb:l≠[]->H.get b=some (.cells (l.map qau))) (hc:H.get c=some (.cells nd)) (hp:qa3 nd=true) :
  FitH 0 [(a,0),(b,1),(c,2)] [] H ⟨3,[qd6 1 (l.map qau)++[(2,.cells nd),(0,.cells [qcf t])]]⟩ where
 nd1:=by simp;omega
 nd2:=by simp
 nd3:=by cases l<;>simp[Heap.ents,qd6]
 lt:=by simp
 idn:=by simp
 num:=by simp
 src:=by
  intro e he;simp only[Heap.ents,List.flatten_cons,List.flatten_nil,List.append_nil,List.mem_append,List.mem_cons,List.not_mem_nil,or_false]at he;rcases he with he|rfl|rfl
  ·cases l with
   |nil=>cases he
   |cons x r=>rw[(qk0 (by simp)).2]at he;simp only[List.mem_singleton]at he;subst he;exact⟨b,_,by simp,hb (by simp),qao (qsi _)⟩
  ·exact⟨c,_,by simp,hc,qao hp⟩
  ·exact⟨a,_,by simp,ha,by simp[qji,qax,qa3]⟩
 frz:=fun x h=>by cases h
theorem c36(hC:qa9 78 T=some e78.g) (hN:qa9 103 T=some e103.g) (hT:qa9 104 T=some e104.g) (hA:qa9 105 T=some e105.g)
  (t:Tr) (l:List Int) (i:Int) (hl:l.length<=900000) (hat:∀x,(qc4 t x).attrs.length<=900):CallAt (ctx T) 36 [qba t,qac l,.int .i64 i] zH (qcv 0 1 ((qhh t l i).map qau)) ⟨1,[qd6 0 ((qhh t l i).map qau)]⟩:=by
 obtain⟨e0,e1⟩:=qv3 l;obtain⟨e,he⟩ : ∃e:Nat,qrt l=(e:Int):=Int.eq_ofNat_of_zero_le e0;have hel:e<=l.length:=by omega
 have kcl:=fun H=>k78 hC (L:=l) (by omega) H;have kti:=fun H=>k104 hT l (by omega) H;rw[he]at kti;have knI:=fun H=>k103 hN t i H;have hsl:=fun H=>qn3 (H:=H) (L:=l) (k:=e) hel;obtain⟨M,hM⟩ : ∃M,M=l.drop e:=⟨_,rfl⟩;have hMl:M.length<=900000:=by rw[hM];simp;omega
 have eD:qsh t l i=if 3<=M.countP (alkB t i) then l.eraseIdx (qal (alkB t i) M e).toNat else l:=by unfold qsh;rw[he,Int.toNat_natCast,<- hM]
 rw[<- hM]at hsl;have lM:=fun H=>qn0 (H:=H) (L:=M);have htI:=hat i;have eV:qqn t i=.tup [.agg [.int .i64 (qc4 t i).kind,.int .i64 (qc4 t i).space,.str (qc4 t i).name,qaf (qc4 t i).attrs,.str (qc4 t i).data,.int .i64 (qc4 t i).up,qac (qc4 t i).kids],.bool (isB t i)]:=rfl;rw[eV]at knI;simp only[qba]at knI;have alkE:∀x,alkB t i x=(isB t i && isB t x && (decide ((qc4 t x).space=(qc4 t i).space) && decide ((qc4 t x).name=(qc4 t i).name) && qjp (qc4 t x).attrs (qc4 t i).attrs)):=fun _=>rfl;obtain⟨p,hp⟩ : ∃p,p=alkB t i:=⟨_,rfl⟩;rw[<- hp]at eD alkE;have hnd:qa3 [AV.int .i64 (qc4 t i).kind,.int .i64 (qc4 t i).space,.str (qc4 t i).name,qaf (qc4 t i).attrs,.str (qc4 t i).data,.int .i64 (qc4 t i).up,qac (qc4 t i).kids]=true:=by simp[qa3,qa2]
 generalize isB t i=ok at *;generalize (qc4 t i).kind=n1 at *;generalize (qc4 t i).space=n2 at *;generalize (qc4 t i).name=n3 at *;generalize (qc4 t i).attrs=n4 at *;generalize (qc4 t i).data=n5 at *;generalize (qc4 t i).up=n6 at *;generalize (qc4 t i).kids=n7 at *;clear hp eV e0 e1 he hT hC;refine qa0 (s0:=⟨[0,1,2,3,6,7,8,9,10,11,12,13,14,15,16,29,30,31],[qba t,qac l,.int .i64 i,uD,uD,uD,uD,uD,uD,uD,uD,uD,uD,uD,uD,uD,uD,uD],[],89,⟨0,[[]]⟩⟩) Tryz.func36 rfl rfl rfl ?_;apply qR;simp[zS,qba];refine qry (fun _:Unit=>(⟨[0,1,2,3,6,7,8,9,10,11,12,13,14,15,16,29,30,31],[uD,qac l,.int .i64 i,.ptr 0 0,uD,qcv 1 1 (l.map qau),uD,uD,uD,uD,uD,uD,uD,uD,uD,uD,uD,uD],[],89,⟨2,[qd6 1 (l.map qau)++[(0,.cells [qcf t])]]⟩⟩ : St)) (fun _=>True) (fun _ _=>?rest) fun hE=>?_
 case rest=>
  have g0:∀r,getF 0 (qd6 1 (l.map qau)++r)=getF 0 r:=fun r=>qod (by omega) _ r;have g2:∀r,getF 2 (qd6 1 (l.map qau)++r)=getF 2 r:=fun r=>qod (by omega) _ r;have g3:∀r,getF 3 (qd6 1 (l.map qau)++r)=getF 3 r:=fun r=>qod (by omega) _ r;have own1:qav 1 [(0,0),(1,1),(2,2)]=some 1:=rfl;apply qR;simp[zS,g0,knI];apply qR;simp[zS,kti];apply qR;simp[zS];apply qR;simp[zS,hsl,lM];have fP:∀(f:List (Nat × Blk)) (n:Nat),(∀q,q < 3->getF q f=none)->FitH 0 [(0,0),(1,1),(2,2)] [] ⟨n,[f++(qd6 1 (l.map qau)++[(2,.cells [.int .i64 n1,.int .i64 n2,.str n3,qaf n4,.str n5,.int .i64 n6,qac n7]),(0,.cells [qcf t])])]⟩ ⟨3,[qd6 1 (l.map qau)++[(2,.cells [.int .i64 n1,.int .i64 n2,.str n3,qaf n4,.str n5,.int .i64 n6,qac n7]),(0,.cells [qcf t])]]⟩:=fun f n hf=>by
   have key:∀q,q < 3->∀r,getF q (f++r)=getF q r:=fun q hq r=>qgo f r (hf q hq);refine fitPu (by omega) ?_ ?_ ?_ hnd
   ·simp only[Heap.get,getFs,key 0 (by omega),g0];simp[getF]
   ·intro h;simp only[Heap.get,getFs,key 1 (by omega),qtc h]
   ·simp only[Heap.get,getFs,key 2 (by omega),g2];simp[getF]
  apply qa4;refine qb1 (fun x:Nat × Nat × Int=>(⟨[0,1,2,3,6,7,8,9,10,11,12,13,14,15,16,29,30,31],[uD,uD,.int .i64 i,.ptr 0 0,uD,qcv 1 1 (l.map qau),.ptr 2 0,.bool ok,.int .i64 (e:Int),.int .i64 (x.2.1:Int),.int .i64 x.2.2,uD,uD,uD,uD,qac M,.int .i64 (M.length:Int),.int .i64 (x.1:Int)],[],89,⟨3,[qd6 1 (l.map qau)++[(2,.cells [.int .i64 n1,.int .i64 n2,.str n3,qaf n4,.str n5,.int .i64 n6,qac n7]),(0,.cells [qcf t])]]⟩⟩ : St))
   (fun x=>x.1<=M.length/\M.countP p=x.2.1+(M.drop x.1).countP p/\x.2.1<=x.1/\((x.2.1=0/\x.2.2 = -1/\qal p M e=qal p (M.drop x.1) (e+x.1))\/(0 < x.2.1/\0<=x.2.2/\qal p M e=x.2.2))) (fun x=>M.length - x.1) [(0,0),(1,1),(2,2)] [] (0,0,-1)
   ⟨Nat.zero_le _,by simp,Nat.le_refl _,.inl ⟨rfl,rfl,rfl⟩⟩ ⟨rfl,rfl,rfl,by simp[qax,qap,qav,qeg,qa2,qac],?_⟩ ?_
  ·refine fitPu (by omega) ?_ ?_ ?_ hnd
   ·simp[zG,g0]
   ·intro h;simp[zG,qtc h]
   ·simp[zG]
  rintro⟨j,many,first⟩ ⟨hj,hc,hmj,hx⟩ B hB;simp only at hj hc hmj hx hB ⊢;apply qR;simp[zS];repeat apply wq
  refine qbf rfl (fun h=>?_) fun h=>?_
  ·simp at h;apply qa6;simp;repeat apply wq
   apply qa4;have hix:=atI h;have hd:=List.drop_eq_getElem_cons h;rw[hd,List.countP_cons]at hc;rw[hd]at hx;have hjw:wr .i64 ((j:Int)+1)=some ((j+1:Nat):Int):=qbo (by omega);clear hd;generalize M[j]=x at *;have knX:=fun H=>k103 hN t x H;have eVx:qqn t x=.tup [.agg [.int .i64 (qc4 t x).kind,.int .i64 (qc4 t x).space,.str (qc4 t x).name,qaf (qc4 t x).attrs,.str (qc4 t x).data,.int .i64 (qc4 t x).up,qac (qc4 t x).kids],.bool (isB t x)]:=rfl;rw[eVx]at knX;simp only[qba]at knX;have kAl:=fun H=>k105 hA (L:=(qc4 t x).attrs) (M:=n4) (hat x) htI H;have ax:=alkE x;clear eVx hat knI kti hsl lM eD alkE hM;generalize isB t x=ox at *;generalize (qc4 t x).kind=m1 at *;generalize (qc4 t x).space=m2 at *;generalize (qc4 t x).name=m3 at *;generalize (qc4 t x).attrs=m4 at *;generalize (qc4 t x).data=m5 at *;generalize (qc4 t x).up=m6 at *;generalize (qc4 t x).kids=m7 at *;have hNo:p x=false->∀s',(∃σ Φ,Fit 0 σ Φ s' ((⟨[0,1,2,3,6,7,8,9,10,11,12,13,14,15,16,29,30,31],[uD,uD,.int .i64 i,.ptr 0 0,uD,qcv 1 1 (l.map qau),.ptr 2 0,.bool ok,.int .i64 (e:Int),.int .i64 (many:Int),.int .i64 first,uD,uD,uD,uD,qac M,.int .i64 (M.length:Int),.int .i64 ((j+1:Nat):Int)],[],89,⟨3,[qd6 1 (l.map qau)++[(2,.cells [.int .i64 n1,.int .i64 n2,.str n3,qaf n4,.str n5,.int .i64 n6,qac n7]),(0,.cells [qcf t])]]⟩⟩ : St)))->B s':=fun hp s' hf=>hB s' (j+1,many,first) (by simp only;omega) ⟨by simp only;omega,by rw[hc,hp];simp,by simp only;omega,by
    refine hx.imp (fun h=>⟨h.1,h.2.1,?_⟩) (fun h=>⟨h.1,h.2.1,h.2.2⟩);rw[h.2.2]
    conv=>lhs;unfold qal
    rw[if_neg (by rw[hp];simp),Nat.add_assoc]⟩ hf
   cases ok with
   |false=>
    have hNo:=hNo (by rw[ax];rfl);clear hx hc ax hB hnd
    (repeat' (first
     |with_reducible apply qaa
     |(with_reducible apply rE;simp[zS, *];exact rfl)
     |(with_reducible apply qad;simp only[qab,qa5])
     |apply qah rfl
     |(with_reducible apply qas;simp)))
    all_goals first|(exact hNo _ ⟨[(0,0),(1,1),(2,2)],[],rfl,rfl,rfl,by simp[qax,qap,qav,qeg,qa2,qac],fP [(3,_)] _ (fun q hq=>by simp[getF,qb4 (show 3≠q by omega)])⟩)|(exfalso;omega)
   |true=>cases ox with
    |false=>
     have hNo:=hNo (by rw[ax];rfl);clear hx hc ax hB hnd
     (repeat' (first
      |with_reducible apply qaa
      |(with_reducible apply rE;simp[zS, *];exact rfl)
      |(with_reducible apply qad;simp only[qab,qa5])
      |apply qah rfl
      |(with_reducible apply qas;simp)))
     all_goals first|(exact hNo _ ⟨[(0,0),(1,1),(2,2)],[],rfl,rfl,rfl,by simp[qax,qap,qav,qeg,qa2,qac],fP [(3,_)] _ (fun q hq=>by simp[getF,qb4 (show 3≠q by omega)])⟩)|(exfalso;omega)
    |true=>
     by_cases c1:m2=n2
     case neg=>
      have hNo:=hNo (by rw[ax];simp[c1]);clear hx hc ax hB hnd
      (repeat' (first
       |with_reducible apply qaa
       |(with_reducible apply rE;simp[zS, *];exact rfl)
       |(with_reducible apply qad;simp only[qab,qa5])
       |apply qah rfl
       |(with_reducible apply qas;simp)))
      all_goals first|(exact hNo _ ⟨[(0,0),(1,1),(2,2)],[],rfl,rfl,rfl,by simp[qax,qap,qav,qeg,qa2,qac],fP [(3,_)] _ (fun q hq=>by simp[getF,qb4 (show 3≠q by omega)])⟩)|(exfalso;omega)
     subst c1;by_cases c2:m3=n3
     case neg=>
      have hNo:=hNo (by rw[ax];simp[c2]);clear hx hc ax hB hnd
      (repeat' (first
       |with_reducible apply qaa
       |(with_reducible apply rE;simp[zS, *];exact rfl)
       |(with_reducible apply qad;simp only[qab,qa5])
       |apply qah rfl
       |(with_reducible apply qas;simp)))
      all_goals first|(exact hNo _ ⟨[(0,0),(1,1),(2,2)],[],rfl,rfl,rfl,by simp[qax,qap,qav,qeg,qa2,qac],fP [(3,_)] _ (fun q hq=>by simp[getF,qb4 (show 3≠q by omega)])⟩)|(exfalso;omega)
     subst c2;cases ha:qjp m4 n4 with
     |false=>
      have hNo:=hNo (by rw[ax,ha];simp);rw[ha]at kAl;clear hx hc ax hB hnd ha
      (repeat' (first
       |with_reducible apply qaa
       |(with_reducible apply rE;simp[zS, *];exact rfl)
       |(with_reducible apply qad;simp only[qab,qa5])
       |apply qah rfl
       |(with_reducible apply qas;simp)))
      all_goals first|(exact hNo _ ⟨[(0,0),(1,1),(2,2)],[],rfl,rfl,rfl,by simp[qax,qap,qav,qeg,qa2,qac],fP [(3,_)] _ (fun q hq=>by simp[getF,qb4 (show 3≠q by omega)])⟩)|(exfalso;omega)
     |true=>
      rw[ha]at kAl;have hp:p x=true:=(by rw[ax,ha];simp);have hmw:wr .i64 ((many:Int)+1)=some ((many+1:Nat):Int):=qbo (by omega);have hew:wr .i64 ((e:Int)+(j:Int))=some ((e+j:Nat):Int):=(by rw[show ((e:Int)+(j:Int))=((e+j:Nat):Int) by omega];exact qbs (by omega) (by omega));rw[hp]at hc;simp only[if_true]at hc;rcases hx with⟨h1,rfl,hi⟩|⟨h1,h2,h3⟩
      ·have hYes:=fun s'=>hB s' (j+1,many+1,((e+j:Nat):Int)) (by simp only;omega) ⟨by simp only;omega,by simp only;omega,by simp only;omega,.inr ⟨by simp only;omega,by simp only;omega,by rw[hi];unfold qal;rw[if_pos hp]⟩⟩;simp only at hYes;clear hi hc ax hB hnd ha hp hNo h1;generalize ((many+1:Nat):Int)=m8 at *;generalize ((e+j:Nat):Int)=ej at *
       (repeat' (first
        |with_reducible apply qaa
        |(with_reducible apply rE;simp[zS, *];exact rfl)
        |(with_reducible apply qad;simp only[qab,qa5])
        |apply qah rfl
        |apply qai rfl
        |(with_reducible apply qa6;simp only[qab,qa5])))
       all_goals first|(exact hYes _ ⟨[(0,0),(1,1),(2,2)],[],rfl,rfl,rfl,by simp[qax,qap,qav,qeg,qa2,qac],fP [(3,_)] _ (fun q hq=>by simp[getF,qb4 (show 3≠q by omega)])⟩)|(exfalso;omega)
      ·have hYes:=fun s'=>hB s' (j+1,many+1,first) (by simp only;omega) ⟨by simp only;omega,by simp only;omega,by simp only;omega,.inr ⟨by simp only;omega,h2,h3⟩⟩;simp only at hYes;have h2':¬ first < 0:=by omega
       clear h3 hc ax hB hnd ha hp hNo hew h2;generalize ((many+1:Nat):Int)=m8 at *
       (repeat' (first
        |with_reducible apply qaa
        |(with_reducible apply rE;simp[zS, *];exact rfl)
        |(with_reducible apply qad;simp only[qab,qa5])
        |apply qai rfl
        |(with_reducible apply qa6;simp only[qab,qa5])))
       all_goals first|(exact hYes _ ⟨[(0,0),(1,1),(2,2)],[],rfl,rfl,rfl,by simp[qax,qap,qav,qeg,qa2,qac],fP [(3,_)] _ (fun q hq=>by simp[getF,qb4 (show 3≠q by omega)])⟩)|(exfalso;omega)
  ·simp at h;apply qas;simp;have hjm:j=M.length:=(by omega);rw[hjm,List.drop_length]at hc hx;simp only[List.countP_nil,Nat.add_zero]at hc;by_cases h3:3<=many
   ·have hx:=hx.resolve_left fun h=>(by omega);have hdel:qsh t l i=l.eraseIdx first.toNat:=(by rw[eD,hc,if_pos h3,hx.2.2]);obtain⟨f,hf⟩ : ∃f:Nat,first=(f:Int):=⟨first.toNat,by omega⟩
    have hfl:f < l.length:=(by have:=qpq (p:=p) M e;rw[hM]at this;simp only[List.length_drop]at this;rw[hM]at hx;omega);rw[hf,Int.toNat_natCast,List.eraseIdx_eq_take_drop_succ]at hdel;have ep:qhh t l i=l.take f++l.drop (f+1)++[i]:=(by unfold qhh;rw[hdel]);rw[ep];have hln:l≠[]:=fun h=>(by rw[h]at hfl;simp at hfl);have el:l=l.take f++l[f]::l.drop (f+1):=(by rw[<- List.drop_eq_getElem_cons hfl,List.take_append_drop]);have lA:(l.take f).length=f:=(by simp;omega);obtain⟨A,hA2⟩ : ∃A,A=l.take f:=⟨_,rfl⟩;obtain⟨D,hD2⟩ : ∃D,D=l.drop (f+1):=⟨_,rfl⟩;have lAD:l.length=A.length+D.length+1:=(by rw[hA2,hD2];simp;omega);rw[<- hA2]at lA;rw[<- hA2,<- hD2]at el ⊢;generalize l[f]=c at *;have erow:l.map qau=qbm (A++c::D):=(by rw[el];rfl);have hbase:=c106o (T:=T) A D c (by omega) (i:=f) (j:=f+1) (N:=l.length) lA.symm rfl lAD;have hdelC:CallAt (ctx T) 106 [.slc 1 0 l.length (.rest 1),.int .i64 (f:Int),.int .i64 ((f+1:Nat):Int)] ⟨3,[[(1,.cells (qbm (A++c::D))),(2,.cells [.int .i64 n1,.int .i64 n2,.str n3,qaf n4,.str n5,.int .i64 n6,qac n7]),(0,.cells [qcf t])]]⟩ (.slc 1 0 (A.length+D.length) (.rest 1)) ⟨3,[[(1,.cells (qbm (A++D++[0]))),(2,.cells [.int .i64 n1,.int .i64 n2,.str n3,qaf n4,.str n5,.int .i64 n6,qac n7]),(0,.cells [qcf t])]]⟩:=by
     have:=hbase.framed (σ:=[(1,0)]) (args:=[.slc 1 0 l.length (.rest 1),.int .i64 (f:Int),.int .i64 ((f+1:Nat):Int)]) (H:=⟨3,[[(1,.cells (qbm (A++c::D))),(2,.cells [.int .i64 n1,.int .i64 n2,.str n3,qaf n4,.str n5,.int .i64 n6,qac n7]),(0,.cells [qcf t])]]⟩) (H':=⟨3,[[(1,.cells (qbm (A++D++[0]))),(2,.cells [.int .i64 n1,.int .i64 n2,.str n3,qaf n4,.str n5,.int .i64 n6,qac n7]),(0,.cells [qcf t])]]⟩)
      (.keep1 (b:=1) (by simp[zG]) (qh6 _) rfl) (by simp[qax,qap,qav,qa2]) ⟨by simp,fun _ _=>by simp[Heap.ents],?_⟩ (by simp)
     ·simpa[qmv,qlg,qf3]using this
     ·intro e he;simp only[Heap.ents,List.flatten_cons,List.flatten_nil,List.append_nil,List.mem_cons,List.not_mem_nil,or_false]at he;rcases he with rfl|rfl|rfl
      ·refine .inl ⟨(0,.cells (qbm (A++D++[0]))),by simp[Heap.ents],?_⟩;simp only[qz4,qdb _ (qh6 _)];simp[qlg,qf3]
      ·exact .inr ⟨by simp[Heap.ents],by simp⟩
      ·exact .inr ⟨by simp[Heap.ents],by simp⟩
    have happ:=qtw (P:=PG) (H:=⟨4,[[(3,.cells [.int .i64 i]),(1,.cells (qbm (A++D++[0]))),(2,.cells [.int .i64 n1,.int .i64 n2,.str n3,qaf n4,.str n5,.int .i64 n6,qac n7]),(0,.cells [qcf t])]]⟩) (H':=⟨4,[[(3,.cells [.int .i64 i]),(1,.cells (qbm (A++D++[i]))),(2,.cells [.int .i64 n1,.int .i64 n2,.str n3,qaf n4,.str n5,.int .i64 n6,qac n7]),(0,.cells [qcf t])]]⟩) (elem:=3) (b:=1) (x:=.slc 3 0 1 (.ex 1)) (A:=A++D) (D:=[i]) (Y:=[0]) (Y2:=[]) qmt qxh qvk rfl (by omega) rfl
     (by simp[qb3,readCells,zG,Blk.rd,qf1,qe8,qbm,qau]) (by unfold qde;rw[Nat.ble_eq];simp;omega) (by simp[zG]) rfl (by simp[Heap.ready,qnm,Heap.set,setFs,setF])
    simp only[List.length_append,List.length_cons,List.length_nil,List.append_assoc]at happ;rw[hf];obtain⟨o1,o2⟩:=qk0 (k:=1) hln;rw[o1,o2,erow];have h3':(3:Int)<=(many:Int):=(by omega);have hfw:wr .i64 ((f:Int)+1)=some ((f+1:Nat):Int):=qbo (by omega);clear hc hx hB hM eD kcl kti hsl lM knI hat hbase erow o1 o2 hdel ep hA2 hD2;apply qR;simp[zS,h3'];apply qah rfl;try apply qaa
    refine qam (qbu [⟨106,_,_,_,_,hdelC⟩]) ?_;simp[zS,qd9,hfw];apply qR;simp[zS,happ];apply qa7;simp[zQ,Tryz.f36];have ff:=fun(H:Heap) (h:H.get 1=some (.cells ((A++D++[i]).map qau)))=>qj7 (b:=1) (L:=A++D++[i]) (H:=H) fun _=>h;simp only[(qk0 (k:=1) (L:=A++D++[i]) (by simp)).1]at ff;simp only[List.map_append,List.map_cons,List.map_nil,List.length_append,List.length_cons,List.length_nil,List.append_assoc]at ff;refine ff _ ?_;simp[zG,qau,qbm]
   ·have hno:qsh t l i=l:=(by rw[eD,hc,if_neg h3]);have h3':¬ (3:Int)<=(many:Int):=(by omega);have ep:qhh t l i=l++[i]:=(by unfold qhh;rw[hno]);rw[ep];have hap:=qqk (P:=PG) (elem:=3) (b:=1) (t:=3) (m:=4) (es:=l.map qau) (cs:=[.int .i64 i]) (g:=[(2,.cells [.int .i64 n1,.int .i64 n2,.str n3,qaf n4,.str n5,.int .i64 n6,qac n7]),(0,.cells [qcf t])]) (fs:=[]) qmt qxh qvk rfl (by omega) (by omega) rfl rfl (qg6 l) (by simp;omega) (by omega) (by simp) (by simp);simp only[List.length_map,qfk]at hap;clear hc hx hno hB hM eD kcl kti hsl lM knI hat
    (repeat' (first
     |with_reducible apply qaa
     |(with_reducible apply rE;simp[zS, *];exact rfl)
     |(with_reducible apply qad;simp only[qab,qa5])
     |apply qai rfl
     |(with_reducible apply qa6;simp only[qab,qa5])
     |(with_reducible apply qa7;simp[zQ,Tryz.f36])))
    all_goals first|(skip)|(exfalso;omega)
    all_goals
     try simp[zQ,Tryz.f36]
    have ff:=fun(H:Heap) (h:H.get 4=some (.cells ((l++[i]).map qau)))=>qj7 (b:=4) (L:=l++[i]) (H:=H) fun _=>h;simp only[(qk0 (k:=4) (L:=l++[i]) (by simp)).1]at ff;simp only[List.map_append,List.map_cons,List.map_nil,List.length_append,List.length_cons,List.length_nil]at ff;refine ff _ ?_;simp[zG,qau]
 case _=>
  cases l with
  |nil=>simp only[List.map_nil,qcv,qd6,qhu,List.nil_append]at kcl hE;apply qR;simp[zS,kcl];refine hE _ () trivial ⟨[(0,0)],[],rfl,rfl,rfl,by simp[qax,qap,qav,qa2,qac],?_⟩;refine .same (by simp) (by simp) (by simp) (by simp) (by simp[Heap.ents]) ?_;intro e he;simp[Heap.ents]at he;subst he;exact⟨by simp,by simp[zG],by simp[qji,qax,qa3]⟩
  |cons y r=>
   obtain⟨k1,k2⟩:=qk0 (k:=1) (L:=y::r) (by simp);have kcl:=fun H=>kcl H;have oe:∀H:Heap,qhu H ((y::r).map qau)=H.new (.cells ((y::r).map qau)):=fun H=>(by simp only[List.map_cons,qhu];rw[<- List.map_cons,qfk]);simp only[oe,(qk0 (k:=_) (L:=y::r) (by simp)).1]at kcl;rw[k1,k2]at hE;generalize y::r=L0 at *;apply qR;simp[zS,kcl];refine hE _ () trivial ⟨[(0,0),(1,1)],[],rfl,rfl,rfl,by simp[qax,qap,qav,qa2,qac],?_⟩;refine .same (by simp) (by simp) (by simp) (by simp) (by simp[Heap.ents]) ?_;intro e he;simp[Heap.ents]at he;rcases he with rfl|rfl
   ·exact⟨by simp,by simp[zG],qao (qsi _)⟩
   ·exact⟨by simp,by simp[zG],by simp[qji,qax,qa3]⟩
theorem inj_tli(x y:Tr × List Int × Int) (h:[qba x.1,qac x.2.1,AV.int .i64 x.2.2]=[qba y.1,qac y.2.1,AV.int .i64 y.2.2]):x=y:=by simp only[List.cons.injEq,and_true,AV.int.injEq,true_and]at h;exact Prod.ext (qfg h.1) (Prod.ext (qd2 h.2.1) h.2.2)
def e36:Entry PG:=mkL 36 [[7],[1],[]] (fun x:Tr × List Int × Int=>[qba x.1,qac x.2.1,.int .i64 x.2.2]) (fun x=>x.2.1.length<=900000/\∀y,(qc4 x.1 y).attrs.length<=900) (fun x=>qhh x.1 x.2.1 x.2.2)
 fun x h=>c36 (T:=[e78,e103,e104,e105]) rfl rfl rfl rfl x.1 x.2.1 x.2.2 h.1 h.2
theorem k36(hT:qa9 36 T=some e36.g) {t:Tr} {l:List Int} (i:Int) (hl:l.length<=900000) (hat:∀y,(qc4 t y).attrs.length<=900) {a:AV} {H:Heap} (ha:qcy H [7] a=some (qba t)) :
  qat (ctx T) (.fn 36) [a,qac l,.int .i64 i] H=some (qac (qhh t l i),H):=
 qsq hT inj_tli (t,l,i) ⟨hl,hat⟩ (by simp[qbb,ha,qaj])
theorem zag(t:Tr) (l:List Int) (i:Int):(qsh t l i).Sublist l:=by
 unfold qsh;split
 ·exact List.eraseIdx_sublist _ _
 ·exact List.Sublist.refl _
def qp7(s:SS):SS:=if qds s.tree s.act [97] < 0 then s else ⟨(qf2 [97] s).1.tree,qcj (qf2 [97] s).1.opn (qds s.tree s.act [97]),qd8 (qf2 [97] s).1.act (qds s.tree s.act [97]),(qf2 [97] s).1.mode,(qf2 [97] s).1.back,(qf2 [97] s).1.lex,(qf2 [97] s).1.form,(qf2 [97] s).1.head,(qf2 [97] s).1.foster,(qf2 [97] s).1.skip,(qf2 [97] s).1.inside⟩
theorem find_ge{n d a c e:Nat} {s:SS} (h:BI n d a c e s) {nm:Str} (hf:¬ qds s.tree s.act nm < 0):2<=qds s.tree s.act nm/\qds s.tree s.act nm < (s.tree.length:Int):=by
 rcases qx7 s.tree s.act nm with e|⟨e,_⟩
 ·omega
 ·have:=h.ac _ e;omega
theorem BI.anch{n d a c e:Nat} {s:SS} (h:BI n d a c e s) (he:e<=900):BI (n+64) d a c e (qp7 s):=by
 unfold qp7;split
 ·exact h.mono (by omega) (Nat.le_refl _) (Nat.le_refl _) (Nat.le_refl _) (Nat.le_refl _)
 next hf=>have hr:=(h.run he [97]).1;have h1:=hr.drop (i:=qds s.tree s.act [97]) (by have:=find_ge h hf;omega);exact h1.act (A:=qd8 (qf2 [97] s).1.act (qds s.tree s.act [97])) List.filter_sublist
theorem c232(hc0:qa9 46 T=some e46.g) (hc1:qa9 13 T=some e13.g) (hc2:qa9 143 T=some e143.g) (hc3:qa9 48 T=some e48.g) {s:SS} (ne:s.tree≠[])  (h:BI 60000 1000000 850 900 900 s):SC T 232 [] s (.tup []) (qp7 s):=by
 have kc1:=@k13 T hc1;have kc2:=@k143 T hc2;have kc3:=@k48 T hc3;have g0:=@vg0;have v0:=@vset;have gk:=@vgk;have al:=h.al;have kF:=fun n k f (k0:0 < k) (hf:getF k f=none)=>q46 hc0 (thS (n:=n) k0 ne hf) (a1:=qac s.act) (L:=s.act) (qaj (by simp[okV,qa2])) [97] (by omega);have kR:=fun n k fr=>@kc1 s ne [97] (h.mono (by omega) (Nat.le_refl _) (Nat.le_refl _) (Nat.le_refl _) (Nat.le_refl _)) (by decide) n k fr;have hr:=(h.run (by omega) [97]).1;have nr:=hr.ne;have ol2:=hr.ol;have al2:=hr.al;have n9:=(h.anch (by omega)).ne;have e:qp7 s=if qds s.tree s.act [97] < 0 then s else ⟨(qf2 [97] s).1.tree,qcj (qf2 [97] s).1.opn (qds s.tree s.act [97]),qd8 (qf2 [97] s).1.act (qds s.tree s.act [97]),(qf2 [97] s).1.mode,(qf2 [97] s).1.back,(qf2 [97] s).1.lex,(qf2 [97] s).1.form,(qf2 [97] s).1.head,(qf2 [97] s).1.foster,(qf2 [97] s).1.skip,(qf2 [97] s).1.inside⟩:=rfl;rw[e]at n9 ⊢;clear e;have kD:=fun H=>kc2 (L:=(qf2 [97] s).1.opn) (by omega) (qds s.tree s.act [97]) H;have kA:=fun H=>kc3 (L:=(qf2 [97] s).1.act) (by omega) (qds s.tree s.act [97]) H;clear hr ol2 al2 h al kc1 kc2 kc3;generalize (qf2 [97] s).2=b at *;generalize (qf2 [97] s).1=r at *;generalize qds s.tree s.act [97]=i at *;by_cases hi:i < 0
 ·rw[if_pos hi];clear n9;have hi2:¬ 0<=i:=by omega
  refine qa0 (s0:=⟨[0,2],[.ptr 0 0,uD],[],34,⟨2,[]::[VS 1 s]⟩⟩) Tryz.func232 rfl rfl rfl ?_
  (repeat' (first
   |with_reducible apply qaa
   |(with_reducible apply rE;simp[zS, *,SS.post];exact rfl)
   |(with_reducible apply qad;simp only[qab,qa5])
   |(refine qay mixed qb6 (by decide +kernel) (by decide +kernel) rfl ?_;apply qh0;simp[zS,zW,qb9,qbt,qaz,Heap.lay,qb8, *,SS.post];exact rfl)
   |(with_reducible apply qbc;refine⟨by repeat first|exact qdi|refine qdj (by decide +kernel) ?_,?_⟩;simp only[qab,qa5,allPend,Heap.lay,qb8])
   |apply qai rfl
   |(with_reducible apply qa6;simp only[qab,qa5])))
  all_goals first|(((try simp[zQ,Tryz.f232]);exact qbz rfl rfl rfl (by omega) ne (by simp[getF]) (by simp[getF])))|(exfalso;omega)
 ·rw[if_neg hi];clear n9;have hi2:0<=i:=by omega
  generalize qcj r.opn i=O1 at *;generalize qd8 r.act i=A1 at *;refine qa0 (s0:=⟨[0,2],[.ptr 0 0,uD],[],34,⟨2,[]::[VS 1 s]⟩⟩) Tryz.func232 rfl rfl rfl ?_
  (repeat' (first
   |with_reducible apply qaa
   |(with_reducible apply rE;simp[zS, *,SS.post];exact rfl)
   |(with_reducible apply qad;simp only[qab,qa5])
   |(refine qay mixed qb6 (by decide +kernel) (by decide +kernel) rfl ?_;apply qh0;simp[zS,zW,qb9,qbt,qaz,Heap.lay,qb8, *,SS.post];exact rfl)
   |(with_reducible apply qbc;refine⟨by repeat first|exact qdi|refine qdj (by decide +kernel) ?_,?_⟩;simp only[qab,qa5,allPend,Heap.lay,qb8])
   |(apply qah rfl)))
  all_goals first|(((try simp[zQ,Tryz.f232]);exact qbz rfl rfl rfl (by omega) nr (by simp[getF]) (by simp[getF])))|(exfalso;omega)
def e232:Entry PG:=mkS 232 [] (fun z:Unit=>[]) (fun z s=>(BI 60000 1000000 850 900 900 s)) (fun z s=>.tup []) (fun z s=>qp7 s) fun z s ne h=>⟨c232 (T:=[e46,e13,e143,e48]) rfl rfl rfl rfl ne  h,by simp[qa3,qa2],by simp[qa2,qa3],(BI.anch h (by omega)).ne⟩
theorem k232(hT:qa9 232 T=some e232.g) {s:SS} (ne:s.tree≠[])  (h:BI 60000 1000000 850 900 900 s) {n k:Nat} {fr:List (Nat × Blk)} (k0:0 < k) (kn:k < n) (of:qga k fr):qat (ctx T) (.fn 232) [.ptr 0 0] ⟨n,[fr,VS k s]⟩=some (.tup [],⟨n+1,[fr,VS n (qp7 s)]⟩):=
 qct hT inj_165 () ne h (by simp[qa3,qa2]) (by simp[qbb,qaj]) k0 kn of
def qdf(s:SS) (nm:Str) (L:List At1):SS:=elS (qci s) 0 nm L
theorem BI.inl{n d a c e:Nat} {s:SS} (h:BI n d a c e s) {nm:Str} {L:List At1} (hn:nm.length<=40) (hL:L.length<=a):BI (n+e+1) d a (c+1) e (qdf s nm L):=h.recon.elS 0 hn hL
def slM(m:Int):Int:=if m=7\/m=8\/m=10\/m=11\/m=12 then 14 else 13
def slS(s:SS) (nm:Str) (L:List At1):SS:=⟨(qdf s nm L).tree,(qdf s nm L).opn,(qdf s nm L).act,slM (qdf s nm L).mode,(qdf s nm L).back,(qdf s nm L).lex,(qdf s nm L).form,(qdf s nm L).head,(qdf s nm L).foster,(qdf s nm L).skip,(qdf s nm L).inside⟩
theorem c167(hc0:qa9 206 T=some e206g.g) {s:SS} {t:Tk} (ne:s.tree≠[])  (h:BI 60000 1000000 850 900 900 s) (ha:t.attrs.length<=14):TC T 167 [] ⟨s,t⟩ (.tup []) ⟨slS s t.name t.attrs,t⟩:=by
 have kc0:=@k206g T hc0;have g0:=@vg0;have v0:=@vset;obtain⟨kd,nm,L,sf,dt⟩:=t;simp only at ha;have hr:=h.recon;have kI:=fun n k tb fr=>@kc0 s ⟨kd,nm,L,sf,dt⟩ ne (h.rok (by omega) (by omega) (by omega)) (hr.sok (by omega) (by omega)) h.fo (by simp only;omega) n k tb fr;have ei:elS (qci s) 0 (Tk.mk kd nm L sf dt).name (Tk.mk kd nm L sf dt).attrs=qdf s nm L:=rfl;rw[ei]at kI;have nI:(qdf s nm L).tree≠[]:=qbi _ _ _ _;have e:slS s nm L=⟨(qdf s nm L).tree,(qdf s nm L).opn,(qdf s nm L).act,slM (qdf s nm L).mode,(qdf s nm L).back,(qdf s nm L).lex,(qdf s nm L).form,(qdf s nm L).head,(qdf s nm L).foster,(qdf s nm L).skip,(qdf s nm L).inside⟩:=rfl;simp only[Tk.cs]at kI;simp only;rw[e];clear e ei kc0 hr h ha;generalize qdf s nm L=s1 at *;have em:slM s1.mode=if s1.mode=7\/s1.mode=8\/s1.mode=10\/s1.mode=11\/s1.mode=12 then 14 else 13:=rfl;rw[em];clear em;all_goals
  (try simp only[Tk.cs]at *)
  refine qa0 (s0:=⟨[0,1,10,14],[.ptr 0 0,.ptr 1 0,uD,uD],[],23,⟨3,[]::[_]⟩⟩) Tryz.func167 rfl rfl rfl ?_;apply qcg;try simp only[Tk.cs]
  (repeat' (first
   |with_reducible apply qaa
   |with_reducible apply qa4
   |(with_reducible apply rE;simp[zS, *,SS.post];exact rfl)
   |(with_reducible apply qad;simp only[qab,qa5])
   |(refine qbf rfl (fun hc=>?_) (fun hc=>?_)<;>(have hd:=hc;(try simp at hd);(try subst hd)))
   |(with_reducible apply qa6;simp only[qab,qa5])))
  all_goals first|(((try simp[zQ,Tryz.f167]);exact qbe rfl (by first|rfl|(simp[*];done)|(simp_all;done)) (by simp[qa2,qa3]) (by omega) nI (by simp[getF]) (by simp[getF]) (by first|(simp[getF,Tk.cs];done)|(simp[getF,Tk.cs, *];done))))|(exfalso;omega)
def e167:Entry PG:=mkT 167 [] (fun z:Unit=>[]) (fun z x=>(BI 60000 1000000 850 900 900 x.s)/\(x.t.attrs.length<=14)) (fun z x=>.tup []) (fun z x=>⟨slS x.s x.t.name x.t.attrs,x.t⟩) fun z x ne h=>⟨c167 (T:=[e206g]) rfl ne  h.1 h.2,by simp[qa3,qa2],by simp[qa2,qa3],qbi _ _ _ _⟩
theorem k167(hT:qa9 167 T=some e167.g) {s:SS} {t:Tk} (ne:s.tree≠[])  (h:BI 60000 1000000 850 900 900 s) (ha:t.attrs.length<=14) {n k tb:Nat} {fr:List (Nat × Blk)} (d:dT n k tb) (of:qg9 k tb fr):qat (ctx T) (.fn 167) [.ptr 0 0,.ptr tb 0] ⟨n,[(tb,.cells t.cs)::fr,VS k s]⟩=some (.tup [],⟨n+1,[(tb,.cells (Tk.cs (t)))::fr,VS n (slS s t.name t.attrs)]⟩):=
 qg3 (x:=⟨s,t⟩) (f1:=[]) hT inj_165 () ne ⟨h,ha⟩ (by simp[qa3,qa2]) (by simp[qbb,qaj]) d (by simp) of
def alE(s:SS) (t:Tk) (sp:Int):SS:=elS (qci s) sp (qru t sp).name (qru t sp).attrs
def alS(s:SS) (t:Tk) (sp:Int):SS:=if t.self=true then { alE s t sp with opn:=(alE s t sp).opn.dropLast } else alE s t sp
theorem BI.ale{n d a c e:Nat} {s:SS} (h:BI n d a c e s) {t:Tk} (sp:Int) (hn:t.name.length<=40) (hL:t.attrs.length<=a):BI (n+e+1) d a (c+1) e (alE s t sp):=h.recon.elS sp (adjT_nm sp hn) (by rw[(qxj t sp).1];exact hL)
theorem qku{n d a c e:Nat} {s:SS} (h:BI n d a c e s) (hl:2<=s.opn.length):BI n d a c e { s with opn:=s.opn.dropLast }:=by refine h.pre ?_;rw[List.dropLast_eq_take];exact qqi _ (by omega)
theorem qn8{n d a c e:Nat} {s:SS} (h:BI n d a c e s) (sp:Int) (nm:Str) (L:List At1):2<=(elS s sp nm L).opn.length:=by have:=List.length_pos_iff.2 h.on;rw[elS_open,List.length_append];simp;omega
theorem BI.als{n d a c e:Nat} {s:SS} (h:BI n d a c e s) {t:Tk} (sp:Int) (hn:t.name.length<=40) (hL:t.attrs.length<=a):BI (n+e+1) d a (c+1) e (alS s t sp):=by
 have h1:=h.ale (t:=t) sp hn hL;unfold alS;split
 ·exact qku h1 (qn8 h.recon _ _ _)
 ·exact h1
theorem c168(hc0:qa9 39 T=some e39.g) (hc1:qa9 207 T=some e207.g) (hc2:qa9 53 T=some e53.g) (hc3:qa9 165 T=some e165.g) {s:SS} {t:Tk} (ne:s.tree≠[]) (sp:Int) (h:BI 60000 1000000 850 800 800 s) (ha:t.attrs.length<=14) (hn:t.name.length<=40) (hs:sp=1\/sp=2):TC T 168 [.int .i64 sp] ⟨s,t⟩ (.tup []) ⟨alS s t sp,t⟩:=by
 have kc0:=@k39 T hc0;have kc1:=@k207 T hc1;have kc2:=@k53 T hc2;have kc3:=@k165 T hc3;have g0:=@vg0;have v0:=@vset;obtain⟨kd,nm,L,sf,dt⟩:=t;simp only at ha hn;have hr:=h.recon;have hrl:=hr.ol;have kR:=fun n k fr=>@kc0 s ne (h.rok (by omega) (by omega) (by omega)) n k fr;have kA:=fun H=>kc1 ⟨kd,nm,L,sf,dt⟩ sp hs (by simp only;omega) H;have kE:=fun n k fr=>@kc2 (qci s) hr.ne (qru ⟨kd,nm,L,sf,dt⟩ sp) sp hr.fo (hr.sok (by omega) (by omega)) (by rw[(qxj _ sp).1];simp only;omega) n k fr;have ea:elS (qci s) sp (qru ⟨kd,nm,L,sf,dt⟩ sp).name (qru ⟨kd,nm,L,sf,dt⟩ sp).attrs=alE s ⟨kd,nm,L,sf,dt⟩ sp:=rfl;rw[ea]at kE;have hA:=h.ale (t:=⟨kd,nm,L,sf,dt⟩) sp hn (by simp only;omega);have nA:=hA.ne;have hAl:=hA.ol;have kS:=fun n k fr=>@kc3 (alE s ⟨kd,nm,L,sf,dt⟩ sp) nA hA.on (by omega) n k fr;have n9:=(h.als (t:=⟨kd,nm,L,sf,dt⟩) sp hn (by simp only;omega)).ne;have nr:=hr.ne;have e:alS s ⟨kd,nm,L,sf,dt⟩ sp=if sf=true then { alE s ⟨kd,nm,L,sf,dt⟩ sp with opn:=(alE s ⟨kd,nm,L,sf,dt⟩ sp).opn.dropLast } else alE s ⟨kd,nm,L,sf,dt⟩ sp:=rfl;have et:∃t2,qru ⟨kd,nm,L,sf,dt⟩ sp=t2:=⟨_,rfl⟩;obtain⟨t2,et⟩:=et;rw[et]at kA kE;rw[e]at n9 ⊢;clear e ea et kc0 kc1 kc2 kc3 h hr hrl hA hAl ha hn hs;simp only[qer,Tk.cs]at kA kE;generalize alE s ⟨kd,nm,L,sf,dt⟩ sp=s1 at *;generalize s1.opn.dropLast=O1 at *;generalize qci s=s2 at *;generalize t2.kind=k2 at *;generalize t2.name=nm2 at *;generalize t2.attrs=L2 at *;generalize t2.self=sf2 at *;generalize t2.data=dt2 at *;cases sf;all_goals simp only[Bool.false_eq_true,if_true,if_false]at n9 ⊢
 all_goals
  (try simp only[Tk.cs]at *)
  refine qa0 (s0:=⟨[0,1,2],[.ptr 0 0,.ptr 1 0,.int .i64 sp],[],22,⟨3,[]::[_]⟩⟩) Tryz.func168 rfl rfl rfl ?_;apply qcg;try simp only[Tk.cs]
  (repeat' (first
   |with_reducible apply qaa
   |(with_reducible apply rE;simp[zS, *,SS.post];exact rfl)
   |(with_reducible apply qad;simp only[qab,qa5])
   |apply qah rfl
   |apply qai rfl
   |(with_reducible apply qa6;simp only[qab,qa5])))
  all_goals first|(((try simp[zQ,Tryz.f168]);exact qbe rfl (by first|rfl|(simp[*];done)) (by simp[qa2,qa3]) (by omega) n9 (by simp[getF]) (by simp[getF]) (by first|(simp[getF,Tk.cs];done)|(simp[getF,Tk.cs, *];done))))|(exfalso;omega)
def e168:Entry PG:=mkT 168 [[]] (fun z:Int=>[.int .i64 z]) (fun z x=>(BI 60000 1000000 850 800 800 x.s)/\(x.t.attrs.length<=14)/\(x.t.name.length<=40)/\(z=1\/z=2)) (fun z x=>.tup []) (fun z x=>⟨alS x.s x.t z,x.t⟩) fun z x ne h=>⟨c168 (T:=[e39,e207,e53,e165]) rfl rfl rfl rfl ne z h.1 h.2.1 h.2.2.1 h.2.2.2,by simp[qa3,qa2],by simp[qa2,qa3],(BI.als h.1 z h.2.2.1 (by have:=h.2.1;omega)).ne⟩
theorem k168(hT:qa9 168 T=some e168.g) {s:SS} {t:Tk} (ne:s.tree≠[]) (sp:Int) (h:BI 60000 1000000 850 800 800 s) (ha:t.attrs.length<=14) (hn:t.name.length<=40) (hs:sp=1\/sp=2) {n k tb:Nat} {fr:List (Nat × Blk)} (d:dT n k tb) (of:qg9 k tb fr):qat (ctx T) (.fn 168) [.ptr 0 0,.ptr tb 0,.int .i64 sp] ⟨n,[(tb,.cells t.cs)::fr,VS k s]⟩=some (.tup [],⟨n+1,[(tb,.cells (Tk.cs (t)))::fr,VS n (alS s t sp)]⟩):=
 qg3 (x:=⟨s,t⟩) (f1:=[]) hT inj_162 (sp) ne ⟨h,ha,hn,hs⟩ (by simp[qa3,qa2]) (by simp[qbb,qaj]) d (by simp) of
def nobS(s:SS):SS:=if qgb (qci s).tree (qci s).opn [110,111,98,114] 0=true then (qf2 [110,111,98,114] (qci s)).1 else qci s
def frP(s:SS) (nm:Str):SS:=if nm=[97] then qp7 s else if nm=[110,111,98,114] then nobS s else s
def frS(s:SS) (nm:Str) (L:List At1):SS:={ qdf (frP s nm) nm L with act:=qhh (qdf (frP s nm) nm L).tree (qdf (frP s nm) nm L).act ((qci (frP s nm)).tree.length:Int) }
theorem BI.frp{n d a c e:Nat} {s:SS} (h:BI n d a c e s) (he:e<=900) (nm:Str):BI (n+e+64) d a c e (frP s nm):=by
 unfold frP;split
 ·exact(h.anch he).mono (by omega) (Nat.le_refl _) (Nat.le_refl _) (Nat.le_refl _) (Nat.le_refl _)
 split
 ·unfold nobS;split
  ·exact((h.recon).run he [110,111,98,114]).1
  ·exact h.recon.mono (by omega) (Nat.le_refl _) (Nat.le_refl _) (Nat.le_refl _) (Nat.le_refl _)
 ·exact h.mono (by omega) (Nat.le_refl _) (Nat.le_refl _) (Nat.le_refl _) (Nat.le_refl _)
theorem BI.push{n d a c e:Nat} {s:SS} (h:BI n d a c e s) {nm:Str} {L:List At1} (hn:nm.length<=40) (hL:L.length<=a):BI (n+e+1) d a (c+1) (e+1) { qdf s nm L with act:=qhh (qdf s nm L).tree (qdf s nm L).act ((qci s).tree.length:Int) }:=by
 have hr:=h.recon;have hi:=h.inl hn hL;have l1:(qdf s nm L).tree.length=(qci s).tree.length+1:=qqo _ _ _;have ea:(qdf s nm L).act=(qci s).act:=rfl;have eo:(qdf s nm L).opn=(qci s).opn++[((qci s).tree.length:Int)]:=rfl;have sub:(qsh (qdf s nm L).tree (qdf s nm L).act ((qci s).tree.length:Int)).Sublist (qdf s nm L).act:=zag _ _ _;obtain⟨M,hM,hcv⟩:=hi.cv;refine⟨hi.tb,hi.fo,hi.hd,hi.rg,hi.nd,fun i hx=>?_,?_,?_,hi.fm,⟨M,hM,fun x hx=>?_⟩,hi.h1⟩
 ·show i = -1\/(2<=i/\i < ((qdf s nm L).tree.length:Int));unfold qhh at hx;rcases List.mem_append.1 hx with hx|hx
  ·exact hi.ac i (sub.subset hx)
  ·simp at hx;have:=hr.h1.1;right;omega
 ·show NDm (qhh _ _ _);unfold qhh NDm;rw[List.pairwise_append];refine⟨List.Pairwise.sublist sub hi.an,by simp,fun x hx y hy exy=>?_⟩;simp at hy;have hx2:=sub.subset hx;rw[ea]at hx2;have:=hr.ac x hx2;omega
 ·show (qhh _ _ _).length<=e+1;unfold qhh;rw[List.length_append];have:=sub.length_le;have:=hi.al;simp;omega
 ·rcases hx with hx|⟨hx,hx1⟩
  ·exact hcv x (.inl hx)
  ·have hx:x∈qhh (qdf s nm L).tree (qdf s nm L).act ((qci s).tree.length:Int):=hx;unfold qhh at hx;rcases List.mem_append.1 hx with hx|hx
   ·exact hcv x (.inr ⟨sub.subset hx,hx1⟩)
   ·simp at hx;refine hcv x (.inl ?_);rw[eo,hx];simp
theorem BI.fr{n d a c e:Nat} {s:SS} (h:BI n d a c e s) (he:e<=900) {nm:Str} {L:List At1} (hn:nm.length<=40) (hL:L.length<=a):BI (n+e+64+e+1) d a (c+1) (e+1) (frS s nm L):=(h.frp he nm).push hn hL
theorem c221(hc0:qa9 232 T=some e232.g) (hc1:qa9 39 T=some e39.g) (hc2:qa9 145 T=some e145.g) (hc3:qa9 13 T=some e13.g) (hc4:qa9 206 T=some e206g.g) (hc5:qa9 36 T=some e36.g) {s:SS} {t:Tk} (ne:s.tree≠[])  (h:BI 50000 1000000 850 800 800 s) (ha:t.attrs.length<=14) (hn:t.name.length<=40):TC T 221 [] ⟨s,t⟩ (.tup []) ⟨frS s t.name t.attrs,t⟩:=by
 have kc0:=@k232 T hc0;have kc1:=@k39 T hc1;have kc2:=@k145 T hc2;have kc3:=@k13 T hc3;have kc4:=@k206g T hc4;have g0:=@vg0;have v0:=@vset;obtain⟨kd,nm,L,sf,dt⟩:=t;simp only at ha hn;have gk:=@vgk;have hr:=h.recon;have hrl:=hr.ol;have nr:=hr.ne;have kA:=fun n k fr=>@kc0 s ne (h.mono (by omega) (Nat.le_refl _) (Nat.le_refl _) (by omega) (by omega)) n k fr;have kR:=fun n k fr=>@kc1 s ne (h.rok (by omega) (by omega) (by omega)) n k fr;have kH:=fun n k fr=>@kc2 (qci s) nr [110,111,98,114] 0 trivial (by decide) hr.tb.nm (by omega) n k fr;have kU:=fun n k fr=>@kc3 (qci s) nr [110,111,98,114] (hr.mono (by omega) (Nat.le_refl _) (Nat.le_refl _) (by omega) (by omega)) (by decide) n k fr;have hp:=h.frp (by omega) nm;have np:=hp.ne;have hpr:=hp.recon;have kI:=fun n k tb fr=>@kc4 (frP s nm) ⟨kd,nm,L,sf,dt⟩ np (hp.rok (by omega) (by omega) (by omega)) (hpr.sok (by omega) (by omega)) hp.fo (by simp only;omega) n k tb fr;have ei:elS (qci (frP s nm)) 0 (Tk.mk kd nm L sf dt).name (Tk.mk kd nm L sf dt).attrs=qdf (frP s nm) nm L:=rfl;rw[ei]at kI;have hq:=hp.inl (nm:=nm) (L:=L) hn (by omega);have nq:=hq.ne;have hqa:=hq.al;have hat:∀y,(qc4 (qdf (frP s nm) nm L).tree y).attrs.length<=900:=fun y=>by
  unfold qc4;split
  next hb=>obtain⟨u,e,hu⟩:=isN hb;rw[e];have:=hq.tb.al u hu;omega
  ·simp
 have kP:=fun n k f (k0:0 < k) (hf:getF k f=none)=>k36 hc5 (l:=(qdf (frP s nm) nm L).act) ((qci (frP s nm)).tree.length:Int) (by omega) hat (thS (n:=n) (s:=qdf (frP s nm) nm L) k0 nq hf);have n9:=(h.fr (by omega) (nm:=nm) (L:=L) hn (by omega)).ne;have e:frS s nm L=⟨(qdf (frP s nm) nm L).tree,(qdf (frP s nm) nm L).opn,qhh (qdf (frP s nm) nm L).tree (qdf (frP s nm) nm L).act ((qci (frP s nm)).tree.length:Int),(qdf (frP s nm) nm L).mode,(qdf (frP s nm) nm L).back,(qdf (frP s nm) nm L).lex,(qdf (frP s nm) nm L).form,(qdf (frP s nm) nm L).head,(qdf (frP s nm) nm L).foster,(qdf (frP s nm) nm L).skip,(qdf (frP s nm) nm L).inside⟩:=rfl;have ep:frP s nm=if nm=[97] then qp7 s else if nm=[110,111,98,114] then (if qgb (qci s).tree (qci s).opn [110,111,98,114] 0=true then (qf2 [110,111,98,114] (qci s)).1 else qci s) else s:=rfl;have nan:(qp7 s).tree≠[]:=(h.anch (by omega)).ne;have nru:(qf2 [110,111,98,114] (qci s)).1.tree≠[]:=((hr).run (by omega) [110,111,98,114]).1.ne;simp only[Tk.cs]at kI;simp only;rw[e]at n9 ⊢;clear e ei kc0 kc1 kc2 kc3 kc4 hr hrl hp hpr hq hqa hat h ha hn hc5;generalize qhh (qdf (frP s nm) nm L).tree (qdf (frP s nm) nm L).act ((qci (frP s nm)).tree.length:Int)=A9 at *;generalize ((qci (frP s nm)).tree.length:Int)=i9 at *;generalize qdf (frP s nm) nm L=s1 at *;generalize qp7 s=s2 at *;generalize (qf2 [110,111,98,114] (qci s)).2=b3 at *;generalize (qf2 [110,111,98,114] (qci s)).1=s3 at *;generalize qgb (qci s).tree (qci s).opn [110,111,98,114] 0=b4 at *;generalize qci s=s4 at *;generalize frP s nm=s5 at *;by_cases h1:nm=[97]
 case pos=>
  rw[if_pos h1]at ep;subst ep h1;refine qa0 (s0:=⟨[0,1,4,8],[.ptr 0 0,.ptr 1 0,uD,uD],[],37,⟨3,[]::[_]⟩⟩) Tryz.func221 rfl rfl rfl ?_;apply qcg;simp only[Tk.cs]
  (repeat' (first
   |with_reducible apply qaa
   |with_reducible apply qa4
   |(with_reducible apply rE;simp[zS, *,SS.post];exact rfl)
   |(with_reducible apply qad;simp only[qab,qa5])
   |(refine qay mixed qb6 (by decide +kernel) (by decide +kernel) rfl ?_;apply qh0;simp[zS,zW,qb9,qbt,qaz,Heap.lay,qb8, *,SS.post];exact rfl)
   |(with_reducible apply qbc;refine⟨by repeat first|exact qdi|refine qdj (by decide +kernel) ?_,?_⟩;simp only[qab,qa5,allPend,Heap.lay,qb8])
   |(apply qah rfl)))
  all_goals first|(((try simp[zQ,Tryz.f221]);exact qbe rfl (by first|rfl|(simp[*];done)) (by simp[qa2,qa3]) (by omega) n9 (by simp[getF]) (by simp[getF]) (by first|(simp[getF,Tk.cs];done)|(simp[getF,Tk.cs, *];done))))|(exfalso;omega)
 case neg=>
  rw[if_neg h1]at ep;by_cases h2:nm=[110,111,98,114]
  case pos=>
   rw[if_pos h2]at ep;cases b4 with
   |true=>
    rw[if_pos rfl]at ep;subst ep h2;refine qa0 (s0:=⟨[0,1,4,8],[.ptr 0 0,.ptr 1 0,uD,uD],[],37,⟨3,[]::[_]⟩⟩) Tryz.func221 rfl rfl rfl ?_;apply qcg;simp only[Tk.cs]
    (repeat' (first
     |with_reducible apply qaa
     |with_reducible apply qa4
     |(with_reducible apply rE;simp[zS, *,SS.post];exact rfl)
     |(with_reducible apply qad;simp only[qab,qa5])
     |(refine qay mixed qb6 (by decide +kernel) (by decide +kernel) rfl ?_;apply qh0;simp[zS,zW,qb9,qbt,qaz,Heap.lay,qb8, *,SS.post];exact rfl)
     |(with_reducible apply qbc;refine⟨by repeat first|exact qdi|refine qdj (by decide +kernel) ?_,?_⟩;simp only[qab,qa5,allPend,Heap.lay,qb8])
     |apply qah rfl
     |(apply qai rfl)))
    all_goals first|(((try simp[zQ,Tryz.f221]);exact qbe rfl (by first|rfl|(simp[*];done)) (by simp[qa2,qa3]) (by omega) n9 (by simp[getF]) (by simp[getF]) (by first|(simp[getF,Tk.cs];done)|(simp[getF,Tk.cs, *];done))))|(exfalso;omega)
   |false=>
    rw[if_neg (by simp)]at ep;subst ep h2;refine qa0 (s0:=⟨[0,1,4,8],[.ptr 0 0,.ptr 1 0,uD,uD],[],37,⟨3,[]::[_]⟩⟩) Tryz.func221 rfl rfl rfl ?_;apply qcg;simp only[Tk.cs]
    (repeat' (first
     |with_reducible apply qaa
     |with_reducible apply qa4
     |(with_reducible apply rE;simp[zS, *,SS.post];exact rfl)
     |(with_reducible apply qad;simp only[qab,qa5])
     |(refine qay mixed qb6 (by decide +kernel) (by decide +kernel) rfl ?_;apply qh0;simp[zS,zW,qb9,qbt,qaz,Heap.lay,qb8, *,SS.post];exact rfl)
     |(with_reducible apply qbc;refine⟨by repeat first|exact qdi|refine qdj (by decide +kernel) ?_,?_⟩;simp only[qab,qa5,allPend,Heap.lay,qb8])
     |apply qah rfl
     |apply qai rfl
     |(with_reducible apply qa6;simp only[qab,qa5])))
    all_goals first|(((try simp[zQ,Tryz.f221]);exact qbe rfl (by first|rfl|(simp[*];done)) (by simp[qa2,qa3]) (by omega) n9 (by simp[getF]) (by simp[getF]) (by first|(simp[getF,Tk.cs];done)|(simp[getF,Tk.cs, *];done))))|(exfalso;omega)
  case neg=>
   rw[if_neg h2]at ep;subst ep;refine qa0 (s0:=⟨[0,1,4,8],[.ptr 0 0,.ptr 1 0,uD,uD],[],37,⟨3,[]::[_]⟩⟩) Tryz.func221 rfl rfl rfl ?_;apply qcg;simp only[Tk.cs]
   (repeat' (first
    |with_reducible apply qaa
    |with_reducible apply qa4
    |(with_reducible apply rE;simp[zS, *,SS.post];exact rfl)
    |(with_reducible apply qad;simp only[qab,qa5])
    |(refine qay mixed qb6 (by decide +kernel) (by decide +kernel) rfl ?_;apply qh0;simp[zS,zW,qb9,qbt,qaz,Heap.lay,qb8, *,SS.post];exact rfl)
    |(with_reducible apply qbc;refine⟨by repeat first|exact qdi|refine qdj (by decide +kernel) ?_,?_⟩;simp only[qab,qa5,allPend,Heap.lay,qb8])
    |apply qai rfl
    |(with_reducible apply qa6;simp only[qab,qa5])))
   all_goals first|(((try simp[zQ,Tryz.f221]);exact qbe rfl (by first|rfl|(simp[*];done)) (by simp[qa2,qa3]) (by omega) n9 (by simp[getF]) (by simp[getF]) (by first|(simp[getF,Tk.cs];done)|(simp[getF,Tk.cs, *];done))))|(exfalso;omega)
 all_goals
  (try simp only[Tk.cs]at *)
  refine qa0 (s0:=⟨[0,1,4,8],[.ptr 0 0,.ptr 1 0,uD,uD],[],37,⟨3,[]::[_]⟩⟩) Tryz.func221 rfl rfl rfl ?_;apply qcg;try simp only[Tk.cs]
  skip
def e221:Entry PG:=mkT 221 [] (fun z:Unit=>[]) (fun z x=>(BI 50000 1000000 850 800 800 x.s)/\(x.t.attrs.length<=14)/\(x.t.name.length<=40)) (fun z x=>.tup []) (fun z x=>⟨frS x.s x.t.name x.t.attrs,x.t⟩) fun z x ne h=>⟨c221 (T:=[e232,e39,e145,e13,e206g,e36]) rfl rfl rfl rfl rfl rfl ne  h.1 h.2.1 h.2.2,by simp[qa3,qa2],by simp[qa2,qa3],(BI.fr h.1 (by omega) h.2.2 (by have:=h.2.1;omega)).ne⟩
theorem k221(hT:qa9 221 T=some e221.g) {s:SS} {t:Tk} (ne:s.tree≠[])  (h:BI 50000 1000000 850 800 800 s) (ha:t.attrs.length<=14) (hn:t.name.length<=40) {n k tb:Nat} {fr:List (Nat × Blk)} (d:dT n k tb) (of:qg9 k tb fr):qat (ctx T) (.fn 221) [.ptr 0 0,.ptr tb 0] ⟨n,[(tb,.cells t.cs)::fr,VS k s]⟩=some (.tup [],⟨n+1,[(tb,.cells (Tk.cs (t)))::fr,VS n (frS s t.name t.attrs)]⟩):=
 qg3 (x:=⟨s,t⟩) (f1:=[]) hT inj_165 () ne ⟨h,ha,hn⟩ (by simp[qa3,qa2]) (by simp[qbb,qaj]) d (by simp) of
set_option maxHeartbeats 4000000
abbrev nothW:Str:=[102,114,97,109,101,32,102,114,97,109,101,115,101,116,32,104,101,97,100,32,99,97,112,116,105,111,110,32,99,111,108,32,99,111,108,103,114,111,117,112,32,116,98,111,100,121,32,116,100,32,116,102,111,111,116,32,116,104,32,116,104,101,97,100,32,116,114]
abbrev bareW:Str:=[97,114,101,97,32,98,114,32,101,109,98,101,100,32,105,109,103,32,105,110,112,117,116,32,107,101,121,103,101,110,32,119,98,114]
def qxn(s:SS) (W:Str):SS:=if qbv (qbh s.tree (qgd s.opn)) W=true then { s with opn:=s.opn.dropLast } else s
def hdnS(s:SS) (nm:Str) (L:List At1):SS:=elS (qxn (qdg s) hdW) 0 nm L
def voidS(s:SS) (nm:Str) (L:List At1):SS:={ qdf s nm L with opn:=(qdf s nm L).opn.dropLast }
def qjv(s:SS) (t:Tk):SS:=
 if inW nothW t.name=true then s
 else if qqs t=true then qlq s t
 else if qez 0 t.name=true then hdnS s t.name t.attrs
 else if qmk t.name=true then qd7 s t.name t.attrs
 else if qgu t.name=true then frS s t.name t.attrs
 else if inW bareW t.name=true then voidS s t.name t.attrs
 else qdf s t.name t.attrs
theorem long_of{n d a c e:Nat} {s:SS} (h:BI n d a c e s) {W:Str} (hW:inW W [104,116,109,108]=false) (hn:qbv (qbh s.tree (qgd s.opn)) W=true):2<=s.opn.length:=by
 refine Decidable.byContradiction fun hl=>?_;have h1:=h.hd;have hon:=List.length_pos_iff.2 h.on;obtain⟨x,hx⟩ : ∃x,s.opn=[x]:=by
  cases ho:s.opn with
  |nil=>rw[ho]at hon;simp at hon
  |cons x r=>cases r with
   |nil=>exact⟨x,rfl⟩
   |cons y q=>rw[ho]at hl;simp at hl
 rw[hx]at h1;simp at h1;rw[hx,h1]at hn;obtain⟨g0,g1,g2,g3⟩:=h.h1;rw[show qgd [1]=1 from rfl,nodeS_at (by decide) (by omega)]at hn;unfold qbv at hn;rw[g3,hW]at hn;simp at hn
theorem BI.topp{n d a c e:Nat} {s:SS} (h:BI n d a c e s) {W:Str} (hW:inW W [104,116,109,108]=false):BI n d a c e (qxn s W):=by
 unfold qxn;split
 next hn=>exact qku h (long_of h hW hn)
 ·exact h
theorem BI.hdn{n d a c e:Nat} {s:SS} (h:BI n d a c e s) {nm:Str} {L:List At1} (hn:nm.length<=40) (hL:L.length<=a):BI (n+1) d a (c+1) e (hdnS s nm L):=(h.endp.topp (W:=hdW) (by decide)).elS 0 hn hL
theorem BI.void{n d a c e:Nat} {s:SS} (h:BI n d a c e s) {nm:Str} {L:List At1} (hn:nm.length<=40) (hL:L.length<=a):BI (n+e+1) d a (c+1) e (voidS s nm L):=qku (h.inl hn hL) (qn8 h.recon _ _ _)
theorem BI.mode{n d a c e:Nat} {s s':SS} (h:BI n d a c e s) (e1:s'.tree=s.tree) (e2:s'.opn=s.opn) (e3:s'.act=s.act) (e4:s'.foster=s.foster) (e5:s'.form=s.form):BI n d a c e s':=
 ⟨by rw[e1];exact h.tb,by rw[e4];exact h.fo,by rw[e2];exact h.hd,by rw[e1,e2];exact h.rg,by rw[e2];exact h.nd,by rw[e1,e3];exact h.ac,by rw[e3];exact h.an,by rw[e3];exact h.al,by rw[e5];exact h.fm,by rw[e2,e3];exact h.cv,by rw[e1];exact h.h1⟩
theorem BI.texts{n d a c e:Nat} {s:SS} (h:BI n d a c e s) {nm:Str} {L:List At1} (hn:nm.length<=40) (hL:L.length<=a):BI (n+1) d a (c+1) e (qgh s nm L):=(h.elS 0 hn hL).mode rfl rfl rfl rfl rfl
theorem BI.alone{n d a c e:Nat} {s:SS} (h:BI n d a c e s) {nm:Str} {L:List At1} (hn:nm.length<=40) (hL:L.length<=a):BI (n+1) d a (c+1) e (qhb s nm L):=by have:=qku (h.elS 0 hn hL) (qn8 h _ _ _);rw[qtx]at this;exact this
theorem BI.meta_{n d a c e:Nat} {s:SS} (h:BI n d a c e s) {t:Tk} (hn:t.name.length<=40) (hL:t.attrs.length<=a):BI (n+1) d a (c+1) e (qlq s t):=by
 have up:=h.mono (show n<=n+1 by omega) (Nat.le_refl d) (Nat.le_refl a) (show c<=c+1 by omega) (Nat.le_refl e);unfold qlq;split
 ·split
  ·exact h.alone hn hL
  ·split
   ·exact h.texts hn hL
   ·exact up
 ·exact up
theorem BI.rest_{n d a c e:Nat} {s:SS} (h:BI n d a c e s) (he:e<=900) {t:Tk} (hn:t.name.length<=40) (hL:t.attrs.length<=a):BI (n+e+64+e+1) d a (c+1) (e+1) (qjv s t):=by
 have up:∀{s:SS} {m k j:Nat},m<=n+e+64+e+1->k<=c+1->j<=e+1->BI m d a k j s->BI (n+e+64+e+1) d a (c+1) (e+1) s:=fun h1 h2 h3 h=>h.mono h1 (Nat.le_refl _) (Nat.le_refl _) h2 h3;unfold qjv;split
 ·exact up (by omega) (by omega) (by omega) h
 split
 ·exact up (by omega) (by omega) (by omega) (h.meta_ hn hL)
 split
 ·exact up (by omega) (by omega) (by omega) (h.hdn hn hL)
 split
 ·exact up (by omega) (by omega) (by omega) (h.block hn hL)
 split
 ·exact up (by omega) (by omega) (by omega) (h.fr he hn hL)
 split
 ·exact up (by omega) (by omega) (by omega) (h.void hn hL)
 ·exact up (by omega) (by omega) (by omega) (h.inl hn hL)
theorem c208(hc0:qa9 133 T=some e133a.g) (hc1:qa9 86 T=some e86t.g) (hc2:qa9 148 T=some e148.g) (hc3:qa9 145 T=some e145.g) (hc4:qa9 146 T=some e146.g) (hc5:qa9 42 T=some e42.g) (hc6:qa9 165 T=some e165.g) (hc7:qa9 53 T=some e53.g) (hc8:qa9 147 T=some e147.g) (hc9:qa9 164 T=some e164.g) (hc10:qa9 149 T=some e149.g) (hc11:qa9 221 T=some e221.g) (hc12:qa9 206 T=some e206g.g) {s:SS} {t:Tk} (ne:s.tree≠[])  (h:BI 50000 1000000 850 800 800 s) (ha:t.attrs.length<=14) (hn:t.name.length<=40) (hk:t.kind=1):TC T 208 [] ⟨s,t⟩ (.tup []) ⟨qjv s t,t⟩:=by
 have kc1:=@k86t T hc1;have kc2:=@k148 T hc2;have kc3:=@k145 T hc3;have kc4:=@k146 T hc4;have kc5:=@k42 T hc5;have kc6:=@k165 T hc6;have kc7:=@k53 T hc7;have kc8:=@k147 T hc8;have kc9:=@k164 T hc9;have kc10:=@k149 T hc10;have kc11:=@k221 T hc11;have kc12:=@k206g T hc12;have g0:=@vg0;have v0:=@vset;obtain⟨kd,nm,L,sf,dt⟩:=t;simp only at ha hn hk;have ol:=h.ol;have nmk:=h.tb.nm;have sok:=h.sok (by omega) (by omega);have kW1:=fun H=>qo8 hc0 (W:=nothW) (x:=nm) trivial (by decide) (by omega) H;have kW2:=fun H=>qo8 hc0 (W:=bareW) (x:=nm) trivial (by decide) (by omega) H;have kM:=fun n k tb fr=>@kc1 s ⟨kd,nm,L,sf,dt⟩ ne h.fo sok (by simp only;omega) n k tb fr;have kHd:=fun H=>kc2 0 nm H;have kHa:=fun n k fr=>@kc3 s ne [112] 2 trivial (by decide) nmk (by omega) n k fr;have kPa:=fun n k fr=>@kc4 s ne nmk (by omega) n k fr;have he:=h.endp;have hel:=he.ol;have kIs:=fun n k fr=>@kc5 (qdg s) he.ne hdW trivial (by decide) he.tb.nm (by omega) n k fr;have kSh:=fun n k fr=>@kc6 (qdg s) he.ne he.on (by omega) n k fr;have ht:=he.topp (W:=hdW) (by decide);have kEl:=fun n k fr=>@kc7 (qxn (qdg s) hdW) ht.ne ⟨kd,nm,L,sf,dt⟩ 0 ht.fo (ht.sok (by omega) (by omega)) (by simp only;omega) n k fr;have kB:=fun H=>kc8 nm (by omega) H;have kBl:=fun n k tb fr=>@kc9 s ⟨kd,nm,L,sf,dt⟩ ne (h.bok (by omega) (by omega)) (by simp only;omega) n k tb fr;have kF:=fun H=>kc10 0 nm (by omega) H;have kFo:=fun n k tb fr=>@kc11 s ⟨kd,nm,L,sf,dt⟩ ne h (by simp only;omega) hn n k tb fr;have hr:=h.recon;have kIn:=fun n k tb fr=>@kc12 s ⟨kd,nm,L,sf,dt⟩ ne (h.rok (by omega) (by omega) (by omega)) (hr.sok (by omega) (by omega)) h.fo (by simp only;omega) n k tb fr;have hi:=h.inl (nm:=nm) (L:=L) hn (by omega);have hil:=hi.ol;have kSi:=fun n k fr=>@kc6 (qdf s nm L) hi.ne hi.on (by omega) n k fr;have eB:∀H,qat (ctx T) (.fn 147) [.str nm] H=some (.bool (qmk nm),H):=kB;have eF:∀H,qat (ctx T) (.fn 149) [.int .i64 0,.str nm] H=some (.bool (qgu nm),H):=fun H=>(kF H).trans (by simp[qgu]);have n1:=(h.meta_ (t:=⟨kd,nm,L,sf,dt⟩) hn (by simp only;omega)).ne;have n2:=(h.hdn (nm:=nm) (L:=L) hn (by omega)).ne;have n3:=(h.block (nm:=nm) (L:=L) hn (by omega)).ne;have n4:=(h.fr (by omega) (nm:=nm) (L:=L) hn (by omega)).ne;have n5:=(h.void (nm:=nm) (L:=L) hn (by omega)).ne;have n6:=hi.ne;have n7:=he.ne;have n8:=ht.ne;have e:qjv s ⟨kd,nm,L,sf,dt⟩=if inW nothW nm=true then s else if qqs ⟨kd,nm,L,sf,dt⟩=true then qlq s ⟨kd,nm,L,sf,dt⟩ else if qez 0 nm=true then hdnS s nm L else if qmk nm=true then qd7 s nm L else if qgu nm=true then frS s nm L else if inW bareW nm=true then voidS s nm L else qdf s nm L:=rfl;have eM:qqs ⟨kd,nm,L,sf,dt⟩=false->qlq s ⟨kd,nm,L,sf,dt⟩=s:=fun hm=>by unfold qqs at hm;unfold qlq;simp only[hk,decide_true,Bool.true_and,Bool.or_eq_false_iff]at hm;simp only;rw[hk,if_pos rfl,if_neg (by rw[hm.1];simp),if_neg (by rw[hm.2];simp)]
 have ebl:elS (qdg s) 0 (Tk.mk kd nm L sf dt).name (Tk.mk kd nm L sf dt).attrs=qd7 s nm L:=rfl;have ein:elS (qci s) 0 (Tk.mk kd nm L sf dt).name (Tk.mk kd nm L sf dt).attrs=qdf s nm L:=rfl;have eel:elS (qxn (qdg s) hdW) 0 (Tk.mk kd nm L sf dt).name (Tk.mk kd nm L sf dt).attrs=hdnS s nm L:=rfl;have efr:frS s (Tk.mk kd nm L sf dt).name (Tk.mk kd nm L sf dt).attrs=frS s nm L:=rfl;rw[ebl]at kBl;rw[ein]at kIn;rw[eel]at kEl;rw[efr]at kFo;have evo:voidS s nm L=⟨(qdf s nm L).tree,(qdf s nm L).opn.dropLast,(qdf s nm L).act,(qdf s nm L).mode,(qdf s nm L).back,(qdf s nm L).lex,(qdf s nm L).form,(qdf s nm L).head,(qdf s nm L).foster,(qdf s nm L).skip,(qdf s nm L).inside⟩:=rfl;have eto:qxn (qdg s) hdW=if qbv (qbh (qdg s).tree (qgd (qdg s).opn)) hdW=true then { qdg s with opn:=(qdg s).opn.dropLast } else qdg s:=rfl;have een:qdg s=if qgb s.tree s.opn [112] 2=true then qow s else s:=rfl;have npa:(qow s).tree≠[]:=ne;rw[e];simp only[Tk.cs,qer]at kM kBl kIn kFo kEl ⊢;clear e ebl ein eel efr kB kF kc1 kc2 kc3 kc4 kc5 kc6 kc7 kc8 kc9 kc10 kc11 kc12 ol nmk sok he hel ht hr hi hil h ha hn hc0;generalize qqs ⟨kd,nm,L,sf,dt⟩=b2 at *;generalize qlq s ⟨kd,nm,L,sf,dt⟩=s2 at *;generalize inW nothW nm=b1 at *;generalize qez 0 nm=b3 at *;generalize qmk nm=b4 at *;generalize qgu nm=b5 at *;generalize inW bareW nm=b6 at *;generalize hdnS s nm L=s3 at *;generalize qd7 s nm L=s4 at *;generalize frS s nm L=s5 at *;rw[evo]at n5 ⊢;clear evo;generalize qdf s nm L=s6 at *;subst hk;cases b1
 case true=>
  rw[if_pos rfl];clear een eto;refine qa0 (s0:=⟨[0,1,4],[.ptr 0 0,.ptr 1 0,uD],[],56,⟨3,[]::[_]⟩⟩) Tryz.func208 rfl rfl rfl ?_;apply qcg;simp only[Tk.cs]
  (repeat' (first
   |with_reducible apply qaa
   |with_reducible apply qa4
   |(with_reducible apply rE;simp[zS, *,SS.post];exact rfl)
   |(with_reducible apply qad;simp only[qab,qa5])
   |apply qah rfl
   |(with_reducible apply qa6;simp only[qab,qa5])))
  all_goals first|(((try simp[zQ,Tryz.f208]);exact qbe rfl (by first|rfl|(simp[*];done)) (by simp[qa2,qa3]) (by omega) ne (by simp[getF]) (by simp[getF]) (by first|(simp[getF,Tk.cs];done)|(simp[getF,Tk.cs, *];done))))|(exfalso;omega)
 rw[if_neg (by simp)];cases b2
 case true=>
  rw[if_pos rfl];clear een eto;refine qa0 (s0:=⟨[0,1,4],[.ptr 0 0,.ptr 1 0,uD],[],56,⟨3,[]::[_]⟩⟩) Tryz.func208 rfl rfl rfl ?_;apply qcg;simp only[Tk.cs]
  (repeat' (first
   |with_reducible apply qaa
   |with_reducible apply qa4
   |(with_reducible apply rE;simp[zS, *,SS.post];exact rfl)
   |(with_reducible apply qad;simp only[qab,qa5])
   |apply qah rfl
   |(with_reducible apply qa6;simp only[qab,qa5])))
  all_goals first|(((try simp[zQ,Tryz.f208]);exact qbe rfl (by first|rfl|(simp[*];done)) (by simp[qa2,qa3]) (by omega) n1 (by simp[getF]) (by simp[getF]) (by first|(simp[getF,Tk.cs];done)|(simp[getF,Tk.cs, *];done))))|(exfalso;omega)
 rw[if_neg (by simp)];have eM:=eM rfl;subst eM;cases b3
 case true=>
  rw[if_pos rfl];generalize qxn (qdg s2) hdW=q at *;generalize qgb s2.tree s2.opn [112] 2=b7 at *;generalize qdg s2=r at *;generalize qbv (qbh r.tree (qgd r.opn)) hdW=b8 at *;generalize r.opn.dropLast=O8 at *;cases b7;all_goals
   simp only[Bool.false_eq_true,if_true,if_false]at een;cases b8;all_goals
    simp only[Bool.false_eq_true,if_true,if_false]at eto;subst eto;subst een;refine qa0 (s0:=⟨[0,1,4],[.ptr 0 0,.ptr 1 0,uD],[],56,⟨3,[]::[_]⟩⟩) Tryz.func208 rfl rfl rfl ?_;apply qcg;simp only[Tk.cs]
    (repeat' (first
     |with_reducible apply qaa
     |with_reducible apply qa4
     |(with_reducible apply rE;simp[zS, *,SS.post];exact rfl)
     |(with_reducible apply qad;simp only[qab,qa5])
     |apply qah rfl
     |apply qai rfl
     |(with_reducible apply qa6;simp only[qab,qa5])))
    all_goals first|(((try simp[zQ,Tryz.f208]);exact qbe rfl (by first|rfl|(simp[*];done)) (by simp[qa2,qa3]) (by omega) n2 (by simp[getF]) (by simp[getF]) (by first|(simp[getF,Tk.cs];done)|(simp[getF,Tk.cs, *];done))))|(exfalso;omega)
 rw[if_neg (by simp)];cases b4
 case true=>
  rw[if_pos rfl];clear een eto;refine qa0 (s0:=⟨[0,1,4],[.ptr 0 0,.ptr 1 0,uD],[],56,⟨3,[]::[_]⟩⟩) Tryz.func208 rfl rfl rfl ?_;apply qcg;simp only[Tk.cs]
  (repeat' (first
   |with_reducible apply qaa
   |with_reducible apply qa4
   |(with_reducible apply rE;simp[zS, *,SS.post];exact rfl)
   |(with_reducible apply qad;simp only[qab,qa5])
   |apply qah rfl
   |(apply qai rfl)))
  all_goals first|(((try simp[zQ,Tryz.f208]);exact qbe rfl (by first|rfl|(simp[*];done)) (by simp[qa2,qa3]) (by omega) n3 (by simp[getF]) (by simp[getF]) (by first|(simp[getF,Tk.cs];done)|(simp[getF,Tk.cs, *];done))))|(exfalso;omega)
 rw[if_neg (by simp)];cases b5
 case true=>
  rw[if_pos rfl];clear een eto;refine qa0 (s0:=⟨[0,1,4],[.ptr 0 0,.ptr 1 0,uD],[],56,⟨3,[]::[_]⟩⟩) Tryz.func208 rfl rfl rfl ?_;apply qcg;simp only[Tk.cs]
  (repeat' (first
   |with_reducible apply qaa
   |with_reducible apply qa4
   |(with_reducible apply rE;simp[zS, *,SS.post];exact rfl)
   |(with_reducible apply qad;simp only[qab,qa5])
   |apply qah rfl
   |(apply qai rfl)))
  all_goals first|(((try simp[zQ,Tryz.f208]);exact qbe rfl (by first|rfl|(simp[*];done)) (by simp[qa2,qa3]) (by omega) n4 (by simp[getF]) (by simp[getF]) (by first|(simp[getF,Tk.cs];done)|(simp[getF,Tk.cs, *];done))))|(exfalso;omega)
 rw[if_neg (by simp)];cases b6
 case true=>
  rw[if_pos rfl];clear een eto;refine qa0 (s0:=⟨[0,1,4],[.ptr 0 0,.ptr 1 0,uD],[],56,⟨3,[]::[_]⟩⟩) Tryz.func208 rfl rfl rfl ?_;apply qcg;simp only[Tk.cs]
  (repeat' (first
   |with_reducible apply qaa
   |with_reducible apply qa4
   |(with_reducible apply rE;simp[zS, *,SS.post];exact rfl)
   |(with_reducible apply qad;simp only[qab,qa5])
   |apply qah rfl
   |(apply qai rfl)))
  all_goals first|(((try simp[zQ,Tryz.f208]);exact qbe rfl (by first|rfl|(simp[*];done)) (by simp[qa2,qa3]) (by omega) n5 (by simp[getF]) (by simp[getF]) (by first|(simp[getF,Tk.cs];done)|(simp[getF,Tk.cs, *];done))))|(exfalso;omega)
 rw[if_neg (by simp)];clear een eto;refine qa0 (s0:=⟨[0,1,4],[.ptr 0 0,.ptr 1 0,uD],[],56,⟨3,[]::[_]⟩⟩) Tryz.func208 rfl rfl rfl ?_;apply qcg;simp only[Tk.cs]
 (repeat' (first
  |with_reducible apply qaa
  |with_reducible apply qa4
  |(with_reducible apply rE;simp[zS, *,SS.post];exact rfl)
  |(with_reducible apply qad;simp only[qab,qa5])
  |(apply qai rfl)))
 all_goals first|(((try simp[zQ,Tryz.f208]);exact qbe rfl (by first|rfl|(simp[*];done)) (by simp[qa2,qa3]) (by omega) n6 (by simp[getF]) (by simp[getF]) (by first|(simp[getF,Tk.cs];done)|(simp[getF,Tk.cs, *];done))))|(exfalso;omega)
 all_goals
  (try simp only[Tk.cs]at *)
  refine qa0 (s0:=⟨[0,1,4],[.ptr 0 0,.ptr 1 0,uD],[],56,⟨3,[]::[_]⟩⟩) Tryz.func208 rfl rfl rfl ?_;apply qcg;try simp only[Tk.cs]
  skip
def e208:Entry PG:=mkT 208 [] (fun z:Unit=>[]) (fun z x=>(BI 50000 1000000 850 800 800 x.s)/\(x.t.attrs.length<=14)/\(x.t.name.length<=40)/\(x.t.kind=1)) (fun z x=>.tup []) (fun z x=>⟨qjv x.s x.t,x.t⟩) fun z x ne h=>⟨c208 (T:=[e133a,e86t,e148,e145,e146,e42,e165,e53,e147,e164,e149,e221,e206g]) rfl rfl rfl rfl rfl rfl rfl rfl rfl rfl rfl rfl rfl ne  h.1 h.2.1 h.2.2.1 h.2.2.2,by simp[qa3,qa2],by simp[qa2,qa3],(BI.rest_ h.1 (by omega) h.2.2.1 (by have:=h.2.1;omega)).ne⟩
theorem k208(hT:qa9 208 T=some e208.g) {s:SS} {t:Tk} (ne:s.tree≠[])  (h:BI 50000 1000000 850 800 800 s) (ha:t.attrs.length<=14) (hn:t.name.length<=40) (hk:t.kind=1) {n k tb:Nat} {fr:List (Nat × Blk)} (d:dT n k tb) (of:qg9 k tb fr):qat (ctx T) (.fn 208) [.ptr 0 0,.ptr tb 0] ⟨n,[(tb,.cells t.cs)::fr,VS k s]⟩=some (.tup [],⟨n+1,[(tb,.cells (Tk.cs (t)))::fr,VS n (qjv s t)]⟩):=
 qg3 (x:=⟨s,t⟩) (f1:=[]) hT inj_165 () ne ⟨h,ha,hn,hk⟩ (by simp[qa3,qa2]) (by simp[qbb,qaj]) d (by simp) of
