/- A drawing region whose writes stand in one order with all that reads: run in its order. No condition. -/
import Derived.Test.YtnfdakclfmchfaaGreatMJ
namespace Go.Proofs.YtnfdakclfmchfaaGreat
noncomputable section
set_option linter.unusedSimpArgs false
set_option linter.unusedVariables false
open Go Go.RowKit
set_option maxRecDepth 100000
variable {T:List (Entry Tryz.prog)}
@[simp]theorem szT21:qc1 PG 21=some 1:=rfl
@[simp]theorem agT21:qgc PG 21=some false:=rfl
@[simp]theorem byT21:qce PG 21=some 4:=rfl
@[simp]theorem alT21(H:Heap):alV PG H 21=some (.ptr H.n 0,H.new (.cells [.int .i32 0])):=rfl
@[simp]theorem zeT21:qbq PG 21=some (.int .i32 0):=rfl
attribute [simp] Tryz.underlying21
@[simp 500]theorem rvF21(H:Heap) (cs:List AV) (o:Nat):qaq PG H 21 (.fptr cs o)=qca cs o:=rfl
@[simp 500]theorem rvP21(H:Heap) (b o:Nat):qaq PG H 21 (.ptr b o)=(H.get b).bind fun k=>k.rd.bind fun cs=>qca cs o:=rfl
@[simp]theorem szT176:qc1 PG 176=some 1:=rfl
@[simp]theorem agT176:qgc PG 176=some false:=rfl
@[simp]theorem byT176:qce PG 176=some 24:=rfl
@[simp]theorem alT176(H:Heap):alV PG H 176=some (.ptr H.n 0,H.new (.cells [.nilS])):=rfl
@[simp]theorem zeT176:qbq PG 176=some (.nilS):=rfl
attribute [simp] Tryz.underlying176
@[simp 500]theorem rvF176(H:Heap) (cs:List AV) (o:Nat):qaq PG H 176 (.fptr cs o)=qca cs o:=rfl
@[simp 500]theorem rvP176(H:Heap) (b o:Nat):qaq PG H 176 (.ptr b o)=(H.get b).bind fun k=>k.rd.bind fun cs=>qca cs o:=rfl
@[simp]theorem slz176(sz:Nat) (e:AV) (r:List AV):qda PG .eql 176 (.fslc sz (e::r)) .nilS=some (.bool false):=rfl
@[simp]theorem sln176(sz:Nat) (e:AV) (r:List AV):qda PG .neq 176 (.fslc sz (e::r)) .nilS=some (.bool true):=rfl
@[simp]theorem slze176:qda PG .eql 176 .eslc .nilS=some (.bool false):=rfl
@[simp]theorem slzz176:qda PG .eql 176 .nilS .nilS=some (.bool true):=rfl
@[simp]theorem qzo:qc1 PG 178=some 2:=rfl
@[simp]theorem agT178:qgc PG 178=some true:=rfl
@[simp]theorem zcl:qce PG 178=some 16:=rfl
@[simp]theorem alT178(H:Heap):alV PG H 178=some (.ptr H.n 0,H.new (.cells [.int .i64 0,.int .i64 0])):=rfl
@[simp]theorem qzb:qbq PG 178=some (.agg [.int .i64 0,.int .i64 0]):=rfl
attribute [simp] Tryz.underlying178
@[simp 500]theorem rvF178(H:Heap) (cs:List AV) (o:Nat):qaq PG H 178 (.fptr cs o)=(qf1 o 2 cs).bind fun cs=>some (.agg cs):=rfl
@[simp 500]theorem rvP178(H:Heap) (b o:Nat):qaq PG H 178 (.ptr b o)=(readCells H b o 2).bind fun cs=>some (.agg cs):=rfl
@[simp]theorem fa178_0(x:AV):qaw PG 178 x 0=(match x with | .ptr b o=>some (.ptr b (o+0)) | .fptr cs o=>some (.fptr cs (o+0))|_=>none):=rfl
@[simp]theorem fd178_0(cs:List AV):qc9 PG 178 (.agg cs) 0=qca cs 0:=rfl
@[simp]theorem fa178_1(x:AV):qaw PG 178 x 1=(match x with | .ptr b o=>some (.ptr b (o+1)) | .fptr cs o=>some (.fptr cs (o+1))|_=>none):=rfl
@[simp]theorem fd178_1(cs:List AV):qc9 PG 178 (.agg cs) 1=qca cs 1:=rfl
theorem c215(hS:qa9 191 T=some e191.g) (c:UInt8) (hc:c.toNat < 128):CallAt (ctx T) 215 [.int .i32 (c.toNat:Int)] zH (.bool (sp c)) zH:=by
 have ks:=fun H=>k191 hS c H;have h1:(c.toNat:Int) < 128:=by omega
 have hw:IntKind.u8.wrap (c.toNat:Int)=(c.toNat:Int):=by simp[IntKind.wrap,IntKind.signed,IntKind.bits];omega
 have hcv:∀H,qrk PG H 21 5 (.int .i32 (c.toNat:Int))=some (.int .u8 (c.toNat:Int),H):=fun H=>by simp[qrk,hw]
 refine qa0 (s0:=⟨[0,2],[.int .i32 (c.toNat:Int),uD],[],10,⟨0,[[]]⟩⟩) Tryz.func215 rfl rfl rfl ?_;apply qR;simp[zS];apply qR;simp[zS,h1,hcv,ks];apply qa7;simp[zQ,Tryz.f215];exact qak rfl (by rfl)
def qbx(_:Str):Prop:=True
theorem zcc{s:Str} {i:Nat} (h:i < s.length) (hc:s[i].toNat < 128):Utf8.decode ⟨s.toArray⟩ i=(s[i].toNat,1):=by
 have h0:(ByteArray.get! ⟨s.toArray⟩ (i+0)).toNat=s[i].toNat:=by show (s.toArray[i+0]!).toNat=_;simp[h]
 unfold Utf8.decode;simp only[h0,hc,if_true]
def qoz(L:List (Nat × Nat)):List AV:=L.flatMap fun p=>[.int .i64 (p.1:Int),.int .i64 (p.2:Int)]
def spn(p:Nat × Nat):AV:=.agg [.int .i64 (p.1:Int),.int .i64 (p.2:Int)]
def qoy(n:Nat):List AV:=List.replicate n (.int .i64 0)
def spV(n:Nat):AV:=if n<=32 then .slc 0 0 n (.ex 32) else .slc 0 0 n (.rest 2)
def spB(L:List (Nat × Nat)):List AV:=if L.length<=32 then qoz L++qoy (64 - 2 * L.length) else qoz L
theorem qvr(L:List (Nat × Nat)):(qoz L).length=2 * L.length:=by
 induction L with
 |nil=>rfl
 |cons a r ih=>simp only[qoz,List.flatMap_cons,List.length_append,List.length_cons,List.length_nil]at ih ⊢;omega
theorem qvs(L:List (Nat × Nat)) (p:Nat × Nat):qoz (L++[p])=qoz L++[.int .i64 (p.1:Int),.int .i64 (p.2:Int)]:=by simp[qoz]
theorem qs4(L:List (Nat × Nat)):qa3 (qoz L)=true:=by
 induction L with
 |nil=>rfl
 |cons a r ih=>have:qoz (a::r)=[.int .i64 (a.1:Int),.int .i64 (a.2:Int)]++qoz r:=rfl;rw[this,qdn,ih];rfl
theorem qxk(n:Nat):qa3 (qoy n)=true:=by
 induction n with
 |zero=>rfl
 |succ n ih=>simp only[qoy,List.replicate_succ]at ih ⊢;simp[qa3,qa2,ih]
theorem qfp(L:List (Nat × Nat)):qa3 (spB L)=true:=by
 unfold spB;split
 ·rw[qdn,qs4,qxk];rfl
 ·exact qs4 L
theorem qx3(L:List (Nat × Nat)):qa8 (L.map spn)=qoz L:=by
 induction L with
 |nil=>rfl
 |cons a r ih=>simp only[List.map_cons,qa8,ih];rfl
theorem el_spn(L:List (Nat × Nat)):Elems 2 (L.map spn):=.map (sz:=2) (f:=spn) (by decide) (fun x=>⟨rfl,rfl,fun h=>absurd h (by decide),fun _=>⟨_,rfl⟩⟩) L
theorem qu5(L:List (Nat × Nat)):qf1 0 (L.length * 2) (spB L)=some (qoz L):=by
 have h:(qoz L).length=L.length * 2:=by rw[qvr];omega
 unfold spB;split
 ·rw[qj0 (by simp;omega),List.drop_zero,List.take_append_of_le_length (by omega),List.take_of_length_le (by omega)]
 ·rw[qj0 (by omega),List.drop_zero,List.take_of_length_le (by omega)]
theorem app_sp{L:List (Nat × Nat)} {p:Nat × Nat} {I:Blk} (hl:L.length<=1000000) :
  ∃b m f,b≠1/\qby PG ⟨3,[[(2,.cells [.int .i64 (p.1:Int),.int .i64 (p.2:Int)]),(1,I),(0,.cells (spB L))]]⟩ 178 (spV L.length) (.slc 2 0 1 (.ex 1)) =
   some ((if L.length+1<=32 then .slc b 0 (L.length+1) (.ex 32) else .slc b 0 (L.length+1) (.rest 2)),⟨m,f⟩)/\Heap.get ⟨m,f⟩ 1=some I/\Heap.get ⟨m,f⟩ b=some (.cells (spB (L++[p]))):=by
 have hcs:∀H:Heap,Heap.get H 2=some (.cells [.int .i64 (p.1:Int),.int .i64 (p.2:Int)])->qb3 H 2 1 (.slc 2 0 1 (.ex 1))=some [.int .i64 (p.1:Int),.int .i64 (p.2:Int)]:=fun H h=>by simp[qb3,readCells,h]
 have g0:Heap.get ⟨3,[[(2,.cells [.int .i64 (p.1:Int),.int .i64 (p.2:Int)]),(1,I),(0,.cells (spB L))]]⟩ 0=some (.cells (spB L)):=by simp[zG]
 have hsrc:=hcs ⟨3,[[(2,.cells [.int .i64 (p.1:Int),.int .i64 (p.2:Int)]),(1,I),(0,.cells (spB L))]]⟩ (by simp[zG]);have hroom:qde (L.length+1) 16=true:=by unfold qde;rw[Nat.ble_eq];omega
 have hrow:∀cs,qpi PG 178 cs=.cells cs:=fun cs=>rfl;have h64:(qoz L).length=2 * L.length:=qvr L;have hlen1:(L++[p]).length=L.length+1:=by simp
 by_cases h1:L.length+1<=32
 ·have hv:spV L.length=.slc 0 0 L.length (.ex 32):=by unfold spV;rw[if_pos (by omega)]
  have hb:Nat.ble (L.length+1) 32=true:=by rw[Nat.ble_eq];exact h1
  have hB:spB L=qoz L++qoy 2++qoy (62 - 2 * L.length):=by unfold spB;rw[if_pos (by omega),List.append_assoc];congr 1;simp only[qoy];rw[List.replicate_append_replicate];congr 1;omega
  have hB2:spB (L++[p])=qoz L++[.int .i64 (p.1:Int),.int .i64 (p.2:Int)]++qoy (62 - 2 * L.length):=by unfold spB;rw[hlen1,if_pos h1,qvs];congr 2;omega
  have hlay:qjh [.int .i64 (p.1:Int),.int .i64 (p.2:Int)] (0+L.length * 2) (spB L)=some (spB (L++[p])):=by have:=qef (a:=qoz L) (b:=qoy 2) (b':=[.int .i64 (p.1:Int),.int .i64 (p.2:Int)]) (c:=qoy (62 - 2 * L.length)) rfl;rw[h64]at this;rw[hB,hB2,show 0+L.length * 2=2 * L.length by omega,this]
  refine⟨0,3,[[(2,.cells [.int .i64 (p.1:Int),.int .i64 (p.2:Int)]),(1,I),(0,.cells (spB (L++[p])))]],by omega,?_,by simp[zG],by simp[zG]⟩;rw[if_pos h1,hv];unfold qby;simp only[qzo,zcl,qzb,Option.bind_some,qc3,hsrc,hroom,hb];simp only[writeCells,g0,Option.bind_some,Blk.wt,hlay,Blk.re];simp[Heap.ready,refs,Heap.set,setFs,setF,allSingle,AV.single];rfl
 ·have hB2:spB (L++[p])=qoz L++[.int .i64 (p.1:Int),.int .i64 (p.2:Int)]:=by unfold spB;rw[hlen1,if_neg h1,qvs]
  have hread:readCells ⟨3,[[(2,.cells [.int .i64 (p.1:Int),.int .i64 (p.2:Int)]),(1,I),(0,.cells (spB L))]]⟩ 0 0 (L.length * 2)=some (qoz L):=by unfold readCells;simp only[g0,Option.bind_some,qfc];exact qu5 L
  by_cases h2:L.length=32
  ·have hv:spV L.length=.slc 0 0 L.length (.ex 32):=(by unfold spV;rw[if_pos (by omega)]);have hb:Nat.ble (L.length+1) 32=false:=(by rw[<- Bool.not_eq_true,Nat.ble_eq];exact h1);refine⟨3,4,[[(3,.cells (spB (L++[p]))),(2,.cells [.int .i64 (p.1:Int),.int .i64 (p.2:Int)]),(1,I),(0,.cells (spB L))]],by omega,?_,by simp[zG],by simp[zG]⟩;rw[if_neg h1,hv,hB2];unfold qby;simp only[qzo,zcl,qzb,Option.bind_some,qc3,hsrc,hroom,hb,hread,hrow];simp[Heap.new,pushF,allSingle,AV.single];rfl
  ·have hv:spV L.length=.slc 0 0 L.length (.rest 2):=(by unfold spV;rw[if_neg (by omega)]);have hB:spB L=qoz L:=(by unfold spB;rw[if_neg (by omega)]);have hk:qbp ⟨3,[[(2,.cells [.int .i64 (p.1:Int),.int .i64 (p.2:Int)]),(1,I),(0,.cells (spB L))]]⟩ 0=some (2 * L.length):=(by rw[qbp,g0,hB];simp[h64]);have hb1:Nat.ble (0+(L.length+1) * 2) (2 * L.length)=false:=(by rw[<- Bool.not_eq_true,Nat.ble_eq];omega);have hb2:Nat.beq (0+L.length * 2) (2 * L.length)=true:=(by rw[show 0+L.length * 2=2 * L.length by omega];exact Nat.beq_refl _);refine⟨3,4,[[(3,.cells (spB (L++[p]))),(2,.cells [.int .i64 (p.1:Int),.int .i64 (p.2:Int)]),(1,I)]],by omega,?_,by simp[zG],by simp[zG]⟩;rw[if_neg h1,hv,hB2];unfold qby;simp only[qzo,zcl,qzb,Option.bind_some,qc3,hsrc,hroom,hk,hb1,hb2,hread,g0,qpr];simp[Heap.new,pushF,allSingle,AV.single,Heap.drop,qeo,getF,killF];rfl
def qdr(s:Str) (p:Nat × Nat):Str:=(s.drop p.1).take (p.2 - p.1)
structure SpOk (s:Str) (i:Nat) (L:List (Nat × Nat)) (st:Int):Prop where
 le:i<=s.length
 few:L.length<=i
 done:L.map (qdr s)=(wst (s.take i)).1
 rng:∀p,p∈L->p.1<=p.2/\p.2<=s.length
 lo : -1000001<=st
 cur:(st < 0/\(wst (s.take i)).2=[])\/∃a:Nat,st=a/\a < i/\(wst (s.take i)).2=qdr s (a,i)
theorem qoh{H:Heap} {b j:Nat} {s:Str} {cs:List AV} (hb:b≠1) (h1:H.get 1=some (.iter s j)) (h2:H.get b=some (.cells cs)) (hp:qa3 cs=true):FitH 0 [(1,1),(b,0)] [] H ⟨2,[[(1,.iter s j),(0,.cells cs)]]⟩ where
 nd1:=by simp;omega
 nd2:=by simp
 nd3:=by simp[Heap.ents]
 lt:=fun x hx=>by simp at hx;rcases hx with rfl|rfl<;>simp
 idn:=fun x hx h=>by rcases h with h|h<;>exact absurd h (Nat.not_lt_zero _)
 num:=Nat.zero_le _
 src:=fun e he=>by
  simp[Heap.ents]at he;rcases he with rfl|rfl
  ·exact⟨1,_,by simp,h1,by simp[qji]⟩
  ·exact⟨b,_,by simp,h2,qao hp⟩
 frz:=fun x hx=>by cases hx
theorem word_one{s:Str} {i:Nat} (h:i < s.length):qdr s (i,i+1)=[s[i]]:=by unfold qdr;simp only;rw[List.drop_eq_getElem_cons h,show i+1 - i=1 by omega];rfl
theorem qzg{s:Str} {a i:Nat} (h:i < s.length) (ha:a<=i):qdr s (a,i+1)=qdr s (a,i)++[s[i]]:=by unfold qdr;simp only;rw[show i+1 - a=(i - a)+1 by omega,List.take_succ_eq_append_getElem (by simp;omega)];congr 2;rw[List.getElem_drop];congr 1;omega
theorem qzw{s:Str} {i:Nat} {L:List (Nat × Nat)} {st:Int} (h:i < s.length) (k:SpOk s i L st) (hs:sp s[i]=true) (h0:st < 0):SpOk s (i+1) L st:=by
 have he:(wst (s.take i)).2=[]:=by
  rcases k.cur with⟨_,h⟩|⟨a,ha,_⟩
  ·exact h
  ·omega
 refine⟨by omega,by have:=k.few;omega,?_,k.rng,k.lo,.inl ⟨h0,?_⟩⟩
 ·rw[qkg h];simp only[qea,hs,if_true,he,k.done]
 ·rw[qkg h];simp only[qea,hs,if_true]
theorem qzv{s:Str} {i a:Nat} {L:List (Nat × Nat)} (h:i < s.length) (k:SpOk s i L (a:Int)) (hs:sp s[i]=true) (hl:s.length<=1000000):SpOk s (i+1) (L++[(a,i)]) (-(a:Int) - 1):=by
 obtain⟨hai,hc⟩ : a < i/\(wst (s.take i)).2=qdr s (a,i):=by
  rcases k.cur with⟨h,_⟩|⟨b,hb,h1,h2⟩
  ·omega
  ·have:a=b:=(by omega);subst this;exact⟨h1,h2⟩
 have hne:¬ qdr s (a,i)=[]:=by intro e;have:=congrArg List.length e;simp[qdr]at this;omega
 refine⟨by omega,by have:=k.few;simp;omega,?_,fun p hp=>?_,by omega,.inl ⟨by omega,?_⟩⟩
 ·rw[qkg h];simp only[qea,hs,if_true,hc,hne,if_false,List.map_append,k.done];rfl
 ·rcases List.mem_append.1 hp with hp|hp
  ·exact k.rng p hp
  ·simp at hp;subst hp;exact⟨by simp only;omega,by simp only;omega⟩
 ·rw[qkg h];simp only[qea,hs,if_true]
theorem qvu{s:Str} {i:Nat} {L:List (Nat × Nat)} {st:Int} (h:i < s.length) (k:SpOk s i L st) (hs:sp s[i]=false) (h0:st < 0):SpOk s (i+1) L (i:Int):=by
 have he:(wst (s.take i)).2=[]:=by
  rcases k.cur with⟨_,h⟩|⟨a,ha,_⟩
  ·exact h
  ·omega
 refine⟨by omega,by have:=k.few;omega,?_,k.rng,by omega,.inr ⟨i,rfl,by omega,?_⟩⟩
 ·rw[qkg h];simp[qea,hs,k.done]
 ·rw[qkg h,word_one h];simp[qea,hs,he]
theorem qvt{s:Str} {i a:Nat} {L:List (Nat × Nat)} (h:i < s.length) (k:SpOk s i L (a:Int)) (hs:sp s[i]=false):SpOk s (i+1) L (a:Int):=by
 obtain⟨hai,hc⟩ : a < i/\(wst (s.take i)).2=qdr s (a,i):=by
  rcases k.cur with⟨h,_⟩|⟨b,hb,h1,h2⟩
  ·omega
  ·have:a=b:=(by omega);subst this;exact⟨h1,h2⟩
 refine⟨by omega,by have:=k.few;omega,?_,k.rng,by omega,.inr ⟨a,rfl,by omega,?_⟩⟩
 ·rw[qkg h];simp[qea,hs,k.done]
 ·rw[qkg h,qzg h (by omega)];simp[qea,hs,hc]
theorem sp_begin(s:Str):SpOk s 0 [] (-1):=⟨Nat.zero_le _,by simp,by simp[wst],by simp,by omega,.inl ⟨by omega,by simp[wst]⟩⟩
theorem sp_end0{s:Str} {L:List (Nat × Nat)} {st:Int} (k:SpOk s s.length L st) (h0:st < 0):L.map (qdr s)=qe5 s:=by
 have he:(wst (s.take s.length)).2=[]:=by
  rcases k.cur with⟨_,h⟩|⟨a,ha,_⟩
  ·exact h
  ·omega
 have hd:=k.done;rw[List.take_of_length_le (Nat.le_refl _)]at hd he;rw[hd,qe5,qzi,if_pos he]
theorem sp_end1{s:Str} {a:Nat} {L:List (Nat × Nat)} (k:SpOk s s.length L (a:Int)):(L++[(a,s.length)]).map (qdr s)=qe5 s/\a < s.length:=by
 obtain⟨hai,hc⟩ : a < s.length/\(wst (s.take s.length)).2=qdr s (a,s.length):=by
  rcases k.cur with⟨h,_⟩|⟨b,hb,h1,h2⟩
  ·omega
  ·have:a=b:=(by omega);subst this;exact⟨h1,h2⟩
 have hne:¬ qdr s (a,s.length)=[]:=by intro e;have:=congrArg List.length e;simp[qdr]at this;omega
 have hd:=k.done;rw[List.take_of_length_le (Nat.le_refl _)]at hd hc;refine⟨?_,hai⟩;rw[List.map_append,hd,qe5,qzi,hc,if_neg hne];rfl
theorem xor_not{a:Nat} (h:a<=1000000):unA .xor (.int .i64 (a:Int))=some (.int .i64 (-(a:Int) - 1)):=by
 have h1:(BitVec.ofInt 64 (-1) ^^^ BitVec.ofInt 64 (a:Int)).toNat=18446744073709551615 - a:=by
  have e1:BitVec.ofInt 64 (-1)=BitVec.allOnes 64:=by decide
  have e2:BitVec.ofInt 64 (a:Int)=BitVec.ofNat 64 a:=by simp
  rw[e1,e2,BitVec.allOnes_xor,BitVec.toNat_not,BitVec.toNat_ofNat];omega
 show some (AV.int .i64 (IntKind.i64.wrap ((BitVec.ofInt 64 (-1) ^^^ BitVec.ofInt 64 (a:Int)).toNat:Int)))=_;rw[h1];have h2:IntKind.i64.wrap ((18446744073709551615 - a:Nat):Int) = -(a:Int) - 1:=by
  have h3:((18446744073709551615 - a:Nat):Int)=18446744073709551615 - (a:Int):=by omega
  rw[h3];simp[IntKind.wrap,IntKind.signed,IntKind.bits];omega
 rw[h2]
@[simp]theorem fr_range{d:Option Tmp} {t:TypeId} {l:Operand} {ty:TypeId} {pos:String} {af:Array Edge} {g:Option (Nat × Bool)} {s:St}:qbn s ⟨d,.range t l,ty,pos,af,g⟩=s:=rfl
@[simp]theorem fr_next{d:Option Tmp} {b:Bool} {l:Operand} {ty:TypeId} {pos:String} {af:Array Edge} {g:Option (Nat × Bool)} {s:St}:qbn s ⟨d,.next l b,ty,pos,af,g⟩=s:=rfl
def bl5(n:Nat):List AV:=List.replicate n (.str [])
def sts(L:List Str):List AV:=L.map .str
theorem qxi(n:Nat):qa3 (bl5 n)=true:=by
 induction n with
 |zero=>rfl
 |succ n ih=>simp only[bl5,List.replicate_succ]at ih ⊢;simp[qa3,qa2,ih]
theorem qmu(L:List Str):qa3 (sts L)=true:=by
 induction L with
 |nil=>rfl
 |cons a r ih=>simp only[sts,List.map_cons]at ih ⊢;simp[qa3,qa2,ih]
theorem sts_set{X:List Str} {k:Nat} {w:Str}:(sts X++bl5 (k+1)).set X.length (.str w)=sts (X++[w])++bl5 k:=by rw[List.set_append_right _ _ (by simp[sts])];simp[sts,bl5,List.replicate_succ]
theorem mkStrs{H:Heap} {n:Nat} (h:n<=1000000):qh4 PG H 144 (.int .i64 (n:Int)) (.int .i64 (n:Int))=some (.slc H.n 0 n (.ex n),H.new (.cells (bl5 n))):=by
 have hr:∀n,replL [AV.str []] n=bl5 n:=fun n=>by
  induction n with
  |zero=>rfl
  |succ n ih=>simp[replL,ih,bl5,List.replicate_succ]
 have h1:idx (n:Int) 17592186044416=some n:=qbj (by omega);have h2:idx (n:Int) (Nat.succ n)=some n:=qbj (by omega);have h3:qde n 16=true:=by unfold qde;rw[Nat.ble_eq];omega
 unfold qh4 msB;simp[h1,h2,h3,hr]
theorem mkSp{H:Heap}:qh4 PG H 176 (.int .i64 0) (.int .i64 32)=some (.slc H.n 0 0 (.ex 32),H.new (.cells (qoy 64))):=rfl
theorem ixS{b n i:Nat} {c:Cap} (h:i < n):qan PG 144 (.slc b 0 n c) (.int .i64 (i:Int))=some (.ptr b i):=by simp[qan,qbj h]
theorem layS{v:AV}:∀{cs:List AV} {i:Nat},i < cs.length->qjh [v] i cs=some (cs.set i v)
 |[],_,h=>absurd h (Nat.not_lt_zero _)
 |x::r,0,_=>by simp[qjh,qhi]
 |x::r,i+1,h=>by simp only[qjh,layS (cs:=r) (i:=i) (by simpa using h)];rfl
def aSp(L:List (Nat × Nat)):AV:=.fslc 2 (L.map spn)
theorem atSp{L:List (Nat × Nat)} {i:Nat} (h:i < L.length):qan PG 176 (aSp L) (.int .i64 (i:Int))=some (.fptr [.int .i64 ((L[i]).1:Int),.int .i64 ((L[i]).2:Int)] 0):=by simp[qan,aSp,qbj h,qgn h];simp[spn]
theorem lenSp{H:Heap} {L:List (Nat × Nat)}:qeq PG H 176 (aSp L)=some L.length:=by simp[qeq,aSp]
theorem slW{H:Heap} {s:Str} {a b:Nat} (h1:a<=b) (h2:b<=s.length):qcs PG H 9 (.str s) (some (.int .i64 (a:Int))) (some (.int .i64 (b:Int))) none=some (.str (qdr s (a,b))):=by have i1:idx (b:Int) (Nat.succ s.length)=some b:=qbj (by omega);have i2:idx (a:Int) (Nat.succ b)=some a:=qbj (by omega);simp[qcs,qr3,qch,i1,i2,qdr,List.drop_take]
theorem nx_yes{m i:Nat} {s:Str} {B:Blk} (h:i < s.length) (hc:s[i].toNat < 128):qsn ⟨m,[[(1,.iter s i),(0,B)]]⟩ 1=some (.tup [.bool true,.int .i64 i,.int .i32 (s[i].toNat:Int)],⟨m,[[(1,.iter s (i+1)),(0,B)]]⟩):=by
 have hb:Nat.blt i s.length=true:=by simpa using h
 simp[qsn,zG,hb,zcc h hc,Heap.set,setFs,setF]
theorem nx_no{m i:Nat} {s:Str} {B:Blk} (h:¬ i < s.length):qsn ⟨m,[[(1,.iter s i),(0,B)]]⟩ 1=some (.tup [.bool false],⟨m,[[(1,.iter s i),(0,B)]]⟩):=by
 have hb:Nat.blt i s.length=false:=by
  cases hq:Nat.blt i s.length with
  |false=>rfl
  |true=>exact absurd (by simpa using hq) h
 simp[qsn,zG,hb]
theorem qqc(n:Nat) (b:Nat):∃c,(if n<=32 then AV.slc b 0 n (.ex 32) else AV.slc b 0 n (.rest 2))=.slc b 0 n c/\spV n=.slc 0 0 n c:=by
 unfold spV;split
 ·exact⟨_,rfl,rfl⟩
 ·exact⟨_,rfl,rfl⟩
theorem fit_spV{L:List (Nat × Nat)} {σ:List (Nat × Nat)} {Φ:List (Nat × List AV)} (h:qcn 0 Φ=some (spB L)):qap σ Φ (spV L.length) (aSp L):=by obtain⟨c,_,hc⟩:=qqc L.length 0;rw[hc];simp only[aSp,qap];refine .inl ⟨_,h,?_,by simp,(el_spn L).size⟩;rw[qx3,qu5]
theorem zbu{H:Heap} {b:Nat} {cs:List AV} (h:H.get b=some (.cells cs)) (hp:qa3 cs=true):FitH 0 [] [(b,cs)] H ⟨0,[[]]⟩:=by refine⟨by simp,by simp,by simp[Heap.ents],fun x h=>(by cases h),fun x h=>(by cases h),Nat.le_refl _,fun e h=>(by simp[Heap.ents]at h),fun x hx=>?_⟩;rw[List.mem_singleton]at hx;subst hx;exact⟨_,h,qao hp,hp⟩
theorem ql3{n:Nat}:qap [(1,1),(0,0)] [] (spV n) (spV n):=by obtain⟨c,_,hc⟩:=qqc n 0;rw[hc];simp[qap,qav]
def sbC:List Nat->Code->Code
 |[],c=>c
 |d::r,c=>match c with
  |.seq a b=>match d with
   |0=>sbC r a
   |_=>sbC r b
  |c=>c
def bdO(f:Func):Code:=match f.body with
 |some c=>c
 |none=>.skip
theorem qx2:∀(L:List Str),qa8 (L.map AV.str)=sts L
 |[]=>rfl
 |a::r=>by simp only[List.map_cons,qa8,qx2 r];rfl
def cdFF:Code:=sbC [1,1,1,1,1] (bdO Tryz.f214)
theorem zbz(s:Str) (L:List (Nat × Nat)) (hL:L.length<=1000000) (hr:∀p,p∈L->p.1<=p.2/\p.2<=s.length) (W:List Str) (hW:L.map (qdr s)=W) :
  WpSr (ctx T) 0 none cdFF ((⟨[0,1,4,5,6,7,8,9,10,11,14,15,47,48,49],[.str s,uD,.nilS,aSp L,uD,uD,uD,uD,uD,uD,uD,uD,uD,uD,uD],[],65,⟨0,[[]]⟩⟩ : St)) (fun x s=>(x=.normal\/x=.ret)/\∃vs,retVal (ctx T) s [.tmp 4]=some vs/\∃σ Φ,qap σ Φ (oneOr vs) (qd4 W)/\FitH 0 σ Φ s.H zH):=by
 simp only[cdFF,sbC,bdO,Tryz.f214];have hm:=fun H=>mkStrs (H:=H) (n:=L.length) hL;apply qR;simp[zS,lenSp,hm];apply qR;simp[zS,lenSp];obtain⟨F,hF⟩ : ∃F:Nat->List Str,F=fun i=>(L.take i).map (qdr s):=⟨_,rfl⟩;have hF0:F 0=[]:=by rw[hF];simp
 have hFl:∀i,i<=L.length->(F i).length=i:=fun i hi=>by rw[hF];simp;omega
 have hFs:∀(i:Nat) (h:i < L.length),F (i+1)=F i++[qdr s L[i]]:=fun i h=>by rw[hF];show (L.take (i+1)).map (qdr s)=_;rw[List.take_succ_eq_append_getElem h,List.map_append];rfl
 have hFn:F L.length=W:=by rw[hF,<- hW];simp
 refine qa4 (qb1 (fun i:Nat=>(⟨[0,1,4,5,6,7,8,9,10,11,14,15,47,48,49],[.str s,uD,.nilS,uD,uD,uD,uD,.slc 0 0 L.length (.ex L.length),uD,uD,uD,uD,aSp L,.int .i64 (L.length:Nat),.int .i64 i],[],65,⟨1,[[(0,.cells (sts (F i)++bl5 (L.length - i)))]]⟩⟩ : St))
  (fun i=>i<=L.length) (fun i=>L.length - i) [(0,0)] [] 0 (Nat.zero_le _)
  ⟨rfl,rfl,rfl,by simp[qax,qap,qav,qa2,aSp],.keep1 (b:=0) (by rw[hF0];simp[zG,sts]) (by rw[qdn,qmu,qxi];rfl) rfl⟩ ?_)
 rintro i hi B hB;apply qR;simp[zS];repeat apply wq
 refine qbf rfl (fun h=>?_) fun h=>?_
 ·simp at h;apply qa6;simp;repeat apply wq
  apply qa4;obtain⟨r1,r2⟩:=hr L[i] (List.getElem_mem _);have hw:=fun H=>slW (H:=H) r1 r2;have hlen:i < (sts (F i)++bl5 (L.length - i)).length:=by simp[sts,bl5,hFl i hi];omega
  have hset:(sts (F i)++bl5 (L.length - i)).set i (.str (qdr s ((L[i]).1,(L[i]).2)))=sts (F (i+1))++bl5 (L.length - (i+1)):=by have:=sts_set (X:=F i) (k:=L.length - (i+1)) (w:=qdr s L[i]);rw[hFl i hi,<- hFs i h]at this;rw[show L.length - i=L.length - (i+1)+1 by omega];exact this
  have hla:=layS (v:=.str (qdr s ((L[i]).1,(L[i]).2))) hlen;rw[hset]at hla;generalize sts (F i)++bl5 (L.length - i)=C0 at *;generalize hC1:sts (F (i+1))++bl5 (L.length - (i+1))=C1 at *;apply qR;simp[zS,atSp h];apply qR;simp[zS,hw,ixS h,hla];apply qR;simp[zS,qbo (show i<=1000000000 by omega)];refine hB _ (i+1) (by omega) (by omega) ⟨[(0,0)],[],rfl,rfl,rfl,by simp[qax,qap,qav,qa2,aSp],?_⟩;rw[hC1];exact .keep1 (b:=0) (by simp[zG]) (by rw[<- hC1,qdn,qmu,qxi];rfl) rfl
 ·simp at h;have hie:i=L.length:=by omega
  subst hie;have hz:sts (F L.length)++bl5 (L.length - L.length)=sts W:=by rw[Nat.sub_self,hFn];simp[bl5]
  have hlW:W.length=L.length:=by rw[<- hW];simp
  rw[hz,<- hlW];apply qas;simp;apply qR;simp[zS];apply qa7;simp[retVal,oneOr];refine⟨[],[(0,sts W)],?_,.froze (by simp) fun y hy=>?_⟩
  ·have hf:=qx2 W;simp only[qap];refine .inl ⟨sts W,by simp[qcn],?_,by simp,(zc8 W).size⟩;rw[hf,qj0 (by simp[sts]),List.drop_zero,List.take_of_length_le (by simp[sts])]
  ·rw[List.mem_singleton]at hy;subst hy;exact⟨_,by simp[zG],qao (qmu W),qmu W⟩
theorem dec_high{s:Str} {i:Nat} (h:i < s.length) (hc:¬ s[i].toNat < 128):∃r w,Utf8.decode ⟨s.toArray⟩ i=(r,w)/\128<=r/\1<=w/\∀k,k < w->∃hk:i+k < s.length,¬ s[i+k].toNat < 128:=by
 have sz:(ByteArray.mk s.toArray).size=s.length:=by simp[ByteArray.size]
 have get:∀k (hk:i+k < s.length),((ByteArray.mk s.toArray).get! (i+k)).toNat=s[i+k].toNat:=fun k hk=>by show (s.toArray[i+k]!).toNat=_;simp[hk]
 have cont:∀k,(decide (i+k < (ByteArray.mk s.toArray).size) && ((ByteArray.mk s.toArray).get! (i+k)).toNat / 64 == 2)=true->∃hk:i+k < s.length,¬ s[i+k].toNat < 128:=fun k hk=>by rw[sz,Bool.and_eq_true,decide_eq_true_eq,beq_iff_eq]at hk;obtain⟨h1,h2⟩:=hk;rw[get k h1]at h2;exact⟨h1,by omega⟩
 have z0:∃hk:i+0 < s.length,¬ s[i+0].toNat < 128:=⟨h,hc⟩;have g0:=get 0 h;have b0:¬ ((ByteArray.mk s.toArray).get! (i+0)).toNat < 128:=by rw[g0];exact hc
 have one:∀k,k < 1->∃hk:i+k < s.length,¬ s[i+k].toNat < 128:=fun k hk=>match k,hk with | 0,_=>z0|k+1,hk=>absurd hk (by omega)
 have er:128<=Utf8.runeError:=by decide
 unfold Utf8.decode;simp only[if_neg b0];split
 ·rename_i h1;rw[Bool.and_eq_true]at h1;have c1:=cont 1 h1.2;split
  next hx=>exact⟨_,_,rfl,by omega,by omega,fun k hk=>match k,hk with | 0,_=>z0 | 1,_=>c1|k+2,hk=>absurd hk (by omega)⟩
  ·exact⟨_,_,rfl,er,by omega,one⟩
 split
 ·rename_i h1;rw[Bool.and_eq_true,Bool.and_eq_true]at h1;have c1:=cont 1 h1.1.2;have c2:=cont 2 h1.2;split
  next hx=>rw[Bool.and_eq_true,decide_eq_true_eq]at hx;exact⟨_,_,rfl,by omega,by omega,fun k hk=>match k,hk with | 0,_=>z0 | 1,_=>c1 | 2,_=>c2|k+3,hk=>absurd hk (by omega)⟩
  ·exact⟨_,_,rfl,er,by omega,one⟩
 split
 ·rename_i h1;rw[Bool.and_eq_true,Bool.and_eq_true,Bool.and_eq_true]at h1;have c1:=cont 1 h1.1.1.2;have c2:=cont 2 h1.1.2;have c3:=cont 3 h1.2;split
  next hx=>rw[Bool.and_eq_true,decide_eq_true_eq]at hx;exact⟨_,_,rfl,by omega,by omega,fun k hk=>match k,hk with | 0,_=>z0 | 1,_=>c1 | 2,_=>c2 | 3,_=>c3|k+4,hk=>absurd hk (by omega)⟩
  ·exact⟨_,_,rfl,er,by omega,one⟩
 ·exact⟨_,_,rfl,er,by omega,one⟩
theorem nx_high{m i r w:Nat} {s:Str} {B:Blk} (h:i < s.length) (hd:Utf8.decode ⟨s.toArray⟩ i=(r,w)):qsn ⟨m,[[(1,.iter s i),(0,B)]]⟩ 1=some (.tup [.bool true,.int .i64 i,.int .i32 (r:Int)],⟨m,[[(1,.iter s (i+w)),(0,B)]]⟩):=by
 have hb:Nat.blt i s.length=true:=by simpa using h
 simp[qsn,zG,hb,hd,Heap.set,setFs,setF]
theorem qzx{c:UInt8} (h:¬ c.toNat < 128):sp c=false:=by unfold sp;simp only[Bool.or_eq_false_iff,decide_eq_false_iff_not];omega
theorem qu7{s:Str} {i a:Nat} {L:List (Nat × Nat)} (k:SpOk s i L (a:Int)):∀w,(∀j,j < w->∃hk:i+j < s.length,¬ s[i+j].toNat < 128)->SpOk s (i+w) L (a:Int)
 |0,_=>k
 |w+1,h=>by obtain⟨h1,h2⟩:=h w (by omega);exact qvt h1 (qu7 k w fun j hj=>h j (by omega)) (qzx h2)
theorem sp_run0{s:Str} {i:Nat} {L:List (Nat × Nat)} {st:Int} (k:SpOk s i L st) (h0:st < 0) {w:Nat} (hw:1<=w) (h:∀j,j < w->∃hk:i+j < s.length,¬ s[i+j].toNat < 128):SpOk s (i+w) L (i:Int):=by
 obtain⟨h1,h2⟩:=h 0 (by omega);have h1':i < s.length:=by omega
 have h2':¬ s[i].toNat < 128:=by simpa using h2
 have e:=qvu h1' k (qzx h2') h0;have:=qu7 e (w - 1) fun j hj=>by obtain⟨g1,g2⟩:=h (j+1) (by omega);exact⟨by omega,by simpa[show i+1+j=i+(j+1) by omega]using g2⟩
 rwa [show i+1+(w - 1)=i+w by omega]at this
theorem c214g(s:Str) (hl:s.length<=900000) (clo:FuncId) (hp:∀c:UInt8,c.toNat < 128->CallAt (ctx T) clo [.int .i32 (c.toNat:Int)] zH (.bool (sp c)) zH) (hr:∀r:Nat,128<=r->CallAt (ctx T) clo [.int .i32 (r:Int)] zH (.bool false) zH) :
  CallAt (ctx T) 214 [.str s,.func (.func clo) [] []] zH (qd4 (qe5 s)) zH:=by
 have hm1:wr .i64 (0 - 1)=some (-1):=rfl;refine qa0 (s0:=⟨[0,1,4,5,6,7,8,9,10,11,14,15,47,48,49],[.str s,.func (.func clo) [] [],uD,uD,uD,uD,uD,uD,uD,uD,uD,uD,uD,uD,uD],[],65,⟨0,[[]]⟩⟩) Tryz.func214 rfl rfl rfl ?_;apply qR;simp[zS];apply qR;simp[zS,mkSp];apply qR;simp[zS];apply qR;simp[zS,rgV];refine qa4 (qb1 (fun x:Nat × List (Nat × Nat) × Int=>(⟨[0,1,4,5,6,7,8,9,10,11,14,15,47,48,49],[.str s,.func (.func clo) [] [],.nilS,spV x.2.1.length,.int .i64 x.2.2,uD,uD,uD,uD,uD,.ptr 1 0,uD,uD,uD,uD],[],65,⟨2,[[(1,.iter s x.1),(0,.cells (spB x.2.1))]]⟩⟩ : St))
  (fun x=>SpOk s x.1 x.2.1 x.2.2) (fun x=>s.length - x.1) [(1,1),(0,0)] [] (0,[],-1) (sp_begin s)
  ⟨rfl,rfl,rfl,by simp[qax,qap,qav,qa2,qa3,spV],qoh (by omega) (by simp[zG]) (by simp[zG,spB,qoz]) (qfp _)⟩ ?_)
 rintro⟨i,L,st⟩ hk B hB;have hi:=hk.le;have hfew:=hk.few;have hlo:=hk.lo;simp only at hi hfew hlo hk;by_cases h:i < s.length
 ·by_cases hc:s[i].toNat < 128
  case neg=>
   obtain⟨r,w,hd,hr1,hw,hk2⟩:=dec_high h hc;have hcall:=(hr r hr1).lift (by simp[qa3,qa2]) ⟨2,[[(1,.iter s (i+w)),(0,.cells (spB L))]]⟩;have stay:∀(st':Int),SpOk s (i+w) L st'->∀s':St,Fit 0 [(1,1),(0,0)] [] s' ((⟨[0,1,4,5,6,7,8,9,10,11,14,15,47,48,49],[.str s,.func (.func clo) [] [],.nilS,spV L.length,.int .i64 st',uD,uD,uD,uD,uD,.ptr 1 0,uD,uD,uD,uD],[],65,⟨2,[[(1,.iter s (i+w)),(0,.cells (spB L))]]⟩⟩ : St))->B s':=fun st' h1 s' h2=>hB s' (i+w,L,st') (by simp only;have:=h1.le;omega) h1 ⟨_,_,h2⟩;apply qR;simp[zS,nxV,nx_high h hd];repeat apply wq
   apply qah rfl;apply qa6;simp;apply qa4;apply qR;simp[zS];repeat apply wq
   refine qam (qbu [⟨clo,_,_,_,_,hcall⟩]) ?_;simp[zS,qd9];apply qai rfl;rcases hk.cur with⟨h0,_⟩|⟨a,ha,hai,_⟩
   ·apply qR;simp[zS,h0];apply qah rfl;apply qR;simp[zS];exact stay i (sp_run0 hk h0 hw hk2) _ ⟨rfl,rfl,rfl,by simp[qax,qap,qav,qa2,qa3,ql3],qoh (by omega) (by simp[zG]) (by simp[zG]) (qfp _)⟩
   ·subst ha;have hge:¬ (a:Int) < 0:=(by omega);apply qR;simp[zS,hge];refine qai (by simp[qbr,St.get,hge]) ?_;apply qa6;simp;exact stay a (qu7 hk w hk2) _ ⟨rfl,rfl,rfl,by simp[qax,qap,qav,qa2,qa3,ql3],qoh (by omega) (by simp[zG]) (by simp[zG]) (qfp _)⟩
  have hbu:∀a:Nat,qdw PG 178 [(0,.int .i64 (a:Int)),(1,.int .i64 (i:Int))]=some (.agg [.int .i64 (a:Int),.int .i64 (i:Int)]):=fun a=>rfl;have hcall:=(hp s[i] hc).lift (by simp[qa3,qa2]) ⟨2,[[(1,.iter s (i+1)),(0,.cells (spB L))]]⟩;have stay:∀(st':Int) (σ0:Unit),SpOk s (i+1) L st'->∀s':St,Fit 0 [(1,1),(0,0)] [] s' ((⟨[0,1,4,5,6,7,8,9,10,11,14,15,47,48,49],[.str s,.func (.func clo) [] [],.nilS,spV L.length,.int .i64 st',uD,uD,uD,uD,uD,.ptr 1 0,uD,uD,uD,uD],[],65,⟨2,[[(1,.iter s (i+1)),(0,.cells (spB L))]]⟩⟩ : St))->B s':=fun st' _ hok s' hf=>hB s' (i+1,L,st') (by simp only;omega) hok ⟨_,_,hf⟩;apply qR;simp[zS,nxV,nx_yes h hc];repeat apply wq
  apply qah rfl;apply qa6;simp;apply qa4;rcases Bool.eq_false_or_eq_true (sp s[i])with hsp|hsp
  ·rw[hsp]at hcall;apply qR;simp[zS];repeat apply wq
   refine qam (qbu [⟨clo,_,_,_,_,hcall⟩]) ?_;simp[zS,qd9];apply qah rfl;rcases hk.cur with⟨h0,_⟩|⟨a,ha,hai,_⟩
   ·have hge:¬ (0:Int)<=st:=(by omega);apply qR;simp[zS,hge];apply qai rfl;apply qa6;simp;exact stay st () (qzw h hk hsp h0) _ ⟨rfl,rfl,rfl,by simp[qax,qap,qav,qa2,qa3,ql3],qoh (by omega) (by simp[zG]) (by simp[zG]) (qfp _)⟩
   ·subst ha;have hge:(0:Int)<=(a:Int):=(by omega);obtain⟨b,m,f,hb1,happ,hg1,hg2⟩:=app_sp (L:=L) (p:=(a,i)) (I:=.iter s (i+1)) (by omega);have hxo:=xor_not (a:=a) (by omega);obtain⟨c,e1,e2⟩:=qqc (L.length+1) b;simp only[e1]at happ;apply qR;simp[zS,hge];refine qah (by simp[qbr,St.get]) ?_;apply qR;simp[zS,hbu,happ];apply qR;simp[zS,hxo];refine hB _ (i+1,L++[(a,i)],-(a:Int) - 1) (by simp only;omega) (qzv h hk hsp (by omega)) ⟨[(1,1),(b,0)],[],rfl,rfl,rfl,?_,qoh hb1 hg1 hg2 (qfp _)⟩;simp only[List.length_append,List.length_cons,List.length_nil,Nat.zero_add,e2];simp[qax,qap,qav,qa2,qa3];omega
  ·rw[hsp]at hcall;apply qR;simp[zS];repeat apply wq
   refine qam (qbu [⟨clo,_,_,_,_,hcall⟩]) ?_;simp[zS,qd9];apply qai rfl;rcases hk.cur with⟨h0,_⟩|⟨a,ha,hai,_⟩
   ·apply qR;simp[zS,h0];apply qah rfl;apply qR;simp[zS];exact stay i () (qvu h hk hsp h0) _ ⟨rfl,rfl,rfl,by simp[qax,qap,qav,qa2,qa3,ql3],qoh (by omega) (by simp[zG]) (by simp[zG]) (qfp _)⟩
   ·subst ha;have hge:¬ (a:Int) < 0:=(by omega);apply qR;simp[zS,hge];refine qai (by simp[qbr,St.get,hge]) ?_;apply qa6;simp;exact stay a () (qvt h hk hsp) _ ⟨rfl,rfl,rfl,by simp[qax,qap,qav,qa2,qa3,ql3],qoh (by omega) (by simp[zG]) (by simp[zG]) (qfp _)⟩
 ·have hie:i=s.length:=by omega
  subst hie;have hbu:∀a:Nat,qdw PG 178 [(0,.int .i64 (a:Int)),(1,.int .i64 (s.length:Int))]=some (.agg [.int .i64 (a:Int),.int .i64 (s.length:Int)]):=fun a=>rfl;apply qR;simp[zS,nxV,nx_no h];repeat apply wq
  apply qai rfl;apply qas;simp;rcases hk.cur with⟨h0,_⟩|⟨a,ha,hai,_⟩
  ·have hge:¬ (0:Int)<=st:=(by omega);apply qR;simp[zS,hge];refine qai (by simp[qbr,St.get,hge]) ?_;apply qa6;simp only[qab];refine WpSr.fit [] [(0,spB L)] (s':=(⟨[0,1,4,5,6,7,8,9,10,11,14,15,47,48,49],[.str s,uD,.nilS,aSp L,uD,uD,uD,uD,uD,uD,uD,uD,uD,uD,uD],[],65,⟨0,[[]]⟩⟩ : St)) ⟨rfl,rfl,rfl,by simp[qax,qap,qa2];exact fit_spV (by simp[qcn]),?_⟩ (zbz s L (by omega) hk.rng _ (sp_end0 hk h0));exact zbu (by simp[zG]) (qfp _)
  ·subst ha;obtain⟨hw,hal⟩:=sp_end1 hk;have hge:(0:Int)<=(a:Int):=(by omega);obtain⟨b,m,f,hb1,happ,hg1,hg2⟩:=app_sp (L:=L) (p:=(a,s.length)) (I:=.iter s s.length) (by omega);obtain⟨c,e1,e2⟩:=qqc (L.length+1) b;simp only[e1]at happ;apply qR;simp[zS,hge];refine qah (by simp[qbr,St.get]) ?_;apply qR;simp[zS,hbu,happ];have hfv:qap [] [(b,spB (L++[(a,s.length)]))] (.slc b 0 (L.length+1) c) (aSp (L++[(a,s.length)])):=(by simp only[aSp,qap];refine .inl ⟨_,by simp[qcn];rfl,?_,by simp,(el_spn _).size⟩;have:=qu5 (L++[(a,s.length)]);rw[qx3];simpa using this);refine WpSr.fit [] [(b,spB (L++[(a,s.length)]))] (s':=(⟨[0,1,4,5,6,7,8,9,10,11,14,15,47,48,49],[.str s,uD,.nilS,aSp (L++[(a,s.length)]),uD,uD,uD,uD,uD,uD,uD,uD,uD,uD,uD],[],65,⟨0,[[]]⟩⟩ : St)) ⟨rfl,rfl,rfl,by simp[qax,qap,qa2]at hfv ⊢;exact hfv,?_⟩ (zbz s (L++[(a,s.length)]) (by simp;omega) (fun p hp=>?_) _ hw)
   ·exact zbu hg2 (qfp _)
   ·rcases List.mem_append.1 hp with hp|hp
    ·exact hk.rng p hp
    ·simp at hp;subst hp;exact⟨by simp only;omega,by simp only;omega⟩
theorem c215h(r:Nat) (h:128<=r):CallAt (ctx T) 215 [.int .i32 (r:Int)] zH (.bool false) zH:=by
 have h1:¬ (r:Int) < 128:=by omega
 have h2:¬ r < 128:=by omega
 refine qa0 (s0:=⟨[0,2],[.int .i32 (r:Int),uD],[],10,⟨0,[[]]⟩⟩) Tryz.func215 rfl rfl rfl ?_
 (repeat (first
  |(apply qaa)
  |(apply qa4)
  |(apply qdq;simp only[qab,qa5])
  |((refine qam qb6 ?_);simp[zS,h1,h2])
  |apply qah rfl
  |apply qai rfl
  |((apply qa6);simp only[qab,qa5])
  |((apply qas);simp)))
 apply qa7;simp[zQ,Tryz.f215];exact qak rfl (by rfl)
theorem c193(s:Str) (hs:qbx s) (hl:s.length<=900000):CallAt (ctx T) 193 [.str s] zH (qd4 (qe5 s)) zH:=by
 have hc:=(c214g (T:=T) s hl 215 (fun c h=>c215 (T:=[e191]) rfl c h) c215h).lift (by simp[qa3,qa2]) ⟨0,[[]]⟩;generalize qe5 s=W at *;refine qa0 (s0:=⟨[0,2],[.str s,uD],[],5,⟨0,[[]]⟩⟩) Tryz.func193 rfl rfl rfl ?_;apply qR;simp[zS];repeat apply wq
 refine qam (qbu [⟨214,_,_,_,_,hc⟩]) ?_;simp[zS,qd9];apply qa7;simp[zQ,Tryz.f193];first|exact⟨[],[],FitH.empty⟩|exact qak rfl (by rfl)
theorem c133a(W x:Str) (hW:qbx W) (hl:W.length<=100000) (hx:x.length<=1000000000):CallAt (ctx T) 133 [.str W,.str x] zH (.bool (inW W x)) zH:=
 c133 (T:=[e190,e191]) rfl rfl W x hl hx (c193 (T:=[]) W hW (by omega)) (c192 (T:=[e213]) rfl _ x (by have:=qxl W;omega))
def e133a:Entry PG:=mkE 133 [[],[]] (fun x:Str × Str=>[.str x.1,.str x.2]) (fun x=>qbx x.1/\x.1.length<=100000/\x.2.length<=1000000000) (fun x=>.bool (inW x.1 x.2)) fun x hx=>c133a (T:=[]) x.1 x.2 hx.1 hx.2.1 hx.2.2
theorem qo8(hT:qa9 133 T=some e133a.g) {W x:Str} (hW:qbx W) (hl:W.length<=100000) (hx:x.length<=1000000000) (H:Heap):qat (ctx T) (.fn 133) [.str W,.str x] H=some (.bool (inW W x),H):=
 qb2 hT inj_str2 (W,x) ⟨hW,hl,hx⟩ rfl (by simp)
def qbv(n:Nd) (W:Str):Bool:=!decide (n.name=[]) && decide (n.kind=1) && decide (n.space=0) && inW W n.name
theorem c76(hN:qa9 157 T=some e157.g) (hI:qa9 133 T=some e133a.g) (t:Tr) (i:Int) (W:Str) (hW:qbx W) (hl:W.length<=100000) (hx:(qbh t i).name.length<=1000000000):CallAt (ctx T) 76 [qba t,.int .i64 i,.str W] zH (.bool (qbv (qbh t i) W)) zH:=by
 have kn:=fun H=>k157 hN t i H;have ki:=fun H=>qo8 hI (x:=(qbh t i).name) hW hl hx H;generalize qbh t i=n at *;obtain⟨kind,space,name,attrs,data,up,kids⟩:=n;simp only[qba,qag,Nd.cs,qau]at kn ki;have sA:∀L,(qaf L).single=true:=fun _=>rfl;have sI:∀L,(qac L).single=true:=fun _=>rfl;have rA:∀L,refs 6 (qaf L)=[]:=fun _=>rfl;have rI:∀L,refs 6 (qac L)=[]:=fun _=>rfl;refine qa0 (s0:=⟨[0,1,2,3,6,7],[qba t,.int .i64 i,.str W,uD,uD,uD],[],30,⟨0,[[]]⟩⟩) Tryz.func76 rfl rfl rfl ?_;apply qR;simp[zS,qba];apply qR;simp[zS,kn,sA,sI,rA,rI];by_cases h1:name=[]
 ·apply qR;simp[zS,h1];apply qa7;simp[zQ,Tryz.f76];exact qak rfl (by simp[qbv,h1])
 ·by_cases h2:kind=1
  ·by_cases h3:space=0
   ·apply qR;simp[zS,h1,h2,h3,ki];apply qa7;simp[zQ,Tryz.f76];exact qak rfl (by simp[qbv,h1,h2,h3])
   ·apply qR;simp[zS,h1,h2,h3];apply qa7;simp[zQ,Tryz.f76];exact qak rfl (by simp[qbv,h1,h2,h3])
  ·apply qR;simp[zS,h1,h2];apply qa7;simp[zQ,Tryz.f76];exact qak rfl (by simp[qbv,h1,h2])
theorem inj_TIS(x y:Tr × Int × Str) (h:[qba x.1,.int .i64 x.2.1,.str x.2.2]=[qba y.1,.int .i64 y.2.1,.str y.2.2]):x=y:=by simp at h;exact Prod.ext (qfg h.1) (Prod.ext h.2.1 h.2.2)
def e76:Entry PG:=mkE 76 [[7],[],[]] (fun x:Tr × Int × Str=>[qba x.1,.int .i64 x.2.1,.str x.2.2]) (fun x=>qbx x.2.2/\x.2.2.length<=100000/\(qbh x.1 x.2.1).name.length<=1000000000) (fun x=>.bool (qbv (qbh x.1 x.2.1) x.2.2)) fun x h=>c76 (T:=[e157,e133a]) rfl rfl x.1 x.2.1 x.2.2 h.1 h.2.1 h.2.2
theorem q76(hT:qa9 76 T=some e76.g) {a:AV} {H:Heap} {t:Tr} (ha:qcy H [7] a=some (qba t)) (i:Int) {W:Str} (hW:qbx W) (hl:W.length<=100000) (hx:(qbh t i).name.length<=1000000000):qat (ctx T) (.fn 76) [a,.int .i64 i,.str W] H=some (.bool (qbv (qbh t i) W),H):=
 qb2 hT inj_TIS (t,i,W) ⟨hW,hl,hx⟩ rfl (by simp[ha])
section
variable {C:Ctx} {call:qc5} {ops:Array Oper} {s:St} {o:Oper} {l:List Oper} {P:St->Prop}
theorem qz1{E R:Option St} (h:E=R) (k:∃s',R=some s'/\P s'):∃s',E=some s'/\P s':=by subst h;exact k
theorem qad(h:P s):∃s',some s=some s'/\P s':=⟨s,rfl,h⟩
theorem qe3{b:Bool} (h1:b=true->∃s',qhy C call ops (qut C call s o (some true)) l=some s'/\P s') (h2:b=false->∃s',qhy C call ops (qut C call s o (some false)) l=some s'/\P s') :
  ∃s',qhy C call ops (qut C call s o (some b)) l=some s'/\P s':=by
 cases b with
 |true=>exact h1 rfl
 |false=>exact h2 rfl
theorem qy7{H:Heap} {d:Option Tmp} {p q:Option AV} {b:Bool} (h1:b=true->∃s',qhy C call ops (putV s d (qy8 H (some (.bool true)) p q)) l=some s'/\P s') (h2:b=false->∃s',qhy C call ops (putV s d (qy8 H (some (.bool false)) p q)) l=some s'/\P s') :
  ∃s',qhy C call ops (putV s d (qy8 H (some (.bool b)) p q)) l=some s'/\P s':=by
 cases b with
 |true=>exact h1 rfl
 |false=>exact h2 rfl
theorem rE{n:Nat} {r:Option Nat} {id:Nat} {ops:Array Oper} {s:St} {Q:Out->St->Prop} {R:Option St} (h:qej (ctx T) (qat (ctx T)) ops ops.toList { s with ts:=[] }=R) (k:∃s1,R=some s1/\Q .normal s1):WpSr (ctx T) n r (.region id ops false) s Q:=qam qb6 (qz1 h k)
end
theorem qyw{W:Str} (h:W.all (fun c=>decide (c.toNat < 128))=true):qbx W:=trivial
section
variable (n:Nd)
@[simp]theorem nd_cells:(qag n).cells=n.cs:=rfl
@[simp]theorem nd_len:n.cs.length=7:=rfl
@[simp]theorem nd_single:allSingle n.cs=true:=rfl
@[simp]theorem nd_over{a b c d e f g:AV}:qhi n.cs [a,b,c,d,e,f,g]=some n.cs:=rfl
@[simp]theorem nd_lay{a b c d e f g:AV}:qjh n.cs 0 [a,b,c,d,e,f,g]=some n.cs:=rfl
@[simp]theorem nd_over'{m:Nd}:qhi n.cs m.cs=some n.cs:=rfl
@[simp]theorem nd_lay'{m:Nd}:qjh n.cs 0 m.cs=some n.cs:=rfl
@[simp]theorem nd_refs:n.cs.flatMap (refs 6)=[]:=qdu 6 _ (pure_cs n)
@[simp]theorem nd_take:qe8 7 n.cs=some n.cs:=rfl
@[simp]theorem nd_sub:qf1 0 7 n.cs=some n.cs:=rfl
theorem zax:AV.agg n.cs=qag n:=rfl
@[simp]theorem nd_f0:qc9 PG 65 (qag n) 0=some (.int .i64 n.kind):=rfl
@[simp]theorem nd_f1:qc9 PG 65 (qag n) 1=some (.int .i64 n.space):=rfl
@[simp]theorem nd_f2:qc9 PG 65 (qag n) 2=some (.str n.name):=rfl
@[simp]theorem nd_f3:qc9 PG 65 (qag n) 3=some (qaf n.attrs):=rfl
@[simp]theorem nd_f4:qc9 PG 65 (qag n) 4=some (.str n.data):=rfl
@[simp]theorem nd_f5:qc9 PG 65 (qag n) 5=some (.int .i64 n.up):=rfl
@[simp]theorem nd_f6:qc9 PG 65 (qag n) 6=some (qac n.kids):=rfl
end
structure QA where
 C:Ctx
 call:qc5
 ops:Array Oper
 base:Nat
abbrev QR:=St × List Pend × Option Nat
open Classical in
def chg(c:Option Nat) (i:Nat) (H' H:Heap):Option Nat:=if H'=H then c else some (c.getD i)
theorem chg_same{c:Option Nat} {i:Nat} {H:Heap}:chg c i H H=c:=by simp[chg]
def evQ(A:QA):Nat->List Oper->St->List Pend->Option Nat->Option QR
 |_,[],s,ps,c=>some (s,ps,c)
 |i,o::r,s,ps,c=>match qb9 o.op with
  |.allocs=>(qaz A.ops s o).bind fun g=>match g with
   |true=>(qbt A.C o s).bind fun k=>(s.put o.dst (k.1 (A.base+i))).bind fun s'=>evQ A (i+1) r s' (⟨i,A.base+i,k.2⟩::ps) c
   |false=>(s.put o.dst (.tup [])).bind fun s'=>evQ A (i+1) r s' ps c
  |.acts=>(qdt A.C A.call A.ops o (s.wH (s.H.lay (allPend ps)))).bind fun s'=>evQ A (i+1) r s' [] (chg c i s'.H s.H)
  |_=>(qdt A.C A.call A.ops o s).bind fun s'=>evQ A (i+1) r s' ps c
section
variable {A:QA} {i:Nat} {o:Oper} {r:List Oper} {s s':St} {ps:List Pend} {c:Option Nat} {H:Heap}
def nxQ(A:QA) (i:Nat) (r:List Oper) (ps:List Pend) (c:Option Nat):Option St->Option QR
 |none=>none
 |some s'=>evQ A (i+1) r s' ps c
def nxX(A:QA) (i:Nat) (r:List Oper) (c:Option Nat) (H:Heap):Option St->Option QR
 |none=>none
 |some s'=>evQ A (i+1) r s' [] (chg c i s'.H H)
def laQ(A:QA) (i:Nat) (o:Oper) (r:List Oper) (s:St) (ps:List Pend) (c:Option Nat):Option ((Nat->AV) × Blk)->Option QR
 |none=>none
 |some k=>nxQ A i r (⟨i,A.base+i,k.2⟩::ps) c (s.put o.dst (k.1 (A.base+i)))
def alQ(A:QA) (i:Nat) (o:Oper) (r:List Oper) (s:St) (ps:List Pend) (c:Option Nat):Option Bool->Option QR
 |none=>none
 |some true=>laQ A i o r s ps c (qbt A.C o s)
 |some false=>nxQ A i r ps c (s.put o.dst (.tup []))
def stQ(A:QA) (i:Nat) (o:Oper) (r:List Oper) (s:St) (ps:List Pend) (c:Option Nat):Cls->Option QR
 |.allocs=>alQ A i o r s ps c (qaz A.ops s o)
 |.acts=>nxX A i r c s.H (qdt A.C A.call A.ops o (s.wH (s.H.lay (allPend ps))))
 |.reads=>nxQ A i r ps c (qdt A.C A.call A.ops o s)
 |.pure=>nxQ A i r ps c (qdt A.C A.call A.ops o s)
theorem evQ_n:evQ A i [] s ps c=some (s,ps,c):=rfl
theorem evQ_c:evQ A i (o::r) s ps c=stQ A i o r s ps c (qb9 o.op):=by
 unfold evQ;cases qb9 o.op with
 |pure=>simp only[stQ];cases qdt A.C A.call A.ops o s<;>rfl
 |reads=>simp only[stQ];cases qdt A.C A.call A.ops o s<;>rfl
 |acts=>simp only[stQ];cases qdt A.C A.call A.ops o (s.wH (s.H.lay (allPend ps)))<;>rfl
 |allocs=>
  simp only[stQ];cases qaz A.ops s o with
  |none=>rfl
  |some g=>cases g with
   |false=>simp only[alQ,Option.bind_some];cases s.put o.dst (.tup [])<;>rfl
   |true=>
    simp only[alQ,Option.bind_some];cases qbt A.C o s with
    |none=>rfl
    |some k=>simp only[laQ,Option.bind_some];cases s.put o.dst (k.1 (A.base+i))<;>rfl
theorem stQ_p:stQ A i o r s ps c .pure=nxQ A i r ps c (qdt A.C A.call A.ops o s):=rfl
theorem stQ_r:stQ A i o r s ps c .reads=nxQ A i r ps c (qdt A.C A.call A.ops o s):=rfl
theorem stQ_a:stQ A i o r s ps c .acts=nxX A i r c s.H (qdt A.C A.call A.ops o (s.wH (s.H.lay (allPend ps)))):=rfl
theorem stQ_l:stQ A i o r s ps c .allocs=alQ A i o r s ps c (qaz A.ops s o):=rfl
theorem alQ_t:alQ A i o r s ps c (some true)=laQ A i o r s ps c (qbt A.C o s):=rfl
theorem alQ_f:alQ A i o r s ps c (some false)=nxQ A i r ps c (s.put o.dst (.tup [])):=rfl
theorem laQ_s{k:(Nat->AV) × Blk}:laQ A i o r s ps c (some k)=nxQ A i r (⟨i,A.base+i,k.2⟩::ps) c (s.put o.dst (k.1 (A.base+i))):=rfl
theorem nxQ_s:nxQ A i r ps c (some s')=evQ A (i+1) r s' ps c:=rfl
theorem nxX_s:nxX A i r c H (some s')=evQ A (i+1) r s' [] (chg c i s'.H H):=rfl
theorem zW:type_of% (And.intro @evQ_n (And.intro @evQ_c (And.intro @stQ_p (And.intro @stQ_r (And.intro @stQ_a (And.intro @stQ_l (And.intro @alQ_t (And.intro @alQ_f (And.intro @laQ_s (And.intro @nxQ_s (And.intro @nxX_s (And.intro @chg_same (And.intro @allPend.eq_1 @allPend.eq_2))))))))))))):=
 And.intro @evQ_n (And.intro @evQ_c (And.intro @stQ_p (And.intro @stQ_r (And.intro @stQ_a (And.intro @stQ_l (And.intro @alQ_t (And.intro @alQ_f (And.intro @laQ_s (And.intro @nxQ_s (And.intro @nxX_s (And.intro @chg_same (And.intro @allPend.eq_1 @allPend.eq_2))))))))))))
end
def isR:Cls->Bool
 |.reads=>true
 |_=>false
def isX:Cls->Bool
 |.acts=>true
 |_=>false
def isL:Cls->Bool
 |.allocs=>true
 |_=>false
def qmq(ops:Array Oper) (i:Nat):Cls:=match ops[i]? with
 |some o=>qb9 o.op
 |none=>.pure
def qnk(bef:Array Nat) (ops:Array Oper) (p:Nat):Bool:=(List.range ops.size).all fun j=>!(Nat.ble p j && isX (qmq ops j)) || (List.range ops.size).all fun i=>!isR (qmq ops i) ||
 match Nat.blt i j with
 |true=>ahead bef i j
 |false=>ahead bef j i && !ahead bef i j
def qqu(bef:Array Nat) (ops:Array Oper):Bool:=(List.range ops.size).all fun a=>!isL (qmq ops a) || (List.range ops.size).all fun j=>!(Nat.blt a j && isX (qmq ops j)) || ahead bef a j
def okC(ops:Array Oper):Option Nat->Bool
 |none=>true
 |some p=>qnk (Region.before ops) ops p
theorem qdj{ops:Array Oper} {c:Option Nat} {i:Nat} {H' H:Heap} (h:qnk (Region.before ops) ops i=true) (h2:okC ops c=true):okC ops (chg c i H' H)=true:=by
 unfold chg;split
 ·exact h2
 ·cases c with
  |none=>exact h
  |some p=>exact h2
theorem qdi{ops:Array Oper}:okC ops none=true:=rfl
section
variable {C:Ctx} {call:qc5} {ops:Array Oper} {bef:Array Nat} {H0:Heap}
theorem seq_at{p i j:Nat} {oi oj:Oper} (h:qnk bef ops p=true) (hp:p<=j) (hj:ops[j]? = some oj) (hx:qb9 oj.op=.acts) (hi:ops[i]? = some oi) (hr:qb9 oi.op=.reads):(i < j->ahead bef i j=true)/\(j<=i->ahead bef j i=true/\ahead bef i j=false):=by
 unfold qnk at h;rw[List.all_eq_true]at h;have lj:j < ops.size:=by rcases Nat.lt_or_ge j ops.size with q|q;exact q;rw[Array.getElem?_eq_none q]at hj;cases hj
 have li:i < ops.size:=by rcases Nat.lt_or_ge i ops.size with q|q;exact q;rw[Array.getElem?_eq_none q]at hi;cases hi
 have h1:=h j (List.mem_range.2 lj);have b1:Nat.ble p j=true:=by rw[Nat.ble_eq];exact hp
 have e1:isX (qmq ops j)=true:=by unfold qmq;rw[hj];simp only;rw[hx];rfl
 have e2:isR (qmq ops i)=true:=by unfold qmq;rw[hi];simp only;rw[hr];rfl
 rw[b1,e1]at h1;simp only[Bool.and_self,Bool.not_true,Bool.false_or]at h1;rw[List.all_eq_true]at h1;have h2:=h1 i (List.mem_range.2 li);rw[e2]at h2;simp only[Bool.not_true,Bool.false_or]at h2;constructor
 ·intro hlt;have:Nat.blt i j=true:=by simp;omega
  rw[this]at h2;exact h2
 ·intro hle;have:Nat.blt i j=false:=by rw[<- Bool.not_eq_true];simp;omega
  rw[this]at h2;simp only[Bool.and_eq_true,Bool.not_eq_true']at h2;exact h2
theorem layF_at{a j:Nat} {oa oj:Oper} (h:qqu bef ops=true) (hlt:a < j) (ha:ops[a]? = some oa) (hl:qb9 oa.op=.allocs) (hj:ops[j]? = some oj) (hx:qb9 oj.op=.acts):ahead bef a j=true:=by
 unfold qqu at h;rw[List.all_eq_true]at h;have lj:j < ops.size:=by rcases Nat.lt_or_ge j ops.size with q|q;exact q;rw[Array.getElem?_eq_none q]at hj;cases hj
 have la:a < ops.size:=by omega
 have h1:=h a (List.mem_range.2 la);have e1:isX (qmq ops j)=true:=by unfold qmq;rw[hj];simp only;rw[hx];rfl
 have e2:isL (qmq ops a)=true:=by unfold qmq;rw[ha];simp only;rw[hl];rfl
 have b1:Nat.blt a j=true:=by simp;omega
 rw[e2]at h1;simp only[Bool.not_true,Bool.false_or]at h1;rw[List.all_eq_true]at h1;have h2:=h1 j (List.mem_range.2 lj);rw[b1,e1]at h2;simpa using h2
theorem qvl{j:Nat}:∀{ps:List Pend},(∀p,p∈ps->ahead bef p.i j=true)->qbg bef j ps=allPend ps/\qb7 bef j ps=[]
 |[],_=>⟨rfl,rfl⟩
 |p::r,h=>by
  obtain⟨h1,h2⟩:=qvl (ps:=r) fun q hq=>h q (by simp[hq]);have hp:=h p (by simp);constructor
  ·unfold qbg;rw[hp,h1];rfl
  ·unfold qb7;rw[hp];exact h2
structure InvQ (C:Ctx) (call:qc5) (ops:Array Oper) (bef:Array Nat) (H0:Heap) (d:DrawSt) (s:St) (ps:List Pend) (c:Option Nat) (i:Nat):Prop where
 s_:d.s=s
 ps_:d.ps=ps
 pi:∀p,p∈ps->p.i < i/\∃o,ops[p.i]? = some o/\qb9 o.op=.allocs
 hi:∀h,h∈d.hs->h.1 < i/\∃o,ops[h.1]? = some o/\qb9 o.op=.acts
 rs:∀x,x∈d.rs->x.i < i/\(∃o,ops[x.i]? = some o/\qb9 o.op=.reads)/\qcq C call bef x H0 d.hs=true
 no:c=none->s.H=H0/\(∀h,h∈d.hs->h.2=H0)/\∀x,x∈d.rs->qeb C call x H0=true
 so:∀p,c=some p->∃h r,d.hs=h::r/\h.2=s.H/\p<=h.1
theorem put_w{s:St} {d:Option Tmp} {v:AV} {H:Heap}:St.put (s.wH H) d v=(St.put s d v).bind fun s1=>some (s1.wH H):=by
 obtain⟨ks,vs,ts,sz,H1⟩:=s;cases d with
 |none=>rfl
 |some t=>
  simp only[St.put,St.set,St.wH];cases Nat.blt t sz with
  |false=>rfl
  |true=>simp only;cases qu1 t v ks vs<;>rfl
theorem qnp{s s':St} {d:Option Tmp} {v:AV} (h:St.put s d v=some s'):s'.H=s.H:=by
 obtain⟨ks,vs,ts,sz,H1⟩:=s;cases d with
 |none=>simp only[St.put,sj]at h;subst h;rfl
 |some t=>
  simp only[St.put,St.set]at h;cases hb:Nat.blt t sz with
  |false=>rw[hb]at h;cases h
  |true=>rw[hb]at h;simp only at h;cases hp:qu1 t v ks vs<;>rw[hp]at h<;>simp only[sj]at h<;>subst h<;>rfl
theorem guard_w{s:St} {o:Oper} {H:Heap}:qaz ops (s.wH H) o=qaz ops s o:=rfl
theorem qxt:∀{l:List Oper} {i base:Nat} {s s':St} {ps ps':List Pend} {p:Nat} {c':Option Nat},evQ ⟨C,call,ops,base⟩ i l s ps (some p)=some (s',ps',c')->c'=some p
 |[],i,base,s,s',ps,ps',p,c',h=>by rw[evQ_n]at h;simp only[sj,Prod.mk.injEq]at h;exact h.2.2.symm
 |o::r,i,base,s,s',ps,ps',p,c',h=>by
  have hc:∀H' H,chg (some p) i H' H=some p:=fun H' H=>by unfold chg;split<;>rfl
  unfold evQ at h;split at h
  ·obtain⟨g,_,h⟩:=obs h;cases g with
   |true=>obtain⟨k,_,h⟩:=obs h;obtain⟨s1,_,h⟩:=obs h;exact qxt h
   |false=>obtain⟨s1,_,h⟩:=obs h;exact qxt h
  ·obtain⟨s1,_,h⟩:=obs h;rw[hc]at h;exact qxt h
  ·obtain⟨s1,_,h⟩:=obs h;exact qxt h
theorem evQ_D{base:Nat} (hl:qqu bef ops=true):∀{l:List Oper} {i:Nat} {s s':St} {ps ps':List Pend} {c c':Option Nat} {d:DrawSt},ops.toList.drop i=l->evQ ⟨C,call,ops,base⟩ i l s ps c=some (s',ps',c') ->
  (∀p,c'=some p->qnk bef ops p=true)->InvQ C call ops bef H0 d s ps c i->∃d',qly C call ops bef base i l d=some d'/\InvQ C call ops bef H0 d' s' ps' c' (i+l.length)
 |[],i,s,s',ps,ps',c,c',d,_,h,_,k=>by rw[evQ_n]at h;simp only[sj,Prod.mk.injEq]at h;obtain⟨rfl,rfl,rfl⟩:=h;exact⟨d,rfl,k⟩
 |o::r,i,s,s',ps,ps',c,c',d,hd,h,hok,k=>by
  have hi:i < ops.toList.length:=by
   rcases Nat.lt_or_ge i ops.toList.length with q|q
   ·exact q
   ·rw[List.drop_eq_nil_of_le q]at hd;cases hd
  rw[List.drop_eq_getElem_cons hi,List.cons.injEq]at hd;have ho:ops[i]? = some o:=by rw[<- hd.1];have:i < ops.size:=(by simpa using hi);simp[this]
  have hwant:=qvl (bef:=bef) (j:=i) (ps:=ps);have go:∀{d1:DrawSt} {s1:St} {ps1:List Pend} {c1:Option Nat},qhf C call ops bef base i o d=some d1->evQ ⟨C,call,ops,base⟩ (i+1) r s1 ps1 c1=some (s',ps',c')->InvQ C call ops bef H0 d1 s1 ps1 c1 (i+1) ->
    ∃d',qly C call ops bef base i (o::r) d=some d'/\InvQ C call ops bef H0 d' s' ps' c' (i+(o::r).length):=fun {d1 s1 ps1 c1} q1 q2 q3=>by
   obtain⟨d2,r1,r2⟩:=evQ_D hl hd.2 q2 hok q3;refine⟨d2,by simp only[qly,q1,Option.bind_some];exact r1,?_⟩;rw[List.length_cons,show i+(r.length+1)=i+1+r.length by omega];exact r2
  obtain⟨ds,dps,hs,rs⟩:=d;obtain⟨rfl,rfl,k3,k4,k5,k6,k7⟩:=k;simp only at k3 k4 k5 k6 k7 hwant;have calm:∀{s1:St},s1.H=ds.H->InvQ C call ops bef H0 ⟨s1,dps,hs,rs⟩ s1 dps c (i+1):=fun {s1} e=>⟨rfl,rfl,fun p hp=>⟨by have:=(k3 p hp).1;omega,(k3 p hp).2⟩,fun x hx=>⟨by have:=(k4 x hx).1;omega,(k4 x hx).2⟩,
   fun x hx=>⟨by have:=(k5 x hx).1;omega,(k5 x hx).2⟩,fun hc=>by rw[e];exact k6 hc,fun p hp=>by rw[e];exact k7 p hp⟩
  unfold evQ at h;cases hc:qb9 o.op with
  |allocs=>
   simp only[hc]at h;obtain⟨g,hg,h⟩:=obs h;cases g with
   |false=>obtain⟨s1,h1,h⟩:=obs h;exact go (by unfold qhf;simp only[hg,Option.bind_some,h1,hc]) h (calm (qnp h1))
   |true=>
    obtain⟨b,hb,h⟩:=obs h;obtain⟨s1,h1,h⟩:=obs h;refine go (by unfold qhf;simp only[hg,Option.bind_some,hc,hb,h1];rfl) h ?_;have e:=calm (qnp h1);exact⟨rfl,rfl,fun p hp=>by
     rcases List.mem_cons.1 hp with rfl|hp
     ·exact⟨Nat.lt_succ_self _,o,ho,hc⟩
     ·exact e.pi p hp,e.hi,e.rs,e.no,e.so⟩
  |acts=>
   simp only[hc]at h;obtain⟨s1,h1,h⟩:=obs h;obtain⟨w1,w2⟩:=hwant fun p hp=>(by obtain⟨q1,oa,q2,q3⟩:=k3 p hp;exact layF_at hl q1 q2 q3 ho hc);have hst:qhf C call ops bef base i o ⟨ds,dps,hs,rs⟩=some ⟨s1,[],(i,s1.H)::hs,rs⟩:=by
    obtain⟨g,hg,h1⟩:=obs h1;rw[guard_w]at hg;unfold qhf;simp only[hg,Option.bind_some,hc,w1,w2];cases g with
    |false=>simp only at h1 ⊢;rw[put_w]at h1;obtain⟨s2,e1,e2⟩:=obs h1;simp only[sj]at e2;rw[e1];simp only[Option.bind_some];have hH:=qnp e1;subst e2;rw[hH];rfl
    |true=>simp only at h1 ⊢;obtain⟨v,e1,e2⟩:=obs h1;rw[e1];simp only[Option.bind_some];have e2:St.put (ds.wH v.2) o.dst v.1=some s1:=e2;rw[e2];rfl
   refine go hst h ⟨rfl,rfl,fun p hp=>(by cases hp),fun x hx=>?_,fun x hx=>?_,fun hn=>?_,fun p hp=>?_⟩
   ·rcases List.mem_cons.1 hx with rfl|hx
    ·exact⟨Nat.lt_succ_self _,o,ho,hc⟩
    ·exact⟨by have:=(k4 x hx).1;omega,(k4 x hx).2⟩
   ·obtain⟨q1,⟨oi,q2,q2'⟩,q3⟩:=k5 x hx;refine⟨by omega,⟨oi,q2,q2'⟩,?_⟩;unfold qcq;cases ha:ahead bef x.i i with
    |true=>exact q3
    |false=>
     simp only;cases hcg:chg c i s1.H ds.H with
     |some p=>
      rw[hcg]at h;have hp:=hok p (qxt h);have hpi:p<=i:=by
       unfold chg at hcg;split at hcg
       ·obtain⟨hh,rr,m1,m2,m3⟩:=k7 p hcg;have:=(k4 hh (by rw[m1];simp)).1;omega
       ·cases c with
        |none=>simp only[Option.getD_none,sj]at hcg;omega
        |some p'=>simp only[Option.getD_some,sj]at hcg;obtain⟨hh,rr,m1,m2,m3⟩:=k7 p' rfl;have:=(k4 hh (by rw[m1];simp)).1;omega
      have:=(seq_at hp hpi ho hc q2 q2').1 q1;rw[ha]at this;cases this
     |none=>
      unfold chg at hcg;split at hcg
      ·rename_i hH;obtain⟨m1,m2,m3⟩:=k6 hcg;rw[hH,m1,m3 x hx];simp only;cases ahead bef i x.i with
       |true=>rfl
       |false=>exact q3
      ·cases hcg
   ·unfold chg at hn;split at hn
    ·rename_i hH;obtain⟨m1,m2,m3⟩:=k6 hn;refine⟨by rw[hH,m1],fun z hz=>?_,m3⟩;rcases List.mem_cons.1 hz with rfl|hz
     ·show s1.H=H0;rw[hH,m1]
     ·exact m2 z hz
    ·cases hn
   ·refine⟨(i,s1.H),hs,rfl,rfl,?_⟩;unfold chg at hp;split at hp
    ·obtain⟨hh,rr,m1,m2,m3⟩:=k7 p hp;have:=(k4 hh (by rw[m1];simp)).1;show p<=i;omega
    ·cases c with
     |none=>simp only[Option.getD_none,sj]at hp;show p<=i;omega
     |some p'=>simp only[Option.getD_some,sj]at hp;obtain⟨hh,rr,m1,m2,m3⟩:=k7 p' rfl;have:=(k4 hh (by rw[m1];simp)).1;show p<=i;omega
  |pure=>
   simp only[hc]at h;obtain⟨s1,h1,h⟩:=obs h;obtain⟨g,hg,h1⟩:=obs h1;cases g with
   |false=>exact go (by unfold qhf;simp only[hg,Option.bind_some];simp only at h1;rw[h1];simp only[Option.bind_some,hc]) h (calm (qnp h1))
   |true=>simp only at h1;obtain⟨⟨v,Hv⟩,hv,hp⟩:=obs h1;obtain⟨e,_⟩:=qgp hc hv;subst e;have hp':ds.put o.dst v=some s1:=hp;exact go (by unfold qhf;simp only[hg,Option.bind_some,hc,hv,hp']) h (calm (qnp hp'))
  |reads=>
   simp only[hc]at h;obtain⟨s1,h1,h⟩:=obs h;obtain⟨g,hg,h1⟩:=obs h1;cases g with
   |false=>exact go (by unfold qhf;simp only[hg,Option.bind_some];simp only at h1;rw[h1];simp only[Option.bind_some,hc]) h (calm (qnp h1))
   |true=>
    simp only at h1;obtain⟨⟨v,Hv⟩,hv,hp⟩:=obs h1;have e:=qft hc hv;subst e;have hp':ds.put o.dst v=some s1:=hp;have e:=calm (qnp hp');have here:qeb C call ⟨i,o,ds,v⟩ ds.H=true:=(by unfold qeb;have:qae C call o { ds with H:=ds.H }=some (v,ds.H):=hv;simp only[this,decide_true]);refine go (d1:=⟨s1,dps,hs,⟨i,o,ds,v⟩::rs⟩) (by unfold qhf;simp only[hg,Option.bind_some,hc,hv,hp']) h ⟨rfl,rfl,e.pi,e.hi,fun x hx=>?_,fun hn=>⟨(e.no hn).1,(e.no hn).2.1,fun x hx=>?_⟩,e.so⟩
    ·rcases List.mem_cons.1 hx with rfl|hx
     ·refine⟨Nat.lt_succ_self _,⟨o,ho,hc⟩,?_⟩;cases hcc:c with
      |none=>obtain⟨m1,m2,m3⟩:=k6 hcc;exact za6 (H0:=H0) ⟨(v,ds.H),by rw[<- m1];exact hv,rfl⟩ m2
      |some p=>obtain⟨hh,rr,m1,m2,m3⟩:=k7 p hcc;rw[m1];subst hcc;have hp:=hok p (qxt h);obtain⟨q1,oj,q2,q3⟩:=k4 hh (by rw[m1];simp);obtain⟨u1,u2⟩:=(seq_at hp m3 q2 q3 ho hc).2 (by omega);unfold qcq;simp only[u1,u2,m2,here]
     ·exact e.rs x hx
    ·rcases List.mem_cons.1 hx with rfl|hx
     ·rw[<- (k6 hn).1];exact here
     ·exact(e.no hn).2.2 x hx
theorem za4{hs:List (Nat × Heap)}:∀{rs:List Rec},(∀x,x∈rs->qcq C call bef x H0 hs=true)->qcp C call bef H0 hs rs=true
 |[],_=>rfl
 |x::r,h=>by unfold qcp;rw[h x (by simp)];exact za4 fun y hy=>h y (by simp[hy])
end
section
variable {C:Ctx} {call:qc5} {ops:Array Oper} {n:Nat} {s:St} {Q:Out->St->Prop} {id:Nat}
theorem qay(hm:C.P.follows .mixedOrders=true) (hC:CallOK C call) (hd:qpz ops=true) (hl:qqu (Region.before ops) ops=true) (hf:qar ops.toList { s with ts:=[] }={ s with ts:=[] })
  (h:∃y:QR,evQ ⟨C,call,ops,s.H.n⟩ 0 ops.toList { s with ts:=[],H:=⟨s.H.n+ops.size,s.H.fs⟩ } [] none=some y/\okC ops y.2.2=true/\Q .normal { y.1 with H:=y.1.H.lay (allPend y.2.1) }):WpS C n (.region id ops true) s Q:=by
 obtain⟨⟨s',ps,c⟩,h1,h2,h3⟩:=h;refine qdh hm hC hd fun B hB=>?_;subst hB;have hr:qc7 (qar ops.toList { s with ts:=[] }) ops.size={ s with ts:=[],H:=⟨s.H.n+ops.size,s.H.fs⟩ }:=by rw[hf];rfl
 rw[hr];obtain⟨d,q1,q2⟩:=evQ_D (H0:=⟨s.H.n+ops.size,s.H.fs⟩) (d:=⟨{ s with ts:=[],H:=⟨s.H.n+ops.size,s.H.fs⟩ },[],[],[]⟩) hl rfl h1 (fun p hp=>by subst hp;exact h2)
  ⟨rfl,rfl,fun p hp=>(by cases hp),fun x hx=>(by cases hx),fun x hx=>(by cases hx),fun _=>⟨rfl,fun x hx=>(by cases hx),fun x hx=>(by cases hx)⟩,fun p hp=>(by cases hp)⟩
 refine⟨d,q1,za4 fun x hx=>(q2.rs x hx).2.2,?_⟩;rw[q2.ps_,q2.s_];exact h3
end
section
variable {P:QR->Prop} {ops:Array Oper} {A:QA} {i:Nat} {r:List Oper} {ps:List Pend} {c:Option Nat} {C:Ctx} {call:qc5} {s:St} {o:Oper}
theorem qh0{E R:Option QR} (h:E=R) (k:∃y,R=some y/\P y):∃y,E=some y/\P y:=by subst h;exact k
theorem qbc{y:QR} (k:P y):∃y',some y=some y'/\P y':=⟨y,rfl,k⟩
