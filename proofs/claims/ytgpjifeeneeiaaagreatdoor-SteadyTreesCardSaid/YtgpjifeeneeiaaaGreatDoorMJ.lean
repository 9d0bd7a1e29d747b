/- A writer's memory; frames told in another way. No condition. -/
import Derived.Test.YtgpjifeeneeiaaaGreatDoorMI
import Derived.Test.YtgpjifeeneeiaaaGreatDoorMG
import Derived.Test.YtgpjifeeneeiaaaGreatDoorMH
namespace Go.Proofs.YtgpjifeeneeiaaaGreatDoor
set_option linter.unusedSimpArgs false
set_option linter.unusedVariables false
open Go Go.RowKit
set_option maxRecDepth 100000
@[simp] theorem szT21:qc7 Tryz.prog 21=some 1:=rfl
@[simp] theorem agT21:qgs Tryz.prog 21=some false:=rfl
@[simp] theorem byT21:qce Tryz.prog 21=some 4:=rfl
@[simp] theorem alT21 (H:Heap):alV Tryz.prog H 21=some (.ptr H.n 0,H.new (.cells [.int .i32 0])):=rfl
@[simp] theorem zeT21:qbt Tryz.prog 21=some (.int .i32 0):=rfl
attribute [simp] Tryz.underlying21
@[simp 500] theorem rvF21 (H:Heap) (cs:List AV) (o:Nat):qb5 Tryz.prog H 21 (.fptr cs o)=qcl cs o:=rfl
@[simp 500] theorem rvP21 (H:Heap) (b o:Nat):qb5 Tryz.prog H 21 (.ptr b o)=(H.get b).bind fun k=>k.rd.bind fun cs=>qcl cs o:=rfl
@[simp] theorem szT126:qc7 Tryz.prog 126=some 1:=rfl
@[simp] theorem agT126:qgs Tryz.prog 126=some false:=rfl
@[simp] theorem byT126:qce Tryz.prog 126=some 24:=rfl
@[simp] theorem alT126 (H:Heap):alV Tryz.prog H 126=some (.ptr H.n 0,H.new (.cells [.nilS])):=rfl
@[simp] theorem zeT126:qbt Tryz.prog 126=some (.nilS):=rfl
attribute [simp] Tryz.underlying126
@[simp 500] theorem rvF126 (H:Heap) (cs:List AV) (o:Nat):qb5 Tryz.prog H 126 (.fptr cs o)=qcl cs o:=rfl
@[simp 500] theorem rvP126 (H:Heap) (b o:Nat):qb5 Tryz.prog H 126 (.ptr b o)=(H.get b).bind fun k=>k.rd.bind fun cs=>qcl cs o:=rfl
@[simp] theorem slz126 (sz:Nat) (e:AV) (r:List AV):qd4 Tryz.prog .eql 126 (.fslc sz (e::r)) .nilS=some (.bool false):=rfl
@[simp] theorem sln126 (sz:Nat) (e:AV) (r:List AV):qd4 Tryz.prog .neq 126 (.fslc sz (e::r)) .nilS=some (.bool true):=rfl
@[simp] theorem slze126:qd4 Tryz.prog .eql 126 .eslc .nilS=some (.bool false):=rfl
@[simp] theorem slzz126:qd4 Tryz.prog .eql 126 .nilS .nilS=some (.bool true):=rfl
@[simp] theorem zaq:qc7 Tryz.prog 128=some 2:=rfl
@[simp] theorem agT128:qgs Tryz.prog 128=some true:=rfl
@[simp] theorem ze0:qce Tryz.prog 128=some 16:=rfl
@[simp] theorem alT128 (H:Heap):alV Tryz.prog H 128=some (.ptr H.n 0,H.new (.cells [.int .i64 0,.int .i64 0])):=rfl
@[simp] theorem za9:qbt Tryz.prog 128=some (.agg [.int .i64 0,.int .i64 0]):=rfl
attribute [simp] Tryz.underlying128
@[simp 500] theorem rvF128 (H:Heap) (cs:List AV) (o:Nat):qb5 Tryz.prog H 128 (.fptr cs o)=(qeu o 2 cs).bind fun cs=>some (.agg cs):=rfl
@[simp 500] theorem rvP128 (H:Heap) (b o:Nat):qb5 Tryz.prog H 128 (.ptr b o)=(readCells H b o 2).bind fun cs=>some (.agg cs):=rfl
@[simp] theorem fa128_0 (x:AV):qbm Tryz.prog 128 x 0=(match x with | .ptr b o=>some (.ptr b (o+0)) | .fptr cs o=>some (.fptr cs (o+0)) | _=>none):=rfl
@[simp] theorem fd128_0 (cs:List AV):qcy Tryz.prog 128 (.agg cs) 0=qcl cs 0:=rfl
@[simp] theorem fa128_1 (x:AV):qbm Tryz.prog 128 x 1=(match x with | .ptr b o=>some (.ptr b (o+1)) | .fptr cs o=>some (.fptr cs (o+1)) | _=>none):=rfl
@[simp] theorem fd128_1 (cs:List AV):qcy Tryz.prog 128 (.agg cs) 1=qcl cs 1:=rfl
theorem c118 {T:List (Entry Tryz.prog)} (hS:qag 78 T=some e78.g) (c:UInt8) (hc:c.toNat < 128):CallAt (ctx T) 118 [.int .i32 (c.toNat:Int)] ⟨0,[]⟩ (.bool (sp c)) ⟨0,[]⟩:=by
 have ks:=fun H=>k78 hS c H
 have h1:(c.toNat:Int) < 128:=by omega
 have hw:IntKind.u8.wrap (c.toNat:Int)=(c.toNat:Int):=by
  simp [IntKind.wrap,IntKind.signed,IntKind.bits]
  omega
 have hcv:∀ H,qi4 Tryz.prog H 21 5 (.int .i32 (c.toNat:Int))=some (.int .u8 (c.toNat:Int),H):=fun H=>by simp [qi4,hw]
 refine qa3 (fn:=Tryz.f118) (s0:=⟨[0,2],[.int .i32 (c.toNat:Int),.undef],[],10,⟨0,[[]]⟩⟩) Tryz.func118 rfl rfl rfl ?_
 repeat apply wq
 refine qa0 qa1 ?_
 simp [zS]
 repeat apply wq
 refine qa0 qa1 ?_
 simp [zS,h1,hcv,ks]
 refine qa8 ?_
 simp [qab,Tryz.f118,oneOr,qaa,qa2]
 exact qa4 rfl (by rfl)
def qcz (s:Str):Prop:=∀ c,c∈s→c.toNat < 128
theorem zdm {s:Str} {i:Nat} (h:i < s.length) (hc:s[i].toNat < 128):Utf8.decode ⟨s.toArray⟩ i=(s[i].toNat,1):=by
 have h0:(ByteArray.get! ⟨s.toArray⟩ (i+0)).toNat=s[i].toNat:=by
  show (s.toArray[i+0]!).toNat=_
  simp [h]
 unfold Utf8.decode
 simp only [h0,hc,if_true]
def qp7 (L:List (Nat × Nat)):List AV:=L.flatMap fun p=>[.int .i64 (p.1:Int),.int .i64 (p.2:Int)]
def spn (p:Nat × Nat):AV:=.agg [.int .i64 (p.1:Int),.int .i64 (p.2:Int)]
def qp3 (n:Nat):List AV:=List.replicate n (.int .i64 0)
def spV (n:Nat):AV:=if n≤32 then .slc 0 0 n (.ex 32) else .slc 0 0 n (.rest 2)
def spB (L:List (Nat × Nat)):List AV:=if L.length≤32 then qp7 L++qp3 (64 - 2 * L.length) else qp7 L
theorem qws (L:List (Nat × Nat)):(qp7 L).length=2 * L.length:=by
 induction L with
 | nil=>rfl
 | cons a r ih=>simp only [qp7,List.flatMap_cons,List.length_append,List.length_cons,List.length_nil] at ih ⊢;omega
theorem qwt (L:List (Nat × Nat)) (p:Nat × Nat):qp7 (L++[p])=qp7 L++[.int .i64 (p.1:Int),.int .i64 (p.2:Int)]:=by simp [qp7]
theorem qsl (L:List (Nat × Nat)):qac (qp7 L)=true:=by
 induction L with
 | nil=>rfl
 | cons a r ih=>
  have:qp7 (a::r)=[.int .i64 (a.1:Int),.int .i64 (a.2:Int)]++qp7 r:=rfl
  rw [this,qfe,ih];rfl
theorem qym (n:Nat):qac (qp3 n)=true:=by
 induction n with
 | zero=>rfl
 | succ n ih=>simp only [qp3,List.replicate_succ] at ih ⊢;simp [qac,qaf,ih]
theorem qhh (L:List (Nat × Nat)):qac (spB L)=true:=by
 unfold spB
 split
 ·rw [qfe,qsl,qym];rfl
 ·exact qsl L
theorem qya (L:List (Nat × Nat)):qan (L.map spn)=qp7 L:=by
 induction L with
 | nil=>rfl
 | cons a r ih=>simp only [List.map_cons,qan,ih];rfl
theorem el_spn (L:List (Nat × Nat)):Elems 2 (L.map spn):=.map (sz:=2) (f:=spn) (by decide) (fun x=>⟨rfl,rfl,fun h=>absurd h (by decide),fun _=>⟨_,rfl⟩⟩) L
theorem qux (L:List (Nat × Nat)):qeu 0 (L.length * 2) (spB L)=some (qp7 L):=by
 have h:(qp7 L).length=L.length * 2:=by rw [qws];omega
 unfold spB
 split
 ·rw [qiy (by simp;omega),List.drop_zero,List.take_append_of_le_length (by omega),List.take_of_length_le (by omega)]
 ·rw [qiy (by omega),List.drop_zero,List.take_of_length_le (by omega)]
theorem app_sp {L:List (Nat × Nat)} {p:Nat × Nat} {I:Blk} (hl:L.length≤1000000) :
  ∃ b m f,b≠1∧qc2 Tryz.prog ⟨3,[[(2,.cells [.int .i64 (p.1:Int),.int .i64 (p.2:Int)]),(1,I),(0,.cells (spB L))]]⟩ 128 (spV L.length) (.slc 2 0 1 (.ex 1)) =
   some ((if L.length+1≤32 then .slc b 0 (L.length+1) (.ex 32) else .slc b 0 (L.length+1) (.rest 2)),⟨m,f⟩)∧Heap.get ⟨m,f⟩ 1=some I∧Heap.get ⟨m,f⟩ b=some (.cells (spB (L++[p]))):=by
 have hcs:∀ H:Heap,Heap.get H 2=some (.cells [.int .i64 (p.1:Int),.int .i64 (p.2:Int)])→qbi H 2 1 (.slc 2 0 1 (.ex 1))=some [.int .i64 (p.1:Int),.int .i64 (p.2:Int)]:=fun H h=>by
  simp [qbi,readCells,h]
 have g0:Heap.get ⟨3,[[(2,.cells [.int .i64 (p.1:Int),.int .i64 (p.2:Int)]),(1,I),(0,.cells (spB L))]]⟩ 0=some (.cells (spB L)):=by simp [Heap.get,getFs,getF]
 have hsrc:=hcs ⟨3,[[(2,.cells [.int .i64 (p.1:Int),.int .i64 (p.2:Int)]),(1,I),(0,.cells (spB L))]]⟩ (by simp [Heap.get,getFs,getF])
 have hroom:qct (L.length+1) 16=true:=by unfold qct;rw [Nat.ble_eq];omega
 have hrow:∀ cs,qsb Tryz.prog 128 cs=.cells cs:=fun cs=>rfl
 have h64:(qp7 L).length=2 * L.length:=qws L
 have hlen1:(L++[p]).length=L.length+1:=by simp
 by_cases h1:L.length+1≤32
 ·have hv:spV L.length=.slc 0 0 L.length (.ex 32):=by unfold spV;rw [if_pos (by omega)]
  have hb:Nat.ble (L.length+1) 32=true:=by rw [Nat.ble_eq];exact h1
  have hB:spB L=qp7 L++qp3 2++qp3 (62 - 2 * L.length):=by
   unfold spB
   rw [if_pos (by omega),List.append_assoc]
   congr 1
   simp only [qp3];rw [List.replicate_append_replicate];congr 1;omega
  have hB2:spB (L++[p])=qp7 L++[.int .i64 (p.1:Int),.int .i64 (p.2:Int)]++qp3 (62 - 2 * L.length):=by
   unfold spB
   rw [hlen1,if_pos h1,qwt]
   congr 2
   omega
  have hlay:qj5 [.int .i64 (p.1:Int),.int .i64 (p.2:Int)] (0+L.length * 2) (spB L)=some (spB (L++[p])):=by
   have:=qmy (a:=qp7 L) (b:=qp3 2) (b':=[.int .i64 (p.1:Int),.int .i64 (p.2:Int)]) (c:=qp3 (62 - 2 * L.length)) rfl
   rw [h64] at this
   rw [hB,hB2,show 0+L.length * 2=2 * L.length by omega,this]
  refine ⟨0,3,[[(2,.cells [.int .i64 (p.1:Int),.int .i64 (p.2:Int)]),(1,I),(0,.cells (spB (L++[p])))]],by omega,?_,by simp [Heap.get,getFs,getF],by simp [Heap.get,getFs,getF]⟩
  rw [if_pos h1,hv]
  unfold qc2
  simp only [zaq,ze0,za9,Option.bind_some,qcc,hsrc,hroom,hb]
  simp only [writeCells,g0,Option.bind_some,Blk.wt,hlay,Blk.re]
  simp [Heap.ready,refs,Heap.set,setFs,setF,allSingle,AV.single]
  rfl
 ·have hB2:spB (L++[p])=qp7 L++[.int .i64 (p.1:Int),.int .i64 (p.2:Int)]:=by
   unfold spB
   rw [hlen1,if_neg h1,qwt]
  have hread:readCells ⟨3,[[(2,.cells [.int .i64 (p.1:Int),.int .i64 (p.2:Int)]),(1,I),(0,.cells (spB L))]]⟩ 0 0 (L.length * 2)=some (qp7 L):=by
   unfold readCells
   simp only [g0,Option.bind_some,qr3]
   exact qux L
  by_cases h2:L.length=32
  ·have hv:spV L.length=.slc 0 0 L.length (.ex 32):=by unfold spV;rw [if_pos (by omega)]
   have hb:Nat.ble (L.length+1) 32=false:=by rw [← Bool.not_eq_true,Nat.ble_eq];exact h1
   refine ⟨3,4,[[(3,.cells (spB (L++[p]))),(2,.cells [.int .i64 (p.1:Int),.int .i64 (p.2:Int)]),(1,I),(0,.cells (spB L))]],by omega,?_,by simp [Heap.get,getFs,getF],by simp [Heap.get,getFs,getF]⟩
   rw [if_neg h1,hv,hB2]
   unfold qc2
   simp only [zaq,ze0,za9,Option.bind_some,qcc,hsrc,hroom,hb,hread,hrow]
   simp [Heap.new,pushF,allSingle,AV.single]
   rfl
  ·have hv:spV L.length=.slc 0 0 L.length (.rest 2):=by unfold spV;rw [if_neg (by omega)]
   have hB:spB L=qp7 L:=by unfold spB;rw [if_neg (by omega)]
   have hk:qck ⟨3,[[(2,.cells [.int .i64 (p.1:Int),.int .i64 (p.2:Int)]),(1,I),(0,.cells (spB L))]]⟩ 0=some (2 * L.length):=by
    rw [qck,g0,hB];simp [h64]
   have hb1:Nat.ble (0+(L.length+1) * 2) (2 * L.length)=false:=by rw [← Bool.not_eq_true,Nat.ble_eq];omega
   have hb2:Nat.beq (0+L.length * 2) (2 * L.length)=true:=by rw [show 0+L.length * 2=2 * L.length by omega];exact Nat.beq_refl _
   refine ⟨3,4,[[(3,.cells (spB (L++[p]))),(2,.cells [.int .i64 (p.1:Int),.int .i64 (p.2:Int)]),(1,I)]],by omega,?_,by simp [Heap.get,getFs,getF],by simp [Heap.get,getFs,getF]⟩
   rw [if_neg h1,hv,hB2]
   unfold qc2
   simp only [zaq,ze0,za9,Option.bind_some,qcc,hsrc,hroom,hk,hb1,hb2,hread,g0,qq5]
   simp [Heap.new,pushF,allSingle,AV.single,Heap.drop,qea,getF,killF]
   rfl
def qdn (s:Str) (p:Nat × Nat):Str:=(s.drop p.1).take (p.2 - p.1)
structure SpOk (s:Str) (i:Nat) (L:List (Nat × Nat)) (st:Int):Prop where
 le:i≤s.length
 few:L.length≤i
 done:L.map (qdn s)=(wst (s.take i)).1
 rng:∀ p,p∈L→p.1≤p.2∧p.2≤s.length
 lo : -1000001≤st
 cur:(st < 0∧(wst (s.take i)).2=[])∨∃ a:Nat,st=a∧a < i∧(wst (s.take i)).2=qdn s (a,i)
theorem qu3 {H:Heap} {b j:Nat} {s:Str} {cs:List AV} (hb:b≠1) (h1:H.get 1=some (.iter s j)) (h2:H.get b=some (.cells cs)) (hp:qac cs=true):FitH 0 [(1,1),(b,0)] [] H ⟨2,[[(1,.iter s j),(0,.cells cs)]]⟩ where
 nd1:=by simp;omega
 nd2:=by simp
 nd3:=by simp [Heap.ents]
 lt:=fun x hx=>by simp at hx;rcases hx with rfl | rfl <;> simp
 idn:=fun x hx h=>by rcases h with h | h <;> exact absurd h (Nat.not_lt_zero _)
 num:=Nat.zero_le _
 src:=fun e he=>by
  simp [Heap.ents] at he
  rcases he with rfl | rfl
  ·exact ⟨1,_,by simp,h1,by simp [qi0]⟩
  ·exact ⟨b,_,by simp,h2,qak hp⟩
 frz:=fun x hx=>by cases hx
theorem word_one {s:Str} {i:Nat} (h:i < s.length):qdn s (i,i+1)=[s[i]]:=by
 unfold qdn
 simp only
 rw [List.drop_eq_getElem_cons h,show i+1 - i=1 by omega]
 rfl
theorem zag {s:Str} {a i:Nat} (h:i < s.length) (ha:a≤i):qdn s (a,i+1)=qdn s (a,i)++[s[i]]:=by
 unfold qdn
 simp only
 rw [show i+1 - a=(i - a)+1 by omega,List.take_succ_eq_append_getElem (by simp;omega)]
 congr 2
 rw [List.getElem_drop]
 congr 1
 omega
theorem zb2 {s:Str} {i:Nat} {L:List (Nat × Nat)} {st:Int} (h:i < s.length) (k:SpOk s i L st) (hs:sp s[i]=true) (h0:st < 0):SpOk s (i+1) L st:=by
 have he:(wst (s.take i)).2=[]:=by
  rcases k.cur with ⟨_,h⟩ | ⟨a,ha,_⟩
  ·exact h
  ·omega
 refine ⟨by omega,by have:=k.few;omega,?_,k.rng,k.lo,.inl ⟨h0,?_⟩⟩
 ·rw [qjg h];simp only [qg7,hs,if_true,he,k.done]
 ·rw [qjg h];simp only [qg7,hs,if_true]
theorem zb1 {s:Str} {i a:Nat} {L:List (Nat × Nat)} (h:i < s.length) (k:SpOk s i L (a:Int)) (hs:sp s[i]=true) (hl:s.length≤1000000):SpOk s (i+1) (L++[(a,i)]) (-(a:Int) - 1):=by
 obtain ⟨hai,hc⟩ : a < i∧(wst (s.take i)).2=qdn s (a,i):=by
  rcases k.cur with ⟨h,_⟩ | ⟨b,hb,h1,h2⟩
  ·omega
  ·have:a=b:=by omega
   subst this;exact ⟨h1,h2⟩
 have hne:¬ qdn s (a,i)=[]:=by
  intro e
  have:=congrArg List.length e
  simp [qdn] at this
  omega
 refine ⟨by omega,by have:=k.few;simp;omega,?_,fun p hp=>?_,by omega,.inl ⟨by omega,?_⟩⟩
 ·rw [qjg h];simp only [qg7,hs,if_true,hc,hne,if_false,List.map_append,k.done];rfl
 ·rcases List.mem_append.1 hp with hp | hp
  ·exact k.rng p hp
  ·simp at hp;subst hp;exact ⟨by simp only;omega,by simp only;omega⟩
 ·rw [qjg h];simp only [qg7,hs,if_true]
theorem sp_char0 {s:Str} {i:Nat} {L:List (Nat × Nat)} {st:Int} (h:i < s.length) (k:SpOk s i L st) (hs:sp s[i]=false) (h0:st < 0):SpOk s (i+1) L (i:Int):=by
 have he:(wst (s.take i)).2=[]:=by
  rcases k.cur with ⟨_,h⟩ | ⟨a,ha,_⟩
  ·exact h
  ·omega
 refine ⟨by omega,by have:=k.few;omega,?_,k.rng,by omega,.inr ⟨i,rfl,by omega,?_⟩⟩
 ·rw [qjg h];simp [qg7,hs,k.done]
 ·rw [qjg h,word_one h];simp [qg7,hs,he]
theorem sp_char1 {s:Str} {i a:Nat} {L:List (Nat × Nat)} (h:i < s.length) (k:SpOk s i L (a:Int)) (hs:sp s[i]=false):SpOk s (i+1) L (a:Int):=by
 obtain ⟨hai,hc⟩ : a < i∧(wst (s.take i)).2=qdn s (a,i):=by
  rcases k.cur with ⟨h,_⟩ | ⟨b,hb,h1,h2⟩
  ·omega
  ·have:a=b:=by omega
   subst this;exact ⟨h1,h2⟩
 refine ⟨by omega,by have:=k.few;omega,?_,k.rng,by omega,.inr ⟨a,rfl,by omega,?_⟩⟩
 ·rw [qjg h];simp [qg7,hs,k.done]
 ·rw [qjg h,zag h (by omega)];simp [qg7,hs,hc]
theorem sp_begin (s:Str):SpOk s 0 [] (-1):=⟨Nat.zero_le _,by simp,by simp [wst],by simp,by omega,.inl ⟨by omega,by simp [wst]⟩⟩
theorem sp_end0 {s:Str} {L:List (Nat × Nat)} {st:Int} (k:SpOk s s.length L st) (h0:st < 0):L.map (qdn s)=qbo s:=by
 have he:(wst (s.take s.length)).2=[]:=by
  rcases k.cur with ⟨_,h⟩ | ⟨a,ha,_⟩
  ·exact h
  ·omega
 have hd:=k.done
 rw [List.take_of_length_le (Nat.le_refl _)] at hd he
 rw [hd,qbo,wfin,if_pos he]
theorem sp_end1 {s:Str} {a:Nat} {L:List (Nat × Nat)} (k:SpOk s s.length L (a:Int)):(L++[(a,s.length)]).map (qdn s)=qbo s∧a < s.length:=by
 obtain ⟨hai,hc⟩ : a < s.length∧(wst (s.take s.length)).2=qdn s (a,s.length):=by
  rcases k.cur with ⟨h,_⟩ | ⟨b,hb,h1,h2⟩
  ·omega
  ·have:a=b:=by omega
   subst this;exact ⟨h1,h2⟩
 have hne:¬ qdn s (a,s.length)=[]:=by
  intro e
  have:=congrArg List.length e
  simp [qdn] at this
  omega
 have hd:=k.done
 rw [List.take_of_length_le (Nat.le_refl _)] at hd hc
 refine ⟨?_,hai⟩
 rw [List.map_append,hd,qbo,wfin,hc,if_neg hne]
 rfl
theorem xor_not {a:Nat} (h:a≤1000000):unA .xor (.int .i64 (a:Int))=some (.int .i64 (-(a:Int) - 1)):=by
 have h1:(BitVec.ofInt 64 (-1) ^^^ BitVec.ofInt 64 (a:Int)).toNat=18446744073709551615 - a:=by
  have e1:BitVec.ofInt 64 (-1)=BitVec.allOnes 64:=by decide
  have e2:BitVec.ofInt 64 (a:Int)=BitVec.ofNat 64 a:=by simp
  rw [e1,e2,BitVec.allOnes_xor,BitVec.toNat_not,BitVec.toNat_ofNat]
  omega
 show some (AV.int .i64 (IntKind.i64.wrap ((BitVec.ofInt 64 (-1) ^^^ BitVec.ofInt 64 (a:Int)).toNat:Int)))=_
 rw [h1]
 have h2:IntKind.i64.wrap ((18446744073709551615 - a:Nat):Int) = -(a:Int) - 1:=by
  have h3:((18446744073709551615 - a:Nat):Int)=18446744073709551615 - (a:Int):=by omega
  rw [h3]
  simp [IntKind.wrap,IntKind.signed,IntKind.bits]
  omega
 rw [h2]
@[simp] theorem fr_range {d:Option Tmp} {t:TypeId} {l:Operand} {ty:TypeId} {pos:String} {af:Array Edge} {g:Option (Nat × Bool)} {s:St}:qbl s ⟨d,.range t l,ty,pos,af,g⟩=s:=rfl
@[simp] theorem fr_next {d:Option Tmp} {b:Bool} {l:Operand} {ty:TypeId} {pos:String} {af:Array Edge} {g:Option (Nat × Bool)} {s:St}:qbl s ⟨d,.next l b,ty,pos,af,g⟩=s:=rfl
def bl5 (n:Nat):List AV:=List.replicate n (.str [])
def sts (L:List Str):List AV:=L.map .str
theorem qyj (n:Nat):qac (bl5 n)=true:=by
 induction n with
 | zero=>rfl
 | succ n ih=>simp only [bl5,List.replicate_succ] at ih ⊢;simp [qac,qaf,ih]
theorem qms (L:List Str):qac (sts L)=true:=by
 induction L with
 | nil=>rfl
 | cons a r ih=>simp only [sts,List.map_cons] at ih ⊢;simp [qac,qaf,ih]
theorem sts_set {X:List Str} {k:Nat} {w:Str}:(sts X++bl5 (k+1)).set X.length (.str w)=sts (X++[w])++bl5 k:=by
 rw [List.set_append_right _ _ (by simp [sts])]
 simp [sts,bl5,List.replicate_succ]
theorem mkStrs {H:Heap} {n:Nat} (h:n≤1000000):qf6 Tryz.prog H 92 (.int .i64 (n:Int)) (.int .i64 (n:Int))=some (.slc H.n 0 n (.ex n),H.new (.cells (bl5 n))):=by
 have hr:∀ n,replL [AV.str []] n=bl5 n:=fun n=>by
  induction n with
  | zero=>rfl
  | succ n ih=>simp [replL,ih,bl5,List.replicate_succ]
 have h1:idx (n:Int) 17592186044416=some n:=qc0 (by omega)
 have h2:idx (n:Int) (Nat.succ n)=some n:=qc0 (by omega)
 have h3:qct n 16=true:=by unfold qct;rw [Nat.ble_eq];omega
 unfold qf6 msB
 simp [h1,h2,h3,hr]
theorem mkSp {H:Heap}:qf6 Tryz.prog H 126 (.int .i64 0) (.int .i64 32)=some (.slc H.n 0 0 (.ex 32),H.new (.cells (qp3 64))):=rfl
theorem ixS {b n i:Nat} {c:Cap} (h:i < n):qb1 Tryz.prog 92 (.slc b 0 n c) (.int .i64 (i:Int))=some (.ptr b i):=by
 simp [qb1,qc0 h]
theorem layS {v:AV}:∀ {cs:List AV} {i:Nat},i < cs.length→qj5 [v] i cs=some (cs.set i v)
 | [],_,h=>absurd h (Nat.not_lt_zero _)
 | x::r,0,_=>by simp [qj5,qi2]
 | x::r,i+1,h=>by
  simp only [qj5,layS (cs:=r) (i:=i) (by simpa using h)]
  rfl
def aSp (L:List (Nat × Nat)):AV:=.fslc 2 (L.map spn)
theorem atSp {L:List (Nat × Nat)} {i:Nat} (h:i < L.length):qb1 Tryz.prog 126 (aSp L) (.int .i64 (i:Int))=some (.fptr [.int .i64 ((L[i]).1:Int),.int .i64 ((L[i]).2:Int)] 0):=by
 simp [qb1,aSp,qc0 h,qgo h]
 simp [spn]
theorem lenSp {H:Heap} {L:List (Nat × Nat)}:qe3 Tryz.prog H 126 (aSp L)=some L.length:=by simp [qe3,aSp]
theorem slW {H:Heap} {s:Str} {a b:Nat} (h1:a≤b) (h2:b≤s.length):qdy Tryz.prog H 9 (.str s) (some (.int .i64 (a:Int))) (some (.int .i64 (b:Int))) none=some (.str (qdn s (a,b))):=by
 have i1:idx (b:Int) (Nat.succ s.length)=some b:=qc0 (by omega)
 have i2:idx (a:Int) (Nat.succ b)=some a:=qc0 (by omega)
 simp [qdy,qzp,qcv,i1,i2,qdn,List.drop_take]
theorem nx_yes {m i:Nat} {s:Str} {B:Blk} (h:i < s.length) (hc:s[i].toNat < 128):qp9 ⟨m,[[(1,.iter s i),(0,B)]]⟩ 1=some (.tup [.bool true,.int .i64 i,.int .i32 (s[i].toNat:Int)],⟨m,[[(1,.iter s (i+1)),(0,B)]]⟩):=by
 have hb:Nat.blt i s.length=true:=by simpa using h
 simp [qp9,Heap.get,getFs,getF,hb,zdm h hc,Heap.set,setFs,setF]
theorem nx_no {m i:Nat} {s:Str} {B:Blk} (h:¬ i < s.length):qp9 ⟨m,[[(1,.iter s i),(0,B)]]⟩ 1=some (.tup [.bool false],⟨m,[[(1,.iter s i),(0,B)]]⟩):=by
 have hb:Nat.blt i s.length=false:=by
  cases hq:Nat.blt i s.length with
  | false=>rfl
  | true=>exact absurd (by simpa using hq) h
 simp [qp9,Heap.get,getFs,getF,hb]
theorem qqx (n:Nat) (b:Nat):∃ c,(if n≤32 then AV.slc b 0 n (.ex 32) else AV.slc b 0 n (.rest 2))=.slc b 0 n c∧spV n=.slc 0 0 n c:=by
 unfold spV
 split
 ·exact ⟨_,rfl,rfl⟩
 ·exact ⟨_,rfl,rfl⟩
theorem fit_spV {L:List (Nat × Nat)} {σ:List (Nat × Nat)} {Φ:List (Nat × List AV)} (h:qc1 0 Φ=some (spB L)):qay σ Φ (spV L.length) (aSp L):=by
 obtain ⟨c,_,hc⟩:=qqx L.length 0
 rw [hc]
 simp only [aSp,qay]
 refine .inl ⟨_,h,?_,by simp,(el_spn L).size⟩
 rw [qya,qux]
theorem zd6 {H:Heap} {b:Nat} {cs:List AV} (h:H.get b=some (.cells cs)) (hp:qac cs=true):FitH 0 [] [(b,cs)] H ⟨0,[[]]⟩:=by
 refine ⟨by simp,by simp,by simp [Heap.ents],fun x h=>(by cases h),fun x h=>(by cases h),Nat.le_refl _,fun e h=>(by simp [Heap.ents] at h),fun x hx=>?_⟩
 rw [List.mem_singleton] at hx
 subst hx
 exact ⟨_,h,qak hp,hp⟩
theorem qrm {n:Nat}:qay [(1,1),(0,0)] [] (spV n) (spV n):=by
 obtain ⟨c,_,hc⟩:=qqx n 0
 rw [hc]
 simp [qay,qb2]
def sbC:List Nat→Code→Code
 | [],c=>c
 | d::r,c=>match c with
  | .seq a b=>match d with
   | 0=>sbC r a
   | _=>sbC r b
  | c=>c
def bdO (f:Func):Code:=match f.body with
 | some c=>c
 | none=>.skip
theorem qy9:∀ (L:List Str),qan (L.map AV.str)=sts L
 | []=>rfl
 | a::r=>by simp only [List.map_cons,qan,qy9 r];rfl
noncomputable def cdFF:Code:=sbC [1,1,1,1,1] (bdO Tryz.f117)
theorem zda {T:List (Entry Tryz.prog)} (s:Str) (L:List (Nat × Nat)) (hL:L.length≤1000000) (hr:∀ p,p∈L→p.1≤p.2∧p.2≤s.length) (W:List Str) (hW:L.map (qdn s)=W) :
  WpSr (ctx T) 0 none cdFF ((⟨[0,1,4,5,6,7,8,9,10,11,14,15,47,48,49],[.str s,.undef,.nilS,aSp L,.undef,.undef,.undef,.undef,.undef,.undef,.undef,.undef,.undef,.undef,.undef],[],65,⟨0,[[]]⟩⟩ : St)) (fun x s=>(x=.normal∨x=.ret)∧∃ vs,qab (ctx T) s [.tmp 4]=some vs∧∃ σ Φ,qay σ Φ (oneOr vs) (qc5 W)∧FitH 0 σ Φ s.H ⟨0,[]⟩):=by
 simp only [cdFF,sbC,bdO,Tryz.f117]
 have hm:=fun H=>mkStrs (H:=H) (n:=L.length) hL
 repeat apply wq
 refine qa0 qa1 ?_
 simp [zS,lenSp,hm]
 repeat apply wq
 refine qa0 qa1 ?_
 simp [zS,lenSp]
 obtain ⟨F,hF⟩ : ∃ F:Nat→List Str,F=fun i=>(L.take i).map (qdn s):=⟨_,rfl⟩
 have hF0:F 0=[]:=by rw [hF];simp
 have hFl:∀ i,i≤L.length→(F i).length=i:=fun i hi=>by rw [hF];simp;omega
 have hFs:∀ (i:Nat) (h:i < L.length),F (i+1)=F i++[qdn s L[i]]:=fun i h=>by
  rw [hF]
  show (L.take (i+1)).map (qdn s)=_
  rw [List.take_succ_eq_append_getElem h,List.map_append];rfl
 have hFn:F L.length=W:=by rw [hF,← hW];simp
 refine qa9 (qax (fun i:Nat=>(⟨[0,1,4,5,6,7,8,9,10,11,14,15,47,48,49],[.str s,.undef,.nilS,.undef,.undef,.undef,.undef,.slc 0 0 L.length (.ex L.length),.undef,.undef,.undef,.undef,aSp L,.int .i64 (L.length:Nat),.int .i64 i],[],65,⟨1,[[(0,.cells (sts (F i)++bl5 (L.length - i)))]]⟩⟩ : St))
  (fun i=>i≤L.length) (fun i=>L.length - i) [(0,0)] [] 0 (Nat.zero_le _)
  ⟨rfl,rfl,rfl,by simp [qb6,qay,qb2,qaf,aSp],.keep1 (b:=0) (by rw [hF0];simp [Heap.get,getFs,getF,sts]) (by rw [qfe,qms,qyj];rfl) rfl⟩ ?_)
 rintro i hi B hB
 repeat apply wq
 refine qa0 qa1 ?_
 simp [zS]
 repeat apply wq
 refine qau rfl (fun h=>?_) fun h=>?_
 ·simp at h
  refine qa7 ?_
  simp
  repeat apply wq
  refine qa9 ?_
  obtain ⟨r1,r2⟩:=hr L[i] (List.getElem_mem _)
  have hw:=fun H=>slW (H:=H) r1 r2
  have hlen:i < (sts (F i)++bl5 (L.length - i)).length:=by simp [sts,bl5,hFl i hi];omega
  have hset:(sts (F i)++bl5 (L.length - i)).set i (.str (qdn s ((L[i]).1,(L[i]).2)))=sts (F (i+1))++bl5 (L.length - (i+1)):=by
   have:=sts_set (X:=F i) (k:=L.length - (i+1)) (w:=qdn s L[i])
   rw [hFl i hi,← hFs i h] at this
   rw [show L.length - i=L.length - (i+1)+1 by omega]
   exact this
  have hla:=layS (v:=.str (qdn s ((L[i]).1,(L[i]).2))) hlen
  rw [hset] at hla
  generalize sts (F i)++bl5 (L.length - i)=C0 at *
  generalize hC1:sts (F (i+1))++bl5 (L.length - (i+1))=C1 at *
  repeat apply wq
  refine qa0 qa1 ?_
  simp [zS,atSp h]
  refine qa0 qa1 ?_
  simp [zS,hw,ixS h,hla]
  refine qa0 qa1 ?_
  simp [zS,qba (show i≤1000000000 by omega)]
  refine hB _ (i+1) (by omega) (by omega) ⟨[(0,0)],[],rfl,rfl,rfl,by simp [qb6,qay,qb2,qaf,aSp],?_⟩
  rw [hC1]
  exact .keep1 (b:=0) (by simp [Heap.get,getFs,getF]) (by rw [← hC1,qfe,qms,qyj];rfl) rfl
 ·simp at h
  have hie:i=L.length:=by omega
  subst hie
  have hz:sts (F L.length)++bl5 (L.length - L.length)=sts W:=by rw [Nat.sub_self,hFn];simp [bl5]
  have hlW:W.length=L.length:=by rw [← hW];simp
  rw [hz,← hlW]
  refine qat ?_
  simp
  repeat apply wq
  refine qa0 qa1 ?_
  simp [zS]
  refine qa8 ?_
  simp [qab,oneOr]
  refine ⟨[],[(0,sts W)],?_,.froze (by simp) fun y hy=>?_⟩
  ·have hf:=qy9 W
   simp only [qay]
   refine .inl ⟨sts W,by simp [qc1],?_,by simp,(ql7 W).size⟩
   rw [hf,qiy (by simp [sts]),List.drop_zero,List.take_of_length_le (by simp [sts])]
  ·rw [List.mem_singleton] at hy
   subst hy
   exact ⟨_,by simp [Heap.get,getFs,getF],qak (qms W),qms W⟩
theorem c117 {T:List (Entry Tryz.prog)} (s:Str) (hs:qcz s) (hl:s.length≤900000) (clo:FuncId) (hp:∀ c:UInt8,c.toNat < 128→CallAt (ctx T) clo [.int .i32 (c.toNat:Int)] ⟨0,[]⟩ (.bool (sp c)) ⟨0,[]⟩) :
  CallAt (ctx T) 117 [.str s,.func (.func clo) [] []] ⟨0,[]⟩ (qc5 (qbo s)) ⟨0,[]⟩:=by
 have hm1:wr .i64 (0 - 1)=some (-1):=rfl
 refine qa3 (fn:=Tryz.f117) (s0:=⟨[0,1,4,5,6,7,8,9,10,11,14,15,47,48,49],[.str s,.func (.func clo) [] [],.undef,.undef,.undef,.undef,.undef,.undef,.undef,.undef,.undef,.undef,.undef,.undef,.undef],[],65,⟨0,[[]]⟩⟩) Tryz.func117 rfl rfl rfl ?_
 repeat apply wq
 refine qa0 qa1 ?_
 simp [zS]
 repeat apply wq
 refine qa0 qa1 ?_
 simp [zS,mkSp]
 repeat apply wq
 refine qa0 qa1 ?_
 simp [zS]
 repeat apply wq
 refine qa0 qa1 ?_
 simp [zS,rgV]
 refine qa9 (qax (fun x:Nat × List (Nat × Nat) × Int=>(⟨[0,1,4,5,6,7,8,9,10,11,14,15,47,48,49],[.str s,.func (.func clo) [] [],.nilS,spV x.2.1.length,.int .i64 x.2.2,.undef,.undef,.undef,.undef,.undef,.ptr 1 0,.undef,.undef,.undef,.undef],[],65,⟨2,[[(1,.iter s x.1),(0,.cells (spB x.2.1))]]⟩⟩ : St))
  (fun x=>SpOk s x.1 x.2.1 x.2.2) (fun x=>s.length - x.1) [(1,1),(0,0)] [] (0,[],-1) (sp_begin s)
  ⟨rfl,rfl,rfl,by simp [qb6,qay,qb2,qaf,qac,spV],qu3 (by omega) (by simp [Heap.get,getFs,getF]) (by simp [Heap.get,getFs,getF,spB,qp7]) (qhh _)⟩ ?_)
 rintro ⟨i,L,st⟩ hk B hB
 have hi:=hk.le
 have hfew:=hk.few
 have hlo:=hk.lo
 simp only at hi hfew hlo hk
 by_cases h:i < s.length
 ·have hc:s[i].toNat < 128:=hs _ (List.getElem_mem _)
  have hbu:∀ a:Nat,qff Tryz.prog 128 [(0,.int .i64 (a:Int)),(1,.int .i64 (i:Int))]=some (.agg [.int .i64 (a:Int),.int .i64 (i:Int)]):=fun a=>rfl
  have hcall:=(hp s[i] hc).lift (by simp [qac,qaf]) ⟨2,[[(1,.iter s (i+1)),(0,.cells (spB L))]]⟩
  have stay:∀ (st':Int) (σ0:Unit),SpOk s (i+1) L st'→∀ s':St,Fit 0 [(1,1),(0,0)] [] s' ((⟨[0,1,4,5,6,7,8,9,10,11,14,15,47,48,49],[.str s,.func (.func clo) [] [],.nilS,spV L.length,.int .i64 st',.undef,.undef,.undef,.undef,.undef,.ptr 1 0,.undef,.undef,.undef,.undef],[],65,⟨2,[[(1,.iter s (i+1)),(0,.cells (spB L))]]⟩⟩ : St))→B s':=fun st' _ hok s' hf=>hB s' (i+1,L,st') (by simp only;omega) hok ⟨_,_,hf⟩
  repeat apply wq
  refine qa0 qa1 ?_
  simp [zS,nxV,nx_yes h hc]
  repeat apply wq
  refine qai rfl ?_
  refine qa7 ?_
  simp
  refine qa9 ?_
  rcases Bool.eq_false_or_eq_true (sp s[i]) with hsp | hsp
  ·rw [hsp] at hcall
   repeat apply wq
   refine qa0 qa1 ?_
   simp [zS]
   repeat apply wq
   refine qa0 (qca [⟨clo,_,_,_,_,hcall⟩]) ?_
   simp [zS,qdb]
   refine qai rfl ?_
   rcases hk.cur with ⟨h0,_⟩ | ⟨a,ha,hai,_⟩
   ·have hge:¬ (0:Int)≤st:=by omega
    repeat apply wq
    refine qa0 qa1 ?_
    simp [zS,hge]
    refine qal rfl ?_
    refine qa7 ?_
    simp
    exact stay st () (zb2 h hk hsp h0) _ ⟨rfl,rfl,rfl,by simp [qb6,qay,qb2,qaf,qac,qrm],qu3 (by omega) (by simp [Heap.get,getFs,getF]) (by simp [Heap.get,getFs,getF]) (qhh _)⟩
   ·subst ha
    have hge:(0:Int)≤(a:Int):=by omega
    obtain ⟨b,m,f,hb1,happ,hg1,hg2⟩:=app_sp (L:=L) (p:=(a,i)) (I:=.iter s (i+1)) (by omega)
    have hxo:=xor_not (a:=a) (by omega)
    obtain ⟨c,e1,e2⟩:=qqx (L.length+1) b
    simp only [e1] at happ
    repeat apply wq
    refine qa0 qa1 ?_
    simp [zS,hge]
    refine qai (by simp [qbq,St.get]) ?_
    repeat apply wq
    refine qa0 qa1 ?_
    simp [zS,hbu,happ]
    refine qa0 qa1 ?_
    simp [zS,hxo]
    refine hB _ (i+1,L++[(a,i)],-(a:Int) - 1) (by simp only;omega) (zb1 h hk hsp (by omega)) ⟨[(1,1),(b,0)],[],rfl,rfl,rfl,?_,qu3 hb1 hg1 hg2 (qhh _)⟩
    simp only [List.length_append,List.length_cons,List.length_nil,Nat.zero_add,e2]
    simp [qb6,qay,qb2,qaf,qac]
    omega
  ·rw [hsp] at hcall
   repeat apply wq
   refine qa0 qa1 ?_
   simp [zS]
   repeat apply wq
   refine qa0 (qca [⟨clo,_,_,_,_,hcall⟩]) ?_
   simp [zS,qdb]
   refine qal rfl ?_
   rcases hk.cur with ⟨h0,_⟩ | ⟨a,ha,hai,_⟩
   ·repeat apply wq
    refine qa0 qa1 ?_
    simp [zS,h0]
    refine qai rfl ?_
    refine qa0 qa1 ?_
    simp [zS]
    exact stay i () (sp_char0 h hk hsp h0) _ ⟨rfl,rfl,rfl,by simp [qb6,qay,qb2,qaf,qac,qrm],qu3 (by omega) (by simp [Heap.get,getFs,getF]) (by simp [Heap.get,getFs,getF]) (qhh _)⟩
   ·subst ha
    have hge:¬ (a:Int) < 0:=by omega
    repeat apply wq
    refine qa0 qa1 ?_
    simp [zS,hge]
    refine qal (by simp [qbq,St.get,hge]) ?_
    refine qa7 ?_
    simp
    exact stay a () (sp_char1 h hk hsp) _ ⟨rfl,rfl,rfl,by simp [qb6,qay,qb2,qaf,qac,qrm],qu3 (by omega) (by simp [Heap.get,getFs,getF]) (by simp [Heap.get,getFs,getF]) (qhh _)⟩
 ·have hie:i=s.length:=by omega
  subst hie
  have hbu:∀ a:Nat,qff Tryz.prog 128 [(0,.int .i64 (a:Int)),(1,.int .i64 (s.length:Int))]=some (.agg [.int .i64 (a:Int),.int .i64 (s.length:Int)]):=fun a=>rfl
  repeat apply wq
  refine qa0 qa1 ?_
  simp [zS,nxV,nx_no h]
  repeat apply wq
  refine qal rfl ?_
  refine qat ?_
  simp
  rcases hk.cur with ⟨h0,_⟩ | ⟨a,ha,hai,_⟩
  ·have hge:¬ (0:Int)≤st:=by omega
   repeat apply wq
   refine qa0 qa1 ?_
   simp [zS,hge]
   refine qal (by simp [qbq,St.get,hge]) ?_
   refine qa7 ?_
   simp only [qaa]
   refine WpSr.fit [] [(0,spB L)] (s':=(⟨[0,1,4,5,6,7,8,9,10,11,14,15,47,48,49],[.str s,.undef,.nilS,aSp L,.undef,.undef,.undef,.undef,.undef,.undef,.undef,.undef,.undef,.undef,.undef],[],65,⟨0,[[]]⟩⟩ : St)) ⟨rfl,rfl,rfl,by simp [qb6,qay,qaf];exact fit_spV (by simp [qc1]),?_⟩ (zda s L (by omega) hk.rng _ (sp_end0 hk h0))
   exact zd6 (by simp [Heap.get,getFs,getF]) (qhh _)
  ·subst ha
   obtain ⟨hw,hal⟩:=sp_end1 hk
   have hge:(0:Int)≤(a:Int):=by omega
   obtain ⟨b,m,f,hb1,happ,hg1,hg2⟩:=app_sp (L:=L) (p:=(a,s.length)) (I:=.iter s s.length) (by omega)
   obtain ⟨c,e1,e2⟩:=qqx (L.length+1) b
   simp only [e1] at happ
   repeat apply wq
   refine qa0 qa1 ?_
   simp [zS,hge]
   refine qai (by simp [qbq,St.get]) ?_
   refine qa0 qa1 ?_
   simp [zS,hbu,happ]
   have hfv:qay [] [(b,spB (L++[(a,s.length)]))] (.slc b 0 (L.length+1) c) (aSp (L++[(a,s.length)])):=by
    simp only [aSp,qay]
    refine .inl ⟨_,by simp [qc1];rfl,?_,by simp,(el_spn _).size⟩
    have:=qux (L++[(a,s.length)])
    rw [qya]
    simpa using this
   refine WpSr.fit [] [(b,spB (L++[(a,s.length)]))] (s':=(⟨[0,1,4,5,6,7,8,9,10,11,14,15,47,48,49],[.str s,.undef,.nilS,aSp (L++[(a,s.length)]),.undef,.undef,.undef,.undef,.undef,.undef,.undef,.undef,.undef,.undef,.undef],[],65,⟨0,[[]]⟩⟩ : St)) ⟨rfl,rfl,rfl,by simp [qb6,qay,qaf] at hfv ⊢;exact hfv,?_⟩ (zda s (L++[(a,s.length)]) (by simp;omega) (fun p hp=>?_) _ hw)
   ·exact zd6 hg2 (qhh _)
   ·rcases List.mem_append.1 hp with hp | hp
    ·exact hk.rng p hp
    ·simp at hp;subst hp;exact ⟨by simp only;omega,by simp only;omega⟩
theorem c80 {T:List (Entry Tryz.prog)} (s:Str) (hs:qcz s) (hl:s.length≤900000):CallAt (ctx T) 80 [.str s] ⟨0,[]⟩ (qc5 (qbo s)) ⟨0,[]⟩:=by
 have hc:=(c117 (T:=T) s hs hl 118 fun c h=>c118 (T:=[e78]) rfl c h).lift (by simp [qac,qaf]) ⟨0,[[]]⟩
 generalize qbo s=W at *
 refine qa3 (fn:=Tryz.f80) (s0:=⟨[0,2],[.str s,.undef],[],5,⟨0,[[]]⟩⟩) Tryz.func80 rfl rfl rfl ?_
 repeat apply wq
 refine qa0 qa1 ?_
 simp [zS]
 repeat apply wq
 refine qa0 (qca [⟨117,_,_,_,_,hc⟩]) ?_
 simp [zS,qdb]
 refine qa8 ?_
 simp [qab,Tryz.f80,oneOr,qaa,qa2]
 first | exact ⟨[],[],FitH.empty⟩ | exact qa4 rfl (by rfl)
theorem c44a {T:List (Entry Tryz.prog)} (W x:Str) (hW:qcz W) (hl:W.length≤100000) (hx:x.length≤1000000000):CallAt (ctx T) 44 [.str W,.str x] ⟨0,[]⟩ (.bool (inW W x)) ⟨0,[]⟩:=
 c44 (T:=[e77,e78]) rfl rfl W x hl hx (c80 (T:=[]) W hW (by omega)) (c79 (T:=[e116]) rfl _ x (by have:=qpj W;omega))
theorem inj_wInA (x y:Str × Str) (h:[AV.str x.1,AV.str x.2]=[AV.str y.1,AV.str y.2]):x=y:=by
 simp at h;exact Prod.ext h.1 h.2
noncomputable def e44a:Entry Tryz.prog:=mkE 44 [[],[]] (fun x:Str × Str=>[.str x.1,.str x.2]) (fun x=>qcz x.1∧x.1.length≤100000∧x.2.length≤1000000000) (fun x=>.bool (inW x.1 x.2)) fun x hx=>c44a (T:=[]) x.1 x.2 hx.1 hx.2.1 hx.2.2
theorem k44a {T:List (Entry Tryz.prog)} (hT:qag 44 T=some e44a.g) {W x:Str} (hW:qcz W) (hl:W.length≤100000) (hx:x.length≤1000000000) (H:Heap):qb9 (ctx T) (.fn 44) [.str W,.str x] H=some (.bool (inW W x),H):=
 qae hT inj_wInA (W,x) ⟨hW,hl,hx⟩ rfl (by simp)
section
variable {ρ ρ':Place} {H H':Heap} {w w':World} {b:Nat} {k k':Blk}
end
theorem qn2 {σ:List (Nat × Nat)} {Φ:List (Nat × List AV)}:∀ {a a' b b':List AV},qb6 σ Φ a a'→qb6 σ Φ b b'→qb6 σ Φ (a++b) (a'++b')
 | [],[],_,_,_,h=>h
 | x::a,y::a',b,b',h,k=>by
  simp only [List.cons_append,qb6] at h ⊢
  exact ⟨h.1,qn2 h.2 k⟩
 | [],_::_,_,_,h,_=>by simp [qb6] at h
 | _::_,[],_,_,h,_=>by simp [qb6] at h
section
variable {C:Ctx} {f:FuncId} {args:List AV} {v:AV} {H:Heap} {bt nb n n':Nat} {cap cap':Cap} {pre post cs cs':List AV}
end
@[simp] theorem szT100:qc7 Tryz.prog 100=some 1:=rfl
@[simp] theorem agT100:qgs Tryz.prog 100=some false:=rfl
@[simp] theorem byT100:qce Tryz.prog 100=some 24:=rfl
@[simp] theorem alT100 (H:Heap):alV Tryz.prog H 100=some (.ptr H.n 0,H.new (.cells [.nilS])):=rfl
@[simp] theorem zeT100:qbt Tryz.prog 100=some (.nilS):=rfl
attribute [simp] Tryz.underlying100
@[simp 500] theorem rvF100 (H:Heap) (cs:List AV) (o:Nat):qb5 Tryz.prog H 100 (.fptr cs o)=qcl cs o:=rfl
@[simp 500] theorem rvP100 (H:Heap) (b o:Nat):qb5 Tryz.prog H 100 (.ptr b o)=(H.get b).bind fun k=>k.rd.bind fun cs=>qcl cs o:=rfl
@[simp] theorem slz100 (sz:Nat) (e:AV) (r:List AV):qd4 Tryz.prog .eql 100 (.fslc sz (e::r)) .nilS=some (.bool false):=rfl
@[simp] theorem sln100 (sz:Nat) (e:AV) (r:List AV):qd4 Tryz.prog .neq 100 (.fslc sz (e::r)) .nilS=some (.bool true):=rfl
@[simp] theorem slze100:qd4 Tryz.prog .eql 100 .eslc .nilS=some (.bool false):=rfl
@[simp] theorem slzz100:qd4 Tryz.prog .eql 100 .nilS .nilS=some (.bool true):=rfl
theorem Sim.perm {ρ:Place} {H H2:Heap} {w:World} (h:Sim ρ H w) (n:H2.n=H.n) (p:H2.ents.Perm H.ents):Sim ρ H2 w where
 base:=h.base
 below:=h.below
 os:=h.os
 tape:=h.tape
 output:=h.output
 dom:=fun b hb=>h.dom b (n ▸ hb)
 nodup:=(p.map _).nodup_iff.2 h.nodup
 live:=fun e he=>h.live e (p.mem_iff.1 he)
 inj:=fun e e' he he'=>h.inj e e' (p.mem_iff.1 he) (p.mem_iff.1 he')
theorem Step.perm {ρ ρ':Place} {H H2 H' H2':Heap} {w w':World} (h:Step ρ H w ρ' H' w') (n:H2.n=H.n) (n':H2'.n=H'.n) (p:H2.ents.Perm H.ents) (p':H2'.ents.Perm H'.ents):Step ρ H2 w ρ' H2' w' where
 le:=h.le
 size:=h.size
 keeps:=fun k hk hn=>h.keeps k hk fun e he=>hn e (p.mem_iff.2 he)
 rows:=fun e' he' l' hl'=>by
  rcases h.rows e' (p'.mem_iff.1 he') l' hl' with ⟨e,he,x⟩ | x
  ·exact .inl ⟨e,p.mem_iff.2 he,x⟩
  ·exact .inr x
 num:=by rw [n,n'];exact h.num
 low:=fun b hb=>h.low b (n ▸ hb)
 cold:=fun k hk=>by
  rcases h.cold k hk with x | ⟨e,he,x⟩ | x
  ·exact .inl x
  ·exact .inr (.inl ⟨e,p.mem_iff.2 he,x⟩)
  ·exact .inr (.inr x)
theorem CallAt.perm {C:Ctx} {f:FuncId} {args:List AV} {H H2 H' H2':Heap} {v:AV} (h:CallAt C f args H v H') (n:H2.n=H.n) (n':H2'.n=H'.n) (p:H2.ents.Perm H.ents) (p':H2'.ents.Perm H'.ents):CallAt C f args H2 v H2':=by
 intro ρ w xs sm hx
 have sm':=sm.perm n.symm p.symm
 rcases h ρ w xs sm' hx with ⟨x,ρ',w',h0,h1,h2,h3⟩ | ⟨g,ys,h0,h1⟩
 ·exact .inl ⟨x,ρ',w',h0,h1,h2.perm n' p',h3.perm n n' p p'⟩
 ·refine .inr ⟨g,ys,h0,h1.mono ?_⟩
  rintro e w' ⟨x,ρ',rfl,m1,m2,m3⟩
  exact ⟨x,ρ',rfl,m1,m2.perm n' p',m3.perm n n' p p'⟩
theorem qxd {x:Nat × Blk} {f B g:List (Nat × Blk)}:(f++(x::(B++g))).Perm (x::(B++(f++g))):=by
 refine (List.perm_append_comm (l₁:=f) (l₂:=x::(B++g))).trans ?_
 show (x::((B++g)++f)).Perm _
 refine List.Perm.cons _ ?_
 rw [List.append_assoc]
 exact List.Perm.append_left _ List.perm_append_comm
theorem CallAt.top {C:Ctx} {f:FuncId} {args:List AV} {v:AV} {m m':Nat} {x x':Nat × Blk} {fr B B' g g':List (Nat × Blk)} (h:CallAt C f args ⟨m,[x::(B++(fr++g))]⟩ v ⟨m',[x'::(B'++(fr++g'))]⟩):CallAt C f args ⟨m,[fr,x::(B++g)]⟩ v ⟨m',[fr,x'::(B'++g')]⟩:=
 h.perm rfl rfl (by simpa [Heap.ents] using qxd) (by simpa [Heap.ents] using qxd)
def idn (m:Nat):List (Nat × Nat):=(List.range m).map fun i=>(i,i)
theorem qvq {m i:Nat} (h:i < m):(i,i)∈idn m:=List.mem_map.2 ⟨i,by simpa using h,rfl⟩
theorem qxs:∀ {σ:List (Nat × Nat)} {i j:Nat},(σ.map (·.1)).Nodup→(i,j)∈σ→qb2 i σ=some j
 | [],_,_,_,h=>by cases h
 | x::r,i,j,nd,h=>by
  rw [List.map_cons,List.nodup_cons] at nd
  unfold qb2
  rcases List.mem_cons.1 h with rfl | h
  ·simp
  ·have hne:¬ x.1=i:=fun e=>nd.1 (List.mem_map.2 ⟨_,h,e.symm⟩)
   rw [if_neg hne]
   exact qxs nd.2 h
theorem idn_nd (m:Nat):((idn m).map (·.1)).Nodup:=by
 have:(idn m).map (·.1)=List.range m:=by simp [idn,Function.comp_def]
 rw [this];exact List.nodup_range
theorem idn_nd2 (m:Nat):((idn m).map (·.2)).Nodup:=by
 have:(idn m).map (·.2)=List.range m:=by simp [idn,Function.comp_def]
 rw [this];exact List.nodup_range
theorem qoc {m i:Nat} (h:i < m):qb2 i (idn m)=some i:=qxs (idn_nd m) (qvq h)
def Idl (m:Nat) (σ:List (Nat × Nat)):Prop:=∀ i,i < m→qb2 i σ=some i
theorem idl_idn (m:Nat):Idl m (idn m):=fun i h=>qoc h
def SelfB (m:Nat) (k:Blk):Prop:=∀ σ,Idl m σ→qi0 σ [] k k
theorem SelfB.mono {m m':Nat} {k:Blk} (h:SelfB m k) (hm:m≤m'):SelfB m' k:=fun σ hσ=>h σ fun i hi=>hσ i (by omega)
structure Bs where
 k:Nat
 out:Str
def upd (m:Nat) (b:Bs) (s:Str):Bs:=match s with
 | []=>b
 | _::_=>⟨m,b.out++s⟩
theorem ql8:∀ (s:Str),(qb0 s).length=s.length
 | []=>rfl
 | c::r=>by simp [qb0,ql8 r]
end Go.Proofs.YtgpjifeeneeiaaaGreatDoor