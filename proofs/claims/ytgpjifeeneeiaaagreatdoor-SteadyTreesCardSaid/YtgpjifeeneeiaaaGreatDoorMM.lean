/- The reference's reading of a character. No condition. -/
import Derived.Test.YtgpjifeeneeiaaaGreatDoorMG
import Derived.Test.YtgpjifeeneeiaaaGreatDoorMI
import Derived.Test.YtgpjifeeneeiaaaGreatDoorML
namespace Go.Proofs.YtgpjifeeneeiaaaGreatDoor
set_option linter.unusedSimpArgs false
set_option linter.unusedVariables false
open Go Go.RowKit
set_option maxRecDepth 100000
theorem qd6:∀ {s:Str} {i:Nat} (h:i < s.length),qcl (qb0 s) i=some (.int .u8 (s[i].toNat:Int))
 | [],i,h=>absurd h (Nat.not_lt_zero i)
 | c::r,0,_=>rfl
 | c::r,i+1,h=>by
  have:=qd6 (s:=r) (i:=i) (by simpa using h)
  simpa [qb0] using this
theorem qli {x:UInt8}:∀ {s:Str} {i:Nat} (h:i < s.length),qj5 [.int .u8 (x.toNat:Int)] i (qb0 s)=some (qb0 (s.set i x))
 | [],i,h=>absurd h (Nat.not_lt_zero i)
 | c::r,0,_=>by simp [qb0]
 | c::r,i+1,h=>by
  have:=qli (x:=x) (s:=r) (i:=i) (by simpa using h)
  simp [qb0,this]
theorem qhu:∀ (s:Str),qk5 (qb0 s)=some s
 | []=>rfl
 | c::r=>by simp [qb0,qk5,qw9,qhu r]
theorem qfr:∀ (s:Str),qac (qb0 s)=true
 | []=>by simp [qb0,qac]
 | c::r=>by simp [qb0,qac,qaf,qfr r]
theorem qng {s:Str}:qeu 0 s.length (qb0 s)=some (qb0 s):=by
 have:=qfy (n:=s.length) (l:=qb0 s) (by rw [qbj];omega)
 rw [qiy (by rw [qbj];omega)]
 simp [List.take_of_length_le,qbj]
def qdw (n:Nat) (s:Str):Heap:=⟨n,[[(0,.cells (qb0 s))]]⟩
theorem conv1 {s:Str} (h:s.length≤1000000):qi4 Tryz.prog ⟨0,[[]]⟩ 9 100 (.str s)=some (.slc 0 0 s.length (.rest 1),qdw 1 s):=by
 have:qct s.length 1=true:=by simp [qct];omega
 simp [qi4,this,qdw,Heap.new,pushF]
theorem conv2 {n len:Nat} {s:Str} {cap:Cap} (e:s.length=len):qi4 Tryz.prog (qdw n s) 100 9 (.slc 0 0 len cap)=some (.str s,qdw n s):=by
 subst e
 simp [qi4,qcc,qbi,readCells,qdw,Heap.get,getFs,getF,qng,qhu]
theorem ix52 {b o len i:Nat} {cap:Cap} (h:i < len):qb1 Tryz.prog 100 (.slc b o len cap) (.int .i64 (i:Int))=some (.ptr b (o+i)):=by simp [qb1,qc0 h]
theorem len52 {H:Heap} {b o n:Nat} {cap:Cap}:qe3 Tryz.prog H 100 (.slc b o n cap)=some n:=by simp [qe3]
theorem qgq {n:Nat} {s t:Str} (e:s=t):FitH 0 [(0,0)] [] (qdw n s) (qdw 1 t):=by
 subst e
 have hb:qi0 [(0,0)] [] (.cells (qb0 s)) (.cells (qb0 s)):=by
  show qb6 _ _ _ _
  exact qak (qfr s)
 refine ⟨by simp,by simp,by simp [qdw,Heap.ents],by simp [qdw],by simp,Nat.zero_le _,?_,by simp⟩
 intro e he
 simp [qdw,Heap.ents] at he
 subst he
 exact ⟨0,_,by simp,by simp [qdw,Heap.get,getFs,getF],hb⟩
theorem qmd {len:Nat} {cap:Cap}:qay [(0,0)] [] (.slc 0 0 len cap) (.slc 0 0 len cap):=by simp [qay,qb2]
theorem qei:∀ (s:Str),qb0 s=s.map fun c=>AV.int .u8 (c.toNat:Int)
 | []=>rfl
 | c::r=>by simp [qb0,qei r]
theorem el_bytes (s:Str):Elems 1 (qb0 s):=by
 rw [qei]
 exact .map (sz:=1) (f:=fun c:UInt8=>AV.int .u8 (c.toNat:Int)) (by decide) (fun x=>⟨rfl,rfl,fun _=>rfl,fun h=>absurd rfl h⟩) s
theorem qlo:∀ (s:Str),qan (qb0 s)=qb0 s
 | []=>rfl
 | c::r=>by simp [qb0,qan,qlo r]
theorem qm6:∀ (s:Str),allSingle (qb0 s)=true
 | []=>rfl
 | c::r=>by simp [qb0,allSingle,AV.single,qm6 r]
theorem qys (s:Str) (n:Nat):(qb0 s).take n=qb0 (s.take n):=by rw [qei,qei,List.map_take]
theorem qqf (s:Str) (n:Nat):(qb0 s).drop n=qb0 (s.drop n):=by rw [qei,qei,List.map_drop]
theorem zee (s t:Str):qb0 s++qb0 t=qb0 (s++t):=by rw [qei,qei,qei,List.map_append]
def aB (s:Str):AV:=.fslc 1 (qb0 s)
theorem atB {s:Str} {i:Nat} (h:i < s.length):qb1 Tryz.prog 100 (aB s) (.int .i64 (i:Int))=some (.fptr [.int .u8 (s[i].toNat:Int)] 0):=by
 simp [qb1,aB,qc0 (show i < (qb0 s).length by rw [qbj];exact h),qd6 h,AV.cells]
theorem lenB {H:Heap} {s:Str}:qe3 Tryz.prog H 100 (aB s)=some s.length:=by simp [qe3,aB,qbj]
theorem slB {H:Heap} {s:Str} {i:Nat} (h:i≤s.length):qdy Tryz.prog H 100 (aB s) (some (.int .i64 (i:Int))) none none=some (aB (s.drop i)):=by
 have h2:idx (i:Int) (Nat.succ (qb0 s).length)=some i:=qc0 (by rw [qbj];omega)
 rw [qbj] at h2
 simp [qdy,qzp,aB,qcv,qbj]
 rw [h2]
 simp
 rw [List.take_of_length_le (by rw [qbj];omega),qqf]
theorem slB2 {H:Heap} {s:Str} {i j:Nat} (h:i≤j) (hj:j≤s.length):qdy Tryz.prog H 100 (aB s) (some (.int .i64 (i:Int))) (some (.int .i64 (j:Int))) none=some (aB ((s.take j).drop i)):=by
 have h1:idx (j:Int) (Nat.succ (qb0 s).length)=some j:=qc0 (by rw [qbj];omega)
 have h2:idx (i:Int) (Nat.succ j)=some i:=qc0 (by omega)
 simp [qdy,qzp,aB,qcv,h1,h2,qys,qqf]
theorem inj_aB {s t:Str} (h:aB s=aB t):s=t:=by
 simp only [aB,AV.fslc.injEq,true_and,qei] at h
 exact List.map_inj_right (fun x y h=>by simp at h;exact UInt8.toNat_inj.1 (by omega)) |>.1 h
theorem inj_b1 (x y:Str) (h:[aB x]=[aB y]):x=y:=inj_aB (by simpa using h)
def gV (b:Nat) (s:Str):AV:=match s with
 | []=>.nilS
 | _::_=>.slc b 0 s.length (.rest 1)
def gF (b:Nat) (s:Str):List (Nat × Blk):=match s with
 | []=>[]
 | _::_=>[(b,.buf 5 0 (qb0 s))]
theorem gV_ne {b:Nat} {s:Str} (h:s≠[]):gV b s=.slc b 0 s.length (.rest 1):=by cases s <;> first | exact absurd rfl h | rfl
theorem gF_ne {b:Nat} {s:Str} (h:s≠[]):gF b s=[(b,.buf 5 0 (qb0 s))]:=by cases s <;> first | exact absurd rfl h | rfl
theorem qja (s:Str):(qb0 s).length=s.length:=qbj s
theorem app_g {m:Nat} {s t:Str} {x:AV} {g:List (Nat × Blk)} (hx:qcc x=some t.length) (hc:qbi ⟨m,[g++gF 0 s]⟩ 1 t.length x=some (qb0 t)) (hg:getF 0 g=none) (ht:0 < t.length) (hl:s.length+t.length≤1000000000) :
  qc2 Tryz.prog ⟨m,[g++gF 0 s]⟩ 5 (gV 0 s) x=some (.slc m 0 (s.length+t.length) (.rest 1),⟨m+1,[(m,.buf 5 0 (qb0 (s++t)))::g]⟩):=by
 have hrow:∀ cs,qsb Tryz.prog 5 cs=.buf 5 0 cs:=fun cs=>rfl
 have get0:∀ (g:List (Nat × Blk)) (k:Blk),getF 0 g=none→getF 0 (g++[(0,k)])=some k:=by
  intro g k
  induction g with
  | nil=>intro _;simp [getF]
  | cons e r ih=>
   intro h
   unfold getF at h
   simp only [List.cons_append]
   unfold getF
   split at h
   ·cases h
   ·rename_i hb
    first | exact ih h | (rw [hb];exact ih h)
 have kill0:∀ (g:List (Nat × Blk)) (k:Blk),getF 0 g=none→killF 0 (g++[(0,k)])=g:=by
  intro g k
  induction g with
  | nil=>intro _;simp [killF]
  | cons e r ih=>
   intro h
   unfold getF at h
   simp only [List.cons_append]
   unfold killF
   split at h
   ·cases h
   ·rename_i hb
    first | rw [ih h] | (rw [hb];simp only;rw [ih h])
 have e2:Nat.blt 0 1=true:=rfl
 have e3:Nat.beq 1 0=false:=rfl
 obtain ⟨n,hn⟩ : ∃ n,t.length=n+1:=⟨t.length - 1,by omega⟩
 have hbl:Nat.beq (qb0 t).length (t.length * 1)=true:=by rw [qja,Nat.mul_one];exact Nat.beq_refl _
 have hbl':Nat.beq (qb0 t).length t.length=true:=by rw [qja];exact Nat.beq_refl _
 cases s with
 | nil=>
  have hr:qct t.length 1=true:=by unfold qct;rw [Nat.ble_eq];omega
  unfold qc2
  simp only [szT5,byT5,zeT5,Option.bind_some,gV,hx,hc]
  rw [hn] at hr hbl hbl' ⊢
  simp [hr,hbl,hbl',e2,e3,hrow,Heap.new,pushF,gF,hn]
 | cons c r=>
  have hr:qct ((c::r).length+t.length) 1=true:=by unfold qct;rw [Nat.ble_eq];omega
  have gt:Heap.get ⟨m,[g++gF 0 (c::r)]⟩ 0=some (.buf 5 0 (qb0 (c::r))):=by
   simp only [Heap.get,getFs,gF,get0 g _ hg]
  have hk:qck ⟨m,[g++gF 0 (c::r)]⟩ 0=some (c::r).length:=by
   unfold qck
   simp only [gt,Option.bind_some,rd_buf,qja]
  have hrd:readCells ⟨m,[g++gF 0 (c::r)]⟩ 0 0 ((c::r).length * 1)=some (qb0 (c::r)):=by
   unfold readCells
   simp only [gt,Option.bind_some,rd_buf,Nat.mul_one]
   exact qng
  have b1:Nat.ble (0+((c::r).length+t.length) * 1) (c::r).length=false:=by rw [← Bool.not_eq_true,Nat.ble_eq];omega
  have b2:Nat.beq (0+(c::r).length * 1) (c::r).length=true:=by rw [Nat.mul_one,Nat.zero_add];exact Nat.beq_refl _
  have hgo:goOn (.buf 5 0 (qb0 (c::r))) 5 0 (qb0 (c::r)++qb0 t)=some (.buf 5 0 (qb0 (c::r)++qb0 t)):=rfl
  unfold qc2
  simp only [szT5,byT5,zeT5,Option.bind_some,gV,hx,hc,hr,qm6,Nat.beq_refl,hk,b1,b2,hbl,hrd,gt,hgo]
  simp [e2,e3,Heap.drop,qea,gF,get0 g _ hg,kill0 g _ hg,Heap.new,pushF,zee,Nat.beq]
theorem fit_g {H:Heap} {b:Nat} {s:Str} (hs:s≠[]) (h:H.get b=some (.buf 5 0 (qb0 s))):FitH 0 [(b,0)] [] H ⟨1,[gF 0 s]⟩ where
 nd1:=by simp
 nd2:=by simp
 nd3:=by simp [Heap.ents,gF_ne hs]
 lt:=fun x hx=>by simp at hx;subst hx;exact Nat.zero_lt_one
 idn:=fun x hx h=>by rcases h with h | h <;> exact absurd h (Nat.not_lt_zero _)
 num:=Nat.zero_le _
 src:=fun e he=>by
  simp [Heap.ents,gF_ne hs] at he
  subst he
  exact ⟨b,_,by simp,h,rfl,Nat.le_refl _,Nat.zero_le _,qak (qfr s)⟩
 frz:=fun x hx=>by cases hx
theorem fitV_g {σ:List (Nat × Nat)} {Φ:List (Nat × List AV)} {b:Nat} {s:Str} (h:qb2 b σ=some 0) (hs:s≠[]):qay σ Φ (.slc b 0 s.length (.rest 1)) (gV 0 s):=by
 rw [gV_ne hs];simp [qay,h]
theorem conv_g {s:Str}:qi4 Tryz.prog ⟨1,[gF 0 s]⟩ 100 9 (gV 0 s)=some (.str s,⟨1,[gF 0 s]⟩):=by
 cases s with
 | nil=>simp [qi4,gV,qcc,qbi,qk5]
 | cons c r=>
  have:=qng (s:=c::r)
  have h2:=qhu (c::r)
  simp only [List.length_cons] at this
  simp [qi4,gV,gF,qcc,qbi,readCells,Heap.get,getFs,getF,this,h2]
def lw (c:UInt8):UInt8:=if 65≤c.toNat∧c.toNat≤90 then c+32 else c
def qer (s:Str):Str:=s.map lw
theorem u8_add:∀ n:Fin 256,65≤n.val→n.val≤90→IntKind.wrap .u8 ((n.val:Int)+32)=((UInt8.ofNat n.val+32).toNat:Int):=by decide +kernel
theorem u8_or:∀ n:Fin 256,65≤n.val→n.val≤90→IntKind.wrap .u8 ((BitVec.ofInt 8 (n.val:Int) ||| BitVec.ofInt 8 32).toNat:Int)=((UInt8.ofNat n.val+32).toNat:Int):=by decide +kernel
theorem add8 {c:UInt8} (h1:65≤c.toNat) (h2:c.toNat≤90):wr .u8 ((c.toNat:Int)+32)=some ((lw c).toNat:Int):=by
 have:=u8_add ⟨c.toNat,c.toNat_lt⟩ h1 h2
 simp only [UInt8.ofNat_toNat] at this
 simp only [wr,lw,h1,h2,and_self,if_true,this]
theorem or8 {c:UInt8} (h1:65≤c.toNat) (h2:c.toNat≤90):qd4 Tryz.prog .or 5 (.int .u8 (c.toNat:Int)) (.int .u8 32)=some (.int .u8 ((lw c).toNat:Int)):=by
 have:=u8_or ⟨c.toNat,c.toNat_lt⟩ h1 h2
 simp only [UInt8.ofNat_toNat] at this
 have e:qd4 Tryz.prog .or 5 (.int .u8 (c.toNat:Int)) (.int .u8 32)=some (.int .u8 (IntKind.wrap .u8 ((BitVec.ofInt 8 (c.toNat:Int) ||| BitVec.ofInt 8 32).toNat:Int))):=rfl
 rw [e,this]
 simp only [lw,h1,h2,and_self,if_true]
theorem qra {c:UInt8} (h:¬ (65≤c.toNat∧c.toNat≤90)):lw c=c:=by simp only [lw,h,if_false]
def qth (s:Str) (i:Nat):Str:=(s.take i).map lw++s.drop i
theorem qkv (s:Str) (i:Nat):(qth s i).length=s.length:=by simp [qth];omega
theorem qfb {s:Str} {i:Nat} (h:i < s.length):(qth s i)[i]'(by rw [qkv];exact h)=s[i]:=by
 have h1:((s.take i).map lw).length=i:=by simp;omega
 simp only [qth]
 rw [List.getElem_append_right (by omega)]
 simp only [List.getElem_drop,h1,Nat.sub_self,Nat.add_zero]
theorem qo7 {s:Str} {i:Nat} (h:i < s.length):(qth s i).set i (lw s[i])=qth s (i+1):=by
 have h1:((s.take i).map lw).length=i:=by simp;omega
 simp only [qth]
 rw [List.set_append_right _ _ (by omega),h1,Nat.sub_self,List.drop_eq_getElem_cons h,List.set_cons_zero,List.take_succ_eq_append_getElem h]
 simp only [List.map_append,List.map_cons,List.map_nil,List.append_assoc,List.singleton_append]
theorem qkw {s:Str} {i:Nat} (h:i < s.length) (e:lw s[i]=s[i]):qth s (i+1)=qth s i:=by
 have:=qo7 h
 rw [e] at this
 rw [← this]
 have h2:=qfb h
 conv=>lhs;rw [← h2]
 exact List.set_getElem_self _
theorem qxo (s:Str):qth s s.length=qer s:=by simp [qth,qer]
theorem c90 {T:List (Entry Tryz.prog)} (s:Str) (hl:s.length≤1000000):CallAt (ctx T) 90 [.str s] ⟨0,[]⟩ (.str (qer s)) ⟨0,[]⟩:=by
 refine qa3 (fn:=Tryz.f90) (s0:=⟨[0,2,3,4,5,8,9,10],[.str s,.undef,.undef,.undef,.undef,.undef,.undef,.undef],[],29,⟨0,[[]]⟩⟩) Tryz.func90 rfl rfl rfl ?_
 repeat apply wq
 refine qa0 qa1 ?_
 simp [zS]
 repeat apply wq
 refine qa0 qa1 ?_
 simp [zS,conv1 hl]
 repeat apply wq
 refine qa0 qa1 ?_
 simp [zS,len52]
 refine qa9 (qax (fun i:Nat=>(⟨[0,2,3,4,5,8,9,10],[.undef,.undef,.slc 0 0 s.length (.rest 1),.undef,.undef,.slc 0 0 s.length (.rest 1),.int .i64 s.length,.int .i64 i],[],29,qdw 1 (qth s i)⟩ : St))
  (fun i=>i≤s.length) (fun i=>s.length - i) [(0,0)] [] 0 (Nat.zero_le _) ⟨rfl,rfl,rfl,by simp [qb6,qay,qmd,qb2,qaf],by simpa [qth] using qgq (n:=1) (s:=s) rfl⟩ ?_)
 rintro i hi B hB
 repeat apply wq
 refine qa0 qa1 ?_
 simp [zS]
 repeat apply wq
 refine qau rfl (fun h=>?_) fun h=>?_
 ·simp at h
  refine qa7 ?_
  simp
  repeat apply wq
  refine qa9 ?_
  have hm:i < (qth s i).length:=by rw [qkv];exact h
  repeat apply wq
  refine qa0 qa1 ?_
  simp [zS,qdw,ix52 h,qd6 hm,qfb h]
  by_cases h1:65≤s[i].toNat∧s[i].toNat≤90
  ·have e1:(65:Int)≤s[i].toNat:=by omega
   have e2:(s[i].toNat:Int)≤90:=by omega
   repeat apply wq
   refine qa0 qa1 ?_
   simp [zS,qdw,ix52 h,qd6 hm,qfb h,e1,e2]
   refine qai rfl ?_
   refine qa0 qa1 ?_
   simp [zS,qdw,ix52 h,qd6 hm,qfb h,or8 h1.1 h1.2,qli hm]
   refine qa0 qa1 ?_
   simp [zS,qba (show i≤1000000000 by omega)]
   exact hB _ (i+1) (by omega) (by omega) ⟨[(0,0)],[],rfl,rfl,rfl,by simp [qb6,qay,qmd,qb2,qaf],qgq (qo7 h)⟩
  ·by_cases e1:(65:Int)≤s[i].toNat
   ·have e2:¬ (s[i].toNat:Int)≤90:=by omega
    repeat apply wq
    refine qa0 qa1 ?_
    simp [zS,qdw,ix52 h,qd6 hm,qfb h,e1,e2]
    refine qal rfl ?_
    refine qa7 ?_
    simp
    refine qa0 qa1 ?_
    simp [zS,qba (show i≤1000000000 by omega)]
    exact hB _ (i+1) (by omega) (by omega) ⟨[(0,0)],[],rfl,rfl,rfl,by simp [qb6,qay,qmd,qb2,qaf],qgq (qkw h (qra h1)).symm⟩
   ·repeat apply wq
    refine qa0 qa1 ?_
    simp [zS,qdw,ix52 h,qd6 hm,qfb h,e1]
    refine qal rfl ?_
    refine qa7 ?_
    simp
    refine qa0 qa1 ?_
    simp [zS,qba (show i≤1000000000 by omega)]
    exact hB _ (i+1) (by omega) (by omega) ⟨[(0,0)],[],rfl,rfl,rfl,by simp [qb6,qay,qmd,qb2,qaf],qgq (qkw h (qra h1)).symm⟩
 ·simp at h
  refine qat ?_
  simp
  repeat apply wq
  refine qa0 qa1 ?_
  simp [zS,conv2 (qkv s i)]
  refine qa8 ?_
  simp [qab,Tryz.f90,oneOr]
  exact qa4 rfl (by rw [show i=s.length by omega,qxo])
theorem inj_strL (x y:Str) (h:[AV.str x]=[AV.str y]):x=y:=by simpa using h
noncomputable def e90:Entry Tryz.prog:=mkE 90 [[]] (fun x:Str=>[.str x]) (fun x=>x.length≤1000000) (fun x=>.str (qer x)) fun x hx=>c90 (T:=[]) x hx
theorem k90 {T:List (Entry Tryz.prog)} (hT:qag 90 T=some e90.g) {s:Str} (hl:s.length≤1000000) (H:Heap):qb9 (ctx T) (.fn 90) [.str s] H=some (.str (qer s),H):=
 qae hT inj_strL s hl rfl (by simp)
def qmn (a b:Str):Bool:=decide (a.length=b.length) && decide (qer a=qer b)
theorem c71 {T:List (Entry Tryz.prog)} (hT:qag 90 T=some e90.g) (a b:Str) (ha:a.length≤1000000) (hb:b.length≤1000000):CallAt (ctx T) 71 [.str a,.str b] ⟨0,[]⟩ (.bool (qmn a b)) ⟨0,[]⟩:=by
 have ka:=fun H=>k90 hT ha H
 have kb:=fun H=>k90 hT hb H
 by_cases h:a.length=b.length
 ·have h2:(a.length:Int)=b.length:=by omega
  refine qa3 (fn:=Tryz.f71) (s0:=⟨[0,1,4],[.str a,.str b,.undef],[],17,⟨0,[[]]⟩⟩) Tryz.func71 rfl rfl rfl ?_
  (repeat (first
   | (refine qah ?_)
   | (refine qa9 ?_)
   | (refine qcf ?_;simp only [qaa,qa2])
   | ((refine qa0 qa1 ?_);simp [zS,h2,ka,kb])
   | (refine qai rfl ?_)
   | (refine qal rfl ?_)
   | ((refine qa7 ?_);simp only [qaa,qa2])
   | ((refine qat ?_);simp [qaa,qa2])))
  refine qa8 ?_
  simp [qab,Tryz.f71,oneOr,qaa,qa2]
  exact qa4 rfl (by simp [qmn,h])
 ·have h2:¬ (a.length:Int)=b.length:=by omega
  refine qa3 (fn:=Tryz.f71) (s0:=⟨[0,1,4],[.str a,.str b,.undef],[],17,⟨0,[[]]⟩⟩) Tryz.func71 rfl rfl rfl ?_
  (repeat (first
   | (refine qah ?_)
   | (refine qa9 ?_)
   | (refine qcf ?_;simp only [qaa,qa2])
   | ((refine qa0 qa1 ?_);simp [zS,h,h2,ka,kb])
   | (refine qai rfl ?_)
   | (refine qal rfl ?_)
   | ((refine qa7 ?_);simp only [qaa,qa2])
   | ((refine qat ?_);simp [qaa,qa2])))
  refine qa8 ?_
  simp [qab,Tryz.f71,oneOr,qaa,qa2]
  exact qa4 rfl (by simp [qmn,h])
theorem zcc (x y:Str × Str) (h:[AV.str x.1,AV.str x.2]=[AV.str y.1,AV.str y.2]):x=y:=by
 simp at h;exact Prod.ext h.1 h.2
noncomputable def e71:Entry Tryz.prog:=mkE 71 [[],[]] (fun x:Str × Str=>[.str x.1,.str x.2]) (fun x=>x.1.length≤1000000∧x.2.length≤1000000) (fun x=>.bool (qmn x.1 x.2)) fun x hx=>c71 (T:=[e90]) rfl x.1 x.2 hx.1 hx.2
theorem k71 {T:List (Entry Tryz.prog)} (hT:qag 71 T=some e71.g) {a b:Str} (ha:a.length≤1000000) (hb:b.length≤1000000) (H:Heap):qb9 (ctx T) (.fn 71) [.str a,.str b] H=some (.bool (qmn a b),H):=
 qae hT zcc (a,b) ⟨ha,hb⟩ rfl (by simp)
def okN (n:Nd):Prop:=n.name.length≤100000∧n.attrs.length≤1000∧n.data.length≤100000∧∀ a,a∈n.attrs→a.1.length≤100000∧a.2.length≤100000
theorem okN.nm {n:Nd} (h:okN n):n.name.length≤1000000000:=by have:=h.1;omega
def okP (L:List Nd):Prop:=L.length≤100000∧∀ n,n∈L→okN n
def elB (n:Nd) (W:Str):Bool:=decide (n.kind=1) && decide (n.space=0) && inW W n.name
abbrev lsKSvg:Str:= lsB17
abbrev lsKMath:Str:= lsB13
def qjd (sp:Int) (x:Str):Bool:=if sp=0 then inW lsB16 x else if sp=1 then inW lsKSvg x else if sp=2 then inW lsKMath x else false
theorem c16 {T:List (Entry Tryz.prog)} (hc0:qag 44 T=some e44a.g) (sp:Int) (x:Str) (hx:x.length≤1000000000):CallAt (ctx T) 16 [.int .i64 sp,.str x] ⟨0,[]⟩ (.bool (qjd sp x)) ⟨0,[]⟩:=by
 have kw0:=fun (x:Str) (hx:x.length≤1000000000) (H:Heap)=>k44a (W:= lsB16) (x:=x) hc0 (qmp (by decide)) (by decide) hx H
 have kw1:=fun (x:Str) (hx:x.length≤1000000000) (H:Heap)=>k44a (W:= lsB17) (x:=x) hc0 (qmp (by decide)) (by decide) hx H
 have kw2:=fun (x:Str) (hx:x.length≤1000000000) (H:Heap)=>k44a (W:= lsB13) (x:=x) hc0 (qmp (by decide)) (by decide) hx H
 refine qa3 (fn:=Tryz.f16) (s0:=⟨[0,1,4,5],[.int .i64 sp,.str x,.undef,.undef],[],18,⟨0,[[]]⟩⟩) Tryz.func16 rfl rfl rfl ?_
 (repeat' (first
  | with_reducible refine qah ?_
  | with_reducible refine qa9 ?_
  | (with_reducible refine qa0 qa1 ?_;apply qbn;simp [zS, *];exact rfl)
  | (with_reducible refine qas ?_;simp only [qaa,qa2])
  | (refine qau rfl (fun hc=>?_) (fun hc=>?_) <;> ((have hd:=hc);(try simp at hd);(try subst hd)))
  | (with_reducible refine qa7 ?_;simp only [qaa,qa2])
  | (with_reducible refine qa8 ?_;simp [qab,Tryz.f16,oneOr,qaa,qa2])))
 all_goals first | exact qa4 rfl (by simp [qjd, *]) | (exfalso;omega)
theorem inj_16 (x y:Int × Str) (h:(fun z:Int × Str=>([.int .i64 z.1,.str z.2]:List AV)) x=(fun z:Int × Str=>([.int .i64 z.1,.str z.2]:List AV)) y):x=y:=by
 obtain ⟨x0,x1⟩:=x
 obtain ⟨y0,y1⟩:=y
 simp only [List.cons.injEq,and_true] at h
 obtain ⟨h0,h1⟩:=h
 have g0:x0=y0:=AV.int.inj h0 |>.2
 have g1:x1=y1:=AV.str.inj h1
 subst g0 g1
 rfl
noncomputable def e16:Entry Tryz.prog:=mkE 16 [[],[]] (fun z:Int × Str=>[.int .i64 z.1,.str z.2]) (fun z=>(z.2.length≤1000000000)) (fun z=>.bool (qjd z.1 z.2)) fun z h=>c16 (T:=[e44a]) rfl z.1 z.2 h
theorem k16 {T:List (Entry Tryz.prog)} (hT:qag 16 T=some e16.g) (sp:Int) (x:Str) (hx:x.length≤1000000000) (H:Heap):qb9 (ctx T) (.fn 16) [.int .i64 sp,.str x] H=some (.bool (qjd sp x),H):=
 qae hT inj_16 (sp,x) hx rfl (by simp [qar])
theorem c42 {T:List (Entry Tryz.prog)} (hc0:qag 44 T=some e44a.g) (n:Nd) (W:Str) (hW:qcz W) (hl:W.length≤100000) (hx:n.name.length≤1000000000):CallAt (ctx T) 42 [qaj n,.str W] ⟨0,[]⟩ (.bool (elB n W)) ⟨0,[]⟩:=by
 have kc0:=@k44a T hc0
 refine qa3 (fn:=Tryz.f42) (s0:=⟨[0,1,2,4],[qaj n,.str W,.undef,.undef],[],19,⟨0,[[]]⟩⟩) Tryz.func42 rfl rfl rfl ?_
 (repeat' (first
  | with_reducible refine qah ?_
  | (with_reducible refine qa0 qa1 ?_;apply qbn;simp [zS, *,qao];exact rfl)
  | (with_reducible refine qas ?_;simp only [qaa,qa2])
  | (with_reducible refine qaz (fun hc=>?_) (fun hc=>?_) <;> ((have hd:=hc);(try simp at hd);(try subst hd);apply qbn;simp [zS, *,qao];exact rfl))
  | (with_reducible refine qa8 ?_;simp [qab,Tryz.f42,oneOr,qaa,qa2])))
 all_goals first | exact qa4 rfl (by simp [elB, *]) | (exfalso;omega)
theorem inj_42 (x y:Nd × Str) (h:(fun z:Nd × Str=>([qaj z.1,.str z.2]:List AV)) x=(fun z:Nd × Str=>([qaj z.1,.str z.2]:List AV)) y):x=y:=by
 obtain ⟨x0,x1⟩:=x
 obtain ⟨y0,y1⟩:=y
 simp only [List.cons.injEq,and_true] at h
 obtain ⟨h0,h1⟩:=h
 have g0:x0=y0:=qcd h0
 have g1:x1=y1:=AV.str.inj h1
 subst g0 g1
 rfl
noncomputable def e42:Entry Tryz.prog:=mkE 42 [[0,0,0,2,0,0,1],[]] (fun z:Nd × Str=>[qaj z.1,.str z.2]) (fun z=>(qcz z.2)∧(z.2.length≤100000)∧(z.1.name.length≤1000000000)) (fun z=>.bool (elB z.1 z.2)) fun z h=>c42 (T:=[e44a]) rfl z.1 z.2 h.1 h.2.1 h.2.2
theorem k42 {T:List (Entry Tryz.prog)} (hT:qag 42 T=some e42.g) (n:Nd) (W:Str) (hW:qcz W) (hl:W.length≤100000) (hx:n.name.length≤1000000000) (H:Heap):qb9 (ctx T) (.fn 42) [qaj n,.str W] H=some (.bool (elB n W),H):=
 qae hT inj_42 (n,W) ⟨hW,hl,hx⟩ rfl (by simp [qar])
theorem qnf {n:Nat} (h:0 < n) (hn:n≤1000000000):wr .i64 ((n:Int) - 1)=some ((n - 1:Nat):Int):=by
 rw [qc6 (by omega) (by omega)];congr 1;omega
def qap (L:List Nd):Nd:=if L=[] then ⟨1,0,[100,105,118],[],[],0,[]⟩ else qa6 L ((L.length - 1:Nat):Int)
theorem c37 {T:List (Entry Tryz.prog)} (L:List Nd) (hl:L.length≤1000000):CallAt (ctx T) 37 [qa5 L] ⟨0,[]⟩ (qaj (qap L)) ⟨0,[]⟩:=by
 by_cases he:L=[]
 ·subst he
  have bld:qff Tryz.prog 31 [(0,.int .i64 1),(2,.str [100,105,118])]=some (.agg [.int .i64 1,.int .i64 0,.str [100,105,118],.nilS,.str [],.int .i64 0,.nilS]):=rfl
  have l0:∀ H,qe3 Tryz.prog H 22 (qa5 [])=some 0:=fun H=>rfl
  refine qa3 (fn:=Tryz.f37) (s0:=⟨[0,2,3],[qa5 [],.undef,.undef],[],14,⟨0,[[]]⟩⟩) Tryz.func37 rfl rfl rfl ?_
  repeat apply wq
  refine qa0 qa1 ?_
  simp [zS]
  repeat apply wq
  refine qa0 qa1 ?_
  simp [zS,l0]
  repeat apply wq
  refine qa0 qa1 ?_
  simp [zS,l0]
  refine qal rfl ?_
  refine qa7 ?_
  simp
  repeat apply wq
  refine qa0 qa1 ?_
  simp [zS,bld]
  refine qa8 ?_
  simp [qab,Tryz.f37,oneOr,readCells,Heap.get,getFs,getF,Blk.rd]
  refine ⟨[],[],?_,FitH.empty⟩
  simp [qap,qaj,Nd.cs,qbw,qbs,qb7,qay,qb6,qaf]
 ·have h:0 < L.length:=List.length_pos_iff.2 he
  have hi:(0:Int) < (L.length:Int):=by omega
  have hs:=qnf h (by omega)
  have ha:=atX (t:=L) (i:=((L.length - 1:Nat):Int)) (by omega) (by omega)
  have hp:qap L=qa6 L ((L.length - 1:Nat):Int):=by unfold qap;rw [if_neg he]
  rw [hp]
  refine qa3 (fn:=Tryz.f37) (s0:=⟨[0,2,3],[qa5 L,.undef,.undef],[],14,⟨0,[[]]⟩⟩) Tryz.func37 rfl rfl rfl ?_
  repeat apply wq
  refine qa0 qa1 ?_
  simp [zS]
  repeat apply wq
  refine qa0 qa1 ?_
  simp [zS,qfu]
  repeat apply wq
  refine qa0 qa1 ?_
  simp [zS,h,hi]
  refine qai (by simp [qbq,St.get,h]) ?_
  repeat apply wq
  refine qa0 qa1 ?_
  simp [zS,hs,ha,qao]
  refine qa8 ?_
  simp [qab,Tryz.f37,oneOr,readCells,Heap.get,getFs,getF,Blk.rd,qao]
  exact ⟨[],[],FitH.empty⟩
theorem inj_37 (x y:List Nd) (h:(fun z:List Nd=>([qa5 z]:List AV)) x=(fun z:List Nd=>([qa5 z]:List AV)) y):x=y:=by
 simp only [List.cons.injEq,and_true] at h
 exact qc4 h
noncomputable def e37:Entry Tryz.prog:=mkE 37 [[7]] (fun z:List Nd=>[qa5 z]) (fun z=>(z.length≤1000000)) (fun z=>qaj (qap z)) fun z h=>c37 (T:=[])  z h
theorem k37 {T:List (Entry Tryz.prog)} (hT:qag 37 T=some e37.g) (L:List Nd) (hl:L.length≤1000000) (H:Heap):qb9 (ctx T) (.fn 37) [qa5 L] H=some (qaj (qap L),H):=
 qdd hT inj_37 (L) hl (by simp [qac,qaf,qar]) (by simp [qar]) H
theorem c40 {T:List (Entry Tryz.prog)} (u:Nd) (n:Nd):CallAt (ctx T) 40 [qaj u,qaj n] ⟨0,[]⟩ (.bool (decide (n.space=u.space) || (decide (u.space=2) && decide (u.name=[97,110,110,111,116,97,116,105,111,110,45,120,109,108]) && decide (n.space=1) && decide (n.name=[115,118,103])))) ⟨0,[]⟩:=by
 refine qa3 (fn:=Tryz.f40) (s0:=⟨[0,1,2,3,4],[qaj u,qaj n,.undef,.undef,.undef],[],28,⟨0,[[]]⟩⟩) Tryz.func40 rfl rfl rfl ?_
 (repeat' (first
  | with_reducible refine qah ?_
  | (with_reducible refine qa0 qa1 ?_;apply qbn;simp [zS, *,qao];exact rfl)
  | (with_reducible refine qas ?_;simp only [qaa,qa2])
  | (with_reducible refine qaz (fun hc=>?_) (fun hc=>?_) <;> ((have hd:=hc);(try simp at hd);(try subst hd);apply qbn;simp [zS, *,qao];exact rfl))
  | (refine qau rfl (fun hc=>?_) (fun hc=>?_) <;> ((have hd:=hc);(try simp at hd);(try subst hd)))
  | (with_reducible refine qa7 ?_;simp only [qaa,qa2])
  | (with_reducible refine qa8 ?_;simp [qab,Tryz.f40,oneOr,qaa,qa2])))
 all_goals first | exact qa4 rfl (by first | (simp [*];done) | (simp_all;done)) | (exfalso;omega)
theorem inj_40 (x y:Nd × Nd) (h:(fun z:Nd × Nd=>([qaj z.1,qaj z.2]:List AV)) x=(fun z:Nd × Nd=>([qaj z.1,qaj z.2]:List AV)) y):x=y:=by
 obtain ⟨x0,x1⟩:=x
 obtain ⟨y0,y1⟩:=y
 simp only [List.cons.injEq,and_true] at h
 obtain ⟨h0,h1⟩:=h
 have g0:x0=y0:=qcd h0
 have g1:x1=y1:=qcd h1
 subst g0 g1
 rfl
noncomputable def e40:Entry Tryz.prog:=mkE 40 [[0,0,0,2,0,0,1],[0,0,0,2,0,0,1]] (fun z:Nd × Nd=>[qaj z.1,qaj z.2]) (fun z=>True) (fun z=>.bool (decide (z.2.space=z.1.space) || (decide (z.1.space=2) && decide (z.1.name=[97,110,110,111,116,97,116,105,111,110,45,120,109,108]) && decide (z.2.space=1) && decide (z.2.name=[115,118,103])))) fun z h=>c40 (T:=[])  z.1 z.2 
theorem k40 {T:List (Entry Tryz.prog)} (hT:qag 40 T=some e40.g) (u:Nd) (n:Nd) (H:Heap):qb9 (ctx T) (.fn 40) [qaj u,qaj n] H=some (.bool (decide (n.space=u.space) || (decide (u.space=2) && decide (u.name=[97,110,110,111,116,97,116,105,111,110,45,120,109,108]) && decide (n.space=1) && decide (n.name=[115,118,103]))),H):=
 qae hT inj_40 (u,n) trivial rfl (by simp [qar])
theorem sp_mi:qbo qq4=[[109,105],[109,110],[109,111],[109,115],[109,116,101,120,116]]:=by decide +kernel
theorem in_mi (x:Str):inW qq4 x=decide (x=[109,105]∨x=[109,110]∨x=[109,111]∨x=[109,115]∨x=[109,116,101,120,116]):=by unfold inW;rw [sp_mi];simp
def qez (n:Nd):Bool:=decide (n.kind=1) && decide (n.space=2) && inW qq4 n.name
theorem c38 {T:List (Entry Tryz.prog)} (n:Nd):CallAt (ctx T) 38 [qaj n] ⟨0,[]⟩ (.bool (qez n)) ⟨0,[]⟩:=by
 refine qa3 (fn:=Tryz.f38) (s0:=⟨[0,1,2,4,5],[qaj n,.undef,.undef,.undef,.undef],[],19,⟨0,[[]]⟩⟩) Tryz.func38 rfl rfl rfl ?_
 (repeat' (first
  | with_reducible refine qah ?_
  | with_reducible refine qa9 ?_
  | (with_reducible refine qa0 qa1 ?_;apply qbn;simp [zS, *,qao];exact rfl)
  | (with_reducible refine qas ?_;simp only [qaa,qa2])
  | (with_reducible refine qaz (fun hc=>?_) (fun hc=>?_) <;> ((have hd:=hc);(try simp at hd);(try subst hd);apply qbn;simp [zS, *,qao];exact rfl))
  | (refine qau rfl (fun hc=>?_) (fun hc=>?_) <;> ((have hd:=hc);(try simp at hd);(try subst hd)))
  | (with_reducible refine qa7 ?_;simp only [qaa,qa2])
  | (with_reducible refine qa8 ?_;simp [qab,Tryz.f38,oneOr,qaa,qa2])))
 all_goals first | exact qa4 rfl (by first | (simp [qez,in_mi, *];done) | (simp_all [qez,in_mi];done)) | (exfalso;omega)
theorem inj_38 (x y:Nd) (h:(fun z:Nd=>([qaj z]:List AV)) x=(fun z:Nd=>([qaj z]:List AV)) y):x=y:=by
 simp only [List.cons.injEq,and_true] at h
 exact qcd h
noncomputable def e38:Entry Tryz.prog:=mkE 38 [[0,0,0,2,0,0,1]] (fun z:Nd=>[qaj z]) (fun z=>True) (fun z=>.bool (qez z)) fun z h=>c38 (T:=[])  z 
theorem k38 {T:List (Entry Tryz.prog)} (hT:qag 38 T=some e38.g) (n:Nd) (H:Heap):qb9 (ctx T) (.fn 38) [qaj n] H=some (.bool (qez n),H):=
 qae hT inj_38 (n) trivial rfl (by simp [qar])
def qe9 (n:Nd):Bool:=decide (n.kind=1) && (decide (n.space=1) && inW lsSvg n.name || decide (n.space=2) && match qg2 [101,110,99,111,100,105,110,103] n.attrs with
 | none=>false
 | some v=>decide (n.name=[97,110,110,111,116,97,116,105,111,110,45,120,109,108]) && (qmn v [116,101,120,116,47,104,116,109,108] || qmn v [97,112,112,108,105,99,97,116,105,111,110,47,120,104,116,109,108,43,120,109,108]))
theorem qon {nm v:Str} {m:Nat}:∀ {L:List At1},(∀ a,a∈L→a.1.length≤m∧a.2.length≤m)→qg2 nm L=some v→v.length≤m
 | [],_,h=>by simp [qg2] at h
 | a::r,hl,h=>by
  unfold qg2 at h
  split at h
  ·simp only [sj] at h
   rw [← h];exact (hl a (by simp)).2
  ·exact qon (fun b hb=>hl b (by simp [hb])) h
theorem c39 {T:List (Entry Tryz.prog)} (hc0:qag 44 T=some e44a.g) (hc1:qag 70 T=some e70.g) (hc2:qag 71 T=some e71.g) (n:Nd) (h:okN n):CallAt (ctx T) 39 [qaj n] ⟨0,[]⟩ (.bool (qe9 n)) ⟨0,[]⟩:=by
 have kw0:=fun (x:Str) (hx:x.length≤1000000000) (H:Heap)=>k44a (W:= lsB0) (x:=x) hc0 (qmp (by decide)) (by decide) hx H
 have kc1:=@k70 T hc1
 have kc2:=@k71 T hc2
 have hx:=h.nm
 have hg:=fun H=>k70 (nm:=[101,110,99,111,100,105,110,103]) hc1 h.2.1 (qki H n.attrs)
 cases hv:qg2 [101,110,99,111,100,105,110,103] n.attrs with
 | none=>
  rw [hv] at hg
  simp only [qy1] at hg
  refine qa3 (fn:=Tryz.f39) (s0:=⟨[0,1,2,3,4,9],[qaj n,.undef,.undef,.undef,.undef,.undef],[],37,⟨0,[[]]⟩⟩) Tryz.func39 rfl rfl rfl ?_
  (repeat' (first
   | with_reducible refine qah ?_
   | with_reducible refine qa9 ?_
   | (with_reducible refine qa0 qa1 ?_;apply qbn;simp [zS, *,qao];exact rfl)
   | (with_reducible refine qas ?_;simp only [qaa,qa2])
   | (refine qau rfl (fun hc=>?_) (fun hc=>?_) <;> ((have hd:=hc);(try simp at hd);(try subst hd)))
   | (with_reducible refine qa7 ?_;simp only [qaa,qa2])
   | (with_reducible refine qa8 ?_;simp [qab,Tryz.f39,oneOr,qaa,qa2])))
  all_goals first | exact qa4 rfl (by first | (simp [qe9, *];done) | (simp_all [qe9];done)) | (exfalso;omega)
 | some v=>
  rw [hv] at hg
  have lv:v.length≤1000000:=by have:=qon h.2.2.2 hv;omega
  simp only [qy1] at hg
  refine qa3 (fn:=Tryz.f39) (s0:=⟨[0,1,2,3,4,9],[qaj n,.undef,.undef,.undef,.undef,.undef],[],37,⟨0,[[]]⟩⟩) Tryz.func39 rfl rfl rfl ?_
  (repeat' (first
   | with_reducible refine qah ?_
   | with_reducible refine qa9 ?_
   | (with_reducible refine qa0 qa1 ?_;apply qbn;simp [zS, *,qao];exact rfl)
   | (with_reducible refine qas ?_;simp only [qaa,qa2])
   | (with_reducible refine qaz (fun hc=>?_) (fun hc=>?_) <;> ((have hd:=hc);(try simp at hd);(try subst hd);apply qbn;simp [zS, *,qao];exact rfl))
   | (refine qau rfl (fun hc=>?_) (fun hc=>?_) <;> ((have hd:=hc);(try simp at hd);(try subst hd)))
   | (with_reducible refine qa7 ?_;simp only [qaa,qa2])
   | (with_reducible refine qa8 ?_;simp [qab,Tryz.f39,oneOr,qaa,qa2])))
  all_goals first | exact qa4 rfl (by first | (simp [qe9, *];done) | (simp_all [qe9];done)) | (exfalso;omega)
theorem inj_39 (x y:Nd) (h:(fun z:Nd=>([qaj z]:List AV)) x=(fun z:Nd=>([qaj z]:List AV)) y):x=y:=by
 simp only [List.cons.injEq,and_true] at h
 exact qcd h
noncomputable def e39:Entry Tryz.prog:=mkE 39 [[0,0,0,2,0,0,1]] (fun z:Nd=>[qaj z]) (fun z=>(okN z)) (fun z=>.bool (qe9 z)) fun z h=>c39 (T:=[e44a,e70,e71]) rfl rfl rfl z h
theorem k39 {T:List (Entry Tryz.prog)} (hT:qag 39 T=some e39.g) (n:Nd) (h:okN n) (H:Heap):qb9 (ctx T) (.fn 39) [qaj n] H=some (.bool (qe9 n),H):=
 qae hT inj_39 (n) h rfl (by simp [qar])
def cN (s:Str) (i:Nat):Nat:=(s.getD i 0).toNat
def qee (c:Nat):Nat:=if c < 194 then 0 else if c < 224 then 1 else if c < 240 then 2 else if c < 245 then 3 else 0
def loN (c:Nat):Nat:=if c=224 then 160 else if c=240 then 144 else 128
def hiN (c:Nat):Nat:=if c=237 then 159 else if c=244 then 143 else 191
def qph (s:Str) (i lo hi:Nat):Bool:=decide (i < s.length) && (decide (lo≤cN s i) && decide (cN s i≤hi))
def qo4 (s:Str):Nat→Nat→Nat→Nat→Nat × Bool
 | 0,i,_,_=>(i,true)
 | k+1,i,lo,hi=>if qph s i lo hi=true then qo4 s k (i+1) 128 191 else (i,false)
def qft (s:Str):Nat × Bool:=if cN s 0 < 128 then (1,true) else if qee (cN s 0)=0 then (1,false) else qo4 s (qee (cN s 0)) 1 (loN (cN s 0)) (hiN (cN s 0))
def oneA (x:Nat × Bool):AV:=.tup [.int .i64 (x.1:Int),.bool x.2]
theorem qox {s:Str} {i:Nat} (h:i < s.length):s[i].toNat=cN s i:=by simp [cN,List.getD_eq_getElem?_getD,List.getElem?_eq_getElem h]
theorem qxm (c:Nat):qee c≤3:=by unfold qee;split <;> (try split) <;> (try split) <;> (try split) <;> omega
set_option maxHeartbeats 1000000 in
theorem c171 {T:List (Entry Tryz.prog)} (s:Str) (hne:0 < s.length) (hl:s.length≤1000000):CallAt (ctx T) 171 [aB s] ⟨0,[]⟩ (oneA (qft s)) ⟨0,[]⟩:=by
 have h0:=atB (s:=s) (i:=0) hne
 rw [qox hne] at h0
 simp only [Int.ofNat_zero,Int.cast_ofNat_Int,Int.natCast_zero] at h0
 have hb:=(s[0]'hne).toNat_lt
 rw [qox hne] at hb
 obtain ⟨R,hRe⟩ : ∃ R,R=qft s:=⟨_,rfl⟩
 rw [← hRe]
 rw [show qft s=if cN s 0 < 128 then (1,true) else if qee (cN s 0)=0 then (1,false) else qo4 s (qee (cN s 0)) 1 (loN (cN s 0)) (hiN (cN s 0)) from rfl] at hRe
 obtain ⟨c,hc⟩ : ∃ c,c=cN s 0:=⟨_,rfl⟩
 rw [← hc] at hRe h0 hb
 clear hc
 have h3:=qxm c
 refine qa3 (fn:=Tryz.f171) (s0:=⟨[0,2,3,4,5,6,7,8],[aB s,.undef,.undef,.undef,.undef,.undef,.undef,.undef],[],70,⟨0,[[]]⟩⟩) Tryz.func171 rfl rfl rfl ?_
 repeat apply wq
 refine qa0 qa1 ?_
 simp [zS]
 repeat apply wq
 refine qa0 qa1 ?_
 simp [zS,h0]
 by_cases hlt:c < 128
 ·have hltI:(c:Int) < 128:=by omega
  repeat apply wq
  refine qa0 qa1 ?_
  simp [zS,hlt,hltI]
  refine qai rfl ?_
  repeat apply wq
  refine qa0 qa1 ?_
  simp [zS]
  refine qa8 ?_
  simp [qab,Tryz.f171,oneOr,qaa,qa2]
  exact qa4 rfl (by rw [hRe,if_pos hlt];simp [oneA])
 rw [if_neg hlt] at hRe
 have hltI:¬ (c:Int) < 128:=by omega
 repeat apply wq
 refine qa0 qa1 ?_
 simp [zS,hlt,hltI]
 refine qal rfl ?_
 refine qa7 ?_
 simp
 repeat apply wq
 refine qa0 qa1 ?_
 simp [zS]
 clear h0 hlt hltI
 obtain ⟨v0,hv0⟩ : ∃ x:Int,x=if (194:Int)≤c∧(c:Int)≤223 then 1 else 0:=⟨_,rfl⟩
 refine qfc ((⟨[0,2,3,4,5,6,7,8],[aB s,.int .i64 0,.bool false,.int .u8 (c:Int),.int .i64 v0,.int .u8 128,.int .u8 191,.undef],[],70,⟨0,[[]]⟩⟩ : St)) ?_ fun hj=>?_
 rotate_left
 ·by_cases q1:(194:Int)≤c
  ·by_cases q2:(c:Int)≤223
   ·rw [if_pos ⟨q1,q2⟩] at hv0
    repeat apply wq
    refine qa0 qa1 ?_
    simp [zS,q1,q2]
    refine qai rfl ?_
    refine qa0 qa1 ?_
    simp [zS]
    exact hj _ ⟨[],[],⟨rfl,rfl,rfl,by simp [qb6,qay,qaf,qac,aB,hv0],FitH.nothing⟩⟩
   ·rw [if_neg (fun e=>q2 e.2)] at hv0
    repeat apply wq
    refine qa0 qa1 ?_
    simp [zS,q1,q2]
    refine qal rfl ?_
    refine qa7 ?_
    simp
    exact hj _ ⟨[],[],⟨rfl,rfl,rfl,by simp [qb6,qay,qaf,qac,aB,hv0],FitH.nothing⟩⟩
  ·rw [if_neg (fun e=>q1 e.1)] at hv0
   repeat apply wq
   refine qa0 qa1 ?_
   simp [zS,q1]
   refine qal rfl ?_
   refine qa7 ?_
   simp
   exact hj _ ⟨[],[],⟨rfl,rfl,rfl,by simp [qb6,qay,qaf,qac,aB,hv0],FitH.nothing⟩⟩
 obtain ⟨v1,hv1⟩ : ∃ x:Int,x=if (224:Int)≤c∧(c:Int)≤239 then 2 else v0:=⟨_,rfl⟩
 refine qfc ((⟨[0,2,3,4,5,6,7,8],[aB s,.int .i64 0,.bool false,.int .u8 (c:Int),.int .i64 v1,.int .u8 128,.int .u8 191,.undef],[],70,⟨0,[[]]⟩⟩ : St)) ?_ fun hj=>?_
 rotate_left
 ·by_cases q1:(224:Int)≤c
  ·by_cases q2:(c:Int)≤239
   ·rw [if_pos ⟨q1,q2⟩] at hv1
    repeat apply wq
    refine qa0 qa1 ?_
    simp [zS,q1,q2]
    refine qai rfl ?_
    refine qa0 qa1 ?_
    simp [zS]
    exact hj _ ⟨[],[],⟨rfl,rfl,rfl,by simp [qb6,qay,qaf,qac,aB,hv1],FitH.nothing⟩⟩
   ·rw [if_neg (fun e=>q2 e.2)] at hv1
    repeat apply wq
    refine qa0 qa1 ?_
    simp [zS,q1,q2]
    refine qal rfl ?_
    refine qa7 ?_
    simp
    exact hj _ ⟨[],[],⟨rfl,rfl,rfl,by simp [qb6,qay,qaf,qac,aB,hv1],FitH.nothing⟩⟩
  ·rw [if_neg (fun e=>q1 e.1)] at hv1
   repeat apply wq
   refine qa0 qa1 ?_
   simp [zS,q1]
   refine qal rfl ?_
   refine qa7 ?_
   simp
   exact hj _ ⟨[],[],⟨rfl,rfl,rfl,by simp [qb6,qay,qaf,qac,aB,hv1],FitH.nothing⟩⟩
 obtain ⟨v2,hv2⟩ : ∃ x:Int,x=if (240:Int)≤c∧(c:Int)≤244 then 3 else v1:=⟨_,rfl⟩
 refine qfc ((⟨[0,2,3,4,5,6,7,8],[aB s,.int .i64 0,.bool false,.int .u8 (c:Int),.int .i64 v2,.int .u8 128,.int .u8 191,.undef],[],70,⟨0,[[]]⟩⟩ : St)) ?_ fun hj=>?_
 rotate_left
 ·by_cases q1:(240:Int)≤c
  ·by_cases q2:(c:Int)≤244
   ·rw [if_pos ⟨q1,q2⟩] at hv2
    repeat apply wq
    refine qa0 qa1 ?_
    simp [zS,q1,q2]
    refine qai rfl ?_
    refine qa0 qa1 ?_
    simp [zS]
    exact hj _ ⟨[],[],⟨rfl,rfl,rfl,by simp [qb6,qay,qaf,qac,aB,hv2],FitH.nothing⟩⟩
   ·rw [if_neg (fun e=>q2 e.2)] at hv2
    repeat apply wq
    refine qa0 qa1 ?_
    simp [zS,q1,q2]
    refine qal rfl ?_
    refine qa7 ?_
    simp
    exact hj _ ⟨[],[],⟨rfl,rfl,rfl,by simp [qb6,qay,qaf,qac,aB,hv2],FitH.nothing⟩⟩
  ·rw [if_neg (fun e=>q1 e.1)] at hv2
   repeat apply wq
   refine qa0 qa1 ?_
   simp [zS,q1]
   refine qal rfl ?_
   refine qa7 ?_
   simp
   exact hj _ ⟨[],[],⟨rfl,rfl,rfl,by simp [qb6,qay,qaf,qac,aB,hv2],FitH.nothing⟩⟩
 obtain ⟨v3,hv3⟩ : ∃ x:Int,x=if (c:Int)=224 then 160 else 128:=⟨_,rfl⟩
 refine qfc ((⟨[0,2,3,4,5,6,7,8],[aB s,.int .i64 0,.bool false,.int .u8 (c:Int),.int .i64 v2,.int .u8 v3,.int .u8 191,.undef],[],70,⟨0,[[]]⟩⟩ : St)) ?_ fun hj=>?_
 rotate_left
 ·by_cases q1:(c:Int)=224
  ·rw [if_pos q1] at hv3
   repeat apply wq
   refine qa0 qa1 ?_
   simp [zS,q1]
   refine qai rfl ?_
   refine qa0 qa1 ?_
   simp [zS]
   exact hj _ ⟨[],[],⟨rfl,rfl,rfl,by simp [qb6,qay,qaf,qac,aB,hv3,q1],FitH.nothing⟩⟩
  ·rw [if_neg q1] at hv3
   repeat apply wq
   refine qa0 qa1 ?_
   simp [zS,q1]
   refine qal rfl ?_
   refine qa7 ?_
   simp
   exact hj _ ⟨[],[],⟨rfl,rfl,rfl,by simp [qb6,qay,qaf,qac,aB,hv3],FitH.nothing⟩⟩
 obtain ⟨v4,hv4⟩ : ∃ x:Int,x=if (c:Int)=237 then 159 else 191:=⟨_,rfl⟩
 refine qfc ((⟨[0,2,3,4,5,6,7,8],[aB s,.int .i64 0,.bool false,.int .u8 (c:Int),.int .i64 v2,.int .u8 v3,.int .u8 v4,.undef],[],70,⟨0,[[]]⟩⟩ : St)) ?_ fun hj=>?_
 rotate_left
 ·by_cases q1:(c:Int)=237
  ·rw [if_pos q1] at hv4
   repeat apply wq
   refine qa0 qa1 ?_
   simp [zS,q1]
   refine qai rfl ?_
   refine qa0 qa1 ?_
   simp [zS]
   exact hj _ ⟨[],[],⟨rfl,rfl,rfl,by simp [qb6,qay,qaf,qac,aB,hv4,q1],FitH.nothing⟩⟩
  ·rw [if_neg q1] at hv4
   repeat apply wq
   refine qa0 qa1 ?_
   simp [zS,q1]
   refine qal rfl ?_
   refine qa7 ?_
   simp
   exact hj _ ⟨[],[],⟨rfl,rfl,rfl,by simp [qb6,qay,qaf,qac,aB,hv4],FitH.nothing⟩⟩
 obtain ⟨v5,hv5⟩ : ∃ x:Int,x=if (c:Int)=240 then 144 else v3:=⟨_,rfl⟩
 refine qfc ((⟨[0,2,3,4,5,6,7,8],[aB s,.int .i64 0,.bool false,.int .u8 (c:Int),.int .i64 v2,.int .u8 v5,.int .u8 v4,.undef],[],70,⟨0,[[]]⟩⟩ : St)) ?_ fun hj=>?_
 rotate_left
 ·by_cases q1:(c:Int)=240
  ·rw [if_pos q1] at hv5
   repeat apply wq
   refine qa0 qa1 ?_
   simp [zS,q1]
   refine qai rfl ?_
   refine qa0 qa1 ?_
   simp [zS]
   exact hj _ ⟨[],[],⟨rfl,rfl,rfl,by simp [qb6,qay,qaf,qac,aB,hv5,q1],FitH.nothing⟩⟩
  ·rw [if_neg q1] at hv5
   repeat apply wq
   refine qa0 qa1 ?_
   simp [zS,q1]
   refine qal rfl ?_
   refine qa7 ?_
   simp
   exact hj _ ⟨[],[],⟨rfl,rfl,rfl,by simp [qb6,qay,qaf,qac,aB,hv5],FitH.nothing⟩⟩
 obtain ⟨v6,hv6⟩ : ∃ x:Int,x=if (c:Int)=244 then 143 else v4:=⟨_,rfl⟩
 refine qfc ((⟨[0,2,3,4,5,6,7,8],[aB s,.int .i64 0,.bool false,.int .u8 (c:Int),.int .i64 v2,.int .u8 v5,.int .u8 v6,.undef],[],70,⟨0,[[]]⟩⟩ : St)) ?_ fun hj=>?_
 rotate_left
 ·by_cases q1:(c:Int)=244
  ·rw [if_pos q1] at hv6
   repeat apply wq
   refine qa0 qa1 ?_
   simp [zS,q1]
   refine qai rfl ?_
   refine qa0 qa1 ?_
   simp [zS]
   exact hj _ ⟨[],[],⟨rfl,rfl,rfl,by simp [qb6,qay,qaf,qac,aB,hv6,q1],FitH.nothing⟩⟩
  ·rw [if_neg q1] at hv6
   repeat apply wq
   refine qa0 qa1 ?_
   simp [zS,q1]
   refine qal rfl ?_
   refine qa7 ?_
   simp
   exact hj _ ⟨[],[],⟨rfl,rfl,rfl,by simp [qb6,qay,qaf,qac,aB,hv6],FitH.nothing⟩⟩
 have hm:v2=(qee c:Nat):=by rw [hv2,hv1,hv0];unfold qee;(repeat' split) <;> omega
 have hlo:v5=(loN c:Nat):=by rw [hv5,hv3];unfold loN;(repeat' split) <;> omega
 have hhi:v6=(hiN c:Nat):=by rw [hv6,hv4];unfold hiN;(repeat' split) <;> omega
 rw [hm,hlo,hhi]
 clear hv0 hv1 hv2 hv3 hv4 hv5 hv6 hm hlo hhi
 by_cases hz:qee c=0
 ·have hzI:(qee c:Int)=0:=by omega
  repeat apply wq
  refine qa0 qa1 ?_
  simp [zS,hz,hzI]
  refine qai rfl ?_
  repeat apply wq
  refine qa0 qa1 ?_
  simp [zS]
  refine qa8 ?_
  simp [qab,Tryz.f171,oneOr,qaa,qa2]
  exact qa4 rfl (by rw [hRe,if_pos hz];simp [oneA])
 rw [if_neg hz] at hRe
 have hzI:¬ (qee c:Int)=0:=by omega
 repeat apply wq
 refine qa0 qa1 ?_
 simp [zS,hz,hzI]
 refine qal rfl ?_
 refine qa7 ?_
 simp
 repeat apply wq
 refine qa0 qa1 ?_
 simp [zS]
 refine qa9 (qax (fun x:Nat × Nat × Nat × Nat=>(⟨[0,2,3,4,5,6,7,8],[aB s,.int .i64 0,.bool false,.int .u8 (c:Int),.int .i64 (qee c:Nat),.int .u8 (x.2.2.1:Nat),.int .u8 (x.2.2.2:Nat),.int .i64 (x.2.1:Nat)],[],70,⟨0,[[]]⟩⟩ : St))
  (fun x=>x.2.1+x.1=qee c+1∧1≤x.2.1∧qo4 s x.1 x.2.1 x.2.2.1 x.2.2.2=R) (fun x=>x.1) [] [] (qee c,1,loN c,hiN c) ⟨by simp only;omega,Nat.le_refl _,hRe.symm⟩ ⟨rfl,rfl,rfl,by simp [qb6,qay,qaf,qac,aB],FitH.nothing⟩ ?_)
 rintro ⟨k,i,lo,hi⟩ ⟨hk,hi1,hg⟩ B hB
 simp only at hk hi1 hg hB
 clear hRe
 cases k with
 | zero=>
  have hx:¬ (i:Int)≤(qee c:Int):=by omega
  repeat apply wq
  refine qa0 qa1 ?_
  simp [zS,hx]
  refine qal (by simp [qbq,St.get,hx]) ?_
  refine qat ?_
  simp
  have ha:=qba (show qee c≤1000000000 by omega)
  repeat apply wq
  refine qa0 qa1 ?_
  simp [zS,ha]
  refine qa8 ?_
  simp [qab,Tryz.f171,oneOr,qaa,qa2]
  exact qa4 rfl (by rw [← hg,show i=qee c+1 by omega];simp [oneA,qo4])
 | succ k=>
  have hx:(i:Int)≤(qee c:Int):=by omega
  repeat apply wq
  refine qa0 qa1 ?_
  simp [zS,hx]
  refine qai (by simp [qbq,St.get,hx]) ?_
  refine qa7 ?_
  simp
  repeat apply wq
  refine qa9 ?_
  have fail:qph s i lo hi=false→R=(i,false):=fun h=>by rw [← hg];simp [qo4,h]
  by_cases q1:i < s.length
  ·have p1:¬ (s.length:Int)≤(i:Int):=by omega
   have p1':¬ s.length≤i:=by omega
   have ha:=atB (s:=s) q1
   rw [qox q1] at ha
   by_cases q2:(cN s i:Int) < (lo:Int)
   ·have q2':cN s i < lo:=by omega
    repeat apply wq
    refine qa0 qa1 ?_
    simp [zS,lenB,p1,p1',ha,q2,q2']
    refine qai rfl ?_
    repeat apply wq
    refine qa0 qa1 ?_
    simp [zS]
    refine qa8 ?_
    simp [qab,Tryz.f171,oneOr,qaa,qa2]
    exact qa4 rfl (by rw [fail (by simp [qph,q1];omega)];simp [oneA])
   ·have q2':¬ cN s i < lo:=by omega
    by_cases q3:(hi:Int) < (cN s i:Int)
    ·have q3':hi < cN s i:=by omega
     repeat apply wq
     refine qa0 qa1 ?_
     simp [zS,lenB,p1,p1',ha,q2,q3,q2',q3']
     refine qai rfl ?_
     repeat apply wq
     refine qa0 qa1 ?_
     simp [zS]
     refine qa8 ?_
     simp [qab,Tryz.f171,oneOr,qaa,qa2]
     exact qa4 rfl (by rw [fail (by simp [qph,q1];omega)];simp [oneA])
    ·have q3':¬ hi < cN s i:=by omega
     repeat apply wq
     refine qa0 qa1 ?_
     simp [zS,lenB,p1,p1',ha,q2,q3,q2',q3']
     refine qal rfl ?_
     refine qa7 ?_
     simp
     refine qa0 qa1 ?_
     simp [zS]
     refine qa0 qa1 ?_
     simp [zS,qba (show i≤1000000000 by omega)]
     have hcn:qph s i lo hi=true:=by simp [qph,q1];omega
     refine hB _ (k,i+1,128,191) (by simp only;omega) ⟨by simp only;omega,by simp only;omega,by simp only;rw [← hg];simp [qo4,hcn]⟩ ⟨[],[],⟨rfl,rfl,rfl,by simp [qb6,qay,qaf,qac,aB],FitH.nothing⟩⟩
  ·have p1:(s.length:Int)≤(i:Int):=by omega
   have p1':s.length≤i:=by omega
   repeat apply wq
   refine qa0 qa1 ?_
   simp [zS,lenB,p1,p1']
   refine qai rfl ?_
   repeat apply wq
   refine qa0 qa1 ?_
   simp [zS]
   refine qa8 ?_
   simp [qab,Tryz.f171,oneOr,qaa,qa2]
   exact qa4 rfl (by rw [fail (by simp [qph];omega)];simp [oneA])
noncomputable def e171:Entry Tryz.prog:=mkE 171 [[1]] (fun x:Str=>[aB x]) (fun x=>0 < x.length∧x.length≤1000000) (fun x=>oneA (qft x)) fun x h=>c171 (T:=[]) x h.1 h.2
theorem k171 {T:List (Entry Tryz.prog)} (hT:qag 171 T=some e171.g) {s:Str} (h1:0 < s.length) (h2:s.length≤1000000) (H:Heap):qb9 (ctx T) (.fn 171) [aB s] H=some (oneA (qft s),H):=
 qae hT inj_b1 s ⟨h1,h2⟩ rfl (by simp [aB])
end Go.Proofs.YtgpjifeeneeiaaaGreatDoor