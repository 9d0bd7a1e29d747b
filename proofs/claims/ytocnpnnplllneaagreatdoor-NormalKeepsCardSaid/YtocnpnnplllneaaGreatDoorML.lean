/- The reference's reading of a character. No condition. -/
import Derived.Test.YtocnpnnplllneaaGreatDoorMG
import Derived.Test.YtocnpnnplllneaaGreatDoorMH
import Derived.Test.YtocnpnnplllneaaGreatDoorMK
namespace Go.Proofs.YtocnpnnplllneaaGreatDoor
set_option linter.unusedSimpArgs false
set_option linter.unusedVariables false
open Go Go.RowKit
set_option maxRecDepth 100000
theorem qem:∀ {s:Str} {i:Nat} (h:i < s.length),qc7 (qag s) i=some (.int .u8 (s[i].toNat:Int))
 | [],i,h=>absurd h (Nat.not_lt_zero i)
 | c::r,0,_=>rfl
 | c::r,i+1,h=>by
  have:=qem (s:=r) (i:=i) (by simpa using h)
  simpa [qag] using this
theorem qq0 {x:UInt8}:∀ {s:Str} {i:Nat} (h:i < s.length),qge [.int .u8 (x.toNat:Int)] i (qag s)=some (qag (s.set i x))
 | [],i,h=>absurd h (Nat.not_lt_zero i)
 | c::r,0,_=>by simp [qag]
 | c::r,i+1,h=>by
  have:=qq0 (x:=x) (s:=r) (i:=i) (by simpa using h)
  simp [qag,this]
theorem qky:∀ (s:Str),qls (qag s)=some s
 | []=>rfl
 | c::r=>by simp [qag,qls,qvf,qky r]
theorem qgj:∀ (s:Str),qac (qag s)=true
 | []=>by simp [qag,qac]
 | c::r=>by simp [qag,qac,qah,qgj r]
theorem qzy {s:Str}:qek 0 s.length (qag s)=some (qag s):=by
 have:=qgx (n:=s.length) (l:=qag s) (by rw [qbd];omega)
 rw [qiw (by rw [qbd];omega)]
 simp [List.take_of_length_le,qbd]
def qf9 (n:Nat) (s:Str):Heap:=⟨n,[[(0,.cells (qag s))]]⟩
theorem conv1 {s:Str} (h:s.length≤1000000):qgb Tryz.prog ⟨0,[[]]⟩ 9 74 (.str s)=some (.slc 0 0 s.length (.rest 1),qf9 1 s):=by
 have:qck s.length 1=true:=by simp [qck];omega
 simp [qgb,this,qf9,Heap.new,pushF]
theorem conv2 {n len:Nat} {s:Str} {cap:Cap} (e:s.length=len):qgb Tryz.prog (qf9 n s) 74 9 (.slc 0 0 len cap)=some (.str s,qf9 n s):=by
 subst e
 simp [qgb,qc2,qb4,readCells,qf9,Heap.get,getFs,getF,qzy,qky]
theorem ix52 {b o len i:Nat} {cap:Cap} (h:i < len):qat Tryz.prog 74 (.slc b o len cap) (.int .i64 (i:Int))=some (.ptr b (o+i)):=by simp [qat,qbs h]
theorem len52 {H:Heap} {b o n:Nat} {cap:Cap}:qeu Tryz.prog H 74 (.slc b o n cap)=some n:=by simp [qeu]
theorem qmu {n:Nat} {s t:Str} (e:s=t):FitH 0 [(0,0)] [] (qf9 n s) (qf9 1 t):=by
 subst e
 have hb:qh6 [(0,0)] [] (.cells (qag s)) (.cells (qag s)):=by
  show qb1 _ _ _ _
  exact qaj (qgj s)
 refine ⟨by simp,by simp,by simp [qf9,Heap.ents],by simp [qf9],by simp,Nat.zero_le _,?_,by simp⟩
 intro e he
 simp [qf9,Heap.ents] at he
 subst he
 exact ⟨0,_,by simp,by simp [qf9,Heap.get,getFs,getF],hb⟩
theorem qxa {len:Nat} {cap:Cap}:qar [(0,0)] [] (.slc 0 0 len cap) (.slc 0 0 len cap):=by simp [qar,qay]
theorem qfq:∀ (s:Str),qag s=s.map fun c=>AV.int .u8 (c.toNat:Int)
 | []=>rfl
 | c::r=>by simp [qag,qfq r]
theorem el_bytes (s:Str):Elems 1 (qag s):=by
 rw [qfq]
 exact .map (sz:=1) (f:=fun c:UInt8=>AV.int .u8 (c.toNat:Int)) (by decide) (fun x=>⟨rfl,rfl,fun _=>rfl,fun h=>absurd rfl h⟩) s
theorem qq4:∀ (s:Str),qa4 (qag s)=qag s
 | []=>rfl
 | c::r=>by simp [qag,qa4,qq4 r]
theorem qxs (s:Str) (n:Nat):(qag s).take n=qag (s.take n):=by rw [qfq,qfq,List.map_take]
theorem qqc (s:Str) (n:Nat):(qag s).drop n=qag (s.drop n):=by rw [qfq,qfq,List.map_drop]
def aB (s:Str):AV:=.fslc 1 (qag s)
theorem atB {s:Str} {i:Nat} (h:i < s.length):qat Tryz.prog 74 (aB s) (.int .i64 (i:Int))=some (.fptr [.int .u8 (s[i].toNat:Int)] 0):=by
 simp [qat,aB,qbs (show i < (qag s).length by rw [qbd];exact h),qem h,AV.cells]
theorem qz9 {H:Heap} {s:Str}:qeu Tryz.prog H 74 (aB s)=some s.length:=by simp [qeu,aB,qbd]
theorem slB {H:Heap} {s:Str} {i:Nat} (h:i≤s.length):qdu Tryz.prog H 74 (aB s) (some (.int .i64 (i:Int))) none none=some (aB (s.drop i)):=by
 have h2:idx (i:Int) (Nat.succ (qag s).length)=some i:=qbs (by rw [qbd];omega)
 rw [qbd] at h2
 simp [qdu,qza,aB,qcq,qbd]
 rw [h2]
 simp
 rw [List.take_of_length_le (by rw [qbd];omega),qqc]
theorem slB2 {H:Heap} {s:Str} {i j:Nat} (h:i≤j) (hj:j≤s.length):qdu Tryz.prog H 74 (aB s) (some (.int .i64 (i:Int))) (some (.int .i64 (j:Int))) none=some (aB ((s.take j).drop i)):=by
 have h1:idx (j:Int) (Nat.succ (qag s).length)=some j:=qbs (by rw [qbd];omega)
 have h2:idx (i:Int) (Nat.succ j)=some i:=qbs (by omega)
 simp [qdu,qza,aB,qcq,h1,h2,qxs,qqc]
theorem inj_aB {s t:Str} (h:aB s=aB t):s=t:=by
 simp only [aB,AV.fslc.injEq,true_and,qfq] at h
 exact List.map_inj_right (fun x y h=>by simp at h;exact UInt8.toNat_inj.1 (by omega)) |>.1 h
theorem zbo (x y:Str) (h:[aB x]=[aB y]):x=y:=inj_aB (by simpa using h)
theorem byte_len (s:Str):(qag s).length=s.length:=qbd s
def lw (c:UInt8):UInt8:=if 65≤c.toNat∧c.toNat≤90 then c+32 else c
def qo2 (s:Str):Str:=s.map lw
theorem u8_or:∀ n:Fin 256,65≤n.val→n.val≤90→IntKind.wrap .u8 ((BitVec.ofInt 8 (n.val:Int) ||| BitVec.ofInt 8 32).toNat:Int)=((UInt8.ofNat n.val+32).toNat:Int):=by decide +kernel
theorem or8 {c:UInt8} (h1:65≤c.toNat) (h2:c.toNat≤90):qd9 Tryz.prog .or 5 (.int .u8 (c.toNat:Int)) (.int .u8 32)=some (.int .u8 ((lw c).toNat:Int)):=by
 have:=u8_or ⟨c.toNat,c.toNat_lt⟩ h1 h2
 simp only [UInt8.ofNat_toNat] at this
 have e:qd9 Tryz.prog .or 5 (.int .u8 (c.toNat:Int)) (.int .u8 32)=some (.int .u8 (IntKind.wrap .u8 ((BitVec.ofInt 8 (c.toNat:Int) ||| BitVec.ofInt 8 32).toNat:Int))):=rfl
 rw [e,this]
 simp only [lw,h1,h2,and_self,if_true]
theorem zb4 {c:UInt8} (h:¬ (65≤c.toNat∧c.toNat≤90)):lw c=c:=by simp only [lw,h,if_false]
def qwr (s:Str) (i:Nat):Str:=(s.take i).map lw++s.drop i
theorem qr7 (s:Str) (i:Nat):(qwr s i).length=s.length:=by simp [qwr];omega
theorem qj3 {s:Str} {i:Nat} (h:i < s.length):(qwr s i)[i]'(by rw [qr7];exact h)=s[i]:=by
 have h1:((s.take i).map lw).length=i:=by simp;omega
 simp only [qwr]
 rw [List.getElem_append_right (by omega)]
 simp only [List.getElem_drop,h1,Nat.sub_self,Nat.add_zero]
theorem qt4 {s:Str} {i:Nat} (h:i < s.length):(qwr s i).set i (lw s[i])=qwr s (i+1):=by
 have h1:((s.take i).map lw).length=i:=by simp;omega
 simp only [qwr]
 rw [List.set_append_right _ _ (by omega),h1,Nat.sub_self,List.drop_eq_getElem_cons h,List.set_cons_zero,List.take_succ_eq_append_getElem h]
 simp only [List.map_append,List.map_cons,List.map_nil,List.append_assoc,List.singleton_append]
theorem qt5 {s:Str} {i:Nat} (h:i < s.length) (e:lw s[i]=s[i]):qwr s (i+1)=qwr s i:=by
 have:=qt4 h
 rw [e] at this
 rw [← this]
 have h2:=qj3 h
 conv=>lhs;rw [← h2]
 exact List.set_getElem_self _
theorem midL_all (s:Str):qwr s s.length=qo2 s:=by simp [qwr,qo2]
theorem c161 {T:List (Entry Tryz.prog)} (s:Str) (hl:s.length≤1000000):CallAt (ctx T) 161 [.str s] ⟨0,[]⟩ (.str (qo2 s)) ⟨0,[]⟩:=by
 refine qa2 (fn:=Tryz.f161) (s0:=⟨[0,2,3,4,5,8,9,10],[.str s,.undef,.undef,.undef,.undef,.undef,.undef,.undef],[],29,⟨0,[[]]⟩⟩) Tryz.func161 rfl rfl rfl ?_
 repeat apply wq
 refine qa0 qa1 ?_
 simp [zS]
 repeat apply wq
 refine qa0 qa1 ?_
 simp [zS,conv1 hl]
 repeat apply wq
 refine qa0 qa1 ?_
 simp [zS,len52]
 refine qab (qb7 (fun i:Nat=>(⟨[0,2,3,4,5,8,9,10],[.undef,.undef,.slc 0 0 s.length (.rest 1),.undef,.undef,.slc 0 0 s.length (.rest 1),.int .i64 s.length,.int .i64 i],[],29,qf9 1 (qwr s i)⟩ : St))
  (fun i=>i≤s.length) (fun i=>s.length - i) [(0,0)] [] 0 (Nat.zero_le _) ⟨rfl,rfl,rfl,by simp [qb1,qar,qxa,qay,qah],by simpa [qwr] using qmu (n:=1) (s:=s) rfl⟩ ?_)
 rintro i hi B hB
 repeat apply wq
 refine qa0 qa1 ?_
 simp [zS]
 repeat apply wq
 refine qb9 rfl (fun h=>?_) fun h=>?_
 ·simp at h
  refine qa9 ?_
  simp
  repeat apply wq
  refine qab ?_
  have hm:i < (qwr s i).length:=by rw [qr7];exact h
  repeat apply wq
  refine qa0 qa1 ?_
  simp [zS,qf9,ix52 h,qem hm,qj3 h]
  by_cases h1:65≤s[i].toNat∧s[i].toNat≤90
  ·have e1:(65:Int)≤s[i].toNat:=by omega
   have e2:(s[i].toNat:Int)≤90:=by omega
   repeat apply wq
   refine qa0 qa1 ?_
   simp [zS,qf9,ix52 h,qem hm,qj3 h,e1,e2]
   refine qan rfl ?_
   refine qa0 qa1 ?_
   simp [zS,qf9,ix52 h,qem hm,qj3 h,or8 h1.1 h1.2,qq0 hm]
   refine qa0 qa1 ?_
   simp [zS,qbu (show i≤1000000000 by omega)]
   exact hB _ (i+1) (by omega) (by omega) ⟨[(0,0)],[],rfl,rfl,rfl,by simp [qb1,qar,qxa,qay,qah],qmu (qt4 h)⟩
  ·by_cases e1:(65:Int)≤s[i].toNat
   ·have e2:¬ (s[i].toNat:Int)≤90:=by omega
    repeat apply wq
    refine qa0 qa1 ?_
    simp [zS,qf9,ix52 h,qem hm,qj3 h,e1,e2]
    refine qam rfl ?_
    refine qa9 ?_
    simp
    refine qa0 qa1 ?_
    simp [zS,qbu (show i≤1000000000 by omega)]
    exact hB _ (i+1) (by omega) (by omega) ⟨[(0,0)],[],rfl,rfl,rfl,by simp [qb1,qar,qxa,qay,qah],qmu (qt5 h (zb4 h1)).symm⟩
   ·repeat apply wq
    refine qa0 qa1 ?_
    simp [zS,qf9,ix52 h,qem hm,qj3 h,e1]
    refine qam rfl ?_
    refine qa9 ?_
    simp
    refine qa0 qa1 ?_
    simp [zS,qbu (show i≤1000000000 by omega)]
    exact hB _ (i+1) (by omega) (by omega) ⟨[(0,0)],[],rfl,rfl,rfl,by simp [qb1,qar,qxa,qay,qah],qmu (qt5 h (zb4 h1)).symm⟩
 ·simp at h
  refine qaw ?_
  simp
  repeat apply wq
  refine qa0 qa1 ?_
  simp [zS,conv2 (qr7 s i)]
  refine qa8 ?_
  simp [qad,Tryz.f161,oneOr]
  exact qa5 rfl (by rw [show i=s.length by omega,midL_all])
theorem inj_strL (x y:Str) (h:[AV.str x]=[AV.str y]):x=y:=by simpa using h
noncomputable def e161:Entry Tryz.prog:=mkE 161 [[]] (fun x:Str=>[.str x]) (fun x=>x.length≤1000000) (fun x=>.str (qo2 x)) fun x hx=>c161 (T:=[]) x hx
theorem k161 {T:List (Entry Tryz.prog)} (hT:qai 161 T=some e161.g) {s:Str} (hl:s.length≤1000000) (H:Heap):qbb (ctx T) (.fn 161) [.str s] H=some (.str (qo2 s),H):=
 qal hT inj_strL s hl rfl (by simp)
def qv1 (a b:Str):Bool:=decide (a.length=b.length) && decide (qo2 a=qo2 b)
theorem c132 {T:List (Entry Tryz.prog)} (hT:qai 161 T=some e161.g) (a b:Str) (ha:a.length≤1000000) (hb:b.length≤1000000):CallAt (ctx T) 132 [.str a,.str b] ⟨0,[]⟩ (.bool (qv1 a b)) ⟨0,[]⟩:=by
 have ka:=fun H=>k161 hT ha H
 have kb:=fun H=>k161 hT hb H
 by_cases h:a.length=b.length
 ·have h2:(a.length:Int)=b.length:=by omega
  refine qa2 (fn:=Tryz.f132) (s0:=⟨[0,1,4],[.str a,.str b,.undef],[],17,⟨0,[[]]⟩⟩) Tryz.func132 rfl rfl rfl ?_
  (repeat (first
   | (refine qb0 ?_)
   | (refine qab ?_)
   | (refine qc8 ?_;simp only [qaf,qa6])
   | ((refine qa0 qa1 ?_);simp [zS,h2,ka,kb])
   | (refine qan rfl ?_)
   | (refine qam rfl ?_)
   | ((refine qa9 ?_);simp only [qaf,qa6])
   | ((refine qaw ?_);simp [qaf,qa6])))
  refine qa8 ?_
  simp [qad,Tryz.f132,oneOr,qaf,qa6]
  exact qa5 rfl (by simp [qv1,h])
 ·have h2:¬ (a.length:Int)=b.length:=by omega
  refine qa2 (fn:=Tryz.f132) (s0:=⟨[0,1,4],[.str a,.str b,.undef],[],17,⟨0,[[]]⟩⟩) Tryz.func132 rfl rfl rfl ?_
  (repeat (first
   | (refine qb0 ?_)
   | (refine qab ?_)
   | (refine qc8 ?_;simp only [qaf,qa6])
   | ((refine qa0 qa1 ?_);simp [zS,h,h2,ka,kb])
   | (refine qan rfl ?_)
   | (refine qam rfl ?_)
   | ((refine qa9 ?_);simp only [qaf,qa6])
   | ((refine qaw ?_);simp [qaf,qa6])))
  refine qa8 ?_
  simp [qad,Tryz.f132,oneOr,qaf,qa6]
  exact qa5 rfl (by simp [qv1,h])
theorem zbn (x y:Str × Str) (h:[AV.str x.1,AV.str x.2]=[AV.str y.1,AV.str y.2]):x=y:=by
 simp at h;exact Prod.ext h.1 h.2
noncomputable def e132:Entry Tryz.prog:=mkE 132 [[],[]] (fun x:Str × Str=>[.str x.1,.str x.2]) (fun x=>x.1.length≤1000000∧x.2.length≤1000000) (fun x=>.bool (qv1 x.1 x.2)) fun x hx=>c132 (T:=[e161]) rfl x.1 x.2 hx.1 hx.2
theorem k132 {T:List (Entry Tryz.prog)} (hT:qai 132 T=some e132.g) {a b:Str} (ha:a.length≤1000000) (hb:b.length≤1000000) (H:Heap):qbb (ctx T) (.fn 132) [.str a,.str b] H=some (.bool (qv1 a b),H):=
 qal hT zbn (a,b) ⟨ha,hb⟩ rfl (by simp)
def okN (n:Nd):Prop:=n.name.length≤100000∧n.attrs.length≤1000∧n.data.length≤100000∧∀ a,a∈n.attrs→a.1.length≤100000∧a.2.length≤100000
theorem okN.nm {n:Nd} (h:okN n):n.name.length≤1000000000:=by have:=h.1;omega
def okP (L:List Nd):Prop:=L.length≤100000∧∀ n,n∈L→okN n
def elB (n:Nd) (W:Str):Bool:=decide (n.kind=1) && decide (n.space=0) && inW W n.name
abbrev lsKSvg:Str:= lsB11
abbrev lsKMath:Str:= lsB7
def qyi (sp:Int) (x:Str):Bool:=if sp=0 then inW lsB10 x else if sp=1 then inW lsKSvg x else if sp=2 then inW lsKMath x else false
theorem c91 {T:List (Entry Tryz.prog)} (hc0:qai 122 T=some e122a.g) (sp:Int) (x:Str) (hx:x.length≤1000000000):CallAt (ctx T) 91 [.int .i64 sp,.str x] ⟨0,[]⟩ (.bool (qyi sp x)) ⟨0,[]⟩:=by
 have kw0:=fun (x:Str) (hx:x.length≤1000000000) (H:Heap)=>k122a (W:= lsB10) (x:=x) hc0 (qox (by decide)) (by decide) hx H
 have kw1:=fun (x:Str) (hx:x.length≤1000000000) (H:Heap)=>k122a (W:= lsB11) (x:=x) hc0 (qox (by decide)) (by decide) hx H
 have kw2:=fun (x:Str) (hx:x.length≤1000000000) (H:Heap)=>k122a (W:= lsB7) (x:=x) hc0 (qox (by decide)) (by decide) hx H
 refine qa2 (fn:=Tryz.f91) (s0:=⟨[0,1,4,5],[.int .i64 sp,.str x,.undef,.undef],[],18,⟨0,[[]]⟩⟩) Tryz.func91 rfl rfl rfl ?_
 (repeat' (first
  | with_reducible refine qb0 ?_
  | with_reducible refine qab ?_
  | (with_reducible refine qa0 qa1 ?_;apply qf4;simp [zS, *];exact rfl)
  | (with_reducible refine qbx ?_;simp only [qaf,qa6])
  | (refine qb9 rfl (fun hc=>?_) (fun hc=>?_) <;> ((have hd:=hc);(try simp at hd);(try subst hd)))
  | (with_reducible refine qa9 ?_;simp only [qaf,qa6])
  | (with_reducible refine qa8 ?_;simp [qad,Tryz.f91,oneOr,qaf,qa6])))
 all_goals first | exact qa5 rfl (by simp [qyi, *]) | (exfalso;omega)
theorem inj_91 (x y:Int × Str) (h:(fun z:Int × Str=>([.int .i64 z.1,.str z.2]:List AV)) x=(fun z:Int × Str=>([.int .i64 z.1,.str z.2]:List AV)) y):x=y:=by
 obtain ⟨x0,x1⟩:=x
 obtain ⟨y0,y1⟩:=y
 simp only [List.cons.injEq,and_true] at h
 obtain ⟨h0,h1⟩:=h
 have g0:x0=y0:=AV.int.inj h0 |>.2
 have g1:x1=y1:=AV.str.inj h1
 subst g0 g1
 rfl
noncomputable def e91:Entry Tryz.prog:=mkE 91 [[],[]] (fun z:Int × Str=>[.int .i64 z.1,.str z.2]) (fun z=>(z.2.length≤1000000000)) (fun z=>.bool (qyi z.1 z.2)) fun z h=>c91 (T:=[e122a]) rfl z.1 z.2 h
theorem k91 {T:List (Entry Tryz.prog)} (hT:qai 91 T=some e91.g) (sp:Int) (x:Str) (hx:x.length≤1000000000) (H:Heap):qbb (ctx T) (.fn 91) [.int .i64 sp,.str x] H=some (.bool (qyi sp x),H):=
 qal hT inj_91 (sp,x) hx rfl (by simp [qau])
theorem c85 {T:List (Entry Tryz.prog)} (hc0:qai 122 T=some e122a.g) (n:Nd) (W:Str) (hW:qcw W) (hl:W.length≤100000) (hx:n.name.length≤1000000000):CallAt (ctx T) 85 [qa7 n,.str W] ⟨0,[]⟩ (.bool (elB n W)) ⟨0,[]⟩:=by
 have kc0:=@k122a T hc0
 refine qa2 (fn:=Tryz.f85) (s0:=⟨[0,1,2,4],[qa7 n,.str W,.undef,.undef],[],19,⟨0,[[]]⟩⟩) Tryz.func85 rfl rfl rfl ?_
 (repeat' (first
  | with_reducible refine qb0 ?_
  | (with_reducible refine qa0 qa1 ?_;apply qf4;simp [zS, *,qb5];exact rfl)
  | (with_reducible refine qbx ?_;simp only [qaf,qa6])
  | (with_reducible refine qbt (fun hc=>?_) (fun hc=>?_) <;> ((have hd:=hc);(try simp at hd);(try subst hd);apply qf4;simp [zS, *,qb5];exact rfl))
  | (with_reducible refine qa8 ?_;simp [qad,Tryz.f85,oneOr,qaf,qa6])))
 all_goals first | exact qa5 rfl (by simp [elB, *]) | (exfalso;omega)
theorem inj_85 (x y:Nd × Str) (h:(fun z:Nd × Str=>([qa7 z.1,.str z.2]:List AV)) x=(fun z:Nd × Str=>([qa7 z.1,.str z.2]:List AV)) y):x=y:=by
 obtain ⟨x0,x1⟩:=x
 obtain ⟨y0,y1⟩:=y
 simp only [List.cons.injEq,and_true] at h
 obtain ⟨h0,h1⟩:=h
 have g0:x0=y0:=qe0 h0
 have g1:x1=y1:=AV.str.inj h1
 subst g0 g1
 rfl
noncomputable def e85:Entry Tryz.prog:=mkE 85 [[0,0,0,2,0,0,1],[]] (fun z:Nd × Str=>[qa7 z.1,.str z.2]) (fun z=>(qcw z.2)∧(z.2.length≤100000)∧(z.1.name.length≤1000000000)) (fun z=>.bool (elB z.1 z.2)) fun z h=>c85 (T:=[e122a]) rfl z.1 z.2 h.1 h.2.1 h.2.2
theorem k85 {T:List (Entry Tryz.prog)} (hT:qai 85 T=some e85.g) (n:Nd) (W:Str) (hW:qcw W) (hl:W.length≤100000) (hx:n.name.length≤1000000000) (H:Heap):qbb (ctx T) (.fn 85) [qa7 n,.str W] H=some (.bool (elB n W),H):=
 qal hT inj_85 (n,W) ⟨hW,hl,hx⟩ rfl (by simp [qau])
theorem qzx {n:Nat} (h:0 < n) (hn:n≤1000000000):wr .i64 ((n:Int) - 1)=some ((n - 1:Nat):Int):=by
 rw [qep (by omega) (by omega)];congr 1;omega
def qbj (L:List Nd):Nd:=if L=[] then ⟨1,0,[100,105,118],[],[],0,[]⟩ else qa3 L ((L.length - 1:Nat):Int)
theorem c82 {T:List (Entry Tryz.prog)} (L:List Nd) (hl:L.length≤1000000):CallAt (ctx T) 82 [qae L] ⟨0,[]⟩ (qa7 (qbj L)) ⟨0,[]⟩:=by
 by_cases he:L=[]
 ·subst he
  have bld:qgv Tryz.prog 34 [(0,.int .i64 1),(2,.str [100,105,118])]=some (.agg [.int .i64 1,.int .i64 0,.str [100,105,118],.nilS,.str [],.int .i64 0,.nilS]):=rfl
  have l0:∀ H,qeu Tryz.prog H 22 (qae [])=some 0:=fun H=>rfl
  refine qa2 (fn:=Tryz.f82) (s0:=⟨[0,2,3],[qae [],.undef,.undef],[],14,⟨0,[[]]⟩⟩) Tryz.func82 rfl rfl rfl ?_
  repeat apply wq
  refine qa0 qa1 ?_
  simp [zS]
  repeat apply wq
  refine qa0 qa1 ?_
  simp [zS,l0]
  repeat apply wq
  refine qa0 qa1 ?_
  simp [zS,l0]
  refine qam rfl ?_
  refine qa9 ?_
  simp
  repeat apply wq
  refine qa0 qa1 ?_
  simp [zS,bld]
  refine qa8 ?_
  simp [qad,Tryz.f82,oneOr,readCells,Heap.get,getFs,getF,Blk.rd]
  refine ⟨[],[],?_,FitH.empty⟩
  simp [qbj,qa7,Nd.cs,qb6,qbh,qak,qar,qb1,qah]
 ·have h:0 < L.length:=List.length_pos_iff.2 he
  have hi:(0:Int) < (L.length:Int):=by omega
  have hs:=qzx h (by omega)
  have ha:=atX (t:=L) (i:=((L.length - 1:Nat):Int)) (by omega) (by omega)
  have hp:qbj L=qa3 L ((L.length - 1:Nat):Int):=by unfold qbj;rw [if_neg he]
  rw [hp]
  refine qa2 (fn:=Tryz.f82) (s0:=⟨[0,2,3],[qae L,.undef,.undef],[],14,⟨0,[[]]⟩⟩) Tryz.func82 rfl rfl rfl ?_
  repeat apply wq
  refine qa0 qa1 ?_
  simp [zS]
  repeat apply wq
  refine qa0 qa1 ?_
  simp [zS,qkl]
  repeat apply wq
  refine qa0 qa1 ?_
  simp [zS,h,hi]
  refine qan (by simp [qbk,St.get,h]) ?_
  repeat apply wq
  refine qa0 qa1 ?_
  simp [zS,hs,ha,qb5]
  refine qa8 ?_
  simp [qad,Tryz.f82,oneOr,readCells,Heap.get,getFs,getF,Blk.rd,qb5]
  exact ⟨[],[],FitH.empty⟩
theorem inj_82 (x y:List Nd) (h:(fun z:List Nd=>([qae z]:List AV)) x=(fun z:List Nd=>([qae z]:List AV)) y):x=y:=by
 simp only [List.cons.injEq,and_true] at h
 exact qe6 h
noncomputable def e82:Entry Tryz.prog:=mkE 82 [[7]] (fun z:List Nd=>[qae z]) (fun z=>(z.length≤1000000)) (fun z=>qa7 (qbj z)) fun z h=>c82 (T:=[])  z h
theorem k82 {T:List (Entry Tryz.prog)} (hT:qai 82 T=some e82.g) (L:List Nd) (hl:L.length≤1000000) (H:Heap):qbb (ctx T) (.fn 82) [qae L] H=some (qa7 (qbj L),H):=
 qdc hT inj_82 (L) hl (by simp [qac,qah,qau]) (by simp [qau]) H
theorem c94 {T:List (Entry Tryz.prog)} (u:Nd) (n:Nd):CallAt (ctx T) 94 [qa7 u,qa7 n] ⟨0,[]⟩ (.bool (decide (n.space=u.space) || (decide (u.space=2) && decide (u.name=[97,110,110,111,116,97,116,105,111,110,45,120,109,108]) && decide (n.space=1) && decide (n.name=[115,118,103])))) ⟨0,[]⟩:=by
 refine qa2 (fn:=Tryz.f94) (s0:=⟨[0,1,2,3,4],[qa7 u,qa7 n,.undef,.undef,.undef],[],28,⟨0,[[]]⟩⟩) Tryz.func94 rfl rfl rfl ?_
 (repeat' (first
  | with_reducible refine qb0 ?_
  | (with_reducible refine qa0 qa1 ?_;apply qf4;simp [zS, *,qb5];exact rfl)
  | (with_reducible refine qbx ?_;simp only [qaf,qa6])
  | (with_reducible refine qbt (fun hc=>?_) (fun hc=>?_) <;> ((have hd:=hc);(try simp at hd);(try subst hd);apply qf4;simp [zS, *,qb5];exact rfl))
  | (refine qb9 rfl (fun hc=>?_) (fun hc=>?_) <;> ((have hd:=hc);(try simp at hd);(try subst hd)))
  | (with_reducible refine qa9 ?_;simp only [qaf,qa6])
  | (with_reducible refine qa8 ?_;simp [qad,Tryz.f94,oneOr,qaf,qa6])))
 all_goals first | exact qa5 rfl (by first | (simp [*];done) | (simp_all;done)) | (exfalso;omega)
theorem inj_94 (x y:Nd × Nd) (h:(fun z:Nd × Nd=>([qa7 z.1,qa7 z.2]:List AV)) x=(fun z:Nd × Nd=>([qa7 z.1,qa7 z.2]:List AV)) y):x=y:=by
 obtain ⟨x0,x1⟩:=x
 obtain ⟨y0,y1⟩:=y
 simp only [List.cons.injEq,and_true] at h
 obtain ⟨h0,h1⟩:=h
 have g0:x0=y0:=qe0 h0
 have g1:x1=y1:=qe0 h1
 subst g0 g1
 rfl
noncomputable def e94:Entry Tryz.prog:=mkE 94 [[0,0,0,2,0,0,1],[0,0,0,2,0,0,1]] (fun z:Nd × Nd=>[qa7 z.1,qa7 z.2]) (fun z=>True) (fun z=>.bool (decide (z.2.space=z.1.space) || (decide (z.1.space=2) && decide (z.1.name=[97,110,110,111,116,97,116,105,111,110,45,120,109,108]) && decide (z.2.space=1) && decide (z.2.name=[115,118,103])))) fun z h=>c94 (T:=[])  z.1 z.2 
theorem k94 {T:List (Entry Tryz.prog)} (hT:qai 94 T=some e94.g) (u:Nd) (n:Nd) (H:Heap):qbb (ctx T) (.fn 94) [qa7 u,qa7 n] H=some (.bool (decide (n.space=u.space) || (decide (u.space=2) && decide (u.name=[97,110,110,111,116,97,116,105,111,110,45,120,109,108]) && decide (n.space=1) && decide (n.name=[115,118,103]))),H):=
 qal hT inj_94 (u,n) trivial rfl (by simp [qau])
theorem sp_mi:qdq qwu=[[109,105],[109,110],[109,111],[109,115],[109,116,101,120,116]]:=by decide +kernel
theorem in_mi (x:Str):inW qwu x=decide (x=[109,105]∨x=[109,110]∨x=[109,111]∨x=[109,115]∨x=[109,116,101,120,116]):=by unfold inW;rw [sp_mi];simp
def qn8 (n:Nd):Bool:=decide (n.kind=1) && decide (n.space=2) && inW qwu n.name
theorem c92 {T:List (Entry Tryz.prog)} (n:Nd):CallAt (ctx T) 92 [qa7 n] ⟨0,[]⟩ (.bool (qn8 n)) ⟨0,[]⟩:=by
 refine qa2 (fn:=Tryz.f92) (s0:=⟨[0,1,2,4,5],[qa7 n,.undef,.undef,.undef,.undef],[],19,⟨0,[[]]⟩⟩) Tryz.func92 rfl rfl rfl ?_
 (repeat' (first
  | with_reducible refine qb0 ?_
  | with_reducible refine qab ?_
  | (with_reducible refine qa0 qa1 ?_;apply qf4;simp [zS, *,qb5];exact rfl)
  | (with_reducible refine qbx ?_;simp only [qaf,qa6])
  | (with_reducible refine qbt (fun hc=>?_) (fun hc=>?_) <;> ((have hd:=hc);(try simp at hd);(try subst hd);apply qf4;simp [zS, *,qb5];exact rfl))
  | (refine qb9 rfl (fun hc=>?_) (fun hc=>?_) <;> ((have hd:=hc);(try simp at hd);(try subst hd)))
  | (with_reducible refine qa9 ?_;simp only [qaf,qa6])
  | (with_reducible refine qa8 ?_;simp [qad,Tryz.f92,oneOr,qaf,qa6])))
 all_goals first | exact qa5 rfl (by first | (simp [qn8,in_mi, *];done) | (simp_all [qn8,in_mi];done)) | (exfalso;omega)
theorem inj_92 (x y:Nd) (h:(fun z:Nd=>([qa7 z]:List AV)) x=(fun z:Nd=>([qa7 z]:List AV)) y):x=y:=by
 simp only [List.cons.injEq,and_true] at h
 exact qe0 h
noncomputable def e92:Entry Tryz.prog:=mkE 92 [[0,0,0,2,0,0,1]] (fun z:Nd=>[qa7 z]) (fun z=>True) (fun z=>.bool (qn8 z)) fun z h=>c92 (T:=[])  z 
theorem k92 {T:List (Entry Tryz.prog)} (hT:qai 92 T=some e92.g) (n:Nd) (H:Heap):qbb (ctx T) (.fn 92) [qa7 n] H=some (.bool (qn8 n),H):=
 qal hT inj_92 (n) trivial rfl (by simp [qau])
def qkg (n:Nd):Bool:=decide (n.kind=1) && (decide (n.space=1) && inW lsSvg n.name || decide (n.space=2) && match qkp [101,110,99,111,100,105,110,103] n.attrs with
 | none=>false
 | some v=>decide (n.name=[97,110,110,111,116,97,116,105,111,110,45,120,109,108]) && (qv1 v [116,101,120,116,47,104,116,109,108] || qv1 v [97,112,112,108,105,99,97,116,105,111,110,47,120,104,116,109,108,43,120,109,108]))
theorem qtk {nm v:Str} {m:Nat}:∀ {L:List At1},(∀ a,a∈L→a.1.length≤m∧a.2.length≤m)→qkp nm L=some v→v.length≤m
 | [],_,h=>by simp [qkp] at h
 | a::r,hl,h=>by
  unfold qkp at h
  split at h
  ·simp only [sj] at h
   rw [← h];exact (hl a (by simp)).2
  ·exact qtk (fun b hb=>hl b (by simp [hb])) h
theorem c93 {T:List (Entry Tryz.prog)} (hc0:qai 122 T=some e122a.g) (hc1:qai 131 T=some e131.g) (hc2:qai 132 T=some e132.g) (n:Nd) (h:okN n):CallAt (ctx T) 93 [qa7 n] ⟨0,[]⟩ (.bool (qkg n)) ⟨0,[]⟩:=by
 have kw0:=fun (x:Str) (hx:x.length≤1000000000) (H:Heap)=>k122a (W:= lsB0) (x:=x) hc0 (qox (by decide)) (by decide) hx H
 have kc1:=@k131 T hc1
 have kc2:=@k132 T hc2
 have hx:=h.nm
 have hg:=fun H=>k131 (nm:=[101,110,99,111,100,105,110,103]) hc1 h.2.1 (qk5 H n.attrs)
 cases hv:qkp [101,110,99,111,100,105,110,103] n.attrs with
 | none=>
  rw [hv] at hg
  simp only [gotA] at hg
  refine qa2 (fn:=Tryz.f93) (s0:=⟨[0,1,2,3,4,9],[qa7 n,.undef,.undef,.undef,.undef,.undef],[],37,⟨0,[[]]⟩⟩) Tryz.func93 rfl rfl rfl ?_
  (repeat' (first
   | with_reducible refine qb0 ?_
   | with_reducible refine qab ?_
   | (with_reducible refine qa0 qa1 ?_;apply qf4;simp [zS, *,qb5];exact rfl)
   | (with_reducible refine qbx ?_;simp only [qaf,qa6])
   | (refine qb9 rfl (fun hc=>?_) (fun hc=>?_) <;> ((have hd:=hc);(try simp at hd);(try subst hd)))
   | (with_reducible refine qa9 ?_;simp only [qaf,qa6])
   | (with_reducible refine qa8 ?_;simp [qad,Tryz.f93,oneOr,qaf,qa6])))
  all_goals first | exact qa5 rfl (by first | (simp [qkg, *];done) | (simp_all [qkg];done)) | (exfalso;omega)
 | some v=>
  rw [hv] at hg
  have lv:v.length≤1000000:=by have:=qtk h.2.2.2 hv;omega
  simp only [gotA] at hg
  refine qa2 (fn:=Tryz.f93) (s0:=⟨[0,1,2,3,4,9],[qa7 n,.undef,.undef,.undef,.undef,.undef],[],37,⟨0,[[]]⟩⟩) Tryz.func93 rfl rfl rfl ?_
  (repeat' (first
   | with_reducible refine qb0 ?_
   | with_reducible refine qab ?_
   | (with_reducible refine qa0 qa1 ?_;apply qf4;simp [zS, *,qb5];exact rfl)
   | (with_reducible refine qbx ?_;simp only [qaf,qa6])
   | (with_reducible refine qbt (fun hc=>?_) (fun hc=>?_) <;> ((have hd:=hc);(try simp at hd);(try subst hd);apply qf4;simp [zS, *,qb5];exact rfl))
   | (refine qb9 rfl (fun hc=>?_) (fun hc=>?_) <;> ((have hd:=hc);(try simp at hd);(try subst hd)))
   | (with_reducible refine qa9 ?_;simp only [qaf,qa6])
   | (with_reducible refine qa8 ?_;simp [qad,Tryz.f93,oneOr,qaf,qa6])))
  all_goals first | exact qa5 rfl (by first | (simp [qkg, *];done) | (simp_all [qkg];done)) | (exfalso;omega)
theorem inj_93 (x y:Nd) (h:(fun z:Nd=>([qa7 z]:List AV)) x=(fun z:Nd=>([qa7 z]:List AV)) y):x=y:=by
 simp only [List.cons.injEq,and_true] at h
 exact qe0 h
noncomputable def e93:Entry Tryz.prog:=mkE 93 [[0,0,0,2,0,0,1]] (fun z:Nd=>[qa7 z]) (fun z=>(okN z)) (fun z=>.bool (qkg z)) fun z h=>c93 (T:=[e122a,e131,e132]) rfl rfl rfl z h
theorem k93 {T:List (Entry Tryz.prog)} (hT:qai 93 T=some e93.g) (n:Nd) (h:okN n) (H:Heap):qbb (ctx T) (.fn 93) [qa7 n] H=some (.bool (qkg n),H):=
 qal hT inj_93 (n) h rfl (by simp [qau])
def cN (s:Str) (i:Nat):Nat:=(s.getD i 0).toNat
def qea (c:Nat):Nat:=if c < 194 then 0 else if c < 224 then 1 else if c < 240 then 2 else if c < 245 then 3 else 0
def loN (c:Nat):Nat:=if c=224 then 160 else if c=240 then 144 else 128
def hiN (c:Nat):Nat:=if c=237 then 159 else if c=244 then 143 else 191
def qpd (s:Str) (i lo hi:Nat):Bool:=decide (i < s.length) && (decide (lo≤cN s i) && decide (cN s i≤hi))
def qnw (s:Str):Nat→Nat→Nat→Nat→Nat × Bool
 | 0,i,_,_=>(i,true)
 | k+1,i,lo,hi=>if qpd s i lo hi=true then qnw s k (i+1) 128 191 else (i,false)
def qed (s:Str):Nat × Bool:=if cN s 0 < 128 then (1,true) else if qea (cN s 0)=0 then (1,false) else qnw s (qea (cN s 0)) 1 (loN (cN s 0)) (hiN (cN s 0))
theorem qqg {s:Str} {i:Nat} (h:i < s.length):s[i].toNat=cN s i:=by simp [cN,List.getD_eq_getElem?_getD,List.getElem?_eq_getElem h]
theorem qwn (c:Nat):qea c≤3:=by unfold qea;split <;> (try split) <;> (try split) <;> (try split) <;> omega
set_option maxHeartbeats 1000000
end Go.Proofs.YtocnpnnplllneaaGreatDoor