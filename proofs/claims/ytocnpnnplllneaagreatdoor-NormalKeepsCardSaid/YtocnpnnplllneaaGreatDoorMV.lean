/- normal.Tree, Tidy taken as given. No condition. -/
import Derived.Test.YtocnpnnplllneaaGreatDoorMU
import Derived.Test.YtocnpnnplllneaaGreatDoorMK
import Derived.Test.YtocnpnnplllneaaGreatDoorMR
import Derived.Test.YtocnpnnplllneaaGreatDoorMN
import Derived.Test.YtocnpnnplllneaaGreatDoorMJ
import Derived.Test.YtocnpnnplllneaaGreatDoorMT
import Derived.Test.YtocnpnnplllneaaGreatDoorMH
namespace Go.Proofs.YtocnpnnplllneaaGreatDoor
set_option linter.unusedSimpArgs false
set_option linter.unusedVariables false
open Go Go.RowKit
set_option maxRecDepth 100000
theorem qxh:∀ (s:Str),qqj (qag s)=some s
 | []=>rfl
 | c::r=>by
  have h1:=qxh r
  have h2:qxi (.int .u8 c.toNat)=some c:=by
   show (idx (c.toNat:Int) 256).bind _=_
   rw [qbs (by have:=c.toNat_lt;omega)]
   simp
  simp only [qag,qqj,h1,h2,Option.bind_some]
theorem sd0 {H:Heap} {ts:Array TypeId}:qbo Tryz.prog H .unsafeSliceData ts [.nilS]=some (.nilP,H):=rfl
theorem sd1 {H:Heap} {ts:Array TypeId} {k n:Nat} {cap:Cap}:qbo Tryz.prog H .unsafeSliceData ts [.slc k 0 (n+1) cap]=some (.ptr k 0,H):=rfl
theorem us0 {H:Heap}:qbo Tryz.prog H .unsafeString #[119,3] [.nilP,.int .i64 0]=some (.str [],H):=rfl
theorem us1 {H:Heap} {k:Nat} {out:Str} (hg:H.get k=some (.buf 5 out.length (qag out))) (hs:H.set k (.buf 5 out.length (qag out))=some H) (hne:out≠[]) (hl:out.length≤1000000000) :
  qbo Tryz.prog H .unsafeString #[119,3] [.ptr k 0,.int .i64 (out.length:Nat)]=some (.str out,H):=by
 have h0:idx (out.length:Int) 140737488355328=some out.length:=qbs (by omega)
 have hpos:Nat.blt 0 out.length=true:=by
  have:=List.length_pos_iff.2 hne
  simpa using this
 have h1:(Nat.beq 5 5 && Nat.beq 0 0 && Nat.blt 0 out.length)=true:=by rw [hpos];rfl
 have hc:Nat.beq (Tryz.prog.cellsOf 5) 1=true:=by kernel_rfl
 have ht:qef out.length (qag out)=some (qag out):=by
  have:=qcz (qag out)
  rwa [qcl] at this
 have hu:Tryz.prog.underlying 119=some (.pointer 5):=Tryz.underlying119
 have hv:Tryz.prog.underlying 5=some (.int .u8):=Tryz.underlying5
 have hts:(#[119,3]:Array TypeId)[0]? = some 119:=rfl
 unfold qbo
 simp only [h0,Option.bind_some,hts,hu,hg,h1,hv,hc,ht,qxh,Nat.max_self,hs]
theorem c77 {T:List (Entry Tryz.prog)} {m wb:Nat} {ty:TypeId} {b:Bs} {cs:List AV} {g:List (Nat × Blk)} (h:Wok m wb b cs g) (hlen:b.out.length≤1000000000) :
  CallAt (ctx T) 77 [.ptr wb 0] ⟨m,[WF wb ty (.ptr wb 0) b cs g]⟩ (.str b.out) ⟨m+1,[WF wb ty (.ptr wb 0) b cs g]⟩:=by
 refine qa2 (fn:=Tryz.f77) (s0:=⟨[0,2],[.ptr wb 0,.undef],[],14,⟨m,[]::[WF wb ty (.ptr wb 0) b cs g]⟩⟩) Tryz.func77 rfl rfl rfl ?_
 repeat apply wq
 refine qa0 qa1 ?_
 simp [zS]
 obtain ⟨k,out⟩:=b
 cases out with
 | nil=>
  repeat apply wq
  refine qdd mixed qa1 (by decide +kernel) (by decide +kernel) ?_
  simp [zS,qf3,qd8,qcx,qmg,bV,qeu,sd0,us0]
  refine qa8 ?_
  simp [qad,Tryz.f77,oneOr]
  exact ⟨idn m,[],qba rfl,qj4 h⟩
 | cons c r=>
  have hg:∀ n,Heap.get ⟨n,[[],WF wb ty (.ptr wb 0) ⟨k,c::r⟩ cs g]⟩ k=some (.buf 5 (c::r).length (qag (c::r))):=fun n=>by
   have:=WF_b (ty:=ty) (a:=.ptr wb 0) h (by simp)
   simp only [Heap.get,getFs,getF]
   rw [this]
  have hs:∀ n,Heap.set ⟨n,[[],WF wb ty (.ptr wb 0) ⟨k,c::r⟩ cs g]⟩ k (.buf 5 (c::r).length (qag (c::r)))=some ⟨n,[[],WF wb ty (.ptr wb 0) ⟨k,c::r⟩ cs g]⟩:=fun n=>by
   have:=qht (WF_b (ty:=ty) (a:=.ptr wb 0) h (by simp))
   simp only at this
   simp only [Heap.set,setFs,setF,this,Option.bind_some,Option.bind_none]
  have hu:=fun n=>us1 (hg n) (hs n) (by simp) hlen
  simp only [List.length_cons,Int.natCast_add,Int.natCast_one] at hu
  repeat apply wq
  refine qdd mixed qa1 (by decide +kernel) (by decide +kernel) ?_
  simp [zS,qf3,qd8,qcx,qmg,bV,qeu,sd1,hu]
  refine qa8 ?_
  simp [qad,Tryz.f77,oneOr]
  exact ⟨idn m,[],qba rfl,qj4 h⟩
theorem app_byte {m n t wb:Nat} {ty:TypeId} {a:AV} {b:Bs} {cs:List AV} {g:List (Nat × Blk)} (h:Wok m wb b cs g) (d:UInt8) (ht:m≤t) (hl:b.out.length+1≤1000000000) :
  qbz Tryz.prog ⟨n,[[(t,.cells [.int .u8 d.toNat])],WF wb ty a b cs g]⟩ 5 (bV b) (.slc t 0 1 (.ex 1)) =
   some (.slc n 0 (b.out.length+1) (.rest 1),⟨n+1,[[(n,.buf 5 (if b.out=[] then 0 else b.out.length) (qag (b.out++[d]))),(t,.cells [.int .u8 d.toNat])],(wb,.obj ty (a::bV b::cs))::g]⟩):=by
 have hsz:qbw Tryz.prog 5=some 1:=szT5
 have hby:qc6 Tryz.prog 5=some 1:=byT5
 have hz:qbn Tryz.prog 5=some (.int .u8 0):=zeT5
 have hroom:∀ n,n≤1000000000→qck n 1=true:=fun n hn=>by simp [qck];omega
 have c0:(Nat.beq 1 0 || !(Nat.beq (AV.cells (.int .u8 0)).length 1 && Nat.blt 0 1))=false:=rfl
 have hrow:∀ cs,qp3 Tryz.prog 5 cs=.buf 5 0 cs:=fun cs=>rfl
 have hx1:qc2 (.slc t 0 1 (.ex 1))=some 1:=rfl
 have hx2:qb4 ⟨n,[[(t,.cells [.int .u8 d.toNat])],WF wb ty a b cs g]⟩ 1 1 (.slc t 0 1 (.ex 1))=some (qag [d]):=by
  simp [qb4,readCells,Heap.get,getFs,getF,qek,qef,qag]
 obtain ⟨k,out⟩:=b
 simp only at hl
 unfold qbz
 simp only [hsz,hby,hz,hx1,Option.bind_some,c0]
 cases out with
 | nil=>
  simp only [bV]
  have hr:=hroom 1 (by omega)
  have hcb:Nat.beq (qag [d]).length (1 * 1)=true:=rfl
  simp only [hr,hx2,Option.bind_some,hcb,hrow]
  simp [Heap.new,pushF,WF,bV,bF]
 | cons c r=>
  have hkl:=(h.hk (by simp)).2
  simp only at hkl
  have htk:Nat.beq t k=false:=qao (by omega)
  have hg:Heap.get ⟨n,[[(t,.cells [.int .u8 d.toNat])],WF wb ty a ⟨k,c::r⟩ cs g]⟩ k=some (.buf 5 (c::r).length (qag (c::r))):=by
   have:=WF_b (ty:=ty) (a:=a) h (by simp)
   simp only [Heap.get,getFs,getF,htk]
   rw [this]
  have hk:qci ⟨n,[[(t,.cells [.int .u8 d.toNat])],WF wb ty a ⟨k,c::r⟩ cs g]⟩ k=some (c::r).length:=by
   unfold qci;simp only [hg,Option.bind_some,Blk.rd,qcl]
  have hr:=hroom ((c::r).length+1) hl
  have h1:Nat.beq 1 1=true:=rfl
  simp only [bV,hx2,Option.bind_some,hr,qip,h1,hk]
  have h2:Nat.ble (0+((c::r).length+1) * 1) (c::r).length=false:=by
   rw [← Bool.not_eq_true,Nat.ble_eq];simp
  have h3:Nat.beq (0+(c::r).length * 1) (c::r).length=true:=by simp
  have h4:readCells ⟨n,[[(t,.cells [.int .u8 d.toNat])],WF wb ty a ⟨k,c::r⟩ cs g]⟩ k 0 ((c::r).length * 1)=some (qag (c::r)):=by
   unfold readCells
   simp only [hg,Option.bind_some,Blk.rd,qek,List.drop_zero,Nat.mul_one]
   rw [← qcl (c::r)]
   exact qcz _
  have h5:Nat.beq (qag [d]).length (1 * 1)=true:=rfl
  have h6:goOn (.buf 5 (c::r).length (qag (c::r))) 5 0 (qag (c::r)++qag [d])=some (.buf 5 (c::r).length (qag (c::r)++qag [d])):=rfl
  simp only [h2,h3,h4,h5,Option.bind_some,hg,h6]
  have hd:Heap.drop ⟨n,[[(t,.cells [.int .u8 d.toNat])],WF wb ty a ⟨k,c::r⟩ cs g]⟩ k=⟨n,[[(t,.cells [.int .u8 d.toNat])],(wb,.obj ty (a::bV ⟨k,c::r⟩::cs))::g]⟩:=by
   have hkw:=(h.hk (by simp)).1
   simp only [List.mem_cons,not_or] at hkw
   have e1:Nat.beq wb k=false:=qao fun e=>hkw.1 e.symm
   simp [Heap.drop,qdz,getF,WF,e1,bF,killF,htk]
  rw [hd,← qov]
  simp [Heap.new,pushF,bV]
theorem fit_newF {f:List (Nat × Blk)} {m n c wb fz:Nat} {ty:TypeId} {out:Str} {b0:Bs} {cs:List AV} {g:List (Nat × Blk)} (h:Wok m wb b0 cs g) (hc:m≤c) (hne:out≠[]) (hfz:fz≤out.length) (hf:∀ i,i < m→getF i f=none) (hfc:getF c f=none) :
  FitH m ((c,m)::idn m) [] ⟨n,[f,(c,.buf 5 fz (qag out))::(wb,.obj ty (.ptr wb 0::.slc c 0 out.length (.rest 1)::cs))::g]⟩ ⟨m+1,[WF wb ty (.ptr wb 0) ⟨m,out⟩ cs g]⟩:=by
 have hw:Nat.beq c wb=false:=qao (by have:=h.lw;omega)
 have hbv:bV ⟨c,out⟩=.slc c 0 out.length (.rest 1):=bV_ne (b:=⟨c,out⟩) hne
 have idl:=qms (m:=m) (k:=c) (k':=m) hc
 refine fitWr (kc:=c) (k':=m) (fz:=fz) (out:=out) (O:=.obj ty (.ptr wb 0::.slc c 0 out.length (.rest 1)::cs)) (.inr ⟨rfl,rfl,hc⟩) (by omega) h.lw h.lg h.nd (fun _ hx=>?_) (by simp [Heap.get,getFs,getF,hw,hf wb h.lw]) ?_ (fun _=>by simp [Heap.get,getFs,getF,hfc]) hfz (fun e he=>⟨?_,h.sg e he⟩)
 ·rcases List.mem_cons.1 hx with hx | hx
  ·have:=h.lw;omega
  ·obtain ⟨e,he,hx⟩:=List.mem_map.1 hx
   have:=h.lg e he;omega
 ·rw [← hbv]
  exact qok (idl _ h.lw) (fun _=>by simp [qay]) (h.sc _ idl)
 ·have nd:=h.nd
  rw [List.nodup_cons] at nd
  have e1:Nat.beq wb e.1=false:=qao fun x=>nd.1 (List.mem_map.2 ⟨e,he,x.symm⟩)
  have e2:Nat.beq c e.1=false:=qao (by have:=h.lg e he;omega)
  have:=qf2 (fs:=[g]) (b:=e.1) (k:=e.2) (by simpa using nd.2) (by simpa using he)
  simp only [getFs] at this
  simp only [Heap.get,getFs,getF,e1,e2,hf e.1 (h.lg e he)]
  exact this
theorem c75 {T:List (Entry Tryz.prog)} (hE:qai 144 T=some e144.g) {m wb:Nat} {ty:TypeId} {a:AV} {b:Bs} {cs:List AV} {g:List (Nat × Blk)} (h:Wok m wb b cs g) (ha:a=.nilP∨a=.ptr wb 0)
  (hl:liesAt Tryz.prog Tryz.prog.depth ty ((cs.length+1+1) / Tryz.prog.cellsOf ty) 0 88 1=true) (d:UInt8) (hs:b.out.length+1≤1000000000) :
  CallAt (ctx T) 75 [.ptr wb 0,.int .u8 d.toNat] ⟨m,[WF wb ty a b cs g]⟩ .nilI ⟨m+1,[WF wb ty (.ptr wb 0) (upd m b [d]) cs g]⟩:=by
 have hcc:=(c116 (T:=T) hE h ha hl).perm (H2:=⟨m,[[],WF wb ty a b cs g]⟩) (H2':=⟨m+1,[[],WF wb ty (.ptr wb 0) b cs g]⟩) rfl rfl (by simp [Heap.ents]) (by simp [Heap.ents])
 have happ:=app_byte (n:=m+2) (t:=m+1) (ty:=ty) (a:=.ptr wb 0) h d (by omega) hs
 have hO:∀ n,Heap.get ⟨n,[[],WF wb ty (.ptr wb 0) b cs g]⟩ wb=some (.obj ty (.ptr wb 0::bV b::cs)):=fun n=>by simp [Heap.get,getFs,getF,qmg]
 have hbw:Nat.beq (m+2) wb=false:=qao (by have:=h.lw;omega)
 have hbw1:Nat.beq (m+1) wb=false:=qao (by have:=h.lw;omega)
 have pr:=prom2 (wb:=wb) (c:=m+2) (k:=.buf 5 (if b.out=[] then 0 else b.out.length) (qag (b.out++[d]))) (x:=(m+2,.buf 5 (if b.out=[] then 0 else b.out.length) (qag (b.out++[d])))) (f1:=[(m+1,.cells [.int .u8 d.toNat])]) (f2:=(wb,.obj ty (.ptr wb 0::bV b::cs))::g) (kb:=.obj ty (.ptr wb 0::bV b::cs))
  (by simp [getF,hbw,hbw1]) (by simp [getF]) (by simp [getF]) (qla _ _ _)
 refine qa2 (fn:=Tryz.f75) (s0:=⟨[0,1,4],[.ptr wb 0,.int .u8 d.toNat,.undef],[],17,⟨m,[]::[WF wb ty a b cs g]⟩⟩) Tryz.func75 rfl rfl rfl ?_
 repeat apply wq
 refine qa0 qa1 ?_
 simp [zS]
 repeat apply wq
 refine qa0 (qbc [⟨116,_,_,_,_,hcc⟩]) ?_
 simp [zS,qce]
 repeat apply wq
 refine qa0 qa1 ?_
 simp [zS,qmg,happ,hbw,hbw1,pr,killF]
 repeat apply wq
 refine qa0 qa1 ?_
 simp [zS]
 refine qa8 ?_
 simp [qad,Tryz.f75,oneOr]
 refine ⟨(m+2,m)::idn m,[],by simp [qar,qah],?_⟩
 have hne:b.out++[d]≠[]:=by simp
 have q:Nat.beq (m+1) (m+2)=false:=qao (by omega)
 have:=fit_newF (f:=[(m+1,.cells [.int .u8 d.toNat])]) (n:=m+2+1) (ty:=ty) (c:=m+2) (out:=b.out++[d]) (fz:=if b.out=[] then 0 else b.out.length) h (by omega) hne (by split <;> simp)
  (fun i hi=>by have:Nat.beq (m+1) i=false:=qao (by omega);simp [getF,this]) (by simp [getF,q])
 have hl:(b.out++[d]).length=b.out.length+1:=by simp
 rw [hl] at this
 simpa [upd] using this
end Go.Proofs.YtocnpnnplllneaaGreatDoor
namespace Go.Proofs.YtocnpnnplllneaaGreatDoor
set_option linter.unusedSimpArgs false
set_option linter.unusedVariables false
open Go Go.RowKit
set_option maxRecDepth 100000
set_option maxHeartbeats 1000000
theorem liesZ:liesAt Tryz.prog Tryz.prog.depth 88 ((([]:List AV).length+1+1) / Tryz.prog.cellsOf 88) 0 88 1=true:=by
 show liesAt Tryz.prog Tryz.prog.depth 88 (2 / Tryz.prog.cellsOf 88) 0 88 1=true
 decide +kernel
abbrev WZ (a:AV) (b:Bs):List (Nat × Blk):=WF 0 88 a b [] []
def aZ (z:Bool):AV:=if z=true then .nilP else .ptr 0 0
def HZ (z:Bool) (out:Str):Heap:=⟨2,[WZ (aZ z) ⟨1,out⟩]⟩
theorem okZ {m k:Nat} (hk:0 < k) (hm:k < m) (out:Str):Wok m 0 ⟨k,out⟩ [] []:=⟨by omega,by simp,by simp,fun _=>⟨by simp;omega,hm⟩,by simp,fun _ _=>by simp [qb1]⟩
theorem fitZ {n k:Nat} {out:Str} (hk:0 < k) (hne:out≠[]):FitH 0 [(0,0),(k,1)] [] ⟨n,[WZ (.ptr 0 0) ⟨k,out⟩]⟩ (HZ false out) where
 nd1:=by simp;omega
 nd2:=by simp
 nd3:=by simp [HZ,aZ,Heap.ents,WF,zdl (b:=⟨1,out⟩) hne]
 lt:=fun x hx=>by
  simp at hx
  rcases hx with rfl | rfl <;> simp [HZ]
 idn:=fun x hx h=>absurd h (Nat.not_lt_zero _)
 num:=Nat.zero_le _
 src:=fun e he=>by
  have he:e=(0,.obj 88 (.ptr 0 0::bV ⟨1,out⟩::[]))∨e=(1,.buf 5 out.length (qag out)):=by
   simpa [HZ,aZ,Heap.ents,WF,zdl (b:=⟨1,out⟩) hne] using he
  have w:=okZ (m:=k+1) hk (by omega) out
  rcases he with rfl | rfl
  ·refine ⟨0,.obj 88 (.ptr 0 0::bV ⟨k,out⟩::[]),by simp,by simp [Heap.get,getFs,qmg],?_⟩
   refine qok (by simp [qay]) (fun _=>?_) (by simp [qb1])
   have:¬ (0:Nat)=k:=by omega
   simp [qay,this]
  ·refine ⟨k,.buf 5 out.length (qag out),by simp,?_,rfl,Nat.le_refl _,by rw [qcl];exact Nat.le_refl _,qaj (qlp _)⟩
   have:=WF_b (ty:=88) (a:=.ptr 0 0) w hne
   simp only [Heap.get,getFs]
   rw [this]
 frz:=fun x h=>by cases h
theorem fitZ0 {n:Nat} {H:Heap} (h:H.get 0=some (.obj 88 [.nilP,.nilS])):FitH 0 [(0,0)] [] H (HZ true []) where
 nd1:=by simp
 nd2:=by simp
 nd3:=by simp [HZ,aZ,Heap.ents,WF,bF]
 lt:=by simp [HZ]
 idn:=fun x hx h=>absurd h (Nat.not_lt_zero _)
 num:=Nat.zero_le _
 src:=fun e he=>by
  simp [HZ,aZ,Heap.ents,WF,bF,bV] at he
  subst he
  exact ⟨0,_,by simp,h,rfl,by simp [qb1,qar]⟩
 frz:=fun x h=>by cases h
section
variable {T:List (Entry Tryz.prog)} {z:Bool} {out:Str}
theorem aZ_or (z:Bool):aZ z=.nilP∨aZ z=.ptr 0 0:=by cases z <;> simp [aZ]
theorem wsZ (hE:qai 144 T=some e144.g) (s:Str) (hs:out.length+s.length≤1000000000) (hne:s≠[]):CallAt (ctx T) 74 [.ptr 0 0,.str s] (HZ z out) (.tup [.int .i64 (s.length:Nat),.nilI]) ⟨3,[WZ (.ptr 0 0) ⟨2,out++s⟩]⟩:=by
 have h:=c74 (T:=T) (ty:=88) hE (okZ (m:=2) (k:=1) (by omega) (by omega) out) (aZ_or z) liesZ s hs
 cases s with
 | nil=>exact absurd rfl hne
 | cons c r=>exact h
theorem wpZ (hE:qai 144 T=some e144.g) (s:Str) (hs:out.length+s.length≤1000000000) (hne:s≠[]):CallAt (ctx T) 76 [.ptr 0 0,aB s] (HZ z out) (.tup [.int .i64 (s.length:Nat),.nilI]) ⟨3,[WZ (.ptr 0 0) ⟨2,out++s⟩]⟩:=by
 have h:=c76 (T:=T) (ty:=88) hE (okZ (m:=2) (k:=1) (by omega) (by omega) out) (aZ_or z) liesZ s hs
 cases s with
 | nil=>exact absurd rfl hne
 | cons c r=>exact h
theorem wbZ (hE:qai 144 T=some e144.g) (d:UInt8) (hs:out.length+1≤1000000000):CallAt (ctx T) 75 [.ptr 0 0,.int .u8 d.toNat] (HZ z out) .nilI ⟨3,[WZ (.ptr 0 0) ⟨2,out++[d]⟩]⟩:=
 c75 (T:=T) (ty:=88) hE (okZ (m:=2) (k:=1) (by omega) (by omega) out) (aZ_or z) liesZ d hs
end
theorem zcg (H:Heap):FitH 0 [] [] H ⟨0,[]⟩ where
 nd1:=by simp
 nd2:=by simp
 nd3:=by simp [Heap.ents]
 lt:=by simp
 idn:=by simp
 num:=by simp
 src:=by intro e he;simp [Heap.ents] at he
 frz:=fun x h=>by cases h
theorem strZ {T:List (Entry Tryz.prog)}:CallAt (ctx T) 77 [.ptr 0 0] (HZ true []) (.str []) ⟨3,[[(0,.obj 88 [.nilP,.nilS])]]⟩:=by
 refine qa2 (fn:=Tryz.f77) (s0:=⟨[0,2],[.ptr 0 0,.undef],[],14,⟨2,[]::[[(0,.obj 88 [.nilP,.nilS])]]⟩⟩) Tryz.func77 rfl rfl rfl ?_
 repeat apply wq
 refine qa0 qa1 ?_
 simp [zS]
 repeat apply wq
 refine qdd mixed qa1 (by decide +kernel) (by decide +kernel) ?_
 simp [zS,qf3,qd8,qcx,qeu,sd0,us0]
 refine qa8 ?_
 simp [qad,Tryz.f77,oneOr]
 refine ⟨[(0,0)],[],qba rfl,?_⟩
 exact {
  nd1:=by simp
  nd2:=by simp
  nd3:=by simp [Heap.ents]
  lt:=by simp
  idn:=by simp
  num:=by simp [HZ]
  src:=by
   intro e he
   simp [Heap.ents] at he
   subst he
   exact ⟨0,.obj 88 [.nilP,.nilS],by simp,by simp [Heap.get,getFs,getF],rfl,by simp [qb1,qar]⟩
  frz:=fun x h=>by cases h }
theorem slB1 {H:Heap} {s:Str} {j:Nat} (hj:j≤s.length):qdu Tryz.prog H 74 (aB s) none (some (.int .i64 (j:Int))) none=some (aB (s.take j)):=by
 have h:=slB2 (H:=H) (s:=s) (i:=0) (j:=j) (Nat.zero_le _) hj
 rw [List.drop_zero] at h
 rw [← h]
 rfl
theorem oneR4 (s:Str):(qed s).1≤4:=by
 rw [qt1]
 unfold qs4
 (repeat' split) <;> simp
theorem c52 {T:List (Entry Tryz.prog)} (hE:qai 144 T=some e144.g) (hD:qai 72 T=some e72.g) (hC:qai 73 T=some e73.g) (s:Str) (hl:s.length≤1000000) :
  CallAt (ctx T) 52 [aB s] ⟨0,[]⟩ (.str (qhi s)) ⟨0,[]⟩:=by
 refine qa2 (fn:=Tryz.f52) (s0:=⟨[0,2,3,4,5],[aB s,.undef,.undef,.undef,.undef],[],49,⟨0,[[]]⟩⟩) Tryz.func52 rfl rfl rfl ?_
 repeat apply wq
 refine qa0 qa1 ?_
 simp [zS]
 repeat apply wq
 refine qa0 qa1 ?_
 simp [zS]
 try refine qb0 ?_
 refine qab (qb7 (fun x:Bool × Str × Str=>(⟨[0,2,3,4,5],[aB x.2.2,.str [],.ptr 0 0,.undef,.undef],[],49,HZ x.1 x.2.1⟩ : St))
  (fun x=>(x.1=true→x.2.1=[])∧x.2.2.length≤s.length∧x.2.1.length+3 * x.2.2.length≤3 * s.length∧x.2.1++qhi x.2.2=qhi s) (fun x=>x.2.2.length) [(0,0)] [] (true,[],s) ⟨by simp,Nat.le_refl _,by simp,rfl⟩
  ⟨rfl,rfl,rfl,by simp [qb1,qar,qay,qah,qac,aB],fitZ0 (n:=0) rfl⟩ ?_)
 rintro ⟨z,out,rest⟩ ⟨hz2,hr,ho,hx⟩ B hB
 simp only at hz2 hr ho hx ⊢
 by_cases h:rest=[]
 ·subst h
  repeat apply wq
  refine qa0 qa1 ?_
  simp [zS,qz9]
  refine qam rfl ?_
  refine qaw ?_
  simp
  have hd:qhi s=out:=by rw [← hx];simp [qhi,qll]
  cases z with
  | false=>
   have hS:CallAt (ctx T) 77 [.ptr 0 0] (HZ false out) (.str out) ⟨3,[WZ (.ptr 0 0) ⟨1,out⟩]⟩:=c77 (T:=T) (ty:=88) (okZ (m:=2) (k:=1) (by omega) (by omega) out) (by simp at ho ⊢;omega)
   repeat apply wq
   refine qa0 (qbc [⟨77,_,_,_,_,hS⟩]) ?_
   simp [zS,qce]
   refine qa8 ?_
   simp [qad,Tryz.f52,oneOr]
   exact ⟨[],[],by rw [hd];exact qba rfl,zcg _⟩
  | true=>
   have ho':out=[]:=hz2 rfl
   subst ho'
   have hS:=strZ (T:=T)
   repeat apply wq
   refine qa0 (qbc [⟨77,_,_,_,_,hS⟩]) ?_
   simp [zS,qce]
   refine qa8 ?_
   simp [qad,Tryz.f52,oneOr]
   exact ⟨[],[],by rw [hd];exact qba rfl,zcg _⟩
 ·have hpos:=List.length_pos_iff.2 h
  have hc:(0:Int) < (rest.length:Int):=by omega
  obtain ⟨r,n,hrn,hcase⟩:=qyu hpos
  have kd:=fun H=>k72 hD h (by omega) H
  simp only [hrn] at kd
  have kc:=fun H=>k73 hC hpos (by omega) H
  obtain ⟨o1,o2⟩:=qnv hpos
  rw [qoq h] at hx
  repeat apply wq
  refine qa0 qa1 ?_
  simp [zS,qz9,hc,hpos]
  refine qan rfl ?_
  refine qa9 ?_
  simp
  refine qab ?_
  have inv:∀ (w:Str) (k:Nat),qc1 rest=(w,k)→1≤k→k≤rest.length→w≠[]→w.length≤3 * k→(rest.drop k).length < rest.length∧out++w≠[]∧(rest.drop k).length≤s.length∧(out++w).length+3 * (rest.drop k).length≤3 * s.length∧(out++w)++qhi (rest.drop k)=qhi s:=by
   intro w k hs k1 k2 hw hwl
   rw [hs] at hx
   simp only [List.length_drop,List.length_append]
   refine ⟨by omega,by simp [hw],by omega,by omega,by rw [← hx];simp⟩
  have hol:out.length+3≤1000000000:=by omega
  repeat apply wq
  refine qa0 qa1 ?_
  simp [zS,kd]
  try refine qb0 ?_
  refine qab ?_
  rcases hcase with ⟨g,rfl,rfl⟩ | ⟨g,g1,g2,g3,g4⟩
  ·repeat apply wq
   refine qa0 qa1 ?_
   simp [zS]
   refine qan rfl ?_
   repeat apply wq
   refine qa0 qa1 ?_
   simp [zS,kc]
   have hw:=wsZ hE (z:=z) (out:=out) enc3 (by simp [enc3];omega) (by decide)
   have e3:enc3=[239,191,189]:=rfl
   rw [e3] at hw
   try refine qb0 ?_
   refine qa0 (qbc [⟨74,_,_,_,_,hw⟩]) ?_
   simp [zS,qce]
   refine qa0 qa1 ?_
   simp [zS,slB o2]
   obtain ⟨v1,v2,v3,v4,v5⟩:=inv _ _ (by unfold qc1;rw [if_pos (.inl g)]) o1 o2 (by decide) (by have:enc3.length=3:=rfl;omega)
   exact hB _ (false,_,rest.drop (qed rest).1) v1 ⟨fun e=>(by cases e),v3,v4,v5⟩ ⟨[(0,0),(2,1)],[],rfl,rfl,rfl,by simp [qb1,qar,qay,qah,qac,aB],fitZ (k:=2) (by omega) v2⟩
  ·subst g1
   have n65:¬ ((r:Int)=65533∧(((qed rest).1:Nat):Int)=1):=by omega
   by_cases z0:cN rest 0=0
   ·have hr0:=g3.2 z0
    subst hr0
    repeat apply wq
    refine qa0 qa1 ?_
    simp [zS]
    refine qam rfl ?_
    repeat apply wq
    refine qa0 qa1 ?_
    simp [zS]
    refine qan rfl ?_
    have hw:=wsZ hE (z:=z) (out:=out) enc3 (by simp [enc3];omega) (by decide)
    have e3:enc3=[239,191,189]:=rfl
    rw [e3] at hw
    try refine qb0 ?_
    refine qa0 (qbc [⟨74,_,_,_,_,hw⟩]) ?_
    simp [zS,qce]
    refine qa0 qa1 ?_
    simp [zS,slB o2]
    obtain ⟨v1,v2,v3,v4,v5⟩:=inv _ _ (by unfold qc1;rw [if_pos (.inr z0)]) o1 o2 (by decide) (by have:enc3.length=3:=rfl;omega)
    exact hB _ (false,_,rest.drop (qed rest).1) v1 ⟨fun e=>(by cases e),v3,v4,v5⟩ ⟨[(0,0),(2,1)],[],rfl,rfl,rfl,by simp [qb1,qar,qay,qah,qac,aB],fitZ (k:=2) (by omega) v2⟩
   ·have hr0:¬ (r:Int)=0:=fun e=>z0 (g3.1 (by omega))
    have hr0':¬ r=0:=fun e=>z0 (g3.1 e)
    by_cases z13:cN rest 0=13
    ·have hr13:=g4.2 z13
     subst hr13
     repeat apply wq
     refine qa0 qa1 ?_
     simp [zS]
     refine qam rfl ?_
     repeat apply wq
     refine qa0 qa1 ?_
     simp [zS]
     refine qam rfl ?_
     repeat apply wq
     refine qa0 qa1 ?_
     simp [zS]
     refine qan rfl ?_
     have hw:=wbZ hE (z:=z) (out:=out) 10 (by omega)
     have e10:((10:UInt8).toNat:Int)=10:=rfl
     rw [e10] at hw
     try refine qb0 ?_
     refine qa0 (qbc [⟨75,_,_,_,_,hw⟩]) ?_
     simp [zS,qce]
     by_cases l1:1 < rest.length
     ·have l1':(1:Int) < (rest.length:Int):=by omega
      have ha:=atB (s:=rest) (i:=1) l1
      rw [qqg l1] at ha
      simp only [Int.cast_ofNat_Int,Int.natCast_one] at ha
      by_cases b1:cN rest 1=10
      ·rw [b1] at ha
       repeat apply wq
       refine qa0 qa1 ?_
       simp [zS,qz9,l1,l1',ha]
       refine qan rfl ?_
       refine qa0 qa1 ?_
       simp [zS]
       have sl2:∀ H,qdu Tryz.prog H 74 (aB rest) (some (.int .i64 2)) none none=some (aB (rest.drop 2)):=fun H=>slB (H:=H) (s:=rest) (i:=2) (by omega)
       refine qa0 qa1 ?_
       simp [zS,sl2]
       obtain ⟨v1,v2,v3,v4,v5⟩:=inv _ _ (by unfold qc1;rw [if_neg (by rw [g];simp [z0]),if_pos z13,if_pos ⟨l1,b1⟩]) (by omega) (by omega) (by decide) (by simp)
       exact hB _ (false,_,rest.drop 2) v1 ⟨fun e=>(by cases e),v3,v4,v5⟩ ⟨[(0,0),(2,1)],[],rfl,rfl,rfl,by simp [qb1,qar,qay,qah,qac,aB],fitZ (k:=2) (by omega) v2⟩
      ·have b1':¬ (cN rest 1:Int)=10:=by omega
       repeat apply wq
       refine qa0 qa1 ?_
       simp [zS,qz9,l1,l1',ha,b1,b1']
       refine qam rfl ?_
       refine qa9 ?_
       simp
       refine qa0 qa1 ?_
       simp [zS,slB o2]
       obtain ⟨v1,v2,v3,v4,v5⟩:=inv _ _ (by unfold qc1;rw [if_neg (by rw [g];simp [z0]),if_pos z13,if_neg (fun e=>b1 e.2)]) o1 o2 (by decide) (by simp only [List.length_singleton];omega)
       exact hB _ (false,_,rest.drop (qed rest).1) v1 ⟨fun e=>(by cases e),v3,v4,v5⟩ ⟨[(0,0),(2,1)],[],rfl,rfl,rfl,by simp [qb1,qar,qay,qah,qac,aB],fitZ (k:=2) (by omega) v2⟩
     ·have l1':¬ (1:Int) < (rest.length:Int):=by omega
      repeat apply wq
      refine qa0 qa1 ?_
      simp [zS,qz9,l1,l1']
      refine qam rfl ?_
      refine qa9 ?_
      simp
      refine qa0 qa1 ?_
      simp [zS,slB o2]
      obtain ⟨v1,v2,v3,v4,v5⟩:=inv _ _ (by unfold qc1;rw [if_neg (by rw [g];simp [z0]),if_pos z13,if_neg (fun e=>l1 e.1)]) o1 o2 (by decide) (by simp only [List.length_singleton];omega)
      exact hB _ (false,_,rest.drop (qed rest).1) v1 ⟨fun e=>(by cases e),v3,v4,v5⟩ ⟨[(0,0),(2,1)],[],rfl,rfl,rfl,by simp [qb1,qar,qay,qah,qac,aB],fitZ (k:=2) (by omega) v2⟩
    ·have hr13:¬ (r:Int)=13:=fun e=>z13 (g4.1 (by omega))
     have hr13':¬ r=13:=fun e=>z13 (g4.1 e)
     have hst:qc1 rest=(rest.take (qed rest).1,(qed rest).1):=by unfold qc1;rw [if_neg (by rw [g];simp [z0]),if_neg z13]
     have hcond:(if (r:Int)=65533 then decide ((((qed rest).1:Nat):Int)=1) else false)=false:=by
      split
      ·rename_i e
       exact decide_eq_false fun e2=>n65 ⟨e,e2⟩
      ·rfl
     have hnt:rest.take (qed rest).1≠[]:=fun e=>by
      have:=congrArg List.length e
      rw [List.length_take,List.length_nil] at this
      omega
     clear hcond
     by_cases r5:r=65533
     ·subst r5
      have k1:¬ (((qed rest).1:Nat):Int)=1:=fun e=>n65 ⟨rfl,e⟩
      have k1':¬ (qed rest).1=1:=fun e=>k1 (by omega)
      repeat apply wq
      refine qa0 qa1 ?_
      simp [zS,k1,k1']
      refine qam rfl ?_
      repeat apply wq
      refine qa0 qa1 ?_
      simp [zS]
      refine qam rfl ?_
      repeat apply wq
      refine qa0 qa1 ?_
      simp [zS]
      refine qam rfl ?_
      have hw:=wpZ hE (z:=z) (out:=out) (rest.take (qed rest).1) (by have:=oneR4 rest;simp;omega) hnt
      refine qa0 (qbc [⟨76,_,_,_,_,hw⟩]) ?_
      simp [zS,qce,slB1 o2]
      refine qa0 qa1 ?_
      simp [zS,slB o2]
      obtain ⟨v1,v2,v3,v4,v5⟩:=inv _ _ hst o1 o2 hnt (by rw [List.length_take];omega)
      exact hB _ (false,_,rest.drop (qed rest).1) v1 ⟨fun e=>(by cases e),v3,v4,v5⟩ ⟨[(0,0),(2,1)],[],rfl,rfl,rfl,by simp [qb1,qar,qay,qah,qac,aB],fitZ (k:=2) (by omega) v2⟩
     ·have r5':¬ (r:Int)=65533:=by omega
      repeat apply wq
      refine qa0 qa1 ?_
      simp [zS,r5,r5']
      refine qam rfl ?_
      repeat apply wq
      refine qa0 qa1 ?_
      simp [zS,hr0,hr0']
      refine qam rfl ?_
      repeat apply wq
      refine qa0 qa1 ?_
      simp [zS,hr13,hr13']
      refine qam rfl ?_
      have hw:=wpZ hE (z:=z) (out:=out) (rest.take (qed rest).1) (by have:=oneR4 rest;simp;omega) hnt
      refine qa0 (qbc [⟨76,_,_,_,_,hw⟩]) ?_
      simp [zS,qce,slB1 o2]
      refine qa0 qa1 ?_
      simp [zS,slB o2]
      obtain ⟨v1,v2,v3,v4,v5⟩:=inv _ _ hst o1 o2 hnt (by rw [List.length_take];omega)
      exact hB _ (false,_,rest.drop (qed rest).1) v1 ⟨fun e=>(by cases e),v3,v4,v5⟩ ⟨[(0,0),(2,1)],[],rfl,rfl,rfl,by simp [qb1,qar,qay,qah,qac,aB],fitZ (k:=2) (by omega) v2⟩
noncomputable def e52:Entry Tryz.prog:=mkE 52 [[1]] (fun x:Str=>[aB x]) (fun x=>x.length≤1000000) (fun x=>.str (qhi x)) fun x h=>c52 (T:=[e144,e72,e73]) rfl rfl rfl x h
theorem k52 {T:List (Entry Tryz.prog)} (hT:qai 52 T=some e52.g) {s:Str} (hl:s.length≤1000000) {cap:Cap} {b:Nat} (H:Heap) (hb:H.get b=some (.cells (qag s))):qbb (ctx T) (.fn 52) [.slc b 0 s.length cap] H=some (.str (qhi s),H):=by
 refine qal hT zbo s hl rfl ?_
 have:=qsa (r:=[]) (cap:=cap) (el_bytes s) (by rw [qq4];exact hb)
 rw [byte_len] at this
 simp [this,aB]
end Go.Proofs.YtocnpnnplllneaaGreatDoor
namespace Go.Proofs.YtocnpnnplllneaaGreatDoor
set_option linter.unusedSimpArgs false
set_option linter.unusedVariables false
open Go Go.RowKit
set_option maxRecDepth 100000
theorem c51o {T:List (Entry Tryz.prog)} (L:List At1) (hl:L.length≤1000):CallAt (ctx T) 51 [qak L] ⟨0,[]⟩ (qdk 0 2 (L.map qcg)) ⟨1,[qes 0 (L.map qcg)]⟩:=by
 have happ:=qs0 (P:=Tryz.prog) (elem:=71) (b:=0) (m:=1) (es:=L.map qcg) (g:=[]) (fs:=[]) szT71 byT71 zeT71 rfl (by omega) (by omega) (qfo _) (qji _) (by simp;omega)
 cases L with
 | nil=>
  refine qa2 (fn:=Tryz.f51) (s0:=⟨[0,2],[.fslc 2 [],.undef],[],8,⟨0,[[]]⟩⟩) Tryz.func51 rfl rfl rfl ?_
  repeat apply wq
  refine qa0 qa1 ?_
  simp [zS]
  refine qn1 (pre:=[]) ?_ ?_
  ·repeat apply wq
   refine qa0 qa1 ?_
   simp [zS]
   refine qan rfl ?_
   repeat apply wq
   refine qa0 qa1 ?_
   simp [zS]
   refine qa8 ?_
   simp [qad,Tryz.f51,oneOr]
   exact qic (.inl rfl)
  ·repeat apply wq
   refine qa0 qa1 ?_
   simp [zS]
   refine qam rfl ?_
   refine qa9 ?_
   simp
   have happ:qbz Tryz.prog ⟨1,[[(0,.cells [])]]⟩ 71 (.slc 0 0 0 (.ex 0)) .eslc=some (.slc 0 0 0 (.ex 0),⟨1,[[(0,.cells [])]]⟩):=rfl
   repeat apply wq
   refine qa0 qa1 ?_
   simp [zS,happ]
   refine qa8 ?_
   simp [qad,Tryz.f51,oneOr]
   exact qic (.inr (.inr ⟨_,rfl⟩))
 | cons x r=>
  have e1:litV 0 1 2 ((x::r).map qcg)=.slc 1 0 (r.length+1) (.rest 2):=by simp [litV]
  have e2:qu8 ⟨1,[[(0,.cells [])]]⟩ ((x::r).map qcg)=⟨2,[[(1,.cells (qa4 ((x::r).map qcg))),(0,.cells [])]]⟩:=rfl
  rw [e1,e2] at happ
  refine qa2 (fn:=Tryz.f51) (s0:=⟨[0,2],[qak (x::r),.undef],[],8,⟨0,[[]]⟩⟩) Tryz.func51 rfl rfl rfl ?_
  repeat apply wq
  refine qa0 qa1 ?_
  simp [zS,qak]
  repeat apply wq
  refine qa0 qa1 ?_
  simp [zS,qak]
  refine qam rfl ?_
  refine qa9 ?_
  simp
  simp only [List.map_cons] at happ
  repeat apply wq
  refine qa0 qa1 ?_
  simp [zS,happ]
  refine qa8 ?_
  simp [qad,Tryz.f51,oneOr]
  exact qmx (b:=1) (es:=(x::r).map qcg) (qfo _) (by simp) (by simp) (by simp [Heap.get,getFs,getF])
noncomputable def e51o:Entry Tryz.prog:=mkOwn 51 [[2]] (fun L:List At1=>[qak L]) (fun L=>L.length≤1000) 2 (fun L=>L.map qcg) qfo fun L hl=>c51o (T:=[]) L hl
theorem k51o {T:List (Entry Tryz.prog)} (hT:qai 51 T=some e51o.g) {L:List At1} (hl:L.length≤1000) (H:Heap):qbb (ctx T) (.fn 51) [qak L] H=some (qdk H.n 2 (L.map qcg),qu8 H (L.map qcg)):=
 qwp hT (fun x y h=>by simp at h;exact qf1 h) L hl (by simp [qac]) (by simp [qew,qau]) H
theorem c90 {T:List (Entry Tryz.prog)} (hP:qai 130 T=some e130.g) (hC:qai 51 T=some e51o.g) (L:List At1) (a:At1) (hl:L.length≤900):CallAt (ctx T) 90 [qak L,qcg a] ⟨0,[]⟩ (qak (qu9 L a)) ⟨0,[]⟩:=by
 refine CallAt.froze (es:=(qu9 L a).map qcg) (qfo _) ?_
 refine qa2 (fn:=Tryz.f90) (s0:=⟨[0,1,3,4,5],[qak L,qcg a,.undef,.undef,.undef],[],18,⟨0,[[]]⟩⟩) Tryz.func90 rfl rfl rfl ?_
 repeat apply wq
 refine qa0 qa1 ?_
 simp [zS,qcg]
 repeat apply wq
 refine qa0 qa1 ?_
 simp [zS,k51o hC (show L.length≤1000 by omega)]
 repeat apply wq
 refine .fit (s':=(⟨[0,1,3,4,5],[qak L,.undef,.ptr 0 0,.undef,qdk 1 2 (L.map qcg)],[],18,⟨2,[qes 1 (L.map qcg)++[(0,Blk.cells [.str a.1,.str a.2])]]⟩⟩ : St)) [(1,1),(0,0)] [] ⟨rfl,rfl,rfl,?_,.canon (b:=1) (g:=[(0,.cells [.str a.1,.str a.2])]) (qfo L) (by simp [qh6,qb1,qar,qah]) (by simp)⟩ ?_
 ·simp [qb1,qar,qay,fitV_own]
 ·have hp:=k130 hP (L:=L) a.1 (show L.length≤1000 by omega) (H:=⟨2,[qes 1 (L.map qcg)++[(0,.cells [.str a.1,.str a.2])]]⟩) (qk5 _ L)
  have hg:getF 0 (qes 1 (L.map qcg)++[(0,.cells [.str a.1,.str a.2])])=some (.cells [.str a.1,.str a.2]):=by cases L <;> rfl
  refine qa0 qa1 ?_
  simp [zS,hp,hg]
  refine qb9 rfl (fun h=>?_) fun h=>?_
  ·simp at h
   have happ:=own_app1 (P:=Tryz.prog) (elem:=71) (b:=1) (t:=2) (m:=3) (es:=L.map qcg) (cs:=[.str a.1,.str a.2]) (g:=[(0,.cells [.str a.1,.str a.2])]) (fs:=[]) szT71 byT71 zeT71 rfl (by omega) (by omega) rfl rfl (qfo L) (by simp;omega) (by omega) (by simp) (by simp)
   refine qa0 qa1 ?_
   simp [zS,hg,happ]
   repeat apply wq
   refine qa0 qa1 ?_
   simp [zS]
   refine qa8 ?_
   simp [qad,Tryz.f90,oneOr]
   have e:qu9 L a=L++[a]:=if_pos h
   have e2:(qu9 L a).map qcg=L.map qcg++[qcg a]:=by rw [e];simp
   exact qmx (b:=3) (es:=(qu9 L a).map qcg) (qfo _) (by rw [e2];simp) (by rw [e2];simp) (by rw [e2,qbm];simp [Heap.get,getFs,getF,qa4,Heap.new,pushF,qcg])
  ·simp at h
   refine qa9 ?_
   simp
   repeat apply wq
   refine qa0 qa1 ?_
   simp [zS]
   refine qa8 ?_
   simp [qad,Tryz.f90,oneOr]
   have e:qu9 L a=L:=if_neg (by omega)
   rw [e]
   cases L with
   | nil=>exact qic (.inr (.inl rfl))
   | cons b r=>exact qmx (b:=1) (es:=(b::r).map qcg) (qfo _) (by simp) rfl (by simp [Heap.get,getFs,getF,qes])
noncomputable def e90:Entry Tryz.prog:=mkE 90 [[2],[0,0]] (fun x:List At1 × At1=>[qak x.1,qcg x.2]) (fun x=>x.1.length≤900) (fun x=>qak (qu9 x.1 x.2)) fun x hx=>c90 (T:=[e130,e51o]) rfl rfl x.1 x.2 hx
end Go.Proofs.YtocnpnnplllneaaGreatDoor
namespace Go.Proofs.YtocnpnnplllneaaGreatDoor
set_option linter.unusedSimpArgs false
set_option linter.unusedVariables false
open Go Go.RowKit
set_option maxRecDepth 100000
set_option maxHeartbeats 1000000
theorem step_len {s:Str} (h:0 < s.length):1≤(qc1 s).2∧(qc1 s).2≤s.length∧(qc1 s).1.length≤3 * (qc1 s).2:=by
 obtain ⟨o1,o2⟩:=qnv h
 unfold qc1
 split
 ·exact ⟨o1,o2,by have:enc3.length=3:=rfl;simp only;omega⟩
 ·split
  ·split
   ·rename_i hh;exact ⟨by simp only;omega,by simp only;omega,by simp⟩
   ·exact ⟨o1,o2,by simp only [List.length_singleton];omega⟩
  ·exact ⟨o1,o2,by simp only [List.length_take];omega⟩
theorem qkv:∀ (n:Nat) (s:Str),s.length≤n→(qhi s).length≤3 * s.length
 | 0,s,h=>by
  have:s=[]:=List.eq_nil_of_length_eq_zero (by omega)
  subst this;simp [qhi,qll]
 | n+1,s,h=>by
  by_cases hs:s=[]
  ·subst hs;simp [qhi,qll]
  ·obtain ⟨a,b,c⟩:=step_len (List.length_pos_iff.2 hs)
   have ih:=qkv n (s.drop (qc1 s).2) (by rw [List.length_drop];omega)
   rw [qoq hs,List.length_append]
   rw [List.length_drop] at ih
   omega
theorem convG {H:Heap} {s:Str} (h:s.length≤1000000):qgb Tryz.prog H 9 74 (.str s)=some (.slc H.n 0 s.length (.rest 1),H.new (.cells (qag s))):=by
 have:qck s.length 1=true:=by simp [qck];omega
 simp [qgb,this]
theorem k90 {T:List (Entry Tryz.prog)} (hT:qai 90 T=some e90.g) {L:List At1} {a:At1} (hl:L.length≤900) (H:Heap):qbb (ctx T) (.fn 90) [qak L,qcg a] H=some (qak (qu9 L a),H):=
 qdc hT (fun x y h=>by
  simp only [List.cons.injEq,and_true] at h
  exact Prod.ext (qf1 h.1) (qte h.2)) (L,a) hl (by simp [qac]) (by simp [qew,qau]) H
theorem qxk (L:List At1) (a:At1):(qu9 L a).length≤L.length+1:=by unfold qu9;split <;> simp
def qr3 (n:Nd) (a:At1):Nd:={ n with attrs:=[a] }
theorem fit_at {n:Nd} {a:At1} {H:Heap} (h4:H.get 4=some (.cells [.str a.1,.str a.2])) (h3:H.get 3=some (.cells [qb6 n.kind,qb6 n.space,.str n.name,.slc 4 0 1 (.ex 1),.str n.data,qb6 n.up,qbh n.kids])) (h1:H.get 1=some (.cells [.str a.1,.str a.2])) (h0:H.get 0=some (.cells n.cs)) :
  FitH 0 [(3,2),(1,1),(0,0)] [(4,[.str a.1,.str a.2])] H ⟨3,[[(2,.cells (qr3 n a).cs),(1,.cells [.str a.1,.str a.2]),(0,.cells n.cs)]]⟩ where
 nd1:=by simp
 nd2:=by simp
 nd3:=by simp [Heap.ents]
 lt:=by simp
 idn:=by simp
 num:=by simp
 src:=by
  intro e he
  simp [Heap.ents] at he
  rcases he with rfl | rfl | rfl
  ·refine ⟨3,_,by simp,h3,?_⟩
   simp only [qh6,qr3,Nd.cs,qb1]
   refine ⟨qba rfl,qba rfl,qba rfl,?_,qba rfl,qba rfl,qba (by simp),trivial⟩
   simp only [qak,qar]
   exact .inl ⟨_,rfl,rfl,rfl,rfl⟩
  ·exact ⟨1,_,by simp,h1,qaj rfl⟩
  ·exact ⟨0,_,by simp,h0,qaj (qh2 n)⟩
 frz:=fun y hy=>by
  simp at hy;subst hy
  exact ⟨_,h4,qaj rfl,rfl⟩
theorem zcc {n:Nd} {H:Heap} (h0:H.get 0=some (.cells n.cs)):FitH 0 [(0,0)] [] H ⟨1,[[(0,.cells n.cs)]]⟩ where
 nd1:=by simp
 nd2:=by simp
 nd3:=by simp [Heap.ents]
 lt:=by simp
 idn:=by simp
 num:=by simp
 src:=by
  intro e he
  simp [Heap.ents] at he
  subst he
  exact ⟨0,_,by simp,h0,qaj (qh2 n)⟩
 frz:=fun x h=>by cases h
def okM (n:Nd):Prop:=okN n∧n.attrs.length≤900∧∀ a,a∈n.attrs→a.2.length≤30000
theorem c57 {T:List (Entry Tryz.prog)} (hD:qai 52 T=some e52.g) (hS:qai 89 T=some e89.g) (hA:qai 90 T=some e90.g) (n:Nd) (hn:okM n) :
  CallAt (ctx T) 57 [qa7 n] ⟨0,[]⟩ (qak (qma n)) ⟨0,[]⟩:=by
 obtain ⟨hn,ha,hv⟩:=hn
 refine qa2 (fn:=Tryz.f57) (s0:=⟨[0,1,2,3,5,6,8,9,10],[qa7 n,.undef,.undef,.undef,.undef,.undef,.undef,.undef,.undef],[],30,⟨0,[[]]⟩⟩) Tryz.func57 rfl rfl rfl ?_
 repeat apply wq
 refine qa0 qa1 ?_
 simp [zS,qb5]
 repeat apply wq
 refine qa0 qa1 ?_
 simp [zS]
 repeat apply wq
 refine qa0 qa1 ?_
 simp [zS,qyh]
 try refine qb0 ?_
 refine qab (qb7 (fun x:Nat × List At1=>(⟨[0,1,2,3,5,6,8,9,10],[.undef,.ptr 0 0,.nilS,qak x.2,.undef,.undef,qak n.attrs,.int .i64 (n.attrs.length:Nat),.int .i64 (x.1:Int)],[],30,⟨1,[[(0,.cells n.cs)]]⟩⟩ : St))
  (fun x=>x.1≤n.attrs.length∧x.2.length≤x.1∧qmf n x.2 (n.attrs.drop x.1)=qma n) (fun x=>n.attrs.length - x.1) [(0,0)] [] (0,[]) ⟨Nat.zero_le _,Nat.le_refl _,rfl⟩
  ⟨rfl,rfl,rfl,by simp [qb1,qar,qay,qah,qac,qak],zcc rfl⟩ ?_)
 rintro ⟨i,L⟩ ⟨hi,hL,hx⟩ B hB
 simp only at hi hL hx ⊢
 by_cases h:i < n.attrs.length
 ·have hc:(i:Int) < (n.attrs.length:Int):=by omega
  have hat:=atA h
  have hmem:=List.getElem_mem h
  have hav:=hn.2.2.2 _ hmem
  have hvv:=hv _ hmem
  rw [List.drop_eq_getElem_cons h] at hx
  obtain ⟨d,hd⟩ : ∃ d,d=qhi n.attrs[i].2:=⟨_,rfl⟩
  have hdl:=qkv _ n.attrs[i].2 (Nat.le_refl _)
  rw [← hd] at hdl
  have kd:=fun (H:Heap) (b:Nat) (cap:Cap) (hb:H.get b=some (.cells (qag n.attrs[i].2)))=>k52 hD (s:=n.attrs[i].2) (cap:=cap) (b:=b) (by omega) H hb
  have cv:=fun H=>convG (H:=H) (s:=n.attrs[i].2) (by omega)
  rw [← hd] at kd
  have hone:okN (qr3 n (n.attrs[i].1,d)):=⟨hn.1,by simp [qr3],hn.2.2.1,fun a ha=>by
   simp [qr3] at ha;subst ha
   exact ⟨hav.1,by simp only;omega⟩⟩
  have ks:=fun H=>k89 hS (qr3 n (n.attrs[i].1,d)) hone H
  have kA:=fun H=>k90 hA (L:=L) (a:=(n.attrs[i].1,d)) (by omega) H
  have hac:=qbu (show i≤1000000000 by omega)
  have hx2:(if qkz (qr3 n (n.attrs[i].1,d))=true then qmf n (qu9 L (n.attrs[i].1,d)) (n.attrs.drop (i+1)) else qmf n L (n.attrs.drop (i+1)))=qma n:=by
   rw [← hx,qmf,← hd];rfl
  generalize qkz (qr3 n (n.attrs[i].1,d))=b1 at *
  generalize n.attrs[i]=a at *
  repeat apply wq
  refine qa0 qa1 ?_
  simp [zS,hc,h]
  repeat apply wq
  refine qan rfl ?_
  refine qa9 ?_
  simp
  repeat apply wq
  refine qab ?_
  repeat apply wq
  refine qa0 qa1 ?_
  simp [zS,hat]
  have kd0:=kd ⟨3,[[(2,.cells (qag a.2)),(1,.cells [.str a.1,.str a.2]),(0,.cells n.cs)]]⟩ 2 (.rest 1) rfl
  repeat apply wq
  refine qa0 qa1 ?_
  simp [zS,cv,kd0,qcu]
  repeat apply wq
  refine qa0 qa1 ?_
  simp [zS]
  have hlay:qge [.slc 4 0 1 (.ex 1)] 3 n.cs=some [qb6 n.kind,qb6 n.space,.str n.name,.slc 4 0 1 (.ex 1),.str n.data,qb6 n.up,qbh n.kids]:=rfl
  repeat apply wq
  refine qa0 qa1 ?_
  simp [zS,hlay,qcu]
  refine WpSr.fit [(3,2),(1,1),(0,0)] [(4,[.str a.1,.str d])] (s':=(⟨[0,1,2,3,5,6,8,9,10],[.undef,.ptr 0 0,.nilS,qak L,.ptr 1 0,.ptr 2 0,qak n.attrs,.int .i64 (n.attrs.length:Nat),.int .i64 (i:Int)],[],30,⟨3,[[(2,.cells (qr3 n (a.1,d)).cs),(1,.cells [.str a.1,.str d]),(0,.cells n.cs)]]⟩⟩ : St)) ⟨rfl,rfl,rfl,by simp [qb1,qar,qay,qah,qac,qak],fit_at (a:=(a.1,d)) rfl rfl rfl rfl⟩ ?_
  have hat1:AV.agg [.str a.1,.str d]=qcg (a.1,d):=rfl
  repeat apply wq
  refine qa0 qa1 ?_
  simp [zS,ks,qb5]
  cases b1 with
  | true=>
   refine qan rfl ?_
   refine qa0 qa1 ?_
   simp [zS,hat1,kA]
   refine qa0 qa1 ?_
   simp [zS,hac]
   exact hB _ (i+1,qu9 L (a.1,d)) (by simp only;omega) ⟨by simp only;omega,by have:=qxk L (a.1,d);simp only;omega,by simpa using hx2⟩ ⟨[(0,0)],[],rfl,rfl,rfl,by simp [qb1,qar,qay,qah,qac,qak],zcc rfl⟩
  | false=>
   refine qam rfl ?_
   refine qa9 ?_
   refine qa0 qa1 ?_
   simp [zS,hac]
   exact hB _ (i+1,L) (by simp only;omega) ⟨by simp only;omega,by simp only;omega,by simpa using hx2⟩ ⟨[(0,0)],[],rfl,rfl,rfl,by simp [qb1,qar,qay,qah,qac,qak],zcc rfl⟩
 ·have hc:¬ (i:Int) < (n.attrs.length:Int):=by omega
  repeat apply wq
  refine qa0 qa1 ?_
  simp [zS,hc,h]
  repeat apply wq
  refine qam rfl ?_
  refine qaw ?_
  simp
  repeat apply wq
  refine qa0 qa1 ?_
  simp [zS]
  have he:L=qma n:=by rw [← hx,List.drop_eq_nil_of_le (by omega)];rfl
  refine qa8 ?_
  simp [qad,Tryz.f57,oneOr]
  exact ⟨[],[],by rw [he];exact qba (by simp),zcg _⟩
theorem inj_57 (x y:Nd) (h:(fun z:Nd=>([qa7 z]:List AV)) x=(fun z:Nd=>([qa7 z]:List AV)) y):x=y:=by
 simp only [List.cons.injEq,and_true] at h
 exact qe0 h
noncomputable def e57:Entry Tryz.prog:=mkE 57 [[0,0,0,2,0,0,1]] (fun z:Nd=>[qa7 z]) (fun z=>(okM z)) (fun z=>qak (qma z)) fun z h=>c57 (T:=[e52,e89,e90]) rfl rfl rfl z h
theorem k57 {T:List (Entry Tryz.prog)} (hT:qai 57 T=some e57.g) (n:Nd) (h:okM n) (H:Heap):qbb (ctx T) (.fn 57) [qa7 n] H=some (qak (qma n),H):=
 qdc hT inj_57 (n) h (by simp [qac,qah,qau]) (by simp [qau]) H
noncomputable def e54:Entry Tryz.prog:=mkE 54 [[],[]] (fun x:Str=>[.str x,.str [10]]) (fun x=>x.length≤1000000000) (fun x=>.str (qhf x)) fun x h=>c54 (T:=[e78]) rfl x h
theorem k54 {T:List (Entry Tryz.prog)} (hT:qai 54 T=some e54.g) {s:Str} (hl:s.length≤1000000000) (H:Heap):qbb (ctx T) (.fn 54) [.str s,.str [10]] H=some (.str (qhf s),H):=
 qdc hT (fun x y h=>by simpa using h) s hl (by simp [qac,qah]) (by simp [qew,qau]) H
theorem qqs:∀ s:Str,(qhf s).length≤s.length
 | []=>Nat.le_refl _
 | c::r=>by
  unfold qhf
  have:=qqs r
  split
  ·simp only [List.length_cons];omega
  ·exact Nat.le_refl _
def putT (out:Tr) (up:Nat) (x:Str):Option Int→Tr
 | some k=>if (qa3 out k).kind=2 then qhd out k.toNat x else qgi out up ⟨2,0,[],[],x,0,[]⟩
 | none=>qgi out up ⟨2,0,[],[],x,0,[]⟩
theorem CallAt.nilD {C:Ctx} {f:FuncId} {args args':List AV} {m pb k sz:Nat} {pre post es:List AV} {g:List (Nat × Blk)} {v:AV} {H':Heap} (h:Eok m pb pre k sz es post g)
  (hc:CallAt C f args' ⟨m,[[],VE pb pre k sz es post g]⟩ v H') (hf:qb1 (idn m) [] args args'):CallAt C f args ⟨m,[[],VE pb pre k sz es post g]⟩ v H':=
 hc.drop (σ:=idn m) (Φ:=[]) (fun nd=>zce h (Nat.le_refl m) (Nat.le_refl m) fun _ _=>rfl) hf
theorem qs7 {C:Ctx} {n:Nat} {r:Option Nat} {c d:Code} {s:St} {Q:Out→St→Prop} (s0:St) (h1:WpSr C n r d s0 Q) (h2:(∀ s',(∃ σ Φ,Fit n σ Φ s' s0)→WpSr C n r d s' Q)→WpSr C n r c s (qaf (fun s=>WpSr C n r d s Q) Q)):WpSr C n r c s (qaf (fun s=>WpSr C n r d s Q) Q):=
 h2 fun _ ⟨σ,Φ,f⟩=>.fit σ Φ f h1
theorem chars_at {T:List (Entry Tryz.prog)} (hD:qai 52 T=some e52.g) (hO:qai 53 T=some e53.g) (hL:qai 54 T=some e54.g) (hC:qai 55 T=some e55.g)
  (hA:qai 51 T=some e51.g) (hP:qai 154 T=some e154.g) (hS:qai 124 T=some e124.g) (hH:qai 125 T=some e125.g) (hCl:qai 128 T=some e128.g)
  {v out:Tr} {o:Option (List Nd)} {up:Nat} {s:Str} (hs:s.length≤30000) (hu:up < out.length) (hn:out.length+1≤100000) (ok:UpOk out) (hda:∀ n,n∈out→n.data.length≤1000000000) (hp:okP (mL o)) (hk:∀ k,k∈(qa3 out up).kids→0≤k∧k < (out.length:Int)) :
  CallAt (ctx T) 36 [.ptr 0 0,.int .i64 (up:Int),.str s] ⟨3,[mR v 1 out 2 o]⟩ (.tup []) ⟨5,[mR v 3 (qgt (mL o) up s out) 4 o]⟩:=by
 have hne:out≠[]:=by intro e;subst e;simp at hu
 have cv:=fun H=>convG (H:=H) (s:=s) (by omega)
 have kd:=fun (n:Nat) (fs:List (List (Nat × Blk)))=>k52 hD (s:=s) (cap:=.rest 1) (b:=3) (by omega) ⟨n,[(3,.cells (qag s))]::fs⟩ (by simp [Heap.get,getFs,getF])
 have hdl:=qkv _ s (Nat.le_refl _)
 have kO:=fun H=>k53 hO (qa3 out up) H
 have kT:=fun H=>k54 hL (s:=qhi s) (by omega) H
 have hx:(qhr out up s).length≤900000:=by
  unfold qhr
  have:=qqs (qhi s)
  split <;> omega
 have kC:=fun (n:Nat) (f:List (Nat × Blk)) (h:getF 2 f=none)=>q55 hC (thm_p (v:=v) (out:=out) (n:=n) (k:=1) (j:=2) (o:=o) (by omega) (by omega) hne h) (qhr out up s) hp hx
 obtain ⟨x,hxe⟩ : ∃ x,x=qhr out up s:=⟨_,rfl⟩
 obtain ⟨b1,hb1⟩ : ∃ b,b=qp6 (qa3 out up):=⟨_,rfl⟩
 obtain ⟨b2,hb2⟩ : ∃ b,b=qkx (mL o) x:=⟨_,rfl⟩
 rw [← hxe,← hb2] at kC
 rw [← hxe] at hx
 rw [← hb1] at kO
 have kC:=fun n=>kC n [] rfl
 have hm:=zax (v:=v) (out:=out) (o:=o) (m:=3) (k:=1) (j:=2) (by omega) (by omega) (by omega) (by omega) (by omega)
 have e0:qgt (mL o) up s out=if b2=true then putT out up x (zba out up) else out:=by
  rw [hb2,hxe];unfold qgt putT
  cases zba out up <;> rfl
 rw [e0]
 clear e0
 refine qa2 (fn:=Tryz.f36) (s0:=⟨[0,1,2,6,7],[.ptr 0 0,.int .i64 (up:Int),.str s,.undef,.undef],[],71,⟨3,[]::[mR v 1 out 2 o]⟩⟩) Tryz.func36 rfl rfl rfl ?_
 repeat apply wq
 refine qa0 qa1 ?_
 simp [zS,cv,kd]
 repeat apply wq
 refine qa0 qa1 ?_
 simp [zS,zac,ixm hu,rdm_n,hu,kO]
 refine qs7 ((⟨[0,1,2,6,7],[.ptr 0 0,.int .i64 (up:Int),.str x,.undef,.undef],[],71,⟨3,[[],mR v 1 out 2 o]⟩⟩ : St)) ?_ fun hj=>?_
 rotate_left
 ·have hfv:∀ n,FitH 3 (idn 3) [] ⟨n,[[(3,.cells (qag s))],mR v 1 out 2 o]⟩ ⟨3,[[],mR v 1 out 2 o]⟩:=fun n=>zce hm (by omega) (by omega) fun i hi=>by simp [getF,qao (show 3≠i by omega)]
  cases b1 with
  | true=>
   have e:qhf (qhi s)=x:=by rw [hxe,qhr,← hb1];rfl
   rw [e] at kT
   refine qan rfl ?_
   refine qa0 qa1 ?_
   simp [zS,kT]
   exact hj _ ⟨idn 3,[],rfl,rfl,rfl,by simp [qb1,qar,qcf,qah],hfv _⟩
  | false=>
   have e:qhi s=x:=by rw [hxe,qhr,← hb1];rfl
   refine qam rfl ?_
   refine qa9 ?_
   exact hj _ ⟨idn 3,[],rfl,rfl,rfl,by simp [qb1,qar,qcf,qah,e],hfv _⟩
 clear cv kd kO kT hdl
 have ends:∀ {n k:Nat} {t':Tr},0 < k→k≠2→t'≠[]→FitH 3 [(k,3),(2,4),(0,0)] [] ⟨n,[[],mR v k t' 2 o]⟩ ⟨5,[mR v 3 t' 4 o]⟩:=fun h1 h2 h3=>fitm (by omega) h1 (by omega) h2 h3 rfl rfl rfl
 repeat apply wq
 refine qa0 qa1 ?_
 simp [zS,qy5,kC]
 cases b2 with
 | false=>
  refine qan rfl ?_
  refine qa8 ?_
  simp [qad,Tryz.f36,oneOr]
  exact ⟨_,_,by simp [qar,qb1],ends (by omega) (by omega) hne⟩
 | true=>
  refine qam rfl ?_
  refine qa9 ?_
  simp
  repeat apply wq
  refine qa0 qa1 ?_
  simp [zS,zac,ixm hu,rdm_ks,hu]
  have lK:∀ H,qeu Tryz.prog H 30 (qbh (qa3 out up).kids)=some (qa3 out up).kids.length:=fun H=>lenI
  obtain ⟨K,hK⟩ : ∃ K,K=(qa3 out up).kids:=⟨_,rfl⟩
  have eK:zba out up=K.getLast?:=by rw [hK];rfl
  rw [eK]
  rw [← hK] at lK hk
  simp only [← hK]
  have hkl:K.length≤out.length:=by rw [hK];exact ok.kids _ (qb3 (by omega) (by omega))
  repeat apply wq
  refine qa0 qa1 ?_
  simp [zS,lK]
  have last:∀ (K0:List Int) (kn:Nat),K=K0++[(kn:Int)]→kn < out.length∧wr .i64 (K0.length:Int)=some (K0.length:Int)∧qat Tryz.prog 30 (qbh (K0++[(kn:Int)])) (.int .i64 (K0.length:Int))=some (.fptr [.int .i64 (kn:Int)] 0):=by
   rintro K0 kn rfl
   obtain ⟨q0,q1⟩:=hk (kn:Int) (by simp)
   refine ⟨by omega,?_,by rw [atI (by simp)];simp⟩
   have:=qzw (q:=K0.length) (by simp at hkl;omega)
   rwa [show (((K0.length+1:Nat):Int) - 1)=(K0.length:Int) by omega] at this
  by_cases hd:∃ k,K.getLast? = some k∧(qa3 out k).kind=2
  ·obtain ⟨k,hk1,hk2⟩:=hd
   have ea:putT out up x K.getLast? = qfb out k.toNat ((qa3 out k).data++x):=by
    rw [hk1]
    simp only [putT,hk2,if_true]
    have:=(hk k (List.mem_of_getLast? hk1)).1
    unfold qhd qfb
    rw [show ((k.toNat:Nat):Int)=k by omega]
   rw [ea]
   clear ea
   obtain ⟨K0,e⟩:=List.getLast?_eq_some_iff.1 hk1
   obtain ⟨kn,rfl⟩ : ∃ kn:Nat,k=(kn:Int):=⟨k.toNat,by have:=(hk k (List.mem_of_getLast? hk1)).1;omega⟩
   obtain ⟨hkn,hw,hat⟩:=last K0 kn e
   clear last
   subst e
   have hl:(K0++[(kn:Int)]).length=K0.length+1:=by simp
   have hlp:(0:Int) < ((K0.length+1:Nat):Int):=by omega
   rw [hl] at lK
   simp only [hl]
   have hcat:=catStr (x:=(qa3 out (kn:Int)).data) (y:=x) (by have:=hda _ (qb3 (t:=out) (i:=(kn:Int)) (by omega) (by omega));omega)
   refine qan (by simp [hlp]) ?_
   have hsb:wr .i64 ((K0.length:Int)+1 - 1)=some (K0.length:Int):=by rwa [Int.add_sub_cancel]
   repeat apply wq
   refine qdd mixed qa1 (by decide +kernel) (by decide +kernel) ?_
   simp [zS,qf3,qd8,qcx,zac,lK,hat,hsb,hw,ixm hkn]
   repeat apply wq
   refine qa0 qa1 ?_
   simp [zS,rdm_i,hkn]
   refine qan (by simp [hk2]) ?_
   have hg1:=mR_k (v:=v) (out:=out) (k:=1) (j:=2) (o:=o) (by omega) (by omega) (by omega) hne
   have hlay:=lay_data hkn ((qa3 out (kn:Int)).data++x)
   have hset:=setm (v:=v) (k:=1) (j:=2) (o:=o) (by omega) hkn ((qa3 out (kn:Int)).data++x)
   repeat apply wq
   refine qa0 qa1 ?_
   simp [zS,rdm_d,hkn,hg1,hlay,hset,hcat]
   refine qa8 ?_
   simp [qad,Tryz.f36,oneOr]
   exact ⟨_,_,by simp [qar,qb1],ends (by omega) (by omega) (by simp [qfb])⟩
  ·have ea:putT out up x K.getLast? = qgi out up ⟨2,0,[],[],x,0,[]⟩:=by
    cases hg:K.getLast? with
    | some k=>exact if_neg fun h=>hd ⟨k,hg,h⟩
    | none=>rfl
   rw [ea]
   clear ea
   refine qs7 ((⟨[0,1,2,6,7],[.ptr 0 0,.int .i64 (up:Int),.str x,.undef,.undef],[],71,⟨3,[[],mR v 1 out 2 o]⟩⟩ : St)) ?_ fun hj=>?_
   rotate_left
   ·have hfv:∀ n,FitH 3 (idn 3) [] ⟨n,[[],mR v 1 out 2 o]⟩ ⟨3,[[],mR v 1 out 2 o]⟩:=fun n=>zce hm (by omega) (by omega) fun i hi=>rfl
    rcases List.eq_nil_or_concat K with rfl | ⟨K0,k,e⟩
    ·repeat apply wq
     refine qam rfl ?_
     refine qa9 ?_
     exact hj _ ⟨idn 3,[],rfl,rfl,rfl,by simp [qb1,qar,qcf,qah],hfv _⟩
    ·rw [List.concat_eq_append] at e
     obtain ⟨kn,rfl⟩ : ∃ kn:Nat,k=(kn:Int):=⟨k.toNat,by have:=(hk k (by rw [e];simp)).1;omega⟩
     obtain ⟨hkn,hw,hat⟩:=last K0 kn e
     clear last
     subst e
     have hk2:¬ (qa3 out (kn:Int)).kind=2:=fun h=>hd ⟨_,by simp,h⟩
     have hl:(K0++[(kn:Int)]).length=K0.length+1:=by simp
     have hlp:(0:Int) < ((K0.length+1:Nat):Int):=by omega
     rw [hl] at lK
     simp only [hl]
     refine qan (by simp [hlp]) ?_
     have hsb:wr .i64 ((K0.length:Int)+1 - 1)=some (K0.length:Int):=by rwa [Int.add_sub_cancel]
     repeat apply wq
     refine qdd mixed qa1 (by decide +kernel) (by decide +kernel) ?_
     simp [zS,qf3,qd8,qcx,zac,lK,hat,hsb,hw,ixm hkn]
     repeat apply wq
     refine qa0 qa1 ?_
     simp [zS,rdm_i,hkn]
     refine qam (by simp [hk2]) ?_
     refine qa9 ?_
     exact hj _ ⟨idn 3,[],rfl,rfl,rfl,by simp [qb1,qar,qcf,qah],hfv _⟩
   clear last hd
   have hput:=(c56 (T:=T) hA hP hS hH hCl hm (by omega) hu ok ⟨2,0,[],[],x,0,[]⟩ (by simp)).perm (H2:=⟨3,[[],mR v 1 out 2 o]⟩) (H2':=⟨4,[[],mR v 3 (qgi out up ⟨2,0,[],[],x,0,[]⟩) 2 o]⟩) rfl rfl (by simp [Heap.ents,mR]) (by simp [Heap.ents,mR])
   have hput':CallAt (ctx T) 56 [.ptr 0 0,.int .i64 (up:Int),.agg [.int .i64 2,.int .i64 0,.str [],.nilS,.str x,.int .i64 0,.nilS]] ⟨3,[[],mR v 1 out 2 o]⟩ (.int .i64 (out.length:Int)) ⟨4,[[],mR v 3 (qgi out up ⟨2,0,[],[],x,0,[]⟩) 2 o]⟩:=
    hput.nilD hm (by
     simp [qb1,qar,qcf hm.lp,qah,qa7,Nd.cs,qb6,qbh,qak])
   have bld:qgv Tryz.prog 34 [(0,.int .i64 2),(4,.str x)]=some (.agg [.int .i64 2,.int .i64 0,.str [],.nilS,.str x,.int .i64 0,.nilS]):=rfl
   refine qa0 (qbc [⟨56,_,_,_,_,hput'⟩]) ?_
   simp [zS,qce,bld]
   simp [qad,Tryz.f36,oneOr]
   exact ⟨_,_,by simp [qar,qb1],ends (by omega) (by omega) (by simp [qgi,qfu])⟩
end Go.Proofs.YtocnpnnplllneaaGreatDoor
namespace Go.Proofs.YtocnpnnplllneaaGreatDoor
set_option linter.unusedSimpArgs false
set_option linter.unusedVariables false
open Go Go.RowKit
set_option maxRecDepth 100000
section
variable {v out out':Tr} {m n k j:Nat} {o o':Option (List Nd)} {fr:List (Nat × Blk)}
theorem qre {b:Nat}:∀ {f:List (Nat × Blk)},(∀ e,e∈f→e.1≠b)→getF b f=none
 | [],_=>rfl
 | e::r,h=>by
  have h1:=h e (by simp)
  unfold getF
  rw [qao h1]
  exact qre fun x hx=>h x (by simp [hx])
theorem qrq (hne:out≠[]):∀ e,e∈mR v k out j o→e=(0,Blk.cells [qae v,.slc k 0 out.length (.rest 7),mV j o])∨e=(k,.cells (qa4 (out.map qa7)))∨∃ P,o=some P∧e=(j,.cells (qa4 (P.map qa7))):=by
 intro e he
 have hne':out.map qa7≠[]:=by simpa using hne
 simp only [mR,VE,qc4 hne',qcb hne',List.cons_append,List.nil_append,List.mem_cons,List.length_map] at he
 rcases he with rfl | rfl | he
 ·exact .inl rfl
 ·exact .inr (.inl rfl)
 ·cases o with
  | none=>simp [mG] at he
  | some P=>simp [mG] at he;exact .inr (.inr ⟨P,rfl,he⟩)
theorem mem_mR (hne:out≠[]):(0,Blk.cells [qae v,.slc k 0 out.length (.rest 7),mV j o])∈mR v k out j o∧(k,Blk.cells (qa4 (out.map qa7)))∈mR v k out j o∧∀ P,o=some P→(j,Blk.cells (qa4 (P.map qa7)))∈mR v k out j o:=by
 have hne':out.map qa7≠[]:=by simpa using hne
 refine ⟨?_,?_,?_⟩
 ·simp [mR,VE,qcb hne']
 ·simp [mR,VE,qc4 hne']
 ·rintro P rfl
  simp [mR,VE,mG]
theorem qfi {C:Ctx} {f:FuncId} {args:List AV} (h:CallAt C f args ⟨3,[mR v 1 out 2 o]⟩ (.tup []) ⟨5,[mR v 3 out' 4 o']⟩) (ha:qb1 [(k,1),(j,2),(0,0)] [] args args) (k0:0 < k) (j0:0 < j) (hkj:k≠j) (hk:k < n) (hj:j < n) (hne:out≠[]) (hne':out'≠[]) (hfr:∀ e,e∈fr→e.1≠0∧e.1≠k∧e.1≠j) :
  CallAt C f args ⟨n,[fr,mR v k out j o]⟩ (.tup []) ⟨n+2,[fr,mR v n out' (n+1) o']⟩:=by
 have fh:FitH 0 [(k,1),(j,2),(0,0)] [] ⟨n,[fr,mR v k out j o]⟩ ⟨3,[mR v 1 out 2 o]⟩:=qyp (by omega) (by omega) k0 j0 hkj hne (qre fun e he=>(hfr e he).1) (qre fun e he=>(hfr e he).2.1) (qre fun e he=>(hfr e he).2.2)
 have:=h.framed (H':=⟨n+2,[fr,mR v n out' (n+1) o']⟩) (args:=args) fh ha ?_ (by simp)
 ·simpa [qhx,qfh] using this
 ·have e0:qgm [(k,1),(j,2),(0,0)] n 3 0=0:=by simp [qgm,qdt]
  have e3:qgm [(k,1),(j,2),(0,0)] n 3 3=n:=by simp [qgm,qdt]
  have e4:qgm [(k,1),(j,2),(0,0)] n 3 4=n+1:=by simp [qgm,qdt]
  refine ⟨by simp,?_,?_⟩
  ·intro nd lt
   have nd2:=VE_nd (zax (v:=v) (out:=out') (o:=o') (m:=n+2) (k:=n) (j:=n+1) (by omega) (by omega) (by omega) (by omega) (by omega))
   simp only [Heap.ents,List.flatten_cons,List.flatten_nil,List.append_nil,List.map_append] at nd ⊢
   rw [List.nodup_append] at nd ⊢
   refine ⟨nd.1,nd2,fun a ha b hb=>?_⟩
   obtain ⟨e,he,rfl⟩:=List.mem_map.1 ha
   obtain ⟨e2,he2,rfl⟩:=List.mem_map.1 hb
   have l1:=lt e (by simp [Heap.ents,he])
   have l2:=(hfr e he).1
   simp only at l1
   rcases qrq hne' e2 he2 with rfl | rfl | ⟨P,_,rfl⟩
   ·exact l2
   ·simp only;omega
   ·simp only;omega
  ·intro e he
   simp only [Heap.ents,List.flatten_cons,List.flatten_nil,List.append_nil,List.mem_append] at he ⊢
   rcases he with he | he
   ·refine .inr ⟨.inl he,fun x hx=>?_⟩
    have:=hfr e he
    simp at hx
    rcases hx with rfl | rfl | rfl
    ·exact fun h=>this.2.1 h.symm
    ·exact fun h=>this.2.2 h.symm
    ·exact fun h=>this.1 h.symm
   ·obtain ⟨m0,mk,mj⟩:=mem_mR (v:=v) (k:=3) (j:=4) (o:=o') hne'
    rcases qrq hne' e he with rfl | rfl | ⟨P,hP,rfl⟩
    ·refine .inl ⟨_,m0,?_⟩
     have hv:=qhw (qgm [(k,1),(j,2),(0,0)] n 3) (qch v)
     simp only [ql9,qfh,hv,qhx,e0,e3]
     cases o' with
     | none=>simp [mV,qhx]
     | some P=>simp [mV,qhx,e4]
    ·refine .inl ⟨_,mk,?_⟩
     simp only [ql9,e3,qbr _ (qbp out').pure]
    ·refine .inl ⟨_,mj P hP,?_⟩
     simp only [ql9,e4,qbr _ (qbp P).pure]
end
end Go.Proofs.YtocnpnnplllneaaGreatDoor
namespace Go.Proofs.YtocnpnnplllneaaGreatDoor
set_option linter.unusedSimpArgs false
set_option linter.unusedVariables false
open Go Go.RowKit
set_option maxRecDepth 100000
set_option maxHeartbeats 1000000
theorem elem_no {T:List (Entry Tryz.prog)} (hA:qai 57 T=some e57.g) (hM:qai 58 T=some e58.g)
  {v out res:Tr} {o o2:Option (List Nd)} {up:Nat} {k:Int} {x:Nd} (hx:okM x) (hx2:okN (elN x)) (hp:okP (mL o)) (hne:out≠[]) (hres:res≠[]) (hb:qwt (mL o) (elN x)=false)
  (hc:CallAt (ctx T) 22 [.ptr 0 0,.int .i64 k,.int .i64 (up:Int)] ⟨3,[mR v 1 out 2 o]⟩ (.tup []) ⟨5,[mR v 3 res 4 o2]⟩) :
  CallAt (ctx T) 37 [.ptr 0 0,.int .i64 k,.int .i64 (up:Int),qa7 x] ⟨3,[mR v 1 out 2 o]⟩ (.tup []) ⟨5,[mR v 3 res 4 o2]⟩:=by
 have kA:=fun H=>k57 hA x hx H
 have kM:=fun (n:Nat) (f:List (Nat × Blk)) (h:getF 2 f=none)=>q58 hM (thm_p (v:=v) (out:=out) (n:=n) (f:=f) (k:=1) (j:=2) (o:=o) (by omega) (by omega) hne h) (qau (H:=⟨n,[f,mR v 1 out 2 o]⟩) (ss:=[0,0,0,2,0,0,1]) (v:=qa7 (elN x)) (by simp)) hp hx2
 rw [hb] at kM
 have kM:=fun n=>kM n [(3,.cells (elN x).cs)] rfl
 have l3:qge [qak (qma x)] 3 x.cs=some [qb6 x.kind,qb6 x.space,.str x.name,qak (qma x),.str x.data,qb6 x.up,qbh x.kids]:=rfl
 have e7:[qb6 x.kind,qb6 x.space,.str x.name,qak (qma x),.str [],qb6 x.up,qbh x.kids]=(elN x).cs:=rfl
 have hc':=qfi (n:=11) (k:=1) (j:=2) (fr:=[(3,.cells (elN x).cs)]) hc (by simp [qb1,qar,qay,qah]) (by omega) (by omega) (by omega) (by omega) (by omega) hne hres (by simp)
 have cA:(qak (qma x)).cells=[qak (qma x)]:=rfl
 have sA:(qak (qma x)).single=true:=rfl
 have rA:∀ n,refs n (qak (qma x))=[]:=fun n=>qke n _ (by simp)
 refine qa2 (fn:=Tryz.f37) (s0:=⟨[0,1,2,3,7,8],[.ptr 0 0,.int .i64 k,.int .i64 (up:Int),qa7 x,.undef,.undef],[],55,⟨3,[]::[mR v 1 out 2 o]⟩⟩) Tryz.func37 rfl rfl rfl ?_
 repeat apply wq
 refine qa0 qa1 ?_
 simp [zS,qb5]
 repeat apply wq
 refine qa0 qa1 ?_
 simp [zS,qb5,kA,cA,sA,rA,allSingle,l3,qcu]
 rw [e7]
 repeat apply wq
 refine qdd mixed qa1 (by decide +kernel) (by decide +kernel) ?_
 simp [zS,qf3,qd8,qcx,qy5,qb5,kM]
 refine qan rfl ?_
 repeat apply wq
 refine qa0 (qbc [⟨22,_,_,_,_,hc'⟩]) ?_
 simp [zS,qce]
 refine qa8 ?_
 simp [qad,Tryz.f37,oneOr]
 exact ⟨_,_,by simp [qar,qb1],fitm (by omega) (by omega) (by omega) (by omega) hres (by simp [getF]) (by simp [getF]) (by simp [getF])⟩
end Go.Proofs.YtocnpnnplllneaaGreatDoor
namespace Go.Proofs.YtocnpnnplllneaaGreatDoor
set_option linter.unusedSimpArgs false
set_option linter.unusedVariables false
open Go Go.RowKit
set_option maxRecDepth 100000
section
variable {v out:Tr} {m n k j:Nat} {o:Option (List Nd)} {P:List Nd} {fr:List (Nat × Blk)}
theorem qnm (P:List Nd):qac (qa4 (P.map qa7))=true:=(qbp P).pure
theorem app_m {x:Nd} {A:Blk} (hne:out≠[]) (hl:P.length≤100000) (ho:o=none∧P=[]∨o=some P) :
  qbz Tryz.prog ⟨22,[[(17,.cells x.cs),(3,A)],mR v 1 out 2 o]⟩ 34 (mV 2 o) (.slc 17 0 1 (.ex 1)) =
   some (.slc 22 0 (P.length+1) (.rest 7),⟨23,[[(22,.cells (qa4 ((P++[x]).map qa7))),(17,.cells x.cs),(3,A)],[(0,.cells [qae v,.slc 1 0 out.length (.rest 7),mV 2 o]),(1,.cells (qa4 (out.map qa7)))]]⟩):=by
 have eR:mR v 1 out 2 o=[(0,.cells [qae v,.slc 1 0 out.length (.rest 7),mV 2 o]),(1,.cells (qa4 (out.map qa7)))]++mG 2 o:=by
  have hne':out.map qa7≠[]:=by simpa using hne
  simp [mR,VE,qc4 hne',qcb hne']
 rw [eR]
 generalize qa4 (out.map qa7)=F
 rcases ho with ⟨rfl,rfl⟩ | rfl
 ·rfl
 ·cases P with
  | nil=>rfl
  | cons y r=>
   have h:=qgk (P:=Tryz.prog) (H:=⟨22,[[(17,.cells x.cs),(3,A)],[(0,.cells [qae v,.slc 1 0 out.length (.rest 7),mV 2 (some (y::r))]),(1,.cells F)]++mG 2 (some (y::r))]⟩) (elem:=34) (b:=2) (n:=0) (es:=(y::r).map qa7) (cs:=x.cs) (x:=.slc 17 0 1 (.ex 1)) qzu byT34 zeT34
    rfl (by omega) (by omega) rfl (by simp [qb4,readCells,Heap.get,getFs,getF,Blk.rd]) rfl rfl (qbp _) (by simp at hl ⊢;omega) (fun _=>by simp [Heap.get,getFs,getF,mG]) (fun he=>absurd he (by simp)) (by intro cs;rfl)
   have hd:Heap.drop ⟨22,[[(17,.cells x.cs),(3,A)],[(0,.cells [qae v,.slc 1 0 out.length (.rest 7),mV 2 (some (y::r))]),(1,.cells F)]++mG 2 (some (y::r))]⟩ 2=⟨22,[[(17,.cells x.cs),(3,A)],[(0,.cells [qae v,.slc 1 0 out.length (.rest 7),mV 2 (some (y::r))]),(1,.cells F)]]⟩:=rfl
   rw [hd,qcb (by simp)] at h
   have e:qa4 ((y::r).map qa7)++x.cs=qa4 ((y::r++[x]).map qa7):=by rw [List.map_append,qbm];simp [qa4]
   rw [e] at h
   simpa [Heap.new,pushF,mV] using h
theorem put_m {c m n:Nat} {Q:List Nd} {A B:Nat × Blk} {a w u:AV} {R:Blk} (hc:c≠0) (hA:A.1≠0) (hB:B.1≠0) :
  writeVar Tryz.prog ⟨n,[(c,.cells (qa4 (Q.map qa7)))::[A,B],[(0,.cells [a,w,u]),(1,R)]]⟩ 22 (.ptr 0 2) (.slc c 0 m (.rest 7)) =
   some ⟨n,[[A,B],[(c,.cells (qa4 (Q.map qa7))),(0,.cells [a,w,.slc c 0 m (.rest 7)]),(1,R)]]⟩:=by
 have b1:Nat.beq c 0=false:=qao hc
 have b2:Nat.beq A.1 0=false:=qao hA
 have b3:Nat.beq B.1 0=false:=qao hB
 have hk:qp4 (.cells (qa4 (Q.map qa7)))=[]:=qdf 4 _ (qnm Q)
 have r1:qfc 100000 [c] ((c,.cells (qa4 (Q.map qa7)))::[A,B]) []=([(c,.cells (qa4 (Q.map qa7)))],[A,B]):=by
  have:=qsl (n:=99998) (b:=c) (k:=.cells (qa4 (Q.map qa7))) (x:=(c,.cells (qa4 (Q.map qa7)))) (f:=[A,B]) (acc:=[]) (by simp [getF]) hk
  rw [this];simp [killF]
 have e1:qnh [((c,.cells (qa4 (Q.map qa7))):Nat × Blk)]++[c]=[c]:=by simp [qnh,hk]
 have n1:getF 0 ((c,Blk.cells (qa4 (Q.map qa7)))::[A,B])=none:=by simp [getF,b1,b2,b3]
 have hp:qct 0 [c] [] [(c,.cells (qa4 (Q.map qa7)))::[A,B],[(0,.cells [a,w,u]),(1,R)]]=[[A,B],[(c,.cells (qa4 (Q.map qa7))),(0,.cells [a,w,u]),(1,R)]]:=by
  unfold qct
  rw [n1]
  simp only [r1,e1]
  unfold qct
  simp [getF]
 have hg:Heap.get ⟨n,[(c,.cells (qa4 (Q.map qa7)))::[A,B],[(0,.cells [a,w,u]),(1,R)]]⟩ 0=some (.cells [a,w,u]):=by simp [Heap.get,getFs,getF,b1,b2,b3]
 have hrd:Heap.ready ⟨n,[(c,.cells (qa4 (Q.map qa7)))::[A,B],[(0,.cells [a,w,u]),(1,R)]]⟩ 0 [.slc c 0 m (.rest 7)]=⟨n,[[A,B],[(c,.cells (qa4 (Q.map qa7))),(0,.cells [a,w,u]),(1,R)]]⟩:=by
  show (⟨n,qct 0 [c] [] _⟩ : Heap)=_
  rw [hp]
 have hs1:setF 0 (.cells [a,w,.slc c 0 m (.rest 7)]) [A,B]=none:=ql7 (by simp [getF,b2,b3])
 unfold writeVar
 simp only [szT22,Option.bind_some,zd5,List.length_cons,List.length_nil]
 simp [allSingle,AV.single,writeCells,hg,Blk.wt,hrd,Heap.set,setFs,setF,b1,b2,b3,Blk.re]
theorem sl_m {H:Heap} {cs:List AV} {b q kn:Nat} (hb:H.get b=some (.cells cs)) (hl:cs.length=kn * 7) (hq:q+1≤kn) :
  qdu Tryz.prog H 22 (.slc b 0 (q+1) (.rest 7)) none (some (.int .i64 (q:Int))) none=some (.slc b 0 q (.rest 7)):=by
 have hs:qbw Tryz.prog 34=some 7:=qzu
 have hk:qci H b=some (kn * 7):=by simp [qci,hb,Blk.rd,hl]
 simp only [qdu,qza,Tryz.underlying22,Option.bind_some,hs]
 have e2:kn * 7 / 7=kn:=by omega
 have hi1:idx (q:Int) (Nat.succ kn)=some q:=qbs (by omega)
 have hn:Nat.ble (kn * 7) 0=false:=by cases kn with
  | zero=>omega
  | succ m=>rfl
 simp only [qix,hk,Option.bind_some,qcq,Nat.beq_refl,Nat.sub_zero,e2,hi1,Nat.zero_mul,hn,Nat.add_zero]
end
end Go.Proofs.YtocnpnnplllneaaGreatDoor
namespace Go.Proofs.YtocnpnnplllneaaGreatDoor
set_option linter.unusedSimpArgs false
set_option linter.unusedVariables false
open Go Go.RowKit
set_option maxRecDepth 100000
set_option maxHeartbeats 1000000
theorem len_m {j:Nat} {o:Option (List Nd)} {H:Heap}:qeu Tryz.prog H 22 (mV j o)=some (mL o).length:=by cases o <;> simp [mV,mL,qeu]
theorem fit_up {v out:Tr} {y:Nd} {Q:List Nd} {n:Nat} (hne:out≠[]):FitH 3 [(3,4),(1,1),(22,3),(0,0)] [] ⟨n,[[(17,.cells y.cs),(3,.cells y.cs)],[(22,.cells (qa4 (Q.map qa7))),(0,.cells [qae v,.slc 1 0 out.length (.rest 7),.slc 22 0 Q.length (.rest 7)]),(1,.cells (qa4 (out.map qa7)))]]⟩ ⟨5,[[(4,.cells y.cs)],mR v 1 out 3 (some Q)]⟩ where
 nd1:=by simp
 nd2:=by simp
 nd3:=by
  have hne':out.map qa7≠[]:=by simpa using hne
  simp [Heap.ents,mR,VE,qc4 hne',mG]
 lt:=by simp
 idn:=by simp
 num:=by simp
 src:=by
  intro e he
  simp only [Heap.ents,List.flatten_cons,List.flatten_nil,List.append_nil,List.mem_append,List.mem_singleton] at he
  rcases he with rfl | he
  ·exact ⟨3,.cells y.cs,by simp,by simp [Heap.get,getFs,getF],qaj (qh2 y)⟩
  ·rcases qrq hne e he with rfl | rfl | ⟨P,hP,rfl⟩
   ·exact ⟨0,.cells [qae v,.slc 1 0 out.length (.rest 7),.slc 22 0 Q.length (.rest 7)],by simp,by simp [Heap.get,getFs,getF],by simp [qh6,qb1,qar,qay,mV,qba (qch v)]⟩
   ·exact ⟨1,.cells (qa4 (out.map qa7)),by simp,by simp [Heap.get,getFs,getF],qaj (qnm out)⟩
   ·simp only [sj] at hP
    subst hP
    exact ⟨22,.cells (qa4 (Q.map qa7)),by simp,by simp [Heap.get,getFs,getF],qaj (qnm Q)⟩
 frz:=fun x h=>by cases h
theorem FitH.drop0 {N n:Nat} {σ:List (Nat × Nat)} {Φ:List (Nat × List AV)} {fs:List (List (Nat × Blk))} {H':Heap} (h:FitH N σ Φ ⟨n,[]::fs⟩ H'):FitH N σ Φ ⟨n,fs⟩ H':=
 ⟨h.nd1,h.nd2,h.nd3,h.lt,h.idn,h.num,h.src,h.frz⟩
theorem WpSr.shrQ {C:Ctx} {n:Nat} {r:Option Nat} {c:Code} {s:St} {Q:Out→St→Prop} (h:WpSr C n r c s (fun x s'=>∃ H',Shr s'.H H'∧Q x (s'.wH H'))):WpSr C n r c s Q:=
 fun b a w hb ha K hK=>h b a w hb ha K fun x s2 a2 w2 q1 q2=>by
  obtain ⟨H',k,q⟩:=q1
  exact hK x _ a2 w2 q (q2.shr k)
theorem elem_yes {T:List (Entry Tryz.prog)} (hA:qai 57 T=some e57.g) (hM:qai 58 T=some e58.g)
  (hAc:qai 51 T=some e51.g) (hP:qai 154 T=some e154.g) (hS:qai 124 T=some e124.g) (hH:qai 125 T=some e125.g) (hCl:qai 128 T=some e128.g)
  {v out res:Tr} {o:Option (List Nd)} {up:Nat} {k:Int} {x:Nd} (hx:okM x) (hx2:okN (elN x)) (hxa:(qma x).length≤1000000) (hp:okP (mL o)) (hu:up < out.length) (hn:out.length+1≤100000) (ok:UpOk out) (hres:res≠[]) (hb:qwt (mL o) (elN x)=true)
  (hc:CallAt (ctx T) 22 [.ptr 0 0,.int .i64 k,.int .i64 (out.length:Int)] ⟨3,[mR v 1 (qgi out up (elN x)) 2 (some (mL o++[elN x]))]⟩ (.tup []) ⟨5,[mR v 3 res 4 (some (mL o++[elN x]))]⟩) :
  CallAt (ctx T) 37 [.ptr 0 0,.int .i64 k,.int .i64 (up:Int),qa7 x] ⟨3,[mR v 1 out 2 o]⟩ (.tup []) ⟨5,[mR v 3 res 4 (some (mL o))]⟩:=by
 have hne:out≠[]:=by intro e;subst e;simp at hu
 have hput0:qgi out up (elN x)≠[]:=by simp [qgi,qfu]
 have kA:=fun H=>k57 hA x hx H
 have kM:=fun (n:Nat) (f:List (Nat × Blk)) (h:getF 2 f=none)=>q58 hM (thm_p (v:=v) (out:=out) (n:=n) (f:=f) (k:=1) (j:=2) (o:=o) (by omega) (by omega) hne h) (qau (H:=⟨n,[f,mR v 1 out 2 o]⟩) (ss:=[0,0,0,2,0,0,1]) (v:=qa7 (elN x)) (by simp)) hp hx2
 rw [hb] at kM
 have kM:=fun n=>kM n [(3,.cells (elN x).cs)] rfl
 have l3:qge [qak (qma x)] 3 x.cs=some [qb6 x.kind,qb6 x.space,.str x.name,qak (qma x),.str x.data,qb6 x.up,qbh x.kids]:=rfl
 have e7:[qb6 x.kind,qb6 x.space,.str x.name,qak (qma x),.str [],qb6 x.up,qbh x.kids]=(elN x).cs:=rfl
 have cA:(qak (qma x)).cells=[qak (qma x)]:=rfl
 have sA:(qak (qma x)).single=true:=rfl
 have rA:∀ n,refs n (qak (qma x))=[]:=fun n=>qke n _ (by simp)
 obtain ⟨y,hy⟩ : ∃ y,y=elN x:=⟨_,rfl⟩
 have hya:y.attrs.length≤1000000:=by rw [hy];exact hxa
 rw [← hy] at hx2 hb hc kM e7 hput0
 obtain ⟨P,hPo⟩ : ∃ P,P=mL o:=⟨_,rfl⟩
 rw [← hPo] at hp hb hc ⊢
 have ho:o=none∧P=[]∨o=some P:=by
  cases o with
  | none=>exact .inl ⟨rfl,by rw [hPo];rfl⟩
  | some q=>exact .inr (by rw [hPo];rfl)
 obtain ⟨Q,hQ⟩ : ∃ Q,Q=P++[y]:=⟨_,rfl⟩
 have hQl:Q.length=P.length+1:=by rw [hQ];simp
 rw [← hQ] at hc
 have happ:=app_m (v:=v) (x:=y) (A:=.cells y.cs) hne hp.1 ho
 rw [← hQ,← hQl] at happ
 have hst:=fun n=>put_m (c:=22) (m:=Q.length) (n:=n) (Q:=Q) (A:=(17,.cells y.cs)) (B:=(3,.cells y.cs)) (a:=qae v) (w:=.slc 1 0 out.length (.rest 7)) (u:=mV 2 o) (R:=.cells (qa4 (out.map qa7))) (by omega) (by simp) (by simp)
 have hm:=(zax (v:=v) (out:=out) (o:=some Q) (m:=4) (k:=1) (j:=3) (by omega) (by omega) (by omega) (by omega) (by omega)).extra (m':=5) (q:=4) (b:=.cells y.cs) (Nat.le_refl _) (by omega) (qkb (qh2 y))
 have hput:=(c56 (T:=T) hAc hP hS hH hCl hm (by omega) hu ok y hya).perm (H2:=⟨5,[[(4,.cells y.cs)],mR v 1 out 3 (some Q)]⟩) (H2':=⟨6,[[(4,.cells y.cs)],mR v 5 (qgi out up y) 3 (some Q)]⟩) rfl rfl qlu qlu
 have hc':=qfi (n:=6) (k:=5) (j:=3) (fr:=[(4,.cells y.cs)]) hc (by simp [qb1,qar,qay,qah]) (by omega) (by omega) (by omega) (by omega) (by omega) hput0 hres (by simp)
 have hln:=fun H=>len_m (j:=2) (o:=o) (H:=H)
 rw [← hPo] at hln
 refine qa2 (fn:=Tryz.f37) (s0:=⟨[0,1,2,3,7,8],[.ptr 0 0,.int .i64 k,.int .i64 (up:Int),qa7 x,.undef,.undef],[],55,⟨3,[]::[mR v 1 out 2 o]⟩⟩) Tryz.func37 rfl rfl rfl ?_
 repeat apply wq
 refine qa0 qa1 ?_
 simp [zS,qb5]
 repeat apply wq
 refine qa0 qa1 ?_
 simp [zS,qb5,kA,cA,sA,rA,allSingle,l3,qcu]
 rw [e7]
 repeat apply wq
 refine qdd mixed qa1 (by decide +kernel) (by decide +kernel) ?_
 simp [zS,qf3,qd8,qcx,qy5,qb5,kM]
 refine qam rfl ?_
 refine qa9 ?_
 simp
 repeat apply wq
 refine qa0 qa1 ?_
 simp [zS,qy5,hln]
 repeat apply wq
 refine qd3 mixed qa1 (by decide +kernel) fun B_ hB_=>?_
 have d_4_7:ahead B_ 4 7=true:=by rw [hB_];decide +kernel
 have d_4_10:ahead B_ 4 10=true:=by rw [hB_];decide +kernel
 have d_5_7:ahead B_ 5 7=true:=by rw [hB_];decide +kernel
 have d_5_10:ahead B_ 5 10=true:=by rw [hB_];decide +kernel
 have d_6_7:ahead B_ 6 7=true:=by rw [hB_];decide +kernel
 have d_6_10:ahead B_ 6 10=true:=by rw [hB_];decide +kernel
 have d_7_4:ahead B_ 7 4=false:=by rw [hB_];decide +kernel
 have d_7_5:ahead B_ 7 5=false:=by rw [hB_];decide +kernel
 have d_10_4:ahead B_ 10 4=false:=by rw [hB_];decide +kernel
 have d_10_5:ahead B_ 10 5=false:=by rw [hB_];decide +kernel
 apply qop B_
 simp [zS,qds,qcc,qbv,qby,qas,qaz,qax,Heap.lay,qeh,qoo,qon,qi0,qhz,qhm,qhy,qis,qi6,qfm,qfn,qih,qig,qie,qif,qik,qil,qij,qii,d_4_7,d_4_10,d_5_7,d_5_10,d_6_7,d_6_10,d_7_4,d_7_5,d_10_4,d_10_5,qy5,qb5,happ,hst]
 exact rfl
 refine ⟨_,rfl,?_,?_⟩
 simp [zS,qby,qas,qcs,qd1,qeq,d_4_7,d_4_10,d_5_7,d_5_10,d_6_7,d_6_10,d_7_4,d_7_5,d_10_4,d_10_5,qy5,qb5,happ,hst]
 simp [qcj,Heap.lay,qeh,qaf]
 refine WpSr.fit [(3,4),(1,1),(22,3),(0,0)] [] (s':=(⟨[0,1,2,3,7,8],[.ptr 0 0,.int .i64 k,.int .i64 (up:Int),.undef,.ptr 4 0,.int .i64 (P.length:Nat)],[],55,⟨5,[[(4,.cells y.cs)],mR v 1 out 3 (some Q)]⟩⟩ : St)) ⟨rfl,rfl,rfl,by simp [qb1,qar,qay,qah],fit_up hne⟩ ?_
 repeat apply wq
 refine qa0 (qbc [⟨56,_,_,_,_,hput⟩,⟨22,_,_,_,_,hc'⟩]) ?_
 simp [zS,qce,qb5]
 refine WpSr.fit [(6,3),(7,4),(0,0)] [] (s':=(⟨[0,1,2,3,7,8],[.ptr 0 0,.undef,.undef,.undef,.undef,.int .i64 (P.length:Nat)],[],55,⟨5,[mR v 3 res 4 (some Q)]⟩⟩ : St)) ⟨rfl,rfl,rfl,by simp [qb1,qar,qay,qah],qyp (by omega) (by omega) (by omega) (by omega) (by omega) hres (by simp [getF]) (by simp [getF]) (by simp [getF])⟩ ?_
 have hres':res.map qa7≠[]:=by simpa using hres
 have eR:mR v 3 res 4 (some Q)=[(0,.cells [qae v,.slc 3 0 res.length (.rest 7),.slc 4 0 Q.length (.rest 7)]),(3,.cells (qa4 (res.map qa7))),(4,.cells (qa4 (Q.map qa7)))]:=by
  simp [mR,VE,qc4 hres',qcb hres',mV,mG]
 have eR2:mR v 3 res 4 (some P)=[(0,.cells [qae v,.slc 3 0 res.length (.rest 7),.slc 4 0 P.length (.rest 7)]),(3,.cells (qa4 (res.map qa7))),(4,.cells (qa4 (P.map qa7)))]:=by
  simp [mR,VE,qc4 hres',qcb hres',mV,mG]
 rw [eR]
 have hsl:∀ n:Nat,qdu Tryz.prog ⟨n,[[(0,.cells [qae v,.slc 3 0 res.length (.rest 7),.slc 4 0 Q.length (.rest 7)]),(3,.cells (qa4 (res.map qa7))),(4,.cells (qa4 (Q.map qa7)))]]⟩ 22 (.slc 4 0 Q.length (.rest 7)) none (some (.int .i64 (P.length:Int))) none=some (.slc 4 0 P.length (.rest 7)):=fun n=>by
  rw [hQl]
  exact sl_m (cs:=qa4 (Q.map qa7)) (kn:=P.length+1) (by simp [Heap.get,getFs,getF]) (by rw [(qbp Q).len];simp [hQl]) (by omega)
 refine WpSr.shrQ ?_
 refine qa0 qa1 ?_
 simp [zS,hsl,qcu]
 have hsh:Shr ⟨5,[[(0,.cells [qae v,.slc 3 0 res.length (.rest 7),.slc 4 0 P.length (.rest 7)]),(3,.cells (qa4 (res.map qa7))),(4,.cells (qa4 (Q.map qa7)))]]⟩ ⟨5,[mR v 3 res 4 (some P)]⟩:=by
  rw [eR2]
  exact ⟨rfl,⟨rfl,.inl rfl,rfl,.inl rfl,rfl,.inr ⟨qa4 (P.map qa7),qa4 ([y].map qa7),by rw [hQ,List.map_append,qbm],rfl⟩,trivial⟩⟩
 refine ⟨_,hsh,?_⟩
 simp [qad,Tryz.f37,oneOr,St.wH]
 exact ⟨_,_,by simp [qar,qb1],.drop0 (fitm (k:=3) (j:=4) (f:=[]) (by omega) (by omega) (by omega) (by omega) hres rfl rfl rfl)⟩
end Go.Proofs.YtocnpnnplllneaaGreatDoor
namespace Go.Proofs.YtocnpnnplllneaaGreatDoor
set_option linter.unusedSimpArgs false
set_option linter.unusedVariables false
open Go Go.RowKit
theorem qh1 (t:Tr) {u:Nat} (hu:u < t.length) (n:Nd):(qgi t u n).length=t.length+1:=by
 unfold qgi
 rw [qne (by rw [qdb (by simp;omega)];simp),qdb (by simp;omega)]
 simp
theorem qfr (t:Tr) {i:Nat} (hi:i < t.length) (s:Str):(qhd t i s).length=t.length:=by
 unfold qhd
 simp
 omega
def qu6 (t:Tr):Prop:=∀ n,n∈t→∀ k,k∈n.kids→0≤k∧k < (t.length:Int)
theorem mem_mid {a b:List Nd} {x n:Nd} (h:n∈a++x::b):n∈a∨n=x∨n∈b:=by simpa using h
theorem qfl {t:Tr} {i:Nat} {x n:Nd} (h:n∈t.take i++x::t.drop (i+1)):n∈t∨n=x:=by
 rcases mem_mid h with h | h | h
 ·exact .inl (List.mem_of_mem_take h)
 ·exact .inr h
 ·exact .inl (List.mem_of_mem_drop h)
theorem qx0 {t:Tr} (h:qu6 t) {u:Nat} (hu:u < t.length) (n:Nd):qu6 (qgi t u n):=by
 have hl:=qh1 t hu n
 intro m hm k hk
 rw [hl]
 have old:∀ x,x∈t→∀ k,k∈x.kids→0≤k∧k < ((t.length+1:Nat):Int):=fun x hx k hk=>by
  have:=h x hx k hk;omega
 have hun:qa3 t (u:Int)∈t:=qb3 (by omega) (by omega)
 have key:∀ m,m∈qcn (t++[fresh n]) u ((qa3 t (u:Int)).kids++[(t.length:Int)])→∀ k,k∈m.kids→0≤k∧k < ((t.length+1:Nat):Int):=fun m hm k hk=>by
  rcases qfl hm with hm | rfl
  ·rcases List.mem_append.1 hm with hm | hm
   ·exact old m hm k hk
   ·simp at hm;subst hm;simp [fresh] at hk
  ·simp only [List.mem_append,List.mem_singleton] at hk
   rcases hk with hk | rfl
   ·exact old _ hun k hk
   ·omega
 unfold qgi at hm
 rcases qfl hm with hm | rfl
 ·exact key m hm k hk
 ·exact key _ (qb3 (by omega) (by rw [qdb (by simp;omega)];simp;omega)) k hk
theorem zbi {t:Tr} (h:qu6 t) {i:Nat} (hi:i < t.length) (s:Str):qu6 (qhd t i s):=by
 intro m hm k hk
 rw [qfr t hi]
 rcases qfl hm with hm | rfl
 ·exact h m hm k hk
 ·exact h _ (qb3 (by omega) (by omega)) k hk
theorem zb9 {t:Tr} (h:qu6 t) {u:Nat} (hu:u < t.length) {k:Int} (hk:zba t u=some k):0≤k∧k < (t.length:Int):=
 h _ (qb3 (by omega) (by omega)) k (List.mem_of_getLast? hk)
theorem up_put {t:Tr} (h:UpOk t) {u:Nat} (hu:u < t.length) (n:Nd):UpOk (qgi t u n):=by
 have hl:=qh1 t hu n
 have hun:qa3 t (u:Int)∈t:=qb3 (by omega) (by omega)
 have key:∀ m,m∈qcn (t++[fresh n]) u ((qa3 t (u:Int)).kids++[(t.length:Int)])→m.up < (t.length:Int)+1∧m.kids.length≤t.length+1:=fun m hm=>by
  have old:∀ x,x∈t++[fresh n]→x.up < (t.length:Int)+1∧x.kids.length≤t.length+1:=fun x hx=>by
   rcases List.mem_append.1 hx with hx | hx
   ·have:=h.up x hx;have:=h.kids x hx;exact ⟨by omega,by omega⟩
   ·simp at hx;subst hx;exact ⟨by simp [fresh];omega,by simp [fresh]⟩
  rcases qfl hm with hm | rfl
  ·exact old m hm
  ·have h1:=old (qa3 (t++[fresh n]) (u:Int)) (qb3 (by omega) (by simp;omega))
   have h2:=h.kids _ hun
   exact ⟨h1.1,by simp;omega⟩
 constructor
 ·intro m hm
  unfold qgi at hm
  rcases qfl hm with hm | rfl
  ·have:=(key m hm).1;omega
  ·show (u:Int) < _;omega
 ·intro m hm
  unfold qgi at hm
  rcases qfl hm with hm | rfl
  ·have:=(key m hm).2;omega
  ·have:=(key _ (qb3 (t:=qcn (t++[fresh n]) u ((qa3 t (u:Int)).kids++[(t.length:Int)])) (i:=(t.length:Int)) (by omega) (by rw [qdb (by simp;omega)];simp;omega))).2
   show (qa3 _ _).kids.length≤_
   omega
theorem up_data {t:Tr} (h:UpOk t) {i:Nat} (hi:i < t.length) (s:Str):UpOk (qhd t i s):=by
 have hl:=qfr t hi s
 have hn:qa3 t (i:Int)∈t:=qb3 (by omega) (by omega)
 constructor
 ·intro m hm
  rcases qfl hm with hm | rfl
  ·have:=h.up m hm;omega
  ·have:=h.up _ hn;show (qa3 t (i:Int)).up < _;omega
 ·intro m hm
  rcases qfl hm with hm | rfl
  ·have:=h.kids m hm;omega
  ·have:=h.kids _ hn;show (qa3 t (i:Int)).kids.length≤_;omega
theorem da_put {t:Tr} {D:Nat} (h:∀ n,n∈t→n.data.length≤D) {u:Nat} (hu:u < t.length) {n:Nd} (hn:n.data.length≤D):∀ m,m∈qgi t u n→m.data.length≤D:=by
 have k0:∀ x,x∈t++[fresh n]→x.data.length≤D:=fun x hx=>by
  rcases List.mem_append.1 hx with hx | hx
  ·exact h x hx
  ·simp at hx;subst hx;exact hn
 have key:∀ m,m∈qcn (t++[fresh n]) u ((qa3 t (u:Int)).kids++[(t.length:Int)])→m.data.length≤D:=fun m hm=>by
  rcases qfl hm with hm | rfl
  ·exact k0 m hm
  ·exact k0 (qa3 (t++[fresh n]) (u:Int)) (qb3 (by omega) (by simp;omega))
 intro m hm
 unfold qgi at hm
 rcases qfl hm with hm | rfl
 ·exact key m hm
 ·exact key (qa3 (qcn (t++[fresh n]) u ((qa3 t (u:Int)).kids++[(t.length:Int)])) (t.length:Int)) (qb3 (t:=qcn (t++[fresh n]) u ((qa3 t (u:Int)).kids++[(t.length:Int)])) (i:=(t.length:Int)) (by omega) (by rw [qdb (by simp;omega)];simp;omega))
theorem da_data {t:Tr} {D:Nat} (h:∀ n,n∈t→n.data.length≤D) {i:Nat} (hi:i < t.length) (s:Str):∀ m,m∈qhd t i s→m.data.length≤D+s.length:=by
 intro m hm
 rcases qfl hm with hm | rfl
 ·have:=h m hm;omega
 ·have:=h _ (qb3 (t:=t) (i:=(i:Int)) (by omega) (by omega))
  simp;omega
structure MoOk (out:Tr) (D:Nat):Prop where
 up:UpOk out
 kd:qu6 out
 da:∀ n,n∈out→n.data.length≤D
theorem zb0 {t:Tr} {D:Nat} (h:MoOk t D) {u:Nat} (hu:u < t.length) {n:Nd} (hn:n.data.length≤D):MoOk (qgi t u n) D:=⟨up_put h.up hu n,qx0 h.kd hu n,da_put h.da hu hn⟩
theorem qzs (out:Tr) (up:Nat) {s:Str} (hs:s.length≤30000):(qhr out up s).length≤90000:=by
 have hdl:=qkv _ s (Nat.le_refl _)
 unfold qhr
 have:=qqs (qhi s)
 split <;> omega
theorem qwo {t:Tr} {D:Nat} (h:MoOk t D) {u:Nat} (hu:u < t.length) {P:List Nd} {s:Str} (hs:s.length≤30000):MoOk (qgt P u s t) (D+90000)∧t.length≤(qgt P u s t).length∧(qgt P u s t).length≤t.length+1:=by
 have hx:=qzs t u hs
 have wk:∀ {t':Tr},MoOk t' D→MoOk t' (D+90000):=fun h=>⟨h.up,h.kd,fun n hn=>by have:=h.da n hn;omega⟩
 have hp:MoOk (qgi t u ⟨2,0,[],[],qhr t u s,0,[]⟩) (D+90000):=zb0 (wk h) hu (by simp;omega)
 have hl:=qh1 t hu ⟨2,0,[],[],qhr t u s,0,[]⟩
 unfold qgt
 split
 ·split
  ·rename_i k hk
   have hkr:=zb9 h.kd hu hk
   split
   ·have hi:k.toNat < t.length:=by omega
    refine ⟨⟨up_data h.up hi _,zbi h.kd hi _,fun n hn=>?_⟩,by rw [qfr _ hi];exact Nat.le_refl _,by rw [qfr _ hi];omega⟩
    have:=da_data h.da hi _ n hn;omega
   ·exact ⟨hp,by omega,by omega⟩
  ·exact ⟨hp,by omega,by omega⟩
 ·exact ⟨wk h,Nat.le_refl _,by omega⟩
def qei (L:List Nd):List (Int × Str):=(L.filter fun n=>decide (n.kind=1)).map fun n=>(n.space,n.name)
theorem qf5 (a b:List Nd):qei (a++b)=qei a++qei b:=by simp [qei]
theorem qdr (n:Nd):qei [n]=if n.kind=1 then [(n.space,n.name)] else []:=by
 unfold qei
 by_cases h:n.kind=1 <;> simp [h]
theorem qra (a b:List Nd) (n m:Nd) (h:n.kind=m.kind∧n.space=m.space∧n.name=m.name):qei (a++n::b)=qei (a++m::b):=by
 have e:∀ x:Nd,a++x::b=a++([x]++b):=fun x=>rfl
 rw [e,e,qf5,qf5,qf5,qf5,qdr,qdr,h.1,h.2.1,h.2.2]
theorem zbb (t:Tr) {i:Nat} (hi:i < t.length) (K:List Int):qei (qcn t i K)=qei t:=by
 conv=>rhs;rw [qe3 hi]
 exact qra _ _ _ _ ⟨rfl,rfl,rfl⟩
theorem labs_up (t:Tr) {i:Nat} (hi:i < t.length) (u:Int):qei (qfu t i u)=qei t:=by
 conv=>rhs;rw [qe3 hi]
 exact qra _ _ _ _ ⟨rfl,rfl,rfl⟩
theorem zbc (t:Tr) {i:Nat} (hi:i < t.length) (s:Str):qei (qhd t i s)=qei t:=by
 conv=>rhs;rw [qe3 hi]
 exact qra _ _ _ _ ⟨rfl,rfl,rfl⟩
theorem qwy (t:Tr) {u:Nat} (hu:u < t.length) (n:Nd):qei (qgi t u n)=qei t++qei [n]:=by
 unfold qgi
 rw [labs_up _ (by rw [qdb (by simp;omega)];simp),zbb _ (by simp;omega),qf5,qdr,qdr]
 rfl
theorem chars_ok {P:List Nd} {up:Nat} {s:Str} {out:Tr} (h:qu6 out) (hu:up < out.length):qu6 (qgt P up s out)∧out.length≤(qgt P up s out).length∧qei (qgt P up s out)=qei out:=by
 have hp:=qwy out hu ⟨2,0,[],[],qhr out up s,0,[]⟩
 have hl:=qh1 out hu ⟨2,0,[],[],qhr out up s,0,[]⟩
 have hz:qei [(⟨2,0,[],[],qhr out up s,0,[]⟩ : Nd)]=[]:=by rw [qdr];simp
 rw [hz,List.append_nil] at hp
 unfold qgt
 split
 ·split
  ·rename_i k hk
   have hkr:=zb9 h hu hk
   split
   ·have hi:k.toNat < out.length:=by omega
    exact ⟨zbi h hi _,by rw [qfr _ hi];exact Nat.le_refl _,zbc _ hi _⟩
   ·exact ⟨qx0 h hu _,by rw [hl];omega,hp⟩
  ·exact ⟨qx0 h hu _,by rw [hl];omega,hp⟩
 ·exact ⟨h,Nat.le_refl _,rfl⟩
section
variable {v:Tr}
def bndL (v:Tr) (f:Nat) (K:List Int):List (Int × Str):=qei ((K.flatMap fun k=>qdj (qap v) f k.toNat).map (qa3 v))
theorem bnd_cons (f:Nat) (k:Int) (r:List Int):bndL v f (k::r)=qei ((qdj (qap v) f k.toNat).map (qa3 v))++bndL v f r:=by
 unfold bndL
 rw [List.flatMap_cons,List.map_append,qf5]
theorem qoe {f:Nat} {rec:List Nd→Int→Nat→Tr→Tr} (hrec:∀ P k up out,0≤k→k < (v.length:Int)→qu6 out→up < out.length→qu6 (rec P k up out)∧out.length≤(rec P k up out).length∧∃ s,qei (rec P k up out)=qei out++s∧s.Sublist (bndL v f (qap v k.toNat)))
  (P:List Nd) (up:Nat):∀ (K:List Int),(∀ k,k∈K→0≤k∧k < (v.length:Int))→∀ out,qu6 out→up < out.length→qu6 (goM rec v P up K out)∧out.length≤(goM rec v P up K out).length∧∃ s,qei (goM rec v P up K out)=qei out++s∧s.Sublist (bndL v (f+1) K)
 | [],_,out,h,hu=>⟨h,Nat.le_refl _,[],by simp [goM],by simp⟩
 | k::r,hK,out,h,hu=>by
  obtain ⟨k0,k1⟩:=hK k (by simp)
  have hr:=fun k hk=>hK k (List.mem_cons_of_mem _ hk)
  have ek:((k.toNat:Nat):Int)=k:=by omega
  rw [bnd_cons,qdj,List.map_cons,ek]
  have hone:∀ L:List Nd,qei (qa3 v k::L)=qei [qa3 v k]++qei L:=fun L=>qf5 [qa3 v k] L
  rw [hone,show qei (List.map (qa3 v) ((qap v k.toNat).flatMap fun c=>qdj (qap v) f c.toNat))=bndL v f (qap v k.toNat) from rfl]
  unfold goM
  split
  ·obtain ⟨a1,a2,a3⟩:=chars_ok (P:=P) (s:=(qa3 v k).data) h hu
   obtain ⟨b1,b2,s,b3,b4⟩:=qoe hrec P up r hr _ a1 (by omega)
   refine ⟨b1,by omega,s,by rw [b3,a3],?_⟩
   exact b4.trans (List.sublist_append_right _ _)
  ·split
   ·rename_i hk1
    have hlab:qei [qa3 v k]=[((qa3 v k).space,(qa3 v k).name)]:=by rw [qdr,if_pos hk1]
    split
    ·have hp:=qwy out hu (elN (qa3 v k))
     have hl:=qh1 out hu (elN (qa3 v k))
     have hlab2:qei [elN (qa3 v k)]=[((qa3 v k).space,(qa3 v k).name)]:=by rw [qdr,if_pos (show (elN (qa3 v k)).kind=1 from hk1)];rfl
     obtain ⟨a1,a2,s1,a3,a4⟩:=hrec (P++[elN (qa3 v k)]) k out.length (qgi out up (elN (qa3 v k))) k0 k1 (qx0 h hu _) (by omega)
     obtain ⟨b1,b2,s,b3,b4⟩:=qoe hrec P up r hr _ a1 (by omega)
     refine ⟨b1,by omega,[((qa3 v k).space,(qa3 v k).name)]++s1++s,by rw [b3,a3,hp,hlab2];simp,?_⟩
     rw [hlab]
     exact ((List.Sublist.refl _).append a4).append b4
    ·obtain ⟨a1,a2,s1,a3,a4⟩:=hrec P k up out k0 k1 h hu
     obtain ⟨b1,b2,s,b3,b4⟩:=qoe hrec P up r hr _ a1 (by omega)
     refine ⟨b1,by omega,s1++s,by rw [b3,a3];simp,?_⟩
     exact (a4.trans (List.sublist_append_right _ _)).append b4
   ·obtain ⟨b1,b2,s,b3,b4⟩:=qoe hrec P up r hr out h hu
    exact ⟨b1,b2,s,b3,b4.trans (List.sublist_append_right _ _)⟩
theorem qq1 (hv:qu6 v):∀ (f:Nat) (P:List Nd) (i:Int) (up:Nat) (out:Tr),0≤i→i < (v.length:Int)→qu6 out→up < out.length→qu6 (qg9 f v P i up out)∧out.length≤(qg9 f v P i up out).length∧∃ s,qei (qg9 f v P i up out)=qei out++s∧s.Sublist (bndL v f (qap v i.toNat))
 | 0,P,i,up,out,_,_,h,hu=>⟨h,Nat.le_refl _,[],by simp [qg9],by simp⟩
 | f+1,P,i,up,out,i0,i1,h,hu=>by
  have ei:((i.toNat:Nat):Int)=i:=by omega
  have ek:(qa3 v i).kids=qap v i.toNat:=by rw [← qd5 (by omega),← qbi (by omega),ei]
  rw [qg9,← ek]
  exact qoe (fun P k up out a b c d=>qq1 hv f P k up out a b c d) P up _ (hv _ (qb3 i0 i1)) out h hu
end
theorem skip_lab {x:Int × Str} {s L:List (Int × Str)} {n:Nd} (h:(x::s).Sublist (qei [n]++L)) (hx:¬ (n.kind=1∧n.name=x.2∧n.space=x.1)):(x::s).Sublist L:=by
 rw [qdr] at h
 split at h
 ·rename_i hk
  rcases List.sublist_cons_iff.1 h with h | ⟨r,hr,_⟩
  ·exact h
  ·exfalso
   simp only [List.cons.injEq] at hr
   exact hx ⟨hk,by rw [hr.1],by rw [hr.1]⟩
 ·exact h
theorem take_lab {x:Int × Str} {s L:List (Int × Str)} {n:Nd} (h:(x::s).Sublist (qei [n]++L)):s.Sublist L:=by
 rw [qdr] at h
 split at h
 ·rcases List.sublist_cons_iff.1 h with h | ⟨r,hr,h2⟩
  ·exact (List.sublist_cons_self _ _).trans h
  ·simp only [List.cons.injEq] at hr
   rw [hr.2];exact h2
 ·exact (List.sublist_cons_self _ _).trans h
def root0:Nd:=⟨0,0,[],[],[],-1,[]⟩
theorem labs_map {L:List Int} {f g:Int→Nd} (h:∀ x,x∈L→(f x).kind=(g x).kind∧(f x).space=(g x).space∧(f x).name=(g x).name):qei (L.map f)=qei (L.map g):=by
 induction L with
 | nil=>rfl
 | cons x r ih=>
  have e:∀ F:Int→Nd,qei ((x::r).map F)=qei [F x]++qei (r.map F):=fun F=>qf5 [F x] _
  obtain ⟨a,b,c⟩:=h x (by simp)
  rw [e,e,ih fun y hy=>h y (by simp [hy]),qdr,qdr,a,b,c]
theorem qui (v:Tr):((List.range v.length).map fun j=>((j:Nat):Int)).map (qa3 v)=v:=by
 refine List.ext_getElem (by simp) fun j h1 h2=>?_
 rw [List.getElem_map,List.getElem_map,List.getElem_range,qbi h2]
def qg8 (t:Tr):Tr:=qg9 ((qc9 t).length+2) (qc9 t) [] 0 0 [root0]
theorem qyc {t:Tr} (h:qbq t=true):(qei (qg8 t)).Sublist (qei ((qbf t.length (qap t)).map (qa3 t))):=by
 have w:=qh4 h
 have hr:=qgh h w
 have hv:qu6 (qc9 t):=qml hr
 have hp:=qdv hr
 have h0:qu6 [root0]:=fun n hn k hk=>by simp at hn;subst hn;simp [root0] at hk
 obtain ⟨_,_,s,h1,h2⟩:=qq1 hv ((qc9 t).length+2) [] 0 0 [root0] (Int.le_refl 0) (by omega) h0 (by simp)
 have hz:qei [root0]=[]:=by rw [qdr];simp [root0]
 unfold qg8
 rw [h1,hz,List.nil_append]
 refine h2.trans ?_
 have e1:=qmm hr 3
 have e2:qdj (qap (qc9 t)) ((qc9 t).length+3) 0=(0:Int)::(qap (qc9 t) 0).flatMap fun k=>qdj (qap (qc9 t)) ((qc9 t).length+2) k.toNat:=rfl
 have e3:=qsy h w
 rw [qfk (qde hr) hp,← e1,e2] at e3
 have e4:qei ((((0:Int)::(qap (qc9 t) 0).flatMap fun k=>qdj (qap (qc9 t)) ((qc9 t).length+2) k.toNat)).map (qa3 (qc9 t)))=qei (qc9 t):=by rw [e3,qui]
 have e5:qei (qc9 t)=qei ((qbf t.length (qap t)).map (qa3 t)):=by
  rw [qqu h]
  exact labs_map fun x hx=>⟨rfl,rfl,rfl⟩
 rw [← e5,← e4]
 have e6:∀ (n:Nd) (L:List Nd),(qei L).Sublist (qei (n::L)):=fun n L=>by
  rw [show qei (n::L)=qei [n]++qei L from qf5 [n] L]
  exact List.sublist_append_right _ _
 exact e6 _ _
section
variable {v:Tr}
def qvk (v:Tr):Nat→Int→Nat
 | 0,_=>0
 | f+1,i=>((qa3 v i).kids.map fun k=>1+qvk v f k).sum
def sumM (v:Tr) (f:Nat) (K:List Int):Nat:=(K.map fun k=>1+qvk v f k).sum
theorem qsc (f:Nat) (k:Int) (r:List Int):sumM v f (k::r)=1+qvk v f k+sumM v f r:=by simp [sumM]
def qz5 (rec:Int→Bool) (v:Tr) (P:List Nd) (K:List Int):Bool:=K.any fun k=>decide ((qa3 v k).kind=1) && (qwt P (elN (qa3 v k)) || rec k)
def qxp (v:Tr) (P:List Nd):Nat→Int→Bool
 | 0,_=>false
 | f+1,i=>qz5 (qxp v P f) v P (qa3 v i).kids
def qp0 (o:Option (List Nd)) (b:Bool):Option (List Nd):=if o=none∧b=true then some [] else o
theorem mL_opt (o:Option (List Nd)) (b:Bool):mL (qp0 o b)=mL o:=by
 unfold qp0
 split
 ·rename_i h;rw [h.1];rfl
 ·rfl
theorem opt_or (o:Option (List Nd)) (a b:Bool):qp0 (qp0 o a) b=qp0 o (a || b):=by
 unfold qp0
 cases o <;> cases a <;> cases b <;> simp
theorem qwk (P:List Nd) (b:Bool):qp0 (some P) b=some P:=by simp [qp0]
theorem opt_true (o:Option (List Nd)):qp0 o true=some (mL o):=by cases o <;> simp [qp0,mL]
structure LookOk (v:Tr):Prop where
 m:∀ n,n∈v→okM n
 e:∀ n,n∈v→okN (elN n)
 d:∀ n,n∈v→n.data.length≤30000
 k:∀ n,n∈v→n.kids.length≤100000∧∀ k,k∈n.kids→0≤k∧k < (v.length:Int)
theorem qlc {t:Tr} {D D':Nat} (h:MoOk t D) (hd:D≤D'):MoOk t D':=⟨h.up,h.kd,fun n hn=>by have:=h.da n hn;omega⟩
theorem zb1 (hv:LookOk v) {f:Nat} {rec:List Nd→Int→Nat→Tr→Tr}
  (hrec:∀ P k up out D,0≤k→k < (v.length:Int)→MoOk out D→up < out.length→MoOk (rec P k up out) (D+90000 * qvk v f k)∧out.length≤(rec P k up out).length∧(rec P k up out).length≤out.length+qvk v f k)
  (P:List Nd) (up:Nat):∀ (K:List Int),(∀ k,k∈K→0≤k∧k < (v.length:Int))→∀ out D,MoOk out D→up < out.length →
   MoOk (goM rec v P up K out) (D+90000 * sumM v f K)∧out.length≤(goM rec v P up K out).length∧(goM rec v P up K out).length≤out.length+sumM v f K
 | [],_,out,D,h,hu=>⟨qlc h (by omega),Nat.le_refl _,by simp [goM]⟩
 | k::r,hK,out,D,h,hu=>by
  obtain ⟨k0,k1⟩:=hK k (by simp)
  have hr:=fun k hk=>hK k (List.mem_cons_of_mem _ hk)
  have hm:qa3 v k∈v:=qb3 k0 k1
  rw [qsc]
  unfold goM
  split
  ·obtain ⟨a1,a2,a3⟩:=qwo (P:=P) h hu (hv.d _ hm)
   obtain ⟨b1,b2,b3⟩:=zb1 hv hrec P up r hr _ _ a1 (by omega)
   exact ⟨qlc b1 (by omega),by omega,by omega⟩
  ·split
   ·split
    ·have hp:MoOk (qgi out up (elN (qa3 v k))) D:=zb0 h hu (Nat.zero_le _)
     have hl:=qh1 out hu (elN (qa3 v k))
     obtain ⟨a1,a2,a3⟩:=hrec (P++[elN (qa3 v k)]) k out.length _ D k0 k1 hp (by omega)
     obtain ⟨b1,b2,b3⟩:=zb1 hv hrec P up r hr _ _ a1 (by omega)
     exact ⟨qlc b1 (by omega),by omega,by omega⟩
    ·obtain ⟨a1,a2,a3⟩:=hrec P k up out D k0 k1 h hu
     obtain ⟨b1,b2,b3⟩:=zb1 hv hrec P up r hr _ _ a1 (by omega)
     exact ⟨qlc b1 (by omega),by omega,by omega⟩
   ·obtain ⟨b1,b2,b3⟩:=zb1 hv hrec P up r hr out D h hu
    exact ⟨qlc b1 (by omega),by omega,by omega⟩
theorem qnz (hv:LookOk v):∀ (f:Nat) (P:List Nd) (i:Int) (up:Nat) (out:Tr) (D:Nat),0≤i→i < (v.length:Int)→MoOk out D→up < out.length →
  MoOk (qg9 f v P i up out) (D+90000 * qvk v f i)∧out.length≤(qg9 f v P i up out).length∧(qg9 f v P i up out).length≤out.length+qvk v f i
 | 0,P,i,up,out,D,_,_,h,hu=>⟨qlc h (by omega),Nat.le_refl _,by simp [qg9]⟩
 | f+1,P,i,up,out,D,i0,i1,h,hu=>by
  have hm:qa3 v i∈v:=qb3 i0 i1
  rw [qg9]
  exact zb1 hv (fun P k up out D a b c d=>qnz hv f P k up out D a b c d) P up _ (hv.k _ hm).2 out D h hu
end
end Go.Proofs.YtocnpnnplllneaaGreatDoor
namespace Go.Proofs.YtocnpnnplllneaaGreatDoor
set_option linter.unusedSimpArgs false
set_option linter.unusedVariables false
open Go Go.RowKit
set_option maxRecDepth 100000
set_option maxHeartbeats 2000000
structure MaT (T:List (Entry Tryz.prog)):Prop where
 d:qai 52 T=some e52.g
 o:qai 53 T=some e53.g
 l:qai 54 T=some e54.g
 c:qai 55 T=some e55.g
 a:qai 51 T=some e51.g
 p:qai 154 T=some e154.g
 s:qai 124 T=some e124.g
 h:qai 125 T=some e125.g
 i:qai 128 T=some e128.g
 t:qai 57 T=some e57.g
 m:qai 58 T=some e58.g
def qyo (v:Tr):Nat→Int→Prop
 | 0,_=>False
 | f+1,i=>∀ k,k∈(qa3 v i).kids→(qa3 v k).kind=1→qyo v f k
theorem zbf {T:List (Entry Tryz.prog)} (hT:MaT T) {v:Tr} (hv:LookOk v):∀ (f:Nat) (i:Int) (up:Nat) (out:Tr) (o:Option (List Nd)) (D:Nat),qyo v f i→0≤i→i < (v.length:Int)→up < out.length→MoOk out D→okP (mL o)→(mL o).length+f≤1000→out.length+qvk v f i≤90000→D+90000 * qvk v f i≤1000000000 →
  CallAt (ctx T) 22 [.ptr 0 0,.int .i64 i,.int .i64 (up:Int)] ⟨3,[mR v 1 out 2 o]⟩ (.tup []) ⟨5,[mR v 3 (qg9 f v (mL o) i up out) 4 (qp0 o (qxp v (mL o) f i))]⟩
 | 0,i,up,out,o,D,hf,_,_,_,_,_,_,_,_=>absurd hf (by simp [qyo])
 | f+1,i,up,out,o,D,hf,i0,i1,hu,hmo,hp,hlen,hN,hD=>by
  have ih:=zbf hT hv f
  have hix:=atX i0 i1
  have hne:out≠[]:=by intro e;subst e;simp at hu
  obtain ⟨P,hPo⟩ : ∃ P,P=mL o:=⟨_,rfl⟩
  rw [← hPo] at hp hlen ⊢
  obtain ⟨hkl,hkr⟩:=hv.k _ (qb3 i0 i1)
  obtain ⟨K,hK⟩ : ∃ K,K=(qa3 v i).kids:=⟨_,rfl⟩
  have gk:qc7 (qa3 v i).cs 6=some (qbh K):=by rw [hK];rfl
  have eN:qvk v (f+1) i=sumM v f K:=by rw [hK];rfl
  rw [eN] at hN hD
  simp only [qyo] at hf
  rw [← hK] at hf hkr hkl
  obtain ⟨R,hR⟩ : ∃ R,R=goM (qg9 f v) v P up K out:=⟨_,rfl⟩
  obtain ⟨oF,hoF⟩ : ∃ oF,oF=qp0 o (qz5 (qxp v P f) v P K):=⟨_,rfl⟩
  have eR:qg9 (f+1) v P i up out=R:=by rw [hR,hK];rfl
  have eO:qp0 o (qxp v P (f+1) i)=oF:=by rw [hoF,hK];rfl
  rw [eR,eO]
  clear eR eO eN hK
  have r0:qaq Tryz.prog ⟨3,[[],mR v 1 out 2 o]⟩ 22 (.ptr 0 0)=some (qae v):=rdm_v rfl
  generalize (qa3 v i).cs=ics at *
  refine qa2 (fn:=Tryz.f22) (s0:=⟨[0,1,2,7,8,17,18,19,32],[.ptr 0 0,.int .i64 i,.int .i64 (up:Int),.undef,.undef,.undef,.undef,.undef,.undef],[],48,⟨3,[]::[mR v 1 out 2 o]⟩⟩) Tryz.func22 rfl rfl rfl ?_
  repeat apply wq
  refine qa0 qa1 ?_
  simp [zS,r0,hix,gk,lenI]
  refine qab (qb7 (fun x:Nat × Tr × Option (List Nd)=>(⟨[0,1,2,7,8,17,18,19,32],[.ptr 0 0,.int .i64 i,.int .i64 (up:Int),.undef,.undef,qbh K,.int .i64 (K.length:Nat),.int .i64 (x.1:Int),.undef],[],48,⟨5,[[],mR v 3 x.2.1 4 x.2.2]⟩⟩ : St))
   (fun x=>x.1≤K.length∧mL x.2.2=P∧up < x.2.1.length∧(∃ D',MoOk x.2.1 D'∧D'+90000 * sumM v f (K.drop x.1)≤1000000000)∧x.2.1.length+sumM v f (K.drop x.1)≤90000∧goM (qg9 f v) v P up (K.drop x.1) x.2.1=R∧qp0 x.2.2 (qz5 (qxp v P f) v P (K.drop x.1))=oF) (fun x=>K.length - x.1) [(1,3),(2,4),(0,0)] [] (0,out,o)
   ⟨Nat.zero_le _,hPo.symm,hu,⟨D,hmo,hD⟩,hN,hR.symm,hoF.symm⟩
   ⟨rfl,rfl,rfl,by simp [qb1,qar,qay,qah,qac],(qyp (f:=[]) (by omega) (by omega) (by omega) (by omega) (by omega) hne rfl rfl rfl).fsV (by simp)⟩ ?_)
  clear hR hoF hmo hD hN r0 hu hne
  rintro ⟨j,ot,oc⟩ ⟨hj,ho,hu,⟨D',hmo,hD⟩,hN,hx,hy⟩ B hB
  simp only at hj ho hu hmo hD hN hx hy ⊢
  by_cases h:j < K.length
  ·have hc:(j:Int) < (K.length:Int):=by omega
   have hik:=atI h
   have hkm:=List.getElem_mem h
   rw [List.drop_eq_getElem_cons h] at hx hy hD hN
   rw [qsc] at hD hN
   unfold goM at hx
   obtain ⟨k0,k1⟩:=hkr _ hkm
   have hfk:=hf _ hkm
   have hixk:=atX k0 k1
   have hac:=qbu (show j≤1000000000 by omega)
   generalize K[j]=k at *
   repeat apply wq
   refine qa0 qa1 ?_
   simp [zS,hc,h]
   repeat apply wq
   refine qan rfl ?_
   refine qa9 ?_
   simp
   repeat apply wq
   refine qab ?_
   repeat apply wq
   refine qa0 qa1 ?_
   simp [zS,hik]
   repeat apply wq
   refine qa0 qa1 ?_
   simp [zS,rdm_v,hixk,qb5]
   repeat apply wq
   refine qa0 qa1 ?_
   simp [zS]
   refine qab ?_
   subst ho
   have hm:qa3 v k∈v:=qb3 k0 k1
   have hdl:=hv.d _ hm
   have hne:ot≠[]:=by intro e;subst e;simp at hu
   have hda:∀ n,n∈ot→n.data.length≤1000000000:=fun n hn=>by have:=hmo.da n hn;omega
   have hrnd:∀ {n:Nat} {t':Tr} {o':Option (List Nd)},t'≠[]→FitH 3 [(6,3),(7,4),(0,0)] [] ⟨n,[[(5,.cells (qa3 v k).cs)],mR v 6 t' 7 o']⟩ ⟨5,[[],mR v 3 t' 4 o']⟩:=fun h=>(qyp (by omega) (by omega) (by omega) (by omega) (by omega) h (by simp [getF]) (by simp [getF]) (by simp [getF])).fsV (by simp)
   have nil_of:∀ {t':Tr},ot.length≤t'.length→t'≠[]:=fun h e=>by rw [e] at h;simp at h;exact hne h
   by_cases hk2:(qa3 v k).kind=2
   ·rw [if_pos hk2] at hx
    have hch:=chars_at hT.d hT.o hT.l hT.c hT.a hT.p hT.s hT.h hT.i (v:=v) (s:=(qa3 v k).data) hdl hu (by omega) hmo.up hda hp (fun q hq=>hmo.kd _ (qb3 (by omega) (by omega)) q hq)
    obtain ⟨m1,m2,m3⟩:=qwo (P:=mL oc) hmo hu hdl
    have hcc:=qfi (n:=6) (k:=3) (j:=4) (fr:=[(5,.cells (qa3 v k).cs)]) hch (by simp [qb1,qar,qay,qah]) (by omega) (by omega) (by omega) (by omega) (by omega) hne (nil_of m2) (by simp)
    have hy2:qp0 oc (qz5 (qxp v (mL oc) f) v (mL oc) (K.drop (j+1)))=oF:=by rw [← hy];simp [qz5,hk2]
    generalize qgt (mL oc) up (qa3 v k).data ot=ot2 at *
    have g4:qc7 (qa3 v k).cs 4=some (.str (qa3 v k).data):=rfl
    repeat apply wq
    refine qa0 qa1 ?_
    simp [zS,hk2]
    refine qan (by simp [hk2]) ?_
    refine qa0 (qbc [⟨36,_,_,_,_,hcc⟩]) ?_
    simp [zS,qce,g4]
    refine qa0 qa1 ?_
    simp [zS,hac]
    exact hB _ (j+1,ot2,oc) (by simp only;omega) ⟨by simp only;omega,rfl,by simp only;omega,⟨_,m1,by simp only;omega⟩,by simp only;omega,hx,hy2⟩ ⟨[(6,3),(7,4),(0,0)],[],rfl,rfl,rfl,by simp [qb1,qar,qay,qah,qac],hrnd (nil_of m2)⟩
   ·rw [if_neg hk2] at hx
    by_cases hk1:(qa3 v k).kind=1
    ·rw [if_pos hk1] at hx
     have hfk:=hfk hk1
     have hee:=hv.e _ hm
     have hmm:=hv.m _ hm
     have hxa:(qma (qa3 v k)).length≤1000000:=by have:(qma (qa3 v k)).length≤1000:=hee.2.1;omega
     have pn:=qy7 (qa3 v k)
     cases hb:qwt (mL oc) (elN (qa3 v k)) with
     | true=>
      rw [if_pos hb] at hx
      have hP2:okP (mL oc++[elN (qa3 v k)]):=⟨by simp;omega,fun n hn=>by
       rcases List.mem_append.1 hn with hn | hn
       ·exact hp.2 n hn
       ·simp at hn;subst hn;exact hee⟩
      have mp:=zb0 hmo hu (n:=elN (qa3 v k)) (Nat.zero_le _)
      have hl:=qh1 ot hu (elN (qa3 v k))
      have hih:=ih k ot.length (qgi ot up (elN (qa3 v k))) (some (mL oc++[elN (qa3 v k)])) D' hfk k0 k1 (by omega) mp hP2 (by simp [mL] at hlen ⊢;omega) (by omega) (by omega)
      rw [qwk] at hih
      obtain ⟨m1,m2,m3⟩:=qnz hv f (mL oc++[elN (qa3 v k)]) k ot.length (qgi ot up (elN (qa3 v k))) D' k0 k1 mp (by omega)
      have hr:qg9 f v (mL oc++[elN (qa3 v k)]) k ot.length (qgi ot up (elN (qa3 v k)))≠[]:=nil_of (by omega)
      have hel:=elem_yes hT.t hT.m hT.a hT.p hT.s hT.h hT.i (v:=v) (o:=oc) hmm hee hxa hp hu (by omega) hmo.up hr hb hih
      have hcc:=qfi (n:=6) (k:=3) (j:=4) (fr:=[(5,.cells (qa3 v k).cs)]) hel (by simp [qb1,qar,qay,qah,qba pn]) (by omega) (by omega) (by omega) (by omega) (by omega) hne hr (by simp)
      have hy2:qp0 (some (mL oc)) (qz5 (qxp v (mL oc) f) v (mL oc) (K.drop (j+1)))=oF:=by
       rw [← hy,qwk,← opt_true];simp [qz5,hk1,hb]
      generalize qg9 f v (mL oc++[elN (qa3 v k)]) k ot.length (qgi ot up (elN (qa3 v k)))=ot2 at *
      repeat apply wq
      refine qa0 qa1 ?_
      simp [zS,hk2]
      refine qam (by simp [hk2]) ?_
      repeat apply wq
      refine qa0 qa1 ?_
      simp [zS,hk1]
      refine qan (by simp [hk1]) ?_
      refine qa0 (qbc [⟨37,_,_,_,_,hcc⟩]) ?_
      simp [zS,qce,qb5]
      refine qa0 qa1 ?_
      simp [zS,hac]
      exact hB _ (j+1,ot2,some (mL oc)) (by simp only;omega) ⟨by simp only;omega,rfl,by simp only;omega,⟨_,m1,by simp only;omega⟩,by simp only;omega,hx,hy2⟩ ⟨[(6,3),(7,4),(0,0)],[],rfl,rfl,rfl,by simp [qb1,qar,qay,qah,qac],hrnd (nil_of (by omega))⟩
     | false=>
      rw [if_neg (by rw [hb];simp)] at hx
      have hih:=ih k up ot oc D' hfk k0 k1 hu hmo hp (by omega) (by omega) (by omega)
      obtain ⟨m1,m2,m3⟩:=qnz hv f (mL oc) k up ot D' k0 k1 hmo hu
      have hel:=elem_no hT.t hT.m (v:=v) (o:=oc) hmm hee hp hne (nil_of m2) hb hih
      have hcc:=qfi (n:=6) (k:=3) (j:=4) (fr:=[(5,.cells (qa3 v k).cs)]) hel (by simp [qb1,qar,qay,qah,qba pn]) (by omega) (by omega) (by omega) (by omega) (by omega) hne (nil_of m2) (by simp)
      have hy2:qp0 (qp0 oc (qxp v (mL oc) f k)) (qz5 (qxp v (mL oc) f) v (mL oc) (K.drop (j+1)))=oF:=by
       rw [← hy,opt_or];simp [qz5,hk1,hb]
      have hmo2:=mL_opt oc (qxp v (mL oc) f k)
      generalize qp0 oc (qxp v (mL oc) f k)=oc2 at *
      generalize qg9 f v (mL oc) k up ot=ot2 at *
      repeat apply wq
      refine qa0 qa1 ?_
      simp [zS,hk2]
      refine qam (by simp [hk2]) ?_
      repeat apply wq
      refine qa0 qa1 ?_
      simp [zS,hk1]
      refine qan (by simp [hk1]) ?_
      refine qa0 (qbc [⟨37,_,_,_,_,hcc⟩]) ?_
      simp [zS,qce,qb5]
      refine qa0 qa1 ?_
      simp [zS,hac]
      exact hB _ (j+1,ot2,oc2) (by simp only;omega) ⟨by simp only;omega,hmo2,by simp only;omega,⟨_,m1,by simp only;omega⟩,by simp only;omega,hx,hy2⟩ ⟨[(6,3),(7,4),(0,0)],[],rfl,rfl,rfl,by simp [qb1,qar,qay,qah,qac],hrnd (nil_of m2)⟩
    ·rw [if_neg hk1] at hx
     have hy2:qp0 oc (qz5 (qxp v (mL oc) f) v (mL oc) (K.drop (j+1)))=oF:=by rw [← hy];simp [qz5,hk1]
     repeat apply wq
     refine qa0 qa1 ?_
     simp [zS,hk2]
     refine qam (by simp [hk2]) ?_
     repeat apply wq
     refine qa0 qa1 ?_
     simp [zS,hk1]
     refine qam (by simp [hk1]) ?_
     refine qa9 ?_
     simp
     refine qa0 qa1 ?_
     simp [zS,hac]
     exact hB _ (j+1,ot,oc) (by simp only;omega) ⟨by simp only;omega,rfl,hu,⟨_,hmo,by simp only;omega⟩,by simp only;omega,hx,hy2⟩ ⟨[(3,3),(4,4),(0,0)],[],rfl,rfl,rfl,by simp [qb1,qar,qay,qah,qac],(qyp (by omega) (by omega) (by omega) (by omega) (by omega) hne (by simp [getF]) (by simp [getF]) (by simp [getF])).fsV (by simp)⟩
  ·have hc:¬ (j:Int) < (K.length:Int):=by omega
   rw [List.drop_eq_nil_of_le (by omega)] at hx hy
   have hne:ot≠[]:=by intro e;subst e;simp at hu
   repeat apply wq
   refine qa0 qa1 ?_
   simp [zS,hc,h]
   repeat apply wq
   refine qam rfl ?_
   refine qaw ?_
   simp [qad,Tryz.f22,oneOr,qaf,qa6]
   have hx:ot=R:=hx
   have hy:oc=oF:=by rw [← hy];simp [qz5,qp0]
   rw [← hx,← hy]
   exact ⟨_,_,by simp [qar,qb1],fitm (k:=3) (j:=4) (f:=[]) (by omega) (by omega) (by omega) (by omega) hne rfl rfl rfl⟩
end Go.Proofs.YtocnpnnplllneaaGreatDoor
namespace Go.Proofs.YtocnpnnplllneaaGreatDoor
set_option linter.unusedSimpArgs false
set_option linter.unusedVariables false
open Go Go.RowKit
theorem qx8 (v:Tr):∀ (f:Nat) (i:Int),fits f v i→qyo v f i
 | 0,i,h=>h
 | f+1,i,h=>fun k hk hk1=>qx8 v f k (h k hk hk1)
theorem zd2 {v:Tr} (hv:∀ n,n∈v→∀ k,k∈n.kids→0≤k∧k < (v.length:Int)):∀ (f:Nat) (i:Int),0≤i→i < (v.length:Int)→1+qvk v f i=(qdj (qap v) (f+1) i.toNat).length
 | 0,i,i0,i1=>by
  have hz:∀ L:List Int,(L.map fun _=>0).sum=0:=fun L=>by induction L <;> simp_all
  simp [qvk,qdj,hz]
 | f+1,i,i0,i1=>by
  have hm:qa3 v i∈v:=qb3 i0 i1
  have ei:((i.toNat:Nat):Int)=i:=by omega
  have ek:(qa3 v i).kids=qap v i.toNat:=by rw [← qd5 (by omega),← qbi (by omega),ei]
  rw [qdj,List.length_cons,List.length_flatMap,qvk,ek]
  have:((qap v i.toNat).map fun k=>1+qvk v f k)=(qap v i.toNat).map fun c=>(qdj (qap v) (f+1) c.toNat).length:=by
   refine List.map_congr_left fun k hk=>?_
   have hk2:=hv _ hm k (by rw [ek];exact hk)
   exact zd2 hv f k hk2.1 hk2.2
  rw [this];omega
theorem qxf {t:Tr} (h:qbq t=true):1+qvk (qc9 t) ((qc9 t).length+2) 0=(qc9 t).length:=by
 have w:=qh4 h
 have hr:=qgh h w
 have e1:=qmm hr 3
 have e3:=qsy h w
 rw [qfk (qde hr) (qdv hr),← e1] at e3
 have hp:=qdv hr
 rw [zd2 (qml hr) _ 0 (Int.le_refl 0) (by omega)]
 show (qdj (qap (qc9 t)) ((qc9 t).length+3) 0).length=_
 rw [e3];simp
theorem zc7 {t:Tr} (h:qbq t=true):qyo (qc9 t) ((qc9 t).length+2) 0:=
 have hr:=qgh h (qh4 h)
 qx8 _ _ _ (zc8 hr _ 0 (qdv hr) (by omega))
theorem zdo (n:Nd) {q:At1→Prop}:∀ (L out:List At1),(∀ a,a∈out→q a)→(∀ a,a∈L→q (a.1,qhi a.2))→(qmf n out L).length≤out.length+L.length∧∀ a,a∈qmf n out L→q a
 | [],out,h,_=>⟨by simp [qmf],by simpa [qmf] using h⟩
 | a::r,out,h,hL=>by
  have h0:=hL a (by simp)
  have hr:=fun b hb=>hL b (List.mem_cons_of_mem a hb)
  have hadd:∀ b,b∈qu9 out (a.1,qhi a.2)→q b:=fun b hb=>by
   unfold qu9 at hb
   split at hb
   ·rcases List.mem_append.1 hb with hb | hb
    ·exact h b hb
    ·simp at hb;subst hb;exact h0
   ·exact h b hb
  have hl:=qxk out (a.1,qhi a.2)
  unfold qmf
  split
  ·obtain ⟨i1,i2⟩:=zdo n r (qu9 out (a.1,qhi a.2)) hadd hr
   exact ⟨by simp only [List.length_cons];omega,i2⟩
  ·obtain ⟨i1,i2⟩:=zdo n r out h hr
   exact ⟨by simp only [List.length_cons];omega,i2⟩
def FewM (n:Nd):Prop:=n.name.length≤40∧n.data.length≤300∧n.attrs.length≤14∧∀ a,a∈n.attrs→a.1.length≤40∧a.2.length≤150
theorem few_M {n:Nd} (h:qju n=true):FewM n:=by
 simp only [qju,qia,Bool.and_eq_true,decide_eq_true_eq,List.all_eq_true] at h
 refine ⟨h.1,h.2.1,h.2.2.2.1,fun a ha=>?_⟩
 have:=h.2.2.2.2 a ha
 simpa [qol] using this
theorem few_okM {n:Nd} (h:FewM n):okM n:=
 ⟨⟨by have:=h.1;omega,by have:=h.2.2.1;omega,by have:=h.2.1;omega,fun a ha=>by have:=h.2.2.2 a ha;exact ⟨by omega,by omega⟩⟩,by have:=h.2.2.1;omega,fun a ha=>by have:=h.2.2.2 a ha;omega⟩
theorem few_elN {n:Nd} (h:FewM n):okN (elN n):=by
 obtain ⟨i1,i2⟩:=zdo n (q:=fun a=>a.1.length≤100000∧a.2.length≤100000) n.attrs [] (by simp) (fun a ha=>by
  have:=h.2.2.2 a ha
  have hd:=qkv _ a.2 (Nat.le_refl _)
  exact ⟨by simp only;omega,by simp only;omega⟩)
 refine ⟨by have:=h.1;show n.name.length≤_;omega,?_,Nat.zero_le _,i2⟩
 show (qma n).length≤1000
 have:=h.2.2.1
 unfold qma
 simp at i1
 omega
theorem qit {t:Tr} (h:qbq t=true) (hf:∀ n,n∈t→qju n=true) {n:Nd} (hn:n∈qc9 t):FewM n∧n.kids.length≤60:=by
 rw [qqu h] at hn
 obtain ⟨x,hx,rfl⟩:=List.mem_map.1 hn
 have hr:=qnr hx
 have hm:qa3 t x∈t:=qb3 hr.1 hr.2
 have hM:=few_M (hf _ hm)
 have hk:=hf _ hm
 simp only [qju,Bool.and_eq_true,decide_eq_true_eq] at hk
 exact ⟨hM,by simp [newN];exact hk.2.2.1⟩
theorem zb6 {t:Tr} (h:qbq t=true) (hf:∀ n,n∈t→qju n=true):LookOk (qc9 t) where
 m:=fun n hn=>few_okM (qit h hf hn).1
 e:=fun n hn=>few_elN (qit h hf hn).1
 d:=fun n hn=>by have:=(qit h hf hn).1.2.1;omega
 k:=fun n hn=>⟨by have:=(qit h hf hn).2;omega,qml (qgh h (qh4 h)) n hn⟩
end Go.Proofs.YtocnpnnplllneaaGreatDoor
namespace Go.Proofs.YtocnpnnplllneaaGreatDoor
set_option linter.unusedSimpArgs false
set_option linter.unusedVariables false
open Go Go.RowKit
set_option maxRecDepth 100000
set_option maxHeartbeats 1000000
theorem VR.slcInv {ρ:Place} {b o n c:Nat} {x:Value} (h:VR ρ (.slc b o n (.ex c)) x):∃ l,ρ b=some l∧x=.slice (some ⟨l.cb,l.off+o,none⟩) n c∧n≤c:=by
 cases h with
 | slcE b o len c l h hc=>exact ⟨l,h,rfl,hc⟩
theorem VR.aggInv1 {ρ:Place} {v:AV} {x:Value} (h:VR ρ (.agg [v]) x):∃ y,x=.agg #[y]∧VR ρ v y:=by
 cases h with
 | agg cs vs hl hv=>
  have h0:0 < vs.size:=by rw [hl];simp
  refine ⟨vs[0],?_,hv 0 (by simp) h0⟩
  congr 1
  apply Array.ext
  ·rw [hl];rfl
  ·intro i h1 h2
   have:i=0:=by simp at h2;omega
   subst this
   rfl
theorem CallAt.rest {C:Ctx} {f:FuncId} {args:List AV} {n sz:Nat} {cs:List AV} (h:CallAt C f args ⟨0,[]⟩ (.agg [.slc 0 0 n (.ex n)]) ⟨1,[[(0,.cells cs)]]⟩) (hc:cs.length=n * sz) (hp:qac cs=true) (hn:n≤9223372036854775807) :
  CallAt C f args ⟨0,[]⟩ (.agg [.slc 0 0 n (.rest sz)]) ⟨1,[[(0,.cells cs)]]⟩:=by
 intro ρ w xs sm hx
 have key:∀ {x:Value} {ρ':Place} {w':World},VR ρ' (.agg [.slc 0 0 n (.ex n)]) x→Sim ρ' ⟨1,[[(0,.cells cs)]]⟩ w'→Step ρ ⟨0,[]⟩ w ρ' ⟨1,[[(0,.cells cs)]]⟩ w'→∃ ρ'',VR ρ'' (.agg [.slc 0 0 n (.rest sz)]) x∧Sim ρ'' ⟨1,[[(0,.cells cs)]]⟩ w'∧Step ρ ⟨0,[]⟩ w ρ'' ⟨1,[[(0,.cells cs)]]⟩ w':=fun {x ρ' w'} h1 h2 h3=>by
  obtain ⟨y,rfl,hy⟩:=h1.aggInv1
  obtain ⟨l,hl,rfl,_⟩:=hy.slcInv
  obtain ⟨l',hl',g2,g3,g4⟩:=h2.live (0,.cells cs) (by simp [Heap.ents])
  rw [hl] at hl'
  cases hl'
  obtain ⟨r1,r2,r3⟩:=g4
  obtain ⟨ρ'',e⟩ : ∃ ρ'':Place,ρ''=ρ'.upd 0 ⟨l.cb,l.off,l.off+cs.length⟩:=⟨_,rfl⟩
  have u0:ρ'' 0=some ⟨l.cb,l.off,l.off+cs.length⟩:=by rw [e];exact Place.upd_same
  have uo:∀ b,b≠0→ρ'' b=ρ' b:=fun b hb=>by rw [e];exact Place.upd_other hb
  have eB:ρ''.B=ρ'.B:=by rw [e];rfl
  have eW:ρ''.W=ρ'.W:=by rw [e];rfl
  have ebare:ρ''.bare=ρ'.bare:=by rw [e];rfl
  have hd:∀ b,ρ b=none:=fun b=>sm.dom b (Nat.zero_le _)
  have only:∀ e,e∈(⟨1,[[(0,.cells cs)]]⟩ : Heap).ents→e=(0,.cells cs):=fun e he=>by simpa [Heap.ents] using he
  refine ⟨ρ'',?_,⟨?_,?_,?_,?_,?_,?_,?_,?_,?_⟩,⟨⟨?_,?_,?_,?_,?_⟩,h3.size,?_,?_,h3.num,?_,?_⟩⟩
  ·refine .agg _ _ (by simp) fun i hi hi'=>?_
   have:i=0:=by simp at hi;omega
   subst this
   exact .slcR 0 0 n sz n ⟨l.cb,l.off,l.off+cs.length⟩ u0 (Nat.le_refl _) ⟨by simp [hc],hn⟩
  ·rw [eB];exact h2.base
  ·rw [eB,eW];exact h2.below
  ·rw [eW];exact h2.os
  ·rw [eW];exact h2.tape
  ·rw [eW];exact h2.output
  ·intro b hb
   rw [uo b (by simp at hb;omega)]
   exact h2.dom b hb
  ·exact h2.nodup
  ·intro e he
   rw [only e he]
   refine ⟨_,u0,by rw [eB];exact g2,g3,⟨by simp,fun i hi=>r2 i (by simp at hi;omega),fun i hi=>?_⟩⟩
   obtain ⟨x,hx1,hx2⟩:=r3 i hi
   refine ⟨x,hx1,?_⟩
   have:=hx2.pure (qeb hp i hi)
   rw [← ebare] at this
   exact this.mono ρ''.bare_le
  ·intro e e' he he' _ _ _ _ _
   rw [only e he,only e' he']
  ·intro b l0 hb
   rw [hd b] at hb;cases hb
  ·intro k hk
   rw [eB,eW];exact h3.le.fz k hk
  ·rw [eW];exact h3.le.os
  ·rw [eW];exact h3.le.tape
  ·rw [eW];exact h3.le.output
  ·exact h3.keeps
  ·intro e he l0 hl0
   rw [only e he] at hl0
   rw [u0] at hl0
   cases hl0
   exact h3.rows (0,.cells cs) (by simp [Heap.ents]) l hl
  ·intro b hb
   exact absurd hb (Nat.not_lt_zero b)
  ·intro k hk
   rw [eB] at hk
   exact h3.cold k hk
 rcases h ρ w xs sm hx with ⟨x,ρ',w',h0,h1,h2,h3⟩ | ⟨g,ys,h0,h1⟩
 ·obtain ⟨ρ'',k1,k2,k3⟩:=key h1 h2 h3
  exact .inl ⟨x,ρ'',w',h0,k1,k2,k3⟩
 ·refine .inr ⟨g,ys,h0,h1.mono ?_⟩
  rintro e w' ⟨x,ρ',rfl,m1,m2,m3⟩
  obtain ⟨ρ'',k1,k2,k3⟩:=key m1 m2 m3
  exact ⟨x,ρ'',rfl,k1,k2,k3⟩
theorem c21 {T:List (Entry Tryz.prog)}:CallAt (ctx T) 21 [] ⟨0,[]⟩ (.agg [.slc 0 0 1 (.rest 7)]) ⟨1,[[(0,.cells root0.cs)]]⟩:=by
 refine CallAt.rest ?_ rfl (by simp [root0,Nd.cs,qb6,qak,qac,qah]) (by omega)
 have b5:qgv Tryz.prog 34 [(5,.int .i64 (-1))]=some (.agg [.int .i64 0,.int .i64 0,.str [],.nilS,.str [],.int .i64 (-1),.nilS]):=rfl
 refine qa2 (fn:=Tryz.f21) (s0:=⟨[0],[.undef],[],4,⟨0,[[]]⟩⟩) Tryz.func21 rfl rfl rfl ?_
 have bt:∀ b n c,qgv Tryz.prog 24 [(0,.slc b 0 n c)]=some (.agg [.slc b 0 n c]):=fun b n c=>rfl
 have pr:qct 0 [1] [] [[(1,.cells [.int .i64 0,.int .i64 0,.str [],.nilS,.str [],.int .i64 (-1),.nilS]),(0,.cells [.nilS])]]=[[(1,.cells [.int .i64 0,.int .i64 0,.str [],.nilS,.str [],.int .i64 (-1),.nilS]),(0,.cells [.nilS])]]:=rfl
 repeat apply wq
 refine qa0 qa1 ?_
 simp [zS,b5,bt,pr]
 repeat apply wq
 refine qa0 qa1 ?_
 simp [zS,b5,bt,pr]
 refine qa8 ?_
 simp [qad,Tryz.f21,oneOr]
 refine ⟨_,rfl,[(1,0)],[],?_,⟨by simp,by simp,by simp [Heap.ents],by simp,fun x hx h=>absurd h (Nat.not_lt_zero _),by simp,fun e he=>?_,fun x hx=>by cases hx⟩⟩
 ·simp [qar,qb1,qay,readCells]
 ·simp only [Heap.ents,List.flatten_cons,List.flatten_nil,List.append_nil,List.mem_singleton] at he
  subst he
  exact ⟨1,_,by simp,rfl,by simp [qh6,qb1,qar,root0,Nd.cs,qb6,qak,qah]⟩
theorem new_at {T:List (Entry Tryz.prog)} (m:Nat) (f:List (Nat × Blk)) (fs:List (List (Nat × Blk))):CallAt (ctx T) 21 [] ⟨m,f::fs⟩ (.agg [.slc m 0 1 (.rest 7)]) ⟨m+1,((m,.cells root0.cs)::f)::fs⟩:=by
 have fh:FitH 0 [] [] ⟨m,f::fs⟩ ⟨0,[]⟩:=⟨by simp,by simp,by simp [Heap.ents],fun x h=>(by cases h),fun x h=>(by cases h),Nat.zero_le _,fun e he=>by simp [Heap.ents] at he,fun x h=>by cases h⟩
 have pr:qac root0.cs=true:=by simp [root0,Nd.cs,qb6,qak,qac,qah]
 have:=(c21 (T:=T)).framed (args:=[]) (H:=⟨m,f::fs⟩) (H':=⟨m+1,((m,.cells root0.cs)::f)::fs⟩) fh (by simp [qb1]) ⟨by simp,fun nd lt=>?_,fun e he=>?_⟩ (by simp)
 ·simpa [qhx,qfh,qgm,qdt] using this
 ·simp only [Heap.ents,List.flatten_cons,List.cons_append,List.map_cons,List.nodup_cons] at nd ⊢
  refine ⟨fun hx=>?_,nd⟩
  obtain ⟨e,he,hx⟩:=List.mem_map.1 hx
  have:=lt e (by simpa [Heap.ents] using he)
  simp only at this
  omega
 ·simp only [Heap.ents,List.flatten_cons,List.cons_append,List.mem_cons] at he
  rcases he with rfl | he
  ·refine .inl ⟨(0,.cells root0.cs),by simp [Heap.ents],?_⟩
   simp [qgm,qdt,ql9,qbr _ pr]
  ·exact .inr ⟨by simpa [Heap.ents] using he,fun x hx=>by cases hx⟩
theorem tree_at {T:List (Entry Tryz.prog)} (hT:MaT T) {t:Tr} (h:qbq t=true) (hv:LookOk (qc9 t)) (hl:(qc9 t).length≤900) (kTi:∀ H,qbb (ctx T) (.fn 20) [qav t] H=some (qav (qc9 t),H)) :
  CallAt (ctx T) 9 [qav t] ⟨0,[]⟩ (qav (qg8 t)) ⟨0,[]⟩:=by
 refine qa2 (fn:=Tryz.f9) (s0:=⟨[0,1,2,3],[qav t,.undef,.undef,.undef],[],11,⟨0,[[]]⟩⟩) Tryz.func9 rfl rfl rfl ?_
 have kTi':∀ H,qbb (ctx T) (.fn 20) [.agg [qae t]] H=some (.agg [qae (qc9 t)],H):=kTi
 have bld:qgv Tryz.prog 42 [(0,.agg [qae (qc9 t)]),(1,.agg [.slc 2 0 1 (.rest 7)])]=some (.agg [qae (qc9 t),.slc 2 0 1 (.rest 7),.nilS]):=rfl
 have lay3:∀ a b:AV,qge [a,b,.nilS] 0 [.nilS,.nilS,.nilS]=some [a,b,.nilS]:=fun _ _=>rfl
 have hnew:=new_at (T:=T) 2 [(1,.cells [.nilS]),(0,.cells [qae t])] []
 repeat apply wq
 refine qa0 qa1 ?_
 simp [zS]
 repeat apply wq
 refine qa0 (qbc [⟨21,_,_,_,_,hnew⟩]) ?_
 simp [zS,qce,kTi',bld,qcu,lay3,allSingle,AV.single]
 refine WpSr.fit [(3,0),(2,1),(1,3)] [] (s':=(⟨[0,1,2,3],[.undef,.undef,.ptr 3 0,.ptr 0 0],[],11,⟨4,[[(3,.cells [.nilS])],mR (qc9 t) 1 [root0] 2 none]⟩⟩ : St)) ⟨rfl,rfl,rfl,by simp [qb1,qar,qay,qah],?_⟩ ?_
 ·refine ⟨by simp,by simp,by simp [Heap.ents,mR,VE,mG,qes,qa4],by simp,fun x hx hlt=>absurd hlt (Nat.not_lt_zero _),by simp,fun e he=>?_,fun x hx=>by cases hx⟩
  simp only [Heap.ents,List.flatten_cons,List.flatten_nil,List.append_nil,List.mem_append,List.mem_singleton] at he
  rcases he with rfl | he
  ·exact ⟨1,.cells [.nilS],by simp,by simp [Heap.get,getFs,getF],qaj rfl⟩
  ·rcases qrq (by simp) e he with rfl | rfl | ⟨P,hP,rfl⟩
   ·exact ⟨3,.cells [qae (qc9 t),.slc 2 0 1 (.rest 7),.nilS],by simp,by simp [Heap.get,getFs,getF],by simp [qh6,qb1,qar,qay,mV,qba (qch (qc9 t))]⟩
   ·exact ⟨2,.cells root0.cs,by simp,by simp [Heap.get,getFs,getF],by simp only [List.map_cons,List.map_nil,qa4,List.append_nil,qh6];exact qaj (qh2 root0)⟩
   ·cases hP
 have hmo:MoOk [root0] 0:=⟨⟨by simp [root0],by simp [root0]⟩,fun n hn k hk=>by simp at hn;subst hn;simp [root0] at hk,by simp [root0]⟩
 have hct:=qxf h
 have hk:=zbf hT hv ((qc9 t).length+2) 0 0 [root0] none 0 (zc7 h) (Int.le_refl 0) (by omega) (by simp) hmo ⟨by simp [mL],by simp [mL]⟩ (by simp [mL];omega) (by simp;omega) (by omega)
 obtain ⟨m1,m2,m3⟩:=qnz hv ((qc9 t).length+2) (mL none) 0 0 [root0] 0 (Int.le_refl 0) (by omega) hmo (by simp)
 have hkc:=qfi (n:=4) (k:=1) (j:=2) (fr:=[(3,.cells [.nilS])]) hk (by simp [qb1,qar,qay,qah]) (by omega) (by omega) (by omega) (by omega) (by omega) (by simp) (fun e=>by rw [e] at m2;simp at m2) (by simp)
 repeat apply wq
 refine qa0 (qbc [⟨22,_,_,_,_,hkc⟩]) ?_
 simp [zS,qce]
 have eN:qg9 ((qc9 t).length+2) (qc9 t) (mL none) 0 0 [root0]=qg8 t:=rfl
 rw [eN] at m2 ⊢
 have hne:qg8 t≠[]:=fun e=>by rw [e] at m2;simp at m2
 have hne':(qg8 t).map qa7≠[]:=by simpa using hne
 generalize qp0 none (qxp (qc9 t) (mL none) ((qc9 t).length+2) 0)=o2
 have r1:=fun n=>zac (v:=qc9 t) (out:=qg8 t) (k:=4) (j:=4+1) (o:=o2) (n:=n) (f:=[(3,.cells [.nilS])]) rfl
 rw [qcb hne'] at r1
 have g0:getF 0 (mR (qc9 t) 4 (qg8 t) 5 o2)=some (.cells [qae (qc9 t),.slc 4 0 (qg8 t).length (.rest 7),mV 5 o2]):=by rw [mR_0,qcb hne',List.length_map]
 repeat apply wq
 refine qa0 qa1 ?_
 simp [zS,g0,qcu]
 refine qa8 ?_
 have g4:getF 4 (mR (qc9 t) 4 (qg8 t) 5 o2)=some (.cells (qa4 ((qg8 t).map qa7))):=mR_k (by omega) (by omega) (by omega) hne
 simp [qad,Tryz.f9,oneOr,readCells,Heap.get,getFs,getF,Blk.rd]
 have hel:=qbp (qg8 t)
 refine ⟨[],[(4,qa4 ((qg8 t).map qa7))],?_,{ nd1:=by simp,nd2:=by simp,nd3:=by simp [Heap.ents],lt:=by simp,idn:=by simp,num:=Nat.zero_le _,src:=by simp [Heap.ents],frz:=?_ }⟩
 ·have hl:=hel.len
  rw [List.length_map] at hl
  simp only [qav,qae,qar,qb1,qc5,if_true,and_true]
  exact .inl (.inl ⟨qa4 ((qg8 t).map qa7),rfl,by unfold qek;rw [List.drop_zero,← hl,qcz],by simp,hel.size⟩)
 ·intro y hy
  simp at hy
  subst hy
  exact ⟨qa4 ((qg8 t).map qa7),by simp [Heap.get,getFs,getF,g4],qaj (qnm _),qnm _⟩
end Go.Proofs.YtocnpnnplllneaaGreatDoor