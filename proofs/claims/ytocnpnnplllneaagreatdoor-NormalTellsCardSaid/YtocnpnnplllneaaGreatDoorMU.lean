/- shape.copied's closure, which calls itself: rows. No condition. -/
import Derived.Test.YtocnpnnplllneaaGreatDoorMT
namespace Go.Proofs.YtocnpnnplllneaaGreatDoor
noncomputable section
set_option linter.unusedSimpArgs false
set_option linter.unusedVariables false
open Go Go.RowKit
set_option maxRecDepth 100000
theorem zah:∀(s:Str),qsp (qad s)=some s
 |[]=>rfl
 |c::r=>by
  have h1:=zah r;have h2:zai (.int .u8 c.toNat)=some c:=by show (idx (c.toNat:Int) 256).bind _=_;rw[qbv (by have:=c.toNat_lt;omega)];simp
  simp only[qad,qsp,h1,h2,Option.bind_some]
theorem sd0{H:Heap} {ts:Array TypeId}:qc4 PG H .unsafeSliceData ts [.nilS]=some (.nilP,H):=rfl
theorem sd1{H:Heap} {ts:Array TypeId} {k n:Nat} {cap:Cap}:qc4 PG H .unsafeSliceData ts [.slc k 0 (n+1) cap]=some (.ptr k 0,H):=rfl
theorem us0{H:Heap}:qc4 PG H .unsafeString #[119,3] [.nilP,.int .i64 0]=some (.str [],H):=rfl
theorem us1{H:Heap} {k:Nat} {out:Str} (hg:H.get k=some (.buf 5 out.length (qad out))) (hs:H.set k (.buf 5 out.length (qad out))=some H) (hne:out≠[]) (hl:out.length<=1000000000) :
  qc4 PG H .unsafeString #[119,3] [.ptr k 0,.int .i64 (out.length:Nat)]=some (.str out,H):=by
 have h0:idx (out.length:Int) 140737488355328=some out.length:=qbv (by omega);have hpos:Nat.blt 0 out.length=true:=by have:=List.length_pos_iff.2 hne;simpa using this
 have h1:(Nat.beq 5 5 && Nat.beq 0 0 && Nat.blt 0 out.length)=true:=by rw[hpos];rfl
 have hc:Nat.beq (PG.cellsOf 5) 1=true:=by kernel_rfl
 have ht:qew out.length (qad out)=some (qad out):=by
  have:=qco (qad out)
  rwa [qd3]at this
 have hu:PG.underlying 119=some (.pointer 5):=Tryz.underlying119;have hv:PG.underlying 5=some (.int .u8):=Tryz.underlying5;have hts:(#[119,3]:Array TypeId)[0]? = some 119:=rfl;unfold qc4;simp only[h0,Option.bind_some,hts,hu,hg,h1,hv,hc,ht,zah,Nat.max_self,hs]
theorem c77{T:List (Entry PG)} {m wb:Nat} {ty:TypeId} {b:Bs} {cs:List AV} {g:List (Nat × Blk)} (h:Wok m wb b cs g) (hlen:b.out.length<=1000000000) :
  CA T 77 [.ptr wb 0] ⟨m,[WF wb ty (.ptr wb 0) b cs g]⟩ (.str b.out) ⟨m+1,[WF wb ty (.ptr wb 0) b cs g]⟩:=by
 refine qa0 (s0:=⟨[0,2],[.ptr wb 0,uD],[],14,⟨m,[]::[WF wb ty (.ptr wb 0) b cs g]⟩⟩) Tryz.func77 rfl rfl rfl ?_;apply ra;simp[zS];obtain⟨k,out⟩:=b;cases out with
 |nil=>
  repeat apply wq
  refine qbu mixed qbf (by decide +kernel) (by decide +kernel) ?_;simp[zS,qcr,qbl,qbi,qoh,bV,qf6,sd0,us0];apply qa5;simp[zQ,Tryz.f77];exact⟨idn m,[],qb5 rfl,qkq h⟩
 |cons c r=>
  have hg:∀n,Heap.get ⟨n,[[],WF wb ty (.ptr wb 0) ⟨k,c::r⟩ cs g]⟩ k=some (.buf 5 (c::r).length (qad (c::r))):=fun n=>by have:=WF_b (ty:=ty) (a:=.ptr wb 0) h (by simp);simp only[zG];rw[this]
  have hs:∀n,Heap.set ⟨n,[[],WF wb ty (.ptr wb 0) ⟨k,c::r⟩ cs g]⟩ k (.buf 5 (c::r).length (qad (c::r)))=some ⟨n,[[],WF wb ty (.ptr wb 0) ⟨k,c::r⟩ cs g]⟩:=fun n=>by have:=qjm (WF_b (ty:=ty) (a:=.ptr wb 0) h (by simp));simp only at this;simp only[Heap.set,setFs,setF,this,Option.bind_some,Option.bind_none]
  have hu:=fun n=>us1 (hg n) (hs n) (by simp) hlen;simp only[List.length_cons,Int.natCast_add,Int.natCast_one]at hu;repeat apply wq
  refine qbu mixed qbf (by decide +kernel) (by decide +kernel) ?_;simp[zS,qcr,qbl,qbi,qoh,bV,qf6,sd1,hu];apply qa5;simp[zQ,Tryz.f77];exact⟨idn m,[],qb5 rfl,qkq h⟩
theorem app_byte{m n t wb:Nat} {ty:TypeId} {a:AV} {b:Bs} {cs:List AV} {g:List (Nat × Blk)} (h:Wok m wb b cs g) (d:UInt8) (ht:m<=t) (hl:b.out.length+1<=1000000000) :
  qbz PG ⟨n,[[(t,.cells [.int .u8 d.toNat])],WF wb ty a b cs g]⟩ 5 (bV b) (.slc t 0 1 (.ex 1)) =
   some (.slc n 0 (b.out.length+1) (.rest 1),⟨n+1,[[(n,.buf 5 (if b.out=[] then 0 else b.out.length) (qad (b.out++[d]))),(t,.cells [.int .u8 d.toNat])],(wb,.obj ty (a::bV b::cs))::g]⟩):=by
 have hsz:qce PG 5=some 1:=szT5;have hby:qcq PG 5=some 1:=byT5;have hz:qc0 PG 5=some (.int .u8 0):=zeT5;have hroom:∀n,n<=1000000000->qcw n 1=true:=fun n hn=>by simp[qcw];omega
 have c0:(Nat.beq 1 0 || !(Nat.beq (AV.cells (.int .u8 0)).length 1 && Nat.blt 0 1))=false:=rfl;have hrow:∀cs,qom PG 5 cs=.buf 5 0 cs:=fun cs=>rfl;have hx1:qc9 (.slc t 0 1 (.ex 1))=some 1:=rfl;have hx2:qba ⟨n,[[(t,.cells [.int .u8 d.toNat])],WF wb ty a b cs g]⟩ 1 1 (.slc t 0 1 (.ex 1))=some (qad [d]):=by simp[qba,readCells,zG,qex,qew,qad]
 obtain⟨k,out⟩:=b;simp only at hl;unfold qbz;simp only[hsz,hby,hz,hx1,Option.bind_some,c0];cases out with
 |nil=>simp only[bV];have hr:=hroom 1 (by omega);have hcb:Nat.beq (qad [d]).length (1 * 1)=true:=rfl;simp only[hr,hx2,Option.bind_some,hcb,hrow];simp[Heap.new,pushF,WF,bV,bF]
 |cons c r=>
  have hkl:=(h.hk (by simp)).2;simp only at hkl;have htk:Nat.beq t k=false:=qao (by omega);have hg:Heap.get ⟨n,[[(t,.cells [.int .u8 d.toNat])],WF wb ty a ⟨k,c::r⟩ cs g]⟩ k=some (.buf 5 (c::r).length (qad (c::r))):=by have:=WF_b (ty:=ty) (a:=a) h (by simp);simp only[zG,htk];rw[this]
  have hk:qcp ⟨n,[[(t,.cells [.int .u8 d.toNat])],WF wb ty a ⟨k,c::r⟩ cs g]⟩ k=some (c::r).length:=by unfold qcp;simp only[hg,Option.bind_some,Blk.rd,qd3]
  have hr:=hroom ((c::r).length+1) hl;have h1:Nat.beq 1 1=true:=rfl;simp only[bV,hx2,Option.bind_some,hr,qkc,h1,hk];have h2:Nat.ble (0+((c::r).length+1) * 1) (c::r).length=false:=by rw[<- Bool.not_eq_true,Nat.ble_eq];simp
  have h3:Nat.beq (0+(c::r).length * 1) (c::r).length=true:=by simp
  have h4:readCells ⟨n,[[(t,.cells [.int .u8 d.toNat])],WF wb ty a ⟨k,c::r⟩ cs g]⟩ k 0 ((c::r).length * 1)=some (qad (c::r)):=by unfold readCells;simp only[hg,Option.bind_some,Blk.rd,qex,List.drop_zero,Nat.mul_one];rw[<- qd3 (c::r)];exact qco _
  have h5:Nat.beq (qad [d]).length (1 * 1)=true:=rfl;have h6:goOn (.buf 5 (c::r).length (qad (c::r))) 5 0 (qad (c::r)++qad [d])=some (.buf 5 (c::r).length (qad (c::r)++qad [d])):=rfl;simp only[h2,h3,h4,h5,Option.bind_some,hg,h6];have hd:Heap.drop ⟨n,[[(t,.cells [.int .u8 d.toNat])],WF wb ty a ⟨k,c::r⟩ cs g]⟩ k=⟨n,[[(t,.cells [.int .u8 d.toNat])],(wb,.obj ty (a::bV ⟨k,c::r⟩::cs))::g]⟩:=by have hkw:=(h.hk (by simp)).1;simp only[List.mem_cons,not_or]at hkw;have e1:Nat.beq wb k=false:=qao fun e=>hkw.1 e.symm;simp[Heap.drop,qen,getF,WF,e1,bF,killF,htk]
  rw[hd,<- qqy];simp[Heap.new,pushF,bV]
theorem fit_newF{f:List (Nat × Blk)} {m n c wb fz:Nat} {ty:TypeId} {out:Str} {b0:Bs} {cs:List AV} {g:List (Nat × Blk)} (h:Wok m wb b0 cs g) (hc:m<=c) (hne:out≠[]) (hfz:fz<=out.length) (hf:∀i,i < m->getF i f=none) (hfc:getF c f=none) :
  FitH m ((c,m)::idn m) [] ⟨n,[f,(c,.buf 5 fz (qad out))::(wb,.obj ty (.ptr wb 0::.slc c 0 out.length (.rest 1)::cs))::g]⟩ ⟨m+1,[WF wb ty (.ptr wb 0) ⟨m,out⟩ cs g]⟩:=by
 have hw:Nat.beq c wb=false:=qao (by have:=h.lw;omega);have hbv:bV ⟨c,out⟩=.slc c 0 out.length (.rest 1):=bV_ne (b:=⟨c,out⟩) hne;have idl:=qmn (m:=m) (k:=c) (k':=m) hc;refine fitWr (kc:=c) (k':=m) (fz:=fz) (out:=out) (O:=.obj ty (.ptr wb 0::.slc c 0 out.length (.rest 1)::cs)) (.inr ⟨rfl,rfl,hc⟩) (by omega) h.lw h.lg h.nd (fun _ hx=>?_) (by simp[zG,hw,hf wb h.lw]) ?_ (fun _=>by simp[zG,hfc]) hfz (fun e he=>⟨?_,h.sg e he⟩)
 ·rcases List.mem_cons.1 hx with hx|hx
  ·have:=h.lw;omega
  ·obtain⟨e,he,hx⟩:=List.mem_map.1 hx;have:=h.lg e he;omega
 ·rw[<- hbv];exact qqn (idl _ h.lw) (fun _=>by simp[qb2]) (h.sc _ idl)
 ·have nd:=h.nd;rw[List.nodup_cons]at nd;have e1:Nat.beq wb e.1=false:=qao fun x=>nd.1 (List.mem_map.2 ⟨e,he,x.symm⟩);have e2:Nat.beq c e.1=false:=qao (by have:=h.lg e he;omega);have:=qgj (fs:=[g]) (b:=e.1) (k:=e.2) (by simpa using nd.2) (by simpa using he);simp only[getFs]at this;simp only[zG,e1,e2,hf e.1 (h.lg e he)];exact this
theorem c75{T:List (Entry PG)} (hE:qIn 144 T e144) {m wb:Nat} {ty:TypeId} {a:AV} {b:Bs} {cs:List AV} {g:List (Nat × Blk)} (h:Wok m wb b cs g) (ha:a=.nilP\/a=.ptr wb 0)
  (hl:liesAt PG PG.depth ty ((cs.length+1+1) / PG.cellsOf ty) 0 88 1=true) (d:UInt8) (hs:b.out.length+1<=1000000000) :
  CA T 75 [.ptr wb 0,.int .u8 d.toNat] ⟨m,[WF wb ty a b cs g]⟩ .nilI ⟨m+1,[WF wb ty (.ptr wb 0) (upd m b [d]) cs g]⟩:=by
 have hcc:=(c116 (T:=T) hE h ha hl).perm (H2:=⟨m,[[],WF wb ty a b cs g]⟩) (H2':=⟨m+1,[[],WF wb ty (.ptr wb 0) b cs g]⟩) rfl rfl (by simp[Heap.ents]) (by simp[Heap.ents]);have happ:=app_byte (n:=m+2) (t:=m+1) (ty:=ty) (a:=.ptr wb 0) h d (by omega) hs;have hO:∀n,Heap.get ⟨n,[[],WF wb ty (.ptr wb 0) b cs g]⟩ wb=some (.obj ty (.ptr wb 0::bV b::cs)):=fun n=>by simp[zG,qoh]
 have hbw:Nat.beq (m+2) wb=false:=qao (by have:=h.lw;omega);have hbw1:Nat.beq (m+1) wb=false:=qao (by have:=h.lw;omega);have pr:=prom2 (wb:=wb) (c:=m+2) (k:=.buf 5 (if b.out=[] then 0 else b.out.length) (qad (b.out++[d]))) (x:=(m+2,.buf 5 (if b.out=[] then 0 else b.out.length) (qad (b.out++[d])))) (f1:=[(m+1,.cells [.int .u8 d.toNat])]) (f2:=(wb,.obj ty (.ptr wb 0::bV b::cs))::g) (kb:=.obj ty (.ptr wb 0::bV b::cs))
  (by simp[getF,hbw,hbw1]) (by simp[getF]) (by simp[getF]) (qn5 _ _ _)
 refine qa0 (s0:=⟨[0,1,4],[.ptr wb 0,.int .u8 d.toNat,uD],[],17,⟨m,[]::[WF wb ty a b cs g]⟩⟩) Tryz.func75 rfl rfl rfl ?_;apply ra;simp[zS];repeat apply wq
 refine qah (qbh [⟨116,_,_,_,_,hcc⟩]) ?_;simp[zS,qcc];apply ra;simp[zS,qoh,happ,hbw,hbw1,pr,killF];apply ra;simp[zS];apply qa5;simp[zQ,Tryz.f75];refine⟨(m+2,m)::idn m,[],by simp[qas,qab],?_⟩;have hne:b.out++[d]≠[]:=by simp
 have q:Nat.beq (m+1) (m+2)=false:=qao (by omega);have:=fit_newF (f:=[(m+1,.cells [.int .u8 d.toNat])]) (n:=m+2+1) (ty:=ty) (c:=m+2) (out:=b.out++[d]) (fz:=if b.out=[] then 0 else b.out.length) h (by omega) hne (by split<;>simp)
  (fun i hi=>by have:Nat.beq (m+1) i=false:=qao (by omega);simp[getF,this]) (by simp[getF,q])
 have hl:(b.out++[d]).length=b.out.length+1:=by simp
 rw[hl]at this;simpa[upd]using this
set_option maxHeartbeats 1000000
theorem liesZ:liesAt PG PG.depth 88 ((([]:List AV).length+1+1) / PG.cellsOf 88) 0 88 1=true:=by show liesAt PG PG.depth 88 (2 / PG.cellsOf 88) 0 88 1=true;decide +kernel
abbrev WZ(a:AV) (b:Bs):List (Nat × Blk):=WF 0 88 a b [] []
def aZ(z:Bool):AV:=if z=true then .nilP else .ptr 0 0
def HZ(z:Bool) (out:Str):Heap:=⟨2,[WZ (aZ z) ⟨1,out⟩]⟩
theorem okZ{m k:Nat} (hk:0 < k) (hm:k < m) (out:Str):Wok m 0 ⟨k,out⟩ [] []:=⟨by omega,by simp,by simp,fun _=>⟨by simp;omega,hm⟩,by simp,fun _ _=>by simp[qax]⟩
theorem fitZ{n k:Nat} {out:Str} (hk:0 < k) (hne:out≠[]):FitH 0 [(0,0),(k,1)] [] ⟨n,[WZ (.ptr 0 0) ⟨k,out⟩]⟩ (HZ false out) where
 nd1:=by simp;omega
 nd2:=by simp
 nd3:=by simp[HZ,aZ,Heap.ents,WF,zgw (b:=⟨1,out⟩) hne]
 lt:=fun x hx=>by simp at hx;rcases hx with rfl|rfl<;>simp[HZ]
 idn:=fun x hx h=>absurd h (Nat.not_lt_zero _)
 num:=Nat.zero_le _
 src:=fun e he=>by
  have he:e=(0,.obj 88 (.ptr 0 0::bV ⟨1,out⟩::[]))\/e=(1,.buf 5 out.length (qad out)):=by simpa[HZ,aZ,Heap.ents,WF,zgw (b:=⟨1,out⟩) hne]using he
  have w:=okZ (m:=k+1) hk (by omega) out;rcases he with rfl|rfl
  ·refine⟨0,.obj 88 (.ptr 0 0::bV ⟨k,out⟩::[]),by simp,by simp[Heap.get,getFs,qoh],?_⟩;refine qqn (by simp[qb2]) (fun _=>?_) (by simp[qax]);have:¬ (0:Nat)=k:=(by omega);simp[qb2,this]
  ·refine⟨k,.buf 5 out.length (qad out),by simp,?_,rfl,Nat.le_refl _,by rw[qd3];exact Nat.le_refl _,qak (qnm _)⟩;have:=WF_b (ty:=88) (a:=.ptr 0 0) w hne;simp only[Heap.get,getFs];rw[this]
 frz:=fun x h=>by cases h
theorem fitZ0{n:Nat} {H:Heap} (h:H.get 0=some (.obj 88 [.nilP,.nilS])):FitH 0 [(0,0)] [] H (HZ true []) where
 nd1:=by simp
 nd2:=by simp
 nd3:=by simp[HZ,aZ,Heap.ents,WF,bF]
 lt:=by simp[HZ]
 idn:=fun x hx h=>absurd h (Nat.not_lt_zero _)
 num:=Nat.zero_le _
 src:=fun e he=>by simp[HZ,aZ,Heap.ents,WF,bF,bV]at he;subst he;exact⟨0,_,by simp,h,rfl,by simp[qax,qas]⟩
 frz:=fun x h=>by cases h
section
variable {T:List (Entry PG)} {z:Bool} {out:Str}
theorem aZ_or(z:Bool):aZ z=.nilP\/aZ z=.ptr 0 0:=by cases z<;>simp[aZ]
theorem wsZ(hE:qIn 144 T e144) (s:Str) (hs:out.length+s.length<=1000000000) (hne:s≠[]):CA T 74 [.ptr 0 0,.str s] (HZ z out) (.tup [.int .i64 (s.length:Nat),.nilI]) ⟨3,[WZ (.ptr 0 0) ⟨2,out++s⟩]⟩:=by
 have h:=c74 (T:=T) (ty:=88) hE (okZ (m:=2) (k:=1) (by omega) (by omega) out) (aZ_or z) liesZ s hs;cases s with
 |nil=>exact absurd rfl hne
 |cons c r=>exact h
theorem wpZ(hE:qIn 144 T e144) (s:Str) (hs:out.length+s.length<=1000000000) (hne:s≠[]):CA T 76 [.ptr 0 0,aB s] (HZ z out) (.tup [.int .i64 (s.length:Nat),.nilI]) ⟨3,[WZ (.ptr 0 0) ⟨2,out++s⟩]⟩:=by
 have h:=c76 (T:=T) (ty:=88) hE (okZ (m:=2) (k:=1) (by omega) (by omega) out) (aZ_or z) liesZ s hs;cases s with
 |nil=>exact absurd rfl hne
 |cons c r=>exact h
theorem wbZ(hE:qIn 144 T e144) (d:UInt8) (hs:out.length+1<=1000000000):CA T 75 [.ptr 0 0,.int .u8 d.toNat] (HZ z out) .nilI ⟨3,[WZ (.ptr 0 0) ⟨2,out++[d]⟩]⟩:=
 c75 (T:=T) (ty:=88) hE (okZ (m:=2) (k:=1) (by omega) (by omega) out) (aZ_or z) liesZ d hs
end
theorem za8(H:Heap):FitH 0 [] [] H zH where
 nd1:=by simp
 nd2:=by simp
 nd3:=by simp[Heap.ents]
 lt:=by simp
 idn:=by simp
 num:=by simp
 src:=by intro e he;simp[Heap.ents]at he
 frz:=fun x h=>by cases h
theorem strZ{T:List (Entry PG)}:CA T 77 [.ptr 0 0] (HZ true []) (.str []) ⟨3,[[(0,.obj 88 [.nilP,.nilS])]]⟩:=by
 refine qa0 (s0:=⟨[0,2],[.ptr 0 0,uD],[],14,⟨2,[]::[[(0,.obj 88 [.nilP,.nilS])]]⟩⟩) Tryz.func77 rfl rfl rfl ?_;apply ra;simp[zS];repeat apply wq
 refine qbu mixed qbf (by decide +kernel) (by decide +kernel) ?_;simp[zS,qcr,qbl,qbi,qf6,sd0,us0];apply qa5;simp[zQ,Tryz.f77];refine⟨[(0,0)],[],qb5 rfl,?_⟩;exact {
  nd1:=by simp
  nd2:=by simp
  nd3:=by simp[Heap.ents]
  lt:=by simp
  idn:=by simp
  num:=by simp[HZ]
  src:=by intro e he;simp[Heap.ents]at he;subst he;exact⟨0,.obj 88 [.nilP,.nilS],by simp,by simp[zG],rfl,by simp[qax,qas]⟩
  frz:=fun x h=>by cases h }
theorem slB1{H:Heap} {s:Str} {j:Nat} (hj:j<=s.length):qdx PG H 74 (aB s) none (some (.int .i64 (j:Int))) none=some (aB (s.take j)):=by have h:=slB2 (H:=H) (s:=s) (i:=0) (j:=j) (Nat.zero_le _) hj;rw[List.drop_zero]at h;rw[<- h];rfl
theorem oneR4(s:Str):(qej s).1<=4:=by
 rw[qvl];unfold qul
 (repeat' split)<;>simp
theorem c52{T:List (Entry PG)} (hE:qIn 144 T e144) (hD:qIn 72 T e72) (hC:qIn 73 T e73) (s:Str) (hl:s.length<=1000000) :
  CA T 52 [aB s] zH (.str (qgu s)) zH:=by
 refine qa0 (s0:=⟨[0,2,3,4,5],[aB s,uD,uD,uD,uD],[],49,⟨0,[[]]⟩⟩) Tryz.func52 rfl rfl rfl ?_;apply ra;simp[zS];apply ra;simp[zS];try apply qal
 refine qa7 (qb1 (fun x:Bool × Str × Str=>(⟨[0,2,3,4,5],[aB x.2.2,.str [],.ptr 0 0,uD,uD],[],49,HZ x.1 x.2.1⟩ : St))
  (fun x=>(x.1=true->x.2.1=[])/\x.2.2.length<=s.length/\x.2.1.length+3 * x.2.2.length<=3 * s.length/\x.2.1++qgu x.2.2=qgu s) (fun x=>x.2.2.length) [(0,0)] [] (true,[],s) ⟨by simp,Nat.le_refl _,by simp,rfl⟩
  ⟨rfl,rfl,rfl,by simp[qax,qas,qb2,qab,qa9,aB],fitZ0 (n:=0) rfl⟩ ?_)
 rintro⟨z,out,rest⟩ ⟨hz2,hr,ho,hx⟩ B hB;simp only at hz2 hr ho hx ⊢;by_cases h:rest=[]
 ·subst h;apply ra;simp[zS,qre];apply qag rfl;apply qar;simp;have hd:qgu s=out:=by rw[<- hx];simp[qgu,qj2]
  cases z with
  |false=>
   have hS:CA T 77 [.ptr 0 0] (HZ false out) (.str out) ⟨3,[WZ (.ptr 0 0) ⟨1,out⟩]⟩:=c77 (T:=T) (ty:=88) (okZ (m:=2) (k:=1) (by omega) (by omega) out) (by simp at ho ⊢;omega);repeat apply wq
   refine qah (qbh [⟨77,_,_,_,_,hS⟩]) ?_;simp[zS,qcc];apply qa5;simp[zQ,Tryz.f52];exact⟨[],[],by rw[hd];exact qb5 rfl,za8 _⟩
  |true=>
   have ho':out=[]:=hz2 rfl;subst ho';have hS:=strZ (T:=T);repeat apply wq
   refine qah (qbh [⟨77,_,_,_,_,hS⟩]) ?_;simp[zS,qcc];apply qa5;simp[zQ,Tryz.f52];exact⟨[],[],by rw[hd];exact qb5 rfl,za8 _⟩
 ·have hpos:=List.length_pos_iff.2 h;have hc:(0:Int) < (rest.length:Int):=by omega
  obtain⟨r,n,hrn,hcase⟩:=zc2 hpos;have kd:=fun H=>k72 hD h (by omega) H;simp only[hrn]at kd;have kc:=fun H=>k73 hC hpos (by omega) H;obtain⟨o1,o2⟩:=qn8 hpos;rw[qqq h]at hx;apply ra;simp[zS,qre,hc,hpos];apply qai rfl;apply qa4;simp;apply qa7;have inv:∀(w:Str) (k:Nat),qc2 rest=(w,k)->1<=k->k<=rest.length->w≠[]->w.length<=3 * k->(rest.drop k).length < rest.length/\out++w≠[]/\(rest.drop k).length<=s.length/\(out++w).length+3 * (rest.drop k).length<=3 * s.length/\(out++w)++qgu (rest.drop k)=qgu s:=by intro w k hs k1 k2 hw hwl;rw[hs]at hx;simp only[List.length_drop,List.length_append];refine⟨by omega,by simp[hw],by omega,by omega,by rw[<- hx];simp⟩
  have hol:out.length+3<=1000000000:=by omega
  apply ra;simp[zS,kd];try apply qal
  apply qa7;rcases hcase with⟨g,rfl,rfl⟩|⟨g,g1,g2,g3,g4⟩
  ·apply ra;simp[zS];apply qai rfl;apply ra;simp[zS,kc];have hw:=wsZ hE (z:=z) (out:=out) enc3 (by simp[enc3];omega) (by decide);have e3:enc3=[239,191,189]:=rfl;rw[e3]at hw;try apply qal
   refine qah (qbh [⟨74,_,_,_,_,hw⟩]) ?_;simp[zS,qcc];apply ra;simp[zS,slB o2];obtain⟨v1,v2,v3,v4,v5⟩:=inv _ _ (by unfold qc2;rw[if_pos (.inl g)]) o1 o2 (by decide) (by have:enc3.length=3:=rfl;omega);exact hB _ (false,_,rest.drop (qej rest).1) v1 ⟨fun e=>(by cases e),v3,v4,v5⟩ ⟨[(0,0),(2,1)],[],rfl,rfl,rfl,by simp[qax,qas,qb2,qab,qa9,aB],fitZ (k:=2) (by omega) v2⟩
  ·subst g1;have n65:¬ ((r:Int)=65533/\(((qej rest).1:Nat):Int)=1):=(by omega);by_cases z0:cN rest 0=0
   ·have hr0:=g3.2 z0;subst hr0;apply ra;simp[zS];apply qag rfl;apply ra;simp[zS];apply qai rfl;have hw:=wsZ hE (z:=z) (out:=out) enc3 (by simp[enc3];omega) (by decide);have e3:enc3=[239,191,189]:=rfl;rw[e3]at hw;try apply qal
    refine qah (qbh [⟨74,_,_,_,_,hw⟩]) ?_;simp[zS,qcc];apply ra;simp[zS,slB o2];obtain⟨v1,v2,v3,v4,v5⟩:=inv _ _ (by unfold qc2;rw[if_pos (.inr z0)]) o1 o2 (by decide) (by have:enc3.length=3:=rfl;omega);exact hB _ (false,_,rest.drop (qej rest).1) v1 ⟨fun e=>(by cases e),v3,v4,v5⟩ ⟨[(0,0),(2,1)],[],rfl,rfl,rfl,by simp[qax,qas,qb2,qab,qa9,aB],fitZ (k:=2) (by omega) v2⟩
   ·have hr0:¬ (r:Int)=0:=fun e=>z0 (g3.1 (by omega));have hr0':¬ r=0:=fun e=>z0 (g3.1 e);by_cases z13:cN rest 0=13
    ·have hr13:=g4.2 z13;subst hr13;apply ra;simp[zS];apply qag rfl;apply ra;simp[zS];apply qag rfl;apply ra;simp[zS];apply qai rfl;have hw:=wbZ hE (z:=z) (out:=out) 10 (by omega);have e10:((10:UInt8).toNat:Int)=10:=rfl;rw[e10]at hw;try apply qal
     refine qah (qbh [⟨75,_,_,_,_,hw⟩]) ?_;simp[zS,qcc];by_cases l1:1 < rest.length
     ·have l1':(1:Int) < (rest.length:Int):=(by omega);have ha:=atB (s:=rest) (i:=1) l1;rw[qk9 l1]at ha;simp only[Int.cast_ofNat_Int,Int.natCast_one]at ha;by_cases b1:cN rest 1=10
      ·rw[b1]at ha;apply ra;simp[zS,qre,l1,l1',ha];apply qai rfl;apply ra;simp[zS];have sl2:∀H,qdx PG H 74 (aB rest) (some (.int .i64 2)) none none=some (aB (rest.drop 2)):=fun H=>slB (H:=H) (s:=rest) (i:=2) (by omega);apply ra;simp[zS,sl2];obtain⟨v1,v2,v3,v4,v5⟩:=inv _ _ (by unfold qc2;rw[if_neg (by rw[g];simp[z0]),if_pos z13,if_pos ⟨l1,b1⟩]) (by omega) (by omega) (by decide) (by simp);exact hB _ (false,_,rest.drop 2) v1 ⟨fun e=>(by cases e),v3,v4,v5⟩ ⟨[(0,0),(2,1)],[],rfl,rfl,rfl,by simp[qax,qas,qb2,qab,qa9,aB],fitZ (k:=2) (by omega) v2⟩
      ·have b1':¬ (cN rest 1:Int)=10:=(by omega);apply ra;simp[zS,qre,l1,l1',ha,b1,b1'];apply qag rfl;apply qa4;simp;apply ra;simp[zS,slB o2];obtain⟨v1,v2,v3,v4,v5⟩:=inv _ _ (by unfold qc2;rw[if_neg (by rw[g];simp[z0]),if_pos z13,if_neg (fun e=>b1 e.2)]) o1 o2 (by decide) (by simp only[List.length_singleton];omega);exact hB _ (false,_,rest.drop (qej rest).1) v1 ⟨fun e=>(by cases e),v3,v4,v5⟩ ⟨[(0,0),(2,1)],[],rfl,rfl,rfl,by simp[qax,qas,qb2,qab,qa9,aB],fitZ (k:=2) (by omega) v2⟩
     ·have l1':¬ (1:Int) < (rest.length:Int):=(by omega);apply ra;simp[zS,qre,l1,l1'];apply qag rfl;apply qa4;simp;apply ra;simp[zS,slB o2];obtain⟨v1,v2,v3,v4,v5⟩:=inv _ _ (by unfold qc2;rw[if_neg (by rw[g];simp[z0]),if_pos z13,if_neg (fun e=>l1 e.1)]) o1 o2 (by decide) (by simp only[List.length_singleton];omega);exact hB _ (false,_,rest.drop (qej rest).1) v1 ⟨fun e=>(by cases e),v3,v4,v5⟩ ⟨[(0,0),(2,1)],[],rfl,rfl,rfl,by simp[qax,qas,qb2,qab,qa9,aB],fitZ (k:=2) (by omega) v2⟩
    ·have hr13:¬ (r:Int)=13:=fun e=>z13 (g4.1 (by omega));have hr13':¬ r=13:=fun e=>z13 (g4.1 e);have hst:qc2 rest=(rest.take (qej rest).1,(qej rest).1):=(by unfold qc2;rw[if_neg (by rw[g];simp[z0]),if_neg z13]);have hcond:(if (r:Int)=65533 then decide ((((qej rest).1:Nat):Int)=1) else false)=false:=by
      split
      next e=>exact decide_eq_false fun e2=>n65 ⟨e,e2⟩
      ·rfl
     have hnt:rest.take (qej rest).1≠[]:=fun e=>(by have:=congrArg List.length e;rw[List.length_take,List.length_nil]at this;omega);clear hcond;by_cases r5:r=65533
     ·subst r5;have k1:¬ (((qej rest).1:Nat):Int)=1:=fun e=>n65 ⟨rfl,e⟩;have k1':¬ (qej rest).1=1:=fun e=>k1 (by omega);apply ra;simp[zS,k1,k1'];apply qag rfl;apply ra;simp[zS];apply qag rfl;apply ra;simp[zS];apply qag rfl;have hw:=wpZ hE (z:=z) (out:=out) (rest.take (qej rest).1) (by have:=oneR4 rest;simp;omega) hnt;refine qah (qbh [⟨76,_,_,_,_,hw⟩]) ?_;simp[zS,qcc,slB1 o2];apply ra;simp[zS,slB o2];obtain⟨v1,v2,v3,v4,v5⟩:=inv _ _ hst o1 o2 hnt (by rw[List.length_take];omega);exact hB _ (false,_,rest.drop (qej rest).1) v1 ⟨fun e=>(by cases e),v3,v4,v5⟩ ⟨[(0,0),(2,1)],[],rfl,rfl,rfl,by simp[qax,qas,qb2,qab,qa9,aB],fitZ (k:=2) (by omega) v2⟩
     ·have r5':¬ (r:Int)=65533:=(by omega);apply ra;simp[zS,r5,r5'];apply qag rfl;apply ra;simp[zS,hr0,hr0'];apply qag rfl;apply ra;simp[zS,hr13,hr13'];apply qag rfl;have hw:=wpZ hE (z:=z) (out:=out) (rest.take (qej rest).1) (by have:=oneR4 rest;simp;omega) hnt;refine qah (qbh [⟨76,_,_,_,_,hw⟩]) ?_;simp[zS,qcc,slB1 o2];apply ra;simp[zS,slB o2];obtain⟨v1,v2,v3,v4,v5⟩:=inv _ _ hst o1 o2 hnt (by rw[List.length_take];omega);exact hB _ (false,_,rest.drop (qej rest).1) v1 ⟨fun e=>(by cases e),v3,v4,v5⟩ ⟨[(0,0),(2,1)],[],rfl,rfl,rfl,by simp[qax,qas,qb2,qab,qa9,aB],fitZ (k:=2) (by omega) v2⟩
def e52:Entry PG:=mkE 52 [[1]] (fun x:Str=>[aB x]) (fun x=>x.length<=1000000) (fun x=>.str (qgu x)) fun x h=>c52 (T:=[e144,e72,e73]) rfl rfl rfl x h
theorem k52{T:List (Entry PG)} (hT:qIn 52 T e52) {s:Str} (hl:s.length<=1000000) {cap:Cap} {b:Nat} (H:Heap) (hb:H.get b=some (.cells (qad s))):qb6 (ctx T) (.fn 52) [.slc b 0 s.length cap] H=some (.str (qgu s),H):=by refine qac hT qw1 s hl rfl ?_;have:=qp7 (r:=[]) (cap:=cap) (zac s) (by rw[qkp];exact hb);rw[qj6]at this;simp[this,aB]
theorem c51o{T:List (Entry PG)} (L:List At1) (hl:L.length<=1000):CA T 51 [qaf L] zH (qcx 0 2 (L.map qbw)) ⟨1,[qdd 0 (L.map qbw)]⟩:=by
 have happ:=qkt (P:=PG) (elem:=71) (b:=0) (m:=1) (es:=L.map qbw) (g:=[]) (fs:=[]) zaw zca zao rfl (by omega) (by omega) (qe7 _) (qhb _) (by simp;omega);cases L with
 |nil=>
  refine qa0 (s0:=⟨[0,2],[.fslc 2 [],uD],[],8,⟨0,[[]]⟩⟩) Tryz.func51 rfl rfl rfl ?_;apply ra;simp[zS];refine qp3 (pre:=[]) ?_ ?_
  ·apply ra;simp[zS];apply qai rfl;apply ra;simp[zS];apply qa5;simp[zQ,Tryz.f51];exact qio (.inl rfl)
  ·apply ra;simp[zS];apply qag rfl;apply qa4;simp;have happ:qbz PG ⟨1,[[(0,.cells [])]]⟩ 71 (.slc 0 0 0 (.ex 0)) .eslc=some (.slc 0 0 0 (.ex 0),⟨1,[[(0,.cells [])]]⟩):=rfl;apply ra;simp[zS,happ];apply qa5;simp[zQ,Tryz.f51];exact qio (.inr (.inr ⟨_,rfl⟩))
 |cons x r=>
  have e1:qxi 0 1 2 ((x::r).map qbw)=.slc 1 0 (r.length+1) (.rest 2):=by simp[qxi]
  have e2:qtc ⟨1,[[(0,.cells [])]]⟩ ((x::r).map qbw)=⟨2,[[(1,.cells (qa6 ((x::r).map qbw))),(0,.cells [])]]⟩:=rfl;rw[e1,e2]at happ;refine qa0 (s0:=⟨[0,2],[qaf (x::r),uD],[],8,⟨0,[[]]⟩⟩) Tryz.func51 rfl rfl rfl ?_;apply ra;simp[zS,qaf];apply ra;simp[zS,qaf];apply qag rfl;apply qa4;simp;simp only[List.map_cons]at happ;apply ra;simp[zS,happ];apply qa5;simp[zQ,Tryz.f51];exact qks (b:=1) (es:=(x::r).map qbw) (qe7 _) (by simp) (by simp) (by simp[zG])
def e51o:Entry PG:=mkOwn 51 [[2]] (fun L:List At1=>[qaf L]) (fun L=>L.length<=1000) 2 (fun L=>L.map qbw) qe7 fun L hl=>c51o (T:=[]) L hl
theorem k51o{T:List (Entry PG)} (hT:qa8 51 T=some e51o.g) {L:List At1} (hl:L.length<=1000) (H:Heap):qb6 (ctx T) (.fn 51) [qaf L] H=some (qcx H.n 2 (L.map qbw),qtc H (L.map qbw)):=
 qzl hT (fun x y h=>by simp at h;exact qeg h) L hl (by simp[qa9]) (by simp[qgb,qan]) H
theorem c90{T:List (Entry PG)} (hP:qIn 130 T e130) (hC:qa8 51 T=some e51o.g) (L:List At1) (a:At1) (hl:L.length<=900):CA T 90 [qaf L,qbw a] zH (qaf (qob L a)) zH:=by
 refine CallAt.froze (es:=(qob L a).map qbw) (qe7 _) ?_;refine qa0 (s0:=⟨[0,1,3,4,5],[qaf L,qbw a,uD,uD,uD],[],18,⟨0,[[]]⟩⟩) Tryz.func90 rfl rfl rfl ?_;apply ra;simp[zS,qbw];apply ra;simp[zS,k51o hC (show L.length<=1000 by omega)];repeat apply wq
 refine .fit (s':=(⟨[0,1,3,4,5],[qaf L,uD,.ptr 0 0,uD,qcx 1 2 (L.map qbw)],[],18,⟨2,[qdd 1 (L.map qbw)++[(0,Blk.cells [.str a.1,.str a.2])]]⟩⟩ : St)) [(1,1),(0,0)] [] ⟨rfl,rfl,rfl,?_,.canon (b:=1) (g:=[(0,.cells [.str a.1,.str a.2])]) (qe7 L) (by simp[qi1,qax,qas,qab]) (by simp)⟩ ?_
 ·simp[qax,qas,qb2,qh3]
 ·have hp:=k130 hP (L:=L) a.1 (show L.length<=1000 by omega) (H:=⟨2,[qdd 1 (L.map qbw)++[(0,.cells [.str a.1,.str a.2])]]⟩) (qid _ L);have hg:getF 0 (qdd 1 (L.map qbw)++[(0,.cells [.str a.1,.str a.2])])=some (.cells [.str a.1,.str a.2]):=by cases L<;>rfl
  apply ra;simp[zS,hp,hg];refine qb0 rfl (fun h=>?_) fun h=>?_
  ·simp at h;have happ:=qgz (P:=PG) (elem:=71) (b:=1) (t:=2) (m:=3) (es:=L.map qbw) (cs:=[.str a.1,.str a.2]) (g:=[(0,.cells [.str a.1,.str a.2])]) (fs:=[]) zaw zca zao rfl (by omega) (by omega) rfl rfl (qe7 L) (by simp;omega) (by omega) (by simp) (by simp);apply ra;simp[zS,hg,happ];apply ra;simp[zS];apply qa5;simp[zQ,Tryz.f90];have e:qob L a=L++[a]:=if_pos h;have e2:(qob L a).map qbw=L.map qbw++[qbw a]:=(by rw[e];simp);exact qks (b:=3) (es:=(qob L a).map qbw) (qe7 _) (by rw[e2];simp) (by rw[e2];simp) (by rw[e2,qbj];simp[zG,qa6,Heap.new,pushF,qbw])
  ·simp at h;apply qa4;simp;apply ra;simp[zS];apply qa5;simp[zQ,Tryz.f90];have e:qob L a=L:=if_neg (by omega);rw[e];cases L with
   |nil=>exact qio (.inr (.inl rfl))
   |cons b r=>exact qks (b:=1) (es:=(b::r).map qbw) (qe7 _) (by simp) rfl (by simp[zG,qdd])
def e90:Entry PG:=mkE 90 [[2],[0,0]] (fun x:List At1 × At1=>[qaf x.1,qbw x.2]) (fun x=>x.1.length<=900) (fun x=>qaf (qob x.1 x.2)) fun x hx=>c90 (T:=[e130,e51o]) rfl rfl x.1 x.2 hx
set_option maxHeartbeats 1000000
theorem step_len{s:Str} (h:0 < s.length):1<=(qc2 s).2/\(qc2 s).2<=s.length/\(qc2 s).1.length<=3 * (qc2 s).2:=by
 obtain⟨o1,o2⟩:=qn8 h;unfold qc2;split
 ·exact⟨o1,o2,by have:enc3.length=3:=rfl;simp only;omega⟩
 ·split
  ·split
   next hh=>exact⟨by simp only;omega,by simp only;omega,by simp⟩
   ·exact⟨o1,o2,by simp only[List.length_singleton];omega⟩
  ·exact⟨o1,o2,by simp only[List.length_take];omega⟩
theorem qi3:∀(n:Nat) (s:Str),s.length<=n->(qgu s).length<=3 * s.length
 |0,s,h=>by have:s=[]:=List.eq_nil_of_length_eq_zero (by omega);subst this;simp[qgu,qj2]
 |n+1,s,h=>by
  by_cases hs:s=[]
  ·subst hs;simp[qgu,qj2]
  ·obtain⟨a,b,c⟩:=step_len (List.length_pos_iff.2 hs);have ih:=qi3 n (s.drop (qc2 s).2) (by rw[List.length_drop];omega);rw[qqq hs,List.length_append];rw[List.length_drop]at ih;omega
theorem convG{H:Heap} {s:Str} (h:s.length<=1000000):qh5 PG H 9 74 (.str s)=some (.slc H.n 0 s.length (.rest 1),H.new (.cells (qad s))):=by
 have:qcw s.length 1=true:=by simp[qcw];omega
 simp[qh5,this]
theorem k90{T:List (Entry PG)} (hT:qIn 90 T e90) {L:List At1} {a:At1} (hl:L.length<=900) (H:Heap):qb6 (ctx T) (.fn 90) [qaf L,qbw a] H=some (qaf (qob L a),H):=
 qd1 hT (fun x y h=>by simp only[List.cons.injEq,and_true]at h;exact Prod.ext (qeg h.1) (qqa h.2)) (L,a) hl (by simp[qa9]) (by simp[qgb,qan]) H
theorem qui(L:List At1) (a:At1):(qob L a).length<=L.length+1:=by unfold qob;split<;>simp
def qkw(n:Nd) (a:At1):Nd:={ n with attrs:=[a] }
theorem fit_at{n:Nd} {a:At1} {H:Heap} (h4:H.get 4=some (.cells [.str a.1,.str a.2])) (h3:H.get 3=some (.cells [qb9 n.kind,qb9 n.space,.str n.name,.slc 4 0 1 (.ex 1),.str n.data,qb9 n.up,qbc n.kids])) (h1:H.get 1=some (.cells [.str a.1,.str a.2])) (h0:H.get 0=some (.cells n.cs)) :
  FitH 0 [(3,2),(1,1),(0,0)] [(4,[.str a.1,.str a.2])] H ⟨3,[[(2,.cells (qkw n a).cs),(1,.cells [.str a.1,.str a.2]),(0,.cells n.cs)]]⟩ where
 nd1:=by simp
 nd2:=by simp
 nd3:=by simp[Heap.ents]
 lt:=by simp
 idn:=by simp
 num:=by simp
 src:=by
  intro e he;simp[Heap.ents]at he;rcases he with rfl|rfl|rfl
  ·refine⟨3,_,by simp,h3,?_⟩;simp only[qi1,qkw,Nd.cs,qax];refine⟨qb5 rfl,qb5 rfl,qb5 rfl,?_,qb5 rfl,qb5 rfl,qb5 (by simp),trivial⟩;simp only[qaf,qas];exact .inl ⟨_,rfl,rfl,rfl,rfl⟩
  ·exact⟨1,_,by simp,h1,qak rfl⟩
  ·exact⟨0,_,by simp,h0,qak (qe4 n)⟩
 frz:=fun y hy=>by simp at hy;subst hy;exact⟨_,h4,qak rfl,rfl⟩
theorem qsd{n:Nd} {H:Heap} (h0:H.get 0=some (.cells n.cs)):FitH 0 [(0,0)] [] H ⟨1,[[(0,.cells n.cs)]]⟩ where
 nd1:=by simp
 nd2:=by simp
 nd3:=by simp[Heap.ents]
 lt:=by simp
 idn:=by simp
 num:=by simp
 src:=by intro e he;simp[Heap.ents]at he;subst he;exact⟨0,_,by simp,h0,qak (qe4 n)⟩
 frz:=fun x h=>by cases h
def okM(n:Nd):Prop:=okN n/\n.attrs.length<=900/\∀a,a∈n.attrs->a.2.length<=30000
theorem c57{T:List (Entry PG)} (hD:qIn 52 T e52) (hS:qIn 89 T e89) (hA:qIn 90 T e90) (n:Nd) (hn:okM n) :
  CA T 57 [qa3 n] zH (qaf (qic n)) zH:=by
 obtain⟨hn,ha,hv⟩:=hn;refine qa0 (s0:=⟨[0,1,2,3,5,6,8,9,10],[qa3 n,uD,uD,uD,uD,uD,uD,uD,uD],[],30,⟨0,[[]]⟩⟩) Tryz.func57 rfl rfl rfl ?_;apply ra;simp[zS,qaq];apply ra;simp[zS];apply ra;simp[zS,qh1];try apply qal
 refine qa7 (qb1 (fun x:Nat × List At1=>(⟨[0,1,2,3,5,6,8,9,10],[uD,.ptr 0 0,.nilS,qaf x.2,uD,uD,qaf n.attrs,.int .i64 (n.attrs.length:Nat),.int .i64 (x.1:Int)],[],30,⟨1,[[(0,.cells n.cs)]]⟩⟩ : St))
  (fun x=>x.1<=n.attrs.length/\x.2.length<=x.1/\qj7 n x.2 (n.attrs.drop x.1)=qic n) (fun x=>n.attrs.length - x.1) [(0,0)] [] (0,[]) ⟨Nat.zero_le _,Nat.le_refl _,rfl⟩
  ⟨rfl,rfl,rfl,by simp[qax,qas,qb2,qab,qa9,qaf],qsd rfl⟩ ?_)
 rintro⟨i,L⟩ ⟨hi,hL,hx⟩ B hB;simp only at hi hL hx ⊢;by_cases h:i < n.attrs.length
 ·have hc:(i:Int) < (n.attrs.length:Int):=by omega
  have hat:=atA h;have hmem:=List.getElem_mem h;have hav:=hn.2.2.2 _ hmem;have hvv:=hv _ hmem;rw[List.drop_eq_getElem_cons h]at hx;obtain⟨d,hd⟩ : ∃d,d=qgu n.attrs[i].2:=⟨_,rfl⟩;have hdl:=qi3 _ n.attrs[i].2 (Nat.le_refl _);rw[<- hd]at hdl;have kd:=fun(H:Heap) (b:Nat) (cap:Cap) (hb:H.get b=some (.cells (qad n.attrs[i].2)))=>k52 hD (s:=n.attrs[i].2) (cap:=cap) (b:=b) (by omega) H hb;have cv:=fun H=>convG (H:=H) (s:=n.attrs[i].2) (by omega);rw[<- hd]at kd;have hone:okN (qkw n (n.attrs[i].1,d)):=⟨hn.1,by simp[qkw],hn.2.2.1,fun a ha=>by simp[qkw]at ha;subst ha;exact⟨hav.1,by simp only;omega⟩⟩;have ks:=fun H=>k89 hS (qkw n (n.attrs[i].1,d)) hone H;have kA:=fun H=>k90 hA (L:=L) (a:=(n.attrs[i].1,d)) (by omega) H;have hac:=qbb (show i<=1000000000 by omega);have hx2:(if qg8 (qkw n (n.attrs[i].1,d))=true then qj7 n (qob L (n.attrs[i].1,d)) (n.attrs.drop (i+1)) else qj7 n L (n.attrs.drop (i+1)))=qic n:=by rw[<- hx,qj7,<- hd];rfl
  generalize qg8 (qkw n (n.attrs[i].1,d))=b1 at *;generalize n.attrs[i]=a at *;apply ra;simp[zS,hc,h];repeat apply wq
  apply qai rfl;apply qa4;simp;repeat apply wq
  apply qa7;apply ra;simp[zS,hat];have kd0:=kd ⟨3,[[(2,.cells (qad a.2)),(1,.cells [.str a.1,.str a.2]),(0,.cells n.cs)]]⟩ 2 (.rest 1) rfl;apply ra;simp[zS,cv,kd0,qcb];apply ra;simp[zS];have hlay:qh7 [.slc 4 0 1 (.ex 1)] 3 n.cs=some [qb9 n.kind,qb9 n.space,.str n.name,.slc 4 0 1 (.ex 1),.str n.data,qb9 n.up,qbc n.kids]:=rfl;apply ra;simp[zS,hlay,qcb];refine WpSr.fit [(3,2),(1,1),(0,0)] [(4,[.str a.1,.str d])] (s':=(⟨[0,1,2,3,5,6,8,9,10],[uD,.ptr 0 0,.nilS,qaf L,.ptr 1 0,.ptr 2 0,qaf n.attrs,.int .i64 (n.attrs.length:Nat),.int .i64 (i:Int)],[],30,⟨3,[[(2,.cells (qkw n (a.1,d)).cs),(1,.cells [.str a.1,.str d]),(0,.cells n.cs)]]⟩⟩ : St)) ⟨rfl,rfl,rfl,by simp[qax,qas,qb2,qab,qa9,qaf],fit_at (a:=(a.1,d)) rfl rfl rfl rfl⟩ ?_;have hat1:AV.agg [.str a.1,.str d]=qbw (a.1,d):=rfl;apply ra;simp[zS,ks,qaq];cases b1 with
  |true=>apply qai rfl;apply ra;simp[zS,hat1,kA];apply ra;simp[zS,hac];exact hB _ (i+1,qob L (a.1,d)) (by simp only;omega) ⟨by simp only;omega,by have:=qui L (a.1,d);simp only;omega,by simpa using hx2⟩ ⟨[(0,0)],[],rfl,rfl,rfl,by simp[qax,qas,qb2,qab,qa9,qaf],qsd rfl⟩
  |false=>apply qag rfl;apply qa4;apply ra;simp[zS,hac];exact hB _ (i+1,L) (by simp only;omega) ⟨by simp only;omega,by simp only;omega,by simpa using hx2⟩ ⟨[(0,0)],[],rfl,rfl,rfl,by simp[qax,qas,qb2,qab,qa9,qaf],qsd rfl⟩
 ·have hc:¬ (i:Int) < (n.attrs.length:Int):=by omega
  apply ra;simp[zS,hc,h];repeat apply wq
  apply qag rfl;apply qar;simp;apply ra;simp[zS];have he:L=qic n:=by rw[<- hx,List.drop_eq_nil_of_le (by omega)];rfl
  apply qa5;simp[zQ,Tryz.f57];exact⟨[],[],by rw[he];exact qb5 (by simp),za8 _⟩
def e57:Entry PG:=mkE 57 [[0,0,0,2,0,0,1]] (fun z:Nd=>[qa3 z]) (fun z=>(okM z)) (fun z=>qaf (qic z)) fun z h=>c57 (T:=[e52,e89,e90]) rfl rfl rfl z h
theorem k57{T:List (Entry PG)} (hT:qIn 57 T e57) (n:Nd) (h:okM n) (H:Heap):qb6 (ctx T) (.fn 57) [qa3 n] H=some (qaf (qic n),H):=
 qd1 hT inj_92 (n) h (by simp[qa9,qab,qan]) (by simp[qan]) H
def e54:Entry PG:=mkE 54 [[],[]] (fun x:Str=>[.str x,.str [10]]) (fun x=>x.length<=1000000000) (fun x=>.str (qgm x)) fun x h=>c54 (T:=[e78]) rfl x h
theorem k54{T:List (Entry PG)} (hT:qIn 54 T e54) {s:Str} (hl:s.length<=1000000000) (H:Heap):qb6 (ctx T) (.fn 54) [.str s,.str [10]] H=some (.str (qgm s),H):=
 qd1 hT (fun x y h=>by simpa using h) s hl (by simp[qa9,qab]) (by simp[qgb,qan]) H
theorem qoj:∀s:Str,(qgm s).length<=s.length
 |[]=>Nat.le_refl _
 |c::r=>by
  unfold qgm;have:=qoj r;split
  ·simp only[List.length_cons];omega
  ·exact Nat.le_refl _
def qr8(out:Tr) (up:Nat) (x:Str):Option Int->Tr
 |some k=>if (qa1 out k).kind=2 then qib out k.toNat x else qf5 out up ⟨2,0,[],[],x,0,[]⟩
 |none=>qf5 out up ⟨2,0,[],[],x,0,[]⟩
theorem CallAt.nilD{C:Ctx} {f:FuncId} {args args':List AV} {m pb k sz:Nat} {pre post es:List AV} {g:List (Nat × Blk)} {v:AV} {H':Heap} (h:Eok m pb pre k sz es post g)
  (hc:CallAt C f args' ⟨m,[[],VE pb pre k sz es post g]⟩ v H') (hf:qax (idn m) [] args args'):CallAt C f args ⟨m,[[],VE pb pre k sz es post g]⟩ v H':=
 hc.drop (σ:=idn m) (Φ:=[]) (fun nd=>qwf h (Nat.le_refl m) (Nat.le_refl m) fun _ _=>rfl) hf
theorem qp2{C:Ctx} {n:Nat} {r:Option Nat} {c d:Code} {s:St} {Q:Out->St->Prop} (s0:St) (h1:WpSr C n r d s0 Q) (h2:(∀s',(∃σ Φ,Fit n σ Φ s' s0)->WpSr C n r d s' Q)->WpSr C n r c s (qam (fun s=>WpSr C n r d s Q) Q)):WpSr C n r c s (qam (fun s=>WpSr C n r d s Q) Q):=
 h2 fun _ ⟨σ,Φ,f⟩=>.fit σ Φ f h1
theorem chars_at{T:List (Entry PG)} (hD:qIn 52 T e52) (hO:qIn 53 T e53) (hL:qIn 54 T e54) (hC:qIn 55 T e55)
  (hA:qIn 51 T e51) (hP:qIn 154 T e154) (hS:qIn 124 T e124) (hH:qIn 125 T e125) (hCl:qIn 128 T e128)
  {v out:Tr} {o:Option (List Nd)} {up:Nat} {s:Str} (hs:s.length<=30000) (hu:up < out.length) (hn:out.length+1<=100000) (ok:UpOk out) (hda:∀n,n∈out->n.data.length<=1000000000) (hp:okP (mL o)) (hk:∀k,k∈(qa1 out up).kids->0<=k/\k < (out.length:Int)) :
  CA T 36 [.ptr 0 0,.int .i64 (up:Int),.str s] ⟨3,[mR v 1 out 2 o]⟩ (.tup []) ⟨5,[mR v 3 (qef (mL o) up s out) 4 o]⟩:=by
 have hne:out≠[]:=by intro e;subst e;simp at hu
 have cv:=fun H=>convG (H:=H) (s:=s) (by omega);have kd:=fun(n:Nat) (fs:List (List (Nat × Blk)))=>k52 hD (s:=s) (cap:=.rest 1) (b:=3) (by omega) ⟨n,[(3,.cells (qad s))]::fs⟩ (by simp[zG]);have hdl:=qi3 _ s (Nat.le_refl _);have kO:=fun H=>k53 hO (qa1 out up) H;have kT:=fun H=>k54 hL (s:=qgu s) (by omega) H;have hx:(qgn out up s).length<=900000:=by unfold qgn;have:=qoj (qgu s);split<;>omega
 have kC:=fun(n:Nat) (f:List (Nat × Blk)) (h:getF 2 f=none)=>q55 hC (thm_p (v:=v) (out:=out) (n:=n) (k:=1) (j:=2) (o:=o) (by omega) (by omega) hne h) (qgn out up s) hp hx;obtain⟨x,hxe⟩ : ∃x,x=qgn out up s:=⟨_,rfl⟩;obtain⟨b1,hb1⟩ : ∃b,b=qmc (qa1 out up):=⟨_,rfl⟩;obtain⟨b2,hb2⟩ : ∃b,b=qfv (mL o) x:=⟨_,rfl⟩;rw[<- hxe,<- hb2]at kC;rw[<- hxe]at hx;rw[<- hb1]at kO;have kC:=fun n=>kC n [] rfl;have hm:=zea (v:=v) (out:=out) (o:=o) (m:=3) (k:=1) (j:=2) (by omega) (by omega) (by omega) (by omega) (by omega);have e0:qef (mL o) up s out=if b2=true then qr8 out up x (qvy out up) else out:=by rw[hb2,hxe];unfold qef qr8;cases qvy out up<;>rfl
 rw[e0];clear e0;refine qa0 (s0:=⟨[0,1,2,6,7],[.ptr 0 0,.int .i64 (up:Int),.str s,uD,uD],[],71,⟨3,[]::[mR v 1 out 2 o]⟩⟩) Tryz.func36 rfl rfl rfl ?_;apply ra;simp[zS,cv,kd];apply ra;simp[zS,zdo,ixm hu,rdm_n,hu,kO];refine qp2 ((⟨[0,1,2,6,7],[.ptr 0 0,.int .i64 (up:Int),.str x,uD,uD],[],71,⟨3,[[],mR v 1 out 2 o]⟩⟩ : St)) ?_ fun hj=>?_
 rotate_left
 ·have hfv:∀n,FitH 3 (idn 3) [] ⟨n,[[(3,.cells (qad s))],mR v 1 out 2 o]⟩ ⟨3,[[],mR v 1 out 2 o]⟩:=fun n=>qwf hm (by omega) (by omega) fun i hi=>by simp[getF,qao (show 3≠i by omega)]
  cases b1 with
  |true=>have e:qgm (qgu s)=x:=(by rw[hxe,qgn,<- hb1];rfl);rw[e]at kT;apply qai rfl;apply ra;simp[zS,kT];exact hj _ ⟨idn 3,[],rfl,rfl,rfl,by simp[qax,qas,qc1,qab],hfv _⟩
  |false=>have e:qgu s=x:=(by rw[hxe,qgn,<- hb1];rfl);apply qag rfl;apply qa4;exact hj _ ⟨idn 3,[],rfl,rfl,rfl,by simp[qax,qas,qc1,qab,e],hfv _⟩
 clear cv kd kO kT hdl;have ends:∀{n k:Nat} {t':Tr},0 < k->k≠2->t'≠[]->FitH 3 [(k,3),(2,4),(0,0)] [] ⟨n,[[],mR v k t' 2 o]⟩ ⟨5,[mR v 3 t' 4 o]⟩:=fun h1 h2 h3=>fitm (by omega) h1 (by omega) h2 h3 rfl rfl rfl;apply ra;simp[zS,zbd,kC];cases b2 with
 |false=>apply qai rfl;apply qa5;simp[zQ,Tryz.f36];exact⟨_,_,by simp[qas,qax],ends (by omega) (by omega) hne⟩
 |true=>
  apply qag rfl;apply qa4;simp;apply ra;simp[zS,zdo,ixm hu,rdm_ks,hu];have lK:∀H,qf6 PG H 30 (qbc (qa1 out up).kids)=some (qa1 out up).kids.length:=fun H=>ql8;obtain⟨K,hK⟩ : ∃K,K=(qa1 out up).kids:=⟨_,rfl⟩;have eK:qvy out up=K.getLast?:=by rw[hK];rfl
  rw[eK];rw[<- hK]at lK hk;simp only[<- hK];have hkl:K.length<=out.length:=by rw[hK];exact ok.kids _ (qb3 (by omega) (by omega))
  apply ra;simp[zS,lK];have last:∀(K0:List Int) (kn:Nat),K=K0++[(kn:Int)]->kn < out.length/\wr .i64 (K0.length:Int)=some (K0.length:Int)/\qat PG 30 (qbc (K0++[(kn:Int)])) (.int .i64 (K0.length:Int))=some (.fptr [.int .i64 (kn:Int)] 0):=by
   rintro K0 kn rfl;obtain⟨q0,q1⟩:=hk (kn:Int) (by simp);refine⟨by omega,?_,by rw[atI (by simp)];simp⟩;have:=qt2 (q:=K0.length) (by simp at hkl;omega)
   rwa [show (((K0.length+1:Nat):Int) - 1)=(K0.length:Int) by omega]at this
  by_cases hd:∃k,K.getLast? = some k/\(qa1 out k).kind=2
  ·obtain⟨k,hk1,hk2⟩:=hd;have ea:qr8 out up x K.getLast? = qdg out k.toNat ((qa1 out k).data++x):=(by rw[hk1];simp only[qr8,hk2,if_true];have:=(hk k (List.mem_of_getLast? hk1)).1;unfold qib qdg;rw[show ((k.toNat:Nat):Int)=k by omega]);rw[ea];clear ea;obtain⟨K0,e⟩:=List.getLast?_eq_some_iff.1 hk1;obtain⟨kn,rfl⟩ : ∃kn:Nat,k=(kn:Int):=⟨k.toNat,by have:=(hk k (List.mem_of_getLast? hk1)).1;omega⟩;obtain⟨hkn,hw,hat⟩:=last K0 kn e;clear last;subst e;have hl:(K0++[(kn:Int)]).length=K0.length+1:=(by simp);have hlp:(0:Int) < ((K0.length+1:Nat):Int):=(by omega);rw[hl]at lK;simp only[hl];have hcat:=zgk (x:=(qa1 out (kn:Int)).data) (y:=x) (by have:=hda _ (qb3 (t:=out) (i:=(kn:Int)) (by omega) (by omega));omega);refine qai (by simp[hlp]) ?_;have hsb:wr .i64 ((K0.length:Int)+1 - 1)=some (K0.length:Int):=(by rwa [Int.add_sub_cancel]);repeat apply wq
   refine qbu mixed qbf (by decide +kernel) (by decide +kernel) ?_;simp[zS,qcr,qbl,qbi,zdo,lK,hat,hsb,hw,ixm hkn];apply ra;simp[zS,rdm_i,hkn];refine qai (by simp[hk2]) ?_;have hg1:=mR_k (v:=v) (out:=out) (k:=1) (j:=2) (o:=o) (by omega) (by omega) (by omega) hne;have hlay:=qzs hkn ((qa1 out (kn:Int)).data++x);have hset:=setm (v:=v) (k:=1) (j:=2) (o:=o) (by omega) hkn ((qa1 out (kn:Int)).data++x);apply ra;simp[zS,rdm_d,hkn,hg1,hlay,hset,hcat];apply qa5;simp[zQ,Tryz.f36];exact⟨_,_,by simp[qas,qax],ends (by omega) (by omega) (by simp[qdg])⟩
  ·have ea:qr8 out up x K.getLast? = qf5 out up ⟨2,0,[],[],x,0,[]⟩:=by
    cases hg:K.getLast? with
    |some k=>exact if_neg fun h=>hd ⟨k,hg,h⟩
    |none=>rfl
   rw[ea];clear ea;refine qp2 ((⟨[0,1,2,6,7],[.ptr 0 0,.int .i64 (up:Int),.str x,uD,uD],[],71,⟨3,[[],mR v 1 out 2 o]⟩⟩ : St)) ?_ fun hj=>?_
   rotate_left
   ·have hfv:∀n,FitH 3 (idn 3) [] ⟨n,[[],mR v 1 out 2 o]⟩ ⟨3,[[],mR v 1 out 2 o]⟩:=fun n=>qwf hm (by omega) (by omega) fun i hi=>rfl;rcases List.eq_nil_or_concat K with rfl|⟨K0,k,e⟩
    ·repeat apply wq
     apply qag rfl;apply qa4;exact hj _ ⟨idn 3,[],rfl,rfl,rfl,by simp[qax,qas,qc1,qab],hfv _⟩
    ·rw[List.concat_eq_append]at e;obtain⟨kn,rfl⟩ : ∃kn:Nat,k=(kn:Int):=⟨k.toNat,by have:=(hk k (by rw[e];simp)).1;omega⟩;obtain⟨hkn,hw,hat⟩:=last K0 kn e;clear last;subst e;have hk2:¬ (qa1 out (kn:Int)).kind=2:=fun h=>hd ⟨_,by simp,h⟩;have hl:(K0++[(kn:Int)]).length=K0.length+1:=(by simp);have hlp:(0:Int) < ((K0.length+1:Nat):Int):=(by omega);rw[hl]at lK;simp only[hl];refine qai (by simp[hlp]) ?_;have hsb:wr .i64 ((K0.length:Int)+1 - 1)=some (K0.length:Int):=(by rwa [Int.add_sub_cancel]);repeat apply wq
     refine qbu mixed qbf (by decide +kernel) (by decide +kernel) ?_;simp[zS,qcr,qbl,qbi,zdo,lK,hat,hsb,hw,ixm hkn];apply ra;simp[zS,rdm_i,hkn];refine qag (by simp[hk2]) ?_;apply qa4;exact hj _ ⟨idn 3,[],rfl,rfl,rfl,by simp[qax,qas,qc1,qab],hfv _⟩
   clear last hd;have hput:=(c56 (T:=T) hA hP hS hH hCl hm (by omega) hu ok ⟨2,0,[],[],x,0,[]⟩ (by simp)).perm (H2:=⟨3,[[],mR v 1 out 2 o]⟩) (H2':=⟨4,[[],mR v 3 (qf5 out up ⟨2,0,[],[],x,0,[]⟩) 2 o]⟩) rfl rfl (by simp[Heap.ents,mR]) (by simp[Heap.ents,mR]);have hput':CA T 56 [.ptr 0 0,.int .i64 (up:Int),.agg [.int .i64 2,.int .i64 0,.str [],.nilS,.str x,.int .i64 0,.nilS]] ⟨3,[[],mR v 1 out 2 o]⟩ (.int .i64 (out.length:Int)) ⟨4,[[],mR v 3 (qf5 out up ⟨2,0,[],[],x,0,[]⟩) 2 o]⟩:=
    hput.nilD hm (by simp[qax,qas,qc1 hm.lp,qab,qa3,Nd.cs,qb9,qbc,qaf])
   have bld:qgq PG 34 [(0,.int .i64 2),(4,.str x)]=some (.agg [.int .i64 2,.int .i64 0,.str [],.nilS,.str x,.int .i64 0,.nilS]):=rfl;refine qah (qbh [⟨56,_,_,_,_,hput'⟩]) ?_;simp[zS,qcc,bld];simp[zQ,Tryz.f36];exact⟨_,_,by simp[qas,qax],ends (by omega) (by omega) (by simp[qf5,qey])⟩
section
variable {v out out':Tr} {m n k j:Nat} {o o':Option (List Nd)} {fr:List (Nat × Blk)}
theorem qtr{b:Nat}:∀{f:List (Nat × Blk)},(∀e,e∈f->e.1≠b)->getF b f=none
 |[],_=>rfl
 |e::r,h=>by have h1:=h e (by simp);unfold getF;rw[qao h1];exact qtr fun x hx=>h x (by simp[hx])
theorem qu3(hne:out≠[]):∀e,e∈mR v k out j o->e=(0,Blk.cells [qaa v,.slc k 0 out.length (.rest 7),mV j o])\/e=(k,.cells (qa6 (out.map qa3)))\/∃P,o=some P/\e=(j,.cells (qa6 (P.map qa3))):=by
 intro e he;have hne':out.map qa3≠[]:=by simpa using hne
 simp only[mR,VE,qbn hne',qbd hne',List.cons_append,List.nil_append,List.mem_cons,List.length_map]at he;rcases he with rfl|rfl|he
 ·exact .inl rfl
 ·exact .inr (.inl rfl)
 ·cases o with
  |none=>simp[mG]at he
  |some P=>simp[mG]at he;exact .inr (.inr ⟨P,rfl,he⟩)
theorem mem_mR(hne:out≠[]):(0,Blk.cells [qaa v,.slc k 0 out.length (.rest 7),mV j o])∈mR v k out j o/\(k,Blk.cells (qa6 (out.map qa3)))∈mR v k out j o/\∀P,o=some P->(j,Blk.cells (qa6 (P.map qa3)))∈mR v k out j o:=by
 have hne':out.map qa3≠[]:=by simpa using hne
 refine⟨?_,?_,?_⟩
 ·simp[mR,VE,qbd hne']
 ·simp[mR,VE,qbn hne']
 ·rintro P rfl;simp[mR,VE,mG]
theorem qh9{C:Ctx} {f:FuncId} {args:List AV} (h:CallAt C f args ⟨3,[mR v 1 out 2 o]⟩ (.tup []) ⟨5,[mR v 3 out' 4 o']⟩) (ha:qax [(k,1),(j,2),(0,0)] [] args args) (k0:0 < k) (j0:0 < j) (hkj:k≠j) (hk:k < n) (hj:j < n) (hne:out≠[]) (hne':out'≠[]) (hfr:∀e,e∈fr->e.1≠0/\e.1≠k/\e.1≠j) :
  CallAt C f args ⟨n,[fr,mR v k out j o]⟩ (.tup []) ⟨n+2,[fr,mR v n out' (n+1) o']⟩:=by
 have fh:FitH 0 [(k,1),(j,2),(0,0)] [] ⟨n,[fr,mR v k out j o]⟩ ⟨3,[mR v 1 out 2 o]⟩:=zbx (by omega) (by omega) k0 j0 hkj hne (qtr fun e he=>(hfr e he).1) (qtr fun e he=>(hfr e he).2.1) (qtr fun e he=>(hfr e he).2.2);have:=h.framed (H':=⟨n+2,[fr,mR v n out' (n+1) o']⟩) (args:=args) fh ha ?_ (by simp)
 ·simpa[qja,qho]using this
 ·have e0:qje [(k,1),(j,2),(0,0)] n 3 0=0:=by simp[qje,qf1]
  have e3:qje [(k,1),(j,2),(0,0)] n 3 3=n:=by simp[qje,qf1]
  have e4:qje [(k,1),(j,2),(0,0)] n 3 4=n+1:=by simp[qje,qf1]
  refine⟨by simp,?_,?_⟩
  ·intro nd lt;have nd2:=qnr (zea (v:=v) (out:=out') (o:=o') (m:=n+2) (k:=n) (j:=n+1) (by omega) (by omega) (by omega) (by omega) (by omega));simp only[Heap.ents,List.flatten_cons,List.flatten_nil,List.append_nil,List.map_append]at nd ⊢;rw[List.nodup_append]at nd ⊢;refine⟨nd.1,nd2,fun a ha b hb=>?_⟩;obtain⟨e,he,rfl⟩:=List.mem_map.1 ha;obtain⟨e2,he2,rfl⟩:=List.mem_map.1 hb;have l1:=lt e (by simp[Heap.ents,he]);have l2:=(hfr e he).1;simp only at l1;rcases qu3 hne' e2 he2 with rfl|rfl|⟨P,_,rfl⟩
   ·exact l2
   ·simp only;omega
   ·simp only;omega
  ·intro e he;simp only[Heap.ents,List.flatten_cons,List.flatten_nil,List.append_nil,List.mem_append]at he ⊢;rcases he with he|he
   ·refine .inr ⟨.inl he,fun x hx=>?_⟩;have:=hfr e he;simp at hx;rcases hx with rfl|rfl|rfl
    ·exact fun h=>this.2.1 h.symm
    ·exact fun h=>this.2.2 h.symm
    ·exact fun h=>this.1 h.symm
   ·obtain⟨m0,mk,mj⟩:=mem_mR (v:=v) (k:=3) (j:=4) (o:=o') hne';rcases qu3 hne' e he with rfl|rfl|⟨P,hP,rfl⟩
    ·refine .inl ⟨_,m0,?_⟩;have hv:=qif (qje [(k,1),(j,2),(0,0)] n 3) (qdh v);simp only[qn0,qho,hv,qja,e0,e3];cases o' with
     |none=>simp[mV,qja]
     |some P=>simp[mV,qja,e4]
    ·refine .inl ⟨_,mk,?_⟩;simp only[qn0,e3,qcd _ (qbg out').pure]
    ·refine .inl ⟨_,mj P hP,?_⟩;simp only[qn0,e4,qcd _ (qbg P).pure]
end
set_option maxHeartbeats 1000000
theorem elem_no{T:List (Entry PG)} (hA:qIn 57 T e57) (hM:qIn 58 T e58)
  {v out res:Tr} {o o2:Option (List Nd)} {up:Nat} {k:Int} {x:Nd} (hx:okM x) (hx2:okN (elN x)) (hp:okP (mL o)) (hne:out≠[]) (hres:res≠[]) (hb:qny (mL o) (elN x)=false)
  (hc:CA T 22 [.ptr 0 0,.int .i64 k,.int .i64 (up:Int)] ⟨3,[mR v 1 out 2 o]⟩ (.tup []) ⟨5,[mR v 3 res 4 o2]⟩) :
  CA T 37 [.ptr 0 0,.int .i64 k,.int .i64 (up:Int),qa3 x] ⟨3,[mR v 1 out 2 o]⟩ (.tup []) ⟨5,[mR v 3 res 4 o2]⟩:=by
 have kA:=fun H=>k57 hA x hx H;have kM:=fun(n:Nat) (f:List (Nat × Blk)) (h:getF 2 f=none)=>q58 hM (thm_p (v:=v) (out:=out) (n:=n) (f:=f) (k:=1) (j:=2) (o:=o) (by omega) (by omega) hne h) (qan (H:=⟨n,[f,mR v 1 out 2 o]⟩) (ss:=[0,0,0,2,0,0,1]) (v:=qa3 (elN x)) (by simp)) hp hx2;rw[hb]at kM;have kM:=fun n=>kM n [(3,.cells (elN x).cs)] rfl;have l3:qh7 [qaf (qic x)] 3 x.cs=some [qb9 x.kind,qb9 x.space,.str x.name,qaf (qic x),.str x.data,qb9 x.up,qbc x.kids]:=rfl;have e7:[qb9 x.kind,qb9 x.space,.str x.name,qaf (qic x),.str [],qb9 x.up,qbc x.kids]=(elN x).cs:=rfl;have hc':=qh9 (n:=11) (k:=1) (j:=2) (fr:=[(3,.cells (elN x).cs)]) hc (by simp[qax,qas,qb2,qab]) (by omega) (by omega) (by omega) (by omega) (by omega) hne hres (by simp);have cA:(qaf (qic x)).cells=[qaf (qic x)]:=rfl;have sA:(qaf (qic x)).single=true:=rfl;have rA:∀n,refs n (qaf (qic x))=[]:=fun n=>qig n _ (by simp);refine qa0 (s0:=⟨[0,1,2,3,7,8],[.ptr 0 0,.int .i64 k,.int .i64 (up:Int),qa3 x,uD,uD],[],55,⟨3,[]::[mR v 1 out 2 o]⟩⟩) Tryz.func37 rfl rfl rfl ?_;apply ra;simp[zS,qaq];apply ra;simp[zS,qaq,kA,cA,sA,rA,allSingle,l3,qcb];rw[e7];repeat apply wq
 refine qbu mixed qbf (by decide +kernel) (by decide +kernel) ?_;simp[zS,qcr,qbl,qbi,zbd,qaq,kM];apply qai rfl;repeat apply wq
 refine qah (qbh [⟨22,_,_,_,_,hc'⟩]) ?_;simp[zS,qcc];apply qa5;simp[zQ,Tryz.f37];exact⟨_,_,by simp[qas,qax],fitm (by omega) (by omega) (by omega) (by omega) hres (by simp[getF]) (by simp[getF]) (by simp[getF])⟩
section
variable {v out:Tr} {m n k j:Nat} {o:Option (List Nd)} {P:List Nd} {fr:List (Nat × Blk)}
theorem qpl(P:List Nd):qa9 (qa6 (P.map qa3))=true:=(qbg P).pure
theorem app_m{x:Nd} {A:Blk} (hne:out≠[]) (hl:P.length<=100000) (ho:o=none/\P=[]\/o=some P) :
  qbz PG ⟨22,[[(17,.cells x.cs),(3,A)],mR v 1 out 2 o]⟩ 34 (mV 2 o) (.slc 17 0 1 (.ex 1)) =
   some (.slc 22 0 (P.length+1) (.rest 7),⟨23,[[(22,.cells (qa6 ((P++[x]).map qa3))),(17,.cells x.cs),(3,A)],[(0,.cells [qaa v,.slc 1 0 out.length (.rest 7),mV 2 o]),(1,.cells (qa6 (out.map qa3)))]]⟩):=by
 have eR:mR v 1 out 2 o=[(0,.cells [qaa v,.slc 1 0 out.length (.rest 7),mV 2 o]),(1,.cells (qa6 (out.map qa3)))]++mG 2 o:=by
  have hne':out.map qa3≠[]:=by simpa using hne
  simp[mR,VE,qbn hne',qbd hne']
 rw[eR];generalize qa6 (out.map qa3)=F;rcases ho with⟨rfl,rfl⟩|rfl
 ·rfl
 ·cases P with
  |nil=>rfl
  |cons y r=>
   have h:=qii (P:=PG) (H:=⟨22,[[(17,.cells x.cs),(3,A)],[(0,.cells [qaa v,.slc 1 0 out.length (.rest 7),mV 2 (some (y::r))]),(1,.cells F)]++mG 2 (some (y::r))]⟩) (elem:=34) (b:=2) (n:=0) (es:=(y::r).map qa3) (cs:=x.cs) (x:=.slc 17 0 1 (.ex 1)) qt0 qub qx5
    rfl (by omega) (by omega) rfl (by simp[qba,readCells,zG,Blk.rd]) rfl rfl (qbg _) (by simp at hl ⊢;omega) (fun _=>by simp[zG,mG]) (fun he=>absurd he (by simp)) (by intro cs;rfl)
   have hd:Heap.drop ⟨22,[[(17,.cells x.cs),(3,A)],[(0,.cells [qaa v,.slc 1 0 out.length (.rest 7),mV 2 (some (y::r))]),(1,.cells F)]++mG 2 (some (y::r))]⟩ 2=⟨22,[[(17,.cells x.cs),(3,A)],[(0,.cells [qaa v,.slc 1 0 out.length (.rest 7),mV 2 (some (y::r))]),(1,.cells F)]]⟩:=rfl;rw[hd,qbd (by simp)]at h;have e:qa6 ((y::r).map qa3)++x.cs=qa6 ((y::r++[x]).map qa3):=(by rw[List.map_append,qbj];simp[qa6]);rw[e]at h;simpa[Heap.new,pushF,mV]using h
theorem put_m{c m n:Nat} {Q:List Nd} {A B:Nat × Blk} {a w u:AV} {R:Blk} (hc:c≠0) (hA:A.1≠0) (hB:B.1≠0) :
  writeVar PG ⟨n,[(c,.cells (qa6 (Q.map qa3)))::[A,B],[(0,.cells [a,w,u]),(1,R)]]⟩ 22 (.ptr 0 2) (.slc c 0 m (.rest 7)) =
   some ⟨n,[[A,B],[(c,.cells (qa6 (Q.map qa3))),(0,.cells [a,w,.slc c 0 m (.rest 7)]),(1,R)]]⟩:=by
 have b1:Nat.beq c 0=false:=qao hc;have b2:Nat.beq A.1 0=false:=qao hA;have b3:Nat.beq B.1 0=false:=qao hB;have hk:qr7 (.cells (qa6 (Q.map qa3)))=[]:=qe3 4 _ (qpl Q);have r1:qgs 100000 [c] ((c,.cells (qa6 (Q.map qa3)))::[A,B]) []=([(c,.cells (qa6 (Q.map qa3)))],[A,B]):=by have:=qv4 (n:=99998) (b:=c) (k:=.cells (qa6 (Q.map qa3))) (x:=(c,.cells (qa6 (Q.map qa3)))) (f:=[A,B]) (acc:=[]) (by simp[getF]) hk;rw[this];simp[killF]
 have e1:qph [((c,.cells (qa6 (Q.map qa3))):Nat × Blk)]++[c]=[c]:=by simp[qph,hk]
 have n1:getF 0 ((c,Blk.cells (qa6 (Q.map qa3)))::[A,B])=none:=by simp[getF,b1,b2,b3]
 have hp:qcy 0 [c] [] [(c,.cells (qa6 (Q.map qa3)))::[A,B],[(0,.cells [a,w,u]),(1,R)]]=[[A,B],[(c,.cells (qa6 (Q.map qa3))),(0,.cells [a,w,u]),(1,R)]]:=by unfold qcy;rw[n1];simp only[r1,e1];unfold qcy;simp[getF]
 have hg:Heap.get ⟨n,[(c,.cells (qa6 (Q.map qa3)))::[A,B],[(0,.cells [a,w,u]),(1,R)]]⟩ 0=some (.cells [a,w,u]):=by simp[zG,b1,b2,b3]
 have hrd:Heap.ready ⟨n,[(c,.cells (qa6 (Q.map qa3)))::[A,B],[(0,.cells [a,w,u]),(1,R)]]⟩ 0 [.slc c 0 m (.rest 7)]=⟨n,[[A,B],[(c,.cells (qa6 (Q.map qa3))),(0,.cells [a,w,u]),(1,R)]]⟩:=by show (⟨n,qcy 0 [c] [] _⟩ : Heap)=_;rw[hp]
 have hs1:setF 0 (.cells [a,w,.slc c 0 m (.rest 7)]) [A,B]=none:=qjp (by simp[getF,b2,b3]);unfold writeVar;simp only[szT22,Option.bind_some,zgh,List.length_cons,List.length_nil];simp[allSingle,AV.single,writeCells,hg,Blk.wt,hrd,Heap.set,setFs,setF,b1,b2,b3,Blk.re]
theorem sl_m{H:Heap} {cs:List AV} {b q kn:Nat} (hb:H.get b=some (.cells cs)) (hl:cs.length=kn * 7) (hq:q+1<=kn) :
  qdx PG H 22 (.slc b 0 (q+1) (.rest 7)) none (some (.int .i64 (q:Int))) none=some (.slc b 0 q (.rest 7)):=by
 have hs:qce PG 34=some 7:=qt0;have hk:qcp H b=some (kn * 7):=by simp[qcp,hb,Blk.rd,hl]
 simp only[qdx,qzw,Tryz.underlying22,Option.bind_some,hs];have e2:kn * 7 / 7=kn:=by omega
 have hi1:idx (q:Int) (Nat.succ kn)=some q:=qbv (by omega);have hn:Nat.ble (kn * 7) 0=false:=by cases kn with
  |zero=>omega
  |succ m=>rfl
 simp only[qki,hk,Option.bind_some,qd4,Nat.beq_refl,Nat.sub_zero,e2,hi1,Nat.zero_mul,hn,Nat.add_zero]
end
set_option maxHeartbeats 1000000
theorem len_m{j:Nat} {o:Option (List Nd)} {H:Heap}:qf6 PG H 22 (mV j o)=some (mL o).length:=by cases o<;>simp[mV,mL,qf6]
theorem fit_up{v out:Tr} {y:Nd} {Q:List Nd} {n:Nat} (hne:out≠[]):FitH 3 [(3,4),(1,1),(22,3),(0,0)] [] ⟨n,[[(17,.cells y.cs),(3,.cells y.cs)],[(22,.cells (qa6 (Q.map qa3))),(0,.cells [qaa v,.slc 1 0 out.length (.rest 7),.slc 22 0 Q.length (.rest 7)]),(1,.cells (qa6 (out.map qa3)))]]⟩ ⟨5,[[(4,.cells y.cs)],mR v 1 out 3 (some Q)]⟩ where
 nd1:=by simp
 nd2:=by simp
 nd3:=by
  have hne':out.map qa3≠[]:=by simpa using hne
  simp[Heap.ents,mR,VE,qbn hne',mG]
 lt:=by simp
 idn:=by simp
 num:=by simp
 src:=by
  intro e he;simp only[Heap.ents,List.flatten_cons,List.flatten_nil,List.append_nil,List.mem_append,List.mem_singleton]at he;rcases he with rfl|he
  ·exact⟨3,.cells y.cs,by simp,by simp[zG],qak (qe4 y)⟩
  ·rcases qu3 hne e he with rfl|rfl|⟨P,hP,rfl⟩
   ·exact⟨0,.cells [qaa v,.slc 1 0 out.length (.rest 7),.slc 22 0 Q.length (.rest 7)],by simp,by simp[zG],by simp[qi1,qax,qas,qb2,mV,qb5 (qdh v)]⟩
   ·exact⟨1,.cells (qa6 (out.map qa3)),by simp,by simp[zG],qak (qpl out)⟩
   ·simp only[sj]at hP;subst hP;exact⟨22,.cells (qa6 (Q.map qa3)),by simp,by simp[zG],qak (qpl Q)⟩
 frz:=fun x h=>by cases h
theorem FitH.drop0{N n:Nat} {σ:List (Nat × Nat)} {Φ:List (Nat × List AV)} {fs:List (List (Nat × Blk))} {H':Heap} (h:FitH N σ Φ ⟨n,[]::fs⟩ H'):FitH N σ Φ ⟨n,fs⟩ H':=
 ⟨h.nd1,h.nd2,h.nd3,h.lt,h.idn,h.num,h.src,h.frz⟩
theorem WpSr.shrQ{C:Ctx} {n:Nat} {r:Option Nat} {c:Code} {s:St} {Q:Out->St->Prop} (h:WpSr C n r c s (fun x s'=>∃H',Shr s'.H H'/\Q x (s'.wH H'))):WpSr C n r c s Q:=
 fun b a w hb ha K hK=>h b a w hb ha K fun x s2 a2 w2 q1 q2=>by obtain⟨H',k,q⟩:=q1;exact hK x _ a2 w2 q (q2.shr k)
theorem elem_yes{T:List (Entry PG)} (hA:qIn 57 T e57) (hM:qIn 58 T e58)
  (hAc:qIn 51 T e51) (hP:qIn 154 T e154) (hS:qIn 124 T e124) (hH:qIn 125 T e125) (hCl:qIn 128 T e128)
  {v out res:Tr} {o:Option (List Nd)} {up:Nat} {k:Int} {x:Nd} (hx:okM x) (hx2:okN (elN x)) (hxa:(qic x).length<=1000000) (hp:okP (mL o)) (hu:up < out.length) (hn:out.length+1<=100000) (ok:UpOk out) (hres:res≠[]) (hb:qny (mL o) (elN x)=true)
  (hc:CA T 22 [.ptr 0 0,.int .i64 k,.int .i64 (out.length:Int)] ⟨3,[mR v 1 (qf5 out up (elN x)) 2 (some (mL o++[elN x]))]⟩ (.tup []) ⟨5,[mR v 3 res 4 (some (mL o++[elN x]))]⟩) :
  CA T 37 [.ptr 0 0,.int .i64 k,.int .i64 (up:Int),qa3 x] ⟨3,[mR v 1 out 2 o]⟩ (.tup []) ⟨5,[mR v 3 res 4 (some (mL o))]⟩:=by
 have hne:out≠[]:=by intro e;subst e;simp at hu
 have hput0:qf5 out up (elN x)≠[]:=by simp[qf5,qey]
 have kA:=fun H=>k57 hA x hx H;have kM:=fun(n:Nat) (f:List (Nat × Blk)) (h:getF 2 f=none)=>q58 hM (thm_p (v:=v) (out:=out) (n:=n) (f:=f) (k:=1) (j:=2) (o:=o) (by omega) (by omega) hne h) (qan (H:=⟨n,[f,mR v 1 out 2 o]⟩) (ss:=[0,0,0,2,0,0,1]) (v:=qa3 (elN x)) (by simp)) hp hx2;rw[hb]at kM;have kM:=fun n=>kM n [(3,.cells (elN x).cs)] rfl;have l3:qh7 [qaf (qic x)] 3 x.cs=some [qb9 x.kind,qb9 x.space,.str x.name,qaf (qic x),.str x.data,qb9 x.up,qbc x.kids]:=rfl;have e7:[qb9 x.kind,qb9 x.space,.str x.name,qaf (qic x),.str [],qb9 x.up,qbc x.kids]=(elN x).cs:=rfl;have cA:(qaf (qic x)).cells=[qaf (qic x)]:=rfl;have sA:(qaf (qic x)).single=true:=rfl;have rA:∀n,refs n (qaf (qic x))=[]:=fun n=>qig n _ (by simp);obtain⟨y,hy⟩ : ∃y,y=elN x:=⟨_,rfl⟩;have hya:y.attrs.length<=1000000:=by rw[hy];exact hxa
 rw[<- hy]at hx2 hb hc kM e7 hput0;obtain⟨P,hPo⟩ : ∃P,P=mL o:=⟨_,rfl⟩;rw[<- hPo]at hp hb hc ⊢;have ho:o=none/\P=[]\/o=some P:=by
  cases o with
  |none=>exact .inl ⟨rfl,by rw[hPo];rfl⟩
  |some q=>exact .inr (by rw[hPo];rfl)
 obtain⟨Q,hQ⟩ : ∃Q,Q=P++[y]:=⟨_,rfl⟩;have hQl:Q.length=P.length+1:=by rw[hQ];simp
 rw[<- hQ]at hc;have happ:=app_m (v:=v) (x:=y) (A:=.cells y.cs) hne hp.1 ho;rw[<- hQ,<- hQl]at happ;have hst:=fun n=>put_m (c:=22) (m:=Q.length) (n:=n) (Q:=Q) (A:=(17,.cells y.cs)) (B:=(3,.cells y.cs)) (a:=qaa v) (w:=.slc 1 0 out.length (.rest 7)) (u:=mV 2 o) (R:=.cells (qa6 (out.map qa3))) (by omega) (by simp) (by simp);have hm:=(zea (v:=v) (out:=out) (o:=some Q) (m:=4) (k:=1) (j:=3) (by omega) (by omega) (by omega) (by omega) (by omega)).extra (m':=5) (q:=4) (b:=.cells y.cs) (Nat.le_refl _) (by omega) (qjo (qe4 y));have hput:=(c56 (T:=T) hAc hP hS hH hCl hm (by omega) hu ok y hya).perm (H2:=⟨5,[[(4,.cells y.cs)],mR v 1 out 3 (some Q)]⟩) (H2':=⟨6,[[(4,.cells y.cs)],mR v 5 (qf5 out up y) 3 (some Q)]⟩) rfl rfl qnq qnq;have hc':=qh9 (n:=6) (k:=5) (j:=3) (fr:=[(4,.cells y.cs)]) hc (by simp[qax,qas,qb2,qab]) (by omega) (by omega) (by omega) (by omega) (by omega) hput0 hres (by simp);have hln:=fun H=>len_m (j:=2) (o:=o) (H:=H);rw[<- hPo]at hln;refine qa0 (s0:=⟨[0,1,2,3,7,8],[.ptr 0 0,.int .i64 k,.int .i64 (up:Int),qa3 x,uD,uD],[],55,⟨3,[]::[mR v 1 out 2 o]⟩⟩) Tryz.func37 rfl rfl rfl ?_;apply ra;simp[zS,qaq];apply ra;simp[zS,qaq,kA,cA,sA,rA,allSingle,l3,qcb];rw[e7];repeat apply wq
 refine qbu mixed qbf (by decide +kernel) (by decide +kernel) ?_;simp[zS,qcr,qbl,qbi,zbd,qaq,kM];apply qag rfl;apply qa4;simp;apply ra;simp[zS,zbd,hln];repeat apply wq
 refine qc8 mixed qbf (by decide +kernel) fun B_ hB_=>?_;have hD_:ahead B_ 4 7=true/\ahead B_ 4 10=true/\ahead B_ 5 7=true/\ahead B_ 5 10=true/\ahead B_ 6 7=true/\ahead B_ 6 10=true/\ahead B_ 7 4=false/\ahead B_ 7 5=false/\ahead B_ 10 4=false/\ahead B_ 10 5=false:=by rw[hB_];decide +kernel
 apply qi9 B_;simp[zS,qdl,qc6,qc3,qbk,qap,qb4,qaz,Heap.lay,qd9,qi7,qi6,qfa,qf9,qf7,qf8,qfo,qfc,qdv,qdw,qfi,qfh,qff,qfg,qfl,qfm,qfk,qfj,hD_,zbd,qaq,happ,hst];exact rfl;refine⟨_,rfl,?_,?_⟩;simp[zS,qbk,qap,qc7,qcl,qdy,hD_,zbd,qaq,happ,hst];simp[qc5,Heap.lay,qd9,qam];refine WpSr.fit [(3,4),(1,1),(22,3),(0,0)] [] (s':=(⟨[0,1,2,3,7,8],[.ptr 0 0,.int .i64 k,.int .i64 (up:Int),uD,.ptr 4 0,.int .i64 (P.length:Nat)],[],55,⟨5,[[(4,.cells y.cs)],mR v 1 out 3 (some Q)]⟩⟩ : St)) ⟨rfl,rfl,rfl,by simp[qax,qas,qb2,qab],fit_up hne⟩ ?_;repeat apply wq
 refine qah (qbh [⟨56,_,_,_,_,hput⟩,⟨22,_,_,_,_,hc'⟩]) ?_;simp[zS,qcc,qaq];refine WpSr.fit [(6,3),(7,4),(0,0)] [] (s':=(⟨[0,1,2,3,7,8],[.ptr 0 0,uD,uD,uD,uD,.int .i64 (P.length:Nat)],[],55,⟨5,[mR v 3 res 4 (some Q)]⟩⟩ : St)) ⟨rfl,rfl,rfl,by simp[qax,qas,qb2,qab],zbx (by omega) (by omega) (by omega) (by omega) (by omega) hres (by simp[getF]) (by simp[getF]) (by simp[getF])⟩ ?_;have hres':res.map qa3≠[]:=by simpa using hres
 have eR:mR v 3 res 4 (some Q)=[(0,.cells [qaa v,.slc 3 0 res.length (.rest 7),.slc 4 0 Q.length (.rest 7)]),(3,.cells (qa6 (res.map qa3))),(4,.cells (qa6 (Q.map qa3)))]:=by simp[mR,VE,qbn hres',qbd hres',mV,mG]
 have eR2:mR v 3 res 4 (some P)=[(0,.cells [qaa v,.slc 3 0 res.length (.rest 7),.slc 4 0 P.length (.rest 7)]),(3,.cells (qa6 (res.map qa3))),(4,.cells (qa6 (P.map qa3)))]:=by simp[mR,VE,qbn hres',qbd hres',mV,mG]
 rw[eR];have hsl:∀n:Nat,qdx PG ⟨n,[[(0,.cells [qaa v,.slc 3 0 res.length (.rest 7),.slc 4 0 Q.length (.rest 7)]),(3,.cells (qa6 (res.map qa3))),(4,.cells (qa6 (Q.map qa3)))]]⟩ 22 (.slc 4 0 Q.length (.rest 7)) none (some (.int .i64 (P.length:Int))) none=some (.slc 4 0 P.length (.rest 7)):=fun n=>by rw[hQl];exact sl_m (cs:=qa6 (Q.map qa3)) (kn:=P.length+1) (by simp[zG]) (by rw[(qbg Q).len];simp[hQl]) (by omega)
 refine WpSr.shrQ ?_;apply ra;simp[zS,hsl,qcb];have hsh:Shr ⟨5,[[(0,.cells [qaa v,.slc 3 0 res.length (.rest 7),.slc 4 0 P.length (.rest 7)]),(3,.cells (qa6 (res.map qa3))),(4,.cells (qa6 (Q.map qa3)))]]⟩ ⟨5,[mR v 3 res 4 (some P)]⟩:=by rw[eR2];exact⟨rfl,⟨rfl,.inl rfl,rfl,.inl rfl,rfl,.inr ⟨qa6 (P.map qa3),qa6 ([y].map qa3),by rw[hQ,List.map_append,qbj],rfl⟩,trivial⟩⟩
 refine⟨_,hsh,?_⟩;simp[zQ,Tryz.f37,St.wH];exact⟨_,_,by simp[qas,qax],.drop0 (fitm (k:=3) (j:=4) (f:=[]) (by omega) (by omega) (by omega) (by omega) hres rfl rfl rfl)⟩
theorem qgy(t:Tr) {u:Nat} (hu:u < t.length) (n:Nd):(qf5 t u n).length=t.length+1:=by unfold qf5;rw[qm7 (by rw[qcv (by simp;omega)];simp),qcv (by simp;omega)];simp
theorem qhj(t:Tr) {i:Nat} (hi:i < t.length) (s:Str):(qib t i s).length=t.length:=by unfold qib;simp;omega
def qym(t:Tr):Prop:=∀n,n∈t->∀k,k∈n.kids->0<=k/\k < (t.length:Int)
theorem mem_mid{a b:List Nd} {x n:Nd} (h:n∈a++x::b):n∈a\/n=x\/n∈b:=by simpa using h
theorem qg4{t:Tr} {i:Nat} {x n:Nd} (h:n∈t.take i++x::t.drop (i+1)):n∈t\/n=x:=by
 rcases mem_mid h with h|h|h
 ·exact .inl (List.mem_of_mem_take h)
 ·exact .inr h
 ·exact .inl (List.mem_of_mem_drop h)
theorem qzu{t:Tr} (h:qym t) {u:Nat} (hu:u < t.length) (n:Nd):qym (qf5 t u n):=by
 have hl:=qgy t hu n;intro m hm k hk;rw[hl];have old:∀x,x∈t->∀k,k∈x.kids->0<=k/\k < ((t.length+1:Nat):Int):=fun x hx k hk=>by have:=h x hx k hk;omega
 have hun:qa1 t (u:Int)∈t:=qb3 (by omega) (by omega);have key:∀m,m∈qb8 (t++[fresh n]) u ((qa1 t (u:Int)).kids++[(t.length:Int)])->∀k,k∈m.kids->0<=k/\k < ((t.length+1:Nat):Int):=fun m hm k hk=>by
  rcases qg4 hm with hm|rfl
  ·rcases List.mem_append.1 hm with hm|hm
   ·exact old m hm k hk
   ·simp at hm;subst hm;simp[fresh]at hk
  ·simp only[List.mem_append,List.mem_singleton]at hk;rcases hk with hk|rfl
   ·exact old _ hun k hk
   ·omega
 unfold qf5 at hm;rcases qg4 hm with hm|rfl
 ·exact key m hm k hk
 ·exact key _ (qb3 (by omega) (by rw[qcv (by simp;omega)];simp;omega)) k hk
theorem zeu{t:Tr} (h:qym t) {i:Nat} (hi:i < t.length) (s:Str):qym (qib t i s):=by
 intro m hm k hk;rw[qhj t hi];rcases qg4 hm with hm|rfl
 ·exact h m hm k hk
 ·exact h _ (qb3 (by omega) (by omega)) k hk
theorem qxn{t:Tr} (h:qym t) {u:Nat} (hu:u < t.length) {k:Int} (hk:qvy t u=some k):0<=k/\k < (t.length:Int):=
 h _ (qb3 (by omega) (by omega)) k (List.mem_of_getLast? hk)
theorem up_put{t:Tr} (h:UpOk t) {u:Nat} (hu:u < t.length) (n:Nd):UpOk (qf5 t u n):=by
 have hl:=qgy t hu n;have hun:qa1 t (u:Int)∈t:=qb3 (by omega) (by omega);have key:∀m,m∈qb8 (t++[fresh n]) u ((qa1 t (u:Int)).kids++[(t.length:Int)])->m.up < (t.length:Int)+1/\m.kids.length<=t.length+1:=fun m hm=>by
  have old:∀x,x∈t++[fresh n]->x.up < (t.length:Int)+1/\x.kids.length<=t.length+1:=fun x hx=>by
   rcases List.mem_append.1 hx with hx|hx
   ·have:=h.up x hx;have:=h.kids x hx;exact⟨by omega,by omega⟩
   ·simp at hx;subst hx;exact⟨by simp[fresh];omega,by simp[fresh]⟩
  rcases qg4 hm with hm|rfl
  ·exact old m hm
  ·have h1:=old (qa1 (t++[fresh n]) (u:Int)) (qb3 (by omega) (by simp;omega));have h2:=h.kids _ hun;exact⟨h1.1,by simp;omega⟩
 constructor
 ·intro m hm;unfold qf5 at hm;rcases qg4 hm with hm|rfl
  ·have:=(key m hm).1;omega
  ·show (u:Int) < _;omega
 ·intro m hm;unfold qf5 at hm;rcases qg4 hm with hm|rfl
  ·have:=(key m hm).2;omega
  ·have:=(key _ (qb3 (t:=qb8 (t++[fresh n]) u ((qa1 t (u:Int)).kids++[(t.length:Int)])) (i:=(t.length:Int)) (by omega) (by rw[qcv (by simp;omega)];simp;omega))).2;show (qa1 _ _).kids.length<=_;omega
theorem up_data{t:Tr} (h:UpOk t) {i:Nat} (hi:i < t.length) (s:Str):UpOk (qib t i s):=by
 have hl:=qhj t hi s;have hn:qa1 t (i:Int)∈t:=qb3 (by omega) (by omega);constructor
 ·intro m hm;rcases qg4 hm with hm|rfl
  ·have:=h.up m hm;omega
  ·have:=h.up _ hn;show (qa1 t (i:Int)).up < _;omega
 ·intro m hm;rcases qg4 hm with hm|rfl
  ·have:=h.kids m hm;omega
  ·have:=h.kids _ hn;show (qa1 t (i:Int)).kids.length<=_;omega
theorem da_put{t:Tr} {D:Nat} (h:∀n,n∈t->n.data.length<=D) {u:Nat} (hu:u < t.length) {n:Nd} (hn:n.data.length<=D):∀m,m∈qf5 t u n->m.data.length<=D:=by
 have k0:∀x,x∈t++[fresh n]->x.data.length<=D:=fun x hx=>by
  rcases List.mem_append.1 hx with hx|hx
  ·exact h x hx
  ·simp at hx;subst hx;exact hn
 have key:∀m,m∈qb8 (t++[fresh n]) u ((qa1 t (u:Int)).kids++[(t.length:Int)])->m.data.length<=D:=fun m hm=>by
  rcases qg4 hm with hm|rfl
  ·exact k0 m hm
  ·exact k0 (qa1 (t++[fresh n]) (u:Int)) (qb3 (by omega) (by simp;omega))
 intro m hm;unfold qf5 at hm;rcases qg4 hm with hm|rfl
 ·exact key m hm
 ·exact key (qa1 (qb8 (t++[fresh n]) u ((qa1 t (u:Int)).kids++[(t.length:Int)])) (t.length:Int)) (qb3 (t:=qb8 (t++[fresh n]) u ((qa1 t (u:Int)).kids++[(t.length:Int)])) (i:=(t.length:Int)) (by omega) (by rw[qcv (by simp;omega)];simp;omega))
theorem da_data{t:Tr} {D:Nat} (h:∀n,n∈t->n.data.length<=D) {i:Nat} (hi:i < t.length) (s:Str):∀m,m∈qib t i s->m.data.length<=D+s.length:=by
 intro m hm;rcases qg4 hm with hm|rfl
 ·have:=h m hm;omega
 ·have:=h _ (qb3 (t:=t) (i:=(i:Int)) (by omega) (by omega));simp;omega
structure MoOk (out:Tr) (D:Nat):Prop where
 up:UpOk out
 kd:qym out
 da:∀n,n∈out->n.data.length<=D
theorem qvn{t:Tr} {D:Nat} (h:MoOk t D) {u:Nat} (hu:u < t.length) {n:Nd} (hn:n.data.length<=D):MoOk (qf5 t u n) D:=⟨up_put h.up hu n,qzu h.kd hu n,da_put h.da hu hn⟩
theorem zd2(out:Tr) (up:Nat) {s:Str} (hs:s.length<=30000):(qgn out up s).length<=90000:=by have hdl:=qi3 _ s (Nat.le_refl _);unfold qgn;have:=qoj (qgu s);split<;>omega
theorem qor{t:Tr} {D:Nat} (h:MoOk t D) {u:Nat} (hu:u < t.length) {P:List Nd} {s:Str} (hs:s.length<=30000):MoOk (qef P u s t) (D+90000)/\t.length<=(qef P u s t).length/\(qef P u s t).length<=t.length+1:=by
 have hx:=zd2 t u hs;have wk:∀{t':Tr},MoOk t' D->MoOk t' (D+90000):=fun h=>⟨h.up,h.kd,fun n hn=>by have:=h.da n hn;omega⟩;have hp:MoOk (qf5 t u ⟨2,0,[],[],qgn t u s,0,[]⟩) (D+90000):=qvn (wk h) hu (by simp;omega);have hl:=qgy t hu ⟨2,0,[],[],qgn t u s,0,[]⟩;unfold qef;split
 ·split
  ·rename_i k hk;have hkr:=qxn h.kd hu hk;split
   ·have hi:k.toNat < t.length:=(by omega);refine⟨⟨up_data h.up hi _,zeu h.kd hi _,fun n hn=>?_⟩,by rw[qhj _ hi];exact Nat.le_refl _,by rw[qhj _ hi];omega⟩;have:=da_data h.da hi _ n hn;omega
   ·exact⟨hp,by omega,by omega⟩
  ·exact⟨hp,by omega,by omega⟩
 ·exact⟨wk h,Nat.le_refl _,by omega⟩
def qs6(L:List Nd):List (Int × Str):=(L.filter fun n=>decide (n.kind=1)).map fun n=>(n.space,n.name)
theorem qml(a b:List Nd):qs6 (a++b)=qs6 a++qs6 b:=by simp[qs6]
theorem qmk(n:Nd):qs6 [n]=if n.kind=1 then [(n.space,n.name)] else []:=by unfold qs6;by_cases h:n.kind=1<;>simp[h]
theorem qtk(a b:List Nd) (n m:Nd) (h:n.kind=m.kind/\n.space=m.space/\n.name=m.name):qs6 (a++n::b)=qs6 (a++m::b):=by have e:∀x:Nd,a++x::b=a++([x]++b):=fun x=>rfl;rw[e,e,qml,qml,qml,qml,qmk,qmk,h.1,h.2.1,h.2.2]
theorem zen(t:Tr) {i:Nat} (hi:i < t.length) (K:List Int):qs6 (qb8 t i K)=qs6 t:=by
 conv=>rhs;rw[qdn hi]
 exact qtk _ _ _ _ ⟨rfl,rfl,rfl⟩
theorem labs_up(t:Tr) {i:Nat} (hi:i < t.length) (u:Int):qs6 (qey t i u)=qs6 t:=by
 conv=>rhs;rw[qdn hi]
 exact qtk _ _ _ _ ⟨rfl,rfl,rfl⟩
theorem zeo(t:Tr) {i:Nat} (hi:i < t.length) (s:Str):qs6 (qib t i s)=qs6 t:=by
 conv=>rhs;rw[qdn hi]
 exact qtk _ _ _ _ ⟨rfl,rfl,rfl⟩
theorem labs_put(t:Tr) {u:Nat} (hu:u < t.length) (n:Nd):qs6 (qf5 t u n)=qs6 t++qs6 [n]:=by unfold qf5;rw[labs_up _ (by rw[qcv (by simp;omega)];simp),zen _ (by simp;omega),qml,qmk,qmk];rfl
theorem chars_ok{P:List Nd} {up:Nat} {s:Str} {out:Tr} (h:qym out) (hu:up < out.length):qym (qef P up s out)/\out.length<=(qef P up s out).length/\qs6 (qef P up s out)=qs6 out:=by
 have hp:=labs_put out hu ⟨2,0,[],[],qgn out up s,0,[]⟩;have hl:=qgy out hu ⟨2,0,[],[],qgn out up s,0,[]⟩;have hz:qs6 [(⟨2,0,[],[],qgn out up s,0,[]⟩ : Nd)]=[]:=by rw[qmk];simp
 rw[hz,List.append_nil]at hp;unfold qef;split
 ·split
  ·rename_i k hk;have hkr:=qxn h hu hk;split
   ·have hi:k.toNat < out.length:=(by omega);exact⟨zeu h hi _,by rw[qhj _ hi];exact Nat.le_refl _,zeo _ hi _⟩
   ·exact⟨qzu h hu _,by rw[hl];omega,hp⟩
  ·exact⟨qzu h hu _,by rw[hl];omega,hp⟩
 ·exact⟨h,Nat.le_refl _,rfl⟩
section
variable {v:Tr}
end
def root0:Nd:=⟨0,0,[],[],[],-1,[]⟩
def qgg(t:Tr):Tr:=qel ((qd2 t).length+2) (qd2 t) [] 0 0 [root0]
section
variable {v:Tr}
def qx4(v:Tr):Nat->Int->Nat
 |0,_=>0
 |f+1,i=>((qa1 v i).kids.map fun k=>1+qx4 v f k).sum
def sumM(v:Tr) (f:Nat) (K:List Int):Nat:=(K.map fun k=>1+qx4 v f k).sum
theorem qur(f:Nat) (k:Int) (r:List Int):sumM v f (k::r)=1+qx4 v f k+sumM v f r:=by simp[sumM]
def zcf(rec:Int->Bool) (v:Tr) (P:List Nd) (K:List Int):Bool:=K.any fun k=>decide ((qa1 v k).kind=1) && (qny P (elN (qa1 v k)) || rec k)
def zar(v:Tr) (P:List Nd):Nat->Int->Bool
 |0,_=>false
 |f+1,i=>zcf (zar v P f) v P (qa1 v i).kids
def qr3(o:Option (List Nd)) (b:Bool):Option (List Nd):=if o=none/\b=true then some [] else o
theorem mL_opt(o:Option (List Nd)) (b:Bool):mL (qr3 o b)=mL o:=by
 unfold qr3;split
 next h=>rw[h.1];rfl
 ·rfl
theorem opt_or(o:Option (List Nd)) (a b:Bool):qr3 (qr3 o a) b=qr3 o (a || b):=by unfold qr3;cases o<;>cases a<;>cases b<;>simp
theorem qzi(P:List Nd) (b:Bool):qr3 (some P) b=some P:=by simp[qr3]
theorem opt_true(o:Option (List Nd)):qr3 o true=some (mL o):=by cases o<;>simp[qr3,mL]
structure LookOk (v:Tr):Prop where
 m:∀n,n∈v->okM n
 e:∀n,n∈v->okN (elN n)
 d:∀n,n∈v->n.data.length<=30000
 k:∀n,n∈v->n.kids.length<=100000/\∀k,k∈n.kids->0<=k/\k < (v.length:Int)
theorem qiv{t:Tr} {D D':Nat} (h:MoOk t D) (hd:D<=D'):MoOk t D':=⟨h.up,h.kd,fun n hn=>by have:=h.da n hn;omega⟩
theorem zee(hv:LookOk v) {f:Nat} {rec:List Nd->Int->Nat->Tr->Tr}
  (hrec:∀P k up out D,0<=k->k < (v.length:Int)->MoOk out D->up < out.length->MoOk (rec P k up out) (D+90000 * qx4 v f k)/\out.length<=(rec P k up out).length/\(rec P k up out).length<=out.length+qx4 v f k)
  (P:List Nd) (up:Nat):∀(K:List Int),(∀k,k∈K->0<=k/\k < (v.length:Int))->∀out D,MoOk out D->up < out.length ->
   MoOk (goM rec v P up K out) (D+90000 * sumM v f K)/\out.length<=(goM rec v P up K out).length/\(goM rec v P up K out).length<=out.length+sumM v f K
 |[],_,out,D,h,hu=>⟨qiv h (by omega),Nat.le_refl _,by simp[goM]⟩
 |k::r,hK,out,D,h,hu=>by
  obtain⟨k0,k1⟩:=hK k (by simp);have hr:=fun k hk=>hK k (List.mem_cons_of_mem _ hk);have hm:qa1 v k∈v:=qb3 k0 k1;rw[qur];unfold goM;split
  ·obtain⟨a1,a2,a3⟩:=qor (P:=P) h hu (hv.d _ hm);obtain⟨b1,b2,b3⟩:=zee hv hrec P up r hr _ _ a1 (by omega);exact⟨qiv b1 (by omega),by omega,by omega⟩
  ·split
   ·split
    ·have hp:MoOk (qf5 out up (elN (qa1 v k))) D:=qvn h hu (Nat.zero_le _);have hl:=qgy out hu (elN (qa1 v k));obtain⟨a1,a2,a3⟩:=hrec (P++[elN (qa1 v k)]) k out.length _ D k0 k1 hp (by omega);obtain⟨b1,b2,b3⟩:=zee hv hrec P up r hr _ _ a1 (by omega);exact⟨qiv b1 (by omega),by omega,by omega⟩
    ·obtain⟨a1,a2,a3⟩:=hrec P k up out D k0 k1 h hu;obtain⟨b1,b2,b3⟩:=zee hv hrec P up r hr _ _ a1 (by omega);exact⟨qiv b1 (by omega),by omega,by omega⟩
   ·obtain⟨b1,b2,b3⟩:=zee hv hrec P up r hr out D h hu;exact⟨qiv b1 (by omega),by omega,by omega⟩
theorem qpx(hv:LookOk v):∀(f:Nat) (P:List Nd) (i:Int) (up:Nat) (out:Tr) (D:Nat),0<=i->i < (v.length:Int)->MoOk out D->up < out.length ->
  MoOk (qel f v P i up out) (D+90000 * qx4 v f i)/\out.length<=(qel f v P i up out).length/\(qel f v P i up out).length<=out.length+qx4 v f i
 |0,P,i,up,out,D,_,_,h,hu=>⟨qiv h (by omega),Nat.le_refl _,by simp[qel]⟩
 |f+1,P,i,up,out,D,i0,i1,h,hu=>by have hm:qa1 v i∈v:=qb3 i0 i1;rw[qel];exact zee hv (fun P k up out D a b c d=>qpx hv f P k up out D a b c d) P up _ (hv.k _ hm).2 out D h hu
end
set_option maxHeartbeats 2000000
structure MaT (T:List (Entry PG)):Prop where
 d:qa8 52 T=some e52.g
 o:qa8 53 T=some e53.g
 l:qa8 54 T=some e54.g
 c:qa8 55 T=some e55.g
 a:qa8 51 T=some e51.g
 p:qa8 154 T=some e154.g
 s:qa8 124 T=some e124.g
 h:qa8 125 T=some e125.g
 i:qa8 128 T=some e128.g
 t:qa8 57 T=some e57.g
 m:qa8 58 T=some e58.g
def qqm(v:Tr):Nat->Int->Prop
 |0,_=>False
 |f+1,i=>∀k,k∈(qa1 v i).kids->(qa1 v k).kind=1->qqm v f k
theorem zer{T:List (Entry PG)} (hT:MaT T) {v:Tr} (hv:LookOk v):∀(f:Nat) (i:Int) (up:Nat) (out:Tr) (o:Option (List Nd)) (D:Nat),qqm v f i->0<=i->i < (v.length:Int)->up < out.length->MoOk out D->okP (mL o)->(mL o).length+f<=1000->out.length+qx4 v f i<=90000->D+90000 * qx4 v f i<=1000000000 ->
  CA T 22 [.ptr 0 0,.int .i64 i,.int .i64 (up:Int)] ⟨3,[mR v 1 out 2 o]⟩ (.tup []) ⟨5,[mR v 3 (qel f v (mL o) i up out) 4 (qr3 o (zar v (mL o) f i))]⟩
 |0,i,up,out,o,D,hf,_,_,_,_,_,_,_,_=>absurd hf (by simp[qqm])
 |f+1,i,up,out,o,D,hf,i0,i1,hu,hmo,hp,hlen,hN,hD=>by
  have ih:=zer hT hv f;have hix:=atX i0 i1;have hne:out≠[]:=by intro e;subst e;simp at hu
  obtain⟨P,hPo⟩ : ∃P,P=mL o:=⟨_,rfl⟩;rw[<- hPo]at hp hlen ⊢;obtain⟨hkl,hkr⟩:=hv.k _ (qb3 i0 i1);obtain⟨K,hK⟩ : ∃K,K=(qa1 v i).kids:=⟨_,rfl⟩;have gk:qck (qa1 v i).cs 6=some (qbc K):=by rw[hK];rfl
  have eN:qx4 v (f+1) i=sumM v f K:=by rw[hK];rfl
  rw[eN]at hN hD;simp only[qqm]at hf;rw[<- hK]at hf hkr hkl;obtain⟨R,hR⟩ : ∃R,R=goM (qel f v) v P up K out:=⟨_,rfl⟩;obtain⟨oF,hoF⟩ : ∃oF,oF=qr3 o (zcf (zar v P f) v P K):=⟨_,rfl⟩;have eR:qel (f+1) v P i up out=R:=by rw[hR,hK];rfl
  have eO:qr3 o (zar v P (f+1) i)=oF:=by rw[hoF,hK];rfl
  rw[eR,eO];clear eR eO eN hK;have r0:qaw PG ⟨3,[[],mR v 1 out 2 o]⟩ 22 (.ptr 0 0)=some (qaa v):=rdm_v rfl;generalize (qa1 v i).cs=ics at *;refine qa0 (s0:=⟨[0,1,2,7,8,17,18,19,32],[.ptr 0 0,.int .i64 i,.int .i64 (up:Int),uD,uD,uD,uD,uD,uD],[],48,⟨3,[]::[mR v 1 out 2 o]⟩⟩) Tryz.func22 rfl rfl rfl ?_;apply ra;simp[zS,r0,hix,gk,ql8];refine qa7 (qb1 (fun x:Nat × Tr × Option (List Nd)=>(⟨[0,1,2,7,8,17,18,19,32],[.ptr 0 0,.int .i64 i,.int .i64 (up:Int),uD,uD,qbc K,.int .i64 (K.length:Nat),.int .i64 (x.1:Int),uD],[],48,⟨5,[[],mR v 3 x.2.1 4 x.2.2]⟩⟩ : St))
   (fun x=>x.1<=K.length/\mL x.2.2=P/\up < x.2.1.length/\(∃D',MoOk x.2.1 D'/\D'+90000 * sumM v f (K.drop x.1)<=1000000000)/\x.2.1.length+sumM v f (K.drop x.1)<=90000/\goM (qel f v) v P up (K.drop x.1) x.2.1=R/\qr3 x.2.2 (zcf (zar v P f) v P (K.drop x.1))=oF) (fun x=>K.length - x.1) [(1,3),(2,4),(0,0)] [] (0,out,o)
   ⟨Nat.zero_le _,hPo.symm,hu,⟨D,hmo,hD⟩,hN,hR.symm,hoF.symm⟩
   ⟨rfl,rfl,rfl,by simp[qax,qas,qb2,qab,qa9],(zbx (f:=[]) (by omega) (by omega) (by omega) (by omega) (by omega) hne rfl rfl rfl).fsV (by simp)⟩ ?_)
  clear hR hoF hmo hD hN r0 hu hne;rintro⟨j,ot,oc⟩ ⟨hj,ho,hu,⟨D',hmo,hD⟩,hN,hx,hy⟩ B hB;simp only at hj ho hu hmo hD hN hx hy ⊢;by_cases h:j < K.length
  ·have hc:(j:Int) < (K.length:Int):=(by omega);have hik:=atI h;have hkm:=List.getElem_mem h;rw[List.drop_eq_getElem_cons h]at hx hy hD hN;rw[qur]at hD hN;unfold goM at hx;obtain⟨k0,k1⟩:=hkr _ hkm;have hfk:=hf _ hkm;have hixk:=atX k0 k1;have hac:=qbb (show j<=1000000000 by omega);generalize K[j]=k at *;apply ra;simp[zS,hc,h];repeat apply wq
   apply qai rfl;apply qa4;simp;repeat apply wq
   apply qa7;apply ra;simp[zS,hik];apply ra;simp[zS,rdm_v,hixk,qaq];apply ra;simp[zS];apply qa7;subst ho;have hm:qa1 v k∈v:=qb3 k0 k1;have hdl:=hv.d _ hm;have hne:ot≠[]:=(by intro e;subst e;simp at hu);have hda:∀n,n∈ot->n.data.length<=1000000000:=fun n hn=>(by have:=hmo.da n hn;omega);have hrnd:∀{n:Nat} {t':Tr} {o':Option (List Nd)},t'≠[]->FitH 3 [(6,3),(7,4),(0,0)] [] ⟨n,[[(5,.cells (qa1 v k).cs)],mR v 6 t' 7 o']⟩ ⟨5,[[],mR v 3 t' 4 o']⟩:=fun h=>(zbx (by omega) (by omega) (by omega) (by omega) (by omega) h (by simp[getF]) (by simp[getF]) (by simp[getF])).fsV (by simp);have nil_of:∀{t':Tr},ot.length<=t'.length->t'≠[]:=fun h e=>(by rw[e]at h;simp at h;exact hne h);by_cases hk2:(qa1 v k).kind=2
   ·rw[if_pos hk2]at hx;have hch:=chars_at hT.d hT.o hT.l hT.c hT.a hT.p hT.s hT.h hT.i (v:=v) (s:=(qa1 v k).data) hdl hu (by omega) hmo.up hda hp (fun q hq=>hmo.kd _ (qb3 (by omega) (by omega)) q hq);obtain⟨m1,m2,m3⟩:=qor (P:=mL oc) hmo hu hdl;have hcc:=qh9 (n:=6) (k:=3) (j:=4) (fr:=[(5,.cells (qa1 v k).cs)]) hch (by simp[qax,qas,qb2,qab]) (by omega) (by omega) (by omega) (by omega) (by omega) hne (nil_of m2) (by simp);have hy2:qr3 oc (zcf (zar v (mL oc) f) v (mL oc) (K.drop (j+1)))=oF:=(by rw[<- hy];simp[zcf,hk2]);generalize qef (mL oc) up (qa1 v k).data ot=ot2 at *;have g4:qck (qa1 v k).cs 4=some (.str (qa1 v k).data):=rfl;apply ra;simp[zS,hk2];refine qai (by simp[hk2]) ?_;refine qah (qbh [⟨36,_,_,_,_,hcc⟩]) ?_;simp[zS,qcc,g4];apply ra;simp[zS,hac];exact hB _ (j+1,ot2,oc) (by simp only;omega) ⟨by simp only;omega,rfl,by simp only;omega,⟨_,m1,by simp only;omega⟩,by simp only;omega,hx,hy2⟩ ⟨[(6,3),(7,4),(0,0)],[],rfl,rfl,rfl,by simp[qax,qas,qb2,qab,qa9],hrnd (nil_of m2)⟩
   ·rw[if_neg hk2]at hx;by_cases hk1:(qa1 v k).kind=1
    ·rw[if_pos hk1]at hx;have hfk:=hfk hk1;have hee:=hv.e _ hm;have hmm:=hv.m _ hm;have hxa:(qic (qa1 v k)).length<=1000000:=(by have:(qic (qa1 v k)).length<=1000:=hee.2.1;omega);have pn:=zbg (qa1 v k);cases hb:qny (mL oc) (elN (qa1 v k))with
     |true=>
      rw[if_pos hb]at hx;have hP2:okP (mL oc++[elN (qa1 v k)]):=⟨by simp;omega,fun n hn=>by
       rcases List.mem_append.1 hn with hn|hn
       ·exact hp.2 n hn
       ·simp at hn;subst hn;exact hee⟩
      have mp:=qvn hmo hu (n:=elN (qa1 v k)) (Nat.zero_le _);have hl:=qgy ot hu (elN (qa1 v k));have hih:=ih k ot.length (qf5 ot up (elN (qa1 v k))) (some (mL oc++[elN (qa1 v k)])) D' hfk k0 k1 (by omega) mp hP2 (by simp[mL]at hlen ⊢;omega) (by omega) (by omega);rw[qzi]at hih;obtain⟨m1,m2,m3⟩:=qpx hv f (mL oc++[elN (qa1 v k)]) k ot.length (qf5 ot up (elN (qa1 v k))) D' k0 k1 mp (by omega);have hr:qel f v (mL oc++[elN (qa1 v k)]) k ot.length (qf5 ot up (elN (qa1 v k)))≠[]:=nil_of (by omega);have hel:=elem_yes hT.t hT.m hT.a hT.p hT.s hT.h hT.i (v:=v) (o:=oc) hmm hee hxa hp hu (by omega) hmo.up hr hb hih;have hcc:=qh9 (n:=6) (k:=3) (j:=4) (fr:=[(5,.cells (qa1 v k).cs)]) hel (by simp[qax,qas,qb2,qab,qb5 pn]) (by omega) (by omega) (by omega) (by omega) (by omega) hne hr (by simp);have hy2:qr3 (some (mL oc)) (zcf (zar v (mL oc) f) v (mL oc) (K.drop (j+1)))=oF:=(by rw[<- hy,qzi,<- opt_true];simp[zcf,hk1,hb]);generalize qel f v (mL oc++[elN (qa1 v k)]) k ot.length (qf5 ot up (elN (qa1 v k)))=ot2 at *;apply ra;simp[zS,hk2];refine qag (by simp[hk2]) ?_;apply ra;simp[zS,hk1];refine qai (by simp[hk1]) ?_;refine qah (qbh [⟨37,_,_,_,_,hcc⟩]) ?_;simp[zS,qcc,qaq];apply ra;simp[zS,hac];exact hB _ (j+1,ot2,some (mL oc)) (by simp only;omega) ⟨by simp only;omega,rfl,by simp only;omega,⟨_,m1,by simp only;omega⟩,by simp only;omega,hx,hy2⟩ ⟨[(6,3),(7,4),(0,0)],[],rfl,rfl,rfl,by simp[qax,qas,qb2,qab,qa9],hrnd (nil_of (by omega))⟩
     |false=>rw[if_neg (by rw[hb];simp)]at hx;have hih:=ih k up ot oc D' hfk k0 k1 hu hmo hp (by omega) (by omega) (by omega);obtain⟨m1,m2,m3⟩:=qpx hv f (mL oc) k up ot D' k0 k1 hmo hu;have hel:=elem_no hT.t hT.m (v:=v) (o:=oc) hmm hee hp hne (nil_of m2) hb hih;have hcc:=qh9 (n:=6) (k:=3) (j:=4) (fr:=[(5,.cells (qa1 v k).cs)]) hel (by simp[qax,qas,qb2,qab,qb5 pn]) (by omega) (by omega) (by omega) (by omega) (by omega) hne (nil_of m2) (by simp);have hy2:qr3 (qr3 oc (zar v (mL oc) f k)) (zcf (zar v (mL oc) f) v (mL oc) (K.drop (j+1)))=oF:=(by rw[<- hy,opt_or];simp[zcf,hk1,hb]);have hmo2:=mL_opt oc (zar v (mL oc) f k);generalize qr3 oc (zar v (mL oc) f k)=oc2 at *;generalize qel f v (mL oc) k up ot=ot2 at *;apply ra;simp[zS,hk2];refine qag (by simp[hk2]) ?_;apply ra;simp[zS,hk1];refine qai (by simp[hk1]) ?_;refine qah (qbh [⟨37,_,_,_,_,hcc⟩]) ?_;simp[zS,qcc,qaq];apply ra;simp[zS,hac];exact hB _ (j+1,ot2,oc2) (by simp only;omega) ⟨by simp only;omega,hmo2,by simp only;omega,⟨_,m1,by simp only;omega⟩,by simp only;omega,hx,hy2⟩ ⟨[(6,3),(7,4),(0,0)],[],rfl,rfl,rfl,by simp[qax,qas,qb2,qab,qa9],hrnd (nil_of m2)⟩
    ·rw[if_neg hk1]at hx;have hy2:qr3 oc (zcf (zar v (mL oc) f) v (mL oc) (K.drop (j+1)))=oF:=(by rw[<- hy];simp[zcf,hk1]);apply ra;simp[zS,hk2];refine qag (by simp[hk2]) ?_;apply ra;simp[zS,hk1];refine qag (by simp[hk1]) ?_;apply qa4;simp;apply ra;simp[zS,hac];exact hB _ (j+1,ot,oc) (by simp only;omega) ⟨by simp only;omega,rfl,hu,⟨_,hmo,by simp only;omega⟩,by simp only;omega,hx,hy2⟩ ⟨[(3,3),(4,4),(0,0)],[],rfl,rfl,rfl,by simp[qax,qas,qb2,qab,qa9],(zbx (by omega) (by omega) (by omega) (by omega) (by omega) hne (by simp[getF]) (by simp[getF]) (by simp[getF])).fsV (by simp)⟩
  ·have hc:¬ (j:Int) < (K.length:Int):=(by omega);rw[List.drop_eq_nil_of_le (by omega)]at hx hy;have hne:ot≠[]:=(by intro e;subst e;simp at hu);apply ra;simp[zS,hc,h];repeat apply wq
   apply qag rfl;apply qar;simp[zQ,Tryz.f22];have hx:ot=R:=hx;have hy:oc=oF:=(by rw[<- hy];simp[zcf,qr3]);rw[<- hx,<- hy];exact⟨_,_,by simp[qas,qax],fitm (k:=3) (j:=4) (f:=[]) (by omega) (by omega) (by omega) (by omega) hne rfl rfl rfl⟩
theorem za6(v:Tr):∀(f:Nat) (i:Int),fits f v i->qqm v f i
 |0,i,h=>h
 |f+1,i,h=>fun k hk hk1=>za6 v f k (h k hk hk1)
theorem zge{v:Tr} (hv:∀n,n∈v->∀k,k∈n.kids->0<=k/\k < (v.length:Int)):∀(f:Nat) (i:Int),0<=i->i < (v.length:Int)->1+qx4 v f i=(qei (qbs v) (f+1) i.toNat).length
 |0,i,i0,i1=>by
  have hz:∀L:List Int,(L.map fun _=>0).sum=0:=fun L=>by induction L<;>simp_all
  simp[qx4,qei,hz]
 |f+1,i,i0,i1=>by
  have hm:qa1 v i∈v:=qb3 i0 i1;have ei:((i.toNat:Nat):Int)=i:=by omega
  have ek:(qa1 v i).kids=qbs v i.toNat:=by rw[<- qee (by omega),<- qbt (by omega),ei]
  rw[qei,List.length_cons,List.length_flatMap,qx4,ek];have:((qbs v i.toNat).map fun k=>1+qx4 v f k)=(qbs v i.toNat).map fun c=>(qei (qbs v) (f+1) c.toNat).length:=by refine List.map_congr_left fun k hk=>?_;have hk2:=hv _ hm k (by rw[ek];exact hk);exact zge hv f k hk2.1 hk2.2
  rw[this];omega
theorem zaf{t:Tr} (h:qbx t=true):1+qx4 (qd2 t) ((qd2 t).length+2) 0=(qd2 t).length:=by have w:=qko h;have hr:=qjr h w;have e1:=qtb hr 3;have e3:=ze3 h w;rw[qil (qdo hr) (qep hr),<- e1]at e3;have hp:=qep hr;rw[zge (qoo hr) _ 0 (Int.le_refl 0) (by omega)];show (qei (qbs (qd2 t)) ((qd2 t).length+3) 0).length=_;rw[e3];simp
theorem qwc{t:Tr} (h:qbx t=true):qqm (qd2 t) ((qd2 t).length+2) 0:=
 have hr:=qjr h (qko h)
 za6 _ _ _ (zfn hr _ 0 (qep hr) (by omega))
theorem zgz(n:Nd) {q:At1->Prop}:∀(L out:List At1),(∀a,a∈out->q a)->(∀a,a∈L->q (a.1,qgu a.2))->(qj7 n out L).length<=out.length+L.length/\∀a,a∈qj7 n out L->q a
 |[],out,h,_=>⟨by simp[qj7],by simpa[qj7]using h⟩
 |a::r,out,h,hL=>by
  have h0:=hL a (by simp);have hr:=fun b hb=>hL b (List.mem_cons_of_mem a hb);have hadd:∀b,b∈qob out (a.1,qgu a.2)->q b:=fun b hb=>by
   unfold qob at hb;split at hb
   ·rcases List.mem_append.1 hb with hb|hb
    ·exact h b hb
    ·simp at hb;subst hb;exact h0
   ·exact h b hb
  have hl:=qui out (a.1,qgu a.2);unfold qj7;split
  ·obtain⟨i1,i2⟩:=zgz n r (qob out (a.1,qgu a.2)) hadd hr;exact⟨by simp only[List.length_cons];omega,i2⟩
  ·obtain⟨i1,i2⟩:=zgz n r out h hr;exact⟨by simp only[List.length_cons];omega,i2⟩
def FewM(n:Nd):Prop:=n.name.length<=40/\n.data.length<=300/\n.attrs.length<=14/\∀a,a∈n.attrs->a.1.length<=40/\a.2.length<=150
theorem few_M{n:Nd} (h:ql0 n=true):FewM n:=by simp only[ql0,qk1,Bool.and_eq_true,decide_eq_true_eq,List.all_eq_true]at h;refine⟨h.1,h.2.1,h.2.2.2.1,fun a ha=>?_⟩;have:=h.2.2.2.2 a ha;simpa[qqo]using this
theorem zfw{n:Nd} (h:FewM n):okM n:=
 ⟨⟨by have:=h.1;omega,by have:=h.2.2.1;omega,by have:=h.2.1;omega,fun a ha=>by have:=h.2.2.2 a ha;exact⟨by omega,by omega⟩⟩,by have:=h.2.2.1;omega,fun a ha=>by have:=h.2.2.2 a ha;omega⟩
theorem zfx{n:Nd} (h:FewM n):okN (elN n):=by obtain⟨i1,i2⟩:=zgz n (q:=fun a=>a.1.length<=100000/\a.2.length<=100000) n.attrs [] (by simp) (fun a ha=>by have:=h.2.2.2 a ha;have hd:=qi3 _ a.2 (Nat.le_refl _);exact⟨by simp only;omega,by simp only;omega⟩);refine⟨by have:=h.1;show n.name.length<=_;omega,?_,Nat.zero_le _,i2⟩;show (qic n).length<=1000;have:=h.2.2.1;unfold qic;simp at i1;omega
theorem qkf{t:Tr} (h:qbx t=true) (hf:∀n,n∈t->ql0 n=true) {n:Nd} (hn:n∈qd2 t):FewM n/\n.kids.length<=60:=by rw[qyt h]at hn;obtain⟨x,hx,rfl⟩:=List.mem_map.1 hn;have hr:=qpr hx;have hm:qa1 t x∈t:=qb3 hr.1 hr.2;have hM:=few_M (hf _ hm);have hk:=hf _ hm;simp only[ql0,Bool.and_eq_true,decide_eq_true_eq]at hk;exact⟨hM,by simp[newN];exact hk.2.2.1⟩
theorem zej{t:Tr} (h:qbx t=true) (hf:∀n,n∈t->ql0 n=true):LookOk (qd2 t) where
 m:=fun n hn=>zfw (qkf h hf hn).1
 e:=fun n hn=>zfx (qkf h hf hn).1
 d:=fun n hn=>by have:=(qkf h hf hn).1.2.1;omega
 k:=fun n hn=>⟨by have:=(qkf h hf hn).2;omega,qoo (qjr h (qko h)) n hn⟩
set_option maxHeartbeats 1000000
theorem VR.slcInv{ρ:Place} {b o n c:Nat} {x:Value} (h:VR ρ (.slc b o n (.ex c)) x):∃l,ρ b=some l/\x=.slice (some ⟨l.cb,l.off+o,none⟩) n c/\n<=c:=by
 cases h with
 |slcE b o len c l h hc=>exact⟨l,h,rfl,hc⟩
theorem VR.aggInv1{ρ:Place} {v:AV} {x:Value} (h:VR ρ (.agg [v]) x):∃y,x=.agg #[y]/\VR ρ v y:=by
 cases h with
 |agg cs vs hl hv=>
  have h0:0 < vs.size:=by rw[hl];simp
  refine⟨vs[0],?_,hv 0 (by simp) h0⟩;congr 1;apply Array.ext
  ·rw[hl];rfl
  ·intro i h1 h2;have:i=0:=(by simp at h2;omega);subst this;rfl
theorem CallAt.rest{C:Ctx} {f:FuncId} {args:List AV} {n sz:Nat} {cs:List AV} (h:CallAt C f args zH (.agg [.slc 0 0 n (.ex n)]) ⟨1,[[(0,.cells cs)]]⟩) (hc:cs.length=n * sz) (hp:qa9 cs=true) (hn:n<=9223372036854775807) :
  CallAt C f args zH (.agg [.slc 0 0 n (.rest sz)]) ⟨1,[[(0,.cells cs)]]⟩:=by
 intro ρ w xs sm hx;have key:∀{x:Value} {ρ':Place} {w':World},VR ρ' (.agg [.slc 0 0 n (.ex n)]) x->Sim ρ' ⟨1,[[(0,.cells cs)]]⟩ w'->Step ρ zH w ρ' ⟨1,[[(0,.cells cs)]]⟩ w'->∃ρ'',VR ρ'' (.agg [.slc 0 0 n (.rest sz)]) x/\Sim ρ'' ⟨1,[[(0,.cells cs)]]⟩ w'/\Step ρ zH w ρ'' ⟨1,[[(0,.cells cs)]]⟩ w':=fun {x ρ' w'} h1 h2 h3=>by
  obtain⟨y,rfl,hy⟩:=h1.aggInv1;obtain⟨l,hl,rfl,_⟩:=hy.slcInv;obtain⟨l',hl',g2,g3,g4⟩:=h2.live (0,.cells cs) (by simp[Heap.ents]);rw[hl]at hl';cases hl';obtain⟨r1,r2,r3⟩:=g4;obtain⟨ρ'',e⟩ : ∃ρ'':Place,ρ''=ρ'.upd 0 ⟨l.cb,l.off,l.off+cs.length⟩:=⟨_,rfl⟩;have u0:ρ'' 0=some ⟨l.cb,l.off,l.off+cs.length⟩:=by rw[e];exact Place.upd_same
  have uo:∀b,b≠0->ρ'' b=ρ' b:=fun b hb=>by rw[e];exact Place.upd_other hb
  have eB:ρ''.B=ρ'.B:=by rw[e];rfl
  have eW:ρ''.W=ρ'.W:=by rw[e];rfl
  have ebare:ρ''.bare=ρ'.bare:=by rw[e];rfl
  have hd:∀b,ρ b=none:=fun b=>sm.dom b (Nat.zero_le _);have only:∀e,e∈(⟨1,[[(0,.cells cs)]]⟩ : Heap).ents->e=(0,.cells cs):=fun e he=>by simpa[Heap.ents]using he
  refine⟨ρ'',?_,⟨?_,?_,?_,?_,?_,?_,?_,?_,?_⟩,⟨⟨?_,?_,?_,?_,?_⟩,h3.size,?_,?_,h3.num,?_,?_⟩⟩
  ·refine .agg _ _ (by simp) fun i hi hi'=>?_;have:i=0:=(by simp at hi;omega);subst this;exact .slcR 0 0 n sz n ⟨l.cb,l.off,l.off+cs.length⟩ u0 (Nat.le_refl _) ⟨by simp[hc],hn⟩
  ·rw[eB];exact h2.base
  ·rw[eB,eW];exact h2.below
  ·rw[eW];exact h2.os
  ·rw[eW];exact h2.tape
  ·rw[eW];exact h2.output
  ·intro b hb;rw[uo b (by simp at hb;omega)];exact h2.dom b hb
  ·exact h2.nodup
  ·intro e he;rw[only e he];refine⟨_,u0,by rw[eB];exact g2,g3,⟨by simp,fun i hi=>r2 i (by simp at hi;omega),fun i hi=>?_⟩⟩;obtain⟨x,hx1,hx2⟩:=r3 i hi;refine⟨x,hx1,?_⟩;have:=hx2.pure (qfb hp i hi);rw[<- ebare]at this;exact this.mono ρ''.bare_le
  ·intro e e' he he' _ _ _ _ _;rw[only e he,only e' he']
  ·intro b l0 hb;rw[hd b]at hb;cases hb
  ·intro k hk;rw[eB,eW];exact h3.le.fz k hk
  ·rw[eW];exact h3.le.os
  ·rw[eW];exact h3.le.tape
  ·rw[eW];exact h3.le.output
  ·exact h3.keeps
  ·intro e he l0 hl0;rw[only e he]at hl0;rw[u0]at hl0;cases hl0;exact h3.rows (0,.cells cs) (by simp[Heap.ents]) l hl
  ·intro b hb;exact absurd hb (Nat.not_lt_zero b)
  ·intro k hk;rw[eB]at hk;exact h3.cold k hk
 rcases h ρ w xs sm hx with⟨x,ρ',w',h0,h1,h2,h3⟩|⟨g,ys,h0,h1⟩
 ·obtain⟨ρ'',k1,k2,k3⟩:=key h1 h2 h3;exact .inl ⟨x,ρ'',w',h0,k1,k2,k3⟩
 ·refine .inr ⟨g,ys,h0,h1.mono ?_⟩;rintro e w' ⟨x,ρ',rfl,m1,m2,m3⟩;obtain⟨ρ'',k1,k2,k3⟩:=key m1 m2 m3;exact⟨x,ρ'',rfl,k1,k2,k3⟩
theorem c21{T:List (Entry PG)}:CA T 21 [] zH (.agg [.slc 0 0 1 (.rest 7)]) ⟨1,[[(0,.cells root0.cs)]]⟩:=by
 refine CallAt.rest ?_ rfl (by simp[root0,Nd.cs,qb9,qaf,qa9,qab]) (by omega);have b5:qgq PG 34 [(5,.int .i64 (-1))]=some (.agg [.int .i64 0,.int .i64 0,.str [],.nilS,.str [],.int .i64 (-1),.nilS]):=rfl;refine qa0 (s0:=⟨[0],[uD],[],4,⟨0,[[]]⟩⟩) Tryz.func21 rfl rfl rfl ?_;have bt:∀b n c,qgq PG 24 [(0,.slc b 0 n c)]=some (.agg [.slc b 0 n c]):=fun b n c=>rfl;have pr:qcy 0 [1] [] [[(1,.cells [.int .i64 0,.int .i64 0,.str [],.nilS,.str [],.int .i64 (-1),.nilS]),(0,.cells [.nilS])]]=[[(1,.cells [.int .i64 0,.int .i64 0,.str [],.nilS,.str [],.int .i64 (-1),.nilS]),(0,.cells [.nilS])]]:=rfl;apply ra;simp[zS,b5,bt,pr];apply ra;simp[zS,b5,bt,pr];apply qa5;simp[retVal,Tryz.f21,oneOr];refine⟨_,rfl,[(1,0)],[],?_,⟨by simp,by simp,by simp[Heap.ents],by simp,fun x hx h=>absurd h (Nat.not_lt_zero _),by simp,fun e he=>?_,fun x hx=>by cases hx⟩⟩
 ·simp[qas,qax,qb2,readCells]
 ·simp only[Heap.ents,List.flatten_cons,List.flatten_nil,List.append_nil,List.mem_singleton]at he;subst he;exact⟨1,_,by simp,rfl,by simp[qi1,qax,qas,root0,Nd.cs,qb9,qaf,qab]⟩
theorem new_at{T:List (Entry PG)} (m:Nat) (f:List (Nat × Blk)) (fs:List (List (Nat × Blk))):CA T 21 [] ⟨m,f::fs⟩ (.agg [.slc m 0 1 (.rest 7)]) ⟨m+1,((m,.cells root0.cs)::f)::fs⟩:=by
 have fh:FitH 0 [] [] ⟨m,f::fs⟩ zH:=⟨by simp,by simp,by simp[Heap.ents],fun x h=>(by cases h),fun x h=>(by cases h),Nat.zero_le _,fun e he=>by simp[Heap.ents]at he,fun x h=>by cases h⟩;have pr:qa9 root0.cs=true:=by simp[root0,Nd.cs,qb9,qaf,qa9,qab]
 have:=(c21 (T:=T)).framed (args:=[]) (H:=⟨m,f::fs⟩) (H':=⟨m+1,((m,.cells root0.cs)::f)::fs⟩) fh (by simp[qax]) ⟨by simp,fun nd lt=>?_,fun e he=>?_⟩ (by simp)
 ·simpa[qja,qho,qje,qf1]using this
 ·simp only[Heap.ents,List.flatten_cons,List.cons_append,List.map_cons,List.nodup_cons]at nd ⊢;refine⟨fun hx=>?_,nd⟩;obtain⟨e,he,hx⟩:=List.mem_map.1 hx;have:=lt e (by simpa[Heap.ents]using he);simp only at this;omega
 ·simp only[Heap.ents,List.flatten_cons,List.cons_append,List.mem_cons]at he;rcases he with rfl|he
  ·refine .inl ⟨(0,.cells root0.cs),by simp[Heap.ents],?_⟩;simp[qje,qf1,qn0,qcd _ pr]
  ·exact .inr ⟨by simpa[Heap.ents]using he,fun x hx=>by cases hx⟩
theorem tree_at{T:List (Entry PG)} (hT:MaT T) {t:Tr} (h:qbx t=true) (hv:LookOk (qd2 t)) (hl:(qd2 t).length<=900) (kTi:∀H,qb6 (ctx T) (.fn 20) [qav t] H=some (qav (qd2 t),H)) :
  CA T 9 [qav t] zH (qav (qgg t)) zH:=by
 refine qa0 (s0:=⟨[0,1,2,3],[qav t,uD,uD,uD],[],11,⟨0,[[]]⟩⟩) Tryz.func9 rfl rfl rfl ?_;have kTi':∀H,qb6 (ctx T) (.fn 20) [.agg [qaa t]] H=some (.agg [qaa (qd2 t)],H):=kTi;have bld:qgq PG 42 [(0,.agg [qaa (qd2 t)]),(1,.agg [.slc 2 0 1 (.rest 7)])]=some (.agg [qaa (qd2 t),.slc 2 0 1 (.rest 7),.nilS]):=rfl;have lay3:∀a b:AV,qh7 [a,b,.nilS] 0 [.nilS,.nilS,.nilS]=some [a,b,.nilS]:=fun _ _=>rfl;have hnew:=new_at (T:=T) 2 [(1,.cells [.nilS]),(0,.cells [qaa t])] [];apply ra;simp[zS];repeat apply wq
 refine qah (qbh [⟨21,_,_,_,_,hnew⟩]) ?_;simp[zS,qcc,kTi',bld,qcb,lay3,allSingle,AV.single];refine WpSr.fit [(3,0),(2,1),(1,3)] [] (s':=(⟨[0,1,2,3],[uD,uD,.ptr 3 0,.ptr 0 0],[],11,⟨4,[[(3,.cells [.nilS])],mR (qd2 t) 1 [root0] 2 none]⟩⟩ : St)) ⟨rfl,rfl,rfl,by simp[qax,qas,qb2,qab],?_⟩ ?_
 ·refine⟨by simp,by simp,by simp[Heap.ents,mR,VE,mG,qdd,qa6],by simp,fun x hx hlt=>absurd hlt (Nat.not_lt_zero _),by simp,fun e he=>?_,fun x hx=>by cases hx⟩;simp only[Heap.ents,List.flatten_cons,List.flatten_nil,List.append_nil,List.mem_append,List.mem_singleton]at he;rcases he with rfl|he
  ·exact⟨1,.cells [.nilS],by simp,by simp[zG],qak rfl⟩
  ·rcases qu3 (by simp) e he with rfl|rfl|⟨P,hP,rfl⟩
   ·exact⟨3,.cells [qaa (qd2 t),.slc 2 0 1 (.rest 7),.nilS],by simp,by simp[zG],by simp[qi1,qax,qas,qb2,mV,qb5 (qdh (qd2 t))]⟩
   ·exact⟨2,.cells root0.cs,by simp,by simp[zG],by simp only[List.map_cons,List.map_nil,qa6,List.append_nil,qi1];exact qak (qe4 root0)⟩
   ·cases hP
 have hmo:MoOk [root0] 0:=⟨⟨by simp[root0],by simp[root0]⟩,fun n hn k hk=>by simp at hn;subst hn;simp[root0]at hk,by simp[root0]⟩;have hct:=zaf h;have hk:=zer hT hv ((qd2 t).length+2) 0 0 [root0] none 0 (qwc h) (Int.le_refl 0) (by omega) (by simp) hmo ⟨by simp[mL],by simp[mL]⟩ (by simp[mL];omega) (by simp;omega) (by omega);obtain⟨m1,m2,m3⟩:=qpx hv ((qd2 t).length+2) (mL none) 0 0 [root0] 0 (Int.le_refl 0) (by omega) hmo (by simp);have hkc:=qh9 (n:=4) (k:=1) (j:=2) (fr:=[(3,.cells [.nilS])]) hk (by simp[qax,qas,qb2,qab]) (by omega) (by omega) (by omega) (by omega) (by omega) (by simp) (fun e=>by rw[e]at m2;simp at m2) (by simp);repeat apply wq
 refine qah (qbh [⟨22,_,_,_,_,hkc⟩]) ?_;simp[zS,qcc];have eN:qel ((qd2 t).length+2) (qd2 t) (mL none) 0 0 [root0]=qgg t:=rfl;rw[eN]at m2 ⊢;have hne:qgg t≠[]:=fun e=>by rw[e]at m2;simp at m2
 have hne':(qgg t).map qa3≠[]:=by simpa using hne
 generalize qr3 none (zar (qd2 t) (mL none) ((qd2 t).length+2) 0)=o2;have r1:=fun n=>zdo (v:=qd2 t) (out:=qgg t) (k:=4) (j:=4+1) (o:=o2) (n:=n) (f:=[(3,.cells [.nilS])]) rfl;rw[qbd hne']at r1;have g0:getF 0 (mR (qd2 t) 4 (qgg t) 5 o2)=some (.cells [qaa (qd2 t),.slc 4 0 (qgg t).length (.rest 7),mV 5 o2]):=by rw[mR_0,qbd hne',List.length_map]
 apply ra;simp[zS,g0,qcb];apply qa5;have g4:getF 4 (mR (qd2 t) 4 (qgg t) 5 o2)=some (.cells (qa6 ((qgg t).map qa3))):=mR_k (by omega) (by omega) (by omega) hne;simp[retVal,Tryz.f9,oneOr,readCells,zG,Blk.rd];have hel:=qbg (qgg t);refine⟨[],[(4,qa6 ((qgg t).map qa3))],?_,{ nd1:=by simp,nd2:=by simp,nd3:=by simp[Heap.ents],lt:=by simp,idn:=by simp,num:=Nat.zero_le _,src:=by simp[Heap.ents],frz:=?_ }⟩
 ·have hl:=hel.len;rw[List.length_map]at hl;simp only[qav,qaa,qas,qax,qca,if_true,and_true];exact .inl (.inl ⟨qa6 ((qgg t).map qa3),rfl,by unfold qex;rw[List.drop_zero,<- hl,qco],by simp,hel.size⟩)
 ·intro y hy;simp at hy;subst hy;exact⟨qa6 ((qgg t).map qa3),by simp[zG,g4],qak (qpl _),qpl _⟩
@[simp]theorem szT43:qce PG 43=some 1:=rfl
@[simp]theorem agT43:qia PG 43=some false:=rfl
@[simp]theorem byT43:qcq PG 43=some 8:=rfl
@[simp]theorem alT43(H:Heap):alV PG H 43=some (.ptr H.n 0,H.new (.cells [.nilF])):=rfl
@[simp]theorem zeT43:qc0 PG 43=some (.nilF):=rfl
attribute [simp] Tryz.underlying43
@[simp 500]theorem rvF43(H:Heap) (cs:List AV) (o:Nat):qaw PG H 43 (.fptr cs o)=qck cs o:=rfl
@[simp 500]theorem rvP43(H:Heap) (b o:Nat):qaw PG H 43 (.ptr b o)=(H.get b).bind fun k=>k.rd.bind fun cs=>qck cs o:=rfl
def cR(t:Tr) (s:List Bool) (v:AV):List (Nat × Blk):=[(2,.cells [v]),(4,.cells [.slc 3 0 t.length (.ex t.length)]),(3,.cells (bls s)),(0,.cells [qaa t]),(5,.cells [.func (.func 50) [] [.ptr 4 0,.ptr 2 0,.ptr 0 0,.ptr 5 0]])]
abbrev CpO:=Option (List AV × List Int × List Nd)
def cV(z:Nat):CpO->AV
 |none=>.nilS
 |some _=>.slc 6 0 z (.rest 7)
def zgn(b:Nat):CpO->List AV
 |none=>[]
 |some x=>x.1++(lA b x.2.1::qa6 (x.2.2.map qa3))
def cI:CpO->List (Nat × Blk)
 |none=>[]
 |some x=>[(6,.cells (zgn 7 (some x)))]
def cK:CpO->List (Nat × Blk)
 |none=>[]
 |some x=>lF 7 x.2.1
def cU(c:Nat):CpO->List AV
 |none=>[]
 |some x=>x.1++(.slc c 0 (x.2.1.length+1) (.rest 1)::qa6 (x.2.2.map qa3))
def cG(c z:Nat):CpO->List (Nat × Blk)
 |none=>[]
 |some x=>[(c,.cells (qct (x.2.1++[(z:Int)])))]
def cOk(up:Int) (z:Nat):CpO->Prop
 |none=>up = -1/\z=0
 |some x=>qa9 x.1=true/\allSingle x.1=true/\(∃u:Nat,up=(u:Int)/\x.1.length=u * 7+6/\z=u+1+x.2.2.length)/\x.2.1.length<=100000
theorem cRow_len{up:Int} {z b:Nat} {o:CpO} (h:cOk up z o):(zgn b o).length=z * 7:=by
 cases o with
 |none=>obtain⟨_,rfl⟩:=h;rfl
 |some x=>obtain⟨_,_,⟨u,_,h1,h2⟩,_⟩:=h;have:=(qbg x.2.2).len;simp only[zgn,List.length_append,List.length_cons,this,List.length_map];omega
theorem cU_len{up:Int} {z b:Nat} {o:CpO} (h:cOk up z o):(cU b o).length=z * 7:=by
 cases o with
 |none=>obtain⟨_,rfl⟩:=h;rfl
 |some x=>obtain⟨_,_,⟨u,_,h1,h2⟩,_⟩:=h;have:=(qbg x.2.2).len;simp only[cU,List.length_append,List.length_cons,this,List.length_map];omega
theorem zgm{up:Int} {z b:Nat} {o:CpO} (h:cOk up z o):allSingle (cU b o)=true:=by
 cases o with
 |none=>rfl
 |some x=>
  obtain⟨_,h2,_⟩:=h;have e:allSingle (AV.slc b 0 (x.2.1.length+1) (.rest 1)::qa6 (x.2.2.map qa3))=true:=by show allSingle (qa6 (x.2.2.map qa3))=true;exact qjk _
  simp only[cU,qdq,h2,e];rfl
theorem cU_fit{up:Int} {z b c:Nat} {o:CpO} {σ:List (Nat × Nat)} {Φ:List (Nat × List AV)} (h:cOk up z o) (hl:qb2 b σ=some c):qax σ Φ (cU b o) (cU c o):=by
 cases o with
 |none=>trivial
 |some x=>obtain⟨h1,_⟩:=h;exact qe1 (qak h1) ⟨by simp[qas,hl],qak (qbg _).pure⟩
theorem app_cp{t:Tr} {s:List Bool} {up:Int} {z:Nat} {nc:List AV} {o:CpO} (ho:cOk up z o) (hnl:nc.length=7) (hns:allSingle nc=true) (hz:z<=100000) :
  qbz PG ⟨10,[(9,.cells nc)::(8,.cells nc)::(cR t s (cV z o)++cI o),cK o]⟩ 34 (cV z o) (.slc 9 0 1 (.ex 1)) =
   some (.slc 10 0 (z+1) (.rest 7),⟨11,[(10,.cells (zgn 7 o++nc))::(9,.cells nc)::(8,.cells nc)::cR t s (cV z o),cK o]⟩):=by
 have hrow:∀cs,qom PG 34 cs=.cells cs:=by intro cs;rfl
 have htk:qew 7 nc=some nc:=by rw[<- hnl];exact qco nc
 obtain⟨by_,hby⟩ : ∃b,qcq PG 34=some b:=⟨_,qub⟩;have hbv:0 < by_/\by_<=1000:=by have:=hby.symm.trans qub;simp at this;omega
 obtain⟨zz,hzz,hzl⟩ : ∃b,qc0 PG 34=some b/\b.cells.length=7:=⟨_,qx5,rfl⟩;have hb1:Nat.blt 0 by_=true:=by simp;omega
 have hpl:=cRow_len (b:=7) ho;cases o with
 |none=>
  obtain⟨_,rfl⟩:=ho;have hr:qcw 1 by_=true:=by unfold qcw;rw[Nat.ble_eq];omega
  unfold qbz;simp[cV,cI,cK,zgn,qt0,hby,hzz,hzl,qc9,hb1,hr,qba,readCells,zG,qex,htk,hnl,hrow,Heap.new,pushF]
 |some x=>
  generalize hq:zgn 7 (some x)=pre at *;have hr:qcw (z+1) by_=true:=by unfold qcw;rw[Nat.ble_eq];have:(z+1) * by_<=100001 * 1000:=Nat.mul_le_mul (by omega) hbv.2;omega
  have h2:Nat.ble ((z+1) * 7) (z * 7)=false:=by rw[<- Bool.not_eq_true,Nat.ble_eq];omega
  have htp:qew (z * 7) pre=some pre:=by rw[<- hpl];exact qco pre
  have hI:cI (some x)=[(6,.cells pre)]:=by rw[<- hq];rfl
  rw[hI];unfold qbz;simp[cV,cR,qt0,hby,hzz,hzl,qc9,hb1,hr,qba,readCells,zG,qex,htk,hnl,hrow,Heap.new,pushF,hns,qcp,hpl,h2,htp,Heap.drop,qen,killF]
def cH(t:Tr) (s:List Bool) (zz:Nat) (row:List AV) (g:List (Nat × Blk)):List (Nat × Blk):=cR t s (.slc 8 0 zz (.rest 7))++((8,.cells row)::g)
theorem qqs{t:Tr} {s:List Bool} {zz z:Nat} {up:Int} {o:CpO} (ho:cOk up z o) {H:Heap} {a b c:Nat} {hd:List AV} {L:List Int} {D:List Nd} {v6:AV} (hhd:qa9 hd=true)
  (hv6:v6=lA b L\/(v6=.nilS/\L=[])) (h1:a≠b/\a≠c/\b≠c/\a ∉ [0,2,3,4,5]/\b ∉ [0,2,3,4,5]/\c ∉ [0,2,3,4,5])
  (ga:H.get a=some (.cells (cU c o++(hd++(v6::qa6 (D.map qa3)))))) (g2:H.get 2=some (.cells [.slc a 0 zz (.rest 7)])) (g4:H.get 4=some (.cells [.slc 3 0 t.length (.ex t.length)])) (g3:H.get 3=some (.cells (bls s)))
  (g0:H.get 0=some (.cells [qaa t])) (g5:H.get 5=some (.cells [.func (.func 50) [] [.ptr 4 0,.ptr 2 0,.ptr 0 0,.ptr 5 0]])) (gb:L≠[]->H.get b=some (.cells (qct L))) (gc:∀y:List AV × List Int × List Nd,o=some y->H.get c=some (.cells (qct (y.2.1++[(z:Int)])))) :
  FitH 8 [(a,8),(b,11),(c,9),(0,0),(2,2),(3,3),(4,4),(5,5)] [] H ⟨12,[cH t s zz (cU 9 o++(hd++(lA 11 L::qa6 (D.map qa3)))) (cG 9 z o),lF 11 L]⟩ where
 nd1:=by obtain⟨h1,h2,h3,h4,h5,h6⟩:=h1;simp at h4 h5 h6;simp;omega
 nd2:=by simp
 nd3:=by
  have hL:lF 11 L=[]\/lF 11 L=[(11,.cells (qct L))]:=by
   by_cases hL:L=[]
   ·subst hL;exact .inl rfl
   ·exact .inr (qxp hL)
  cases o<;>rcases hL with hL|hL<;>simp[Heap.ents,hL,cH,cR,cG]
 lt:=by simp
 idn:=by simp
 num:=by simp
 src:=by
  intro e he;have hN:=qdh t;simp only[Heap.ents,cH,cR,List.flatten_cons,List.flatten_nil,List.append_nil,List.mem_cons,List.mem_append,List.not_mem_nil,or_false]at he;rcases he with((rfl|rfl|rfl|rfl|rfl)|rfl|he)|he
  ·exact⟨2,_,by simp,g2,by simp[qi1,qax,qas,qb2]⟩
  ·obtain⟨k1,k2,k3,k4,k5,k6⟩:=h1;simp at k4 k5 k6;have m1:¬ a=3:=(by omega);have m2:¬ b=3:=(by omega);have m3:¬ c=3:=(by omega);exact⟨4,_,by simp,g4,by simp[qi1,qax,qas,qb2,m1,m2,m3]⟩
  ·exact⟨3,_,by simp,g3,qak (qg1 s)⟩
  ·exact⟨0,_,by simp,g0,qak (by simp[qa9])⟩
  ·obtain⟨k1,k2,k3,k4,k5,k6⟩:=h1;simp at k4 k5 k6;exact⟨5,_,by simp,g5,by simp[qi1,qax,qas,qb2,k4,k5,k6]⟩
  ·refine⟨a,_,by simp,ga,?_⟩;have hlc:qb2 c [(a,8),(b,11),(c,9),(0,0),(2,2),(3,3),(4,4),(5,5)]=some 9:=(by have m1:¬ a=c:=h1.2.1;have m2:¬ b=c:=h1.2.2.1;simp[qb2,m1,m2]);refine qe1 (cU_fit ho hlc) (qe1 (qak hhd) ⟨?_,qak (qbg _).pure⟩);by_cases hL:L=[]
   ·subst hL;rcases hv6 with rfl|⟨rfl,_⟩<;>simp[lA,qcx,qct,qas]
   ·rcases hv6 with rfl|⟨_,h⟩
    ·rw[zbo hL,zbo hL];have:¬ a=b:=h1.1;simp[qas,qb2,this]
    ·exact absurd h hL
  ·cases o with
   |none=>cases he
   |some x=>simp[cG]at he;subst he;exact⟨c,_,by simp,gc x rfl,by simp only[qi1];exact qak (qhd _)⟩
  ·by_cases hL:L=[]
   ·subst hL;cases he
   ·rw[qxp hL]at he;simp at he;subst he;exact⟨b,_,by simp,gb hL,qak (qhd L)⟩
 frz:=fun y hy=>by cases hy
theorem cp_fitE{t:Tr} {s:List Bool} {zz z:Nat} {up:Int} {o:CpO} (ho:cOk up z o) {L:List Int} {x:Nd} {pu:Int} {D:List Nd} {H:Heap}
  (g8:H.get 8=some (.cells (cU 9 o++([qb9 x.kind,qb9 x.space,.str x.name,qaf x.attrs,.str x.data,qb9 pu]++(lA 11 L::qa6 (D.map qa3)))))) (g2:H.get 2=some (.cells [.slc 8 0 zz (.rest 7)])) (g4:H.get 4=some (.cells [.slc 3 0 t.length (.ex t.length)])) (g3:H.get 3=some (.cells (bls s)))
  (g0:H.get 0=some (.cells [qaa t])) (g5:H.get 5=some (.cells [.func (.func 50) [] [.ptr 4 0,.ptr 2 0,.ptr 0 0,.ptr 5 0]])) (gb:L≠[]->H.get 11=some (.cells (qct L))) (gc:∀y:List AV × List Int × List Nd,o=some y->H.get 9=some (.cells (qct (y.2.1++[(z:Int)])))) :
  ∃σ Φ,qas σ Φ (.tup []) (.tup [])/\FitH 8 σ Φ H ⟨10,[cH t s zz (cU 9 o++qa6 ((({ x with up:=pu,kids:=L }:Nd)::D).map qa3)) (cG 9 z o)]⟩:=by
 have key:∀Φ,(Φ=[]\/(Φ=[(11,qct L)]/\L≠[]))->qas [(8,8),(9,9),(0,0),(2,2),(3,3),(4,4),(5,5)] Φ (lA 11 L) (qbc L)->FitH 8 [(8,8),(9,9),(0,0),(2,2),(3,3),(4,4),(5,5)] Φ H ⟨10,[cH t s zz (cU 9 o++qa6 ((({ x with up:=pu,kids:=L }:Nd)::D).map qa3)) (cG 9 z o)]⟩:=fun Φ hΦ hv=>{
  nd1:=by rcases hΦ with rfl|⟨rfl,_⟩<;>simp
  nd2:=by simp
  nd3:=by cases o<;>simp[Heap.ents,cH,cR,cG]
  lt:=by simp
  idn:=by simp
  num:=by simp
  src:=by
   intro e he;have hN:=qdh t;simp only[Heap.ents,cH,cR,List.flatten_cons,List.flatten_nil,List.append_nil,List.mem_cons,List.mem_append,List.not_mem_nil,or_false]at he;rcases he with(rfl|rfl|rfl|rfl|rfl)|rfl|he
   ·exact⟨2,_,by simp,g2,by simp[qi1,qax,qas,qb2]⟩
   ·exact⟨4,_,by simp,g4,by simp[qi1,qax,qas,qb2]⟩
   ·exact⟨3,_,by simp,g3,qak (qg1 s)⟩
   ·exact⟨0,_,by simp,g0,qak (by simp[qa9])⟩
   ·exact⟨5,_,by simp,g5,by simp[qi1,qax,qas,qb2]⟩
   ·refine⟨8,_,by simp,g8,?_⟩;refine qe1 (cU_fit ho (by simp[qb2])) ?_;show qax _ _ _ ([qb9 x.kind,qb9 x.space,.str x.name,qaf x.attrs,.str x.data,qb9 pu]++(qbc L::qa6 (D.map qa3)));exact qe1 (qak (by simp[qa9,qab,qb9])) ⟨hv,qak (qbg D).pure⟩
   ·cases o with
    |none=>cases he
    |some x=>simp[cG]at he;subst he;exact⟨9,_,by simp,gc x rfl,by simp only[qi1];exact qak (qhd _)⟩
  frz:=fun y hy=>by
   rcases hΦ with rfl|⟨rfl,hL⟩
   ·cases hy
   ·simp at hy;subst hy;exact⟨qct L,gb hL,qak (qhd L),qhd L⟩ }
 by_cases hL:L=[]
 ·exact⟨_,[],by simp[qas,qax],key [] (.inl rfl) (by subst hL;simp[lA,qcx,qct,qas])⟩
 ·refine⟨_,[(11,qct L)],by simp[qas,qax],key _ (.inr ⟨rfl,hL⟩) ?_⟩;rw[zbo hL];simp only[qas,qca,if_true];refine .inl ⟨_,rfl,?_,by simp,(qjc L).size⟩;have h2:(qct L).length=L.length:=by simp[qct]
  show qex 0 (L.length * 1) (qct L)=some (qa6 (qct L));rw[qeu,Nat.mul_one,<- h2];unfold qex;rw[List.drop_zero,qco]
