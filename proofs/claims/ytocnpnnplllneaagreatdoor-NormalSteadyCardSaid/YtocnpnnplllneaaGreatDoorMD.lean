/- Regions that draw their order: the theorem. No condition. -/
import Derived.Test.YtocnpnnplllneaaGreatDoorMB
import Derived.Lib.UnsafeStr
import Derived.OrdersIn
import Derived.RangeFuncCalls
import Derived.RangeFuncLeaves
import Derived.RangeFuncRecord
import Derived.LoopNIn
import Derived.Scope
import Derived.WalkKit
import Derived.ProofKit
import Derived.OpenShut
import Derived.Carry
import Derived.ChangeSame
namespace Go.Proofs.YtocnpnnplllneaaGreatDoor
noncomputable section
set_option linter.unusedSimpArgs false
set_option linter.unusedVariables false
open Go Go.RowKit
theorem jg:type_of% @List.append_nil:=@List.append_nil
theorem ju:type_of% @List.mem_singleton:=@List.mem_singleton
theorem j9:type_of% @List.length_drop:=@List.length_drop
theorem jS:type_of% @List.nodup_nil:=@List.nodup_nil
theorem jW:type_of% @List.length_nil:=@List.length_nil
theorem ya:type_of% @List.all_eq_true:=@List.all_eq_true
theorem yf:type_of% @Bool.or_eq_true:=@Bool.or_eq_true
theorem yi:type_of% @World.putObj_heap_other:=@World.putObj_heap_other
theorem yo:type_of% @Function.comp_def:=@Function.comp_def
theorem yw:type_of% @Option.some.inj:=@Option.some.inj
theorem yA:type_of% @Decidable.byContradiction:=@Decidable.byContradiction
theorem yF:type_of% @Nat.le_of_lt:=@Nat.le_of_lt
theorem yT:type_of% @World.putObj_size:=@World.putObj_size
theorem yW:type_of% @Option.isSome_iff_exists:=@Option.isSome_iff_exists
section
variable {ρ:Place} {w:World}
def Done(ρ:Place) (H:Heap) (w:World) (r:Result Next) (v:AV) (H':Heap):Prop:=
 ∃x ρ' w',VR ρ' v x/\Sim ρ' H' w'/\Step ρ H w ρ' H' w'/\(r=.ok (.value x) w'\/(r=.ok .skip w'/\x=undef))
theorem Done.of_good{H H':Heap} {v:AV} {P:Program} {sem:Sem Value} (h:Good ρ H w (sem.run P w) v H'):Done ρ H w ((do Pure.pure (Next.value (<- sem)):Sem Next).run P w) v H':=by obtain⟨x,ρ',w',h1,h2,h3,h4⟩:=h;exact⟨x,ρ',w',h2,h3,h4,.inl (by simp[h1])⟩
theorem Done.pure{H:Heap} {v:AV} {x:Value} {P:Program} {sem:Sem Value} (s:Sim ρ H w) (hr:sem.run P w=.ok x w) (hv:VR ρ v x):Done ρ H w ((do Pure.pure (Next.value (<- sem)):Sem Next).run P w) v H:=
 .of_good (Good.pure s hv hr)
theorem Done.unit{H H':Heap} {w':World} {P:Program} {sem:Sem Unit} (hr:sem.run P w=.ok () w') (s:Sim ρ H' w') (t:Step ρ H w ρ H' w'):Done ρ H w ((do sem;Pure.pure Next.skip:Sem Next).run P w) .undef H':=
 ⟨undef,ρ,w',.undef _,s,t,.inr ⟨by simp[hr],rfl⟩⟩
theorem vrs_nil{xs:List Value} (h:VRs ρ [] xs):xs=[]:=by cases xs with|nil=>rfl|cons _ _=>have:=h.1;simp at this
theorem qlk{v:AV} {xs:List Value} (h:VRs ρ [v] xs):∃x,xs=[x]/\VR ρ v x:=by
 cases xs with
 |nil=>have:=h.1;simp at this
 |cons x r=>exact⟨x,by rw[vrs_nil h.tail],h.head⟩
theorem qq1{v u:AV} {xs:List Value} (h:VRs ρ [v,u] xs):∃x y,xs=[x,y]/\VR ρ v x/\VR ρ u y:=by
 cases xs with
 |nil=>have:=h.1;simp at this
 |cons x r=>obtain⟨y,rfl,hy⟩:=qlk h.tail;exact⟨x,y,rfl,h.head,hy⟩
theorem qwn{C:Ctx} {o:Oper} {s:St} {a:Act} {k:(Nat->AV) × Blk} (sm:Sim ρ s.H w) (e:EnvR ρ s a) (h:qdx C o s=some k) :
  ∃(ob:Obj) (fin:Nat) (x:Value),(execOp a.eval o).run C.P w=.ok (.value x) (w.alloc ob)/\∀n,ρ n=none ->
   VR (ρ.upd n ⟨w.heap.size,0,fin⟩) (k.1 n) x/\BlkR (ρ.upd n ⟨w.heap.size,0,fin⟩) (w.alloc ob) ⟨w.heap.size,0,fin⟩ k.2:=by
 unfold qdx at h;have cells:∀{cs:List AV} {c:Array Value} {t:TypeId},VRs ρ cs c.toList->∀n,ρ n=none->BlkR (ρ.upd n ⟨w.heap.size,0,c.size⟩) (w.alloc (.cells c t)) ⟨w.heap.size,0,c.size⟩ (.cells cs):=fun {cs c t} hv n hn=>
  qv9 (by rw[<- hv.1];simp) (fun i h h'=>(hv.2 i h (by simpa using h')).mono (Place.le_upd hn)) (fun i _=>by simp)
 have rowsB:∀{cs:List AV} {c:Array Value} {t el:TypeId} {d:Option Tmp},C.P.underlying t=some (.slice el)->VRs ρ cs c.toList->∀n,ρ n=none->BlkR (ρ.upd n ⟨w.heap.size,0,c.size⟩) (w.alloc (.cells c el)) ⟨w.heap.size,0,c.size⟩ (rowB C.P t d cs):=fun {cs c t el d} hu hv n hn=>by
  have hk:qtk el cs (rowB C.P t d cs):=by
   unfold rowB;split
   ·exact .inl rfl
   ·split
    ·rw[hu];exact .inr ⟨0,jh _,rfl⟩
    ·exact .inl rfl
  exact zjf hk (by rw[<- hv.1];simp) (fun i h h'=>(hv.2 i h (by simpa using h')).mono (Place.le_upd hn))
 split at h
 ·rename_i t hop;replace h:=obs h;obtain⟨z,hz,h⟩:=h;replace h:=obs h;obtain⟨n,hn,h⟩:=h;split at h
  ·simp only[sj]at h;subst h;obtain⟨zv,rfl,hzr,_⟩:=qfh hz;refine⟨_,zv.cells.size,_,by simp[execOp,hop,Instr.alloc,hzr,newVar,newRow,newObj,Sem.run];rfl,fun m hm=>⟨.ptr m 0 _ Place.upd_same,?_⟩⟩;have h0:=cells (t:=t) (VRs.const (ρ:=ρ) zv) m hm;dsimp only;split
   ·refine⟨h0,rfl,?_⟩;have hh:(w.alloc (.cells zv.cells t)).heap[w.heap.size]? = some (.cells zv.cells t (0,0)):=(by show (w.heap.push _)[w.heap.size]? = _;simp);have hl:(ofV zv).cells.length=zv.cells.size:=(by have:=(VRs.const (ρ:=ρ) zv).1;simp at this;omega);simp only[World.shape?,hh,hl]
   ·exact h0
  ·simp at h
 ·rename_i t x hop;replace h:=obs h;obtain⟨v,hv,h⟩:=h;split at h
  next hsing=>simp only[sj]at h;subst h;have hvr:=qbg e hv;have hc:VRs ρ v.cells (a.eval x).cells.toList:=hvr.cells (by rintro rfl;simp[AV.cells,allSingle,AV.single]at hsing) (by rintro l rfl;simp[AV.cells,allSingle,AV.single]at hsing);refine⟨_,(a.eval x).cells.size,_,by simp[execOp,hop,Instr.box,newVar,newRow,newObj,Sem.run];rfl,fun m hm=>⟨.ptr m 0 _ Place.upd_same,cells hc m hm⟩⟩
  ·simp at h
 ·rename_i t len parts hop;replace h:=obs h;obtain⟨ps,hps,h⟩:=h;replace h:=obs h;obtain⟨cs,hcs,h⟩:=h;simp only[sj]at h;subst h;obtain⟨h1,h2⟩:=qqu e hps;obtain⟨c,el,hund,hrun,hv⟩:=qsg (vals:=parts.toList.map fun p=>(p.1,a.eval p.2)) sm hcs (by simp[h1]) (by simpa[yo]using h2);refine⟨.cells c el,c.size,.slice (some ⟨w.heap.size,0,none⟩) len len,?_,fun m hm=>⟨.slcE m 0 len len _ Place.upd_same (jc _),rowsB hund hv m hm⟩⟩;have:(parts.toList.map fun p=>(p.1,a.eval p.2)).toArray=parts.map fun(i,x)=>(i,a.eval x):=by simp[<- List.map_toArray]
  rw[this]at hrun;simp[execOp,hop,hrun]
 next t l c hop=>replace h:=obs h;obtain⟨p,hp,h⟩:=h;replace h:=obs h;obtain⟨u,hu,h⟩:=h;obtain⟨ob,fin,x,h1,h2⟩:=msB_run (P:=C.P) (w:=w) h (qbg e hp) (qbg e hu);exact⟨ob,fin,x,by simp[execOp,hop,h1],h2⟩
 ·rename_i t r hop;replace h:=obs h;obtain⟨_,hr,h⟩:=h;simp only[sj]at h;subst h;refine⟨.map #[] 0,0,.map (some w.heap.size),?_,fun m hm=>⟨.map m _ Place.upd_same,#[],0,?_,rfl,fun i h=>absurd h (jk i),by simp[zk2]⟩⟩
  ·cases r with
   |none=>simp[execOp,hop,Instr.makeMap,newObj,Sem.run]
   |some x=>
    obtain⟨v,hv,hr⟩:=obs hr;have hvr:=qbg e hv;obtain⟨d,hd,hr⟩:=obs hr;split at hr
    next k i=>cases hvr':a.eval x<;>rw[hvr']at hvr<;>cases hvr;simp[execOp,hop,Instr.makeMap,run_underlying hd,hvr',asInt,asIntOf,newObj,Sem.run]
    ·simp at hr
  ·show (w.heap.push _)[w.heap.size]? = _;simp
 ·simp at h
theorem us_eq{ts:Array TypeId} {ty t:TypeId} {p:Option Addr} {n:Value} (ht:ts[0]? = some t):Builtin.unsafeString_ ts ty #[.pointer p,n]=Builtin.unsafeString_ #[t,t] ty #[.pointer p,n]:=by
 have e : ∀ ts : Array TypeId, Builtin.unsafeString_ ts ty #[.pointer p, n] = (do
       let n <- asInt n
       let some pt := ts[0]? | stuck "unsafe.String: no argument types"
       if n < 0 then runtimePanic (.error "unsafe.String: len out of range")
       if n > IntKind.i64.max then unsupported (.unsafePointer "String: a length above the largest int")
       match p with
       |none=>
         if n=0 then pure (.string .empty)
         else runtimePanic (.error "unsafe.String: ptr is nil and len is not zero")
       |some a=>
         if n=0 then pure (.string .empty)
         else if <- variablesAt a (<- elemOf pt) n.toNat then do
           let s <- loadBytes a .empty n.toNat
           freeze a n.toNat
           pure (.string s)
         else unsupported (.unsafePointer "String: not so many bytes at ptr")) := fun ts => rfl
 rw[e,e,ht];rfl
theorem qzq{v:AV} {c:UInt8} (h:zce v=some c):v=.int .u8 c.toNat:=by
 unfold zce at h;split at h
 next n=>replace h:=obs h;obtain⟨m,hm,h⟩:=h;obtain⟨rfl,hlt⟩:=qdl hm;have h:=yw h;subst h;simp only[UInt8.toNat_ofNat'];rw[Nat.mod_eq_of_lt (by omega)]
 ·cases h
theorem qrx:∀{l:List AV} {s:List UInt8},qtf l=some s->s.length=l.length/\∀i (h:i < l.length) (h':i < s.length),l[i]=.int .u8 s[i].toNat
 |[],s,h=>by simp only[qtf,sj]at h;subst h;exact⟨rfl,fun i h=>absurd h (jk i)⟩
 |v::r,s,h=>by
  obtain⟨c,h1,h⟩:=obs h;obtain⟨cs,h2,h⟩:=obs h;simp only[sj]at h;subst h;obtain⟨g1,g2⟩:=qrx h2;refine⟨by simp[g1],fun i a b=>?_⟩;cases i with
  |zero=>exact qzq h1
  |succ i=>exact g2 i (by simpa using a) (by simpa using b)
theorem qjz{s:St} {a:Act} (e:EnvR ρ s a) {xs:Array Operand} {vs:List AV} (h:qg5 s xs.toList=some vs):VRs ρ vs (xs.map a.eval).toList:=by simpa using qwk e h
theorem VR.args{fn:Fn} {a c:List AV} {x:Value} (h:VR ρ (.func fn a c) x):∃a' c',x=.func fn a' c'/\VRs ρ a a'.toList/\VRs ρ c c'.toList:=by
 cases h with
 |func _ _ _ a' c' ha hc hav hcv=>exact⟨a',c',rfl,qma ha hav,qma hc hcv⟩
theorem qzt{C:Ctx} {H H':Heap} (sm:Sim ρ H w) {b:Builtin} {ts:Array TypeId} {ty:TypeId} {cs:Array Bool} {args:List AV} {v:AV} {xs:List Value} (h:qc5 C.P H b ts args=some (v,H'))
  (hv:VRs ρ args xs):Done ρ H w ((builtin b ts ty cs xs.toArray).run C.P w) v H':=by
 unfold qc5 at h;split at h
 ·obtain⟨x,rfl,hx⟩:=qlk hv;replace h:=obs h;obtain⟨t,ht,h⟩:=h;replace h:=obs h;obtain⟨n,hn,h⟩:=h;simp only[sj,jf]at h;obtain⟨rfl,rfl⟩:=h;exact Done.pure sm (len_run sm ht hn hx) (.int _ _)
 ·obtain⟨x,y,rfl,hx,hy⟩:=qq1 hv;replace h:=obs h;obtain⟨t,ht,h⟩:=h;replace h:=obs h;obtain⟨d,hd,h⟩:=h;split at h
  ·rename_i elem;replace h:=obs h;obtain⟨q,hu,h⟩:=h;split at hu
   ·rename_i u hu1;obtain⟨ud,hud,hu⟩:=obs hu;split at hu
    ·simp only[sj]at hu;subst hu;exact Done.of_good (qti sm ht hd hu1 (.inl hud) h hx hy)
    ·simp only[sj]at hu;subst hu;exact Done.of_good (qti sm ht hd hu1 (.inr ⟨_,hud⟩) h hx hy)
    ·simp only[sj]at hu;subst hu;exact Done.of_good (grow_run sm ht hd hu1 hud h hx hy)
    ·simp at hu
   ·simp at hu
  ·simp at h
 ·obtain⟨x,rfl,hx⟩:=qlk hv;replace h:=obs h;obtain⟨t,ht,h⟩:=h;replace h:=obs h;obtain⟨d,hd,h⟩:=h;split at h
  ·simp only[sj,jf]at h;obtain⟨rfl,rfl⟩:=h;cases hx;refine Done.pure sm ?_ (.int _ _);simp[builtin,Builtin.cap_,ht,run_underlying hd,goInt]
  ·simp at h
 ·obtain⟨x,y,rfl,hx,hy⟩:=qq1 hv;replace h:=obs h;obtain⟨t,ht,h⟩:=h;replace h:=obs h;obtain⟨d,hd,h⟩:=h;split at h
  ·exact Done.of_good (copy_run sm ht hd h hx hy)
  ·simp at h
 ·obtain⟨x,rfl,hx⟩:=qlk hv;replace h:=obs h;obtain⟨t,ht,h⟩:=h;replace h:=obs h;obtain⟨H1,hc,h⟩:=h;simp only[sj,jf]at h;obtain⟨rfl,rfl⟩:=h;exact Done.of_good (ziz sm ht hc hx)
 ·obtain⟨x,y,rfl,hx,hy⟩:=qq1 hv;replace h:=obs h;obtain⟨t,ht,h⟩:=h;replace h:=obs h;obtain⟨H1,hc,h⟩:=h;simp only[sj,jf]at h;obtain⟨rfl,rfl⟩:=h;exact Done.of_good (zdy sm ht hc hx hy)
 ·obtain⟨x,y,rfl,hx,hy⟩:=qq1 hv;split at h
  ·cases hx;cases hy;split at h
   next hk=>simp only[sj,jf]at h;obtain⟨rfl,rfl⟩:=h;subst hk;exact Done.pure sm (by show (Sem.run C.P (if _=_ then pure _ else stuck _) w)=_;rw[if_pos rfl];rfl) (.cplx _ _ _)
   ·simp at h
  ·simp at h
 ·obtain⟨x,rfl,hx⟩:=qlk hv;split at h
  ·cases hx;simp only[sj,jf]at h;obtain⟨rfl,rfl⟩:=h;exact Done.pure sm rfl (.float _ _)
  ·simp at h
 ·obtain⟨x,rfl,hx⟩:=qlk hv;split at h
  ·cases hx;simp only[sj,jf]at h;obtain⟨rfl,rfl⟩:=h;exact Done.pure sm rfl (.float _ _)
  ·simp at h
 ·obtain⟨x,rfl,hx⟩:=qlk hv;split at h
  ·simp only[sj,jf]at h;obtain⟨rfl,rfl⟩:=h;cases hx;exact Done.pure sm (sem:=Builtin.unsafeSliceData_ ts ty #[.slice none 0 0]) rfl .nilP
  ·split at h
   ·simp at h
   ·rename_i b o cap len;simp only[sj,jf]at h;obtain⟨rfl,rfl⟩:=h;cases hx with
    |slcE _ _ _ c l hl hc=>exact Done.pure sm (Lib.run_unsafeSliceData_row _ _ _ _ _ _ (by omega)) (.ptr _ _ l hl)
    |slcR _ _ _ sz c l hl hc hf=>exact Done.pure sm (Lib.run_unsafeSliceData_row _ _ _ _ _ _ (by omega)) (.ptr _ _ l hl)
  ·simp at h
 ·obtain⟨x,y,rfl,hx,hy⟩:=qq1 hv;split at h
  ·rename_i n0;replace h:=obs h;obtain⟨n,hn,h⟩:=h;obtain⟨rfl,hnlt⟩:=qdl hn;cases hy;split at h
   ·replace h:=obs h;obtain⟨t,ht,h⟩:=h;split at h
    ·simp only[sj,jf]at h;obtain⟨rfl,rfl⟩:=h;cases hx;exact Done.pure sm (sem:=Builtin.unsafeString_ ts ty _) (by rw[us_eq ht];exact Lib.run_unsafeString_none w t t ty none) (.str [])
    ·simp at h
   ·rename_i b o;replace h:=obs h;obtain⟨t,ht,h⟩:=h;replace h:=obs h;obtain⟨d,hd,h⟩:=h;split at h
    ·rename_i u;replace h:=obs h;obtain⟨k,hk,h⟩:=h;split at h
     ·rename_i e fz cs;split at h
      ·rename_i hc;simp only[jd]at hc;have h1:=Nat.eq_of_beq_eq_true hc.1.1;have h2:=Nat.eq_of_beq_eq_true hc.1.2;have h3:0 < n:=jB hc.2;subst h1;subst h2;replace h:=obs h;obtain⟨ud,hud,h⟩:=h;split at h
       ·rename_i hc1;have hc1:=Nat.eq_of_beq_eq_true hc1;replace h:=obs h;obtain⟨bs,hbs,h⟩:=h;replace h:=obs h;obtain⟨st,hst,h⟩:=h;replace h:=obs h;obtain⟨H1,hset,h⟩:=h;simp only[sj,jf]at h;obtain⟨rfl,rfl⟩:=h;cases hx with
        |ptr _ _ l hl=>
         obtain⟨l',hl',_,hlt,hr⟩:=sm.block hk;rw[hl]at hl';cases hl';obtain⟨⟨r1,r2,r3⟩,r4,r5,c,lo,hi,hheap,hz⟩:=hr;obtain⟨hle,rfl⟩:=qns hbs;obtain⟨hsl,hsv⟩:=qrx hst;have hlen:st.length=n:=(by rw[hsl];simp;omega);have hcells:∀j x,st[j]? = some x->w.cell? ((⟨l.cb,0,none⟩ : Addr).add j)=some (.int .u8 x.toNat):=fun j x hj=>(by obtain⟨hjl,hjx⟩:=List.getElem?_eq_some_iff.1 hj;obtain⟨y,hy,hyv⟩:=r3 j (by omega);have hvj:=hsv j (by rw[<- hsl];exact hjl) hjl;rw[jY]at hvj;rw[hvj]at hyv;cases hyv;rw[qfy,jO];rw[r4,jO]at hy;rw[hy,hjx]);have hsz:n<=c.size:=by
          obtain⟨y,hy,_⟩:=r3 (n - 1) (by omega);simp only[World.cell?,hheap,r4]at hy;by_cases hlt:0+(n - 1) < c.size
          ·omega
          ·have hz':c.size<=0+(n - 1):=(by omega);rw[Array.getElem?_eq_none hz']at hy;simp at hy
         have hrun:=Lib.run_unsafeString_row (P:=C.P) w t t ty e hd hc1 l.cb c.size (by simp only[World.shape?,hheap]) st (by intro h0;rw[h0]at hlen;simp at hlen;omega) (by omega) (by omega) hcells;have hrun2:(Builtin.unsafeString_ ts ty #[.pointer (some ⟨l.cb,l.off+0,none⟩),.int .i64 (n:Int)]).run C.P w=.ok (.string ⟨st.toArray⟩) (w.freeze ⟨l.cb,0,none⟩ st.length):=(by rw[us_eq ht,<- hrun,hlen,r4]);obtain⟨hn',hd',hk',⟨k0,hk0⟩,hs⟩:=qmn (vs:=[]) hset sm.nodup;have hne:st.length≠0:=(by omega);have hfh:(w.freeze ⟨l.cb,0,none⟩ st.length).heap[l.cb]? = some (.cells c e (if lo == hi then (0,0+st.length) else (min lo 0,max hi (0+st.length)))):=(by simp only[World.freeze,hne,if_false,Array.getElem?_modify,hheap];simp);obtain⟨pr,hpr⟩ : ∃pr:Nat × Nat,pr=(if (lo == hi)=true then (0,0+st.length) else (min lo 0,max hi (0+st.length))):=⟨_,rfl⟩;have hbound:pr.2<=max fz n:=by
          split at hpr
          ·subst hpr;show 0+st.length<=_;omega
          ·rename_i hlh;subst hpr;show max hi (0+st.length)<=_;rcases hz with hz|hz
           ·exact absurd (by simp[hz]) hlh
           ·omega
         have hfh:(w.freeze ⟨l.cb,0,none⟩ st.length).heap[l.cb]? = some (.cells c e pr):=(by rw[hfh,hpr]);have hcell:∀i,(w.freeze ⟨l.cb,0,none⟩ st.length).cell? ⟨l.cb,i,none⟩=w.cell? ⟨l.cb,i,none⟩:=fun i=>(by simp only[World.cell?,hfh,hheap]);have hrest:(w.freeze ⟨l.cb,0,none⟩ st.length).heap.size=w.heap.size/\(w.freeze ⟨l.cb,0,none⟩ st.length).os=w.os/\(w.freeze ⟨l.cb,0,none⟩ st.length).tape=w.tape/\(w.freeze ⟨l.cb,0,none⟩ st.length).output=w.output:=(by unfold World.freeze;rw[if_neg hne];exact⟨by simp,rfl,rfl,rfl⟩);obtain⟨g1,g2⟩:=sm.turned (w':=w.freeze ⟨l.cb,0,none⟩ st.length) hk0 hl hn' hd' hk' hs hrest.1 (fun j hj=>by
           unfold World.freeze;rw[if_neg hne];simp only[Array.getElem?_modify];rw[if_neg (fun e=>hj e.symm)]) hrest.2.1 hrest.2.2.1 hrest.2.2.2 (by
           refine⟨⟨r1,fun i hi=>by rw[hcell];exact r2 i hi,fun i hi=>by rw[hcell];exact r3 i hi⟩,r4,?_,c,_,_,hfh,?_⟩
           ·have:Nat.max fz n<=cs.length:=Nat.max_le.2 ⟨r5,hle⟩;exact this
           ·exact .inr hbound)
         exact⟨_,ρ,_,.str st,g1,g2,.inl (by show ((do Pure.pure (Next.value (<- Builtin.unsafeString_ ts ty _)):Sem Next)).run C.P w=_;simp only[jH,hrun2,j7];rfl)⟩
       ·simp at h
      ·simp at h
     ·simp at h
    ·simp at h
   ·simp at h
  ·simp at h
 ·cases xs with
  |nil=>have:=hv.1;simp at this
  |cons x r=>replace h:=obs h;obtain⟨u,hu,h⟩:=h;simp only[sj,jf]at h;obtain⟨rfl,rfl⟩:=h;obtain⟨y,h1,h2⟩:=qpo (P:=C.P) hu hv.head hv.tail w;exact Done.pure sm (by simpa[Builtin.max_]using h1) h2
 ·cases xs with
  |nil=>have:=hv.1;simp at this
  |cons x r=>replace h:=obs h;obtain⟨u,hu,h⟩:=h;simp only[sj,jf]at h;obtain⟨rfl,rfl⟩:=h;obtain⟨y,h1,h2⟩:=qpo (P:=C.P) hu hv.head hv.tail w;exact Done.pure sm (by simpa[Builtin.min_]using h1) h2
 ·simp at h
def zfv(o:Op):Prop:=∀c,o=.call c->∃b,c.callee=.builtin b
theorem val_run{C:Ctx} {call:qcj} {o:Oper} {s:St} {a:Act} {v:AV} {H':Heap} (sm:Sim ρ s.H w) (e:EnvR ρ s a) (h:qae C call o s=some (v,H')) (hq:zfv o.op) :
  Done ρ s.H w ((execOp a.eval o).run C.P w) v H':=by
 have put:∀{x:Option AV},(x.bind fun x=>some (x,s.H))=some (v,H')->x=some v/\H'=s.H:=fun {x} hx=>by obtain⟨y,hy,hx⟩:=obs hx;simp only[sj,jf]at hx;exact⟨by rw[hy,hx.1],hx.2.symm⟩
 have pure_:∀{x:Value},VR ρ v x->H'=s.H->(execOp a.eval o).run C.P w=.ok (.value x) w->Done ρ s.H w ((execOp a.eval o).run C.P w) v H':=fun {x} hv hH hr=>by subst hH;exact⟨x,ρ,w,hv,sm,.refl _ _ _,.inl hr⟩
 have blk:∀{k:(Nat->AV) × Blk},qdx C o s=some k->v=k.1 s.H.n->H'=s.H.new k.2->Done ρ s.H w ((execOp a.eval o).run C.P w) v H':=fun {k} hk hv hH=>by obtain⟨ob,fin,x,h1,h2⟩:=qwn sm e hk;obtain⟨h3,h4⟩:=h2 s.H.n (sm.dom _ (jc _));obtain⟨g1,g2⟩:=sm.new ob fin k.2 h4;subst hv;subst hH;exact⟨x,_,_,h3,g1,g2,.inl h1⟩
 unfold qae at h;simp only at h;split at h
 next x hop=>obtain⟨hx,rfl⟩:=put h;exact pure_ (qbg e hx) rfl (by simp[execOp,hop])
 next x hop=>obtain⟨hx,rfl⟩:=put h;exact pure_ (qbg e hx) rfl (by simp[execOp,hop])
 ·rename_i c x y hop;replace h:=obs h;obtain⟨cv,hc,h⟩:=h;have hcr:=qbg e hc;split at h
  ·rename_i t;have hce:a.eval c=.bool t:=(by cases hq:a.eval c<;>rw[hq]at hcr<;>cases hcr;rfl);split at h
   ·obtain⟨hx,rfl⟩:=put h;exact pure_ (qbg e hx) rfl (by simp[execOp,hop,hce,asBool])
   ·obtain⟨hx,rfl⟩:=put h;exact pure_ (qbg e hx) rfl (by simp[execOp,hop,hce,asBool])
  ·simp at h
 ·replace h:=obs h;obtain⟨k,hk,h⟩:=h;simp only[sj,jf]at h;exact blk hk h.1.symm h.2.symm
 ·replace h:=obs h;obtain⟨k,hk,h⟩:=h;simp only[sj,jf]at h;exact blk hk h.1.symm h.2.symm
 ·replace h:=obs h;obtain⟨k,hk,h⟩:=h;simp only[sj,jf]at h;exact blk hk h.1.symm h.2.symm
 ·replace h:=obs h;obtain⟨k,hk,h⟩:=h;simp only[sj,jf]at h;exact blk hk h.1.symm h.2.symm
 ·replace h:=obs h;obtain⟨k,hk,h⟩:=h;simp only[sj,jf]at h;exact blk hk h.1.symm h.2.symm
 ·rename_i t parts hop;replace h:=obs h;obtain⟨ps,hps,h⟩:=h;obtain⟨hx,rfl⟩:=put h;obtain⟨h1,h2⟩:=qqu e hps;obtain⟨y,hr,hv⟩:=zjd (vals:=parts.toList.map fun p=>(p.1,a.eval p.2)) hx (by simp[h1]) (by simpa[yo]using h2) w;refine pure_ hv rfl ?_;have:(parts.toList.map fun p=>(p.1,a.eval p.2)).toArray=parts.map fun(i,x)=>(i,a.eval x):=by simp[<- List.map_toArray]
  rw[this]at hr;simp[execOp,hop,hr]
 next t x hop=>replace h:=obs h;obtain⟨p,hp,h⟩:=h;obtain⟨hx,rfl⟩:=put h;obtain⟨y,hr,hv⟩:=qqi sm hx (qbg e hp);exact pure_ hv rfl (by simp[execOp,hop,hr])
 next t x y hop=>replace h:=obs h;obtain⟨p,hp,h⟩:=h;replace h:=obs h;obtain⟨u,hu,h⟩:=h;replace h:=obs h;obtain⟨H1,hw,h⟩:=h;simp only[sj,jf]at h;obtain⟨rfl,rfl⟩:=h;obtain⟨w',hr,h1,h2⟩:=qvk (P:=C.P) sm hw (qbg e hp) (qbg e hu);exact⟨undef,ρ,w',.undef _,h1,h2,.inr ⟨by simp[execOp,hop,hr],rfl⟩⟩
 ·rename_i x hop;replace h:=obs h;obtain⟨p,hp,h⟩:=h;have hpr:=qbg e hp;split at h
  ·simp only[sj,jf]at h;obtain⟨rfl,rfl⟩:=h;refine pure_ hpr rfl ?_;cases hq:a.eval x<;>rw[hq]at hpr<;>cases hpr;simp[execOp,hop,hq]
  ·simp only[sj,jf]at h;obtain⟨rfl,rfl⟩:=h;refine pure_ hpr rfl ?_;cases hq:a.eval x<;>rw[hq]at hpr<;>cases hpr;simp[execOp,hop,hq]
  ·simp only[sj,jf]at h;obtain⟨rfl,rfl⟩:=h;refine pure_ hpr rfl ?_;obtain⟨a',c',hq,_⟩:=hpr.args;simp[execOp,hop,hq]
  ·simp only[sj,jf]at h;obtain⟨rfl,rfl⟩:=h;refine pure_ hpr rfl ?_;obtain⟨a',c',hq,_⟩:=hpr.args;simp[execOp,hop,hq]
  ·simp only[sj,jf]at h;obtain⟨rfl,rfl⟩:=h;refine pure_ hpr rfl ?_;cases hq:a.eval x<;>rw[hq]at hpr<;>cases hpr;simp[execOp,hop,hq]
  ·simp at h
 ·rename_i op t x y ty hop;replace h:=obs h;obtain⟨p,hp,h⟩:=h;replace h:=obs h;obtain⟨u,hu,h⟩:=h;obtain⟨hx,rfl⟩:=put h;obtain⟨z,hr,hv⟩:=binK_run x y hx (qbg e hp) (qbg e hu) w;refine pure_ hv rfl ?_;have e2:execOp a.eval o=(do Pure.pure (Next.value (<- (do eqGuard op t x y (a.eval x) (a.eval y);Go.binOp op t (a.eval x) (a.eval y):Sem Value))):Sem Next):=by simp only[execOp,hop]
  rw[e2,jH,hr];rfl
 next op t x hop=>replace h:=obs h;obtain⟨p,hp,h⟩:=h;obtain⟨hx,rfl⟩:=put h;obtain⟨z,hr,hv⟩:=unA_run (P:=C.P) hx (qbg e hp) w;exact pure_ hv rfl (by simp[execOp,hop,hr])
 next t u x hop=>replace h:=obs h;obtain⟨p,hp,h⟩:=h;have:=Done.of_good (conv_run sm h (qbg e hp));simpa[execOp,hop]using this
 ·rename_i fn first cap hop
  replace h:=obs h;obtain⟨p,hp,h⟩:=h;replace h:=obs h;obtain⟨u,hu,h⟩:=h;simp only[sj,jf]at h;obtain⟨rfl,rfl⟩:=h;have h1:=qjz e hp;have h2:=qjz e hu;exact pure_ (.func fn _ _ _ _ (by simpa using h1.1) (by simpa using h2.1) (fun i g g'=>h1.2 i g (by simpa using g')) (fun i g g'=>h2.2 i g (by simpa using g'))) rfl (by simp[execOp,hop,Instr.makeFunc])
 next t x lo hi mx hop=>replace h:=obs h;obtain⟨p,hp,h⟩:=h;replace h:=obs h;obtain⟨l,hl,h⟩:=h;replace h:=obs h;obtain⟨g,hg,h⟩:=h;replace h:=obs h;obtain⟨m,hm,h⟩:=h;obtain⟨hx,rfl⟩:=put h;obtain⟨z,hr,hv⟩:=zfk sm hx (qbg e hp) (qqv e hl) (qqv e hg) (qqv e hm);exact pure_ hv rfl (by simp[execOp,hop,hr])
 next t x f hop=>replace h:=obs h;obtain⟨p,hp,h⟩:=h;obtain⟨hx,rfl⟩:=put h;obtain⟨z,hr,hv⟩:=quv hx (qbg e hp) w;exact pure_ hv rfl (by simp[execOp,hop,hr])
 next t x f hop=>replace h:=obs h;obtain⟨p,hp,h⟩:=h;obtain⟨hx,rfl⟩:=put h;obtain⟨z,hr,hv⟩:=zia hx (qbg e hp) w;exact pure_ hv rfl (by simp[execOp,hop,hr])
 next t x i hop=>replace h:=obs h;obtain⟨p,hp,h⟩:=h;replace h:=obs h;obtain⟨u,hu,h⟩:=h;obtain⟨hx,rfl⟩:=put h;obtain⟨z,hr,hv⟩:=qui hx (qbg e hp) (qbg e hu) w;exact pure_ hv rfl (by simp[execOp,hop,hr])
 next t x i hop=>replace h:=obs h;obtain⟨p,hp,h⟩:=h;replace h:=obs h;obtain⟨u,hu,h⟩:=h;obtain⟨hx,rfl⟩:=put h;obtain⟨z,hr,hv⟩:=zha hx (qbg e hp) (qbg e hu) w;exact pure_ hv rfl (by simp[execOp,hop,hr])
 next t m k ok hop=>replace h:=obs h;obtain⟨p,hp,h⟩:=h;replace h:=obs h;obtain⟨u,hu,h⟩:=h;obtain⟨hx,rfl⟩:=put h;obtain⟨z,hr,hv⟩:=zdi sm hx (qbg e hp) (qbg e hu);exact pure_ hv rfl (by simp[execOp,hop,hr])
 next t m k x hop=>replace h:=obs h;obtain⟨p,hp,h⟩:=h;replace h:=obs h;obtain⟨u,hu,h⟩:=h;replace h:=obs h;obtain⟨z,hz,h⟩:=h;replace h:=obs h;obtain⟨H1,hw,h⟩:=h;simp only[sj,jf]at h;obtain⟨rfl,rfl⟩:=h;obtain⟨w',hr,h1,h2⟩:=qsz (P:=C.P) sm hw (qbg e hp) (qbg e hu) (qbg e hz);exact⟨undef,ρ,w',.undef _,h1,h2,.inr ⟨by simp[execOp,hop,hr],rfl⟩⟩
 next t m k x hop=>replace h:=obs h;obtain⟨p,hp,h⟩:=h;replace h:=obs h;obtain⟨u,hu,h⟩:=h;replace h:=obs h;obtain⟨z,hz,h⟩:=h;replace h:=obs h;obtain⟨H1,hw,h⟩:=h;simp only[sj,jf]at h;obtain⟨rfl,rfl⟩:=h;obtain⟨w',hr,h1,h2⟩:=qsz (P:=C.P) sm hw (qbg e hp) (qbg e hu) (qbg e hz);exact⟨undef,ρ,w',.undef _,h1,h2,.inr ⟨by simp[execOp,hop,hr],rfl⟩⟩
 ·rename_i x i hop;replace h:=obs h;obtain⟨p,hp,h⟩:=h;have hpr:=qbg e hp;split at h
  next vs=>obtain⟨hx,rfl⟩:=put h;obtain⟨hi,rfl⟩:=qfb hx;cases hq:a.eval x<;>rw[hq]at hpr<;>cases hpr;rename_i xs hl hv;have hi':i < xs.size:=(by omega);exact pure_ (hv i hi hi') rfl (by simp[execOp,hop,Instr.extract,hq,hi'])
  ·simp at h
 ·rename_i t x hop;replace h:=obs h;obtain⟨p,hp,h⟩:=h;replace h:=obs h;obtain⟨d,hd,h⟩:=h;have hpr:=qbg e hp;split at h
  next l=>simp only[sj,jf]at h;obtain⟨rfl,rfl⟩:=h;have hxe:a.eval x=.string ⟨l.toArray⟩:=(by cases hq:a.eval x<;>rw[hq]at hpr<;>cases hpr;rfl);have hh:(w.alloc (.stringIter ⟨l.toArray⟩ 0)).heap[w.heap.size]? = some (.stringIter ⟨l.toArray⟩ 0):=(by show (w.heap.push _)[w.heap.size]? = _;simp);obtain⟨g1,g2⟩:=sm.new (.stringIter ⟨l.toArray⟩ 0) 0 (.iter l 0) ⟨hh,rfl⟩;exact⟨_,_,_,.ptr s.H.n 0 _ Place.upd_same,g1,g2,.inl (by simp[execOp,hop,Instr.range,run_underlying hd,hxe,newObj,Sem.run])⟩
  ·rename_i kt et b;obtain⟨l,hl,hxe⟩ : ∃l,ρ b=some l/\a.eval x=.map (some l.cb):=(by cases hq:a.eval x<;>rw[hq]at hpr<;>cases hpr;exact⟨_,by assumption,rfl⟩);unfold zft at h;replace h:=obs h;obtain⟨k,hk,h⟩:=h;split at h
   ·rename_i es;split at h
    next hbm=>simp only[sj,jf]at h;obtain⟨rfl,rfl⟩:=h;obtain⟨w1,ρ1,h1,h2,h3,h4⟩:=sm.ranged (P:=C.P) hk hl hbm;have h5:=h4 t kt et () hd;exact⟨_,ρ1,w1,h1,h2,h3,.inl (by simp[execOp,hop,hxe,h5])⟩
    ·simp at h
   ·simp at h
  ·simp at h
 ·rename_i x hop;replace h:=obs h;obtain⟨p,hp,h⟩:=h;have hpr:=qbg e hp;split at h
  ·rename_i b;obtain⟨hx,rfl⟩:=put h;unfold zc6 at hx;replace hx:=obs hx;obtain⟨k,hk,hx⟩:=hx;split at hx
   ·rename_i left cur;split at hx
    ·rename_i e1;simp only[sj]at hx;subst hx;cases hq:a.eval x<;>rw[hq]at hpr<;>cases hpr;rename_i l hl;obtain⟨l',hl',_,hlt,h0,r,r1,r2,r3,r4,r5⟩:=sm.block hk;rw[hl]at hl';cases hl';obtain⟨y,sn,hy,hsn,hy1,hy2⟩:=r5.2 _ rfl;have hent:=zil (P:=C.P) r4 ((sm.below _ r1).trans r2) hy hsn r3.1 r3.2.2.2;refine pure_ (?_:VR ρ _ (.tuple #[y.key,y.val])) rfl (by simp[execOp,hop,hq,h0,hent]);refine .tup _ _ rfl fun i h1 h2=>?_
     match i,h1 with
     |0,_=>exact hy1.mono (Place.bare_le ρ)
     |1,_=>exact hy2.mono (Place.bare_le ρ)
    ·simp at hx
   ·simp at hx
  ·simp at h
 ·rename_i x isS hop;replace h:=obs h;obtain⟨p,hp,h⟩:=h;have hpr:=qbg e hp;split at h
  ·rename_i b;replace h:=obs h;obtain⟨k,hk,h⟩:=h;split at h
   ·rename_i st pos;cases hq:a.eval x<;>rw[hq]at hpr<;>cases hpr;rename_i l hl;obtain⟨l',hl',_,hlt,hr⟩:=sm.block hk;rw[hl]at hl';cases hl';obtain⟨hheap,hoff⟩:=hr;have hgo:(getObj l.cb).run C.P w=.ok (.stringIter ⟨st.toArray⟩ pos) w:=(by simp[getObj,Sem.run,hheap]);split at h
    ·rename_i hpos;have hpos:pos < st.length:=jB hpos;replace h:=obs h;obtain⟨H1,hset,h⟩:=h;simp only[sj,jf]at h;obtain⟨rfl,rfl⟩:=h;obtain⟨hn,hd,hk',⟨k0,hk0⟩,hs⟩:=qmn (vs:=[]) hset sm.nodup;generalize hdec:Utf8.decode ⟨st.toArray⟩ pos=dec at *;have hso:∀ob:Obj,(setObj l.cb ob).run C.P w=.ok () { w with heap:=w.heap.setIfInBounds l.cb ob }:=fun ob=>(by simp[setObj,Sem.run,hheap]);obtain⟨g1,g2⟩:=sm.turned (w':={ w with heap:=w.heap.setIfInBounds l.cb (.stringIter ⟨st.toArray⟩ (pos+dec.2)) }) hk0 hl hn hd hk' hs (by simp) (fun j hj=>by
       show (w.heap.setIfInBounds l.cb _)[j]? = _;rw[Array.getElem?_setIfInBounds,if_neg (fun e=>hj e.symm)]) rfl rfl rfl (by
       refine⟨?_,hoff⟩;show (w.heap.setIfInBounds l.cb _)[l.cb]? = _;rw[Array.getElem?_setIfInBounds];simp[hlt])
     refine⟨.tuple #[.bool true,.int .i64 pos,.int .i32 dec.1],ρ,_,?_,g1,g2,.inl ?_⟩
     ·refine .tup _ _ rfl fun i h1 h2=>?_
      match i,h1 with
      |0,_=>exact .bool _
      |1,_=>exact .int _ _
      |2,_=>exact .int _ _
     ·simp[execOp,hop,hq,Instr.next,hoff,hgo,qed,hpos,hdec,hso,goInt]
    ·rename_i hpos;have hpos:¬ pos < st.length:=fun h=>(by rw[show Nat.blt pos st.length=true by simpa using h]at hpos;cases hpos);simp only[sj,jf]at h;obtain⟨rfl,rfl⟩:=h;refine pure_ (.tup [.bool false] #[.bool false] rfl fun i h1 h2=>?_) rfl ?_
     ·match i,h1 with
      |0,_=>exact .bool _
     ·simp[execOp,hop,hq,Instr.next,hoff,hgo,qed,hpos]
   ·simp at h
  ·simp at h
 next c hop=>obtain⟨b,hb⟩:=hq c hop;replace h:=obs h;obtain⟨args,ha,h⟩:=h;rw[hb]at h;have hr:=fun cs=>qzt (C:=C) (ty:=o.type) (cs:=cs) sm h (qjz e ha);simp only[yL]at hr;simp only[execOp,hop,resolve,hb,jH,yq,j7,invoke];exact hr _
 ·simp at h
end
def fen:Option Nat->Fence
 |none=>Fence.wide
 |some l=>Fence.wide.inRound l
theorem zc5(r:Option Nat) (f:FuncId):(fen r).fn f:=by cases r<;>trivial
theorem qxl(r:Option Nat):(fen r).depth.isSome=false:=by cases r<;>rfl
theorem zic{r:Option Nat} {n:Nat} {P:Program} {f:FuncId} {args:Array Value} {w:World} {R:Ending->World->Prop} (h:CallsIn Fence.wide n P f args w R):CallsIn (fen r) n P f args w R:=by
 cases r with
 |none=>exact h
 |some l=>exact h.inRound l
theorem qxk{r:Option Nat} {n:Nat} {P:Program} {l:Nat} {f:FuncId} {tmps:Array Value} {as' bd:Code} {w:World} {R:Ending->World->Prop} (h:RoundIn Fence.wide n P l f tmps as' bd w R):RoundIn (fen r) n P l f tmps as' bd w R:=by
 cases r with
 |none=>exact h
 |some l=>exact h
section
variable {ρ:Place} {w:World}
def za7(ρ:Place) (H:Heap) (w:World) (v:AV) (H':Heap):Ending->World->Prop:=
 fun e w'=>∃x ρ',e=.returned x/\VR ρ' v x/\Sim ρ' H' w'/\Step ρ H w ρ' H' w'
def CallAt(C:Ctx) (f:FuncId) (args:List AV) (H:Heap) (v:AV) (H':Heap):Prop:=
 ∀ρ w xs,Sim ρ H w->VRs ρ args xs ->
  (∃x ρ' w',(callFunc f xs.toArray).run C.P w=.ok (.value x) w'/\VR ρ' v x/\Sim ρ' H' w'/\Step ρ H w ρ' H' w') \/
  (∃g ys,(callFunc f xs.toArray).run C.P w=.ok (.enter g ys) w/\CallsIn Fence.wide 0 C.P g ys w (za7 ρ H w v H'))
def qjb(C:Ctx) (b:Nat) (args:List AV) (H:Heap) (v:AV) (H':Heap):Prop:=
 ∀ρ w xs l,Sim ρ H w->VRs ρ args xs->ρ b=some l ->
  ∃fn tmps assign body,(Instr.yield l.cb xs.toArray).run C.P w=.ok (.round l.cb fn tmps assign body) w/\RoundIn Fence.wide 0 C.P l.cb fn tmps assign body w (za7 ρ H w v H')
structure CallOK (C:Ctx) (call:qcj):Prop where
 fn:∀f args H v H',call (.fn f) args H=some (v,H')->CallAt C f args H v H'
 yl:∀b args H v H',call (.yl b) args H=some (v,H')->qjb C b args H v H'
theorem qnd{ops:Array Oper} {s:St} {a:Act} {o:Oper} {g:Bool} (e:EnvR ρ s a) (h:qc9 ops s o=some g):Region.wanted o (yielded ops a.tmps)=g:=by
 unfold qc9 at h;unfold Region.wanted;split at h
 next hg=>simp only[sj]at h;subst h;simp[hg]
 ·rename_i j want hg;replace h:=obs h;obtain⟨p,hp,h⟩:=h;replace h:=obs h;obtain⟨t,ht,h⟩:=h;replace h:=obs h;obtain⟨v,hv,h⟩:=h;have hvr:=e.val t v hv;simp only[hg,yielded,hp,ht,jb];rw[jE]at hvr;split at h
  ·rename_i b;simp only[sj]at h;subst h;cases hx:a.tmps[t]? with
   |none=>rw[hx]at hvr;cases hvr
   |some x=>rw[hx]at hvr;simp only[Option.getD_some]at hvr;cases hvr;simp
  ·simp only[sj]at h;subst h;cases hx:a.tmps[t]? with
   |none=>simp
   |some x=>rw[hx]at hvr;simp only[Option.getD_some]at hvr;cases hvr;simp
  ·simp at h
theorem qsr{C:Ctx} {call:qcj} {o:Oper} {s:St} {r:AV × Heap} (h:qae C call o s=some r) (ro:Option Nat) (f:Operand->Value):o.semAt ro f=execOp f o:=by
 unfold Oper.semAt;split
 next l c hop=>unfold qae at h;simp[hop]at h
 ·rfl
theorem zge{C:Ctx} {call:qcj} (hC:CallOK C call) {o:Oper} {s:St} {a:Act} {r:Option Nat} {next:Act->World->Prop} {Q:Exit->Act->World->Prop} {v:AV} {H':Heap}
  (hv:qae C call o s=some (v,H')) (sm:Sim ρ s.H w) (e:EnvR ρ s a)
  (fin:∀x ρ' w',VR ρ' v x->Sim ρ' H' w'->Step ρ s.H w ρ' H' w'->next (a.put o.dst x) w'):o.wpIn (fen r) 0 C.P a w next Q:=by
 refine⟨fun f _=>zc5 r f,?_⟩;rw[qsr hv];by_cases hq:zfv o.op
 ·obtain⟨x,ρ',w',h1,h2,h3,h4⟩:=val_run sm e hv hq;rcases h4 with h4|⟨h4,rfl⟩
  ·rw[h4];exact fin x ρ' w' h1 h2 h3
  ·rw[h4];exact fin undef ρ' w' h1 h2 h3
 ·-- a call of a Go function
  have:∃c f,o.op=.call c/\c.callee=.value f:=by
   by_cases hc:∃c,o.op=.call c
   ·obtain⟨c,hc⟩:=hc;cases hcc:c.callee with
    |value f=>exact⟨c,f,hc,hcc⟩
    |builtin b=>exact absurd (fun c' hc'=>by rw[hc]at hc';cases hc';exact⟨b,hcc⟩) hq
    |invoke x m=>unfold qae at hv;simp[hc,hcc]at hv
   ·exact absurd (fun c hc'=>absurd ⟨c,hc'⟩ hc) hq
  obtain⟨c,f,hop,hcc⟩:=this;have hv2:((qg5 s c.args.toList).bind fun args=>(qc0 s f).bind fun f=>match f with
   |.func (.func f) first cap=>call (.fn f) (first++args++cap) s.H
   |.yld b=>call (.yl b) args s.H
   |_=>none)=some (v,H'):=by
   unfold qae at hv;simp only[hop,hcc]at hv;exact hv
  replace hv2:=obs hv2;obtain⟨args,ha,hv2⟩:=hv2;replace hv2:=obs hv2;obtain⟨fv,hf,hv2⟩:=hv2;split at hv2
  ·rename_i g first cap
   obtain⟨first',cap',hfe,hfi,hca⟩:=(qbg e hf).args;have hall:VRs ρ (first++args++cap) (first'.toList++(c.args.map a.eval).toList++cap'.toList):=(hfi.append (qjz e ha)).append hca;have hrun:(execOp a.eval o).run C.P w=(callFunc g (first'.toList++(c.args.map a.eval).toList++cap'.toList).toArray).run C.P w:=(by have e1:(first'.toList++(c.args.map a.eval).toList++cap'.toList).toArray=first'++c.args.map a.eval++cap':=(by apply Array.ext';simp);rw[e1];simp[execOp,hop,hcc,resolve,Deferred.ofValue,hfe,invoke]);rw[hrun];rcases hC.fn g _ s.H v H' hv2 ρ w _ sm hall with⟨x,ρ',w',h1,h2,h3,h4⟩|⟨g',ys,h1,h2⟩
   ·rw[h1];exact fin x ρ' w' h2 h3 h4
   ·rw[h1];refine⟨fun hd=>(by rw[qxl]at hd;cases hd),?_⟩;refine CallsIn.mono (zic h2) ?_;rintro e' w' ⟨x,ρ',rfl,h3,h4,h5⟩;exact fin x ρ' w' h3 h4 h5
  next b=>have hfr:=qbg e hf;cases hq:a.eval f<;>rw[hq]at hfr<;>cases hfr;rename_i l hl;have hrun:(execOp a.eval o).run C.P w=(Instr.yield l.cb (c.args.map a.eval).toList.toArray).run C.P w:=(by rw[yL];simp[execOp,hop,hcc,resolve,Deferred.ofValue,hq,invoke]);rw[hrun];obtain⟨fn,tmps,as',bd,h1,h2⟩:=hC.yl b _ s.H v H' hv2 ρ w _ l sm (qjz e ha) hl;rw[h1];refine⟨fun hd=>(by rw[qxl]at hd;cases hd),?_⟩;refine RoundIn.mono (qxk h2) ?_;rintro e' w' ⟨x,ρ',rfl,h3,h4,h5⟩;exact fin x ρ' w' h3 h4 h5
  ·simp at hv2
theorem op_wp{C:Ctx} {call:qcj} (hC:CallOK C call) {ops:Array Oper} {i:Nat} {o:Oper} (ho:ops[i]? = some o) {s s':St} {a:Act} {r:Option Nat} {next:Act->World->Prop} {Q:Exit->Act->World->Prop}
  (h:qi4 C call ops o s=some s') (sm:Sim ρ s.H w) (e:EnvR ρ s a)
  (hk:∀a' w' ρ',Sim ρ' s'.H w'->Step ρ s.H w ρ' s'.H w'->EnvR ρ' s' a'->a'.defers=a.defers->next a' w'):wpOpIn (fen r) 0 C.P ops Q i next a w:=by
 unfold wpOpIn;simp only[ho];have defers:∀(d:Option Tmp) (x:Value),(a.put d x).defers=a.defers:=fun d x=>by cases d<;>rfl
 replace h:=obs h;obtain⟨g,hg,h⟩:=h;rw[qnd e hg];split at h
 ·simp only[if_true];replace h:=obs h;obtain⟨⟨v,H'⟩,hv,hput⟩:=h;have hput:St.put { s with H:=H' } o.dst v=some s':=hput;have hH:s'.H=H':=St.put_heap hput;exact zge hC hv sm e fun x ρ' w' h1 h2 h3=>hk _ w' ρ' (hH ▸ h2) (hH ▸ h3) (((e.mono h3.le).heap H').put hput h1) (defers _ _)
 ·simp only[jC,if_false];refine⟨fun f _=>zc5 r f,?_⟩;have hH:s'.H=s.H:=St.put_heap h;exact hk _ w ρ (hH ▸ sm) (hH ▸ .refl _ _ _) (e.put h (.tup [] #[] rfl (fun i h=>absurd h (jk i)))) (defers _ _)
theorem qrj{s:St} {a:Act} (sm:Sim ρ s.H w) (e:EnvR ρ s a) (o:Oper) :
  Sim ρ (qbw s o).H w/\Step ρ s.H w ρ (qbw s o).H w/\EnvR ρ (qbw s o) a:=by
 unfold qbw;have kill:∀b,Sim ρ ({ s with H:=s.H.kill b }:St).H w/\Step ρ s.H w ρ ({ s with H:=s.H.kill b }:St).H w/\EnvR ρ { s with H:=s.H.kill b } a:=fun b=>
  ⟨(sm.killed b).1,(sm.killed b).2,e.heap _⟩
 repeat' split
 all_goals first|exact kill _|exact⟨sm,.refl _ _ _,e⟩
theorem zgd{C:Ctx} {call:qcj} (hC:CallOK C call) {ops:Array Oper} {r:Option Nat} {Q:Exit->Act->World->Prop}:∀{l:List Oper} {i:Nat} {s s':St} {a:Act} {ρ:Place} {w:World},
  (∀j,l[j]? = ops[i+j]?)->qff C call ops l s=some s'->Sim ρ s.H w->EnvR ρ s a ->
  (∀a' w' ρ',Sim ρ' s'.H w'->Step ρ s.H w ρ' s'.H w'->EnvR ρ' s' a'->a'.defers=a.defers->Q .normal a' w')->wpOpsIn (fen r) 0 C.P ops Q (List.range' i l.length) a w
 |[],i,s,s',a,ρ,w,_,h,sm,e,hk=>by simp only[qff,sj]at h;subst h;exact hk a w ρ sm (.refl _ _ _) e rfl
 |o::l,i,s,s',a,ρ,w,hl,h,sm,e,hk=>by obtain⟨s1,h1,h2⟩:=obs h;obtain⟨g1,g2,g3⟩:=qrj sm e o;rw[jx,List.range'_succ,wpOpsIn_cons];refine op_wp hC (by simpa using(hl 0).symm) h1 g1 g3 fun a' w' ρ' k1 k2 k3 k4=>?_;refine zgd hC (fun j=>by have:=hl (j+1);simpa[Nat.add_assoc,Nat.add_comm 1 j]using this) h2 k1 k3 fun a2 w2 ρ2 m1 m2 m3 m4=>?_;exact hk a2 w2 ρ2 m1 ((g2.trans k2).trans m2) m3 (m4.trans k4)
theorem EnvR.fresh{s:St} {a:Act} (e:EnvR ρ s a):EnvR ρ { s with ts:=[] } a:=by
 refine⟨e.size,fun t v h=>e.val t v ?_⟩;simp only[St.get]at h ⊢;split at h
 next x hx=>simp only[sj]at h;subst h;simp[hx]
 ·simp[qfo,qov]at h
end
theorem qf2{s s':St} {x:Operand} (h:∀t,x=.tmp t->s.get t=s'.get t):qc0 s x=qc0 s' x:=by
 cases x with
 |tmp t=>exact h t rfl
 |_=>rfl
theorem qlu{s s':St}:∀{xs:List Operand},(∀t,Operand.tmp t∈xs->s.get t=s'.get t)->qg5 s xs=qg5 s' xs
 |[],_=>rfl
 |x::r,h=>by simp only[qg5];rw[qf2 (s:=s) (s':=s') (x:=x) (fun t e=>h t (by simp[e])),qlu (fun t ht=>h t (jp _ ht))]
theorem qix{s s':St}:∀{xs:List (Nat × Operand)},(∀t,Operand.tmp t∈xs.map (·.2)->s.get t=s'.get t)->qi6 s xs=qi6 s' xs
 |[],_=>rfl
 |x::r,h=>by simp only[qi6];rw[qf2 (s:=s) (s':=s') (x:=x.2) (fun t e=>h t (by simp[e])),qix (fun t ht=>h t (by simp at ht ⊢;exact .inr ht))]
theorem qyn{s s':St} {x:Option Operand} (h:∀t,x=some (.tmp t)->s.get t=s'.get t):qji s x=qji s' x:=by
 cases x with
 |none=>rfl
 |some x=>simp only[qji];rw[qf2 (s:=s) (s':=s') (x:=x) (fun t e=>h t (by rw[e]))]
def Asks(o:Op) (t:Nat):Prop:=Operand.tmp t∈o.operands.toList
theorem qqy{C:Ctx} {o:Oper} {s s':St} (h:∀t,Asks o.op t->s.get t=s'.get t):qdx C o s=qdx C o s':=by
 unfold qdx;unfold Asks at h;split<;>rename_i hop<;>simp only[hop,Op.operands]at h
 ·rfl
 next t x=>rw[qf2 (s:=s) (s':=s') (x:=x) (fun t e=>h t (by simp[e]))]
 next t l parts=>rw[qix (s:=s) (s':=s') (fun t ht=>h t (by simpa using ht))]
 next t l c=>rw[qf2 (s:=s) (s':=s') (x:=l) (fun t e=>h t (by simp[e])),qf2 (s:=s) (s':=s') (x:=c) (fun t e=>h t (by simp[e]))]
 ·rename_i t r;cases r with
  |none=>rfl
  |some x=>simp only;rw[qf2 (s:=s) (s':=s') (x:=x) (fun t e=>h t (by simp[e]))]
 ·rfl
theorem qux{C:Ctx} {call:qcj} {o:Oper} {s s':St} (hH:s.H=s'.H) (h:∀t,Asks o.op t->s.get t=s'.get t):qae C call o s=qae C call o s':=by
 have hm:=qqy (C:=C) h;have one:∀x,x∈o.op.operands.toList->qc0 s x=qc0 s' x:=fun x hx=>qf2 fun t e=>h t (by unfold Asks;rw[<- e];exact hx);have many:∀xs:List Operand,(∀x,x∈xs->x∈o.op.operands.toList)->qg5 s xs=qg5 s' xs:=fun xs hx=>qlu fun t ht=>h t (hx _ ht);have opt:∀x:Option Operand,(∀y,x=some y->y∈o.op.operands.toList)->qji s x=qji s' x:=fun x hx=>qyn fun t ht=>h t (hx _ ht);cases hop:o.op with
 |move x=>simp only[qae,hop,hH,one x (by simp[hop,Op.operands])]
 |assign x=>simp only[qae,hop,hH,one x (by simp[hop,Op.operands])]
 |pick c x y=>simp only[qae,hop,hH,one c (by simp[hop,Op.operands]),one x (by simp[hop,Op.operands]),one y (by simp[hop,Op.operands])]
 |alloc t=>simp only[qae,hop,hH,hm]
 |box t x=>simp only[qae,hop,hH,hm]
 |buildSlice t n ps=>simp only[qae,hop,hH,hm]
 |makeMap t r=>simp only[qae,hop,hH,hm]
 |build t ps=>have:qi6 s ps.toList=qi6 s' ps.toList:=qix fun t ht=>h t (by simpa[Asks,hop,Op.operands]using ht);simp only[qae,hop,hH,this]
 |load t x=>simp only[qae,hop,hH,one x (by simp[hop,Op.operands])]
 |store t x y=>simp only[qae,hop,hH,one x (by simp[hop,Op.operands]),one y (by simp[hop,Op.operands])]
 |nilCheck x=>simp only[qae,hop,hH,one x (by simp[hop,Op.operands])]
 |binOp op t x y ty=>simp only[qae,hop,hH,one x (by simp[hop,Op.operands]),one y (by simp[hop,Op.operands])]
 |unOp op t x=>simp only[qae,hop,hH,one x (by simp[hop,Op.operands])]
 |convert t u x=>simp only[qae,hop,hH,one x (by simp[hop,Op.operands])]
 |makeFunc f x y=>simp only[qae,hop,hH,many x.toList (fun z hz=>by simp[hop,Op.operands]at hz ⊢;exact .inl hz),many y.toList (fun z hz=>by simp[hop,Op.operands]at hz ⊢;exact .inr hz)]
 |makeSlice t x y=>simp only[qae,hop,hH,hm]
 |slice t x a b c=>simp only[qae,hop,hH,one x (by simp[hop,Op.operands]),opt a (fun y e=>by simp[hop,Op.operands,e]),opt b (fun y e=>by simp[hop,Op.operands,e]),opt c (fun y e=>by simp[hop,Op.operands,e])]
 |fieldAddr t x f=>simp only[qae,hop,hH,one x (by simp[hop,Op.operands])]
 |field t x f=>simp only[qae,hop,hH,one x (by simp[hop,Op.operands])]
 |indexAddr t x y=>simp only[qae,hop,hH,one x (by simp[hop,Op.operands]),one y (by simp[hop,Op.operands])]
 |index t x y=>simp only[qae,hop,hH,one x (by simp[hop,Op.operands]),one y (by simp[hop,Op.operands])]
 |lookup t x y ok=>simp only[qae,hop,hH,one x (by simp[hop,Op.operands]),one y (by simp[hop,Op.operands])]
 |mapUpdate t x y z=>simp only[qae,hop,hH,one x (by simp[hop,Op.operands]),one y (by simp[hop,Op.operands]),one z (by simp[hop,Op.operands])]
 |insert t x y z=>simp only[qae,hop,hH,one x (by simp[hop,Op.operands]),one y (by simp[hop,Op.operands]),one z (by simp[hop,Op.operands])]
 |extract x i=>simp only[qae,hop,hH,one x (by simp[hop,Op.operands])]
 |range t x=>simp only[qae,hop,hH,one x (by simp[hop,Op.operands])]
 |next x b=>simp only[qae,hop,hH,one x (by simp[hop,Op.operands])]
 |entry x=>simp only[qae,hop,hH,one x (by simp[hop,Op.operands])]
 |call c=>
  have h1:=many c.args.toList (fun z hz=>by simp[hop,Op.operands,Call.operands]at hz ⊢;exact .inr hz);cases hc:c.callee with
  |builtin b=>simp only[qae,hop,hH,h1,hc]
  |value f=>simp only[qae,hop,hH,h1,hc,one f (by simp[hop,Op.operands,Call.operands,hc])]
  |invoke x m=>simp only[qae,hop,hH,h1,hc]
 |_=>simp only[qae,hop]
theorem qp6{P:Program} {H H':Heap} {b:Builtin} {ts:Array TypeId} {args:List AV} {v:AV} (hb:b=.max\/b=.min) (h:qc5 P H b ts args=some (v,H')) :
  H'=H/\∀H2,qc5 P H2 b ts args=some (v,H2):=by
 cases args with
 |nil=>rcases hb with rfl|rfl<;>simp[qc5]at h
 |cons x r=>
  have e:∀H2,qc5 P H2 b ts (x::r)=(qwq (decide (b=.min)) x r).bind fun x=>some (x,H2):=fun H2=>by rcases hb with rfl|rfl<;>rfl
  rw[e]at h;obtain⟨y,hy,h⟩:=obs h;simp only[sj,jf]at h;obtain⟨rfl,rfl⟩:=h;exact⟨rfl,fun H2=>by rw[e,hy];rfl⟩
theorem qzu{P:Program} {H H':Heap} {ts:Array TypeId} {args:List AV} {v:AV} (h:qc5 P H .len ts args=some (v,H')):H'=H:=by
 cases args with
 |nil=>simp[qc5]at h
 |cons x r=>
  cases r with
  |cons _ _=>simp[qc5]at h
  |nil=>have e:qc5 P H .len ts [x]=(ts[0]?).bind fun t=>(qer P H t x).bind fun n=>some (.int .i64 n,H):=rfl;rw[e]at h;obtain⟨t,_,h⟩:=obs h;obtain⟨n,_,h⟩:=obs h;simp only[sj,jf]at h;exact h.2.symm
theorem qka{C:Ctx} {call:qcj} {o:Oper} {s:St} {v:AV} {H':Heap} (hc:qc4 o.op=.pure) (h:qae C call o s=some (v,H')):H'=s.H/\∀H,qae C call o { s with H:=H }=some (v,H):=by
 have put:∀{x:Option AV},(x.bind fun x=>some (x,s.H))=some (v,H')->x=some v/\H'=s.H:=fun {x} hx=>by obtain⟨y,hy,hx⟩:=obs hx;simp only[sj,jf]at hx;exact⟨by rw[hy,hx.1],hx.2.symm⟩
 have hop:∀(H:Heap) x,qc0 { s with H:=H } x=qc0 s x:=fun H x=>qf2 fun _ _=>rfl;have hops:∀(H:Heap) x,qg5 { s with H:=H } x=qg5 s x:=fun H x=>qlu fun _ _=>rfl;have hopP:∀(H:Heap) x,qi6 { s with H:=H } x=qi6 s x:=fun H x=>qix fun _ _=>rfl;cases ho:o.op with
 |move x|assign x=>
  simp only[qae,ho,hop]at h ⊢;obtain⟨h1,h2⟩:=put h;exact⟨h2,fun H=>by simp[h1]⟩
 |pick c x y=>
  simp only[qae,ho,hop]at h ⊢;obtain⟨cv,hcv,h⟩:=obs h;simp only[hcv,jb];split at h
  ·split at h
   ·obtain⟨h1,h2⟩:=put h;exact⟨h2,fun H=>by simp[h1]⟩
   ·obtain⟨h1,h2⟩:=put h;exact⟨h2,fun H=>by simp[h1]⟩
  ·simp at h
 |build t ps=>simp only[qae,ho,hopP]at h ⊢;obtain⟨p,hp,h⟩:=obs h;obtain⟨h1,h2⟩:=put h;exact⟨h2,fun H=>by simp[hp,h1]⟩
 |nilCheck x=>simp only[qae,ho,hop]at h ⊢;obtain⟨p,hp,h⟩:=obs h;simp only[hp,jb];split at h<;>simp only[sj,jf,reduceCtorEq]at h<;>(obtain⟨rfl,rfl⟩:=h;exact⟨rfl,fun H=>rfl⟩)
 |binOp op t x y ty=>simp only[qae,ho,hop]at h ⊢;obtain⟨p,hp,h⟩:=obs h;obtain⟨q,hq,h⟩:=obs h;obtain⟨h1,h2⟩:=put h;exact⟨h2,fun H=>by simp[hp,hq,h1]⟩
 |unOp op t x=>simp only[qae,ho,hop]at h ⊢;obtain⟨p,hp,h⟩:=obs h;obtain⟨h1,h2⟩:=put h;exact⟨h2,fun H=>by simp[hp,h1]⟩
 |makeFunc f x y=>simp only[qae,ho,hops]at h ⊢;obtain⟨p,hp,h⟩:=obs h;obtain⟨q,hq,h⟩:=obs h;simp only[sj,jf]at h;obtain⟨rfl,rfl⟩:=h;exact⟨rfl,fun H=>by simp[hp,hq]⟩
 |fieldAddr t x f|field t x f=>
  simp only[qae,ho,hop]at h ⊢;obtain⟨p,hp,h⟩:=obs h;obtain⟨h1,h2⟩:=put h;exact⟨h2,fun H=>by simp[hp,h1]⟩
 |indexAddr t x y|index t x y=>
  simp only[qae,ho,hop]at h ⊢;obtain⟨p,hp,h⟩:=obs h;obtain⟨q,hq,h⟩:=obs h;obtain⟨h1,h2⟩:=put h;exact⟨h2,fun H=>by simp[hp,hq,h1]⟩
 |extract x i=>
  simp only[qae,ho,hop]at h ⊢;obtain⟨p,hp,h⟩:=obs h;simp only[hp,jb];split at h
  ·obtain⟨h1,h2⟩:=put h;exact⟨h2,fun H=>by simp[h1]⟩
  ·simp at h
 |call c=>
  simp only[qc4,ho]at hc;simp only[qae,ho,hops,hop]at h ⊢;obtain⟨args,ha,h⟩:=obs h;simp only[ha,jb];split at hc<;>(try simp at hc);rename_i b hb;rw[hb]at h ⊢;split at hc<;>(try simp at hc;done)
  ·obtain⟨h1,h2⟩:=qp6 (.inl rfl) h;exact⟨h1,h2⟩
  ·obtain⟨h1,h2⟩:=qp6 (.inr rfl) h;exact⟨h1,h2⟩
 |_=>simp[qc4,ho]at hc
theorem qj2{C:Ctx} {call:qcj} {o:Oper} {s:St} {v:AV} {H':Heap} (hc:qc4 o.op=.reads) (h:qae C call o s=some (v,H')):H'=s.H:=by
 have put:∀{x:Option AV},(x.bind fun x=>some (x,s.H))=some (v,H')->H'=s.H:=fun {x} hx=>by obtain⟨y,hy,hx⟩:=obs hx;simp only[sj,jf]at hx;exact hx.2.symm
 cases ho:o.op with
 |load t x=>simp only[qae,ho]at h;obtain⟨p,hp,h⟩:=obs h;exact put h
 |lookup t x y ok=>simp only[qae,ho]at h;obtain⟨p,hp,h⟩:=obs h;obtain⟨q,hq,h⟩:=obs h;exact put h
 |slice t x a b c=>simp only[qae,ho]at h;obtain⟨p,hp,h⟩:=obs h;obtain⟨q,hq,h⟩:=obs h;obtain⟨q2,hq2,h⟩:=obs h;obtain⟨q3,hq3,h⟩:=obs h;exact put h
 |call c=>simp only[qc4,ho]at hc;simp only[qae,ho]at h;obtain⟨args,ha,h⟩:=obs h;split at hc<;>(try simp at hc);rename_i b hb;rw[hb]at h;split at hc<;>(try simp at hc;done);exact qzu h
 |_=>simp[qc4,ho]at hc
def orOf(acc:Array Nat) (l:List Edge) (s:Nat):Nat:=l.foldl (fun s e=>if Region.binds .any e then s ||| 2 ^ e.on ||| acc.getD e.on 0 else s) s
theorem zb5{acc:Array Nat} {j:Nat}:∀{l:List Edge} {s:Nat},(orOf acc l s).testBit j=true ->
  s.testBit j=true\/∃e,e∈l/\Region.binds .any e=true/\(e.on=j\/(acc.getD e.on 0).testBit j=true)
 |[],s,h=>.inl h
 |e::r,s,h=>by
  simp only[orOf,yB]at h;rcases zb5 (l:=r) h with h|⟨e',he',hb,hj⟩
  ·by_cases hb:Region.binds .any e=true
   ·rw[if_pos hb,Nat.testBit_or,Nat.testBit_or,Nat.testBit_two_pow]at h;simp only[yf,decide_eq_true_eq]at h;rcases h with(h|h)|h
    ·exact .inl h
    ·exact .inr ⟨e,jA,hb,.inl h⟩
    ·exact .inr ⟨e,jA,hb,.inr h⟩
   ·rw[if_neg hb]at h;exact .inl h
  ·exact .inr ⟨e',jp _ he',hb,hj⟩
def befL(l:List Oper) (acc:Array Nat):Array Nat:=l.foldl (fun acc o=>acc.push (orOf acc o.after.toList 0)) acc
theorem befL_eq(ops:Array Oper):Region.before ops=befL ops.toList #[]:=by unfold Region.before befL orOf;rw[<- Array.foldl_toList];congr 1;funext acc o;rw[<- Array.foldl_toList]
theorem qy2:∀(l:List Oper) (acc:Array Nat),(befL l acc).size=acc.size+l.length/\(∀i,i < acc.size->(befL l acc).getD i 0=acc.getD i 0) /\
  ∀i (h:i < l.length),∃acc':Array Nat,acc'.size=acc.size+i/\(∀k,k < acc'.size->acc'.getD k 0=(befL l acc).getD k 0)/\(befL l acc).getD (acc.size+i) 0=orOf acc' l[i].after.toList 0
 |[],acc=>⟨rfl,fun _ _=>rfl,fun i h=>absurd h (jk i)⟩
 |o::r,acc=>by
  obtain⟨h1,h2,h3⟩:=qy2 r (acc.push (orOf acc o.after.toList 0));have e:befL (o::r) acc=befL r (acc.push (orOf acc o.after.toList 0)):=rfl;rw[e];have hlow:∀i,i < acc.size->(befL r (acc.push (orOf acc o.after.toList 0))).getD i 0=acc.getD i 0:=fun i hi=>by rw[h2 i (by simp;omega)];simp only[jE,Array.getElem?_push];rw[if_neg (by omega)]
  refine⟨by rw[h1];simp;omega,hlow,fun i hi=>?_⟩;cases i with
  |zero=>refine⟨acc,rfl,fun k hk=>(hlow k hk).symm,?_⟩;rw[y4,h2 _ (by simp)];simp[jE]
  |succ i=>obtain⟨acc',g1,g2,g3⟩:=h3 i (by simpa using hi);refine⟨acc',by rw[g1];simp;omega,g2,?_⟩;have:acc.size+(i+1)=(acc.push (orOf acc o.after.toList 0)).size+i:=(by simp;omega);rw[this,g3];rfl
theorem ze9{ops:Array Oper} {i j:Nat} (h:ahead (Region.before ops) j i=true) :
  ∃o,ops[i]? = some o/\∃e,e∈o.after/\Region.binds .any e=true/\(e.on=j\/(e.on < i/\ahead (Region.before ops) j e.on=true)):=by
 unfold ahead at h;rw[befL_eq]at h ⊢;obtain⟨h1,_,h3⟩:=qy2 ops.toList #[];have hi:i < ops.size:=by
  rcases jR i ops.size with hh|hh
  ·exact hh
  ·have:(befL ops.toList #[]).getD i 0=0:=(by rw[jE,Array.getElem?_eq_none (by rw[h1];simpa using hh)];rfl);rw[this]at h;simp at h
 obtain⟨acc',g1,g2,g3⟩:=h3 i (by simpa using hi);simp only[List.size_toArray,jW,jO]at g1 g3;rw[g3]at h;rcases zb5 h with h|⟨e,he,hb,hj⟩
 ·simp at h
 ·refine⟨ops[i],by simp[hi],e,by simpa using he,hb,?_⟩;rcases hj with hj|hj
  ·exact .inl hj
  ·right;have hlt:e.on < acc'.size:=by
    rcases jR e.on acc'.size with hh|hh
    ·exact hh
    ·rw[jE,Array.getElem?_eq_none hh]at hj;simp at hj
   refine⟨by omega,?_⟩;unfold ahead;rw[<- g2 _ hlt];exact hj
def qy7(ops:Array Oper) (D:Nat->Prop):Prop:=∀j,D j->∀o,ops[j]? = some o->∀e,e∈o.after->Region.binds .any e=true->D e.on
def qmb(ops:Array Oper) (D:Nat->Prop) (i:Nat):Prop:=∀o,ops[i]? = some o->∀e,e∈o.after->Region.binds .any e=true->D e.on
theorem qja{ops:Array Oper} {D:Nat->Prop} (hD:qy7 ops D):∀{i j:Nat},qmb ops D i->ahead (Region.before ops) j i=true->D j:=by
 intro i;induction i using Nat.strongRecOn with
 |_ i ih=>
  intro j hc h;obtain⟨o,ho,e,he,hb,hj⟩:=ze9 h;have hon:=hc o ho e he hb;rcases hj with rfl|⟨hlt,hj⟩
  ·exact hon
  ·exact ih e.on hlt (hD e.on hon) hj
theorem qi7{i:Nat}:∀{l:List Edge},qke i l=true->∀e,e∈l->Region.binds .any e=true->e.on < i
 |[],_,e,he,_=>by cases he
 |x::r,h,e,he,hb=>by
  unfold qke at h;split at h
  ·rename_i hx;rcases ja.1 he with rfl|he
   ·rw[hx]at hb;cases hb
   ·exact qi7 h e he hb
  ·split at h
   ·rename_i hlt;rcases ja.1 he with rfl|he
    ·exact by simpa using hlt
    ·exact qi7 h e he hb
   ·cases h
theorem qp7:∀{l:List Oper} {i:Nat},qve i l=true->∀j (h:j < l.length),∀e,e∈l[j].after->Region.binds .any e=true->e.on < i+j
 |[],_,_,j,hj,_,_,_=>absurd hj (jk j)
 |o::r,i,h,j,hj,e,he,hb=>by
  unfold qve at h;split at h
  ·rename_i hx;cases j with
   |zero=>exact qi7 hx e (by simpa using he) hb
   |succ j=>have:=qp7 h j (by simpa using hj) e he hb;omega
  ·cases h
def qht(ops:Array Oper) (i:Nat):Prop:=∃o,ops[i]? = some o/\qc4 o.op=.acts
theorem acting_spec:∀{l:List Oper} {i j:Nat},j∈qhm i l↔∃k,∃h:k < l.length,j=i+k/\qc4 l[k].op=.acts
 |[],i,j=>by simp[qhm]
 |o::r,i,j=>by
  have tl:j∈qhm (Nat.succ i) r↔∃k,∃h:k+1 < (o::r).length,j=i+(k+1)/\qc4 ((o::r)[k+1]).op=.acts:=by
   rw[acting_spec];constructor
   ·rintro⟨k,hk,rfl,hc⟩;exact⟨k,by simpa using hk,by omega,hc⟩
   ·rintro⟨k,hk,rfl,hc⟩;exact⟨k,by simpa using hk,by omega,hc⟩
  constructor
  ·intro h;unfold qhm at h;split at h
   ·rename_i hc;rcases ja.1 h with rfl|h
    ·exact⟨0,by simp,rfl,hc⟩
    ·obtain⟨k,hk,h1,h2⟩:=tl.1 h;exact⟨k+1,hk,h1,h2⟩
   ·obtain⟨k,hk,h1,h2⟩:=tl.1 h;exact⟨k+1,hk,h1,h2⟩
  ·rintro⟨k,hk,h1,h2⟩;unfold qhm;cases k with
   |zero=>simp only[j5]at h2;simp only[h2];exact ja.2 (.inl h1)
   |succ k=>
    have:=tl.2 ⟨k,hk,h1,h2⟩;split
    ·exact jp _ this
    ·exact this
theorem zjz{l:List Oper} {i j:Nat} (h:j∈qhm i l):i<=j:=by obtain⟨k,_,rfl,_⟩:=acting_spec.1 h;omega
theorem mem_acting{ops:Array Oper} {i:Nat}:i∈qhm 0 ops.toList↔qht ops i:=by
 rw[acting_spec];constructor
 ·rintro⟨k,hk,rfl,hc⟩;have hk':k < ops.size:=by simpa using hk
  exact⟨ops[k],by simp[hk'],by simpa using hc⟩
 ·rintro⟨o,ho,hc⟩;obtain⟨hi,rfl⟩:=Array.getElem?_eq_some_iff.1 ho;exact⟨i,by simpa using hi,by simp,by simpa using hc⟩
def Fol(ops:Array Oper) (j i:Nat):Prop:=∀D,qy7 ops D->qmb ops D i->D j
theorem Fol.of_ahead{ops:Array Oper} {j i:Nat} (h:ahead (Region.before ops) j i=true):Fol ops j i:=fun _ hD hc=>qja hD hc h
theorem Fol.trans{ops:Array Oper} {j k i:Nat} (h:Fol ops j k) (g:Fol ops k i):Fol ops j i:=fun D hD hc=>h D hD (hD k (g D hD hc))
theorem qp5{ops:Array Oper}:∀{r:List Nat} {i:Nat},qkj (Region.before ops) (i::r)=true->∀j,j∈r->Fol ops i j
 |[],_,_,_,h=>by cases h
 |k::r,i,h,j,hj=>by
  unfold qkj at h;simp only at h;split at h
  ·rename_i hx;rcases ja.1 hj with rfl|hj
   ·exact .of_ahead hx
   ·exact Fol.trans (.of_ahead hx) (qp5 h j hj)
  ·cases h
theorem qxv{ops:Array Oper} {r:List Nat} {i:Nat} (h:qkj (Region.before ops) (i::r)=true):qkj (Region.before ops) r=true:=by
 unfold qkj at h;cases r with
 |nil=>rfl
 |cons k r=>
  simp only at h;split at h
  ·exact h
  ·cases h
theorem qm6{ops:Array Oper}:∀{l:List Oper} {k:Nat},qkj (Region.before ops) (qhm k l)=true->∀i j,i∈qhm k l->j∈qhm k l->i < j->Fol ops i j
 |[],_,_,i,j,hi,_,_=>by simp[qhm]at hi
 |o::r,k,h,i,j,hi,hj,hlt=>by
  unfold qhm at h hi hj;split at h
  ·rename_i hc;simp only[hc]at hi hj;rcases ja.1 hi with rfl|hi
   ·rcases ja.1 hj with rfl|hj
    ·omega
    ·exact qp5 h j hj
   ·rcases ja.1 hj with rfl|hj
    ·have:=zjz hi;omega
    ·exact qm6 (qxv h) i j hi hj hlt
  ·rename_i hc;split at hi
   next hc'=>exact absurd hc' hc
   ·split at hj
    next hc'=>exact absurd hc' hc
    ·exact qm6 h i j hi hj hlt
theorem memN_spec{n:Nat}:∀{l:List Nat},memN n l=true↔n∈l
 |[]=>by simp[memN]
 |m::r=>by
  unfold memN;split
  next h=>simp[Nat.eq_of_beq_eq_true h]
  ·rename_i h;rw[memN_spec,ja];constructor
   ·exact .inr
   ·rintro(rfl|h')
    ·simp at h
    ·exact h'
theorem qlf{bef:Array Nat} {i:Nat} {ts:List Nat}:∀{l:List Oper} {j:Nat},qg1 bef i ts j l=true->∀k (h:k < l.length) t,l[k].dst=some t->t∈ts ->
  i=j+k\/(i < j+k/\ahead bef i (j+k)=true)\/(j+k < i/\ahead bef (j+k) i=true)
 |[],_,_,k,hk,_,_,_=>absurd hk (jk k)
 |p::r,j,h,k,hk,t,hd,ht=>by
  have tl:qg1 bef i ts (Nat.succ j) r=true:=by
   unfold qg1 at h;split at h
   ·exact h
   ·split at h
    ·exact h
    ·split at h
     ·exact h
     ·cases h
  cases k with
  |succ k=>have:=qlf tl k (by simpa using hk) t hd ht;have e:Nat.succ j+k=j+(k+1):=(by omega);rw[e]at this;exact this
  |zero=>
   simp only[j5]at hd;unfold qg1 at h;simp only[hd,memN_spec.2 ht]at h;split at h
   ·rename_i hx;split at hx
    next hij=>exact .inl (Nat.eq_of_beq_eq_true hij)
    ·rename_i hij;split at hx
     next hlt=>exact .inr (.inl ⟨by simpa using hlt,hx⟩)
     ·rename_i hlt;have h1:i≠j:=fun e=>by subst e;simp at hij
      have h2 : ¬ i < j := fun e => by have : Nat.blt i j = true := by simpa using e
                                       rw[this]at hlt;cases hlt
      exact .inr (.inr ⟨by omega,hx⟩)
   ·cases h
theorem qop{bef:Array Nat} {ops:Array Oper}:∀{l:List Oper} {i:Nat},qts bef ops i l=true->∀k (h:k < l.length),qg1 bef (i+k) (l[k].dst.toList++qfd ops l[k]) 0 ops.toList=true
 |[],_,_,k,hk=>absurd hk (jk k)
 |o::r,i,h,k,hk=>by
  unfold qts at h;split at h
  ·rename_i hx;cases k with
   |zero=>exact hx
   |succ k=>have:=qop h k (by simpa using hk);have e:Nat.succ i+k=i+(k+1):=(by omega);rw[e]at this;exact this
  ·cases h
structure Drawn (ops:Array Oper):Prop where
 temps:∀i o,ops[i]? = some o->∀j p t,ops[j]? = some p->p.dst=some t->t∈o.dst.toList++qfd ops o ->
  i=j\/(i < j/\ahead (Region.before ops) i j=true)\/(j < i/\ahead (Region.before ops) j i=true)
 back:∀i o,ops[i]? = some o->∀e,e∈o.after->Region.binds .any e=true->e.on < i
 chain:∀i j,qht ops i->qht ops j->i < j->Fol ops i j
theorem qzi{ops:Array Oper} (h:qtb ops=true):Drawn ops:=by
 unfold qtb at h;split at h
 ·rename_i hc;split at h
  ·rename_i ht;refine⟨fun i o ho j p t hp hd hm=>?_,fun i o ho e he hb=>?_,fun i j hi hj hlt=>qm6 hc i j (mem_acting.2 hi) (mem_acting.2 hj) hlt⟩
   ·obtain⟨hi,rfl⟩:=Array.getElem?_eq_some_iff.1 ho;obtain⟨hj,rfl⟩:=Array.getElem?_eq_some_iff.1 hp;have h1:=qop ht i (by simpa using hi);have h2:=qlf h1 j (by simpa using hj) t (by simpa using hd) (by simpa using hm);simpa using h2
   ·obtain⟨hi,rfl⟩:=Array.getElem?_eq_some_iff.1 ho;have:=qp7 h i (by simpa using hi) e (by simpa using he) hb;omega
  ·cases h
 ·cases h
theorem Drawn.lt{ops:Array Oper} (d:Drawn ops) {j i:Nat} (h:ahead (Region.before ops) j i=true):j < i:=
 qja (D:=fun k=>k < i) (fun k hk o ho e he hb=>Nat.lt_trans (d.back k o ho e he hb) hk) (fun o ho e he hb=>d.back i o ho e he hb) h
@[simp]theorem St.wH_eq(s:St) (H:Heap):s.wH H=⟨s.ks,s.vs,s.ts,s.sz,H⟩:=rfl
@[simp]theorem St.wT_eq(s:St):s.wT=⟨s.ks,s.vs,[],s.sz,s.H⟩:=rfl
theorem St.put_spec{s s':St} {d:Option Tmp} {v:AV} (h:s.put d v=some s') :
  (∀t,s'.get t=if d=some t then some v else s.get t)/\s'.sz=s.sz/\s'.H=s.H/\∀t,d=some t->t < s.sz:=by
 cases d with
 |none=>simp only[St.put,sj]at h;subst h;exact⟨fun t=>by simp,rfl,rfl,fun t ht=>by cases ht⟩
 |some t=>
  obtain⟨h1,h2,h3,_,h5⟩:=St.set_get h;refine⟨fun u=>?_,h2,h3,fun u hu=>by cases hu;exact h1⟩;rw[h5];by_cases hu:u=t
  ·simp[hu]
  ·rw[if_neg hu,if_neg (fun e=>hu (by cases e;rfl))]
inductive How (C:Ctx) (call:qcj) (ops:Array Oper) (base i:Nat) (o:Oper) (d d':DrawSt) (v:AV):Prop
 |skip (hg:qc9 ops d.s o=some false) (hv:v=.tup []) (hc:qc4 o.op≠.acts) (hH:d'.s.H=d.s.H) (hp:d'.ps=d.ps) (hh:d'.hs=d.hs) (hr:d'.rs=d.rs)
 |skipActs (hg:qc9 ops d.s o=some false) (hv:v=.tup []) (hc:qc4 o.op=.acts) (hH:d'.s.H=d.s.H.lay (qb4 (Region.before ops) i d.ps))
   (hp:d'.ps=qb0 (Region.before ops) i d.ps) (hh:d'.hs=(i,d'.s.H)::d.hs) (hr:d'.rs=d.rs)
 |alloc (hg:qc9 ops d.s o=some true) (hc:qc4 o.op=.allocs) (k:(Nat->AV) × Blk) (hk:qdx C o d.s=some k) (hv:v=k.1 (base+i)) (hH:d'.s.H=d.s.H)
   (hp:d'.ps=⟨i,base+i,k.2⟩::d.ps) (hh:d'.hs=d.hs) (hr:d'.rs=d.rs)
 |act (hg:qc9 ops d.s o=some true) (hc:qc4 o.op=.acts) (he:qae C call o { d.s with H:=d.s.H.lay (qb4 (Region.before ops) i d.ps) }=some (v,d'.s.H))
   (hp:d'.ps=qb0 (Region.before ops) i d.ps) (hh:d'.hs=(i,d'.s.H)::d.hs) (hr:d'.rs=d.rs)
 |read (hg:qc9 ops d.s o=some true) (hc:qc4 o.op=.reads) (he:qae C call o d.s=some (v,d.s.H)) (hH:d'.s.H=d.s.H) (hp:d'.ps=d.ps) (hh:d'.hs=d.hs)
   (hr:d'.rs=⟨i,o,d.s,v⟩::d.rs)
 |pure (hg:qc9 ops d.s o=some true) (hc:qc4 o.op=.pure) (he:qae C call o d.s=some (v,d.s.H)) (hH:d'.s.H=d.s.H) (hp:d'.ps=d.ps) (hh:d'.hs=d.hs)
   (hr:d'.rs=d.rs)
theorem zcu{C:Ctx} {call:qcj} {ops:Array Oper} {base i:Nat} {o:Oper} {d d':DrawSt} (h:qib C call ops (Region.before ops) base i o d=some d') :
  ∃v,How C call ops base i o d d' v/\(∀t,d'.s.get t=if o.dst=some t then some v else d.s.get t)/\d'.s.sz=d.s.sz/\∀t,o.dst=some t->t < d.s.sz:=by
 unfold qib at h;obtain⟨g,hg,h⟩:=obs h;cases g with
 |false=>
  obtain⟨s',hs,h⟩:=obs h;obtain⟨h1,h2,h3,h4⟩:=St.put_spec hs;cases hc:qc4 o.op<;>simp only[hc,sj]at h<;>subst h
  case acts=>exact⟨_,.skipActs hg rfl hc (by simp[h3]) rfl rfl rfl,h1,h2,h4⟩
  all_goals exact⟨_,.skip hg rfl (by rw[hc];intro e;cases e) h3 rfl rfl rfl,h1,h2,h4⟩
 |true=>
  cases hc:qc4 o.op<;>simp only[hc]at h
  case allocs=>
   obtain⟨k,hk,h⟩:=obs h;obtain⟨s',hs,h⟩:=obs h;obtain⟨h1,h2,h3,h4⟩:=St.put_spec hs;simp only[sj]at h;subst h;exact⟨_,.alloc hg hc k hk rfl h3 rfl rfl rfl,h1,h2,h4⟩
  case acts=>
   obtain⟨⟨v,H'⟩,hv,h⟩:=obs h;obtain⟨s',hs,h⟩:=obs h;obtain⟨h1,h2,h3,h4⟩:=St.put_spec hs;simp only[sj]at h;subst h;refine⟨v,.act hg hc (by show qae C call o (d.s.wH _)=_;rw[hv];simp only[St.wH_eq]at h3;rw[h3]) rfl rfl rfl,h1,h2,h4⟩
  case reads=>
   obtain⟨⟨v,H'⟩,hv,h⟩:=obs h;obtain⟨s',hs,h⟩:=obs h;obtain⟨h1,h2,h3,h4⟩:=St.put_spec hs;simp only[sj]at h;subst h;have:=qj2 hc hv;subst this;exact⟨v,.read hg hc hv h3 rfl rfl rfl,h1,h2,h4⟩
  case pure=>
   obtain⟨⟨v,H'⟩,hv,h⟩:=obs h;obtain⟨s',hs,h⟩:=obs h;obtain⟨h1,h2,h3,h4⟩:=St.put_spec hs;simp only[sj]at h;subst h;have:=(qka hc hv).1;subst this;exact⟨v,.pure hg hc hv h3 rfl rfl rfl,h1,h2,h4⟩
structure Run (C:Ctx) (call:qcj) (ops:Array Oper) (base:Nat) (R:Nat->DrawSt) (V:Nat->AV):Prop where
 how:∀i o,ops[i]? = some o->How C call ops base i o (R i) (R (i+1)) (V i)
 get:∀i o,ops[i]? = some o->∀t,(R (i+1)).s.get t=if o.dst=some t then some (V i) else (R i).s.get t
 sz:∀i o,ops[i]? = some o->(R (i+1)).s.sz=(R i).s.sz
 lt:∀i o,ops[i]? = some o->∀t,o.dst=some t->t < (R i).s.sz
 ps0:(R 0).ps=[]
 hs0:(R 0).hs=[]
 same:∀x,x∈(R ops.size).rs->qcs C call (Region.before ops) x (R 0).s.H (R ops.size).hs=true
theorem qt7{C:Ctx} {call:qcj} {ops:Array Oper} {base:Nat}:∀{l:List Oper} {i:Nat} {d d':DrawSt},qnl C call ops (Region.before ops) base i l d=some d' ->
  ∃R:Nat->DrawSt,R 0=d/\R l.length=d'/\∀j (h:j < l.length),qib C call ops (Region.before ops) base (i+j) l[j] (R j)=some (R (j+1))
 |[],i,d,d',h=>by simp only[qnl,sj]at h;subst h;exact⟨fun _=>d,rfl,rfl,fun j h=>absurd h (jk j)⟩
 |o::r,i,d,d',h=>by
  obtain⟨d1,h1,h2⟩:=obs h;obtain⟨R,r0,r1,r2⟩:=qt7 h2;refine⟨fun j=>match j with | 0=>d|j+1=>R j,rfl,r1,fun j hj=>?_⟩;cases j with
  |zero=>simp only[y4,j5,jO];rw[r0];exact h1
  |succ j=>have:=r2 j (by simpa using hj);have e:Nat.succ i+j=i+(j+1):=(by omega);rw[e]at this;exact this
theorem qmp{C:Ctx} {call:qcj} {bef:Array Nat} {H0:Heap} {hs:List (Nat × Heap)}:∀{rs:List Rec},qcb C call bef H0 hs rs=true->∀x,x∈rs->qcs C call bef x H0 hs=true
 |[],_,_,h=>by cases h
 |y::r,h,x,hx=>by
  unfold qcb at h;split at h
  ·rename_i hy;rcases ja.1 hx with rfl|hx
   ·exact hy
   ·exact qmp h x hx
  ·cases h
theorem qxn{C:Ctx} {call:qcj} {ops:Array Oper} {s s':St} (h:ql5 C call ops s=some s') :
  Drawn ops/\∃R V,Run C call ops s.H.n R V/\(R 0).s=qbn (qas ops.toList s) ops.size/\s'={ (R ops.size).s with H:=(R ops.size).s.H.lay (qc8 (R ops.size).ps) }:=by
 unfold ql5 at h;split at h
 ·cases h
 ·rename_i hd;refine⟨qzi hd,?_⟩;obtain⟨d,hr,h⟩:=obs h;split at h
  ·rename_i hsame;simp only[sj]at h;obtain⟨R,r0,r1,r2⟩:=qt7 hr;have r1':R ops.size=d:=(by simpa using r1);have all:∀i,∃v,∀o,ops[i]? = some o->How C call ops s.H.n i o (R i) (R (i+1)) v/\(∀t,(R (i+1)).s.get t=if o.dst=some t then some v else (R i).s.get t) /\
     (R (i+1)).s.sz=(R i).s.sz/\∀t,o.dst=some t->t < (R i).s.sz:=fun i=>by
    rcases jR i ops.size with hi|hi
    ·have h1:=r2 i (by simpa using hi);rw[jO]at h1;obtain⟨v,h2⟩:=zcu h1;refine⟨v,fun o ho=>?_⟩;obtain⟨_,rfl⟩:=Array.getElem?_eq_some_iff.1 ho;simpa using h2
    ·exact⟨.undef,fun o ho=>by rw[Array.getElem?_eq_none hi]at ho;cases ho⟩
   refine⟨R,fun i=>(all i).choose,⟨fun i o ho=>((all i).choose_spec o ho).1,fun i o ho=>((all i).choose_spec o ho).2.1,fun i o ho=>((all i).choose_spec o ho).2.2.1,
    fun i o ho=>((all i).choose_spec o ho).2.2.2,by rw[r0],by rw[r0],?_⟩,by rw[r0],by rw[r1',<- h];rfl⟩
   rw[r1',r0];exact qmp hsame
  ·cases h
def qsf(ops:Array Oper) (j:Nat):Option Tmp:=(ops[j]?).bind (·.dst)
def Cur(ops:Array Oper) (R:Nat->DrawSt) (V:Nat->AV) (D:Nat->Prop) (t:Nat) (v:AV):Prop:=
 (∃j,D j/\qsf ops j=some t/\(∀k,D k->qsf ops k=some t->k<=j)/\V j=v)\/((∀k,D k->qsf ops k≠some t)/\(R 0).s.get t=some v)
def CurH(ops:Array Oper) (R:Nat->DrawSt) (D:Nat->Prop) (H:Heap):Prop:=
 (∃j,D j/\qht ops j/\(∀k,D k->qht ops k->k<=j)/\H=(R (j+1)).s.H)\/((∀k,D k->¬ qht ops k)/\H=(R 0).s.H)
theorem CurH.one{ops:Array Oper} {R:Nat->DrawSt} {D:Nat->Prop} {H H':Heap} (h:CurH ops R D H) (h':CurH ops R D H'):H=H':=by
 rcases h with⟨j,h1,h2,h3,h4⟩|⟨h1,h2⟩<;>rcases h' with⟨j',g1,g2,g3,g4⟩|⟨g1,g2⟩
 ·have:=h3 j' g1 g2;have:=g3 j h1 h2;have e:j=j':=by omega
  subst e;rw[h4,g4]
 ·exact absurd h2 (g1 j h1)
 ·exact absurd g2 (h1 j' g1)
 ·rw[h2,g2]
def AllocAt(C:Ctx) (ops:Array Oper) (R:Nat->DrawSt) (A:Nat) (k:Blk):Prop:=
 ∃o p,ops[A]? = some o/\qc4 o.op=.allocs/\qc9 ops (R A).s o=some true/\qdx C o (R A).s=some p/\k=p.2
theorem mem_wanted{bef:Array Nat} {i:Nat} {e:Nat × Blk}:∀{l:List Pend},e∈qb4 bef i l↔∃p,p∈l/\ahead bef p.i i=true/\e=(p.b,p.k)
 |[]=>by simp[qb4]
 |p::r=>by
  unfold qb4;split
  ·rename_i h;rw[ja,mem_wanted];constructor
   ·rintro(rfl|⟨q,hq,h1,h2⟩)
    ·exact⟨p,jA,h,rfl⟩
    ·exact⟨q,jp _ hq,h1,h2⟩
   ·rintro⟨q,hq,h1,h2⟩;rcases ja.1 hq with rfl|hq
    ·exact .inl h2
    ·exact .inr ⟨q,hq,h1,h2⟩
  ·rename_i h;rw[mem_wanted];constructor
   ·rintro⟨q,hq,h1,h2⟩;exact⟨q,jp _ hq,h1,h2⟩
   ·rintro⟨q,hq,h1,h2⟩;rcases ja.1 hq with rfl|hq
    ·rw[h]at h1;cases h1
    ·exact⟨q,hq,h1,h2⟩
theorem mem_unwanted{bef:Array Nat} {i:Nat} {p:Pend}:∀{l:List Pend},p∈qb0 bef i l↔p∈l/\ahead bef p.i i=false
 |[]=>by simp[qb0]
 |q::r=>by
  unfold qb0;split
  ·rename_i h;rw[mem_unwanted,ja];constructor
   ·rintro⟨h1,h2⟩;exact⟨.inr h1,h2⟩
   ·rintro⟨h1,h2⟩;rcases h1 with rfl|h1
    ·rw[h]at h2;cases h2
    ·exact⟨h1,h2⟩
  ·rename_i h;rw[ja,mem_unwanted,ja];constructor
   ·rintro(rfl|⟨h1,h2⟩)
    ·exact⟨.inl rfl,h⟩
    ·exact⟨.inr h1,h2⟩
   ·rintro⟨rfl|h1,h2⟩
    ·exact .inl rfl
    ·exact .inr ⟨h1,h2⟩
theorem qhu(bef:Array Nat) (i:Nat):∀(l:List Pend),(qb0 bef i l).Sublist l
 |[]=>yj _
 |q::r=>by
  unfold qb0;split
  ·exact(qhu bef i r).trans (yH _ _)
  ·exact(qhu bef i r).cons_cons _
theorem qnr(bef:Array Nat) (i:Nat):∀(l:List Pend),((qb4 bef i l).map (·.1)).Sublist (l.map (·.b))
 |[]=>yj _
 |q::r=>by
  unfold qb4;split
  ·simp only[jj];exact(qnr bef i r).cons_cons _
  ·simp only[jj];exact(qnr bef i r).trans (yH _ _)
theorem mem_allPend{e:Nat × Blk}:∀{l:List Pend},e∈qc8 l↔∃p,p∈l/\e=(p.b,p.k)
 |[]=>by simp[qc8]
 |p::r=>by
  simp only[qc8,ja,mem_allPend];constructor
  ·rintro(rfl|⟨q,hq,h⟩)
   ·exact⟨p,.inl rfl,rfl⟩
   ·exact⟨q,.inr hq,h⟩
  ·rintro⟨q,rfl|hq,h⟩
   ·exact .inl h
   ·exact .inr ⟨q,hq,h⟩
theorem qrz:∀(l:List Pend),(qc8 l).map (·.1)=l.map (·.b)
 |[]=>rfl
 |p::r=>by simp[qc8,qrz r]
section
variable {C:Ctx} {call:qcj} {ops:Array Oper} {base:Nat} {R:Nat->DrawSt} {V:Nat->AV}
theorem Run.get_at(run:Run C call ops base R V):∀i,i<=ops.size->∀t v,(R i).s.get t=some v->Cur ops R V (fun j=>j < i) t v
 |0,_,t,v,h=>.inr ⟨fun k hk=>absurd hk (jk k),h⟩
 |i+1,hi,t,v,h=>by
  have ho:ops[i]? = some ops[i]:=by simp[show i < ops.size by omega]
  have hd:qsf ops i=ops[i].dst:=by simp[qsf,ho]
  rw[run.get i _ ho]at h;split at h
  next hdt=>simp only[sj]at h;exact .inl ⟨i,jX i,by rw[hd,hdt],fun k hk _=>Nat.le_of_lt_succ hk,h⟩
  ·rename_i hdt;have hne:∀k,k < i+1->qsf ops k=some t->k < i:=fun k hk hkd=>by
    rcases jR k i with h|h
    ·exact h
    ·have:k=i:=(by omega);subst this;rw[hd]at hkd;exact absurd hkd hdt
   rcases run.get_at i (by omega) t v h with⟨j,h1,h2,h3,h4⟩|⟨h1,h2⟩
   ·exact .inl ⟨j,by omega,h2,fun k hk hkd=>h3 k (hne k hk hkd) hkd,h4⟩
   ·exact .inr ⟨fun k hk hkd=>h1 k (hne k hk hkd) hkd,h2⟩
theorem Run.sz_at(run:Run C call ops base R V):∀i,i<=ops.size->(R i).s.sz=(R 0).s.sz
 |0,_=>rfl
 |i+1,hi=>by
  have ho:ops[i]? = some ops[i]:=by simp[show i < ops.size by omega]
  rw[run.sz i _ ho,run.sz_at i (by omega)]
theorem How.quiet{i:Nat} {o:Oper} {d d':DrawSt} {v:AV} (h:How C call ops base i o d d' v) (hc:qc4 o.op≠.acts):d'.s.H=d.s.H/\d'.hs=d.hs:=by
 cases h with
 |skip _ _ _ hH _ hh=>exact⟨hH,hh⟩
 |skipActs _ _ hc'=>exact absurd hc' hc
 |alloc _ _ _ _ _ hH _ hh=>exact⟨hH,hh⟩
 |act _ hc'=>exact absurd hc' hc
 |read _ _ _ hH _ hh=>exact⟨hH,hh⟩
 |pure _ _ _ hH _ hh=>exact⟨hH,hh⟩
theorem How.loud{i:Nat} {o:Oper} {d d':DrawSt} {v:AV} (h:How C call ops base i o d d' v) (hc:qc4 o.op=.acts):d'.ps=qb0 (Region.before ops) i d.ps/\d'.hs=(i,d'.s.H)::d.hs:=by
 cases h with
 |skip _ _ hc'=>exact absurd hc hc'
 |skipActs _ _ _ _ hp hh=>exact⟨hp,hh⟩
 |act _ _ _ hp hh=>exact⟨hp,hh⟩
 |alloc _ hc'=>rw[hc]at hc';cases hc'
 |read _ hc'=>rw[hc]at hc';cases hc'
 |pure _ hc'=>rw[hc]at hc';cases hc'
theorem Run.heap_at(run:Run C call ops base R V):∀i,i<=ops.size->CurH ops R (fun j=>j < i) (R i).s.H
 |0,_=>.inr ⟨fun k hk=>absurd hk (jk k),rfl⟩
 |i+1,hi=>by
  have ho:ops[i]? = some ops[i]:=by simp[show i < ops.size by omega]
  by_cases hc:qc4 ops[i].op=.acts
  ·exact .inl ⟨i,jX i,⟨_,ho,hc⟩,fun k hk _=>Nat.le_of_lt_succ hk,rfl⟩
  ·have hne:∀k,k < i+1->qht ops k->k < i:=fun k hk hka=>by
    rcases jR k i with h|h
    ·exact h
    ·have:k=i:=(by omega);subst this;obtain⟨o,ho',hc'⟩:=hka;rw[ho]at ho';cases ho';exact absurd hc' hc
   rw[((run.how i _ ho).quiet hc).1];rcases run.heap_at i (by omega)with⟨j,h1,h2,h3,h4⟩|⟨h1,h2⟩
   ·exact .inl ⟨j,by omega,h2,fun k hk hka=>h3 k (hne k hk hka) hka,h4⟩
   ·exact .inr ⟨fun k hk hka=>h1 k (hne k hk hka) hka,h2⟩
theorem Run.ps_at(run:Run C call ops base R V):∀i,i<=ops.size->((R i).ps.map (·.b)).Nodup /\
  ∀p,p∈(R i).ps->p.i < i/\p.b=base+p.i/\AllocAt C ops R p.i p.k/\∀j,qht ops j->p.i < j->j < i->ahead (Region.before ops) p.i j=false
 |0,_=>by rw[run.ps0];exact⟨jS,fun p hp=>by cases hp⟩
 |i+1,hi=>by
  have ho:ops[i]? = some ops[i]:=by simp[show i < ops.size by omega]
  obtain⟨hn,ih⟩:=run.ps_at i (by omega);have notAct:qc4 ops[i].op≠.acts->¬ qht ops i:=fun hc ⟨o,ho',hc'⟩=>by rw[ho]at ho';cases ho';exact hc hc'
  have old:(∀p,p∈(R i).ps->¬ qht ops i\/ahead (Region.before ops) p.i i=false)->∀p,p∈(R i).ps->p.i < i+1/\p.b=base+p.i/\AllocAt C ops R p.i p.k /\
    ∀j,qht ops j->p.i < j->j < i+1->ahead (Region.before ops) p.i j=false:=fun hx p hp=>by
   obtain⟨h1,h2,h3,h4⟩:=ih p hp;refine⟨by omega,h2,h3,fun j hj hlt hj1=>?_⟩;rcases jR j i with h|h
   ·exact h4 j hj hlt h
   ·have:j=i:=(by omega);subst this;rcases hx p hp with hx|hx
    ·exact absurd hj hx
    ·exact hx
  have quiet:qc4 ops[i].op≠.acts->(R (i+1)).ps=(R i).ps->((R (i+1)).ps.map (·.b)).Nodup /\
    ∀p,p∈(R (i+1)).ps->p.i < i+1/\p.b=base+p.i/\AllocAt C ops R p.i p.k/\∀j,qht ops j->p.i < j->j < i+1->ahead (Region.before ops) p.i j=false:=fun hc hp=>by
   rw[hp];exact And.intro hn (old fun p _=>.inl (notAct hc))
  have how:=run.how i _ ho;cases how with
  |skip _ _ hc _ hp=>exact quiet hc hp
  |read _ hc _ _ hp=>exact quiet (by rw[hc];intro e;cases e) hp
  |pure _ hc _ _ hp=>exact quiet (by rw[hc];intro e;cases e) hp
  |skipActs _ _ _ _ hp=>
   rw[hp];refine⟨((qhu _ i _).map _).nodup hn,fun p hm=>?_⟩;obtain⟨h1,h2⟩:=mem_unwanted.1 hm;obtain⟨h3,h4,h5,h6⟩:=ih p h1;refine⟨by omega,h4,h5,fun j hj hlt hj1=>?_⟩;rcases jR j i with h|h
   ·exact h6 j hj hlt h
   ·have:j=i:=(by omega);subst this;exact h2
  |act _ _ _ hp=>
   rw[hp];refine⟨((qhu _ i _).map _).nodup hn,fun p hm=>?_⟩;obtain⟨h1,h2⟩:=mem_unwanted.1 hm;obtain⟨h3,h4,h5,h6⟩:=ih p h1;refine⟨by omega,h4,h5,fun j hj hlt hj1=>?_⟩;rcases jR j i with h|h
   ·exact h6 j hj hlt h
   ·have:j=i:=(by omega);subst this;exact h2
  |alloc hg hc k hk _ _ hp=>
   have hna:¬ qht ops i:=notAct (by rw[hc];intro e;cases e);rw[hp];refine⟨?_,fun p hm=>?_⟩
   ·rw[jj,jr];refine⟨fun hm=>?_,hn⟩;obtain⟨p,hpm,he⟩:=ji.1 hm;obtain⟨h1,h2,_⟩:=ih p hpm;simp only at he;omega
   ·rcases ja.1 hm with rfl|hm
    ·exact⟨jX i,rfl,⟨_,k,ho,hc,hg,hk,rfl⟩,fun j _ h1 h2=>by simp only at h1;omega⟩
    ·exact old (fun p _=>.inl hna) p hm
theorem Run.rs_at(run:Run C call ops base R V) {x:Rec} {i:Nat} (h:x∈(R i).rs):∀n,i+n<=ops.size->x∈(R (i+n)).rs
 |0,_=>h
 |n+1,hn=>by
  have ho:ops[i+n]? = some ops[i+n]:=by simp[show i+n < ops.size by omega]
  have ih:=run.rs_at h n (by omega);have how:=run.how (i+n) _ ho;have e:i+(n+1)=i+n+1:=rfl;rw[e];cases how with
  |skip _ _ _ _ _ _ hr=>rw[hr];exact ih
  |skipActs _ _ _ _ _ _ hr=>rw[hr];exact ih
  |alloc _ _ _ _ _ _ _ _ hr=>rw[hr];exact ih
  |act _ _ _ _ _ hr=>rw[hr];exact ih
  |read _ _ _ _ _ _ hr=>rw[hr];exact jp _ ih
  |pure _ _ _ _ _ _ hr=>rw[hr];exact ih
theorem Run.same_at(run:Run C call ops base R V) {D:Nat->Prop} (hD:qy7 ops D) {x:Rec} (hx:¬ D x.i) (hc:qmb ops D x.i) {H:Heap} (hH:CurH ops R D H) :
  ∀i,i<=ops.size->(∀j,D j->qht ops j->j < i)->qcs C call (Region.before ops) x (R 0).s.H (R i).hs=true->qe5 C call x H=true
 |0,_,hlt,h=>by
  rw[run.hs0]at h;rcases hH with⟨j,h1,h2,_,_⟩|⟨_,rfl⟩
  ·exact absurd (hlt j h1 h2) (jk j)
  ·exact h
 |i+1,hi,hlt,h=>by
  have ho:ops[i]? = some ops[i]:=by simp[show i < ops.size by omega]
  by_cases hca:qc4 ops[i].op=.acts
  ·rw[((run.how i _ ho).loud hca).2]at h;unfold qcs at h;have later:¬ D i->∀j,D j->qht ops j->j < i:=fun hn j hj hja=>by
    have:=hlt j hj hja;rcases jR j i with h|h
    ·exact h
    ·have e:j=i:=(by omega);subst e;exact absurd hj hn
   by_cases hDi:D i
   ·have hHi:H=(R (i+1)).s.H:=hH.one (.inl ⟨i,hDi,⟨_,ho,hca⟩,fun k hk hka=>Nat.le_of_lt_succ (hlt k hk hka),rfl⟩);split at h
    next ha=>exact absurd (qja hD (hD i hDi) ha) hx
    ·split at h
     ·cases h
     next hs=>rw[hHi];exact hs
   ·split at h
    ·exact run.same_at hD hx hc hH i (by omega) (later hDi) h
    ·split at h
     ·cases h
     ·split at h
      next ha=>exact absurd (qja hD hc ha) hDi
      ·exact run.same_at hD hx hc hH i (by omega) (later hDi) h
  ·rw[((run.how i _ ho).quiet hca).2]at h;refine run.same_at hD hx hc hH i (by omega) (fun j hj hja=>?_) h;have:=hlt j hj hja;rcases jR j i with h|h
   ·exact h
   ·have e:j=i:=(by omega);subst e;obtain⟨o,ho',hc'⟩:=hja;rw[ho]at ho';cases ho';exact absurd hc' hca
end
def only (s:St) (ts:List Nat) (H:Heap):St:={ ks:=[],vs:=[],ts:=ts.filterMap fun t=>(s.get t).map fun v=>(t,v),sz:=s.sz,H:=H }
theorem qr3{s:St} {t:Nat}:∀{ts:List Nat},look t (ts.filterMap fun t=>(s.get t).map fun v=>(t,v))=if t∈ts then s.get t else none
 |[]=>by simp[qfo,qov]
 |u::r=>by
  rw[List.filterMap_cons];cases hu:s.get u with
  |none=>
   simp only[Option.map_none];rw[qr3];by_cases htu:t=u
   ·subst htu;by_cases hr:t∈r<;>simp[hr,hu]
   ·by_cases hr:t∈r<;>simp[hr,htu]
  |some v=>
   simp only[jZ,qfo];split
   next hb=>have:u=t:=Nat.eq_of_beq_eq_true hb;subst this;simp[hu]
   next hb=>have htu:t≠u:=fun e=>(by subst e;simp at hb);rw[qr3];by_cases hr:t∈r<;>simp[hr,htu]
theorem qpm{s:St} {ts:List Nat} {H:Heap} {t:Nat}:(only s ts H).get t=if t∈ts then s.get t else none:=by simp only[St.get,only,qk2];exact qr3
theorem qxa{ops:Array Oper} {s s':St} {o:Oper} (h:∀t,t∈qfd ops o->s.get t=s'.get t):qc9 ops s o=qc9 ops s' o:=by
 unfold qc9;unfold qfd at h;cases hg:o.guard with
 |none=>rfl
 |some x=>
  obtain⟨j,want⟩:=x;simp only[hg]at h ⊢;cases hp:ops[j]? with
  |none=>rfl
  |some p=>
   simp only[hp,jb]at h ⊢;cases hd:p.dst with
   |none=>rfl
   |some t=>simp only[hd,jb]at h ⊢;rw[h t (by simp)]
theorem qth{ops:Array Oper} {o:Oper} {t:Nat} (h:Asks o.op t):t∈qfd ops o:=by unfold qfd;exact List.mem_append_left _ (List.mem_filterMap.2 ⟨.tmp t,h,rfl⟩)
theorem qn8(H:Heap) (L:List (Nat × Blk)):(H.lay L).ents=L++H.ents:=by
 cases L with
 |nil=>rfl
 |cons x r=>exact qsx _ _
theorem lay_n(H:Heap) (L:List (Nat × Blk)):(H.lay L).n=H.n:=by cases L<;>rfl
theorem qp1:∀(l:List Oper) (s:St),(qas l s).H.n=s.H.n
 |[],_=>rfl
 |o::r,s=>by
  simp only[qas];rw[qp1 r];unfold qbw;have kill:∀b,(s.H.kill b).n=s.H.n:=fun b=>by unfold Heap.kill;split<;>rfl
  repeat' split
  all_goals first|exact kill _|rfl
section
theorem qlj{ρ:Place} {w:World} {a:Act}:∀{l:List Oper} {s:St},Sim ρ s.H w->EnvR ρ s a ->
  Sim ρ (qas l s).H w/\Step ρ s.H w ρ (qas l s).H w/\EnvR ρ (qas l s) a
 |[],s,sm,e=>⟨sm,.refl _ _ _,e⟩
 |o::r,s,sm,e=>by obtain⟨h1,h2,h3⟩:=qrj sm e o;obtain⟨g1,g2,g3⟩:=qlj (l:=r) h1 h3;exact⟨g1,h2.trans g2,g3⟩
structure Hid (w0:World) (ρ:Place) (H:Heap) (w:World) (b:Nat) (k:Blk) (l:Loc):Prop where
 at_:ρ b=some l
 new:w0.heap.size<=l.cb
 in_:l.cb < w.heap.size
 blk:BlkR ρ w l k
 off:∀e,e∈H.ents->∀l',ρ e.1=some l'->l'.cb≠l.cb
 free:¬ ρ.B l.cb
theorem Sim.lay{w0 w:World} {ρ:Place} {H:Heap} (s:Sim ρ H w) {L:List (Nat × Blk)} (hn:(L.map (·.1)).Nodup)
  (hid:∀e,e∈L->∃l,Hid w0 ρ H w e.1 e.2 l)
  (hap:∀e e',e∈L->e'∈L->∀l l',ρ e.1=some l->ρ e'.1=some l'->l.cb=l'.cb->e.1=e'.1):Sim ρ (H.lay L) w where
 base:=s.base
 below:=s.below
 os:=s.os
 tape:=s.tape
 output:=s.output
 dom:=fun b hb=>s.dom b (by rw[lay_n]at hb;exact hb)
 nodup:=by rw[qn8,j3,yb];refine⟨hn,s.nodup,fun a ha b hb hab=>?_⟩;obtain⟨e,he,rfl⟩:=ji.1 ha;obtain⟨e',he',rfl⟩:=ji.1 hb;obtain⟨l,hl⟩:=hid e he;exact hl.off e' he' l (by rw[<- hab];exact hl.at_) rfl
 live:=fun e he=>by
  rw[qn8]at he;rcases jl.1 he with he|he
  ·obtain⟨l,hl⟩:=hid e he;exact⟨l,hl.at_,hl.free,hl.in_,hl.blk⟩
  ·exact s.live e he
 inj:=fun e e' he he' l l' hl hl' hc=>by
  rw[qn8]at he he';rcases jl.1 he with he|he<;>rcases jl.1 he' with he'|he'
  ·exact hap e e' he he' l l' hl hl' hc
  ·obtain⟨m,hm⟩:=hid e he;have:=hm.at_;rw[hl]at this;cases this;exact absurd hc.symm (hm.off e' he' l' hl')
  ·obtain⟨m,hm⟩:=hid e' he';have:=hm.at_;rw[hl']at this;cases this;exact absurd hc (hm.off e he l hl)
  ·exact s.inj e e' he he' l l' hl hl' hc
theorem Step.lay{w0 w:World} {ρ0 ρ:Place} {H0 H:Heap} (s:Step ρ0 H0 w0 ρ H w) {L:List (Nat × Blk)} (hid:∀e,e∈L->∃l,Hid w0 ρ H w e.1 e.2 l):Step ρ0 H0 w0 ρ (H.lay L) w where
 le:=s.le
 size:=s.size
 keeps:=s.keeps
 num:=by rw[lay_n];exact s.num
 low:=s.low
 cold:=s.cold
 rows:=fun e he l hl=>by
  rw[qn8]at he;rcases jl.1 he with he|he
  ·obtain⟨m,hm⟩:=hid e he;have:=hm.at_;rw[hl]at this;cases this;exact .inr hm.new
  ·exact s.rows e he l hl
structure Inv (C:Ctx) (ops:Array Oper) (base:Nat) (R:Nat->DrawSt) (V:Nat->AV) (ρ0:Place) (H0:Heap) (w0:World) (ds:List Deferred)
  (D:Nat->Prop) (ρ:Place) (a:Act) (w:World) (H:Heap):Prop where
 inside:∀j,D j->j < ops.size
 closed:qy7 ops D
 size:(R 0).s.sz=a.tmps.size
 slots:∀t v,Cur ops R V D t v->VR ρ v (a.tmps.getD t undef)
 heap:CurH ops R D H
 sim:Sim ρ H w
 step:Step ρ0 H0 w0 ρ H w
 num:base+ops.size<=H.n
 undone:∀A,¬ D A->A < ops.size->ρ (base+A)=none
 pend:∀A k,D A->AllocAt C ops R A k->(∀j,D j->qht ops j->ahead (Region.before ops) A j=false)->∃l,Hid w0 ρ H w (base+A) k l
 apart:∀A A' k k',D A->D A'->AllocAt C ops R A k->AllocAt C ops R A' k'->(∀j,D j->qht ops j->ahead (Region.before ops) A j=false) ->
  (∀j,D j->qht ops j->ahead (Region.before ops) A' j=false)->∀l l',ρ (base+A)=some l->ρ (base+A')=some l'->l.cb=l'.cb->A=A'
 defers:a.defers=ds
section
variable {C:Ctx} {call:qcj} {ops:Array Oper} {base:Nat} {R:Nat->DrawSt} {V:Nat->AV} {ρ0:Place} {H0:Heap} {w0:World} {ds:List Deferred}
variable {D:Nat->Prop} {ρ:Place} {a:Act} {w:World} {H:Heap} {i:Nat} {o:Oper}
theorem AllocAt.one{A:Nat} {k k':Blk} (h:AllocAt C ops R A k) (h':AllocAt C ops R A k'):k=k':=by obtain⟨o,p,h1,_,_,h4,h5⟩:=h;obtain⟨o',p',g1,_,_,g4,g5⟩:=h';rw[h1]at g1;cases g1;rw[h4]at g4;cases g4;rw[h5,g5]
theorem AllocAt.notActs{A:Nat} {k:Blk} (h:AllocAt C ops R A k):¬ qht ops A:=by obtain⟨o,p,h1,h2,_⟩:=h;rintro⟨o',g1,g2⟩;rw[h1]at g1;cases g1;rw[h2]at g2;cases g2
theorem Inv.writers(dr:Drawn ops) (inv:Inv C ops base R V ρ0 H0 w0 ds D ρ a w H) (ho:ops[i]? = some o) (hn:¬ D i) (hc:qmb ops D i) {t:Nat} (ht:t∈o.dst.toList++qfd ops o) {k:Nat}
  (hk:qsf ops k=some t):(D k->k < i)/\(k < i->D k):=by
 obtain⟨p,hp,hd⟩:=obs hk;rcases dr.temps i o ho k p t hp hd ht with h|⟨h,ha⟩|⟨h,ha⟩
 ·subst h;exact⟨fun hD=>absurd hD hn,fun h=>absurd h (yV _)⟩
 ·exact⟨fun hD=>absurd (qja inv.closed (inv.closed k hD) ha) hn,fun h'=>by omega⟩
 ·exact⟨fun _=>h,fun _=>qja inv.closed hc ha⟩
theorem Inv.asked(run:Run C call ops base R V) (dr:Drawn ops) (inv:Inv C ops base R V ρ0 H0 w0 ds D ρ a w H) (ho:ops[i]? = some o) (hn:¬ D i) (hc:qmb ops D i) {t:Nat}
  (ht:t∈o.dst.toList++qfd ops o) {v:AV} (hv:(R i).s.get t=some v):VR ρ v (a.tmps.getD t undef):=by
 have hi:=(Array.getElem?_eq_some_iff.1 ho).1;refine inv.slots t v ?_;have wr:=fun k (hk:qsf ops k=some t)=>inv.writers dr ho hn hc ht hk;rcases run.get_at i (yF hi) t v hv with⟨j,h1,h2,h3,h4⟩|⟨h1,h2⟩
 ·exact .inl ⟨j,(wr j h2).2 h1,h2,fun k hk hkd=>h3 k ((wr k hkd).1 hk) hkd,h4⟩
 ·exact .inr ⟨fun k hk hkd=>h1 k ((wr k hkd).1 hk) hkd,h2⟩
theorem Inv.env(run:Run C call ops base R V) (dr:Drawn ops) (inv:Inv C ops base R V ρ0 H0 w0 ds D ρ a w H) (ho:ops[i]? = some o) (hn:¬ D i) (hc:qmb ops D i) (H1:Heap) :
  EnvR ρ (only (R i).s (qfd ops o) H1) a:=by
 have hi:=(Array.getElem?_eq_some_iff.1 ho).1;refine⟨?_,fun t v hv=>?_⟩
 ·show (R i).s.sz=_;rw[run.sz_at i (yF hi)];exact inv.size
 ·rw[qpm]at hv;split at hv
  next ht=>exact inv.asked run dr ho hn hc (List.mem_append_right _ ht) hv
  ·cases hv
theorem Inv.actsBefore(dr:Drawn ops) (inv:Inv C ops base R V ρ0 H0 w0 ds D ρ a w H) (hn:¬ D i) (hc:qmb ops D i) (hi:qht ops i) {k:Nat} (hk:qht ops k):(D k->k < i)/\(k < i->D k):=by
 refine⟨fun hD=>?_,fun h=>dr.chain k i hk hi h D inv.closed hc⟩;rcases Nat.lt_trichotomy k i with h|h|h
 ·exact h
 ·subst h;exact absurd hD hn
 ·exact absurd (dr.chain i k hi hk h D inv.closed (inv.closed k hD)) hn
theorem Inv.heapIs(run:Run C call ops base R V) (dr:Drawn ops) (inv:Inv C ops base R V ρ0 H0 w0 ds D ρ a w H) (hn:¬ D i) (hc:qmb ops D i) (hi:qht ops i):H=(R i).s.H:=by
 have hlt:i < ops.size:=by obtain⟨o,ho,_⟩:=hi;exact(Array.getElem?_eq_some_iff.1 ho).1
 have ab:=fun k (hk:qht ops k)=>inv.actsBefore dr hn hc hi hk;refine inv.heap.one ?_;rcases run.heap_at i (yF hlt)with⟨j,h1,h2,h3,h4⟩|⟨h1,h2⟩
 ·exact .inl ⟨j,(ab j h2).2 h1,h2,fun k hk hka=>h3 k ((ab k hka).1 hk) hka,h4⟩
 ·exact .inr ⟨fun k hk hka=>h1 k ((ab k hka).1 hk) hka,h2⟩
theorem Inv.wanted(run:Run C call ops base R V) (dr:Drawn ops) (inv:Inv C ops base R V ρ0 H0 w0 ds D ρ a w H) (hn:¬ D i) (hc:qmb ops D i) (hi:qht ops i) :
  ∀e,e∈qb4 (Region.before ops) i (R i).ps->∃A,e.1=base+A/\D A/\ahead (Region.before ops) A i=true/\AllocAt C ops R A e.2/\(∀j,D j->qht ops j->ahead (Region.before ops) A j=false):=by
 intro e he;have hlt:i < ops.size:=by obtain⟨o,ho,_⟩:=hi;exact(Array.getElem?_eq_some_iff.1 ho).1
 obtain⟨p,hp,ha,rfl⟩:=mem_wanted.1 he;obtain⟨h1,h2,h3,h4⟩:=(run.ps_at i (yF hlt)).2 p hp;refine⟨p.i,h2,qja inv.closed hc ha,ha,h3,fun j hj hja=>?_⟩;have hji:=(inv.actsBefore dr hn hc hi hja).1 hj;cases hx:ahead (Region.before ops) p.i j with
 |false=>rfl
 |true=>rw[h4 j hja (dr.lt hx) hji]at hx;cases hx
def za6(D:Nat->Prop) (i:Nat):Nat->Prop:=fun j=>j=i\/D j
theorem Inv.closed1(inv:Inv C ops base R V ρ0 H0 w0 ds D ρ a w H) (hc:qmb ops D i):qy7 ops (za6 D i):=by
 rintro j (rfl|hj) o ho e he hb
 ·exact .inr (hc o ho e he hb)
 ·exact .inr (inv.closed j hj o ho e he hb)
theorem Inv.slots1(run:Run C call ops base R V) (dr:Drawn ops) (inv:Inv C ops base R V ρ0 H0 w0 ds D ρ a w H) (ho:ops[i]? = some o) (hn:¬ D i) (hc:qmb ops D i) {ρ':Place} {x:Value}
  (hle:ρ.le ρ') (hx:VR ρ' (V i) x):∀t v,Cur ops R V (za6 D i) t v->VR ρ' v ((a.put o.dst x).tmps.getD t undef):=by
 have hi:=(Array.getElem?_eq_some_iff.1 ho).1;have hd:qsf ops i=o.dst:=by simp[qsf,ho]
 intro t v hcur;by_cases hdt:o.dst=some t
 ·have hlt:t < a.tmps.size:=by rw[<- inv.size,<- run.sz_at i (yF hi)];exact run.lt i o ho t hdt
  have hval:v=V i:=by
   rcases hcur with⟨j,hj,h2,h3,h4⟩|⟨h1,_⟩
   ·have hij:=h3 i (.inl rfl) (by rw[hd,hdt]);rcases hj with rfl|hj
    ·exact h4.symm
    ·have:=(inv.writers dr ho hn hc (t:=t) (by simp[hdt]) h2).1 hj;omega
   ·exact absurd (by rw[hd,hdt]) (h1 i (.inl rfl))
  subst hval;have:(a.put o.dst x).tmps.getD t undef=x:=by simp[Act.put,hdt,jE,hlt]
  rw[this];exact hx
 ·have hsame:(a.put o.dst x).tmps.getD t undef=a.tmps.getD t undef:=by
   cases hdd:o.dst with
   |none=>rfl
   |some u=>have:u≠t:=fun e=>hdt (by rw[hdd,e]);simp[Act.put,jE,this]
  rw[hsame];refine(inv.slots t v ?_).mono hle;rcases hcur with⟨j,hj,h2,h3,h4⟩|⟨h1,h2⟩
  ·rcases hj with rfl|hj
   ·rw[hd]at h2;exact absurd h2 hdt
   ·exact .inl ⟨j,hj,h2,fun k hk hkd=>h3 k (.inr hk) hkd,h4⟩
  ·exact .inr ⟨fun k hk=>h1 k (.inr hk),h2⟩
theorem zau(a:Act) (d:Option Tmp) (x:Value):(a.put d x).tmps.size=a.tmps.size:=by cases d<;>simp[Act.put]
theorem qst(a:Act) (d:Option Tmp) (x:Value):(a.put d x).defers=a.defers:=by cases d<;>rfl
theorem Inv.turn(run:Run C call ops base R V) (dr:Drawn ops) (inv:Inv C ops base R V ρ0 H0 w0 ds D ρ a w H) (ho:ops[i]? = some o) (hn:¬ D i) (hc:qmb ops D i)
  (hna:∀k,¬ AllocAt C ops R i k) {L:List (Nat × Blk)}
  (hL:∀e,e∈L->∃A,e.1=base+A/\D A/\(qht ops i/\ahead (Region.before ops) A i=true)/\AllocAt C ops R A e.2/\(∀j,D j->qht ops j->ahead (Region.before ops) A j=false))
  {ρ':Place} {x:Value} {w':World} {H':Heap} (hx:VR ρ' (V i) x) (sm:Sim ρ' H' w') (st0:Step ρ0 H0 w0 ρ (H.lay L) w) (st:Step ρ (H.lay L) w ρ' H' w') (hcur:CurH ops R (za6 D i) H') :
  Inv C ops base R V ρ0 H0 w0 ds (za6 D i) ρ' (a.put o.dst x) w' H':=by
 have hi:=(Array.getElem?_eq_some_iff.1 ho).1;have hnum:base+ops.size<=(H.lay L).n:=by rw[lay_n];exact inv.num
 have low:∀A,A < ops.size->ρ' (base+A)=ρ (base+A):=fun A hA=>st.low _ (by omega);have was:∀A k,za6 D i A->AllocAt C ops R A k->(∀j,za6 D i j->qht ops j->ahead (Region.before ops) A j=false) ->
   D A/\(∀j,D j->qht ops j->ahead (Region.before ops) A j=false)/\∀e,e∈L->e.1≠base+A:=by
  intro A k hA hk hu;have hDA:D A:=by
   rcases hA with rfl|hA
   ·exact absurd hk (hna k)
   ·exact hA
  refine⟨hDA,fun j hj=>hu j (.inr hj),fun e he heq=>?_⟩;obtain⟨A',h1,_,⟨h3,h4⟩,_⟩:=hL e he;have:A'=A:=by omega
  subst this;rw[hu i (.inl rfl) h3]at h4;cases h4
 refine⟨?_,inv.closed1 hc,by rw[zau];exact inv.size,inv.slots1 run dr ho hn hc st.le hx,hcur,sm,st0.trans st,jK hnum st.num,?_,?_,?_,by rw[qst];exact inv.defers⟩
 ·rintro j (rfl|hj)
  ·exact hi
  ·exact inv.inside j hj
 ·intro A hA hlt;rw[low A hlt];exact inv.undone A (fun h=>hA (.inr h)) hlt
 ·intro A k hA hk hu;obtain⟨h1,h2,h3⟩:=was A k hA hk hu;obtain⟨l,hl⟩:=inv.pend A k h1 hk h2;have hAs:A < ops.size:=inv.inside A h1;have hoff:∀e,e∈(H.lay L).ents->∀l',ρ e.1=some l'->l'.cb≠l.cb:=by
   intro e he l' hl';rw[qn8]at he;rcases jl.1 he with he|he
   ·obtain⟨A',g1,g2,g3,g4,g5⟩:=hL e he;intro hcb;have:=inv.apart A' A e.2 k g2 h1 g4 hk g5 h2 l' l (by rw[<- g1];exact hl') hl.at_ hcb;exact h3 e he (by rw[g1,this])
   ·exact hl.off e he l' hl'
  have hrow:w'.heap[l.cb]? = w.heap[l.cb]?:=st.keeps l.cb hl.in_ hoff;refine⟨l,by rw[low A hAs];exact hl.at_,hl.new,jI hl.in_ st.size,(hl.blk.same hrow).mono st.le,fun e he l' hl' hcb=>?_,fun hB=>?_⟩
  ·rcases st.rows e he l' hl' with⟨e0,he0,l0,hl0,hcb0⟩|hge
   ·exact hoff e0 he0 l0 hl0 (by rw[hcb0,hcb])
   ·have:=hl.in_;omega
  ·rcases st.cold _ hB with h|⟨e0,he0,l0,hl0,hcb0⟩|hge
   ·exact hl.free h
   ·exact hoff e0 he0 l0 hl0 hcb0
   ·have:=hl.in_;omega
 ·intro A A' k k' hA hA' hk hk' hu hu' l l' hl hl' hcb;obtain⟨h1,h2,_⟩:=was A k hA hk hu;obtain⟨g1,g2,_⟩:=was A' k' hA' hk' hu';rw[low A (inv.inside A h1)]at hl;rw[low A' (inv.inside A' g1)]at hl';exact inv.apart A A' k k' h1 g1 hk hk' h2 g2 l l' hl hl' hcb
theorem Inv.heapStays(inv:Inv C ops base R V ρ0 H0 w0 ds D ρ a w H) (hna:¬ qht ops i):CurH ops R (za6 D i) H:=by
 rcases inv.heap with⟨j,h1,h2,h3,h4⟩|⟨h1,h2⟩
 ·refine .inl ⟨j,.inr h1,h2,fun k hk hka=>?_,h4⟩;rcases hk with rfl|hk
  ·exact absurd hka hna
  ·exact h3 k hk hka
 ·refine .inr ⟨fun k hk hka=>?_,h2⟩;rcases hk with rfl|hk
  ·exact hna hka
  ·exact h1 k hk hka
theorem Inv.heapTurns(dr:Drawn ops) (inv:Inv C ops base R V ρ0 H0 w0 ds D ρ a w H) (hn:¬ D i) (hc:qmb ops D i) (hi:qht ops i):CurH ops R (za6 D i) (R (i+1)).s.H:=by
 refine .inl ⟨i,.inl rfl,hi,fun k hk hka=>?_,rfl⟩;rcases hk with rfl|hk
 ·exact jc _
 ·exact yF ((inv.actsBefore dr hn hc hi hka).1 hk)
theorem Inv.allocs(run:Run C call ops base R V) (dr:Drawn ops) (hbase:H0.n=base) (inv:Inv C ops base R V ρ0 H0 w0 ds D ρ a w H) (ho:ops[i]? = some o) (hn:¬ D i) (hc:qmb ops D i)
  {k:(Nat->AV) × Blk} (hk:AllocAt C ops R i k.2) {ob:Obj} {fin:Nat} {x:Value} (hx:VR (ρ.upd (base+i) ⟨w.heap.size,0,fin⟩) (V i) x)
  (hb:BlkR (ρ.upd (base+i) ⟨w.heap.size,0,fin⟩) (w.alloc ob) ⟨w.heap.size,0,fin⟩ k.2) :
  Inv C ops base R V ρ0 H0 w0 ds (za6 D i) (ρ.upd (base+i) ⟨w.heap.size,0,fin⟩) (a.put o.dst x) (w.alloc ob) H:=by
 have hi:=(Array.getElem?_eq_some_iff.1 ho).1;have hnone:ρ (base+i)=none:=inv.undone i hn hi;have hle:ρ.le (ρ.upd (base+i) ⟨w.heap.size,0,fin⟩):=Place.le_upd hnone;have hcell:∀k,k < w.heap.size->(w.alloc ob).heap[k]? = w.heap[k]?:=fun k hk=>Below.heap_alloc w ob k hk;have hsize:(w.alloc ob).heap.size=w.heap.size+1:=by simp
 have hne:∀e,e∈H.ents->e.1≠base+i:=fun e hm hx=>by obtain⟨l,hl,_⟩:=inv.sim.live e hm;rw[hx,hnone]at hl;cases hl
 have hDi:∀A,za6 D i A->A≠i->D A:=fun A hA h=>hA.resolve_left h;have hAcur:∀A l,(ρ.upd (base+i) ⟨w.heap.size,0,fin⟩) (base+A)=some l->A=i/\l=⟨w.heap.size,0,fin⟩\/A≠i/\ρ (base+A)=some l:=fun A l h=>by
  by_cases hA:A=i
  ·subst hA;rw[Place.upd_same]at h;cases h;exact .inl ⟨rfl,rfl⟩
  ·rw[Place.upd_other (by omega)]at h;exact .inr ⟨hA,h⟩
 refine⟨?_,inv.closed1 hc,by rw[zau];exact inv.size,inv.slots1 run dr ho hn hc hle hx,inv.heapStays hk.notActs,?_,?_,inv.num,?_,?_,?_,by rw[qst];exact inv.defers⟩
 ·rintro j (rfl|hj)
  ·exact hi
  ·exact inv.inside j hj
 ·refine⟨fun k hk=>by rw[hsize];exact Nat.lt_succ_of_lt (inv.sim.base k hk),fun k hk=>?_,inv.sim.os,inv.sim.tape,inv.sim.output,fun b hb=>?_,inv.sim.nodup,fun e he=>?_,fun e e' he he' l l' hl hl' hcb=>?_⟩
  ·rw[hcell k (inv.sim.base k hk)];exact inv.sim.below k hk
  ·have:=inv.num;rw[Place.upd_other (by omega)];exact inv.sim.dom b hb
  ·obtain⟨l,h1,h2,h3,h4⟩:=inv.sim.live e he;exact⟨l,hle _ _ h1,h2,by omega,(h4.same (hcell _ h3)).mono hle⟩
  ·rw[Place.upd_other (hne e he)]at hl;rw[Place.upd_other (hne e' he')]at hl';exact inv.sim.inj e e' he he' l l' hl hl' hcb
 ·have st:=inv.step;refine⟨Place.le_trans st.le hle,by have:=st.size;omega,fun k hk hnk=>?_,fun e he l hl=>?_,st.num,fun b hb=>?_,st.cold⟩
  ·rw[hcell k (jI hk st.size)];exact st.keeps k hk hnk
  ·rw[Place.upd_other (hne e he)]at hl;exact st.rows e he l hl
  ·rw[Place.upd_other (by omega)];exact st.low b hb
 ·intro A hA hlt;have hAi:A≠i:=fun e=>hA (.inl e);rw[Place.upd_other (by omega)];exact inv.undone A (fun h=>hA (.inr h)) hlt
 ·intro A k' hA hk' hu;by_cases hAi:A=i
  ·subst hAi;have:=hk.one hk';subst this;refine⟨_,Place.upd_same,inv.step.size,by simp,hb,fun e he l' hl'=>?_,fun hB=>absurd (inv.sim.base _ hB) (yV _)⟩;rw[Place.upd_other (hne e he)]at hl';obtain⟨m,h1,_,h3,_⟩:=inv.sim.live e he;rw[hl']at h1;cases h1;show l'.cb≠w.heap.size;omega
  ·obtain⟨l,hl⟩:=inv.pend A k' (hDi A hA hAi) hk' fun j hj=>hu j (.inr hj);refine⟨l,hle _ _ hl.at_,hl.new,by have:=hl.in_;omega,(hl.blk.same (hcell _ hl.in_)).mono hle,fun e he l' hl'=>?_,hl.free⟩;rw[Place.upd_other (hne e he)]at hl';exact hl.off e he l' hl'
 ·intro A A' k1 k2 hA hA' h1 h2 hu hu' l l' hl hl' hcb;rcases hAcur A l hl with⟨rfl,rfl⟩|⟨hAi,hl2⟩<;>rcases hAcur A' l' hl' with⟨rfl,rfl⟩|⟨hAi',hl2'⟩
  ·rfl
  ·obtain⟨m,hm⟩:=inv.pend A' k2 (hDi A' hA' hAi') h2 fun j hj=>hu' j (.inr hj);have:=hm.at_;rw[hl2']at this;cases this;have:=hm.in_;simp only at hcb;omega
  ·obtain⟨m,hm⟩:=inv.pend A k1 (hDi A hA hAi) h1 fun j hj=>hu j (.inr hj);have:=hm.at_;rw[hl2]at this;cases this;have:=hm.in_;simp only at hcb;omega
  ·exact inv.apart A A' k1 k2 (hDi A hA hAi) (hDi A' hA' hAi') h1 h2 (fun j hj=>hu j (.inr hj)) (fun j hj=>hu' j (.inr hj)) l l' hl2 hl2' hcb
end
end
section
variable {C:Ctx} {call:qcj} {ops:Array Oper} {base:Nat} {R:Nat->DrawSt} {V:Nat->AV} {ρ0:Place} {H0:Heap} {w0:World} {ds:List Deferred}
variable {D:Nat->Prop} {ρ:Place} {a:Act} {w:World} {H:Heap} {i:Nat} {o:Oper}
theorem Inv.ready(hC:CallOK C call) (run:Run C call ops base R V) (dr:Drawn ops) (hbase:H0.n=base)
  (inv:Inv C ops base R V ρ0 H0 w0 ds D ρ a w H) (ho:ops[i]? = some o) (hn:¬ D i) (hc:qmb ops D i) {r:Option Nat} {K:Act->World->Prop} {Q:Exit->Act->World->Prop}
  (hK:∀ρ' a' w' H',Inv C ops base R V ρ0 H0 w0 ds (za6 D i) ρ' a' w' H'->K a' w'):wpOpIn (fen r) 0 C.P ops Q i K a w:=by
 have hi:=(Array.getElem?_eq_some_iff.1 ho).1;have hguard:∀H1,qc9 ops (only (R i).s (qfd ops o) H1) o=qc9 ops (R i).s o:=fun H1=>qxa fun t ht=>by rw[qpm,if_pos ht]
 have hval:∀H1,qae C call o (only (R i).s (qfd ops o) H1)=qae C call o { (R i).s with H:=H1 }:=fun H1=>
  qux rfl fun t ht=>by rw[qpm,if_pos (qth ht)];rfl
 have tup:∀ρ',VR ρ' (.tup []) undef:=fun ρ'=>.tup [] #[] rfl (fun i h=>absurd h (jk i));have laid:qht ops i->Sim ρ (H.lay (qb4 (Region.before ops) i (R i).ps)) w/\Step ρ0 H0 w0 ρ (H.lay (qb4 (Region.before ops) i (R i).ps)) w:=fun hact=>by
  have hw:=inv.wanted run dr hn hc hact;have hid:∀e,e∈qb4 (Region.before ops) i (R i).ps->∃l,Hid w0 ρ H w e.1 e.2 l:=fun e he=>by obtain⟨A,h1,h2,_,h4,h5⟩:=hw e he;rw[h1];exact inv.pend A e.2 h2 h4 h5
  refine⟨inv.sim.lay ((qnr _ i _).nodup (run.ps_at i (yF hi)).1) hid fun e e' he he' l l' hl hl' hcb=>?_,inv.step.lay hid⟩;obtain⟨A,h1,h2,_,h4,h5⟩:=hw e he;obtain⟨A',g1,g2,_,g4,g5⟩:=hw e' he';rw[h1]at hl;rw[g1]at hl';rw[h1,g1,inv.apart A A' e.2 e'.2 h2 g2 h4 g4 h5 g5 l l' hl hl' hcb]
 have wants:qht ops i->∀e,e∈qb4 (Region.before ops) i (R i).ps->∃A,e.1=base+A/\D A/\(qht ops i/\ahead (Region.before ops) A i=true)/\AllocAt C ops R A e.2/\(∀j,D j->qht ops j->ahead (Region.before ops) A j=false):=
  fun hact e he=>let ⟨A,h1,h2,h3,h4,h5⟩:=inv.wanted run dr hn hc hact e he;⟨A,h1,h2,⟨hact,h3⟩,h4,h5⟩
 have env:=fun H1=>inv.env run dr ho hn hc H1;unfold wpOpIn;simp only[ho];have go:∀(L:List (Nat × Blk)) (H':Heap),qc9 ops (R i).s o=some true->(∀k,¬ AllocAt C ops R i k) ->
   (∀e,e∈L->∃A,e.1=base+A/\D A/\(qht ops i/\ahead (Region.before ops) A i=true)/\AllocAt C ops R A e.2/\(∀j,D j->qht ops j->ahead (Region.before ops) A j=false)) ->
   Sim ρ (H.lay L) w->Step ρ0 H0 w0 ρ (H.lay L) w->qae C call o { (R i).s with H:=H.lay L }=some (V i,H')->CurH ops R (za6 D i) H' ->
   (if Region.wanted o (yielded ops a.tmps)=true then o.wpIn (fen r) 0 C.P a w K Q else (∀f,o.about C.P w a.eval=some f->(fen r).fn f)/\K (a.put o.dst undef) w):=by
  intro L H' hg hna hL sm st he hcur;rw[qnd (env H) ((hguard H).trans hg)];simp only[if_true];refine zge hC ((hval (H.lay L)).trans he) sm (env _) fun x ρ' w' h1 h2 h3=>hK ρ' _ w' H' ?_;exact inv.turn run dr ho hn hc hna hL h1 h2 st h3 hcur
 have skip:∀(L:List (Nat × Blk)),qc9 ops (R i).s o=some false->V i=.tup [] ->
   (∀e,e∈L->∃A,e.1=base+A/\D A/\(qht ops i/\ahead (Region.before ops) A i=true)/\AllocAt C ops R A e.2/\(∀j,D j->qht ops j->ahead (Region.before ops) A j=false)) ->
   Sim ρ (H.lay L) w->Step ρ0 H0 w0 ρ (H.lay L) w->CurH ops R (za6 D i) (H.lay L) ->
   (if Region.wanted o (yielded ops a.tmps)=true then o.wpIn (fen r) 0 C.P a w K Q else (∀f,o.about C.P w a.eval=some f->(fen r).fn f)/\K (a.put o.dst undef) w):=by
  intro L hg hv hL sm st hcur;rw[qnd (env H) ((hguard H).trans hg)];simp only[jC,if_false];refine⟨fun f _=>zc5 r f,hK ρ _ w (H.lay L) (inv.turn run dr ho hn hc (fun k hk=>?_) hL (by rw[hv];exact tup ρ) sm st (.refl _ _ _) hcur)⟩;obtain⟨o',p,g1,_,g3,_⟩:=hk;rw[ho]at g1;cases g1;rw[hg]at g3;cases g3
 have nil:∀e,e∈([]:List (Nat × Blk))->∃A,e.1=base+A/\D A/\(qht ops i/\ahead (Region.before ops) A i=true)/\AllocAt C ops R A e.2/\(∀j,D j->qht ops j->ahead (Region.before ops) A j=false):=fun e he=>by cases he
 have notAct:qc4 o.op≠.acts->¬ qht ops i:=fun h ⟨o',g1,g2⟩=>by rw[ho]at g1;cases g1;exact h g2
 have notAlloc:qc4 o.op≠.allocs->∀k,¬ AllocAt C ops R i k:=fun h k ⟨o',p,g1,g2,_⟩=>by rw[ho]at g1;cases g1;exact h g2
 cases run.how i o ho with
 |skip hg hv hcl hH hp hh hr=>exact skip [] hg hv nil inv.sim inv.step (inv.heapStays (notAct hcl))
 |skipActs hg hv hcl hH hp hh hr=>have hact:qht ops i:=⟨o,ho,hcl⟩;refine skip _ hg hv (wants hact) (laid hact).1 (laid hact).2 ?_;have h1:=inv.heapIs run dr hn hc hact;rw[h1,<- hH];exact inv.heapTurns dr hn hc hact
 |alloc hg hcl k hk hv hH hp hh hr=>
  have hAt:AllocAt C ops R i k.2:=⟨o,k,ho,hcl,hg,hk,rfl⟩;rw[qnd (env H) ((hguard H).trans hg)];simp only[if_true];have hk':qdx C o (only (R i).s (qfd ops o) H)=some k:=(qqy fun t ht=>by rw[qpm,if_pos (qth ht)]).trans hk;obtain⟨ob,fin,x,h1,h2⟩:=qwn (C:=C) (s:=only (R i).s (qfd ops o) H) inv.sim (env H) hk';obtain⟨h3,h4⟩:=h2 (base+i) (inv.undone i hn hi);have hsome:∃q,qae C call o (only (R i).s (qfd ops o) H)=some q:=by unfold qae;cases hop:o.op<;>simp[qc4,hop]at hcl<;>simp only[hk',jb];all_goals first|exact⟨_,rfl⟩|(split at hcl<;>(try simp at hcl)<;>split at hcl<;>simp at hcl)
  obtain⟨q,hq⟩:=hsome;refine⟨fun f _=>zc5 r f,?_⟩;rw[qsr hq,h1];exact hK _ _ _ H (inv.allocs run dr hbase ho hn hc hAt (by rw[hv];exact h3) h4)
 |act hg hcl he hp hh hr=>have hact:qht ops i:=⟨o,ho,hcl⟩;have h1:=inv.heapIs run dr hn hc hact;refine go _ (R (i+1)).s.H hg (notAlloc (by rw[hcl];intro e;cases e)) (wants hact) (laid hact).1 (laid hact).2 ?_ (inv.heapTurns dr hn hc hact);rw[h1];exact he
 |read hg hcl he hH hp hh hr=>
  have hna:=notAct (by rw[hcl];intro e;cases e);refine go [] H hg (notAlloc (by rw[hcl];intro e;cases e)) nil inv.sim inv.step ?_ (inv.heapStays hna);have hrec:({ i:=i,o:=o,s:=(R i).s,v:=V i }:Rec)∈(R ops.size).rs:=by have:=run.rs_at (x:={ i:=i,o:=o,s:=(R i).s,v:=V i }) (i:=i+1) (by rw[hr];exact jA) (ops.size - (i+1)) (by omega);have e:i+1+(ops.size - (i+1))=ops.size:=(by omega);rw[e]at this;exact this
  have hs:=run.same_at inv.closed (x:={ i:=i,o:=o,s:=(R i).s,v:=V i }) hn hc inv.heap ops.size (jc _) (fun j hj _=>inv.inside j hj) (run.same _ hrec);unfold qe5 at hs;simp only at hs;show qae C call o { (R i).s with H:=H }=_;cases hy:qae C call o { (R i).s with H:=H } with
  |none=>rw[hy]at hs;cases hs
  |some y=>rw[hy]at hs;obtain⟨v,H1⟩:=y;simp only[decide_eq_true_eq]at hs;subst hs;have:=qj2 hcl hy;simp only at this;rw[this]
 |pure hg hcl he hH hp hh hr=>have hna:=notAct (by rw[hcl];intro e;cases e);exact go [] H hg (notAlloc (by rw[hcl];intro e;cases e)) nil inv.sim inv.step ((qka hcl he).2 H) (inv.heapStays hna)
theorem count_set{l:Array Bool} {i:Nat} (hi:i < l.size) (h:l.getD i true=false):(l.setIfInBounds i true).toList.count false+1=l.toList.count false:=by
 have hl:l[i]=false:=by simpa[Array.getD,hi]using h
 have h1:i < l.toList.length:=by simpa using hi
 rw[Array.toList_setIfInBounds,List.count_set h1];have h2:l.toList[i]=false:=by simpa using hl
 have hlen:l.toList.length=l.size:=by simp
 have hpos:0 < l.toList.count false:=List.count_pos_iff.2 (by rw[<- h2];exact jy h1);have e1:(l.toList[i] == false)=true:=by rw[h2];rfl
 rw[if_pos e1];simp only[Bool.true_eq_false,beq_iff_eq,if_false];omega
theorem draw_any(hC:CallOK C call) (run:Run C call ops base R V) (dr:Drawn ops) (hbase:H0.n=base) {r:Option Nat} {Q:Exit->Act->World->Prop}
  (hk:∀ρ' a' w' H' D,(∀j,j < ops.size->D j)->Inv C ops base R V ρ0 H0 w0 ds D ρ' a' w' H'->Q .normal a' w') :
  ∀(fuel:Nat) (listed:Array Bool) (ρ:Place) (a:Act) (w:World) (H:Heap),listed.size=ops.size->listed.toList.count false<=fuel ->
   Inv C ops base R V ρ0 H0 w0 ds (fun j=>listed.getD j false=true) ρ a w H->wpAnyIn (fen r) 0 C.P .any ops Q fuel listed a w:=by
 have fin:∀(listed:Array Bool) ρ a w H,listed.size=ops.size->Region.ready .any ops listed=[]->Inv C ops base R V ρ0 H0 w0 ds (fun j=>listed.getD j false=true) ρ a w H->Q .normal a w:=by
  intro listed ρ a w H hs hr inv;refine hk ρ a w H _ (fun j hj=>?_) inv;induction j using Nat.strongRecOn with
  |_ j ih=>
   cases hl:listed.getD j false with
   |true=>rfl
   |false=>have hjs:j < listed.size:=(by omega);have hmem:j∈Region.ready .any ops listed:=mem_ready.2 ⟨by simpa[Array.getD,hjs]using hl,ops[j],by simp[hj],fun e he hb=>by have hlt:=dr.back j ops[j] (by simp[hj]) e he hb;exact ih e.on hlt (by omega)⟩;rw[hr]at hmem;cases hmem
 intro fuel;induction fuel with
 |zero=>
  intro listed ρ a w H hs hcnt inv;have hr:Region.ready .any ops listed=[]:=by rw[List.eq_nil_iff_forall_not_mem];intro j hj;obtain⟨h1,o,ho,_⟩:=mem_ready.1 hj;have hjs:j < listed.size:=(by rw[hs];exact(Array.getElem?_eq_some_iff.1 ho).1);have hl:listed.toList[j]'(by simpa using hjs)=false:=(by simpa[Array.getD,hjs]using h1);have:0 < listed.toList.count false:=List.count_pos_iff.2 (by rw[<- hl];exact jy _);omega
  exact⟨hr,fin listed ρ a w H hs hr inv⟩
 |succ fuel ih=>
  intro listed ρ a w H hs hcnt inv;refine⟨fun hr=>fin listed ρ a w H hs hr inv,fun i hi=>?_⟩;obtain⟨h1,o,ho,h3⟩:=mem_ready.1 hi;have hio:i < ops.size:=(Array.getElem?_eq_some_iff.1 ho).1;have his:i < listed.size:=by rw[hs];exact hio
  have hn:¬ listed.getD i false=true:=by have:listed[i]=false:=(by simpa[Array.getD,his]using h1);simp[Array.getD,his,this]
  refine inv.ready hC run dr hbase ho hn (fun o' ho' e he hb=>by rw[ho]at ho';cases ho';exact h3 e he hb) fun ρ' a' w' H' inv'=>?_;refine ih (listed.setIfInBounds i true) ρ' a' w' H' (by simp[hs]) (by have:=count_set his h1;omega) ?_;have:(fun j=>(listed.setIfInBounds i true).getD j false=true)=za6 (fun j=>listed.getD j false=true) i:=by
   funext j;apply propext;unfold za6;simp only[jE,Array.getElem?_setIfInBounds];by_cases hj:i=j
   ·subst hj;simp[his]
   ·rw[if_neg hj];constructor
    ·exact .inr
    ·rintro(h|h)
     ·exact absurd h.symm hj
     ·exact h
  rw[this];exact inv'
theorem zio(hC:CallOK C call) {id:Nat} {s s':St} {r:Option Nat} {Q:Exit->Act->World->Prop} (hm:C.P.follows .mixedOrders=true)
  (h:ql5 C call ops s=some s') (sm:Sim ρ s.H w) (e:EnvR ρ s a)
  (hk:∀a' w' ρ',Sim ρ' s'.H w'->Step ρ s.H w ρ' s'.H w'->EnvR ρ' s' a'->a'.defers=a.defers->Q .normal a' w'):(Code.region id ops true).wpIn (fen r) 0 C.P Q a w:=by
 obtain⟨dr,R,V,run,h0,h1⟩:=qxn h;refine wpIn_region_any hm ?_;obtain⟨g1,g2,g3⟩:=qlj (l:=ops.toList) sm e;have hn0:(qas ops.toList s).H.n=s.H.n:=qp1 _ _;have hR0:(R 0).s.H=⟨s.H.n+ops.size,(qas ops.toList s).H.fs⟩:=by rw[h0];simp[qbn,hn0]
 have sm0:Sim ρ (R 0).s.H w:=by rw[hR0];exact g1.of_sub (fun _ h=>h) (by rw[hn0];exact Nat.le_add_right _ _) g1.nodup
 have st0:Step ρ s.H w ρ (R 0).s.H w:=by rw[hR0];exact g2.trans (.of_sub (fun _ h=>h) (by rw[hn0];exact Nat.le_add_right _ _))
 have e0:EnvR ρ (R 0).s a:=by rw[h0];exact⟨g3.size,g3.val⟩
 have nobody:∀j,¬ (Array.replicate ops.size false).getD j false=true:=fun j=>by rw[jE,Array.getElem?_replicate];split<;>simp
 have hw:({ w with drawn:=w.drawn+1 }:World)=w.drew:=rfl;have inv:Inv C ops s.H.n R V ρ s.H w a.defers (fun j=>(Array.replicate ops.size false).getD j false=true) ρ a w.drew (R 0).s.H:=
  ⟨fun j hj=>absurd hj (nobody j),fun j hj=>absurd hj (nobody j),e0.size,fun t v hc=>by
   rcases hc with⟨j,hj,_⟩|⟨_,hv⟩
   ·exact absurd hj (nobody j)
   ·exact e0.val t v hv,
   .inr ⟨fun k hk=>absurd hk (nobody k),rfl⟩,sm0.drew,st0.trans (Step.drew _ _ _),by rw[hR0];exact jc _,fun A _ _=>sm.dom _ (Nat.le_add_right _ _),fun A k hA=>absurd hA (nobody A),
   fun A A' k k' hA=>absurd hA (nobody A),rfl⟩
 rw[hw];refine draw_any hC run dr rfl (fun ρ' a' w' H' D hD inv=>?_) ops.size _ ρ a w.drew _ (by simp) (by simp) inv;have hall:∀j,D j↔j < ops.size:=fun j=>⟨inv.inside j,hD j⟩;have hDeq:D=fun j=>j < ops.size:=funext fun j=>propext (hall j);subst hDeq;have hH:H'=(R ops.size).s.H:=inv.heap.one (run.heap_at ops.size (jc _));obtain⟨hnd,hps⟩:=run.ps_at ops.size (jc _);have hun:∀p,p∈(R ops.size).ps->∀j,j < ops.size->qht ops j->ahead (Region.before ops) p.i j=false:=fun p hp j hj hja=>by
  cases hx:ahead (Region.before ops) p.i j with
  |false=>rfl
  |true=>rw[(hps p hp).2.2.2 j hja (dr.lt hx) hj]at hx;cases hx
 have hid:∀x,x∈qc8 (R ops.size).ps->∃l,Hid w ρ' H' w' x.1 x.2 l:=fun x hx=>by obtain⟨p,hp,rfl⟩:=mem_allPend.1 hx;obtain⟨q1,q2,q3,_⟩:=hps p hp;simp only;rw[q2];exact inv.pend p.i p.k q1 q3 (hun p hp)
 have smE:=inv.sim.lay (L:=qc8 (R ops.size).ps) (by rw[qrz];exact hnd) hid fun x x' hx hx' l l' hl hl' hcb=>by obtain⟨p,hp,rfl⟩:=mem_allPend.1 hx;obtain⟨p',hp',rfl⟩:=mem_allPend.1 hx';obtain⟨q1,q2,q3,_⟩:=hps p hp;obtain⟨q1',q2',q3',_⟩:=hps p' hp';simp only at hl hl' ⊢;rw[q2]at hl ⊢;rw[q2']at hl' ⊢;rw[inv.apart p.i p'.i p.k p'.k q1 q1' q3 q3' (hun p hp) (hun p' hp') l l' hl hl' hcb]
 have stE:=inv.step.lay hid;rw[hH]at smE stE;subst h1;refine hk a' w' ρ' smE stE ⟨?_,fun t v hv=>?_⟩ inv.defers
 ·show (R ops.size).s.sz=_;rw[run.sz_at ops.size (jc _)];exact inv.size
 ·exact inv.slots t v (run.get_at ops.size (jc _) t v hv)
def Out.exit_:Out->Exit
 |.normal=>.normal
 |.exit id=>.exit id
 |.goto l=>.goto l
 |.ret=>.ret
section
variable {F:Fence} {n:Nat} {P:Program} {Q:Exit->Act->World->Prop} {a:Act} {w:World}
def LoopGoes(F:Fence) (n:Nat) (P:Program) (c:Code) (Q:Exit->Act->World->Prop) (a:Act) (w:World):Prop:=
 ∀(b:Frame) (k:List Item) (cs:List Frame),b.roundOf=F.round->F.fn b.fn->F.room (cs.length+1+n) ->
  ∃e a' w',Q e a' w'/\ArrivesIn (Machine.fenced P F) P (lone (b.atR a (.code c::.inLoop c::k)) cs w) b k cs e a' w'
theorem LoopGoes.wp{c:Code} (h:LoopGoes F n P c Q a w):(Code.loop c).wpIn F n P Q a w:=by intro b k cs hro hb hr;obtain⟨e,a',w',hq,harr⟩:=h b k cs hro hb hr;exact⟨e,a',w',hq,.of_steps (.one (fenced_calm hb hr rfl) stepR_loop) harr⟩
theorem LoopGoes.round{c:Code} (h:c.wpIn F n P (Exit.then (LoopGoes F n P c Q) Q) a w):LoopGoes F n P c Q a w:=by
 intro b k cs hro hb hr;obtain⟨e,a₁,w₁,hq,harr⟩:=h b (.inLoop c::k) cs hro hb hr;cases e with
 |normal=>obtain⟨e₂,a₂,w₂,hq₂,harr₂⟩:=hq b k cs hro hb hr;exact⟨e₂,a₂,w₂,hq₂,.of_steps (StepsIn.trans harr (.one (fenced_calm hb hr rfl) stepR_inLoop)) harr₂⟩
 |exit id=>exact⟨_,a₁,w₁,hq,.pass (x:=.inLoop c) rfl (fun _ _=>.inl (by simp)) harr⟩
 |goto l=>exact⟨_,a₁,w₁,hq,.pass (x:=.inLoop c) rfl (fun _ _=>.inl (by simp)) harr⟩
 |ret=>exact⟨_,a₁,w₁,hq,.pass (x:=.inLoop c) rfl (fun _ _=>.inl (by simp)) harr⟩
 |panic ch=>exact⟨_,a₁,w₁,hq,.pass (x:=.inLoop c) rfl (fun _ _=>.inl (by simp)) harr⟩
 |outgrown=>exact⟨_,a₁,w₁,hq,.pass (x:=.inLoop c) rfl (fun _ _=>.inl (by simp)) harr⟩
theorem qyd{b:Frame} {k:List Item} {cs:List Frame} {c:Code}:step P (lone (b.atR a (.code (.scope c)::k)) cs w)=.next (lone (b.atR a (.code c::.inScope c::k)) cs w):=
 step_lone_go (by simp[stepG,stepG.exec,Frame.atR])
theorem qtt{b:Frame} {k:List Item} {cs:List Frame} {c:Code}:step P (lone (b.atR a (.inScope c::k)) cs w)=.next (lone (b.atR a k) cs w):=
 step_lone_go (by simp[stepG,stepG.exec,Frame.atR])
def ScopeGoes(F:Fence) (n:Nat) (P:Program) (body:Code) (Q:Exit->Act->World->Prop) (c:Code) (a:Act) (w:World):Prop:=
 ∀(b:Frame) (k:List Item) (cs:List Frame),b.roundOf=F.round->F.fn b.fn->F.room (cs.length+1+n) ->
  ∃e a' w',Q e a' w'/\ArrivesIn (Machine.fenced P F) P (lone (b.atR a (.code c::.inScope body::k)) cs w) b k cs e a' w'
def Exit.inScope(F:Fence) (n:Nat) (P:Program) (body:Code) (Q:Exit->Act->World->Prop):Exit->Act->World->Prop
 |.goto l,a,w=>match findLabel body l with
  |some rest=>ScopeGoes F n P body Q rest a w
  |none=>Q (.goto l) a w
 |e,a,w=>Q e a w
theorem ScopeGoes.wp{c:Code} (h:ScopeGoes F n P c Q c a w):(Code.scope c).wpIn F n P Q a w:=by intro b k cs hro hb hr;obtain⟨e,a',w',hq,harr⟩:=h b k cs hro hb hr;exact⟨e,a',w',hq,.of_steps (.one (fenced_calm hb hr rfl) qyd) harr⟩
theorem ScopeGoes.pass{body c:Code} (h:c.wpIn F n P (Exit.inScope F n P body Q) a w):ScopeGoes F n P body Q c a w:=by
 intro b k cs hro hb hr;obtain⟨e,a₁,w₁,hq,harr⟩:=h b (.inScope body::k) cs hro hb hr;cases e with
 |normal=>exact⟨.normal,a₁,w₁,hq,StepsIn.trans harr (.one (fenced_calm hb hr rfl) qtt)⟩
 |exit id=>
  have hx:exitTo id (.inScope body::k)=exitTo id k:=by simp[exitTo]
  exact⟨.exit id,a₁,w₁,hq,fun k' hk=>harr.1 k' (by rw[hx];exact hk),fun hr' hk=>let ⟨k₁,h1,h2⟩:=harr.2 hr' (by rw[hx];exact hk);⟨k₁,h1,h2⟩⟩
 |goto l=>
  cases hf:findLabel body l with
  |some rest=>simp only[Exit.inScope,hf]at hq;have hg:gotoIn l (.inScope body::k)=some (.code rest::.inScope body::k):=(by simp[gotoIn,hf]);obtain⟨e₂,a₂,w₂,hq₂,harr₂⟩:=hq b k cs hro hb hr;exact⟨e₂,a₂,w₂,hq₂,.of_steps (harr.1 _ hg) harr₂⟩
  |none=>simp only[Exit.inScope,hf]at hq;have hg:gotoIn l (.inScope body::k)=gotoIn l k:=(by simp[gotoIn,hf]);exact⟨.goto l,a₁,w₁,hq,fun k' hk=>harr.1 k' (by rw[hg];exact hk),fun hr' hk=>let ⟨k₁,h1,h2⟩:=harr.2 hr' (by rw[hg];exact hk);⟨k₁,h1,h2⟩⟩
 |ret=>exact⟨_,a₁,w₁,hq,harr⟩
 |panic ch=>exact⟨_,a₁,w₁,hq,harr⟩
 |outgrown=>exact⟨_,a₁,w₁,hq,harr⟩
end
section
structure Mk (n0:Nat) (ρ:Place) (H:Heap) (w:World) (r:Nat):Prop where
 ge:n0<=r
 obj:w.heap[r]? = some (.deferred (some []))
 cold:¬ ρ.B r
 apart:∀e,e∈H.ents->∀l,ρ e.1=some l->l.cb≠r
theorem Mk.lt{n0:Nat} {ρ:Place} {H:Heap} {w:World} {r:Nat} (m:Mk n0 ρ H w r):r < w.heap.size:=(Array.getElem?_eq_some_iff.1 m.obj).1
theorem Mk.step{n0:Nat} {ρ ρ':Place} {H H':Heap} {w w':World} {r:Nat} (m:Mk n0 ρ H w r) (t:Step ρ H w ρ' H' w'):Mk n0 ρ' H' w' r where
 ge:=m.ge
 obj:=by rw[t.keeps r m.lt (fun e he l hl=>m.apart e he l hl)];exact m.obj
 cold:=fun hr=>by
  rcases t.cold r hr with h|⟨e,he,l,hl,hlr⟩|h
  ·exact m.cold h
  ·exact m.apart e he l hl hlr
  ·have:=m.lt;omega
 apart:=fun e he l hl=>by
  rcases t.rows e he l hl with⟨e0,he0,l0,hl0,hcb⟩|hge
  ·rw[<- hcb];exact m.apart e0 he0 l0 hl0
  ·have:=m.lt;omega
def mkD(r:Nat):Deferred:={ target:=.collected r,args:=#[] }
def Dfr(n0:Nat) (ρ:Place) (H:Heap) (w:World) (new old:List Deferred):Prop:=∃rs:List Nat,new=rs.map mkD++old/\rs.Nodup/\∀r,r∈rs->Mk n0 ρ H w r
theorem Dfr.of_eq{n0:Nat} {ρ:Place} {H:Heap} {w:World} {new old:List Deferred} (h:new=old):Dfr n0 ρ H w new old:=⟨[],by simp[h],jS,fun r hr=>by cases hr⟩
theorem Dfr.step{n0:Nat} {ρ ρ':Place} {H H':Heap} {w w':World} {new old:List Deferred} (h:Dfr n0 ρ H w new old) (t:Step ρ H w ρ' H' w'):Dfr n0 ρ' H' w' new old:=
 let ⟨rs,h1,h2,h3⟩:=h;⟨rs,h1,h2,fun r hr=>(h3 r hr).step t⟩
theorem Dfr.then{n0:Nat} {ρ1 ρ2:Place} {H1 H2:Heap} {w1 w2:World} {a0 a1 a2:List Deferred} (h:Dfr n0 ρ1 H1 w1 a1 a0) (hn:n0<=w1.heap.size) (t:Step ρ1 H1 w1 ρ2 H2 w2) (k:Dfr w1.heap.size ρ2 H2 w2 a2 a1):Dfr n0 ρ2 H2 w2 a2 a0:=by
 obtain⟨rs,rfl,h2,h3⟩:=h;obtain⟨ss,rfl,k2,k3⟩:=k;refine⟨ss++rs,by simp,yb.2 ⟨k2,h2,fun a ha b hb e=>?_⟩,fun r hr=>?_⟩
 ·have:=(k3 a ha).ge;have:=(h3 b hb).lt;omega
 ·rcases jl.1 hr with hr|hr
  ·exact⟨jK hn (k3 r hr).ge,(k3 r hr).obj,(k3 r hr).cold,(k3 r hr).apart⟩
  ·exact(h3 r hr).step t
theorem Sim.poke{ρ:Place} {H:Heap} {w:World} (s:Sim ρ H w) {k:Nat} (o:Obj) (hB:¬ ρ.B k) (ha:∀e,e∈H.ents->∀l,ρ e.1=some l->l.cb≠k):Sim ρ H (w.putObj k o) where
 base:=fun j hj=>by rw[yT];exact s.base j hj
 below:=fun j hj=>by rw[yi (show j≠k from fun e=>hB (e ▸ hj))];exact s.below j hj
 os:=s.os
 tape:=s.tape
 output:=s.output
 dom:=s.dom
 nodup:=s.nodup
 live:=fun e he=>by obtain⟨l,h1,h2,h3,h4⟩:=s.live e he;exact⟨l,h1,h2,by rw[yT];exact h3,h4.same (yi (ha e he l h1))⟩
 inj:=s.inj
theorem Step.poke{ρ ρ':Place} {H H':Heap} {w w':World} (t:Step ρ H w ρ' H' w') {k:Nat} (o:Obj) (hk:w.heap.size<=k):Step ρ H w ρ' H' (w'.putObj k o) where
 le:=t.le
 size:=by rw[yT];exact t.size
 keeps:=fun j hj hn=>by rw[yi (by omega)];exact t.keeps j hj hn
 rows:=t.rows
 num:=t.num
 low:=t.low
 cold:=t.cold
theorem Sim.extra{ρ:Place} {H:Heap} {w:World} (s:Sim ρ H w) (o:Obj):Sim ρ H (w.alloc o)/\Step ρ H w ρ H (w.alloc o):=by
 have hcell:∀k,k < w.heap.size->(w.alloc o).heap[k]? = w.heap[k]?:=fun k hk=>Below.heap_alloc w o k hk;refine⟨⟨fun k hk=>?_,fun k hk=>?_,s.os,s.tape,s.output,s.dom,s.nodup,fun e he=>?_,s.inj⟩,⟨Place.le_refl _,by simp,fun k hk _=>hcell k hk,fun e he l hl=>.inl ⟨e,he,l,hl,rfl⟩,jc _,fun _ _=>rfl,fun k hk=>.inl hk⟩⟩
 ·have:=s.base k hk;simp;omega
 ·rw[hcell k (s.base k hk)];exact s.below k hk
 ·obtain⟨l,h1,h2,h3,h4⟩:=s.live e he;exact⟨l,h1,h2,by simp;omega,h4.same (hcell _ h3)⟩
theorem qoy{P:Program} {fn:Func} {tmps:Array Value} {R:Ending->World->Prop} {n0:Nat} {ρ0 ρ:Place} {H0 H:Heap} {w0:World} (hn0:w0.heap.size<=n0):∀(rs:List Nat) (w:World),rs.Nodup->(∀r,r∈rs->Mk n0 ρ H w r)->Sim ρ H w->Step ρ0 H0 w0 ρ H w ->
  (∀w',Sim ρ H w'->Step ρ0 H0 w0 ρ H w'->∃v,(results fn tmps).run P w'=.ok v w'/\R (.returned v) w')->LeavesInM Fence.wide 0 P fn tmps R (rs.map mkD) .returning w
 |[],w,_,_,s,t,h=>h w s t
 |r::rs,w,nd,hm,s,t,h=>by have m:=hm r jA;rw[jr]at nd;refine⟨by simp,.inl ⟨r,w.putObj r (.deferred none),rfl,run_takeDeferred m.obj,?_⟩⟩;refine qoy hn0 rs _ nd.2 (fun q hq=>?_) (s.poke _ m.cold m.apart) (t.poke _ (jK hn0 m.ge)) h;have mq:=hm q (jp _ hq);exact⟨mq.ge,by rw[yi (show q≠r from fun e=>nd.1 (e ▸ hq))];exact mq.obj,mq.cold,mq.apart⟩
def Goes(C:Ctx) (r:Option Nat) (c:Code) (Q:Exit->Act->World->Prop) (a:Act) (w:World):Prop:=match c with
 |.loop b=>LoopGoes (fen r) 0 C.P b Q a w
 |c=>c.wpIn (fen r) 0 C.P Q a w
theorem Goes.wp{C:Ctx} {r:Option Nat} {c:Code} {Q:Exit->Act->World->Prop} {a:Act} {w:World} (h:Goes C r c Q a w):c.wpIn (fen r) 0 C.P Q a w:=by cases c<;>first|exact LoopGoes.wp h|exact h
def qnp(C:Ctx) (r:Option Nat) (ih:qs0):Prop:=∀c s x s',ih c s=some (x,s')->∀ρ a w Q,Sim ρ s.H w->EnvR ρ s a ->
 (∀a' w' ρ',Sim ρ' s'.H w'->Step ρ s.H w ρ' s'.H w'->EnvR ρ' s' a'->Dfr w.heap.size ρ' s'.H w' a'.defers a.defers->Q x.exit_ a' w')->Goes C r c Q a w
theorem zan{C:Ctx} {r:Option Nat} {ih:qs0} (hI:qnp C r ih) (body:Code):∀(n:Nat) (c:Code) (s:St) (x:Out) (s':St),qnk ih body n c s=some (x,s') ->
  ∀ρ a w Q,Sim ρ s.H w->EnvR ρ s a ->
  (∀a' w' ρ',Sim ρ' s'.H w'->Step ρ s.H w ρ' s'.H w'->EnvR ρ' s' a'->Dfr w.heap.size ρ' s'.H w' a'.defers a.defers->Q x.exit_ a' w')->ScopeGoes (fen r) 0 C.P body Q c a w
 |0,c,s,x,s',h=>by simp[qnk]at h
 |n+1,c,s,x,s',h=>by
  intro ρ a w Q sm e hk;obtain⟨⟨y,s1⟩,h1,h2⟩:=obs h;refine ScopeGoes.pass (hI c s y s1 h1 ρ a w _ sm e fun a1 w1 ρ1 g1 g2 g3 g4=>?_).wp;cases y with
  |goto l=>
   simp only at h2;show Exit.inScope _ _ _ _ _ (.goto l) a1 w1;unfold Exit.inScope;simp only;cases hf:findLabel body l with
   |some rest=>simp only[hf]at h2;simp only;exact zan hI body n rest s1 x s' h2 ρ1 a1 w1 Q g1 g3 fun a2 w2 ρ2 k1 k2 k3 k4=>hk a2 w2 ρ2 k1 (g2.trans k2) k3 (g4.then g2.size k2 k4)
   |none=>simp only[hf,sj,jf]at h2;obtain⟨rfl,rfl⟩:=h2;exact hk a1 w1 ρ1 g1 g2 g3 g4
  |normal|exit _|ret=>
   simp only[sj,jf]at h2;obtain⟨rfl,rfl⟩:=h2;exact hk a1 w1 ρ1 g1 g2 g3 g4
theorem zdx{C:Ctx} {f:FuncId} (h:qv1 C f=true) (xs:Array Value) (w:World):(callFunc f xs).run C.P w=.ok (.enter f xs) w:=by
 unfold qv1 at h;split at h
 ·rename_i fn hfn;split at h
  ·cases h
  ·rename_i hname
   have hname' : ¬ fn.name = "runtime.NumGoroutine" := fun e => by rw [e] at hname; simp at hname
   obtain⟨body,hb⟩:=yW.1 h;simp[callFunc,hfn,hname',hb]
 ·cases h
theorem zat{C:Ctx} {call:qcj} (hC:CallOK C call) {g:Operand} {ps:Array Tmp} {assign body:Code} {s:St} {x:Out} {s':St} (h:qij C call g ps assign body s=some (x,s')) :
  ∀ρ a w Q,Sim ρ s.H w->EnvR ρ s a ->
  (∀a' w' ρ',Sim ρ' s'.H w'->Step ρ s.H w ρ' s'.H w'->EnvR ρ' s' a'->Dfr w.heap.size ρ' s'.H w' a'.defers a.defers->Q x.exit_ a' w')->Goes C none (.rangeFunc g ps assign body) Q a w:=by
 intro ρ a w Q sm e hk;unfold qij at h;replace h:=obs h;obtain⟨gv,hg,h⟩:=h;split at h
 ·rename_i f first cap
  split at h
  ·simp at h
  ·rename_i hent;have henter:=zdx hent;replace h:=obs h;obtain⟨⟨v,H2⟩,hcall,h⟩:=h;replace h:=obs h;obtain⟨k,hk2,h⟩:=h;simp only at hk2 h;split at h
   ·rename_i st pend ks vs ts sz ps2 as2 bd2;show (Code.rangeFunc g ps assign body).wpIn Fence.wide 0 C.P Q a w;refine wpIn_rangeFunc fun fn _=>?_;obtain⟨first',cap',hfe,hfi,hca⟩:=(qbg e hg).args;obtain⟨sx,tx⟩:=sm.extra (.deferred (some []));obtain⟨lp,hlp⟩ : ∃lp:Loop,lp={ state:=.ready,pending:=none,fn:=fn,tmps:=a.tmps,params:=ps,assign:=assign,body:=body,defers:=w.heap.size }:=⟨_,rfl⟩;have hln:(w.alloc (.deferred (some []))).heap.size=w.heap.size+1:=(by simp);have hlh:((w.alloc (.deferred (some []))).alloc (.loop lp)).heap[w.heap.size+1]? = some (.loop lp):=(by rw[<- hln];exact World.alloc_heap_new _ _);obtain⟨sn,tn⟩:=sx.new (.loop lp) 0 (.loop .ready none s.ks s.vs s.ts s.sz ps.toList assign body) (by
     refine⟨lp,?_,by rw[hlp],by rw[hlp],by rw[hlp],by rw[hlp],by rw[hlp],by rw[hlp];exact e.size.symm,fun t v hv=>?_⟩
     ·rw[hln];exact hlh
     ·rw[hlp];exact(e.val t v hv).mono (Place.le_upd (sm.dom _ (jc _))))
    rw[hln]at sn tn;obtain⟨ρ1,hρ1⟩ : ∃ρ1,ρ1=ρ.upd s.H.n ⟨w.heap.size+1,0,0⟩:=⟨_,rfl⟩;rw[<- hρ1]at sn tn;have hb1:ρ1 s.H.n=some ⟨w.heap.size+1,0,0⟩:=(by rw[hρ1];exact Place.upd_same);have all1:Step ρ s.H w ρ1 (s.H.new (.loop .ready none s.ks s.vs s.ts s.sz ps.toList assign body)) ((w.alloc (.deferred (some []))).alloc (.loop lp)):=tx.trans tn;have hargs:VRs ρ1 (first++[.yld s.H.n]++cap) (first'.toList++[Value.func (.yield (w.heap.size+1)) #[] #[]]++cap'.toList):=
     ((hfi.mono all1.le).append (.cons (.yld _ _ hb1) .nil)).append (hca.mono all1.le)
    have henterL:(Instr.enterLoop fn a.tmps ps assign body none).run C.P w=.ok (w.heap.size+1,[mkD w.heap.size]) ((w.alloc (.deferred (some []))).alloc (.loop lp)):=(by have:=run_enterLoop_outer (P:=C.P) (w:=w) fn a.tmps ps assign body;rw[<- hlp]at this;exact this);have mk1:Mk w.heap.size ρ1 (s.H.new (.loop .ready none s.ks s.vs s.ts s.sz ps.toList assign body)) ((w.alloc (.deferred (some []))).alloc (.loop lp)) w.heap.size:=by
     refine⟨jc _,?_,fun hB=>?_,fun q hq l hl hcb=>?_⟩
     ·rw[Below.heap_alloc _ _ _ (by simp)];exact World.alloc_heap_new _ _
     ·rw[hρ1]at hB;exact absurd (sm.base _ hB) (yV _)
     ·rw[Heap.new_ents]at hq;rcases ja.1 hq with rfl|hq
      ·simp only at hl;rw[hb1]at hl;cases hl;simp at hcb
      ·obtain⟨l0,hl0,_,hlt0,_⟩:=sm.live q hq;rw[all1.le _ _ hl0]at hl;cases hl;omega
    generalize (w.alloc (.deferred (some []))).alloc (.loop lp)=W1 at *;refine⟨w.heap.size+1,[mkD w.heap.size],W1,{ target:=.fn (.func f) cap',args:=first' ++ #[Value.func (.yield (w.heap.size+1)) #[] #[]] },W1,f,(first'.toList++[Value.func (.yield (w.heap.size+1)) #[] #[]]++cap'.toList).toArray,W1,
     henterL,?_,fun _ _=>trivial,?_,fun hd=>(by cases hd),?_⟩
    ·have e2 : #[Operand.const (Value.func (.yield (w.heap.size+1)) #[] #[])].map a.eval = #[Value.func (.yield (w.heap.size+1)) #[] #[]]:=(by simp[Act.eval]);simp only[resolve,rangeCall,Deferred.ofValue,hfe,e2];rfl
    ·simp only[invoke];have e1:(first'.toList++[Value.func (.yield (w.heap.size+1)) #[] #[]]++cap'.toList).toArray=first' ++ #[Value.func (.yield (w.heap.size+1)) #[] #[]]++cap':=(by apply Array.ext';simp);rw[e1];exact henter _ _
    ·rcases hC.fn f _ _ v H2 hcall ρ1 _ _ sn hargs with⟨x1,ρ',w',h1,_⟩|⟨g',ys,h1,h2⟩
     ·rw[henter]at h1;cases h1
     ·rw[henter]at h1;cases h1;refine CallsIn.mono h2 ?_;rintro e' w3 ⟨x1,ρ2,rfl,_,s2,t2⟩;have hb2:ρ2 s.H.n=some ⟨w.heap.size+1,0,0⟩:=(by rw[t2.low _ (jX _)];exact hb1);obtain⟨l2,hl2,hcold,_,r,hrh,hrs,hrp,_⟩:=s2.block hk2;rw[hb2]at hl2;cases hl2;obtain⟨sd,td⟩:=s2.dropped s.H.n;have hap:∀e,e∈(H2.drop s.H.n).ents->∀l,ρ2 e.1=some l->l.cb≠w.heap.size+1:=fun q hq l hl hcb=>(by have hp:H2.ents.Perm ((s.H.n,_)::(H2.drop s.H.n).ents):=qm1 hk2;have hd:(((s.H.n,_)::(H2.drop s.H.n).ents).map (·.1)).Nodup:=(hp.map _).nodup_iff.1 s2.nodup;rw[jj,jr]at hd;have:=s2.inj _ _ (hp.mem_iff.2 (jp _ hq)) (Heap.get_mem hk2) l _ hl hb2 hcb;exact hd.1 (ji.2 ⟨q,hq,this⟩));have s4:=sd.poke (k:=w.heap.size+1) (.loop { r with state:=.exhausted }) hcold hap;have t3:Step ρ s.H w ρ2 (H2.drop s.H.n) w3:=(all1.trans t2).trans td;have t4:=t3.poke (k:=w.heap.size+1) (.loop { r with state:=.exhausted }) (yK _);have hnb:r.state≠.busy:=(by intro hb;rw[hrs]at hb;subst hb;simp at h);have hend:=run_endLoop (P:=C.P) hrh hnb;have mk3:=(mk1.step t2).step td;have dfr:Dfr w.heap.size ρ2 (H2.drop s.H.n) (w3.putObj (w.heap.size+1) (.loop { r with state:=.exhausted })) (mkD w.heap.size::a.defers) a.defers:=
       ⟨[w.heap.size],rfl,by simp,fun q hq=>by simp only[ju]at hq;subst hq;exact⟨mk3.ge,by rw[yi (by omega)];exact mk3.obj,mk3.cold,mk3.apart⟩⟩
      generalize w3.putObj (w.heap.size+1) (.loop { r with state:=.exhausted })=w4 at *;have env:∀H',EnvR ρ2 { s with H:=H' } { a with defers:=mkD w.heap.size::a.defers }:=fun H'=>⟨e.size,fun t v hv=>(e.val t v hv).mono t4.le⟩;refine⟨r.pending,w4,hend,?_⟩;rw[hrp];split at h
      ·split at h
       ·simp only[sj,jf]at h;obtain⟨rfl,rfl⟩:=h;exact hk _ _ ρ2 s4 t4 (env _) dfr
       ·simp at h
      ·replace h:=obs h;obtain⟨c,rfl,h⟩:=h;replace h:=obs h;obtain⟨y,hy,h⟩:=h;simp only[sj,jf]at h;obtain⟨rfl,rfl⟩:=h;have fin:=hk _ _ ρ2 s4 t4 (env _) dfr;unfold qz1 at hy;split at hy<;>simp only[sj,reduceCtorEq]at hy<;>subst hy
       ·exact wpIn_ret fin
       ·exact wpIn_exit fin
       ·exact wpIn_goto fin
      ·simp at h
   ·simp at h
 ·simp at h
theorem zfb{C:Ctx} {call:qcj} {r:Option Nat} {rf:Bool} {ih:qs0} (hm:C.P.follows .mixedOrders=true) (hC:CallOK C call) (hI:qnp C r ih) (hr:rf=true->r=none):qnp C r (qh6 C call rf ih):=by
 intro c s x s' h ρ a w Q sm e hk;cases c with
 |skip=>simp only[qh6,sj,jf]at h;obtain⟨rfl,rfl⟩:=h;exact wpIn_skip (hk a w ρ sm (.refl _ _ _) e (.of_eq rfl))
 |label l=>simp only[qh6,sj,jf]at h;obtain⟨rfl,rfl⟩:=h;exact wpIn_label (hk a w ρ sm (.refl _ _ _) e (.of_eq rfl))
 |exit id=>simp only[qh6,sj,jf]at h;obtain⟨rfl,rfl⟩:=h;exact wpIn_exit (hk a w ρ sm (.refl _ _ _) e (.of_eq rfl))
 |goto l=>simp only[qh6,sj,jf]at h;obtain⟨rfl,rfl⟩:=h;exact wpIn_goto (hk a w ρ sm (.refl _ _ _) e (.of_eq rfl))
 |ret=>simp only[qh6,sj,jf]at h;obtain⟨rfl,rfl⟩:=h;exact wpIn_ret (hk a w ρ sm (.refl _ _ _) e (.of_eq rfl))
 |region id ops draw=>
  have sm':Sim ρ ({ s with ts:=[] }:St).H w:=sm;cases draw with
  |false=>obtain⟨s1,h1,h2⟩:=obs h;simp only[sj,jf]at h2;obtain⟨rfl,rfl⟩:=h2;apply wpIn_region;have:=zgd hC (ops:=ops) (r:=r) (Q:=Q) (l:=ops.toList) (i:=0) (fun j=>by simp) h1 sm' e.fresh (fun a' w' ρ' k1 k2 k3 k4=>hk a' w' ρ' k1 k2 k3 (.of_eq k4));rw[List.range_eq_range'];simpa using this
  |true=>obtain⟨s1,h1,h2⟩:=obs h;simp only[sj,jf]at h2;obtain⟨rfl,rfl⟩:=h2;exact zio hC hm h1 sm' e.fresh (fun a' w' ρ' k1 k2 k3 k4=>hk a' w' ρ' k1 k2 k3 (.of_eq k4))
 |seq c d=>
  obtain⟨⟨y,s1⟩,h1,h2⟩:=obs h;refine wpIn_seq (hI c s y s1 h1 ρ a w _ sm e fun a1 w1 ρ1 g1 g2 g3 g4=>?_).wp;cases y with
  |normal=>exact(hI d s1 x s' h2 ρ1 a1 w1 Q g1 g3 fun a2 w2 ρ2 k1 k2 k3 k4=>hk a2 w2 ρ2 k1 (g2.trans k2) k3 (g4.then g2.size k2 k4)).wp
  |exit _|goto _|ret=>
   simp only[sj,jf]at h2;obtain⟨rfl,rfl⟩:=h2;exact hk a1 w1 ρ1 g1 g2 g3 g4
 |cond c x1 x2=>
  obtain⟨v,hv,h⟩:=obs h;have hvr:=qbg e hv;split at h
  ·rename_i t;have hce:a.eval c=.bool t:=(by cases hq:a.eval c<;>rw[hq]at hvr<;>cases hvr;rfl);cases t with
   |true=>exact wpIn_cond_true hce (hI x1 s x s' h ρ a w Q sm e hk).wp
   |false=>exact wpIn_cond_false hce (hI x2 s x s' h ρ a w Q sm e hk).wp
  ·simp at h
 |block id b=>
  obtain⟨⟨y,s1⟩,h1,h2⟩:=obs h;refine wpIn_block (hI b s y s1 h1 ρ a w _ sm e fun a1 w1 ρ1 g1 g2 g3 g4=>?_).wp;cases y with
  |exit k=>
   show Exit.inBlock id Q (.exit k) a1 w1;simp only at h2;unfold Exit.inBlock;simp only;split at h2
   next hb=>have hkid:k=id:=Nat.eq_of_beq_eq_true hb;simp only[sj,jf]at h2;obtain⟨rfl,rfl⟩:=h2;rw[if_pos hkid];exact hk a1 w1 ρ1 g1 g2 g3 g4
   next hb=>have hkid:k≠id:=fun e=>(by subst e;simp at hb);simp only[sj,jf]at h2;obtain⟨rfl,rfl⟩:=h2;rw[if_neg hkid];exact hk a1 w1 ρ1 g1 g2 g3 g4
  |normal|goto _|ret=>
   simp only[sj,jf]at h2;obtain⟨rfl,rfl⟩:=h2;exact hk a1 w1 ρ1 g1 g2 g3 g4
 |loop b=>
  obtain⟨⟨y,s1⟩,h1,h2⟩:=obs h;refine LoopGoes.round (hI b s y s1 h1 ρ a w _ sm e fun a1 w1 ρ1 g1 g2 g3 g4=>?_).wp;cases y with
  |normal=>exact hI (.loop b) s1 x s' h2 ρ1 a1 w1 Q g1 g3 fun a2 w2 ρ2 k1 k2 k3 k4=>hk a2 w2 ρ2 k1 (g2.trans k2) k3 (g4.then g2.size k2 k4)
  |exit _|goto _|ret=>
   simp only[sj,jf]at h2;obtain⟨rfl,rfl⟩:=h2;exact hk a1 w1 ρ1 g1 g2 g3 g4
 |scope b=>exact ScopeGoes.wp (zan hI b _ b s x s' h ρ a w Q sm e hk)
 |rangeFunc g ps assign body=>
  cases rf with
  |false=>simp[qh6]at h
  |true=>cases hr rfl;exact zat hC h ρ a w Q sm e hk
 |refuse _=>simp[qh6]at h
def zfq(tmps:Array Value):ResultVar->Sem Value
 |.tmp t=>pure (tmps.getD t undef)
 |.cell a t=>do loadVar t (<- asAddr (tmps.getD a undef))
theorem zd5(fn:Func) (tmps:Array Value):results fn tmps=(do let vs <- fn.results.mapM (zfq tmps);pure (if h:vs.size=1 then vs[0] else .tuple vs)):=by unfold results;congr 1
theorem qyi{P:Program} {H:Heap} {t:TypeId} {p v:AV} {ρ:Place} {x:Value} (h:qb3 P H t p=some v) (hp:VR ρ p x):∃ad,x=.pointer (some ad):=by
 obtain⟨ag,_,h⟩:=obs h;obtain⟨n,_,h⟩:=obs h;cases hp
 case ptr=>exact⟨_,rfl⟩
 case fptr=>exact⟨_,rfl⟩
 all_goals (cases ag<;>simp at h)
theorem zgf{s:St} {a:Act} {C:Ctx} {ρ:Place} {w:World} (sm:Sim ρ s.H w) (e:EnvR ρ s a):∀{rs:List ResultVar} {vs:List AV},retVal C s rs=some vs ->
  ∃xs:List Value,(rs.mapM (zfq a.tmps)).run C.P w=.ok xs w/\VRs ρ vs xs
 |[],vs,h=>by simp only[retVal,sj]at h;subst h;exact⟨[],by simp,.nil⟩
 |x::r,vs,h=>by
  obtain⟨v,hv,h'⟩:=obs h;obtain⟨us,hu,h'⟩:=obs h';simp only[sj]at h';subst h';obtain⟨xs,h1,h2⟩:=zgf sm e hu;have one:∃y,(zfq a.tmps x).run C.P w=.ok y w/\VR ρ v y:=by
   cases x with
   |tmp t=>exact⟨a.tmps.getD t undef,by simp only[zfq];rfl,e.val t v hv⟩
   |cell c t=>obtain⟨p,hp,hv⟩:=obs hv;obtain⟨y,g1,g2⟩:=qqi sm hv (e.val c p hp);obtain⟨ad,had⟩:=qyi hv (e.val c p hp);refine⟨y,?_,g2⟩;rw[had]at g1;simp only[zfq];rw[had];simpa[Instr.loadAt,Instr.sureAddr,asAddr]using g1
  obtain⟨y,g1,g2⟩:=one;refine⟨y::xs,?_,.cons g2 h2⟩;rw[List.mapM_cons];simp[g1,h1]
theorem VRs.oneOr{ρ:Place} {vs:List AV} {xs:List Value} (h:VRs ρ vs xs):VR ρ (oneOr vs) (if h:xs.toArray.size=1 then xs.toArray[0] else .tuple xs.toArray):=by
 have tup:VR ρ (.tup vs) (.tuple xs.toArray):=.tup vs xs.toArray (by simpa using h.1) fun i h1 h2=>by simpa using h.2 i h1 (by simpa using h2)
 rcases vs with _|⟨v,_|⟨u,r⟩⟩
 ·have:xs=[]:=by cases xs with|nil=>rfl|cons _ _=>have:=h.1;simp at this
  subst this;simpa[Proofs.YtocnpnnplllneaaGreatDoor.oneOr]using tup
 ·rcases xs with _|⟨x,_|⟨y,r⟩⟩
  ·have:=h.1;simp at this
  ·simpa[Proofs.YtocnpnnplllneaaGreatDoor.oneOr]using h.head
  ·have:=h.1;simp at this
 ·rcases xs with _|⟨x,_|⟨y,r'⟩⟩
  ·have:=h.1;simp at this
  ·have:=h.1;simp at this
  ·simpa[Proofs.YtocnpnnplllneaaGreatDoor.oneOr]using tup
theorem qqg{s:St} {a:Act} {C:Ctx} {ρ:Place} {w:World} (sm:Sim ρ s.H w) (e:EnvR ρ s a) {fn:Func} {vs:List AV} (h:retVal C s fn.results.toList=some vs) :
  ∃x,(results fn a.tmps).run C.P w=.ok x w/\VR ρ (oneOr vs) x:=by
 obtain⟨xs,h1,h2⟩:=zgf sm e h;refine⟨_,?_,h2.oneOr⟩;rw[zd5,Array.mapM_eq_mapM_toList];simp[h1]
theorem qk1{t:Nat} {v:AV}:∀{ks:List Nat},qgw t ks (qsj ks)=some v->v=.undef
 |[],h=>by simp[qe8,qk2]at h
 |k::r,h=>by
  rw[qe8]at h;simp only[qsj]at h;split at h
  ·simp only[sj]at h;exact h.symm
  ·exact qk1 h
theorem qls{ρ:Place}:∀{args:List AV} {xs:List Value} {i:Nat} {s s':St} {a:Act},qu0 s i args=some s'->EnvR ρ s a->VRs ρ args xs ->
  (∀j (h:j < xs.length),a.tmps.getD (i+j) undef=xs[j])->EnvR ρ s' a/\s'.H=s.H
 |[],xs,i,s,s',a,h,e,_,_=>by simp only[qu0,sj]at h;subst h;exact⟨e,rfl⟩
 |v::r,[],i,s,s',a,_,_,hr,_=>by have:=hr.1;simp at this
 |v::r,x::xs,i,s,s',a,h,e,hr,hx=>by
  obtain⟨s1,h1,h2⟩:=obs h;obtain⟨hlt,hsz,hH,_,hget⟩:=St.set_get h1;have e1:EnvR ρ s1 a:=by
   refine⟨by rw[hsz];exact e.size,fun t u hu=>?_⟩;rw[hget]at hu;split at hu
   next ht=>simp only[sj]at hu;subst ht;subst hu;have:=hx 0 (by simp);simp only[y4,j5]at this;rw[this];exact hr.head
   ·exact e.val t u hu
  obtain⟨g1,g2⟩:=qls (i:=Nat.succ i) h2 e1 hr.tail fun j hj=>by have:=hx (j+1) (by simpa using hj);have e:Nat.succ i+j=i+(j+1):=(by omega);rw[e];simpa using this
  exact⟨g1,by rw[g2,hH]⟩
def qy6(C:Ctx):Prop:=∀f g,C.summ f=some g->∀args H v H',g args H=some (v,H')->CallAt C f args H v H'
theorem fn_calls{C:Ctx} {ih ihR:qs0} (hI:qnp C none ih) {f:FuncId} {args:List AV} {H H':Heap} {v:AV} (hs:C.summ f=none) (h:qt6 C ih ihR (.fn f) args H=some (v,H')) {ρ:Place} {w:World} {xs:List Value}
  (sm:Sim ρ H w) (hx:VRs ρ args xs):(callFunc f xs.toArray).run C.P w=.ok (.enter f xs.toArray) w/\CallsIn Fence.wide 0 C.P f xs.toArray w (za7 ρ H w v H'):=by
 unfold qt6 at h;simp only[hs]at h;obtain⟨fn,hfn,h⟩:=obs h;split at h
 ·simp at h
 ·rename_i hname;obtain⟨body,hb,h⟩:=obs h;obtain⟨s,hs0,h⟩:=obs h;obtain⟨⟨y,s1⟩,h1,h2⟩:=obs h;refine⟨?_,?_⟩
  ·have hname' : ¬ fn.name = "runtime.NumGoroutine" := fun e => by rw [e] at hname; simp at hname
   simp[callFunc,hfn,hname',hb]
  ·refine callsIn_of_wp_marks hfn hb trivial ?_;obtain⟨o1,o2⟩:=sm.opened;have hlen:xs.length=args.length:=hx.1;have env0:EnvR ρ { ks:=C.keep f,vs:=qsj (C.keep f),ts:=[],sz:=args.length+(fn.ntmps - args.length),H:=⟨H.n,[]::H.fs⟩ }
     { tmps:=xs.toArray++Array.replicate (fn.ntmps - xs.toArray.size) undef,defers:=[] }:=by
    refine⟨by simp[hlen],fun t u hu=>?_⟩;simp only[St.get]at hu;split at hu
    next hl=>have:=qk1 hl;simp only[sj]at hu;subst hu;subst this;exact .undef _
    ·simp[qfo,qov]at hu
   obtain⟨e1,hH1⟩:=qls (i:=0) hs0 env0 hx fun j hj=>(by simp only[jO,jE];rw[Array.getElem?_append_left (by simpa using hj)];simp[hj]);have hH:s.H=⟨H.n,[]::H.fs⟩:=hH1;refine(hI body s y s1 h1 ρ _ w _ (by rw[hH];exact o1) e1 fun a' w' ρ' g1 g2 g3 g4=>?_).wp;rw[hH]at g2;have fin:∀vs,retVal C s1 fn.results.toList=some vs->oneOr vs=v->qwe (oneOr vs) s1.H=H' ->
     LeavesInM Fence.wide 0 C.P fn a'.tmps (za7 ρ H w v H') a'.defers .returning w':=by
    intro vs hvs hv hpop;obtain⟨rs,hrs,hnd,hmk⟩:=g4;rw[hrs,jg];refine qoy (ρ0:=ρ) (H0:=⟨H.n,[]::H.fs⟩) (w0:=w) (jc _) rs w' hnd hmk g1 g2 fun w2 q1 q2=>?_;obtain⟨x,k1,k2⟩:=qqg q1 g3 hvs;obtain⟨p1,p2⟩:=q1.pop (oneOr vs);rw[hpop]at p1 p2;exact⟨x,k1,x,ρ',rfl,hv ▸ k2,p1,(o2.trans q2).trans p2⟩
   cases y with
   |normal=>obtain⟨vs,hvs,h3⟩:=obs h2;simp only[sj,jf]at h3;exact fin vs hvs h3.1 h3.2
   |ret=>obtain⟨vs,hvs,h3⟩:=obs h2;simp only[sj,jf]at h3;exact fin vs hvs h3.1 h3.2
   |exit _|goto _=>simp at h2
theorem qrk(f:Array Value->Tmp × Value->Array Value) (hf:f=fun tmps p=>tmps.setIfInBounds p.1 p.2) {ρ:Place} {n:Nat}:∀{ps:List Nat} {vs:List AV} {xs:List Value} {s s':St} {tm:Array Value},qw8 s ps vs=some s'->VRs ρ vs xs->∀(e:EnvR ρ s { tmps:=tm,defers:=[] }),
  ps.length=xs.length/\s'.H=s.H/\EnvR ρ s' { tmps:=(ps.zip xs).foldl f tm,defers:=[] }
 |[],[],xs,s,s',tm,h,hv,e=>by
  simp only[qw8,sj]at h;subst h;have:xs=[]:=by cases xs with|nil=>rfl|cons _ _=>have:=hv.1;simp at this
  subst this;exact⟨rfl,rfl,e⟩
 |p::ps,v::vs,xs,s,s',tm,h,hv,e=>by
  cases xs with
  |nil=>have:=hv.1;simp at this
  |cons x xs=>
   obtain⟨s1,h1,h2⟩:=obs h;have e1:=e.set h1 hv.head;obtain⟨g1,g2,g3⟩:=qrk f hf (n:=n) h2 hv.tail e1;refine⟨by simp[g1],?_,?_⟩
   ·rw[g2];exact(St.set_get h1).2.2.1
   ·simp only[List.zip_cons_cons,yB];have:f tm (p,x)=tm.setIfInBounds p x:=(by rw[hf]);rw[this];exact g3
 |[],_::_,_,_,_,_,h,_,_=>by simp[qw8]at h
 |_::_,[],_,_,_,_,h,_,_=>by simp[qw8]at h
theorem Sim.turnLoop{ρ:Place} {H H1:Heap} {w:World} (s:Sim ρ H w) {b:Nat} {l:Loc} {st st':LoopState} {pend pend':Option Code} {ks:List Nat} {vs:List AV} {ts:List (Nat × AV)} {sz:Nat} {ps:List Nat} {as' bd:Code} {r:Loop}
  (hg:H.get b=some (.loop st pend ks vs ts sz ps as' bd)) (hl:ρ b=some l) (hr:w.heap[l.cb]? = some (.loop r)) (hset:H.set b (.loop st' pend' ks vs ts sz ps as' bd)=some H1) :
  Sim ρ H1 (w.putObj l.cb (.loop { r with state:=st',pending:=pend' }))/\Step ρ H w ρ H1 (w.putObj l.cb (.loop { r with state:=st',pending:=pend' })):=by
 obtain⟨l',hl',_,hlt,r',hr',q1,q2,q3,q4,q5,q6,q7⟩:=s.block hg;rw[hl]at hl';cases hl';rw[hr]at hr';cases hr';obtain⟨hn,hd,hk',⟨k0,hk0⟩,hs⟩:=qmn (vs:=[]) hset s.nodup;exact s.turned hk0 hl hn hd hk' hs yT (fun j hj=>yi hj) rfl rfl rfl ⟨_,World.putObj_heap_same hlt,rfl,rfl,q3,q4,q5,q6,q7⟩
theorem yield_ok{C:Ctx} {ih:qs0} (hI:∀l,qnp C (some l) ih) {b:Nat} {args:List AV} {H H':Heap} {v:AV} (h:qrp ih b args H=some (v,H')):qjb C b args H v H':=by
 intro ρ w xs l sm hx hl;unfold qrp at h;replace h:=obs h;obtain⟨k,hk,h⟩:=h;split at h
 ·rename_i st pend ks vs ts sz ps assign body;split at h
  ·replace h:=obs h;obtain⟨s1,hs1,h⟩:=h;replace h:=obs h;obtain⟨⟨x1,s2⟩,h1,h⟩:=h;obtain⟨l',hl',_,hlt,r,hr,q1,q2,q3,q4,q5,q6,q7⟩:=sm.block hk;rw[hl]at hl';cases hl';obtain⟨o1,o2⟩:=sm.opened;have env0:EnvR ρ ⟨ks,vs,ts,sz,⟨H.n,[]::H.fs⟩⟩ { tmps:=r.tmps,defers:=[] }:=⟨q6.symm,q7⟩;obtain⟨f1,f2,f3⟩:=qrk (fun tmps p=>tmps.setIfInBounds p.1 p.2) rfl (n:=0) hs1 hx env0;have f2:s1.H=⟨H.n,[]::H.fs⟩:=f2;have hps:xs.toArray.size=r.params.size:=(by rw[<- q3]at f1;simpa using f1.symm);refine⟨r.fn,_,r.assign,r.body,run_yield hr hps,?_⟩;have hz:(r.params.zip xs.toArray).foldl (fun tmps (x:Tmp × Value)=>match x with|(t,a)=>tmps.setIfInBounds t a) r.tmps=(ps.zip xs).foldl (fun tmps p=>tmps.setIfInBounds p.1 p.2) r.tmps:=(by rw[<- Array.foldl_toList,Array.toList_zip,q3]);rw[hz,q4,q5];refine roundIn_of_wpIn trivial ?_;refine(hI l.cb assign s1 x1 s2 h1 ρ _ w _ (by rw[f2];exact o1) f3 fun a1 w1 ρ1 g1 g2 g3 g4=>?_).wp;rw[f2]at g2;simp only at h;split at h
   ·replace h:=obs h;obtain⟨k1,hk1,h⟩:=h;split at h
    ·rename_i st1 pend1 ks1 vs1 ts1 sz1 ps1 as1 bd1;split at h
     ·replace h:=obs h;obtain⟨H1,hset1,h⟩:=h;replace h:=obs h;obtain⟨⟨x3,s3⟩,h3,h⟩:=h;replace h:=obs h;obtain⟨k2,hk2,h⟩:=h;simp only at hk2 h;split at h
      ·rename_i st2 pend2 ks2 vs2 ts2 sz2 ps2 as2 bd2;replace h:=obs h;obtain⟨H2,hset2,h⟩:=h;simp only[sj,jf]at h;obtain⟨rfl,rfl⟩:=h;have hl1:ρ1 b=some l:=g2.le _ _ hl;obtain⟨l1,hl1',_,hlt1,r1,hr1,u1,u2,_⟩:=g1.block hk1;rw[hl1]at hl1';cases hl1';refine⟨w1.putObj l.cb (.loop { r1 with state:=.busy }),run_beginRound hr1 u1,?_⟩;have hset1':s2.H.set b (.loop .busy r1.pending ks1 vs1 ts1 sz1 ps1 as1 bd1)=some H1:=(by rw[u2];exact hset1);obtain⟨s4,t4⟩:=g1.turnLoop hk1 hl1 hr1 hset1';refine(hI l.cb body { s2 with H:=H1 } x3 s3 h3 ρ1 a1 _ _ s4 (g3.heap H1) fun a2 w2 ρ2 m1 m2 m3 m4=>?_).wp;have hl2:ρ2 b=some l:=m2.le _ _ hl1;obtain⟨l2,hl2',_,hlt2,r2,hr2,_⟩:=m1.block hk2;rw[hl2]at hl2';cases hl2';have fin:∀(jump:Option Code) (H2:Heap) (st':LoopState),st'=(if jump.isNone then .ready else .done)->s3.H.set b (.loop st' jump ks2 vs2 ts2 sz2 ps2 as2 bd2)=some H2 ->
         ∃v w',(Instr.endRound l.cb jump).run C.P w2=.ok v w'/\za7 ρ H w (.bool jump.isNone) (qwe (.bool true) H2) (.returned v) w':=by
        intro jump H2 st' hst' hset;obtain⟨s5,t5⟩:=m1.turnLoop hk2 hl2 hr2 hset;obtain⟨s6,t6⟩:=s5.pop (.bool true);refine⟨_,_,run_endRound jump hr2,.bool jump.isNone,ρ2,rfl,.bool _,?_,?_⟩
        ·rw[<- hst'];exact s6
        ·rw[<- hst'];exact((((o2.trans g2).trans t4).trans m2).trans t5).trans t6
       cases x3 with
       |normal=>exact fin none H2 _ rfl hset2
       |ret=>exact fin (some .ret) H2 _ rfl hset2
       |exit id=>exact fin (some (.exit id)) H2 _ rfl hset2
       |goto q=>exact fin (some (.goto q)) H2 _ rfl hset2
      ·simp at h
     ·simp at h
    ·simp at h
   ·simp at h
  ·simp at h
 ·simp at h
theorem fn_ok{C:Ctx} {ih ihR:qs0} (hS:qy6 C) (hI:qnp C none ih) (hR:∀l,qnp C (some l) ihR):CallOK C (qt6 C ih ihR) where
 fn:=by
  intro f args H v H' h;cases hs:C.summ f with
  |some g=>unfold qt6 at h;simp only[hs]at h;exact hS f g hs args H v H' h
  |none=>exact fun ρ w xs sm hx=>.inr ⟨f,xs.toArray,fn_calls hI hs h sm hx⟩
 yl:=fun b args H v H' h=>yield_ok hR h
theorem qzh{C:Ctx} (hm:C.P.follows .mixedOrders=true) (hS:qy6 C):∀n,qnp C none (quy C n true)/\∀l,qnp C (some l) (quy C n false)
 |0=>⟨fun c s x s' h=>by simp[quy]at h,fun l c s x s' h=>by simp[quy]at h⟩
 |n+1=>
  have⟨h1,h2⟩:=qzh hm hS n
  ⟨zfb (rf:=true) hm (fn_ok hS h1 h2) h1 (fun _=>rfl),fun l=>zfb (rf:=false) hm (fn_ok hS h1 h2) (h2 l) (fun h=>by cases h)⟩
theorem qzo{C:Ctx} (hm:C.P.follows .mixedOrders=true) (hS:qy6 C) (n:Nat):CallOK C (qru C n):=fn_ok hS (qzh hm hS n).1 (qzh hm hS n).2
def qb7(C:Ctx):qcj:=fun c args H=>match c with
 |.fn f=>match C.summ f with
  |some g=>g args H
  |none=>none
 |.yl _=>none
theorem callL_ok{C:Ctx} (hS:qy6 C):CallOK C (qb7 C) where
 fn:=by
  intro f args H v H' h;unfold qb7 at h;split at h
  ·rename_i g hs;split at h
   next g' hs'=>cases hs;exact hS _ g' hs' args H v H' h
   ·cases h
  ·cases h
 yl:=fun b args H v H' h=>by cases h
end
structure GlobsIn (W:World):Prop where
 gl:∀g,g∈globs->∃m,W.cell? ⟨g,0,none⟩=some (.int .i64 m)
 gi:∀g,g∈ivars->∃v,W.cell? ⟨g,0,none⟩=some v/\isIf v
 gp:∀x,x∈pins->∀i n,x.2[i]? = some n->W.cell? ⟨x.1,i,none⟩=some (.int .u8 n)
 gx:∀x,x∈tabs->∃t fz,W.heap[x.1]? = some (.cells (x.2.2.map (Value.int x.2.1)).toArray t fz)
theorem zg4:∀x,x∈pins->∃n,x.2[0]? = some n:=by
 intro x h;have:pins.all (fun x=>(x.2[0]?).isSome)=true:=by decide +kernel
 exact yW.1 (ya.1 this x h)
theorem heap_lt{W:World} {g:Nat} {o:Obj} (hm:W.heap[g]? = some o):g < W.heap.size:=by apply yA;intro hn;have:W.heap[g]? = none:=Array.getElem?_eq_none (Nat.le_of_not_lt hn);rw[this]at hm;cases hm
theorem qzn{W:World} {g:Nat} {v:Value} (hm:W.cell? ⟨g,0,none⟩=some v):g < W.heap.size:=by apply yA;intro hn;have:W.heap[g]? = none:=Array.getElem?_eq_none (Nat.le_of_not_lt hn);simp[World.cell?,this]at hm
def start(W:World) (hg:GlobsIn W):Place:=⟨fun _=>none,W,fun k=>k < W.heap.size,fun g h=>⟨let ⟨_,hm⟩:=hg.gl g h;qzn hm,hg.gl g h⟩,fun g h=>⟨let ⟨_,hm,_⟩:=hg.gi g h;qzn hm,hg.gi g h⟩,fun x h=>⟨let ⟨n,hn⟩:=zg4 x h;qzn (hg.gp x h 0 n hn),hg.gp x h⟩,fun x h=>⟨let ⟨_,_,hm⟩:=hg.gx x h;heap_lt hm,hg.gx x h⟩⟩
variable {W:World} {hg:GlobsIn W}
theorem zfl(W:World) (hg:GlobsIn W):Sim (start W hg) ⟨0,[]⟩ W where
 base:=fun _ h=>h
 below:=fun _ _=>rfl
 os:=rfl
 tape:=rfl
 output:=rfl
 dom:=fun _ _=>rfl
 nodup:=jS
 live:=fun e he=>by cases he
 inj:=fun e e' he=>by cases he
theorem Step.grown{ρ:Place} {H:Heap} {w:World} (s:Sim ρ H w) (t:Step (start W hg) ⟨0,[]⟩ W ρ H w):Below W.heap.size W w:=
 ⟨s.os.trans t.le.os,s.tape.trans t.le.tape,s.output.trans t.le.output,t.size,fun k hk=>t.keeps k hk fun e he=>by cases he⟩
section
variable {H:Type} {enc:TypeId × Value->H} {P:Program}
theorem qtn{ts:List TypeId} (hl:laidOutB P=true) (hr:∀t,t∈ts->P.readableRec t=true/\t < P.types.size) {W W':World} {sp:Nat->Bool} {vs:List Value} {ds:List (DataW H)} {ps:List MemPlace}
  (h:DataW.TrodAll enc P W 0 (fun _=>true) true ts vs ds ps) (hb:Below W.heap.size W W') (hlt:∀x,x∈ps->x.block < W.heap.size) (hsp:∀x,x∈ps->sp x.block=true) :
  DataW.TrodAll enc P W' 0 sp true ts vs ds ps:=by
 induction ts generalizing vs ds ps with
 |nil=>cases vs<;>cases ds<;>first|exact h|exact h.elim
 |cons t ts ih=>
  cases vs with
  |nil=>exact h.elim
  |cons v vs=>
   cases ds with
   |nil=>exact h.elim
   |cons d ds=>obtain⟨p,q,h1,h2,rfl⟩:=h;refine⟨p,q,WideElems.Trod_stays hl (hr t jA).1 (hr t jA).2 h1 (fun x hx=>hb.same (hlt x (by simp[hx]))) (fun x hx=>hsp x (by simp[hx])),?_,rfl⟩;exact ih (fun t ht=>hr t (jp _ ht)) h2 (fun x hx=>hlt x (by simp[hx])) (fun x hx=>hsp x (by simp[hx]))
theorem law_post{f:Func} {s:ChangeSpec} {apart fresh handsOn again:Bool} {W W':World} {args:Array Value} {ds gs:List (DataW H)} {before:List MemPlace} {tb:TypeId}
  (hl:laidOutB P=true) (hr:∀t,t∈f.params.toList->P.readableRec t=true/\t < P.types.size) (hb:P.underlying tb=some .bool) (hres:f.resultTypes = #[tb]) (hvars:s.vars=[])
  (hfn:(s.fn H (ds++gs)).results=[.lit (.bool true)]/\(s.fn H (ds++gs)).args=ds/\(s.fn H (ds++gs)).vars=[])
  (hW:DataW.Whole enc P f.params.toList s.vars apart W args.toList ds gs before) (hg:Below W.heap.size W W'):s.post enc P f apart fresh handsOn again W args (.bool true) W':=by
 have hlt:=hW.lt;have hW':=hW;obtain⟨p,q,h1,h2,rfl,hz,hn⟩:=hW';rw[hvars]at h2;have hq:q=[]:=by
  cases gs with
  |nil=>exact h2
  |cons g gs=>exact h2.elim
 subst hq;rw[jg]at hlt hz hn hW;have hres1:(Value.bool true).resultList f.resultTypes.size=[.bool true]:=by rw[hres];rfl
 have tr:∀(b:Nat) (sp:Nat->Bool) (hd:Bool),DataW.TrodAll enc P W' b sp hd f.resultTypes.toList ((Value.bool true).resultList f.resultTypes.size) (s.fn H (ds++gs)).results []:=fun b sp hd=>by rw[hres1,hres,hfn.1];exact⟨[],[],⟨1,by simp[DataW.trod,Value.cells,hb]⟩,rfl,rfl⟩
 have ta:∀sp:Nat->Bool,(∀x,x∈p->sp x.block=true)->DataW.TrodAll enc P W' 0 sp true f.params.toList args.toList (s.fn H (ds++gs)).args p:=fun sp hsp=>by rw[hfn.2.1];exact qtn hl hr h1 hg hlt hsp
 have tv:∀sp:Nat->Bool,DataW.TrodVars enc P W' sp s.vars (s.fn H (ds++gs)).vars []:=fun sp=>by rw[hvars,hfn.2.2];rfl
 refine⟨ds,gs,p,[],p,[],hW,tr _ _ _,ta _ (fun x hx=>by simpa using hlt x hx),tv _,World.keptBut_mono (fun x hx=>hx.elim) (hg.frame fun _=>False),fun _=>?_⟩;refine⟨?_,_,_,([]++p)++[],⟨[]++p,[],ChangeShapes.trodAll_append (ta _ fun _ _=>rfl) (tr _ _ _),tv _,rfl,?_,?_⟩,?_⟩
 ·rw[hres1];intro j t r hj hr';rw[hres]at hj;cases j with
  |zero=>simp at hj hr';subst hj;subst hr';simp[Value.okWide,hb,Cell.okWide,Cell.ok]
  |succ j=>simp at hj
 ·intro b off hp;have hp':MemPlace.cell b off∈p:=by simpa using hp
  have hlt':b < W.heap.size:=hlt _ hp';have:=hz b off hp';simp only[World.frozen?]at this ⊢;rw[hg.block b hlt'];exact this
 ·intro ha;have:=hn ha;simpa using this
 ·intro x hx _;simpa using hx
end
def qhr(ag:Bool) (as:List AV):Option AV:=match ag with
 |true=>some (.agg as)
 |false=>match as with
  |[a]=>match a.single with
   |true=>some a
   |false=>none
  |_=>none
def litA:Lit->Option AV
 |.bool b=>some (.bool b)
 |.int k n=>some (.int k n)
 |.float k b=>some (.float k b)
 |.string s=>some (.str s)
 |_=>none
def qep(n:Nat):List AV->Bool
 |[]=>true
 |a::r=>match Nat.beq a.cells.length n with
  |true=>qep n r
  |false=>false
def qt0{α β:Type} (f:α->Option β):List α->Option (List β)
 |[]=>some []
 |x::r=>(f x).bind fun y=>(qt0 f r).bind fun ys=>some (y::ys)
theorem qr1{α β:Type} {f:α->Option β}:∀{l:List α} {r:List β},qt0 f l=some r->r.length=l.length/\∀i (h:i < l.length) (h':i < r.length),f l[i]=some r[i]
 |[],r,h=>by simp only[qt0,sj]at h;subst h;exact⟨rfl,fun i h=>absurd h (jk i)⟩
 |x::l,r,h=>by
  obtain⟨y,hy,h⟩:=obs h;obtain⟨ys,hys,h⟩:=obs h;simp only[sj]at h;subst h;obtain⟨h1,h2⟩:=qr1 hys;refine⟨by simp[h1],fun i hi hi'=>?_⟩;cases i with
  |zero=>exact hy
  |succ i=>exact h2 i (by simpa using hi) (by simpa using hi')
def qqs{H:Type} (f:TypeId->DataW H->Option (List AV)) (P:Program):Nat->List Field->List (DataW H)->Option (List AV)
 |_,[],ds=>match ds with
  |[]=>some []
  |_::_=>none
 |o,x::fs,ds=>match ds with
  |[]=>none
  |d::ds=>match Nat.beq x.offset o with
   |false=>none
   |true=>(f x.type d).bind fun as=>match Nat.beq as.length (P.cellsOf x.type)with
    |false=>none
    |true=>(qqs f P (o+P.cellsOf x.type) fs ds).bind fun r=>some (as++r)
def qgc{H:Type} (P:Program):Nat->TypeId->DataW H->Option (List AV)
 |0,_,_=>none
 |Nat.succ n,t,d=>(P.underlying t).bind fun u=>match u,d with
  |.bool,.lit l=>(litA l).bind fun a=>some [a]
  |.int _,.lit l=>(litA l).bind fun a=>some [a]
  |.string,.lit l=>(litA l).bind fun a=>some [a]
  |.slice e,.nil=>some [.fslc (P.cellsOf e) []]
  |.slice e,.slice elems _=>match elems with
   |[]=>some [.fslc (P.cellsOf e) []]
   |_::_=>(qi8 P e).bind fun ag=>(qt0 (fun d=>(qgc P n e d).bind (qhr ag)) elems).bind fun es=>match qep (P.cellsOf e) es with
    |true=>match Nat.ble 1 (P.cellsOf e)with
     |true=>some [.fslc (P.cellsOf e) es]
     |false=>none
    |false=>none
  |.struct fs,.agg parts=>(qqs (qgc P n) P 0 fs.toList parts).bind fun as=>match Nat.beq as.length (P.cellsOf t)with
   |true=>some as
   |false=>none
  |_,_=>none
def argA{H:Type} (P:Program) (n:Nat) (t:TypeId) (d:DataW H):Option AV:=(qi8 P t).bind fun ag=>(qgc P n t d).bind (qhr ag)
section
variable {W:World} {hg:GlobsIn W} {ρ:Place} {H:Type} {enc:TypeId × Value->H} {P:Program}
theorem qpz{ag:Bool} {as:List AV} {a:AV} (h:qhr ag as=some a):a.cells=as:=by
 cases ag with
 |true=>simp only[qhr,sj]at h;subst h;rfl
 |false=>
  unfold qhr at h;simp only at h;split at h
  ·rename_i b;split at h
   next hs=>simp only[sj]at h;subst h;cases b<;>first|rfl|simp[AV.single]at hs
   ·cases h
  ·cases h
theorem qkq{n:Nat}:∀{l:List AV},qep n l=true->∀i (h:i < l.length),l[i].cells.length=n
 |[],_,i,hi=>absurd hi (jk i)
 |a::r,h,i,hi=>by
  unfold qep at h;split at h
  ·rename_i hb;cases i with
   |zero=>exact Nat.eq_of_beq_eq_true hb
   |succ i=>exact qkq h i (by simpa using hi)
  ·cases h
theorem qoi{w:World} {base:Nat} {a:Addr} {n:Nat} {cs:List Value} (h:w.cells? base a n=some cs):cs.length=n/\∀i (h':i < cs.length),w.cell? (a.add i)=some cs[i]:=by
 unfold World.cells? at h;split at h
 ·have key:∀(l:List Nat) (cs:List Value),l.mapM (fun i=>w.cell? (a.add i))=some cs->cs.length=l.length/\∀i (h1:i < l.length) (h2:i < cs.length),w.cell? (a.add l[i])=some cs[i]:=by
   intro l;induction l with
   |nil=>intro cs h;simp at h;subst h;exact⟨rfl,fun i h=>absurd h (jk i)⟩
   |cons x l ih=>
    intro cs h;rw[List.mapM_cons]at h;obtain⟨y,hy,h⟩:=obs h;obtain⟨ys,hys,h⟩:=obs h;obtain rfl:y::ys=cs:=(by simpa using h);obtain⟨h1,h2⟩:=ih ys hys;refine⟨by simp[h1],fun i a b=>?_⟩;cases i with
    |zero=>exact hy
    |succ i=>exact h2 i (by simpa using a) (by simpa using b)
  obtain⟨h1,h2⟩:=key _ _ h;refine⟨by simpa using h1,fun i hi=>?_⟩;have:=h2 i (by rw[<- h1];exact hi) hi;simpa using this
 ·cases h
theorem ze5{w:World} {a:Addr} {v:Value} (h:w.cell? a=some v):a.spot=none/\a.block < w.heap.size:=by
 unfold World.cell? at h;split at h
 ·rename_i c t fr hh;split at h
  ·cases h
  ·rename_i hs;exact⟨by cases hsp:a.spot with
    |none=>rfl
    |some _=>rw[hsp]at hs;simp at hs,(Array.getElem?_eq_some_iff.1 hh).1⟩
 ·cases h
theorem qpy{a:Addr} (h:a.spot=none) (k:Nat):a.add k=⟨a.block,a.off+k,none⟩:=by
 cases a;simp only at h;subst h;unfold Addr.add;split
 next hk=>simp[hk]
 ·rfl
theorem qoh{base:Nat} {sp:Nat->Bool} {held:Bool}:∀{n:Nat} {fuel:Nat} {t:TypeId} {cs:List Value} {x:DataW H × List MemPlace} {as:List AV},
  DataW.trod enc P W base sp held fuel t cs=some x->qgc P n t x.1=some as->VRs (start W hg) as cs
 |0,_,_,_,_,_,_,h=>by simp[qgc]at h
 |n+1,fuel,t,cs,x,as,htr,h=>by
  obtain⟨u,hu,h⟩:=obs h;have one:∀{a:AV} {v:Value},VR (start W hg) a v->VRs (start W hg) [a] [v]:=fun h=>.cons h .nil;cases u with
  |bool=>
   cases fuel with
   |zero=>simp[DataW.trod]at htr
   |succ m=>unfold DataW.trod at htr;rw[hu]at htr;split at htr<;>simp_all;obtain⟨rfl⟩:=htr;obtain⟨a,ha,rfl⟩:=h;exact one (.bool _)
  |int k=>
   cases fuel with
   |zero=>simp[DataW.trod]at htr
   |succ m=>unfold DataW.trod at htr;rw[hu]at htr;split at htr<;>simp_all;obtain⟨⟨rfl,_⟩,rfl⟩:=htr;obtain⟨a,ha,rfl⟩:=h;exact one (.int _ _)
  |string=>
   cases fuel with
   |zero=>simp[DataW.trod]at htr
   |succ m=>unfold DataW.trod at htr;rw[hu]at htr;split at htr<;>simp_all;obtain⟨_,rfl⟩:=htr;obtain⟨a,ha,rfl⟩:=h;rename_i sb _;have hb:(⟨sb.data.toList.toArray⟩ : ByteArray)=sb:=(by cases sb;simp);have:=VR.str (ρ:=start W hg) sb.data.toList;rw[hb]at this;exact one this
  |slice e=>
   rcases DataW.trod_slice hu htr with⟨rfl,rfl⟩|⟨a,len,cap,elems,rest,m,rfl,rfl,rfl,hb,hl,hc,hlen,hel,_⟩
   ·simp only[sj]at h;subst h;exact one (.fnil _)
   ·simp only at h;split at h
    next hnil=>simp only[sj]at h;subst h;have:len=0:=(by rw[<- hlen];simpa using hnil);subst this;exact one (.fnone _ a cap)
    ·rename_i hcons;obtain⟨ag,hag,h⟩:=obs h;obtain⟨es,hes,h⟩:=obs h;split at h
     ·rename_i hsz;split at h
      ·rename_i hpos;simp only[sj]at h;subst h;obtain⟨g1,g2⟩:=qr1 hes;have hel':es.length=len:=(by rw[g1];simpa using hlen);have hpos':1<=P.cellsOf e:=jB hpos;have hes':=qkq hsz;have each:∀i (hi:i < es.length),∃ci:List Value,W.cells? base (a.add (i * P.cellsOf e)) (P.cellsOf e)=some ci/\VRs (start W hg) es[i].cells ci:=(by intro i hi;have hil:i < len:=(by omega);have hie:i < elems.length:=(by omega);have h1:=hel i hil;rw[List.getElem?_eq_getElem hie]at h1;obtain⟨ci,hci,hti⟩:=obs h1;have h2:=g2 i (by simpa using hie) hi;obtain⟨as',ha',hw'⟩:=obs h2;rw[qpz hw'];exact⟨ci,hci,qoh hti (by simpa using ha')⟩);have hne:0 < es.length:=by
        cases elems with
        |nil=>simp at hcons
        |cons _ _=>simp at g1;omega
       obtain⟨c0,hc0,hv0⟩:=each 0 hne;obtain⟨l0,cell0⟩:=qoi hc0;obtain⟨hspot,hblk⟩:=ze5 (cell0 0 (by omega));have hspot':a.spot=none:=(by simpa[Addr.add]using hspot);have hblk':a.block < W.heap.size:=(by simpa[Addr.add]using hblk);have ha:a=⟨a.block,a.off,none⟩:=(by cases a;simp at hspot';simp[hspot']);have key:VR (start W hg) (.fslc (P.cellsOf e) es) (.slice (some ⟨a.block,a.off,none⟩) es.length cap):=by
        refine .fslc (P.cellsOf e) es a.block a.off cap (fun i j=>(W.cell? ⟨a.block,a.off+i * P.cellsOf e+j,none⟩).getD undef) hblk' (by omega) hes' (fun i hi j hj=>?_) (fun i hi j hj=>?_)
        ·obtain⟨ci,hci,hvi⟩:=each i hi;obtain⟨li,celli⟩:=qoi hci;have:=celli j (by omega);have e1:(a.add (i * P.cellsOf e)).add j=⟨a.block,a.off+i * P.cellsOf e+j,none⟩:=(by rw[qpy hspot',qpy rfl]);rw[e1]at this;show W.cell? _=_;rw[this];rfl
        ·obtain⟨ci,hci,hvi⟩:=each i hi;obtain⟨li,celli⟩:=qoi hci;have hj':j < ci.length:=(by rw[hvi.1];exact hj);have:=celli j hj';have e1:(a.add (i * P.cellsOf e)).add j=⟨a.block,a.off+i * P.cellsOf e+j,none⟩:=(by rw[qpy hspot',qpy rfl]);rw[e1]at this;rw[this];exact(hvi.2 j hj hj')
       rw[hel',<- ha]at key;exact one key
      ·cases h
     ·cases h
  |struct fs=>
   obtain⟨xs,m,rfl,rfl,hlen,hxs,hf⟩:=DataW.trod_struct hu htr;simp only at h;have key:∀(l:List Field) (o k:Nat) (as:List AV),(∀i (hi:i < l.length),fs[k+i]? = some l[i])->k+l.length=fs.size->qqs (qgc P n) P o l ((xs.map (·.1)).drop k)=some as ->
     ∃len,as.length=len/\(o+len<=cs.length\/len=0)/\VRs (start W hg) as ((cs.drop o).take len):=by
    intro l;induction l with
    |nil=>
     intro o k as _ _ h;unfold qqs at h;split at h
     ·simp only[sj]at h;subst h;exact⟨0,rfl,.inr rfl,by simpa using VRs.nil⟩
     ·cases h
    |cons y l ih=>
     intro o k as hfs hk h;have hy:fs[k]? = some y:=hfs 0 (Nat.zero_lt_succ _);have hkx:k < xs.length:=(by rw[hxs];simp at hk;omega);have hdrop:(xs.map (·.1)).drop k=xs[k].1::(xs.map (·.1)).drop (k+1):=(by rw[List.drop_eq_getElem_cons (by simpa using hkx)];simp);rw[hdrop]at h;unfold qqs at h;simp only at h;split at h
     ·cases h
     ·rename_i hoff;obtain⟨as1,h1,h⟩:=obs h;split at h
      ·cases h
      next hl1=>obtain⟨r,hr,h⟩:=obs h;simp only[sj]at h;subst h;have hoff':y.offset=o:=Nat.eq_of_beq_eq_true hoff;have hl1':as1.length=P.cellsOf y.type:=Nat.eq_of_beq_eq_true hl1;have ht:=hf k y hy;rw[List.getElem?_eq_getElem hkx,hoff']at ht;have hv1:=qoh ht h1;obtain⟨len,q1,q2,q3⟩:=ih (o+P.cellsOf y.type) (k+1) r (fun i hi=>by have:=hfs (i+1) (by simpa using hi);simpa[Nat.add_assoc,Nat.add_comm 1 i]using this) (by simp at hk;omega) hr;have hsize:((cs.drop o).take (P.cellsOf y.type)).length=P.cellsOf y.type:=(by rw[hv1.1,hl1']);have hle:o+P.cellsOf y.type<=cs.length\/P.cellsOf y.type=0:=(by rw[yh,j9]at hsize;omega);refine⟨P.cellsOf y.type+len,by simp[hl1',q1],by omega,?_⟩;have hsplit:(cs.drop o).take (P.cellsOf y.type+len)=(cs.drop o).take (P.cellsOf y.type)++(cs.drop (o+P.cellsOf y.type)).take len:=(by rw[List.take_add,List.drop_drop]);rw[hsplit];exact hv1.append q3
   obtain⟨as',has,h⟩:=obs h;split at h
   next htot=>simp only[sj]at h;subst h;have htot':as'.length=P.cellsOf t:=Nat.eq_of_beq_eq_true htot;obtain⟨len,q1,q2,q3⟩:=key fs.toList 0 0 as' (fun i hi=>by simp at hi ⊢) (by simp) (by simpa using has);have hle:len=cs.length:=(by omega);simpa[hle]using q3
   ·cases h
  |_=>simp at h
theorem argA_run{n:Nat} {r:Reach} {b0:Nat} {base:Nat} {sp:Nat->Bool} {held:Bool} {t:TypeId} {v:Value} {d:DataW H} {ps:List MemPlace} {a:AV} (ht:DataW.Trod enc P W base sp held t v d ps) (hok:Value.okWide P W r b0 t v) (h:argA P n t d=some a):VR (start W hg) a v:=by
 obtain⟨fuel,hf⟩:=ht;obtain⟨ag,hag,h⟩:=obs h;obtain⟨as,has,h⟩:=obs h;have hv:=qoh (hg:=hg) hf has;obtain⟨u,hu,hag⟩:=obs hag;have agg:∀cs:Array Value,v=.agg cs->ag=true->VR (start W hg) a v:=by rintro cs rfl rfl;simp only[qhr,sj]at h;subst h;exact .agg as cs (by simpa[Value.cells]using hv.1) fun i h1 h2=>hv.2 i h1 (by simpa[Value.cells]using h2)
 have cell:ag=false->Cell.okWide P W r b0 t v->VR (start W hg) a v:=by
  rintro rfl hc;have hcs:v.cells = #[v]:=by
   cases v with
   |agg cs=>simp only[Cell.okWide,Cell.ok]at hc;revert hc;cases P.underlying t with
    |none=>exact fun h=>h.elim
    |some u=>cases u<;>exact fun h=>h.elim
   |_=>rfl
  unfold qhr at h;simp only at h;split at h
  ·split at h
   ·simp only[sj]at h;subst h;rw[hcs]at hv;exact hv.head
   ·cases h
  ·cases h
 unfold Value.okWide at hok;rw[hu]at hok;cases u with
 |struct fs=>obtain⟨cs,h1,_⟩:=hok;simp only[sj]at hag;exact agg cs h1 hag.symm
 |array k e=>obtain⟨cs,h1,_⟩:=hok;simp only[sj]at hag;exact agg cs h1 hag.symm
 |_=>simp only[sj]at hag;exact cell hag.symm hok
end
@[simp]theorem lookK_hit{t:Nat} {ks:List Nat} {v:AV} {vs:List AV}:qgw t (t::ks) (v::vs)=some v:=by simp[qe8,qk2]
@[simp]theorem lookK_miss{t k:Nat} (h:k≠t) {ks:List Nat} {v:AV} {vs:List AV}:qgw t (k::ks) (v::vs)=qgw t ks vs:=by simp[qe8,qaw h]
@[simp]theorem lookK_nil{t:Nat} {vs:List AV}:qgw t [] vs=none:=rfl
@[simp]theorem look_hit{t:Nat} {v:AV} {r:List (Nat × AV)}:look t ((t,v)::r)=some v:=by simp[qfo,qov]
@[simp]theorem look_miss{t k:Nat} (h:k≠t) {v:AV} {r:List (Nat × AV)}:look t ((k,v)::r)=look t r:=by simp[qfo,qaw h]
@[simp]theorem look_nil{t:Nat}:look t []=none:=rfl
@[simp]theorem putK_hit{t:Nat} {ks:List Nat} {x v:AV} {vs:List AV}:zax t v (t::ks) (x::vs)=some (v::vs):=by simp[qwc,putK_n]
@[simp]theorem putK_miss{t k:Nat} (h:k≠t) {ks:List Nat} {x v:AV} {vs:List AV}:zax t v (k::ks) (x::vs)=(zax t v ks vs).bind fun r=>some (x::r):=by simp[qwc,qaw h]
@[simp]theorem putK_nil{t:Nat} {v:AV} {vs:List AV}:zax t v [] vs=none:=rfl
@[simp]theorem St_get_mk{ks:List Nat} {vs:List AV} {ts:List (Nat × AV)} {sz t:Nat} {H:Heap}:St.get ⟨ks,vs,ts,sz,H⟩ t=match qgw t ks vs with
  |some v=>some v
  |none=>look t ts:=rfl
@[simp]theorem St_set_mk{ks:List Nat} {vs:List AV} {ts:List (Nat × AV)} {sz t:Nat} {H:Heap} {v:AV} (h:t < sz):St.set ⟨ks,vs,ts,sz,H⟩ t v=match zax t v ks vs with
  |some vs=>some ⟨ks,vs,ts,sz,H⟩
  |none=>some ⟨ks,vs,(t,v)::ts,sz,H⟩:=by
 have:Nat.blt t sz=true:=by simpa using h
 unfold St.set;simp only[this];cases zax t v ks vs<;>rfl
@[simp]theorem St_put_some{s:St} {t:Nat} {v:AV}:s.put (some t) v=s.set t v:=rfl
@[simp]theorem St_put_none{s:St} {v:AV}:s.put none v=some s:=rfl
@[simp]theorem opnd_tmp{s:St} {t:Nat}:qc0 s (.tmp t)=s.get t:=rfl
@[simp]theorem opnd_const{s:St} {v:Value}:qc0 s (.const v)=some (ofV v):=rfl
@[simp]theorem opnd_func{s:St} {f:FuncId}:qc0 s (.func f)=some (.func (.func f) [] []):=rfl
@[simp]theorem opnds_nil{s:St}:qg5 s []=some []:=rfl
theorem zdd{s:St} {x:Operand} {r:List Operand}:qg5 s (x::r)=(qc0 s x).bind fun v=>(qg5 s r).bind fun vs=>some (v::vs):=rfl
section
variable {C:Ctx} {s:St}
@[simp]theorem evalOps_nil{call:qcj} {ops:Array Oper}:qff C call ops [] s=some s:=rfl
theorem qxm{call:qcj} {ops:Array Oper} {o:Oper} {r:List Oper}:qff C call ops (o::r) s=(qi4 C call ops o (qbw s o)).bind fun s=>qff C call ops r s:=rfl
end
def qan(K:St->Prop) (Q:Out->St->Prop):Out->St->Prop
 |.normal,s=>K s
 |x,s=>Q x s
def qah(id:Nat) (Q:Out->St->Prop):Out->St->Prop
 |.exit k,s=>if k=id then Q .normal s else Q (.exit k) s
 |x,s=>Q x s
section
variable {C:Ctx} {s:St} {Q:Out->St->Prop}
@[simp]theorem thenQ_normal{K:St->Prop} {s:St}:qan K Q .normal s=K s:=rfl
@[simp]theorem thenQ_exit{K:St->Prop} {s:St} {k:Nat}:qan K Q (.exit k) s=Q (.exit k) s:=rfl
@[simp]theorem thenQ_goto{K:St->Prop} {s:St} {k:Nat}:qan K Q (.goto k) s=Q (.goto k) s:=rfl
@[simp]theorem thenQ_ret{K:St->Prop} {s:St}:qan K Q .ret s=Q .ret s:=rfl
@[simp]theorem blockQ_normal{id:Nat} {s:St}:qah id Q .normal s=Q .normal s:=rfl
@[simp]theorem qzw{id k:Nat} {s:St}:qah id Q (.exit k) s=if k=id then Q .normal s else Q (.exit k) s:=rfl
@[simp]theorem blockQ_goto{id k:Nat} {s:St}:qah id Q (.goto k) s=Q (.goto k) s:=rfl
@[simp]theorem blockQ_ret{id:Nat} {s:St}:qah id Q .ret s=Q .ret s:=rfl
