/- Regions that draw their order: the theorem. No condition. -/
import Derived.Test.YtnfdakclfmchfaaGreatMB
import Derived.Lib.UnsafeStr
import Derived.OrdersIn
import Derived.RangeFuncCalls
namespace Go.Proofs.YtnfdakclfmchfaaGreat
set_option linter.unusedSimpArgs false
set_option linter.unusedVariables false
open Go Go.RowKit
noncomputable section
section
variable {ρ:Place} {w:World}
def Done(ρ:Place) (H:Heap) (w:World) (r:Result Next) (v:AV) (H':Heap):Prop:=
 ∃x ρ' w',VR ρ' v x/\Sim ρ' H' w'/\Step ρ H w ρ' H' w'/\(r=.ok (.value x) w'\/(r=.ok .skip w'/\x=undef))
theorem Done.of_good{H H':Heap} {v:AV} {P:Program} {sem:Sem Value} (h:Good ρ H w (sem.run P w) v H'):Done ρ H w ((do Pure.pure (Next.value (<- sem)):Sem Next).run P w) v H':=by obtain⟨x,ρ',w',h1,h2,h3,h4⟩:=h;exact⟨x,ρ',w',h2,h3,h4,.inl (by simp[h1])⟩
theorem Done.pure{H:Heap} {v:AV} {x:Value} {P:Program} {sem:Sem Value} (s:Sim ρ H w) (hr:sem.run P w=.ok x w) (hv:VR ρ v x):Done ρ H w ((do Pure.pure (Next.value (<- sem)):Sem Next).run P w) v H:=
 .of_good (Good.pure s hv hr)
theorem Done.unit{H H':Heap} {w':World} {P:Program} {sem:Sem Unit} (hr:sem.run P w=.ok () w') (s:Sim ρ H' w') (t:Step ρ H w ρ H' w'):Done ρ H w ((do sem;Pure.pure Next.skip:Sem Next).run P w) .undef H':=
 ⟨undef,ρ,w',.undef _,s,t,.inr ⟨by simp[hr],rfl⟩⟩
theorem vrs_nil{xs:List Value} (h:VRs ρ [] xs):xs=[]:=by cases xs with|nil=>rfl|cons _ _=>have:=h.1;simp at this
theorem qjr{v:AV} {xs:List Value} (h:VRs ρ [v] xs):∃x,xs=[x]/\VR ρ v x:=by
 cases xs with
 |nil=>have:=h.1;simp at this
 |cons x r=>exact⟨x,by rw[vrs_nil h.tail],h.head⟩
theorem qnf{v u:AV} {xs:List Value} (h:VRs ρ [v,u] xs):∃x y,xs=[x,y]/\VR ρ v x/\VR ρ u y:=by
 cases xs with
 |nil=>have:=h.1;simp at this
 |cons x r=>obtain⟨y,rfl,hy⟩:=qjr h.tail;exact⟨x,y,rfl,h.head,hy⟩
theorem qsr{C:Ctx} {o:Oper} {s:St} {a:Act} {k:(Nat->AV) × Blk} (sm:Sim ρ s.H w) (e:EnvR ρ s a) (h:qbt C o s=some k) :
  ∃(ob:Obj) (fin:Nat) (x:Value),(execOp a.eval o).run C.P w=.ok (.value x) (w.alloc ob)/\∀n,ρ n=none ->
   VR (ρ.upd n ⟨w.heap.size,0,fin⟩) (k.1 n) x/\BlkR (ρ.upd n ⟨w.heap.size,0,fin⟩) (w.alloc ob) ⟨w.heap.size,0,fin⟩ k.2:=by
 unfold qbt at h;have cells:∀{cs:List AV} {c:Array Value} {t:TypeId},VRs ρ cs c.toList->∀n,ρ n=none->BlkR (ρ.upd n ⟨w.heap.size,0,c.size⟩) (w.alloc (.cells c t)) ⟨w.heap.size,0,c.size⟩ (.cells cs):=fun {cs c t} hv n hn=>
  qoq (by rw[<- hv.1];simp) (fun i h h'=>(hv.2 i h (by simpa using h')).mono (Place.le_upd hn)) (fun i _=>by simp)
 have qy0:∀{cs:List AV} {c:Array Value} {t el:TypeId} {d:Option Tmp},C.P.underlying t=some (.slice el)->VRs ρ cs c.toList->∀n,ρ n=none->BlkR (ρ.upd n ⟨w.heap.size,0,c.size⟩) (w.alloc (.cells c el)) ⟨w.heap.size,0,c.size⟩ (qz2 C.P t d cs):=fun {cs c t el d} hu hv n hn=>by
  have hk:qq5 el cs (qz2 C.P t d cs):=by
   unfold qz2;split
   ·exact .inl rfl
   ·split
    ·rw[hu];exact .inr ⟨0,Nat.zero_le _,rfl⟩
    ·exact .inl rfl
  exact zcp hk (by rw[<- hv.1];simp) (fun i h h'=>(hv.2 i h (by simpa using h')).mono (Place.le_upd hn))
 split at h
 ·rename_i t hop;replace h:=obs h;obtain⟨z,hz,h⟩:=h;replace h:=obs h;obtain⟨n,hn,h⟩:=h;split at h
  ·simp only[sj]at h;subst h;obtain⟨zv,rfl,hzr,_⟩:=qel hz;refine⟨_,zv.cells.size,_,by simp[execOp,hop,Instr.alloc,hzr,newVar,newRow,newObj,Sem.run];rfl,fun m hm=>⟨.ptr m 0 _ Place.upd_same,?_⟩⟩;have h0:=cells (t:=t) (VRs.const (ρ:=ρ) zv) m hm;dsimp only;split
   ·refine⟨h0,rfl,?_⟩;have hh:(w.alloc (.cells zv.cells t)).heap[w.heap.size]? = some (.cells zv.cells t (0,0)):=(by show (w.heap.push _)[w.heap.size]? = _;simp);have hl:(ofV zv).cells.length=zv.cells.size:=(by have:=(VRs.const (ρ:=ρ) zv).1;simp at this;omega);simp only[World.shape?,hh,hl]
   ·exact h0
  ·simp at h
 ·rename_i t x hop;replace h:=obs h;obtain⟨v,hv,h⟩:=h;split at h
  next hsing=>simp only[sj]at h;subst h;have hvr:=qb5 e hv;have hc:VRs ρ v.cells (a.eval x).cells.toList:=hvr.cells (by rintro rfl;simp[AV.cells,allSingle,AV.single]at hsing) (by rintro l rfl;simp[AV.cells,allSingle,AV.single]at hsing);refine⟨_,(a.eval x).cells.size,_,by simp[execOp,hop,Instr.box,newVar,newRow,newObj,Sem.run];rfl,fun m hm=>⟨.ptr m 0 _ Place.upd_same,cells hc m hm⟩⟩
  ·simp at h
 ·rename_i t len parts hop;replace h:=obs h;obtain⟨ps,hps,h⟩:=h;replace h:=obs h;obtain⟨cs,hcs,h⟩:=h;simp only[sj]at h;subst h;obtain⟨h1,h2⟩:=qnu e hps;obtain⟨c,el,hund,hrun,hv⟩:=qp6 (vals:=parts.toList.map fun p=>(p.1,a.eval p.2)) sm hcs (by simp[h1]) (by simpa[Function.comp_def]using h2);refine⟨.cells c el,c.size,.slice (some ⟨w.heap.size,0,none⟩) len len,?_,fun m hm=>⟨.slcE m 0 len len _ Place.upd_same (Nat.le_refl _),qy0 hund hv m hm⟩⟩;have:(parts.toList.map fun p=>(p.1,a.eval p.2)).toArray=parts.map fun(i,x)=>(i,a.eval x):=by simp[<- List.map_toArray]
  rw[this]at hrun;simp[execOp,hop,hrun]
 next t l c hop=>replace h:=obs h;obtain⟨p,hp,h⟩:=h;replace h:=obs h;obtain⟨u,hu,h⟩:=h;obtain⟨ob,fin,x,h1,h2⟩:=msB_run (P:=C.P) (w:=w) h (qb5 e hp) (qb5 e hu);exact⟨ob,fin,x,by simp[execOp,hop,h1],h2⟩
 ·rename_i t r hop;replace h:=obs h;obtain⟨_,hr,h⟩:=h;simp only[sj]at h;subst h;refine⟨.map #[] 0,0,.map (some w.heap.size),?_,fun m hm=>⟨.map m _ Place.upd_same,#[],0,?_,rfl,fun i h=>absurd h (Nat.not_lt_zero i),by simp[zd2]⟩⟩
  ·cases r with
   |none=>simp[execOp,hop,Instr.makeMap,newObj,Sem.run]
   |some x=>
    obtain⟨v,hv,hr⟩:=obs hr;have hvr:=qb5 e hv;obtain⟨d,hd,hr⟩:=obs hr;split at hr
    next k i=>cases hvr':a.eval x<;>rw[hvr']at hvr<;>cases hvr;simp[execOp,hop,Instr.makeMap,run_underlying hd,hvr',asInt,asIntOf,newObj,Sem.run]
    ·simp at hr
  ·show (w.heap.push _)[w.heap.size]? = _;simp
 ·simp at h
theorem us_eq{ts:Array TypeId} {ty t:TypeId} {p:Option Addr} {n:Value} (ht:ts[0]? = some t):Builtin.unsafeString_ ts ty #[.pointer p,n]=Builtin.unsafeString_ #[t,t] ty #[.pointer p,n]:=by
 have e : ∀ ts : Array TypeId, Builtin.unsafeString_ ts ty #[.pointer p, n] = (do
       let n <- asInt n
       let some pt := ts[0]? | stuck "unsafe.String: no argument types"
       if n < 0 then runtimePanic (.error "unsafe.String: len out of range")
       if n > IntKind.i64.max then unsupported (.unsafePointer "String: a length above the largest int")
       match p with
       |none=>
         if n=0 then pure (.string .empty)
         else runtimePanic (.error "unsafe.String: ptr is nil and len is not zero")
       |some a=>
         if n=0 then pure (.string .empty)
         else if <- variablesAt a (<- elemOf pt) n.toNat then do
           let s <- loadBytes a .empty n.toNat
           freeze a n.toNat
           pure (.string s)
         else unsupported (.unsafePointer "String: not so many bytes at ptr")) := fun ts => rfl
 rw[e,e,ht];rfl
theorem qv9{v:AV} {c:UInt8} (h:zck v=some c):v=.int .u8 c.toNat:=by
 unfold zck at h;split at h
 next n=>replace h:=obs h;obtain⟨m,hm,h⟩:=h;obtain⟨rfl,hlt⟩:=qcw hm;have h:=Option.some.inj h;subst h;simp only[UInt8.toNat_ofNat'];rw[Nat.mod_eq_of_lt (by omega)]
 ·cases h
theorem qop:∀{l:List AV} {s:List UInt8},qxg l=some s->s.length=l.length/\∀i (h:i < l.length) (h':i < s.length),l[i]=.int .u8 s[i].toNat
 |[],s,h=>by simp only[qxg,sj]at h;subst h;exact⟨rfl,fun i h=>absurd h (Nat.not_lt_zero i)⟩
 |v::r,s,h=>by
  obtain⟨c,h1,h⟩:=obs h;obtain⟨cs,h2,h⟩:=obs h;simp only[sj]at h;subst h;obtain⟨g1,g2⟩:=qop h2;refine⟨by simp[g1],fun i a b=>?_⟩;cases i with
  |zero=>exact qv9 h1
  |succ i=>exact g2 i (by simpa using a) (by simpa using b)
theorem qi7{s:St} {a:Act} (e:EnvR ρ s a) {xs:Array Operand} {vs:List AV} (h:qex s xs.toList=some vs):VRs ρ vs (xs.map a.eval).toList:=by simpa using qsm e h
theorem VR.args{fn:Fn} {a c:List AV} {x:Value} (h:VR ρ (.func fn a c) x):∃a' c',x=.func fn a' c'/\VRs ρ a a'.toList/\VRs ρ c c'.toList:=by
 cases h with
 |func _ _ _ a' c' ha hc hav hcv=>exact⟨a',c',rfl,qkb ha hav,qkb hc hcv⟩
theorem qvb{C:Ctx} {H H':Heap} (sm:Sim ρ H w) {b:Builtin} {ts:Array TypeId} {ty:TypeId} {cs:Array Bool} {args:List AV} {v:AV} {xs:List Value} (h:qc0 C.P H b ts args=some (v,H'))
  (hv:VRs ρ args xs):Done ρ H w ((builtin b ts ty cs xs.toArray).run C.P w) v H':=by
 unfold qc0 at h;split at h
 ·obtain⟨x,rfl,hx⟩:=qjr hv;replace h:=obs h;obtain⟨t,ht,h⟩:=h;replace h:=obs h;obtain⟨n,hn,h⟩:=h;simp only[sj,Prod.mk.injEq]at h;obtain⟨rfl,rfl⟩:=h;exact Done.pure sm (len_run sm ht hn hx) (.int _ _)
 ·obtain⟨x,y,rfl,hx,hy⟩:=qnf hv;replace h:=obs h;obtain⟨t,ht,h⟩:=h;replace h:=obs h;obtain⟨d,hd,h⟩:=h;split at h
  ·rename_i elem;replace h:=obs h;obtain⟨q,hu,h⟩:=h;split at hu
   ·rename_i u hu1;obtain⟨ud,hud,hu⟩:=obs hu;split at hu
    ·simp only[sj]at hu;subst hu;exact Done.of_good (qq4 sm ht hd hu1 (.inl hud) h hx hy)
    ·simp only[sj]at hu;subst hu;exact Done.of_good (qq4 sm ht hd hu1 (.inr ⟨_,hud⟩) h hx hy)
    ·simp only[sj]at hu;subst hu;exact Done.of_good (grow_run sm ht hd hu1 hud h hx hy)
    ·simp at hu
   ·simp at hu
  ·simp at h
 ·obtain⟨x,rfl,hx⟩:=qjr hv;replace h:=obs h;obtain⟨t,ht,h⟩:=h;replace h:=obs h;obtain⟨d,hd,h⟩:=h;split at h
  ·simp only[sj,Prod.mk.injEq]at h;obtain⟨rfl,rfl⟩:=h;cases hx;refine Done.pure sm ?_ (.int _ _);simp[builtin,Builtin.cap_,ht,run_underlying hd,goInt]
  ·simp at h
 ·obtain⟨x,y,rfl,hx,hy⟩:=qnf hv;replace h:=obs h;obtain⟨t,ht,h⟩:=h;replace h:=obs h;obtain⟨d,hd,h⟩:=h;split at h
  ·exact Done.of_good (copy_run sm ht hd h hx hy)
  ·simp at h
 ·obtain⟨x,rfl,hx⟩:=qjr hv;replace h:=obs h;obtain⟨t,ht,h⟩:=h;replace h:=obs h;obtain⟨H1,hc,h⟩:=h;simp only[sj,Prod.mk.injEq]at h;obtain⟨rfl,rfl⟩:=h;exact Done.of_good (zch sm ht hc hx)
 ·obtain⟨x,y,rfl,hx,hy⟩:=qnf hv;replace h:=obs h;obtain⟨t,ht,h⟩:=h;replace h:=obs h;obtain⟨H1,hc,h⟩:=h;simp only[sj,Prod.mk.injEq]at h;obtain⟨rfl,rfl⟩:=h;exact Done.of_good (qyo sm ht hc hx hy)
 ·obtain⟨x,y,rfl,hx,hy⟩:=qnf hv;split at h
  ·cases hx;cases hy;split at h
   next hk=>simp only[sj,Prod.mk.injEq]at h;obtain⟨rfl,rfl⟩:=h;subst hk;exact Done.pure sm (by show (Sem.run C.P (if _=_ then pure _ else stuck _) w)=_;rw[if_pos rfl];rfl) (.cplx _ _ _)
   ·simp at h
  ·simp at h
 ·obtain⟨x,rfl,hx⟩:=qjr hv;split at h
  ·cases hx;simp only[sj,Prod.mk.injEq]at h;obtain⟨rfl,rfl⟩:=h;exact Done.pure sm rfl (.float _ _)
  ·simp at h
 ·obtain⟨x,rfl,hx⟩:=qjr hv;split at h
  ·cases hx;simp only[sj,Prod.mk.injEq]at h;obtain⟨rfl,rfl⟩:=h;exact Done.pure sm rfl (.float _ _)
  ·simp at h
 ·obtain⟨x,rfl,hx⟩:=qjr hv;split at h
  ·simp only[sj,Prod.mk.injEq]at h;obtain⟨rfl,rfl⟩:=h;cases hx;exact Done.pure sm (sem:=Builtin.unsafeSliceData_ ts ty #[.slice none 0 0]) rfl .nilP
  ·split at h
   ·simp at h
   ·rename_i b o cap len;simp only[sj,Prod.mk.injEq]at h;obtain⟨rfl,rfl⟩:=h;cases hx with
    |slcE _ _ _ c l hl hc=>exact Done.pure sm (Lib.run_unsafeSliceData_row _ _ _ _ _ _ (by omega)) (.ptr _ _ l hl)
    |slcR _ _ _ sz c l hl hc hf=>exact Done.pure sm (Lib.run_unsafeSliceData_row _ _ _ _ _ _ (by omega)) (.ptr _ _ l hl)
  ·simp at h
 ·obtain⟨x,y,rfl,hx,hy⟩:=qnf hv;split at h
  ·rename_i n0;replace h:=obs h;obtain⟨n,hn,h⟩:=h;obtain⟨rfl,hnlt⟩:=qcw hn;cases hy;split at h
   ·replace h:=obs h;obtain⟨t,ht,h⟩:=h;split at h
    ·simp only[sj,Prod.mk.injEq]at h;obtain⟨rfl,rfl⟩:=h;cases hx;exact Done.pure sm (sem:=Builtin.unsafeString_ ts ty _) (by rw[us_eq ht];exact Lib.run_unsafeString_none w t t ty none) (.str [])
    ·simp at h
   ·rename_i b o;replace h:=obs h;obtain⟨t,ht,h⟩:=h;replace h:=obs h;obtain⟨d,hd,h⟩:=h;split at h
    ·rename_i u;replace h:=obs h;obtain⟨k,hk,h⟩:=h;split at h
     ·rename_i e fz cs;split at h
      ·rename_i hc;simp only[Bool.and_eq_true]at hc;have h1:=Nat.eq_of_beq_eq_true hc.1.1;have h2:=Nat.eq_of_beq_eq_true hc.1.2;have h3:0 < n:=Nat.le_of_ble_eq_true hc.2;subst h1;subst h2;replace h:=obs h;obtain⟨ud,hud,h⟩:=h;split at h
       ·rename_i hc1;have hc1:=Nat.eq_of_beq_eq_true hc1;replace h:=obs h;obtain⟨bs,hbs,h⟩:=h;replace h:=obs h;obtain⟨st,hst,h⟩:=h;replace h:=obs h;obtain⟨H1,hset,h⟩:=h;simp only[sj,Prod.mk.injEq]at h;obtain⟨rfl,rfl⟩:=h;cases hx with
        |ptr _ _ l hl=>
         obtain⟨l',hl',_,hlt,hr⟩:=sm.block hk;rw[hl]at hl';cases hl';obtain⟨⟨r1,r2,r3⟩,r4,r5,c,lo,hi,hheap,hz⟩:=hr;obtain⟨hle,rfl⟩:=qlk hbs;obtain⟨hsl,hsv⟩:=qop hst;have hlen:st.length=n:=(by rw[hsl];simp;omega);have hcells:∀j x,st[j]? = some x->w.cell? ((⟨l.cb,0,none⟩ : Addr).add j)=some (.int .u8 x.toNat):=fun j x hj=>(by obtain⟨hjl,hjx⟩:=List.getElem?_eq_some_iff.1 hj;obtain⟨y,hy,hyv⟩:=r3 j (by omega);have hvj:=hsv j (by rw[<- hsl];exact hjl) hjl;rw[List.getElem_take]at hvj;rw[hvj]at hyv;cases hyv;rw[qep,Nat.zero_add];rw[r4,Nat.zero_add]at hy;rw[hy,hjx]);have hsz:n<=c.size:=by
          obtain⟨y,hy,_⟩:=r3 (n - 1) (by omega);simp only[World.cell?,hheap,r4]at hy;by_cases hlt:0+(n - 1) < c.size
          ·omega
          ·have hz':c.size<=0+(n - 1):=(by omega);rw[Array.getElem?_eq_none hz']at hy;simp at hy
         have hrun:=Lib.run_unsafeString_row (P:=C.P) w t t ty e hd hc1 l.cb c.size (by simp only[World.shape?,hheap]) st (by intro h0;rw[h0]at hlen;simp at hlen;omega) (by omega) (by omega) hcells;have hrun2:(Builtin.unsafeString_ ts ty #[.pointer (some ⟨l.cb,l.off+0,none⟩),.int .i64 (n:Int)]).run C.P w=.ok (.string ⟨st.toArray⟩) (w.freeze ⟨l.cb,0,none⟩ st.length):=(by rw[us_eq ht,<- hrun,hlen,r4]);obtain⟨hn',hd',hk',⟨k0,hk0⟩,hs⟩:=qkp (vs:=[]) hset sm.nodup;have hne:st.length≠0:=(by omega);have hfh:(w.freeze ⟨l.cb,0,none⟩ st.length).heap[l.cb]? = some (.cells c e (if lo == hi then (0,0+st.length) else (min lo 0,max hi (0+st.length)))):=(by simp only[World.freeze,hne,if_false,Array.getElem?_modify,hheap];simp);obtain⟨pr,hpr⟩ : ∃pr:Nat × Nat,pr=(if (lo == hi)=true then (0,0+st.length) else (min lo 0,max hi (0+st.length))):=⟨_,rfl⟩;have hbound:pr.2<=max fz n:=by
          split at hpr
          ·subst hpr;show 0+st.length<=_;omega
          ·rename_i hlh;subst hpr;show max hi (0+st.length)<=_;rcases hz with hz|hz
           ·exact absurd (by simp[hz]) hlh
           ·omega
         have hfh:(w.freeze ⟨l.cb,0,none⟩ st.length).heap[l.cb]? = some (.cells c e pr):=(by rw[hfh,hpr]);have hcell:∀i,(w.freeze ⟨l.cb,0,none⟩ st.length).cell? ⟨l.cb,i,none⟩=w.cell? ⟨l.cb,i,none⟩:=fun i=>(by simp only[World.cell?,hfh,hheap]);have hrest:(w.freeze ⟨l.cb,0,none⟩ st.length).heap.size=w.heap.size/\(w.freeze ⟨l.cb,0,none⟩ st.length).os=w.os/\(w.freeze ⟨l.cb,0,none⟩ st.length).tape=w.tape/\(w.freeze ⟨l.cb,0,none⟩ st.length).output=w.output:=(by unfold World.freeze;rw[if_neg hne];exact⟨by simp,rfl,rfl,rfl⟩);obtain⟨g1,g2⟩:=sm.turned (w':=w.freeze ⟨l.cb,0,none⟩ st.length) hk0 hl hn' hd' hk' hs hrest.1 (fun j hj=>by
           unfold World.freeze;rw[if_neg hne];simp only[Array.getElem?_modify];rw[if_neg (fun e=>hj e.symm)]) hrest.2.1 hrest.2.2.1 hrest.2.2.2 (by
           refine⟨⟨r1,fun i hi=>by rw[hcell];exact r2 i hi,fun i hi=>by rw[hcell];exact r3 i hi⟩,r4,?_,c,_,_,hfh,?_⟩
           ·have:Nat.max fz n<=cs.length:=Nat.max_le.2 ⟨r5,hle⟩;exact this
           ·exact .inr hbound)
         exact⟨_,ρ,_,.str st,g1,g2,.inl (by show ((do Pure.pure (Next.value (<- Builtin.unsafeString_ ts ty _)):Sem Next)).run C.P w=_;simp only[Sem.run_bind,hrun2,Result.andThen_ok];rfl)⟩
       ·simp at h
      ·simp at h
     ·simp at h
    ·simp at h
   ·simp at h
  ·simp at h
 ·cases xs with
  |nil=>have:=hv.1;simp at this
  |cons x r=>replace h:=obs h;obtain⟨u,hu,h⟩:=h;simp only[sj,Prod.mk.injEq]at h;obtain⟨rfl,rfl⟩:=h;obtain⟨y,h1,h2⟩:=qmz (P:=C.P) hu hv.head hv.tail w;exact Done.pure sm (by simpa[Builtin.max_]using h1) h2
 ·cases xs with
  |nil=>have:=hv.1;simp at this
  |cons x r=>replace h:=obs h;obtain⟨u,hu,h⟩:=h;simp only[sj,Prod.mk.injEq]at h;obtain⟨rfl,rfl⟩:=h;obtain⟨y,h1,h2⟩:=qmz (P:=C.P) hu hv.head hv.tail w;exact Done.pure sm (by simpa[Builtin.min_]using h1) h2
 ·simp at h
def zaf(o:Op):Prop:=∀c,o=.call c->∃b,c.callee=.builtin b
theorem val_run{C:Ctx} {call:qc5} {o:Oper} {s:St} {a:Act} {v:AV} {H':Heap} (sm:Sim ρ s.H w) (e:EnvR ρ s a) (h:qae C call o s=some (v,H')) (hq:zaf o.op) :
  Done ρ s.H w ((execOp a.eval o).run C.P w) v H':=by
 have put:∀{x:Option AV},(x.bind fun x=>some (x,s.H))=some (v,H')->x=some v/\H'=s.H:=fun {x} hx=>by obtain⟨y,hy,hx⟩:=obs hx;simp only[sj,Prod.mk.injEq]at hx;exact⟨by rw[hy,hx.1],hx.2.symm⟩
 have pure_:∀{x:Value},VR ρ v x->H'=s.H->(execOp a.eval o).run C.P w=.ok (.value x) w->Done ρ s.H w ((execOp a.eval o).run C.P w) v H':=fun {x} hv hH hr=>by subst hH;exact⟨x,ρ,w,hv,sm,.refl _ _ _,.inl hr⟩
 have blk:∀{k:(Nat->AV) × Blk},qbt C o s=some k->v=k.1 s.H.n->H'=s.H.new k.2->Done ρ s.H w ((execOp a.eval o).run C.P w) v H':=fun {k} hk hv hH=>by obtain⟨ob,fin,x,h1,h2⟩:=qsr sm e hk;obtain⟨h3,h4⟩:=h2 s.H.n (sm.dom _ (Nat.le_refl _));obtain⟨g1,g2⟩:=sm.new ob fin k.2 h4;subst hv;subst hH;exact⟨x,_,_,h3,g1,g2,.inl h1⟩
 unfold qae at h;simp only at h;split at h
 next x hop=>obtain⟨hx,rfl⟩:=put h;exact pure_ (qb5 e hx) rfl (by simp[execOp,hop])
 next x hop=>obtain⟨hx,rfl⟩:=put h;exact pure_ (qb5 e hx) rfl (by simp[execOp,hop])
 ·rename_i c x y hop;replace h:=obs h;obtain⟨cv,hc,h⟩:=h;have hcr:=qb5 e hc;split at h
  ·rename_i t;have hce:a.eval c=.bool t:=(by cases hq:a.eval c<;>rw[hq]at hcr<;>cases hcr;rfl);split at h
   ·obtain⟨hx,rfl⟩:=put h;exact pure_ (qb5 e hx) rfl (by simp[execOp,hop,hce,asBool])
   ·obtain⟨hx,rfl⟩:=put h;exact pure_ (qb5 e hx) rfl (by simp[execOp,hop,hce,asBool])
  ·simp at h
 ·replace h:=obs h;obtain⟨k,hk,h⟩:=h;simp only[sj,Prod.mk.injEq]at h;exact blk hk h.1.symm h.2.symm
 ·replace h:=obs h;obtain⟨k,hk,h⟩:=h;simp only[sj,Prod.mk.injEq]at h;exact blk hk h.1.symm h.2.symm
 ·replace h:=obs h;obtain⟨k,hk,h⟩:=h;simp only[sj,Prod.mk.injEq]at h;exact blk hk h.1.symm h.2.symm
 ·replace h:=obs h;obtain⟨k,hk,h⟩:=h;simp only[sj,Prod.mk.injEq]at h;exact blk hk h.1.symm h.2.symm
 ·replace h:=obs h;obtain⟨k,hk,h⟩:=h;simp only[sj,Prod.mk.injEq]at h;exact blk hk h.1.symm h.2.symm
 ·rename_i t parts hop;replace h:=obs h;obtain⟨ps,hps,h⟩:=h;obtain⟨hx,rfl⟩:=put h;obtain⟨h1,h2⟩:=qnu e hps;obtain⟨y,hr,hv⟩:=zcn (vals:=parts.toList.map fun p=>(p.1,a.eval p.2)) hx (by simp[h1]) (by simpa[Function.comp_def]using h2) w;refine pure_ hv rfl ?_;have:(parts.toList.map fun p=>(p.1,a.eval p.2)).toArray=parts.map fun(i,x)=>(i,a.eval x):=by simp[<- List.map_toArray]
  rw[this]at hr;simp[execOp,hop,hr]
 next t x hop=>replace h:=obs h;obtain⟨p,hp,h⟩:=h;obtain⟨hx,rfl⟩:=put h;obtain⟨y,hr,hv⟩:=qno sm hx (qb5 e hp);exact pure_ hv rfl (by simp[execOp,hop,hr])
 next t x y hop=>replace h:=obs h;obtain⟨p,hp,h⟩:=h;replace h:=obs h;obtain⟨u,hu,h⟩:=h;replace h:=obs h;obtain⟨H1,hw,h⟩:=h;simp only[sj,Prod.mk.injEq]at h;obtain⟨rfl,rfl⟩:=h;obtain⟨w',hr,h1,h2⟩:=qrw (P:=C.P) sm hw (qb5 e hp) (qb5 e hu);exact⟨undef,ρ,w',.undef _,h1,h2,.inr ⟨by simp[execOp,hop,hr],rfl⟩⟩
 ·rename_i x hop;replace h:=obs h;obtain⟨p,hp,h⟩:=h;have hpr:=qb5 e hp;split at h
  ·simp only[sj,Prod.mk.injEq]at h;obtain⟨rfl,rfl⟩:=h;refine pure_ hpr rfl ?_;cases hq:a.eval x<;>rw[hq]at hpr<;>cases hpr;simp[execOp,hop,hq]
  ·simp only[sj,Prod.mk.injEq]at h;obtain⟨rfl,rfl⟩:=h;refine pure_ hpr rfl ?_;cases hq:a.eval x<;>rw[hq]at hpr<;>cases hpr;simp[execOp,hop,hq]
  ·simp only[sj,Prod.mk.injEq]at h;obtain⟨rfl,rfl⟩:=h;refine pure_ hpr rfl ?_;obtain⟨a',c',hq,_⟩:=hpr.args;simp[execOp,hop,hq]
  ·simp only[sj,Prod.mk.injEq]at h;obtain⟨rfl,rfl⟩:=h;refine pure_ hpr rfl ?_;obtain⟨a',c',hq,_⟩:=hpr.args;simp[execOp,hop,hq]
  ·simp only[sj,Prod.mk.injEq]at h;obtain⟨rfl,rfl⟩:=h;refine pure_ hpr rfl ?_;cases hq:a.eval x<;>rw[hq]at hpr<;>cases hpr;simp[execOp,hop,hq]
  ·simp at h
 ·rename_i op t x y ty hop;replace h:=obs h;obtain⟨p,hp,h⟩:=h;replace h:=obs h;obtain⟨u,hu,h⟩:=h;obtain⟨hx,rfl⟩:=put h;obtain⟨z,hr,hv⟩:=binK_run x y hx (qb5 e hp) (qb5 e hu) w;refine pure_ hv rfl ?_;have e2:execOp a.eval o=(do Pure.pure (Next.value (<- (do eqGuard op t x y (a.eval x) (a.eval y);Go.binOp op t (a.eval x) (a.eval y):Sem Value))):Sem Next):=by simp only[execOp,hop]
  rw[e2,Sem.run_bind,hr];rfl
 next op t x hop=>replace h:=obs h;obtain⟨p,hp,h⟩:=h;obtain⟨hx,rfl⟩:=put h;obtain⟨z,hr,hv⟩:=unA_run (P:=C.P) hx (qb5 e hp) w;exact pure_ hv rfl (by simp[execOp,hop,hr])
 next t u x hop=>replace h:=obs h;obtain⟨p,hp,h⟩:=h;have:=Done.of_good (conv_run sm h (qb5 e hp));simpa[execOp,hop]using this
 ·rename_i fn first cap hop
  replace h:=obs h;obtain⟨p,hp,h⟩:=h;replace h:=obs h;obtain⟨u,hu,h⟩:=h;simp only[sj,Prod.mk.injEq]at h;obtain⟨rfl,rfl⟩:=h;have h1:=qi7 e hp;have h2:=qi7 e hu;exact pure_ (.func fn _ _ _ _ (by simpa using h1.1) (by simpa using h2.1) (fun i g g'=>h1.2 i g (by simpa using g')) (fun i g g'=>h2.2 i g (by simpa using g'))) rfl (by simp[execOp,hop,Instr.makeFunc])
 next t x lo hi mx hop=>replace h:=obs h;obtain⟨p,hp,h⟩:=h;replace h:=obs h;obtain⟨l,hl,h⟩:=h;replace h:=obs h;obtain⟨g,hg,h⟩:=h;replace h:=obs h;obtain⟨m,hm,h⟩:=h;obtain⟨hx,rfl⟩:=put h;obtain⟨z,hr,hv⟩:=qzy sm hx (qb5 e hp) (qnv e hl) (qnv e hg) (qnv e hm);exact pure_ hv rfl (by simp[execOp,hop,hr])
 next t x f hop=>replace h:=obs h;obtain⟨p,hp,h⟩:=h;obtain⟨hx,rfl⟩:=put h;obtain⟨z,hr,hv⟩:=qrb hx (qb5 e hp) w;exact pure_ hv rfl (by simp[execOp,hop,hr])
 next t x f hop=>replace h:=obs h;obtain⟨p,hp,h⟩:=h;obtain⟨hx,rfl⟩:=put h;obtain⟨z,hr,hv⟩:=zby hx (qb5 e hp) w;exact pure_ hv rfl (by simp[execOp,hop,hr])
 next t x i hop=>replace h:=obs h;obtain⟨p,hp,h⟩:=h;replace h:=obs h;obtain⟨u,hu,h⟩:=h;obtain⟨hx,rfl⟩:=put h;obtain⟨z,hr,hv⟩:=qqy hx (qb5 e hp) (qb5 e hu) w;exact pure_ hv rfl (by simp[execOp,hop,hr])
 next t x i hop=>replace h:=obs h;obtain⟨p,hp,h⟩:=h;replace h:=obs h;obtain⟨u,hu,h⟩:=h;obtain⟨hx,rfl⟩:=put h;obtain⟨z,hr,hv⟩:=zbi hx (qb5 e hp) (qb5 e hu) w;exact pure_ hv rfl (by simp[execOp,hop,hr])
 next t m k ok hop=>replace h:=obs h;obtain⟨p,hp,h⟩:=h;replace h:=obs h;obtain⟨u,hu,h⟩:=h;obtain⟨hx,rfl⟩:=put h;obtain⟨z,hr,hv⟩:=qyc sm hx (qb5 e hp) (qb5 e hu);exact pure_ hv rfl (by simp[execOp,hop,hr])
 next t m k x hop=>replace h:=obs h;obtain⟨p,hp,h⟩:=h;replace h:=obs h;obtain⟨u,hu,h⟩:=h;replace h:=obs h;obtain⟨z,hz,h⟩:=h;replace h:=obs h;obtain⟨H1,hw,h⟩:=h;simp only[sj,Prod.mk.injEq]at h;obtain⟨rfl,rfl⟩:=h;obtain⟨w',hr,h1,h2⟩:=qpm (P:=C.P) sm hw (qb5 e hp) (qb5 e hu) (qb5 e hz);exact⟨undef,ρ,w',.undef _,h1,h2,.inr ⟨by simp[execOp,hop,hr],rfl⟩⟩
 next t m k x hop=>replace h:=obs h;obtain⟨p,hp,h⟩:=h;replace h:=obs h;obtain⟨u,hu,h⟩:=h;replace h:=obs h;obtain⟨z,hz,h⟩:=h;replace h:=obs h;obtain⟨H1,hw,h⟩:=h;simp only[sj,Prod.mk.injEq]at h;obtain⟨rfl,rfl⟩:=h;obtain⟨w',hr,h1,h2⟩:=qpm (P:=C.P) sm hw (qb5 e hp) (qb5 e hu) (qb5 e hz);exact⟨undef,ρ,w',.undef _,h1,h2,.inr ⟨by simp[execOp,hop,hr],rfl⟩⟩
 ·rename_i x i hop;replace h:=obs h;obtain⟨p,hp,h⟩:=h;have hpr:=qb5 e hp;split at h
  next vs=>obtain⟨hx,rfl⟩:=put h;obtain⟨hi,rfl⟩:=qed hx;cases hq:a.eval x<;>rw[hq]at hpr<;>cases hpr;rename_i xs hl hv;have hi':i < xs.size:=(by omega);exact pure_ (hv i hi hi') rfl (by simp[execOp,hop,Instr.extract,hq,hi'])
  ·simp at h
 ·rename_i t x hop;replace h:=obs h;obtain⟨p,hp,h⟩:=h;replace h:=obs h;obtain⟨d,hd,h⟩:=h;have hpr:=qb5 e hp;split at h
  next l=>simp only[sj,Prod.mk.injEq]at h;obtain⟨rfl,rfl⟩:=h;have hxe:a.eval x=.string ⟨l.toArray⟩:=(by cases hq:a.eval x<;>rw[hq]at hpr<;>cases hpr;rfl);have hh:(w.alloc (.stringIter ⟨l.toArray⟩ 0)).heap[w.heap.size]? = some (.stringIter ⟨l.toArray⟩ 0):=(by show (w.heap.push _)[w.heap.size]? = _;simp);obtain⟨g1,g2⟩:=sm.new (.stringIter ⟨l.toArray⟩ 0) 0 (.iter l 0) ⟨hh,rfl⟩;exact⟨_,_,_,.ptr s.H.n 0 _ Place.upd_same,g1,g2,.inl (by simp[execOp,hop,Instr.range,run_underlying hd,hxe,newObj,Sem.run])⟩
  ·rename_i kt et b;obtain⟨l,hl,hxe⟩ : ∃l,ρ b=some l/\a.eval x=.map (some l.cb):=(by cases hq:a.eval x<;>rw[hq]at hpr<;>cases hpr;exact⟨_,by assumption,rfl⟩);unfold zae at h;replace h:=obs h;obtain⟨k,hk,h⟩:=h;split at h
   ·rename_i es;split at h
    next hbm=>simp only[sj,Prod.mk.injEq]at h;obtain⟨rfl,rfl⟩:=h;obtain⟨w1,ρ1,h1,h2,h3,h4⟩:=sm.ranged (P:=C.P) hk hl hbm;have h5:=h4 t kt et () hd;exact⟨_,ρ1,w1,h1,h2,h3,.inl (by simp[execOp,hop,hxe,h5])⟩
    ·simp at h
   ·simp at h
  ·simp at h
 ·rename_i x hop;replace h:=obs h;obtain⟨p,hp,h⟩:=h;have hpr:=qb5 e hp;split at h
  ·rename_i b;obtain⟨hx,rfl⟩:=put h;unfold qxa at hx;replace hx:=obs hx;obtain⟨k,hk,hx⟩:=hx;split at hx
   ·rename_i left cur;split at hx
    ·rename_i e1;simp only[sj]at hx;subst hx;cases hq:a.eval x<;>rw[hq]at hpr<;>cases hpr;rename_i l hl;obtain⟨l',hl',_,hlt,h0,r,r1,r2,r3,r4,r5⟩:=sm.block hk;rw[hl]at hl';cases hl';obtain⟨y,sn,hy,hsn,hy1,hy2⟩:=r5.2 _ rfl;have hent:=zc3 (P:=C.P) r4 ((sm.below _ r1).trans r2) hy hsn r3.1 r3.2.2.2;refine pure_ (?_:VR ρ _ (.tuple #[y.key,y.val])) rfl (by simp[execOp,hop,hq,h0,hent]);refine .tup _ _ rfl fun i h1 h2=>?_
     match i,h1 with
     |0,_=>exact hy1.mono (Place.bare_le ρ)
     |1,_=>exact hy2.mono (Place.bare_le ρ)
    ·simp at hx
   ·simp at hx
  ·simp at h
 ·rename_i x isS hop;replace h:=obs h;obtain⟨p,hp,h⟩:=h;have hpr:=qb5 e hp;split at h
  ·rename_i b;replace h:=obs h;obtain⟨k,hk,h⟩:=h;split at h
   ·rename_i st pos;cases hq:a.eval x<;>rw[hq]at hpr<;>cases hpr;rename_i l hl;obtain⟨l',hl',_,hlt,hr⟩:=sm.block hk;rw[hl]at hl';cases hl';obtain⟨hheap,hoff⟩:=hr;have hgo:(getObj l.cb).run C.P w=.ok (.stringIter ⟨st.toArray⟩ pos) w:=(by simp[getObj,Sem.run,hheap]);split at h
    ·rename_i hpos;have hpos:pos < st.length:=Nat.le_of_ble_eq_true hpos;replace h:=obs h;obtain⟨H1,hset,h⟩:=h;simp only[sj,Prod.mk.injEq]at h;obtain⟨rfl,rfl⟩:=h;obtain⟨hn,hd,hk',⟨k0,hk0⟩,hs⟩:=qkp (vs:=[]) hset sm.nodup;generalize hdec:Utf8.decode ⟨st.toArray⟩ pos=dec at *;have hso:∀ob:Obj,(setObj l.cb ob).run C.P w=.ok () { w with heap:=w.heap.setIfInBounds l.cb ob }:=fun ob=>(by simp[setObj,Sem.run,hheap]);obtain⟨g1,g2⟩:=sm.turned (w':={ w with heap:=w.heap.setIfInBounds l.cb (.stringIter ⟨st.toArray⟩ (pos+dec.2)) }) hk0 hl hn hd hk' hs (by simp) (fun j hj=>by
       show (w.heap.setIfInBounds l.cb _)[j]? = _;rw[Array.getElem?_setIfInBounds,if_neg (fun e=>hj e.symm)]) rfl rfl rfl (by
       refine⟨?_,hoff⟩;show (w.heap.setIfInBounds l.cb _)[l.cb]? = _;rw[Array.getElem?_setIfInBounds];simp[hlt])
     refine⟨.tuple #[.bool true,.int .i64 pos,.int .i32 dec.1],ρ,_,?_,g1,g2,.inl ?_⟩
     ·refine .tup _ _ rfl fun i h1 h2=>?_
      match i,h1 with
      |0,_=>exact .bool _
      |1,_=>exact .int _ _
      |2,_=>exact .int _ _
     ·simp[execOp,hop,hq,Instr.next,hoff,hgo,qdl,hpos,hdec,hso,goInt]
    ·rename_i hpos;have hpos:¬ pos < st.length:=fun h=>(by rw[show Nat.blt pos st.length=true by simpa using h]at hpos;cases hpos);simp only[sj,Prod.mk.injEq]at h;obtain⟨rfl,rfl⟩:=h;refine pure_ (.tup [.bool false] #[.bool false] rfl fun i h1 h2=>?_) rfl ?_
     ·match i,h1 with
      |0,_=>exact .bool _
     ·simp[execOp,hop,hq,Instr.next,hoff,hgo,qdl,hpos]
   ·simp at h
  ·simp at h
 next c hop=>obtain⟨b,hb⟩:=hq c hop;replace h:=obs h;obtain⟨args,ha,h⟩:=h;rw[hb]at h;have hr:=fun cs=>qvb (C:=C) (ty:=o.type) (cs:=cs) sm h (qi7 e ha);simp only[Array.toArray_toList]at hr;simp only[execOp,hop,resolve,hb,Sem.run_bind,Sem.run_pure,Result.andThen_ok,invoke];exact hr _
 ·simp at h
end
def fen:Option Nat->Fence
 |none=>Fence.wide
 |some l=>Fence.wide.inRound l
theorem qx9(r:Option Nat) (f:FuncId):(fen r).fn f:=by cases r<;>trivial
theorem qtg(r:Option Nat):(fen r).depth.isSome=false:=by cases r<;>rfl
theorem zc0{r:Option Nat} {n:Nat} {P:Program} {f:FuncId} {args:Array Value} {w:World} {R:Ending->World->Prop} (h:CallsIn Fence.wide n P f args w R):CallsIn (fen r) n P f args w R:=by
 cases r with
 |none=>exact h
 |some l=>exact h.inRound l
theorem qtf{r:Option Nat} {n:Nat} {P:Program} {l:Nat} {f:FuncId} {tmps:Array Value} {as' bd:Code} {w:World} {R:Ending->World->Prop} (h:RoundIn Fence.wide n P l f tmps as' bd w R):RoundIn (fen r) n P l f tmps as' bd w R:=by
 cases r with
 |none=>exact h
 |some l=>exact h
section
variable {ρ:Place} {w:World}
def qvj(ρ:Place) (H:Heap) (w:World) (v:AV) (H':Heap):Ending->World->Prop:=
 fun e w'=>∃x ρ',e=.returned x/\VR ρ' v x/\Sim ρ' H' w'/\Step ρ H w ρ' H' w'
def CallAt(C:Ctx) (f:FuncId) (args:List AV) (H:Heap) (v:AV) (H':Heap):Prop:=
 ∀ρ w xs,Sim ρ H w->VRs ρ args xs ->
  (∃x ρ' w',(callFunc f xs.toArray).run C.P w=.ok (.value x) w'/\VR ρ' v x/\Sim ρ' H' w'/\Step ρ H w ρ' H' w') \/
  (∃g ys,(callFunc f xs.toArray).run C.P w=.ok (.enter g ys) w/\CallsIn Fence.wide 0 C.P g ys w (qvj ρ H w v H'))
def qg8(C:Ctx) (b:Nat) (args:List AV) (H:Heap) (v:AV) (H':Heap):Prop:=
 ∀ρ w xs l,Sim ρ H w->VRs ρ args xs->ρ b=some l ->
  ∃fn tmps assign body,(Instr.yield l.cb xs.toArray).run C.P w=.ok (.round l.cb fn tmps assign body) w/\RoundIn Fence.wide 0 C.P l.cb fn tmps assign body w (qvj ρ H w v H')
structure CallOK (C:Ctx) (call:qc5):Prop where
 fn:∀f args H v H',call (.fn f) args H=some (v,H')->CallAt C f args H v H'
 yl:∀b args H v H',call (.yl b) args H=some (v,H')->qg8 C b args H v H'
theorem ql2{ops:Array Oper} {s:St} {a:Act} {o:Oper} {g:Bool} (e:EnvR ρ s a) (h:qaz ops s o=some g):Region.wanted o (yielded ops a.tmps)=g:=by
 unfold qaz at h;unfold Region.wanted;split at h
 next hg=>simp only[sj]at h;subst h;simp[hg]
 ·rename_i j want hg;replace h:=obs h;obtain⟨p,hp,h⟩:=h;replace h:=obs h;obtain⟨t,ht,h⟩:=h;replace h:=obs h;obtain⟨v,hv,h⟩:=h;have hvr:=e.val t v hv;simp only[hg,yielded,hp,ht,Option.bind_some];rw[Array.getD_eq_getD_getElem?]at hvr;split at h
  ·rename_i b;simp only[sj]at h;subst h;cases hx:a.tmps[t]? with
   |none=>rw[hx]at hvr;cases hvr
   |some x=>rw[hx]at hvr;simp only[Option.getD_some]at hvr;cases hvr;simp
  ·simp only[sj]at h;subst h;cases hx:a.tmps[t]? with
   |none=>simp
   |some x=>rw[hx]at hvr;simp only[Option.getD_some]at hvr;cases hvr;simp
  ·simp at h
theorem qpg{C:Ctx} {call:qc5} {o:Oper} {s:St} {r:AV × Heap} (h:qae C call o s=some r) (ro:Option Nat) (f:Operand->Value):o.semAt ro f=execOp f o:=by
 unfold Oper.semAt;split
 next l c hop=>unfold qae at h;simp[hop]at h
 ·rfl
theorem zar{C:Ctx} {call:qc5} (hC:CallOK C call) {o:Oper} {s:St} {a:Act} {r:Option Nat} {next:Act->World->Prop} {Q:Exit->Act->World->Prop} {v:AV} {H':Heap}
  (hv:qae C call o s=some (v,H')) (sm:Sim ρ s.H w) (e:EnvR ρ s a)
  (fin:∀x ρ' w',VR ρ' v x->Sim ρ' H' w'->Step ρ s.H w ρ' H' w'->next (a.put o.dst x) w'):o.wpIn (fen r) 0 C.P a w next Q:=by
 refine⟨fun f _=>qx9 r f,?_⟩;rw[qpg hv];by_cases hq:zaf o.op
 ·obtain⟨x,ρ',w',h1,h2,h3,h4⟩:=val_run sm e hv hq;rcases h4 with h4|⟨h4,rfl⟩
  ·rw[h4];exact fin x ρ' w' h1 h2 h3
  ·rw[h4];exact fin undef ρ' w' h1 h2 h3
 ·-- a call of a Go function
  have:∃c f,o.op=.call c/\c.callee=.value f:=by
   by_cases hc:∃c,o.op=.call c
   ·obtain⟨c,hc⟩:=hc;cases hcc:c.callee with
    |value f=>exact⟨c,f,hc,hcc⟩
    |builtin b=>exact absurd (fun c' hc'=>by rw[hc]at hc';cases hc';exact⟨b,hcc⟩) hq
    |invoke x m=>unfold qae at hv;simp[hc,hcc]at hv
   ·exact absurd (fun c hc'=>absurd ⟨c,hc'⟩ hc) hq
  obtain⟨c,f,hop,hcc⟩:=this;have hv2:((qex s c.args.toList).bind fun args=>(qbr s f).bind fun f=>match f with
   |.func (.func f) first cap=>call (.fn f) (first++args++cap) s.H
   |.yld b=>call (.yl b) args s.H
   |_=>none)=some (v,H'):=by
   unfold qae at hv;simp only[hop,hcc]at hv;exact hv
  replace hv2:=obs hv2;obtain⟨args,ha,hv2⟩:=hv2;replace hv2:=obs hv2;obtain⟨fv,hf,hv2⟩:=hv2;split at hv2
  ·rename_i g first cap
   obtain⟨first',cap',hfe,hfi,hca⟩:=(qb5 e hf).args;have hall:VRs ρ (first++args++cap) (first'.toList++(c.args.map a.eval).toList++cap'.toList):=(hfi.append (qi7 e ha)).append hca;have hrun:(execOp a.eval o).run C.P w=(callFunc g (first'.toList++(c.args.map a.eval).toList++cap'.toList).toArray).run C.P w:=(by have e1:(first'.toList++(c.args.map a.eval).toList++cap'.toList).toArray=first'++c.args.map a.eval++cap':=(by apply Array.ext';simp);rw[e1];simp[execOp,hop,hcc,resolve,Deferred.ofValue,hfe,invoke]);rw[hrun];rcases hC.fn g _ s.H v H' hv2 ρ w _ sm hall with⟨x,ρ',w',h1,h2,h3,h4⟩|⟨g',ys,h1,h2⟩
   ·rw[h1];exact fin x ρ' w' h2 h3 h4
   ·rw[h1];refine⟨fun hd=>(by rw[qtg]at hd;cases hd),?_⟩;refine CallsIn.mono (zc0 h2) ?_;rintro e' w' ⟨x,ρ',rfl,h3,h4,h5⟩;exact fin x ρ' w' h3 h4 h5
  next b=>have hfr:=qb5 e hf;cases hq:a.eval f<;>rw[hq]at hfr<;>cases hfr;rename_i l hl;have hrun:(execOp a.eval o).run C.P w=(Instr.yield l.cb (c.args.map a.eval).toList.toArray).run C.P w:=(by rw[Array.toArray_toList];simp[execOp,hop,hcc,resolve,Deferred.ofValue,hq,invoke]);rw[hrun];obtain⟨fn,tmps,as',bd,h1,h2⟩:=hC.yl b _ s.H v H' hv2 ρ w _ l sm (qi7 e ha) hl;rw[h1];refine⟨fun hd=>(by rw[qtg]at hd;cases hd),?_⟩;refine RoundIn.mono (qtf h2) ?_;rintro e' w' ⟨x,ρ',rfl,h3,h4,h5⟩;exact fin x ρ' w' h3 h4 h5
  ·simp at hv2
theorem op_wp{C:Ctx} {call:qc5} (hC:CallOK C call) {ops:Array Oper} {i:Nat} {o:Oper} (ho:ops[i]? = some o) {s s':St} {a:Act} {r:Option Nat} {next:Act->World->Prop} {Q:Exit->Act->World->Prop}
  (h:qdt C call ops o s=some s') (sm:Sim ρ s.H w) (e:EnvR ρ s a)
  (hk:∀a' w' ρ',Sim ρ' s'.H w'->Step ρ s.H w ρ' s'.H w'->EnvR ρ' s' a'->a'.defers=a.defers->next a' w'):wpOpIn (fen r) 0 C.P ops Q i next a w:=by
 unfold wpOpIn;simp only[ho];have defers:∀(d:Option Tmp) (x:Value),(a.put d x).defers=a.defers:=fun d x=>by cases d<;>rfl
 replace h:=obs h;obtain⟨g,hg,h⟩:=h;rw[ql2 e hg];split at h
 ·simp only[if_true];replace h:=obs h;obtain⟨⟨v,H'⟩,hv,hput⟩:=h;have hput:St.put { s with H:=H' } o.dst v=some s':=hput;have hH:s'.H=H':=St.put_heap hput;exact zar hC hv sm e fun x ρ' w' h1 h2 h3=>hk _ w' ρ' (hH ▸ h2) (hH ▸ h3) (((e.mono h3.le).heap H').put hput h1) (defers _ _)
 ·simp only[Bool.false_eq_true,if_false];refine⟨fun f _=>qx9 r f,?_⟩;have hH:s'.H=s.H:=St.put_heap h;exact hk _ w ρ (hH ▸ sm) (hH ▸ .refl _ _ _) (e.put h (.tup [] #[] rfl (fun i h=>absurd h (Nat.not_lt_zero i)))) (defers _ _)
theorem qoe{s:St} {a:Act} (sm:Sim ρ s.H w) (e:EnvR ρ s a) (o:Oper) :
  Sim ρ (qbn s o).H w/\Step ρ s.H w ρ (qbn s o).H w/\EnvR ρ (qbn s o) a:=by
 unfold qbn;have kill:∀b,Sim ρ ({ s with H:=s.H.kill b }:St).H w/\Step ρ s.H w ρ ({ s with H:=s.H.kill b }:St).H w/\EnvR ρ { s with H:=s.H.kill b } a:=fun b=>
  ⟨(sm.killed b).1,(sm.killed b).2,e.heap _⟩
 repeat' split
 all_goals first|exact kill _|exact⟨sm,.refl _ _ _,e⟩
theorem zaq{C:Ctx} {call:qc5} (hC:CallOK C call) {ops:Array Oper} {r:Option Nat} {Q:Exit->Act->World->Prop}:∀{l:List Oper} {i:Nat} {s s':St} {a:Act} {ρ:Place} {w:World},
  (∀j,l[j]? = ops[i+j]?)->qej C call ops l s=some s'->Sim ρ s.H w->EnvR ρ s a ->
  (∀a' w' ρ',Sim ρ' s'.H w'->Step ρ s.H w ρ' s'.H w'->EnvR ρ' s' a'->a'.defers=a.defers->Q .normal a' w')->wpOpsIn (fen r) 0 C.P ops Q (List.range' i l.length) a w
 |[],i,s,s',a,ρ,w,_,h,sm,e,hk=>by simp only[qej,sj]at h;subst h;exact hk a w ρ sm (.refl _ _ _) e rfl
 |o::l,i,s,s',a,ρ,w,hl,h,sm,e,hk=>by obtain⟨s1,h1,h2⟩:=obs h;obtain⟨g1,g2,g3⟩:=qoe sm e o;rw[List.length_cons,List.range'_succ,wpOpsIn_cons];refine op_wp hC (by simpa using(hl 0).symm) h1 g1 g3 fun a' w' ρ' k1 k2 k3 k4=>?_;refine zaq hC (fun j=>by have:=hl (j+1);simpa[Nat.add_assoc,Nat.add_comm 1 j]using this) h2 k1 k3 fun a2 w2 ρ2 m1 m2 m3 m4=>?_;exact hk a2 w2 ρ2 m1 ((g2.trans k2).trans m2) m3 (m4.trans k4)
theorem EnvR.fresh{s:St} {a:Act} (e:EnvR ρ s a):EnvR ρ { s with ts:=[] } a:=by
 refine⟨e.size,fun t v h=>e.val t v ?_⟩;simp only[St.get]at h ⊢;split at h
 next x hx=>simp only[sj]at h;subst h;simp[hx]
 ·simp[qgm,qma]at h
end
theorem qe1{s s':St} {x:Operand} (h:∀t,x=.tmp t->s.get t=s'.get t):qbr s x=qbr s' x:=by
 cases x with
 |tmp t=>exact h t rfl
 |_=>rfl
theorem qk1{s s':St}:∀{xs:List Operand},(∀t,Operand.tmp t∈xs->s.get t=s'.get t)->qex s xs=qex s' xs
 |[],_=>rfl
 |x::r,h=>by simp only[qex];rw[qe1 (s:=s) (s':=s') (x:=x) (fun t e=>h t (by simp[e])),qk1 (fun t ht=>h t (List.mem_cons_of_mem _ ht))]
theorem qhj{s s':St}:∀{xs:List (Nat × Operand)},(∀t,Operand.tmp t∈xs.map (·.2)->s.get t=s'.get t)->qgs s xs=qgs s' xs
 |[],_=>rfl
 |x::r,h=>by simp only[qgs];rw[qe1 (s:=s) (s':=s') (x:=x.2) (fun t e=>h t (by simp[e])),qhj (fun t ht=>h t (by simp at ht ⊢;exact .inr ht))]
theorem qug{s s':St} {x:Option Operand} (h:∀t,x=some (.tmp t)->s.get t=s'.get t):qg2 s x=qg2 s' x:=by
 cases x with
 |none=>rfl
 |some x=>simp only[qg2];rw[qe1 (s:=s) (s':=s') (x:=x) (fun t e=>h t (by rw[e]))]
def Asks(o:Op) (t:Nat):Prop:=Operand.tmp t∈o.operands.toList
theorem qnw{C:Ctx} {o:Oper} {s s':St} (h:∀t,Asks o.op t->s.get t=s'.get t):qbt C o s=qbt C o s':=by
 unfold qbt;unfold Asks at h;split<;>rename_i hop<;>simp only[hop,Op.operands]at h
 ·rfl
 next t x=>rw[qe1 (s:=s) (s':=s') (x:=x) (fun t e=>h t (by simp[e]))]
 next t l parts=>rw[qhj (s:=s) (s':=s') (fun t ht=>h t (by simpa using ht))]
 next t l c=>rw[qe1 (s:=s) (s':=s') (x:=l) (fun t e=>h t (by simp[e])),qe1 (s:=s) (s':=s') (x:=c) (fun t e=>h t (by simp[e]))]
 ·rename_i t r;cases r with
  |none=>rfl
  |some x=>simp only;rw[qe1 (s:=s) (s':=s') (x:=x) (fun t e=>h t (by simp[e]))]
 ·rfl
theorem qrd{C:Ctx} {call:qc5} {o:Oper} {s s':St} (hH:s.H=s'.H) (h:∀t,Asks o.op t->s.get t=s'.get t):qae C call o s=qae C call o s':=by
 have hm:=qnw (C:=C) h;have one:∀x,x∈o.op.operands.toList->qbr s x=qbr s' x:=fun x hx=>qe1 fun t e=>h t (by unfold Asks;rw[<- e];exact hx);have many:∀xs:List Operand,(∀x,x∈xs->x∈o.op.operands.toList)->qex s xs=qex s' xs:=fun xs hx=>qk1 fun t ht=>h t (hx _ ht);have opt:∀x:Option Operand,(∀y,x=some y->y∈o.op.operands.toList)->qg2 s x=qg2 s' x:=fun x hx=>qug fun t ht=>h t (hx _ ht);cases hop:o.op with
 |move x=>simp only[qae,hop,hH,one x (by simp[hop,Op.operands])]
 |assign x=>simp only[qae,hop,hH,one x (by simp[hop,Op.operands])]
 |pick c x y=>simp only[qae,hop,hH,one c (by simp[hop,Op.operands]),one x (by simp[hop,Op.operands]),one y (by simp[hop,Op.operands])]
 |alloc t=>simp only[qae,hop,hH,hm]
 |box t x=>simp only[qae,hop,hH,hm]
 |buildSlice t n ps=>simp only[qae,hop,hH,hm]
 |makeMap t r=>simp only[qae,hop,hH,hm]
 |build t ps=>have:qgs s ps.toList=qgs s' ps.toList:=qhj fun t ht=>h t (by simpa[Asks,hop,Op.operands]using ht);simp only[qae,hop,hH,this]
 |load t x=>simp only[qae,hop,hH,one x (by simp[hop,Op.operands])]
 |store t x y=>simp only[qae,hop,hH,one x (by simp[hop,Op.operands]),one y (by simp[hop,Op.operands])]
 |nilCheck x=>simp only[qae,hop,hH,one x (by simp[hop,Op.operands])]
 |binOp op t x y ty=>simp only[qae,hop,hH,one x (by simp[hop,Op.operands]),one y (by simp[hop,Op.operands])]
 |unOp op t x=>simp only[qae,hop,hH,one x (by simp[hop,Op.operands])]
 |convert t u x=>simp only[qae,hop,hH,one x (by simp[hop,Op.operands])]
 |makeFunc f x y=>simp only[qae,hop,hH,many x.toList (fun z hz=>by simp[hop,Op.operands]at hz ⊢;exact .inl hz),many y.toList (fun z hz=>by simp[hop,Op.operands]at hz ⊢;exact .inr hz)]
 |makeSlice t x y=>simp only[qae,hop,hH,hm]
 |slice t x a b c=>simp only[qae,hop,hH,one x (by simp[hop,Op.operands]),opt a (fun y e=>by simp[hop,Op.operands,e]),opt b (fun y e=>by simp[hop,Op.operands,e]),opt c (fun y e=>by simp[hop,Op.operands,e])]
 |fieldAddr t x f=>simp only[qae,hop,hH,one x (by simp[hop,Op.operands])]
 |field t x f=>simp only[qae,hop,hH,one x (by simp[hop,Op.operands])]
 |indexAddr t x y=>simp only[qae,hop,hH,one x (by simp[hop,Op.operands]),one y (by simp[hop,Op.operands])]
 |index t x y=>simp only[qae,hop,hH,one x (by simp[hop,Op.operands]),one y (by simp[hop,Op.operands])]
 |lookup t x y ok=>simp only[qae,hop,hH,one x (by simp[hop,Op.operands]),one y (by simp[hop,Op.operands])]
 |mapUpdate t x y z=>simp only[qae,hop,hH,one x (by simp[hop,Op.operands]),one y (by simp[hop,Op.operands]),one z (by simp[hop,Op.operands])]
 |insert t x y z=>simp only[qae,hop,hH,one x (by simp[hop,Op.operands]),one y (by simp[hop,Op.operands]),one z (by simp[hop,Op.operands])]
 |extract x i=>simp only[qae,hop,hH,one x (by simp[hop,Op.operands])]
 |range t x=>simp only[qae,hop,hH,one x (by simp[hop,Op.operands])]
 |next x b=>simp only[qae,hop,hH,one x (by simp[hop,Op.operands])]
 |entry x=>simp only[qae,hop,hH,one x (by simp[hop,Op.operands])]
 |call c=>
  have h1:=many c.args.toList (fun z hz=>by simp[hop,Op.operands,Call.operands]at hz ⊢;exact .inr hz);cases hc:c.callee with
  |builtin b=>simp only[qae,hop,hH,h1,hc]
  |value f=>simp only[qae,hop,hH,h1,hc,one f (by simp[hop,Op.operands,Call.operands,hc])]
  |invoke x m=>simp only[qae,hop,hH,h1,hc]
 |_=>simp only[qae,hop]
theorem qmj{P:Program} {H H':Heap} {b:Builtin} {ts:Array TypeId} {args:List AV} {v:AV} (hb:b=.max\/b=.min) (h:qc0 P H b ts args=some (v,H')) :
  H'=H/\∀H2,qc0 P H2 b ts args=some (v,H2):=by
 cases args with
 |nil=>rcases hb with rfl|rfl<;>simp[qc0]at h
 |cons x r=>
  have e:∀H2,qc0 P H2 b ts (x::r)=(qnx (decide (b=.min)) x r).bind fun x=>some (x,H2):=fun H2=>by rcases hb with rfl|rfl<;>rfl
  rw[e]at h;obtain⟨y,hy,h⟩:=obs h;simp only[sj,Prod.mk.injEq]at h;obtain⟨rfl,rfl⟩:=h;exact⟨rfl,fun H2=>by rw[e,hy];rfl⟩
theorem qvc{P:Program} {H H':Heap} {ts:Array TypeId} {args:List AV} {v:AV} (h:qc0 P H .len ts args=some (v,H')):H'=H:=by
 cases args with
 |nil=>simp[qc0]at h
 |cons x r=>
  cases r with
  |cons _ _=>simp[qc0]at h
  |nil=>have e:qc0 P H .len ts [x]=(ts[0]?).bind fun t=>(qeq P H t x).bind fun n=>some (.int .i64 n,H):=rfl;rw[e]at h;obtain⟨t,_,h⟩:=obs h;obtain⟨n,_,h⟩:=obs h;simp only[sj,Prod.mk.injEq]at h;exact h.2.symm
theorem qgp{C:Ctx} {call:qc5} {o:Oper} {s:St} {v:AV} {H':Heap} (hc:qb9 o.op=.pure) (h:qae C call o s=some (v,H')):H'=s.H/\∀H,qae C call o { s with H:=H }=some (v,H):=by
 have put:∀{x:Option AV},(x.bind fun x=>some (x,s.H))=some (v,H')->x=some v/\H'=s.H:=fun {x} hx=>by obtain⟨y,hy,hx⟩:=obs hx;simp only[sj,Prod.mk.injEq]at hx;exact⟨by rw[hy,hx.1],hx.2.symm⟩
 have hop:∀(H:Heap) x,qbr { s with H:=H } x=qbr s x:=fun H x=>qe1 fun _ _=>rfl;have hops:∀(H:Heap) x,qex { s with H:=H } x=qex s x:=fun H x=>qk1 fun _ _=>rfl;have hopP:∀(H:Heap) x,qgs { s with H:=H } x=qgs s x:=fun H x=>qhj fun _ _=>rfl;cases ho:o.op with
 |move x|assign x=>
  simp only[qae,ho,hop]at h ⊢;obtain⟨h1,h2⟩:=put h;exact⟨h2,fun H=>by simp[h1]⟩
 |pick c x y=>
  simp only[qae,ho,hop]at h ⊢;obtain⟨cv,hcv,h⟩:=obs h;simp only[hcv,Option.bind_some];split at h
  ·split at h
   ·obtain⟨h1,h2⟩:=put h;exact⟨h2,fun H=>by simp[h1]⟩
   ·obtain⟨h1,h2⟩:=put h;exact⟨h2,fun H=>by simp[h1]⟩
  ·simp at h
 |build t ps=>simp only[qae,ho,hopP]at h ⊢;obtain⟨p,hp,h⟩:=obs h;obtain⟨h1,h2⟩:=put h;exact⟨h2,fun H=>by simp[hp,h1]⟩
 |nilCheck x=>simp only[qae,ho,hop]at h ⊢;obtain⟨p,hp,h⟩:=obs h;simp only[hp,Option.bind_some];split at h<;>simp only[sj,Prod.mk.injEq,reduceCtorEq]at h<;>(obtain⟨rfl,rfl⟩:=h;exact⟨rfl,fun H=>rfl⟩)
 |binOp op t x y ty=>simp only[qae,ho,hop]at h ⊢;obtain⟨p,hp,h⟩:=obs h;obtain⟨q,hq,h⟩:=obs h;obtain⟨h1,h2⟩:=put h;exact⟨h2,fun H=>by simp[hp,hq,h1]⟩
 |unOp op t x=>simp only[qae,ho,hop]at h ⊢;obtain⟨p,hp,h⟩:=obs h;obtain⟨h1,h2⟩:=put h;exact⟨h2,fun H=>by simp[hp,h1]⟩
 |makeFunc f x y=>simp only[qae,ho,hops]at h ⊢;obtain⟨p,hp,h⟩:=obs h;obtain⟨q,hq,h⟩:=obs h;simp only[sj,Prod.mk.injEq]at h;obtain⟨rfl,rfl⟩:=h;exact⟨rfl,fun H=>by simp[hp,hq]⟩
 |fieldAddr t x f|field t x f=>
  simp only[qae,ho,hop]at h ⊢;obtain⟨p,hp,h⟩:=obs h;obtain⟨h1,h2⟩:=put h;exact⟨h2,fun H=>by simp[hp,h1]⟩
 |indexAddr t x y|index t x y=>
  simp only[qae,ho,hop]at h ⊢;obtain⟨p,hp,h⟩:=obs h;obtain⟨q,hq,h⟩:=obs h;obtain⟨h1,h2⟩:=put h;exact⟨h2,fun H=>by simp[hp,hq,h1]⟩
 |extract x i=>
  simp only[qae,ho,hop]at h ⊢;obtain⟨p,hp,h⟩:=obs h;simp only[hp,Option.bind_some];split at h
  ·obtain⟨h1,h2⟩:=put h;exact⟨h2,fun H=>by simp[h1]⟩
  ·simp at h
 |call c=>
  simp only[qb9,ho]at hc;simp only[qae,ho,hops,hop]at h ⊢;obtain⟨args,ha,h⟩:=obs h;simp only[ha,Option.bind_some];split at hc<;>(try simp at hc);rename_i b hb;rw[hb]at h ⊢;split at hc<;>(try simp at hc;done)
  ·obtain⟨h1,h2⟩:=qmj (.inl rfl) h;exact⟨h1,h2⟩
  ·obtain⟨h1,h2⟩:=qmj (.inr rfl) h;exact⟨h1,h2⟩
 |_=>simp[qb9,ho]at hc
theorem qft{C:Ctx} {call:qc5} {o:Oper} {s:St} {v:AV} {H':Heap} (hc:qb9 o.op=.reads) (h:qae C call o s=some (v,H')):H'=s.H:=by
 have put:∀{x:Option AV},(x.bind fun x=>some (x,s.H))=some (v,H')->H'=s.H:=fun {x} hx=>by obtain⟨y,hy,hx⟩:=obs hx;simp only[sj,Prod.mk.injEq]at hx;exact hx.2.symm
 cases ho:o.op with
 |load t x=>simp only[qae,ho]at h;obtain⟨p,hp,h⟩:=obs h;exact put h
 |lookup t x y ok=>simp only[qae,ho]at h;obtain⟨p,hp,h⟩:=obs h;obtain⟨q,hq,h⟩:=obs h;exact put h
 |slice t x a b c=>simp only[qae,ho]at h;obtain⟨p,hp,h⟩:=obs h;obtain⟨q,hq,h⟩:=obs h;obtain⟨q2,hq2,h⟩:=obs h;obtain⟨q3,hq3,h⟩:=obs h;exact put h
 |call c=>simp only[qb9,ho]at hc;simp only[qae,ho]at h;obtain⟨args,ha,h⟩:=obs h;split at hc<;>(try simp at hc);rename_i b hb;rw[hb]at h;split at hc<;>(try simp at hc;done);exact qvc h
 |_=>simp[qb9,ho]at hc
def orOf(acc:Array Nat) (l:List Edge) (s:Nat):Nat:=l.foldl (fun s e=>if Region.binds .any e then s ||| 2 ^ e.on ||| acc.getD e.on 0 else s) s
theorem qwf{acc:Array Nat} {j:Nat}:∀{l:List Edge} {s:Nat},(orOf acc l s).testBit j=true ->
  s.testBit j=true\/∃e,e∈l/\Region.binds .any e=true/\(e.on=j\/(acc.getD e.on 0).testBit j=true)
 |[],s,h=>.inl h
 |e::r,s,h=>by
  simp only[orOf,List.foldl_cons]at h;rcases qwf (l:=r) h with h|⟨e',he',hb,hj⟩
  ·by_cases hb:Region.binds .any e=true
   ·rw[if_pos hb,Nat.testBit_or,Nat.testBit_or,Nat.testBit_two_pow]at h;simp only[Bool.or_eq_true,decide_eq_true_eq]at h;rcases h with(h|h)|h
    ·exact .inl h
    ·exact .inr ⟨e,List.mem_cons_self,hb,.inl h⟩
    ·exact .inr ⟨e,List.mem_cons_self,hb,.inr h⟩
   ·rw[if_neg hb]at h;exact .inl h
  ·exact .inr ⟨e',List.mem_cons_of_mem _ he',hb,hj⟩
def befL(l:List Oper) (acc:Array Nat):Array Nat:=l.foldl (fun acc o=>acc.push (orOf acc o.after.toList 0)) acc
theorem befL_eq(ops:Array Oper):Region.before ops=befL ops.toList #[]:=by unfold Region.before befL orOf;rw[<- Array.foldl_toList];congr 1;funext acc o;rw[<- Array.foldl_toList]
theorem qtt:∀(l:List Oper) (acc:Array Nat),(befL l acc).size=acc.size+l.length/\(∀i,i < acc.size->(befL l acc).getD i 0=acc.getD i 0) /\
  ∀i (h:i < l.length),∃acc':Array Nat,acc'.size=acc.size+i/\(∀k,k < acc'.size->acc'.getD k 0=(befL l acc).getD k 0)/\(befL l acc).getD (acc.size+i) 0=orOf acc' l[i].after.toList 0
 |[],acc=>⟨rfl,fun _ _=>rfl,fun i h=>absurd h (Nat.not_lt_zero i)⟩
 |o::r,acc=>by
  obtain⟨h1,h2,h3⟩:=qtt r (acc.push (orOf acc o.after.toList 0));have e:befL (o::r) acc=befL r (acc.push (orOf acc o.after.toList 0)):=rfl;rw[e];have hlow:∀i,i < acc.size->(befL r (acc.push (orOf acc o.after.toList 0))).getD i 0=acc.getD i 0:=fun i hi=>by rw[h2 i (by simp;omega)];simp only[Array.getD_eq_getD_getElem?,Array.getElem?_push];rw[if_neg (by omega)]
  refine⟨by rw[h1];simp;omega,hlow,fun i hi=>?_⟩;cases i with
  |zero=>refine⟨acc,rfl,fun k hk=>(hlow k hk).symm,?_⟩;rw[Nat.add_zero,h2 _ (by simp)];simp[Array.getD_eq_getD_getElem?]
  |succ i=>obtain⟨acc',g1,g2,g3⟩:=h3 i (by simpa using hi);refine⟨acc',by rw[g1];simp;omega,g2,?_⟩;have:acc.size+(i+1)=(acc.push (orOf acc o.after.toList 0)).size+i:=(by simp;omega);rw[this,g3];rfl
theorem qyy{ops:Array Oper} {i j:Nat} (h:ahead (Region.before ops) j i=true) :
  ∃o,ops[i]? = some o/\∃e,e∈o.after/\Region.binds .any e=true/\(e.on=j\/(e.on < i/\ahead (Region.before ops) j e.on=true)):=by
 unfold ahead at h;rw[befL_eq]at h ⊢;obtain⟨h1,_,h3⟩:=qtt ops.toList #[];have hi:i < ops.size:=by
  rcases Nat.lt_or_ge i ops.size with hh|hh
  ·exact hh
  ·have:(befL ops.toList #[]).getD i 0=0:=(by rw[Array.getD_eq_getD_getElem?,Array.getElem?_eq_none (by rw[h1];simpa using hh)];rfl);rw[this]at h;simp at h
 obtain⟨acc',g1,g2,g3⟩:=h3 i (by simpa using hi);simp only[List.size_toArray,List.length_nil,Nat.zero_add]at g1 g3;rw[g3]at h;rcases qwf h with h|⟨e,he,hb,hj⟩
 ·simp at h
 ·refine⟨ops[i],by simp[hi],e,by simpa using he,hb,?_⟩;rcases hj with hj|hj
  ·exact .inl hj
  ·right;have hlt:e.on < acc'.size:=by
    rcases Nat.lt_or_ge e.on acc'.size with hh|hh
    ·exact hh
    ·rw[Array.getD_eq_getD_getElem?,Array.getElem?_eq_none hh]at hj;simp at hj
   refine⟨by omega,?_⟩;unfold ahead;rw[<- g2 _ hlt];exact hj
def qu0(ops:Array Oper) (D:Nat->Prop):Prop:=∀j,D j->∀o,ops[j]? = some o->∀e,e∈o.after->Region.binds .any e=true->D e.on
def qkc(ops:Array Oper) (D:Nat->Prop) (i:Nat):Prop:=∀o,ops[i]? = some o->∀e,e∈o.after->Region.binds .any e=true->D e.on
theorem qhq{ops:Array Oper} {D:Nat->Prop} (hD:qu0 ops D):∀{i j:Nat},qkc ops D i->ahead (Region.before ops) j i=true->D j:=by
 intro i;induction i using Nat.strongRecOn with
 |_ i ih=>
  intro j hc h;obtain⟨o,ho,e,he,hb,hj⟩:=qyy h;have hon:=hc o ho e he hb;rcases hj with rfl|⟨hlt,hj⟩
  ·exact hon
  ·exact ih e.on hlt (hD e.on hon) hj
theorem qgv{i:Nat}:∀{l:List Edge},qij i l=true->∀e,e∈l->Region.binds .any e=true->e.on < i
 |[],_,e,he,_=>by cases he
 |x::r,h,e,he,hb=>by
  unfold qij at h;split at h
  ·rename_i hx;rcases List.mem_cons.1 he with rfl|he
   ·rw[hx]at hb;cases hb
   ·exact qgv h e he hb
  ·split at h
   ·rename_i hlt;rcases List.mem_cons.1 he with rfl|he
    ·exact by simpa using hlt
    ·exact qgv h e he hb
   ·cases h
theorem qml:∀{l:List Oper} {i:Nat},qrp i l=true->∀j (h:j < l.length),∀e,e∈l[j].after->Region.binds .any e=true->e.on < i+j
 |[],_,_,j,hj,_,_,_=>absurd hj (Nat.not_lt_zero j)
 |o::r,i,h,j,hj,e,he,hb=>by
  unfold qrp at h;split at h
  ·rename_i hx;cases j with
   |zero=>exact qgv hx e (by simpa using he) hb
   |succ j=>have:=qml h j (by simpa using hj) e he hb;omega
  ·cases h
def qgf(ops:Array Oper) (i:Nat):Prop:=∃o,ops[i]? = some o/\qb9 o.op=.acts
theorem acting_spec:∀{l:List Oper} {i j:Nat},j∈qg7 i l↔∃k,∃h:k < l.length,j=i+k/\qb9 l[k].op=.acts
 |[],i,j=>by simp[qg7]
 |o::r,i,j=>by
  have tl:j∈qg7 (Nat.succ i) r↔∃k,∃h:k+1 < (o::r).length,j=i+(k+1)/\qb9 ((o::r)[k+1]).op=.acts:=by
   rw[acting_spec];constructor
   ·rintro⟨k,hk,rfl,hc⟩;exact⟨k,by simpa using hk,by omega,hc⟩
   ·rintro⟨k,hk,rfl,hc⟩;exact⟨k,by simpa using hk,by omega,hc⟩
  constructor
  ·intro h;unfold qg7 at h;split at h
   ·rename_i hc;rcases List.mem_cons.1 h with rfl|h
    ·exact⟨0,by simp,rfl,hc⟩
    ·obtain⟨k,hk,h1,h2⟩:=tl.1 h;exact⟨k+1,hk,h1,h2⟩
   ·obtain⟨k,hk,h1,h2⟩:=tl.1 h;exact⟨k+1,hk,h1,h2⟩
  ·rintro⟨k,hk,h1,h2⟩;unfold qg7;cases k with
   |zero=>simp only[List.getElem_cons_zero]at h2;simp only[h2];exact List.mem_cons.2 (.inl h1)
   |succ k=>
    have:=tl.2 ⟨k,hk,h1,h2⟩;split
    ·exact List.mem_cons_of_mem _ this
    ·exact this
theorem zcy{l:List Oper} {i j:Nat} (h:j∈qg7 i l):i<=j:=by obtain⟨k,_,rfl,_⟩:=acting_spec.1 h;omega
theorem mem_acting{ops:Array Oper} {i:Nat}:i∈qg7 0 ops.toList↔qgf ops i:=by
 rw[acting_spec];constructor
 ·rintro⟨k,hk,rfl,hc⟩;have hk':k < ops.size:=by simpa using hk
  exact⟨ops[k],by simp[hk'],by simpa using hc⟩
 ·rintro⟨o,ho,hc⟩;obtain⟨hi,rfl⟩:=Array.getElem?_eq_some_iff.1 ho;exact⟨i,by simpa using hi,by simp,by simpa using hc⟩
def Fol(ops:Array Oper) (j i:Nat):Prop:=∀D,qu0 ops D->qkc ops D i->D j
theorem Fol.of_ahead{ops:Array Oper} {j i:Nat} (h:ahead (Region.before ops) j i=true):Fol ops j i:=fun _ hD hc=>qhq hD hc h
theorem Fol.trans{ops:Array Oper} {j k i:Nat} (h:Fol ops j k) (g:Fol ops k i):Fol ops j i:=fun D hD hc=>h D hD (hD k (g D hD hc))
theorem qmi{ops:Array Oper}:∀{r:List Nat} {i:Nat},qit (Region.before ops) (i::r)=true->∀j,j∈r->Fol ops i j
 |[],_,_,_,h=>by cases h
 |k::r,i,h,j,hj=>by
  unfold qit at h;simp only at h;split at h
  ·rename_i hx;rcases List.mem_cons.1 hj with rfl|hj
   ·exact .of_ahead hx
   ·exact Fol.trans (.of_ahead hx) (qmi h j hj)
  ·cases h
theorem qtn{ops:Array Oper} {r:List Nat} {i:Nat} (h:qit (Region.before ops) (i::r)=true):qit (Region.before ops) r=true:=by
 unfold qit at h;cases r with
 |nil=>rfl
 |cons k r=>
  simp only at h;split at h
  ·exact h
  ·cases h
theorem qk9{ops:Array Oper}:∀{l:List Oper} {k:Nat},qit (Region.before ops) (qg7 k l)=true->∀i j,i∈qg7 k l->j∈qg7 k l->i < j->Fol ops i j
 |[],_,_,i,j,hi,_,_=>by simp[qg7]at hi
 |o::r,k,h,i,j,hi,hj,hlt=>by
  unfold qg7 at h hi hj;split at h
  ·rename_i hc;simp only[hc]at hi hj;rcases List.mem_cons.1 hi with rfl|hi
   ·rcases List.mem_cons.1 hj with rfl|hj
    ·omega
    ·exact qmi h j hj
   ·rcases List.mem_cons.1 hj with rfl|hj
    ·have:=zcy hi;omega
    ·exact qk9 (qtn h) i j hi hj hlt
  ·rename_i hc;split at hi
   next hc'=>exact absurd hc' hc
   ·split at hj
    next hc'=>exact absurd hc' hc
    ·exact qk9 h i j hi hj hlt
theorem memN_spec{n:Nat}:∀{l:List Nat},memN n l=true↔n∈l
 |[]=>by simp[memN]
 |m::r=>by
  unfold memN;split
  next h=>simp[Nat.eq_of_beq_eq_true h]
  ·rename_i h;rw[memN_spec,List.mem_cons];constructor
   ·exact .inr
   ·rintro(rfl|h')
    ·simp at h
    ·exact h'
theorem qjj{bef:Array Nat} {i:Nat} {ts:List Nat}:∀{l:List Oper} {j:Nat},qes bef i ts j l=true->∀k (h:k < l.length) t,l[k].dst=some t->t∈ts ->
  i=j+k\/(i < j+k/\ahead bef i (j+k)=true)\/(j+k < i/\ahead bef (j+k) i=true)
 |[],_,_,k,hk,_,_,_=>absurd hk (Nat.not_lt_zero k)
 |p::r,j,h,k,hk,t,hd,ht=>by
  have tl:qes bef i ts (Nat.succ j) r=true:=by
   unfold qes at h;split at h
   ·exact h
   ·split at h
    ·exact h
    ·split at h
     ·exact h
     ·cases h
  cases k with
  |succ k=>have:=qjj tl k (by simpa using hk) t hd ht;have e:Nat.succ j+k=j+(k+1):=(by omega);rw[e]at this;exact this
  |zero=>
   simp only[List.getElem_cons_zero]at hd;unfold qes at h;simp only[hd,memN_spec.2 ht]at h;split at h
   ·rename_i hx;split at hx
    next hij=>exact .inl (Nat.eq_of_beq_eq_true hij)
    ·rename_i hij;split at hx
     next hlt=>exact .inr (.inl ⟨by simpa using hlt,hx⟩)
     ·rename_i hlt;have h1:i≠j:=fun e=>by subst e;simp at hij
      have h2 : ¬ i < j := fun e => by have : Nat.blt i j = true := by simpa using e
                                       rw[this]at hlt;cases hlt
      exact .inr (.inr ⟨by omega,hx⟩)
   ·cases h
theorem qm7{bef:Array Nat} {ops:Array Oper}:∀{l:List Oper} {i:Nat},qq8 bef ops i l=true->∀k (h:k < l.length),qes bef (i+k) (l[k].dst.toList++qei ops l[k]) 0 ops.toList=true
 |[],_,_,k,hk=>absurd hk (Nat.not_lt_zero k)
 |o::r,i,h,k,hk=>by
  unfold qq8 at h;split at h
  ·rename_i hx;cases k with
   |zero=>exact hx
   |succ k=>have:=qm7 h k (by simpa using hk);have e:Nat.succ i+k=i+(k+1):=(by omega);rw[e]at this;exact this
  ·cases h
structure Drawn (ops:Array Oper):Prop where
 temps:∀i o,ops[i]? = some o->∀j p t,ops[j]? = some p->p.dst=some t->t∈o.dst.toList++qei ops o ->
  i=j\/(i < j/\ahead (Region.before ops) i j=true)\/(j < i/\ahead (Region.before ops) j i=true)
 back:∀i o,ops[i]? = some o->∀e,e∈o.after->Region.binds .any e=true->e.on < i
 chain:∀i j,qgf ops i->qgf ops j->i < j->Fol ops i j
theorem qv4{ops:Array Oper} (h:qpz ops=true):Drawn ops:=by
 unfold qpz at h;split at h
 ·rename_i hc;split at h
  ·rename_i ht;refine⟨fun i o ho j p t hp hd hm=>?_,fun i o ho e he hb=>?_,fun i j hi hj hlt=>qk9 hc i j (mem_acting.2 hi) (mem_acting.2 hj) hlt⟩
   ·obtain⟨hi,rfl⟩:=Array.getElem?_eq_some_iff.1 ho;obtain⟨hj,rfl⟩:=Array.getElem?_eq_some_iff.1 hp;have h1:=qm7 ht i (by simpa using hi);have h2:=qjj h1 j (by simpa using hj) t (by simpa using hd) (by simpa using hm);simpa using h2
   ·obtain⟨hi,rfl⟩:=Array.getElem?_eq_some_iff.1 ho;have:=qml h i (by simpa using hi) e (by simpa using he) hb;omega
  ·cases h
 ·cases h
theorem Drawn.lt{ops:Array Oper} (d:Drawn ops) {j i:Nat} (h:ahead (Region.before ops) j i=true):j < i:=
 qhq (D:=fun k=>k < i) (fun k hk o ho e he hb=>Nat.lt_trans (d.back k o ho e he hb) hk) (fun o ho e he hb=>d.back i o ho e he hb) h
@[simp]theorem St.wH_eq(s:St) (H:Heap):s.wH H=⟨s.ks,s.vs,s.ts,s.sz,H⟩:=rfl
@[simp]theorem St.wT_eq(s:St):s.wT=⟨s.ks,s.vs,[],s.sz,s.H⟩:=rfl
theorem St.put_spec{s s':St} {d:Option Tmp} {v:AV} (h:s.put d v=some s') :
  (∀t,s'.get t=if d=some t then some v else s.get t)/\s'.sz=s.sz/\s'.H=s.H/\∀t,d=some t->t < s.sz:=by
 cases d with
 |none=>simp only[St.put,sj]at h;subst h;exact⟨fun t=>by simp,rfl,rfl,fun t ht=>by cases ht⟩
 |some t=>
  obtain⟨h1,h2,h3,_,h5⟩:=St.set_get h;refine⟨fun u=>?_,h2,h3,fun u hu=>by cases hu;exact h1⟩;rw[h5];by_cases hu:u=t
  ·simp[hu]
  ·rw[if_neg hu,if_neg (fun e=>hu (by cases e;rfl))]
inductive How (C:Ctx) (call:qc5) (ops:Array Oper) (base i:Nat) (o:Oper) (d d':DrawSt) (v:AV):Prop
 |skip (hg:qaz ops d.s o=some false) (hv:v=.tup []) (hc:qb9 o.op≠.acts) (hH:d'.s.H=d.s.H) (hp:d'.ps=d.ps) (hh:d'.hs=d.hs) (hr:d'.rs=d.rs)
 |skipActs (hg:qaz ops d.s o=some false) (hv:v=.tup []) (hc:qb9 o.op=.acts) (hH:d'.s.H=d.s.H.lay (qbg (Region.before ops) i d.ps))
   (hp:d'.ps=qb7 (Region.before ops) i d.ps) (hh:d'.hs=(i,d'.s.H)::d.hs) (hr:d'.rs=d.rs)
 |alloc (hg:qaz ops d.s o=some true) (hc:qb9 o.op=.allocs) (k:(Nat->AV) × Blk) (hk:qbt C o d.s=some k) (hv:v=k.1 (base+i)) (hH:d'.s.H=d.s.H)
   (hp:d'.ps=⟨i,base+i,k.2⟩::d.ps) (hh:d'.hs=d.hs) (hr:d'.rs=d.rs)
 |act (hg:qaz ops d.s o=some true) (hc:qb9 o.op=.acts) (he:qae C call o { d.s with H:=d.s.H.lay (qbg (Region.before ops) i d.ps) }=some (v,d'.s.H))
   (hp:d'.ps=qb7 (Region.before ops) i d.ps) (hh:d'.hs=(i,d'.s.H)::d.hs) (hr:d'.rs=d.rs)
 |read (hg:qaz ops d.s o=some true) (hc:qb9 o.op=.reads) (he:qae C call o d.s=some (v,d.s.H)) (hH:d'.s.H=d.s.H) (hp:d'.ps=d.ps) (hh:d'.hs=d.hs)
   (hr:d'.rs=⟨i,o,d.s,v⟩::d.rs)
 |pure (hg:qaz ops d.s o=some true) (hc:qb9 o.op=.pure) (he:qae C call o d.s=some (v,d.s.H)) (hH:d'.s.H=d.s.H) (hp:d'.ps=d.ps) (hh:d'.hs=d.hs)
   (hr:d'.rs=d.rs)
theorem qxs{C:Ctx} {call:qc5} {ops:Array Oper} {base i:Nat} {o:Oper} {d d':DrawSt} (h:qhf C call ops (Region.before ops) base i o d=some d') :
  ∃v,How C call ops base i o d d' v/\(∀t,d'.s.get t=if o.dst=some t then some v else d.s.get t)/\d'.s.sz=d.s.sz/\∀t,o.dst=some t->t < d.s.sz:=by
 unfold qhf at h;obtain⟨g,hg,h⟩:=obs h;cases g with
 |false=>
  obtain⟨s',hs,h⟩:=obs h;obtain⟨h1,h2,h3,h4⟩:=St.put_spec hs;cases hc:qb9 o.op<;>simp only[hc,sj]at h<;>subst h
  case acts=>exact⟨_,.skipActs hg rfl hc (by simp[h3]) rfl rfl rfl,h1,h2,h4⟩
  all_goals exact⟨_,.skip hg rfl (by rw[hc];intro e;cases e) h3 rfl rfl rfl,h1,h2,h4⟩
 |true=>
  cases hc:qb9 o.op<;>simp only[hc]at h
  case allocs=>
   obtain⟨k,hk,h⟩:=obs h;obtain⟨s',hs,h⟩:=obs h;obtain⟨h1,h2,h3,h4⟩:=St.put_spec hs;simp only[sj]at h;subst h;exact⟨_,.alloc hg hc k hk rfl h3 rfl rfl rfl,h1,h2,h4⟩
  case acts=>
   obtain⟨⟨v,H'⟩,hv,h⟩:=obs h;obtain⟨s',hs,h⟩:=obs h;obtain⟨h1,h2,h3,h4⟩:=St.put_spec hs;simp only[sj]at h;subst h;refine⟨v,.act hg hc (by show qae C call o (d.s.wH _)=_;rw[hv];simp only[St.wH_eq]at h3;rw[h3]) rfl rfl rfl,h1,h2,h4⟩
  case reads=>
   obtain⟨⟨v,H'⟩,hv,h⟩:=obs h;obtain⟨s',hs,h⟩:=obs h;obtain⟨h1,h2,h3,h4⟩:=St.put_spec hs;simp only[sj]at h;subst h;have:=qft hc hv;subst this;exact⟨v,.read hg hc hv h3 rfl rfl rfl,h1,h2,h4⟩
  case pure=>
   obtain⟨⟨v,H'⟩,hv,h⟩:=obs h;obtain⟨s',hs,h⟩:=obs h;obtain⟨h1,h2,h3,h4⟩:=St.put_spec hs;simp only[sj]at h;subst h;have:=(qgp hc hv).1;subst this;exact⟨v,.pure hg hc hv h3 rfl rfl rfl,h1,h2,h4⟩
structure Run (C:Ctx) (call:qc5) (ops:Array Oper) (base:Nat) (R:Nat->DrawSt) (V:Nat->AV):Prop where
 how:∀i o,ops[i]? = some o->How C call ops base i o (R i) (R (i+1)) (V i)
 get:∀i o,ops[i]? = some o->∀t,(R (i+1)).s.get t=if o.dst=some t then some (V i) else (R i).s.get t
 sz:∀i o,ops[i]? = some o->(R (i+1)).s.sz=(R i).s.sz
 lt:∀i o,ops[i]? = some o->∀t,o.dst=some t->t < (R i).s.sz
 ps0:(R 0).ps=[]
 hs0:(R 0).hs=[]
 same:∀x,x∈(R ops.size).rs->qcq C call (Region.before ops) x (R 0).s.H (R ops.size).hs=true
theorem qpw{C:Ctx} {call:qc5} {ops:Array Oper} {base:Nat}:∀{l:List Oper} {i:Nat} {d d':DrawSt},qly C call ops (Region.before ops) base i l d=some d' ->
  ∃R:Nat->DrawSt,R 0=d/\R l.length=d'/\∀j (h:j < l.length),qhf C call ops (Region.before ops) base (i+j) l[j] (R j)=some (R (j+1))
 |[],i,d,d',h=>by simp only[qly,sj]at h;subst h;exact⟨fun _=>d,rfl,rfl,fun j h=>absurd h (Nat.not_lt_zero j)⟩
 |o::r,i,d,d',h=>by
  obtain⟨d1,h1,h2⟩:=obs h;obtain⟨R,r0,r1,r2⟩:=qpw h2;refine⟨fun j=>match j with | 0=>d|j+1=>R j,rfl,r1,fun j hj=>?_⟩;cases j with
  |zero=>simp only[Nat.add_zero,List.getElem_cons_zero,Nat.zero_add];rw[r0];exact h1
  |succ j=>have:=r2 j (by simpa using hj);have e:Nat.succ i+j=i+(j+1):=(by omega);rw[e]at this;exact this
theorem qkr{C:Ctx} {call:qc5} {bef:Array Nat} {H0:Heap} {hs:List (Nat × Heap)}:∀{rs:List Rec},qcp C call bef H0 hs rs=true->∀x,x∈rs->qcq C call bef x H0 hs=true
 |[],_,_,h=>by cases h
 |y::r,h,x,hx=>by
  unfold qcp at h;split at h
  ·rename_i hy;rcases List.mem_cons.1 hx with rfl|hx
   ·exact hy
   ·exact qkr h x hx
  ·cases h
theorem qtj{C:Ctx} {call:qc5} {ops:Array Oper} {s s':St} (h:qj9 C call ops s=some s') :
  Drawn ops/\∃R V,Run C call ops s.H.n R V/\(R 0).s=qc7 (qar ops.toList s) ops.size/\s'={ (R ops.size).s with H:=(R ops.size).s.H.lay (allPend (R ops.size).ps) }:=by
 unfold qj9 at h;split at h
 ·cases h
 ·rename_i hd;refine⟨qv4 hd,?_⟩;obtain⟨d,hr,h⟩:=obs h;split at h
  ·rename_i hsame;simp only[sj]at h;obtain⟨R,r0,r1,r2⟩:=qpw hr;have r1':R ops.size=d:=(by simpa using r1);have all:∀i,∃v,∀o,ops[i]? = some o->How C call ops s.H.n i o (R i) (R (i+1)) v/\(∀t,(R (i+1)).s.get t=if o.dst=some t then some v else (R i).s.get t) /\
     (R (i+1)).s.sz=(R i).s.sz/\∀t,o.dst=some t->t < (R i).s.sz:=fun i=>by
    rcases Nat.lt_or_ge i ops.size with hi|hi
    ·have h1:=r2 i (by simpa using hi);rw[Nat.zero_add]at h1;obtain⟨v,h2⟩:=qxs h1;refine⟨v,fun o ho=>?_⟩;obtain⟨_,rfl⟩:=Array.getElem?_eq_some_iff.1 ho;simpa using h2
    ·exact⟨.undef,fun o ho=>by rw[Array.getElem?_eq_none hi]at ho;cases ho⟩
   refine⟨R,fun i=>(all i).choose,⟨fun i o ho=>((all i).choose_spec o ho).1,fun i o ho=>((all i).choose_spec o ho).2.1,fun i o ho=>((all i).choose_spec o ho).2.2.1,
    fun i o ho=>((all i).choose_spec o ho).2.2.2,by rw[r0],by rw[r0],?_⟩,by rw[r0],by rw[r1',<- h];rfl⟩
   rw[r1',r0];exact qkr hsame
  ·cases h
def qp5(ops:Array Oper) (j:Nat):Option Tmp:=(ops[j]?).bind (·.dst)
def Cur(ops:Array Oper) (R:Nat->DrawSt) (V:Nat->AV) (D:Nat->Prop) (t:Nat) (v:AV):Prop:=
 (∃j,D j/\qp5 ops j=some t/\(∀k,D k->qp5 ops k=some t->k<=j)/\V j=v)\/((∀k,D k->qp5 ops k≠some t)/\(R 0).s.get t=some v)
def CurH(ops:Array Oper) (R:Nat->DrawSt) (D:Nat->Prop) (H:Heap):Prop:=
 (∃j,D j/\qgf ops j/\(∀k,D k->qgf ops k->k<=j)/\H=(R (j+1)).s.H)\/((∀k,D k->¬ qgf ops k)/\H=(R 0).s.H)
theorem CurH.one{ops:Array Oper} {R:Nat->DrawSt} {D:Nat->Prop} {H H':Heap} (h:CurH ops R D H) (h':CurH ops R D H'):H=H':=by
 rcases h with⟨j,h1,h2,h3,h4⟩|⟨h1,h2⟩<;>rcases h' with⟨j',g1,g2,g3,g4⟩|⟨g1,g2⟩
 ·have:=h3 j' g1 g2;have:=g3 j h1 h2;have e:j=j':=by omega
  subst e;rw[h4,g4]
 ·exact absurd h2 (g1 j h1)
 ·exact absurd g2 (h1 j' g1)
 ·rw[h2,g2]
def AllocAt(C:Ctx) (ops:Array Oper) (R:Nat->DrawSt) (A:Nat) (k:Blk):Prop:=
 ∃o p,ops[A]? = some o/\qb9 o.op=.allocs/\qaz ops (R A).s o=some true/\qbt C o (R A).s=some p/\k=p.2
theorem mem_wanted{bef:Array Nat} {i:Nat} {e:Nat × Blk}:∀{l:List Pend},e∈qbg bef i l↔∃p,p∈l/\ahead bef p.i i=true/\e=(p.b,p.k)
 |[]=>by simp[qbg]
 |p::r=>by
  unfold qbg;split
  ·rename_i h;rw[List.mem_cons,mem_wanted];constructor
   ·rintro(rfl|⟨q,hq,h1,h2⟩)
    ·exact⟨p,List.mem_cons_self,h,rfl⟩
    ·exact⟨q,List.mem_cons_of_mem _ hq,h1,h2⟩
   ·rintro⟨q,hq,h1,h2⟩;rcases List.mem_cons.1 hq with rfl|hq
    ·exact .inl h2
    ·exact .inr ⟨q,hq,h1,h2⟩
  ·rename_i h;rw[mem_wanted];constructor
   ·rintro⟨q,hq,h1,h2⟩;exact⟨q,List.mem_cons_of_mem _ hq,h1,h2⟩
   ·rintro⟨q,hq,h1,h2⟩;rcases List.mem_cons.1 hq with rfl|hq
    ·rw[h]at h1;cases h1
    ·exact⟨q,hq,h1,h2⟩
theorem mem_unwanted{bef:Array Nat} {i:Nat} {p:Pend}:∀{l:List Pend},p∈qb7 bef i l↔p∈l/\ahead bef p.i i=false
 |[]=>by simp[qb7]
 |q::r=>by
  unfold qb7;split
  ·rename_i h;rw[mem_unwanted,List.mem_cons];constructor
   ·rintro⟨h1,h2⟩;exact⟨.inr h1,h2⟩
   ·rintro⟨h1,h2⟩;rcases h1 with rfl|h1
    ·rw[h]at h2;cases h2
    ·exact⟨h1,h2⟩
  ·rename_i h;rw[List.mem_cons,mem_unwanted,List.mem_cons];constructor
   ·rintro(rfl|⟨h1,h2⟩)
    ·exact⟨.inl rfl,h⟩
    ·exact⟨.inr h1,h2⟩
   ·rintro⟨rfl|h1,h2⟩
    ·exact .inl rfl
    ·exact .inr ⟨h1,h2⟩
theorem qgg(bef:Array Nat) (i:Nat):∀(l:List Pend),(qb7 bef i l).Sublist l
 |[]=>List.Sublist.refl _
 |q::r=>by
  unfold qb7;split
  ·exact(qgg bef i r).trans (List.sublist_cons_self _ _)
  ·exact(qgg bef i r).cons_cons _
theorem qli(bef:Array Nat) (i:Nat):∀(l:List Pend),((qbg bef i l).map (·.1)).Sublist (l.map (·.b))
 |[]=>List.Sublist.refl _
 |q::r=>by
  unfold qbg;split
  ·simp only[List.map_cons];exact(qli bef i r).cons_cons _
  ·simp only[List.map_cons];exact(qli bef i r).trans (List.sublist_cons_self _ _)
theorem mem_allPend{e:Nat × Blk}:∀{l:List Pend},e∈allPend l↔∃p,p∈l/\e=(p.b,p.k)
 |[]=>by simp[allPend]
 |p::r=>by
  simp only[allPend,List.mem_cons,mem_allPend];constructor
  ·rintro(rfl|⟨q,hq,h⟩)
   ·exact⟨p,.inl rfl,rfl⟩
   ·exact⟨q,.inr hq,h⟩
  ·rintro⟨q,rfl|hq,h⟩
   ·exact .inl h
   ·exact .inr ⟨q,hq,h⟩
theorem qot:∀(l:List Pend),(allPend l).map (·.1)=l.map (·.b)
 |[]=>rfl
 |p::r=>by simp[allPend,qot r]
section
variable {C:Ctx} {call:qc5} {ops:Array Oper} {base:Nat} {R:Nat->DrawSt} {V:Nat->AV}
theorem Run.get_at(run:Run C call ops base R V):∀i,i<=ops.size->∀t v,(R i).s.get t=some v->Cur ops R V (fun j=>j < i) t v
 |0,_,t,v,h=>.inr ⟨fun k hk=>absurd hk (Nat.not_lt_zero k),h⟩
 |i+1,hi,t,v,h=>by
  have ho:ops[i]? = some ops[i]:=by simp[show i < ops.size by omega]
  have hd:qp5 ops i=ops[i].dst:=by simp[qp5,ho]
  rw[run.get i _ ho]at h;split at h
  next hdt=>simp only[sj]at h;exact .inl ⟨i,Nat.lt_succ_self i,by rw[hd,hdt],fun k hk _=>Nat.le_of_lt_succ hk,h⟩
  ·rename_i hdt;have hne:∀k,k < i+1->qp5 ops k=some t->k < i:=fun k hk hkd=>by
    rcases Nat.lt_or_ge k i with h|h
    ·exact h
    ·have:k=i:=(by omega);subst this;rw[hd]at hkd;exact absurd hkd hdt
   rcases run.get_at i (by omega) t v h with⟨j,h1,h2,h3,h4⟩|⟨h1,h2⟩
   ·exact .inl ⟨j,by omega,h2,fun k hk hkd=>h3 k (hne k hk hkd) hkd,h4⟩
   ·exact .inr ⟨fun k hk hkd=>h1 k (hne k hk hkd) hkd,h2⟩
theorem Run.sz_at(run:Run C call ops base R V):∀i,i<=ops.size->(R i).s.sz=(R 0).s.sz
 |0,_=>rfl
 |i+1,hi=>by
  have ho:ops[i]? = some ops[i]:=by simp[show i < ops.size by omega]
  rw[run.sz i _ ho,run.sz_at i (by omega)]
theorem How.quiet{i:Nat} {o:Oper} {d d':DrawSt} {v:AV} (h:How C call ops base i o d d' v) (hc:qb9 o.op≠.acts):d'.s.H=d.s.H/\d'.hs=d.hs:=by
 cases h with
 |skip _ _ _ hH _ hh=>exact⟨hH,hh⟩
 |skipActs _ _ hc'=>exact absurd hc' hc
 |alloc _ _ _ _ _ hH _ hh=>exact⟨hH,hh⟩
 |act _ hc'=>exact absurd hc' hc
 |read _ _ _ hH _ hh=>exact⟨hH,hh⟩
 |pure _ _ _ hH _ hh=>exact⟨hH,hh⟩
theorem How.loud{i:Nat} {o:Oper} {d d':DrawSt} {v:AV} (h:How C call ops base i o d d' v) (hc:qb9 o.op=.acts):d'.ps=qb7 (Region.before ops) i d.ps/\d'.hs=(i,d'.s.H)::d.hs:=by
 cases h with
 |skip _ _ hc'=>exact absurd hc hc'
 |skipActs _ _ _ _ hp hh=>exact⟨hp,hh⟩
 |act _ _ _ hp hh=>exact⟨hp,hh⟩
 |alloc _ hc'=>rw[hc]at hc';cases hc'
 |read _ hc'=>rw[hc]at hc';cases hc'
 |pure _ hc'=>rw[hc]at hc';cases hc'
theorem Run.heap_at(run:Run C call ops base R V):∀i,i<=ops.size->CurH ops R (fun j=>j < i) (R i).s.H
 |0,_=>.inr ⟨fun k hk=>absurd hk (Nat.not_lt_zero k),rfl⟩
 |i+1,hi=>by
  have ho:ops[i]? = some ops[i]:=by simp[show i < ops.size by omega]
  by_cases hc:qb9 ops[i].op=.acts
  ·exact .inl ⟨i,Nat.lt_succ_self i,⟨_,ho,hc⟩,fun k hk _=>Nat.le_of_lt_succ hk,rfl⟩
  ·have hne:∀k,k < i+1->qgf ops k->k < i:=fun k hk hka=>by
    rcases Nat.lt_or_ge k i with h|h
    ·exact h
    ·have:k=i:=(by omega);subst this;obtain⟨o,ho',hc'⟩:=hka;rw[ho]at ho';cases ho';exact absurd hc' hc
   rw[((run.how i _ ho).quiet hc).1];rcases run.heap_at i (by omega)with⟨j,h1,h2,h3,h4⟩|⟨h1,h2⟩
   ·exact .inl ⟨j,by omega,h2,fun k hk hka=>h3 k (hne k hk hka) hka,h4⟩
   ·exact .inr ⟨fun k hk hka=>h1 k (hne k hk hka) hka,h2⟩
theorem Run.ps_at(run:Run C call ops base R V):∀i,i<=ops.size->((R i).ps.map (·.b)).Nodup /\
  ∀p,p∈(R i).ps->p.i < i/\p.b=base+p.i/\AllocAt C ops R p.i p.k/\∀j,qgf ops j->p.i < j->j < i->ahead (Region.before ops) p.i j=false
 |0,_=>by rw[run.ps0];exact⟨List.nodup_nil,fun p hp=>by cases hp⟩
 |i+1,hi=>by
  have ho:ops[i]? = some ops[i]:=by simp[show i < ops.size by omega]
  obtain⟨hn,ih⟩:=run.ps_at i (by omega);have notAct:qb9 ops[i].op≠.acts->¬ qgf ops i:=fun hc ⟨o,ho',hc'⟩=>by rw[ho]at ho';cases ho';exact hc hc'
  have old:(∀p,p∈(R i).ps->¬ qgf ops i\/ahead (Region.before ops) p.i i=false)->∀p,p∈(R i).ps->p.i < i+1/\p.b=base+p.i/\AllocAt C ops R p.i p.k /\
    ∀j,qgf ops j->p.i < j->j < i+1->ahead (Region.before ops) p.i j=false:=fun hx p hp=>by
   obtain⟨h1,h2,h3,h4⟩:=ih p hp;refine⟨by omega,h2,h3,fun j hj hlt hj1=>?_⟩;rcases Nat.lt_or_ge j i with h|h
   ·exact h4 j hj hlt h
   ·have:j=i:=(by omega);subst this;rcases hx p hp with hx|hx
    ·exact absurd hj hx
    ·exact hx
  have quiet:qb9 ops[i].op≠.acts->(R (i+1)).ps=(R i).ps->((R (i+1)).ps.map (·.b)).Nodup /\
    ∀p,p∈(R (i+1)).ps->p.i < i+1/\p.b=base+p.i/\AllocAt C ops R p.i p.k/\∀j,qgf ops j->p.i < j->j < i+1->ahead (Region.before ops) p.i j=false:=fun hc hp=>by
   rw[hp];exact And.intro hn (old fun p _=>.inl (notAct hc))
  have how:=run.how i _ ho;cases how with
  |skip _ _ hc _ hp=>exact quiet hc hp
  |read _ hc _ _ hp=>exact quiet (by rw[hc];intro e;cases e) hp
  |pure _ hc _ _ hp=>exact quiet (by rw[hc];intro e;cases e) hp
  |skipActs _ _ _ _ hp=>
   rw[hp];refine⟨((qgg _ i _).map _).nodup hn,fun p hm=>?_⟩;obtain⟨h1,h2⟩:=mem_unwanted.1 hm;obtain⟨h3,h4,h5,h6⟩:=ih p h1;refine⟨by omega,h4,h5,fun j hj hlt hj1=>?_⟩;rcases Nat.lt_or_ge j i with h|h
   ·exact h6 j hj hlt h
   ·have:j=i:=(by omega);subst this;exact h2
  |act _ _ _ hp=>
   rw[hp];refine⟨((qgg _ i _).map _).nodup hn,fun p hm=>?_⟩;obtain⟨h1,h2⟩:=mem_unwanted.1 hm;obtain⟨h3,h4,h5,h6⟩:=ih p h1;refine⟨by omega,h4,h5,fun j hj hlt hj1=>?_⟩;rcases Nat.lt_or_ge j i with h|h
   ·exact h6 j hj hlt h
   ·have:j=i:=(by omega);subst this;exact h2
  |alloc hg hc k hk _ _ hp=>
   have hna:¬ qgf ops i:=notAct (by rw[hc];intro e;cases e);rw[hp];refine⟨?_,fun p hm=>?_⟩
   ·rw[List.map_cons,List.nodup_cons];refine⟨fun hm=>?_,hn⟩;obtain⟨p,hpm,he⟩:=List.mem_map.1 hm;obtain⟨h1,h2,_⟩:=ih p hpm;simp only at he;omega
   ·rcases List.mem_cons.1 hm with rfl|hm
    ·exact⟨Nat.lt_succ_self i,rfl,⟨_,k,ho,hc,hg,hk,rfl⟩,fun j _ h1 h2=>by simp only at h1;omega⟩
    ·exact old (fun p _=>.inl hna) p hm
theorem Run.rs_at(run:Run C call ops base R V) {x:Rec} {i:Nat} (h:x∈(R i).rs):∀n,i+n<=ops.size->x∈(R (i+n)).rs
 |0,_=>h
 |n+1,hn=>by
  have ho:ops[i+n]? = some ops[i+n]:=by simp[show i+n < ops.size by omega]
  have ih:=run.rs_at h n (by omega);have how:=run.how (i+n) _ ho;have e:i+(n+1)=i+n+1:=rfl;rw[e];cases how with
  |skip _ _ _ _ _ _ hr=>rw[hr];exact ih
  |skipActs _ _ _ _ _ _ hr=>rw[hr];exact ih
  |alloc _ _ _ _ _ _ _ _ hr=>rw[hr];exact ih
  |act _ _ _ _ _ hr=>rw[hr];exact ih
  |read _ _ _ _ _ _ hr=>rw[hr];exact List.mem_cons_of_mem _ ih
  |pure _ _ _ _ _ _ hr=>rw[hr];exact ih
theorem Run.same_at(run:Run C call ops base R V) {D:Nat->Prop} (hD:qu0 ops D) {x:Rec} (hx:¬ D x.i) (hc:qkc ops D x.i) {H:Heap} (hH:CurH ops R D H) :
  ∀i,i<=ops.size->(∀j,D j->qgf ops j->j < i)->qcq C call (Region.before ops) x (R 0).s.H (R i).hs=true->qeb C call x H=true
 |0,_,hlt,h=>by
  rw[run.hs0]at h;rcases hH with⟨j,h1,h2,_,_⟩|⟨_,rfl⟩
  ·exact absurd (hlt j h1 h2) (Nat.not_lt_zero j)
  ·exact h
 |i+1,hi,hlt,h=>by
  have ho:ops[i]? = some ops[i]:=by simp[show i < ops.size by omega]
  by_cases hca:qb9 ops[i].op=.acts
  ·rw[((run.how i _ ho).loud hca).2]at h;unfold qcq at h;have later:¬ D i->∀j,D j->qgf ops j->j < i:=fun hn j hj hja=>by
    have:=hlt j hj hja;rcases Nat.lt_or_ge j i with h|h
    ·exact h
    ·have e:j=i:=(by omega);subst e;exact absurd hj hn
   by_cases hDi:D i
   ·have hHi:H=(R (i+1)).s.H:=hH.one (.inl ⟨i,hDi,⟨_,ho,hca⟩,fun k hk hka=>Nat.le_of_lt_succ (hlt k hk hka),rfl⟩);split at h
    next ha=>exact absurd (qhq hD (hD i hDi) ha) hx
    ·split at h
     ·cases h
     next hs=>rw[hHi];exact hs
   ·split at h
    ·exact run.same_at hD hx hc hH i (by omega) (later hDi) h
    ·split at h
     ·cases h
     ·split at h
      next ha=>exact absurd (qhq hD hc ha) hDi
      ·exact run.same_at hD hx hc hH i (by omega) (later hDi) h
  ·rw[((run.how i _ ho).quiet hca).2]at h;refine run.same_at hD hx hc hH i (by omega) (fun j hj hja=>?_) h;have:=hlt j hj hja;rcases Nat.lt_or_ge j i with h|h
   ·exact h
   ·have e:j=i:=(by omega);subst e;obtain⟨o,ho',hc'⟩:=hja;rw[ho]at ho';cases ho';exact absurd hc' hca
end
def only (s:St) (ts:List Nat) (H:Heap):St:={ ks:=[],vs:=[],ts:=ts.filterMap fun t=>(s.get t).map fun v=>(t,v),sz:=s.sz,H:=H }
theorem qnz{s:St} {t:Nat}:∀{ts:List Nat},look t (ts.filterMap fun t=>(s.get t).map fun v=>(t,v))=if t∈ts then s.get t else none
 |[]=>by simp[qgm,qma]
 |u::r=>by
  rw[List.filterMap_cons];cases hu:s.get u with
  |none=>
   simp only[Option.map_none];rw[qnz];by_cases htu:t=u
   ·subst htu;by_cases hr:t∈r<;>simp[hr,hu]
   ·by_cases hr:t∈r<;>simp[hr,htu]
  |some v=>
   simp only[Option.map_some,qgm];split
   next hb=>have:u=t:=Nat.eq_of_beq_eq_true hb;subst this;simp[hu]
   next hb=>have htu:t≠u:=fun e=>(by subst e;simp at hb);rw[qnz];by_cases hr:t∈r<;>simp[hr,htu]
theorem qmy{s:St} {ts:List Nat} {H:Heap} {t:Nat}:(only s ts H).get t=if t∈ts then s.get t else none:=by simp only[St.get,only,qic];exact qnz
theorem qt9{ops:Array Oper} {s s':St} {o:Oper} (h:∀t,t∈qei ops o->s.get t=s'.get t):qaz ops s o=qaz ops s' o:=by
 unfold qaz;unfold qei at h;cases hg:o.guard with
 |none=>rfl
 |some x=>
  obtain⟨j,want⟩:=x;simp only[hg]at h ⊢;cases hp:ops[j]? with
  |none=>rfl
  |some p=>
   simp only[hp,Option.bind_some]at h ⊢;cases hd:p.dst with
   |none=>rfl
   |some t=>simp only[hd,Option.bind_some]at h ⊢;rw[h t (by simp)]
theorem qq3{ops:Array Oper} {o:Oper} {t:Nat} (h:Asks o.op t):t∈qei ops o:=by unfold qei;exact List.mem_append_left _ (List.mem_filterMap.2 ⟨.tmp t,h,rfl⟩)
theorem qkz(H:Heap) (L:List (Nat × Blk)):(H.lay L).ents=L++H.ents:=by
 cases L with
 |nil=>rfl
 |cons x r=>exact qpl _ _
theorem lay_n(H:Heap) (L:List (Nat × Blk)):(H.lay L).n=H.n:=by cases L<;>rfl
theorem qme:∀(l:List Oper) (s:St),(qar l s).H.n=s.H.n
 |[],_=>rfl
 |o::r,s=>by
  simp only[qar];rw[qme r];unfold qbn;have kill:∀b,(s.H.kill b).n=s.H.n:=fun b=>by unfold Heap.kill;split<;>rfl
  repeat' split
  all_goals first|exact kill _|rfl
section
theorem qjl{ρ:Place} {w:World} {a:Act}:∀{l:List Oper} {s:St},Sim ρ s.H w->EnvR ρ s a ->
  Sim ρ (qar l s).H w/\Step ρ s.H w ρ (qar l s).H w/\EnvR ρ (qar l s) a
 |[],s,sm,e=>⟨sm,.refl _ _ _,e⟩
 |o::r,s,sm,e=>by obtain⟨h1,h2,h3⟩:=qoe sm e o;obtain⟨g1,g2,g3⟩:=qjl (l:=r) h1 h3;exact⟨g1,h2.trans g2,g3⟩
structure Hid (w0:World) (ρ:Place) (H:Heap) (w:World) (b:Nat) (k:Blk) (l:Loc):Prop where
 at_:ρ b=some l
 new:w0.heap.size<=l.cb
 in_:l.cb < w.heap.size
 blk:BlkR ρ w l k
 off:∀e,e∈H.ents->∀l',ρ e.1=some l'->l'.cb≠l.cb
 free:¬ ρ.B l.cb
theorem Sim.lay{w0 w:World} {ρ:Place} {H:Heap} (s:Sim ρ H w) {L:List (Nat × Blk)} (hn:(L.map (·.1)).Nodup)
  (hid:∀e,e∈L->∃l,Hid w0 ρ H w e.1 e.2 l)
  (hap:∀e e',e∈L->e'∈L->∀l l',ρ e.1=some l->ρ e'.1=some l'->l.cb=l'.cb->e.1=e'.1):Sim ρ (H.lay L) w where
 base:=s.base
 below:=s.below
 os:=s.os
 tape:=s.tape
 output:=s.output
 dom:=fun b hb=>s.dom b (by rw[lay_n]at hb;exact hb)
 nodup:=by rw[qkz,List.map_append,List.nodup_append];refine⟨hn,s.nodup,fun a ha b hb hab=>?_⟩;obtain⟨e,he,rfl⟩:=List.mem_map.1 ha;obtain⟨e',he',rfl⟩:=List.mem_map.1 hb;obtain⟨l,hl⟩:=hid e he;exact hl.off e' he' l (by rw[<- hab];exact hl.at_) rfl
 live:=fun e he=>by
  rw[qkz]at he;rcases List.mem_append.1 he with he|he
  ·obtain⟨l,hl⟩:=hid e he;exact⟨l,hl.at_,hl.free,hl.in_,hl.blk⟩
  ·exact s.live e he
 inj:=fun e e' he he' l l' hl hl' hc=>by
  rw[qkz]at he he';rcases List.mem_append.1 he with he|he<;>rcases List.mem_append.1 he' with he'|he'
  ·exact hap e e' he he' l l' hl hl' hc
  ·obtain⟨m,hm⟩:=hid e he;have:=hm.at_;rw[hl]at this;cases this;exact absurd hc.symm (hm.off e' he' l' hl')
  ·obtain⟨m,hm⟩:=hid e' he';have:=hm.at_;rw[hl']at this;cases this;exact absurd hc (hm.off e he l hl)
  ·exact s.inj e e' he he' l l' hl hl' hc
theorem Step.lay{w0 w:World} {ρ0 ρ:Place} {H0 H:Heap} (s:Step ρ0 H0 w0 ρ H w) {L:List (Nat × Blk)} (hid:∀e,e∈L->∃l,Hid w0 ρ H w e.1 e.2 l):Step ρ0 H0 w0 ρ (H.lay L) w where
 le:=s.le
 size:=s.size
 keeps:=s.keeps
 num:=by rw[lay_n];exact s.num
 low:=s.low
 cold:=s.cold
 rows:=fun e he l hl=>by
  rw[qkz]at he;rcases List.mem_append.1 he with he|he
  ·obtain⟨m,hm⟩:=hid e he;have:=hm.at_;rw[hl]at this;cases this;exact .inr hm.new
  ·exact s.rows e he l hl
structure Inv (C:Ctx) (ops:Array Oper) (base:Nat) (R:Nat->DrawSt) (V:Nat->AV) (ρ0:Place) (H0:Heap) (w0:World) (ds:List Deferred)
  (D:Nat->Prop) (ρ:Place) (a:Act) (w:World) (H:Heap):Prop where
 inside:∀j,D j->j < ops.size
 closed:qu0 ops D
 size:(R 0).s.sz=a.tmps.size
 slots:∀t v,Cur ops R V D t v->VR ρ v (a.tmps.getD t undef)
 heap:CurH ops R D H
 sim:Sim ρ H w
 step:Step ρ0 H0 w0 ρ H w
 num:base+ops.size<=H.n
 undone:∀A,¬ D A->A < ops.size->ρ (base+A)=none
 pend:∀A k,D A->AllocAt C ops R A k->(∀j,D j->qgf ops j->ahead (Region.before ops) A j=false)->∃l,Hid w0 ρ H w (base+A) k l
 apart:∀A A' k k',D A->D A'->AllocAt C ops R A k->AllocAt C ops R A' k'->(∀j,D j->qgf ops j->ahead (Region.before ops) A j=false) ->
  (∀j,D j->qgf ops j->ahead (Region.before ops) A' j=false)->∀l l',ρ (base+A)=some l->ρ (base+A')=some l'->l.cb=l'.cb->A=A'
 defers:a.defers=ds
section
variable {C:Ctx} {call:qc5} {ops:Array Oper} {base:Nat} {R:Nat->DrawSt} {V:Nat->AV} {ρ0:Place} {H0:Heap} {w0:World} {ds:List Deferred}
variable {D:Nat->Prop} {ρ:Place} {a:Act} {w:World} {H:Heap} {i:Nat} {o:Oper}
theorem AllocAt.one{A:Nat} {k k':Blk} (h:AllocAt C ops R A k) (h':AllocAt C ops R A k'):k=k':=by obtain⟨o,p,h1,_,_,h4,h5⟩:=h;obtain⟨o',p',g1,_,_,g4,g5⟩:=h';rw[h1]at g1;cases g1;rw[h4]at g4;cases g4;rw[h5,g5]
theorem AllocAt.notActs{A:Nat} {k:Blk} (h:AllocAt C ops R A k):¬ qgf ops A:=by obtain⟨o,p,h1,h2,_⟩:=h;rintro⟨o',g1,g2⟩;rw[h1]at g1;cases g1;rw[h2]at g2;cases g2
theorem Inv.writers(dr:Drawn ops) (inv:Inv C ops base R V ρ0 H0 w0 ds D ρ a w H) (ho:ops[i]? = some o) (hn:¬ D i) (hc:qkc ops D i) {t:Nat} (ht:t∈o.dst.toList++qei ops o) {k:Nat}
  (hk:qp5 ops k=some t):(D k->k < i)/\(k < i->D k):=by
 obtain⟨p,hp,hd⟩:=obs hk;rcases dr.temps i o ho k p t hp hd ht with h|⟨h,ha⟩|⟨h,ha⟩
 ·subst h;exact⟨fun hD=>absurd hD hn,fun h=>absurd h (Nat.lt_irrefl _)⟩
 ·exact⟨fun hD=>absurd (qhq inv.closed (inv.closed k hD) ha) hn,fun h'=>by omega⟩
 ·exact⟨fun _=>h,fun _=>qhq inv.closed hc ha⟩
theorem Inv.asked(run:Run C call ops base R V) (dr:Drawn ops) (inv:Inv C ops base R V ρ0 H0 w0 ds D ρ a w H) (ho:ops[i]? = some o) (hn:¬ D i) (hc:qkc ops D i) {t:Nat}
  (ht:t∈o.dst.toList++qei ops o) {v:AV} (hv:(R i).s.get t=some v):VR ρ v (a.tmps.getD t undef):=by
 have hi:=(Array.getElem?_eq_some_iff.1 ho).1;refine inv.slots t v ?_;have wr:=fun k (hk:qp5 ops k=some t)=>inv.writers dr ho hn hc ht hk;rcases run.get_at i (Nat.le_of_lt hi) t v hv with⟨j,h1,h2,h3,h4⟩|⟨h1,h2⟩
 ·exact .inl ⟨j,(wr j h2).2 h1,h2,fun k hk hkd=>h3 k ((wr k hkd).1 hk) hkd,h4⟩
 ·exact .inr ⟨fun k hk hkd=>h1 k ((wr k hkd).1 hk) hkd,h2⟩
theorem Inv.env(run:Run C call ops base R V) (dr:Drawn ops) (inv:Inv C ops base R V ρ0 H0 w0 ds D ρ a w H) (ho:ops[i]? = some o) (hn:¬ D i) (hc:qkc ops D i) (H1:Heap) :
  EnvR ρ (only (R i).s (qei ops o) H1) a:=by
 have hi:=(Array.getElem?_eq_some_iff.1 ho).1;refine⟨?_,fun t v hv=>?_⟩
 ·show (R i).s.sz=_;rw[run.sz_at i (Nat.le_of_lt hi)];exact inv.size
 ·rw[qmy]at hv;split at hv
  next ht=>exact inv.asked run dr ho hn hc (List.mem_append_right _ ht) hv
  ·cases hv
theorem Inv.actsBefore(dr:Drawn ops) (inv:Inv C ops base R V ρ0 H0 w0 ds D ρ a w H) (hn:¬ D i) (hc:qkc ops D i) (hi:qgf ops i) {k:Nat} (hk:qgf ops k):(D k->k < i)/\(k < i->D k):=by
 refine⟨fun hD=>?_,fun h=>dr.chain k i hk hi h D inv.closed hc⟩;rcases Nat.lt_trichotomy k i with h|h|h
 ·exact h
 ·subst h;exact absurd hD hn
 ·exact absurd (dr.chain i k hi hk h D inv.closed (inv.closed k hD)) hn
theorem Inv.heapIs(run:Run C call ops base R V) (dr:Drawn ops) (inv:Inv C ops base R V ρ0 H0 w0 ds D ρ a w H) (hn:¬ D i) (hc:qkc ops D i) (hi:qgf ops i):H=(R i).s.H:=by
 have hlt:i < ops.size:=by obtain⟨o,ho,_⟩:=hi;exact(Array.getElem?_eq_some_iff.1 ho).1
 have ab:=fun k (hk:qgf ops k)=>inv.actsBefore dr hn hc hi hk;refine inv.heap.one ?_;rcases run.heap_at i (Nat.le_of_lt hlt)with⟨j,h1,h2,h3,h4⟩|⟨h1,h2⟩
 ·exact .inl ⟨j,(ab j h2).2 h1,h2,fun k hk hka=>h3 k ((ab k hka).1 hk) hka,h4⟩
 ·exact .inr ⟨fun k hk hka=>h1 k ((ab k hka).1 hk) hka,h2⟩
theorem Inv.wanted(run:Run C call ops base R V) (dr:Drawn ops) (inv:Inv C ops base R V ρ0 H0 w0 ds D ρ a w H) (hn:¬ D i) (hc:qkc ops D i) (hi:qgf ops i) :
  ∀e,e∈qbg (Region.before ops) i (R i).ps->∃A,e.1=base+A/\D A/\ahead (Region.before ops) A i=true/\AllocAt C ops R A e.2/\(∀j,D j->qgf ops j->ahead (Region.before ops) A j=false):=by
 intro e he;have hlt:i < ops.size:=by obtain⟨o,ho,_⟩:=hi;exact(Array.getElem?_eq_some_iff.1 ho).1
 obtain⟨p,hp,ha,rfl⟩:=mem_wanted.1 he;obtain⟨h1,h2,h3,h4⟩:=(run.ps_at i (Nat.le_of_lt hlt)).2 p hp;refine⟨p.i,h2,qhq inv.closed hc ha,ha,h3,fun j hj hja=>?_⟩;have hji:=(inv.actsBefore dr hn hc hi hja).1 hj;cases hx:ahead (Region.before ops) p.i j with
 |false=>rfl
 |true=>rw[h4 j hja (dr.lt hx) hji]at hx;cases hx
def qvi(D:Nat->Prop) (i:Nat):Nat->Prop:=fun j=>j=i\/D j
theorem Inv.closed1(inv:Inv C ops base R V ρ0 H0 w0 ds D ρ a w H) (hc:qkc ops D i):qu0 ops (qvi D i):=by
 rintro j (rfl|hj) o ho e he hb
 ·exact .inr (hc o ho e he hb)
 ·exact .inr (inv.closed j hj o ho e he hb)
theorem Inv.slots1(run:Run C call ops base R V) (dr:Drawn ops) (inv:Inv C ops base R V ρ0 H0 w0 ds D ρ a w H) (ho:ops[i]? = some o) (hn:¬ D i) (hc:qkc ops D i) {ρ':Place} {x:Value}
  (hle:ρ.le ρ') (hx:VR ρ' (V i) x):∀t v,Cur ops R V (qvi D i) t v->VR ρ' v ((a.put o.dst x).tmps.getD t undef):=by
 have hi:=(Array.getElem?_eq_some_iff.1 ho).1;have hd:qp5 ops i=o.dst:=by simp[qp5,ho]
 intro t v hcur;by_cases hdt:o.dst=some t
 ·have hlt:t < a.tmps.size:=by rw[<- inv.size,<- run.sz_at i (Nat.le_of_lt hi)];exact run.lt i o ho t hdt
  have hval:v=V i:=by
   rcases hcur with⟨j,hj,h2,h3,h4⟩|⟨h1,_⟩
   ·have hij:=h3 i (.inl rfl) (by rw[hd,hdt]);rcases hj with rfl|hj
    ·exact h4.symm
    ·have:=(inv.writers dr ho hn hc (t:=t) (by simp[hdt]) h2).1 hj;omega
   ·exact absurd (by rw[hd,hdt]) (h1 i (.inl rfl))
  subst hval;have:(a.put o.dst x).tmps.getD t undef=x:=by simp[Act.put,hdt,Array.getD_eq_getD_getElem?,hlt]
  rw[this];exact hx
 ·have hsame:(a.put o.dst x).tmps.getD t undef=a.tmps.getD t undef:=by
   cases hdd:o.dst with
   |none=>rfl
   |some u=>have:u≠t:=fun e=>hdt (by rw[hdd,e]);simp[Act.put,Array.getD_eq_getD_getElem?,this]
  rw[hsame];refine(inv.slots t v ?_).mono hle;rcases hcur with⟨j,hj,h2,h3,h4⟩|⟨h1,h2⟩
  ·rcases hj with rfl|hj
   ·rw[hd]at h2;exact absurd h2 hdt
   ·exact .inl ⟨j,hj,h2,fun k hk hkd=>h3 k (.inr hk) hkd,h4⟩
  ·exact .inr ⟨fun k hk=>h1 k (.inr hk),h2⟩
theorem qwa(a:Act) (d:Option Tmp) (x:Value):(a.put d x).tmps.size=a.tmps.size:=by cases d<;>simp[Act.put]
theorem qpj(a:Act) (d:Option Tmp) (x:Value):(a.put d x).defers=a.defers:=by cases d<;>rfl
theorem Inv.turn(run:Run C call ops base R V) (dr:Drawn ops) (inv:Inv C ops base R V ρ0 H0 w0 ds D ρ a w H) (ho:ops[i]? = some o) (hn:¬ D i) (hc:qkc ops D i)
  (hna:∀k,¬ AllocAt C ops R i k) {L:List (Nat × Blk)}
  (hL:∀e,e∈L->∃A,e.1=base+A/\D A/\(qgf ops i/\ahead (Region.before ops) A i=true)/\AllocAt C ops R A e.2/\(∀j,D j->qgf ops j->ahead (Region.before ops) A j=false))
  {ρ':Place} {x:Value} {w':World} {H':Heap} (hx:VR ρ' (V i) x) (sm:Sim ρ' H' w') (st0:Step ρ0 H0 w0 ρ (H.lay L) w) (st:Step ρ (H.lay L) w ρ' H' w') (hcur:CurH ops R (qvi D i) H') :
  Inv C ops base R V ρ0 H0 w0 ds (qvi D i) ρ' (a.put o.dst x) w' H':=by
 have hi:=(Array.getElem?_eq_some_iff.1 ho).1;have hnum:base+ops.size<=(H.lay L).n:=by rw[lay_n];exact inv.num
 have low:∀A,A < ops.size->ρ' (base+A)=ρ (base+A):=fun A hA=>st.low _ (by omega);have was:∀A k,qvi D i A->AllocAt C ops R A k->(∀j,qvi D i j->qgf ops j->ahead (Region.before ops) A j=false) ->
   D A/\(∀j,D j->qgf ops j->ahead (Region.before ops) A j=false)/\∀e,e∈L->e.1≠base+A:=by
  intro A k hA hk hu;have hDA:D A:=by
   rcases hA with rfl|hA
   ·exact absurd hk (hna k)
   ·exact hA
  refine⟨hDA,fun j hj=>hu j (.inr hj),fun e he heq=>?_⟩;obtain⟨A',h1,_,⟨h3,h4⟩,_⟩:=hL e he;have:A'=A:=by omega
  subst this;rw[hu i (.inl rfl) h3]at h4;cases h4
 refine⟨?_,inv.closed1 hc,by rw[qwa];exact inv.size,inv.slots1 run dr ho hn hc st.le hx,hcur,sm,st0.trans st,Nat.le_trans hnum st.num,?_,?_,?_,by rw[qpj];exact inv.defers⟩
 ·rintro j (rfl|hj)
  ·exact hi
  ·exact inv.inside j hj
 ·intro A hA hlt;rw[low A hlt];exact inv.undone A (fun h=>hA (.inr h)) hlt
 ·intro A k hA hk hu;obtain⟨h1,h2,h3⟩:=was A k hA hk hu;obtain⟨l,hl⟩:=inv.pend A k h1 hk h2;have hAs:A < ops.size:=inv.inside A h1;have hoff:∀e,e∈(H.lay L).ents->∀l',ρ e.1=some l'->l'.cb≠l.cb:=by
   intro e he l' hl';rw[qkz]at he;rcases List.mem_append.1 he with he|he
   ·obtain⟨A',g1,g2,g3,g4,g5⟩:=hL e he;intro hcb;have:=inv.apart A' A e.2 k g2 h1 g4 hk g5 h2 l' l (by rw[<- g1];exact hl') hl.at_ hcb;exact h3 e he (by rw[g1,this])
   ·exact hl.off e he l' hl'
  have hrow:w'.heap[l.cb]? = w.heap[l.cb]?:=st.keeps l.cb hl.in_ hoff;refine⟨l,by rw[low A hAs];exact hl.at_,hl.new,Nat.lt_of_lt_of_le hl.in_ st.size,(hl.blk.same hrow).mono st.le,fun e he l' hl' hcb=>?_,fun hB=>?_⟩
  ·rcases st.rows e he l' hl' with⟨e0,he0,l0,hl0,hcb0⟩|hge
   ·exact hoff e0 he0 l0 hl0 (by rw[hcb0,hcb])
   ·have:=hl.in_;omega
  ·rcases st.cold _ hB with h|⟨e0,he0,l0,hl0,hcb0⟩|hge
   ·exact hl.free h
   ·exact hoff e0 he0 l0 hl0 hcb0
   ·have:=hl.in_;omega
 ·intro A A' k k' hA hA' hk hk' hu hu' l l' hl hl' hcb;obtain⟨h1,h2,_⟩:=was A k hA hk hu;obtain⟨g1,g2,_⟩:=was A' k' hA' hk' hu';rw[low A (inv.inside A h1)]at hl;rw[low A' (inv.inside A' g1)]at hl';exact inv.apart A A' k k' h1 g1 hk hk' h2 g2 l l' hl hl' hcb
theorem Inv.heapStays(inv:Inv C ops base R V ρ0 H0 w0 ds D ρ a w H) (hna:¬ qgf ops i):CurH ops R (qvi D i) H:=by
 rcases inv.heap with⟨j,h1,h2,h3,h4⟩|⟨h1,h2⟩
 ·refine .inl ⟨j,.inr h1,h2,fun k hk hka=>?_,h4⟩;rcases hk with rfl|hk
  ·exact absurd hka hna
  ·exact h3 k hk hka
 ·refine .inr ⟨fun k hk hka=>?_,h2⟩;rcases hk with rfl|hk
  ·exact hna hka
  ·exact h1 k hk hka
theorem Inv.heapTurns(dr:Drawn ops) (inv:Inv C ops base R V ρ0 H0 w0 ds D ρ a w H) (hn:¬ D i) (hc:qkc ops D i) (hi:qgf ops i):CurH ops R (qvi D i) (R (i+1)).s.H:=by
 refine .inl ⟨i,.inl rfl,hi,fun k hk hka=>?_,rfl⟩;rcases hk with rfl|hk
 ·exact Nat.le_refl _
 ·exact Nat.le_of_lt ((inv.actsBefore dr hn hc hi hka).1 hk)
theorem Inv.allocs(run:Run C call ops base R V) (dr:Drawn ops) (hbase:H0.n=base) (inv:Inv C ops base R V ρ0 H0 w0 ds D ρ a w H) (ho:ops[i]? = some o) (hn:¬ D i) (hc:qkc ops D i)
  {k:(Nat->AV) × Blk} (hk:AllocAt C ops R i k.2) {ob:Obj} {fin:Nat} {x:Value} (hx:VR (ρ.upd (base+i) ⟨w.heap.size,0,fin⟩) (V i) x)
  (hb:BlkR (ρ.upd (base+i) ⟨w.heap.size,0,fin⟩) (w.alloc ob) ⟨w.heap.size,0,fin⟩ k.2) :
  Inv C ops base R V ρ0 H0 w0 ds (qvi D i) (ρ.upd (base+i) ⟨w.heap.size,0,fin⟩) (a.put o.dst x) (w.alloc ob) H:=by
 have hi:=(Array.getElem?_eq_some_iff.1 ho).1;have hnone:ρ (base+i)=none:=inv.undone i hn hi;have hle:ρ.le (ρ.upd (base+i) ⟨w.heap.size,0,fin⟩):=Place.le_upd hnone;have hcell:∀k,k < w.heap.size->(w.alloc ob).heap[k]? = w.heap[k]?:=fun k hk=>Below.heap_alloc w ob k hk;have hsize:(w.alloc ob).heap.size=w.heap.size+1:=by simp
 have hne:∀e,e∈H.ents->e.1≠base+i:=fun e hm hx=>by obtain⟨l,hl,_⟩:=inv.sim.live e hm;rw[hx,hnone]at hl;cases hl
 have hDi:∀A,qvi D i A->A≠i->D A:=fun A hA h=>hA.resolve_left h;have hAcur:∀A l,(ρ.upd (base+i) ⟨w.heap.size,0,fin⟩) (base+A)=some l->A=i/\l=⟨w.heap.size,0,fin⟩\/A≠i/\ρ (base+A)=some l:=fun A l h=>by
  by_cases hA:A=i
  ·subst hA;rw[Place.upd_same]at h;cases h;exact .inl ⟨rfl,rfl⟩
  ·rw[Place.upd_other (by omega)]at h;exact .inr ⟨hA,h⟩
 refine⟨?_,inv.closed1 hc,by rw[qwa];exact inv.size,inv.slots1 run dr ho hn hc hle hx,inv.heapStays hk.notActs,?_,?_,inv.num,?_,?_,?_,by rw[qpj];exact inv.defers⟩
 ·rintro j (rfl|hj)
  ·exact hi
  ·exact inv.inside j hj
 ·refine⟨fun k hk=>by rw[hsize];exact Nat.lt_succ_of_lt (inv.sim.base k hk),fun k hk=>?_,inv.sim.os,inv.sim.tape,inv.sim.output,fun b hb=>?_,inv.sim.nodup,fun e he=>?_,fun e e' he he' l l' hl hl' hcb=>?_⟩
  ·rw[hcell k (inv.sim.base k hk)];exact inv.sim.below k hk
  ·have:=inv.num;rw[Place.upd_other (by omega)];exact inv.sim.dom b hb
  ·obtain⟨l,h1,h2,h3,h4⟩:=inv.sim.live e he;exact⟨l,hle _ _ h1,h2,by omega,(h4.same (hcell _ h3)).mono hle⟩
  ·rw[Place.upd_other (hne e he)]at hl;rw[Place.upd_other (hne e' he')]at hl';exact inv.sim.inj e e' he he' l l' hl hl' hcb
 ·have st:=inv.step;refine⟨Place.le_trans st.le hle,by have:=st.size;omega,fun k hk hnk=>?_,fun e he l hl=>?_,st.num,fun b hb=>?_,st.cold⟩
  ·rw[hcell k (Nat.lt_of_lt_of_le hk st.size)];exact st.keeps k hk hnk
  ·rw[Place.upd_other (hne e he)]at hl;exact st.rows e he l hl
  ·rw[Place.upd_other (by omega)];exact st.low b hb
 ·intro A hA hlt;have hAi:A≠i:=fun e=>hA (.inl e);rw[Place.upd_other (by omega)];exact inv.undone A (fun h=>hA (.inr h)) hlt
 ·intro A k' hA hk' hu;by_cases hAi:A=i
  ·subst hAi;have:=hk.one hk';subst this;refine⟨_,Place.upd_same,inv.step.size,by simp,hb,fun e he l' hl'=>?_,fun hB=>absurd (inv.sim.base _ hB) (Nat.lt_irrefl _)⟩;rw[Place.upd_other (hne e he)]at hl';obtain⟨m,h1,_,h3,_⟩:=inv.sim.live e he;rw[hl']at h1;cases h1;show l'.cb≠w.heap.size;omega
  ·obtain⟨l,hl⟩:=inv.pend A k' (hDi A hA hAi) hk' fun j hj=>hu j (.inr hj);refine⟨l,hle _ _ hl.at_,hl.new,by have:=hl.in_;omega,(hl.blk.same (hcell _ hl.in_)).mono hle,fun e he l' hl'=>?_,hl.free⟩;rw[Place.upd_other (hne e he)]at hl';exact hl.off e he l' hl'
 ·intro A A' k1 k2 hA hA' h1 h2 hu hu' l l' hl hl' hcb;rcases hAcur A l hl with⟨rfl,rfl⟩|⟨hAi,hl2⟩<;>rcases hAcur A' l' hl' with⟨rfl,rfl⟩|⟨hAi',hl2'⟩
  ·rfl
  ·obtain⟨m,hm⟩:=inv.pend A' k2 (hDi A' hA' hAi') h2 fun j hj=>hu' j (.inr hj);have:=hm.at_;rw[hl2']at this;cases this;have:=hm.in_;simp only at hcb;omega
  ·obtain⟨m,hm⟩:=inv.pend A k1 (hDi A hA hAi) h1 fun j hj=>hu j (.inr hj);have:=hm.at_;rw[hl2]at this;cases this;have:=hm.in_;simp only at hcb;omega
  ·exact inv.apart A A' k1 k2 (hDi A hA hAi) (hDi A' hA' hAi') h1 h2 (fun j hj=>hu j (.inr hj)) (fun j hj=>hu' j (.inr hj)) l l' hl2 hl2' hcb
end
end
section
variable {C:Ctx} {call:qc5} {ops:Array Oper} {base:Nat} {R:Nat->DrawSt} {V:Nat->AV} {ρ0:Place} {H0:Heap} {w0:World} {ds:List Deferred}
variable {D:Nat->Prop} {ρ:Place} {a:Act} {w:World} {H:Heap} {i:Nat} {o:Oper}
theorem Inv.ready(hC:CallOK C call) (run:Run C call ops base R V) (dr:Drawn ops) (hbase:H0.n=base)
  (inv:Inv C ops base R V ρ0 H0 w0 ds D ρ a w H) (ho:ops[i]? = some o) (hn:¬ D i) (hc:qkc ops D i) {r:Option Nat} {K:Act->World->Prop} {Q:Exit->Act->World->Prop}
  (hK:∀ρ' a' w' H',Inv C ops base R V ρ0 H0 w0 ds (qvi D i) ρ' a' w' H'->K a' w'):wpOpIn (fen r) 0 C.P ops Q i K a w:=by
 have hi:=(Array.getElem?_eq_some_iff.1 ho).1;have hguard:∀H1,qaz ops (only (R i).s (qei ops o) H1) o=qaz ops (R i).s o:=fun H1=>qt9 fun t ht=>by rw[qmy,if_pos ht]
 have hval:∀H1,qae C call o (only (R i).s (qei ops o) H1)=qae C call o { (R i).s with H:=H1 }:=fun H1=>
  qrd rfl fun t ht=>by rw[qmy,if_pos (qq3 ht)];rfl
 have tup:∀ρ',VR ρ' (.tup []) undef:=fun ρ'=>.tup [] #[] rfl (fun i h=>absurd h (Nat.not_lt_zero i));have laid:qgf ops i->Sim ρ (H.lay (qbg (Region.before ops) i (R i).ps)) w/\Step ρ0 H0 w0 ρ (H.lay (qbg (Region.before ops) i (R i).ps)) w:=fun hact=>by
  have hw:=inv.wanted run dr hn hc hact;have hid:∀e,e∈qbg (Region.before ops) i (R i).ps->∃l,Hid w0 ρ H w e.1 e.2 l:=fun e he=>by obtain⟨A,h1,h2,_,h4,h5⟩:=hw e he;rw[h1];exact inv.pend A e.2 h2 h4 h5
  refine⟨inv.sim.lay ((qli _ i _).nodup (run.ps_at i (Nat.le_of_lt hi)).1) hid fun e e' he he' l l' hl hl' hcb=>?_,inv.step.lay hid⟩;obtain⟨A,h1,h2,_,h4,h5⟩:=hw e he;obtain⟨A',g1,g2,_,g4,g5⟩:=hw e' he';rw[h1]at hl;rw[g1]at hl';rw[h1,g1,inv.apart A A' e.2 e'.2 h2 g2 h4 g4 h5 g5 l l' hl hl' hcb]
 have wants:qgf ops i->∀e,e∈qbg (Region.before ops) i (R i).ps->∃A,e.1=base+A/\D A/\(qgf ops i/\ahead (Region.before ops) A i=true)/\AllocAt C ops R A e.2/\(∀j,D j->qgf ops j->ahead (Region.before ops) A j=false):=
  fun hact e he=>let ⟨A,h1,h2,h3,h4,h5⟩:=inv.wanted run dr hn hc hact e he;⟨A,h1,h2,⟨hact,h3⟩,h4,h5⟩
 have env:=fun H1=>inv.env run dr ho hn hc H1;unfold wpOpIn;simp only[ho];have go:∀(L:List (Nat × Blk)) (H':Heap),qaz ops (R i).s o=some true->(∀k,¬ AllocAt C ops R i k) ->
   (∀e,e∈L->∃A,e.1=base+A/\D A/\(qgf ops i/\ahead (Region.before ops) A i=true)/\AllocAt C ops R A e.2/\(∀j,D j->qgf ops j->ahead (Region.before ops) A j=false)) ->
   Sim ρ (H.lay L) w->Step ρ0 H0 w0 ρ (H.lay L) w->qae C call o { (R i).s with H:=H.lay L }=some (V i,H')->CurH ops R (qvi D i) H' ->
   (if Region.wanted o (yielded ops a.tmps)=true then o.wpIn (fen r) 0 C.P a w K Q else (∀f,o.about C.P w a.eval=some f->(fen r).fn f)/\K (a.put o.dst undef) w):=by
  intro L H' hg hna hL sm st he hcur;rw[ql2 (env H) ((hguard H).trans hg)];simp only[if_true];refine zar hC ((hval (H.lay L)).trans he) sm (env _) fun x ρ' w' h1 h2 h3=>hK ρ' _ w' H' ?_;exact inv.turn run dr ho hn hc hna hL h1 h2 st h3 hcur
 have skip:∀(L:List (Nat × Blk)),qaz ops (R i).s o=some false->V i=.tup [] ->
   (∀e,e∈L->∃A,e.1=base+A/\D A/\(qgf ops i/\ahead (Region.before ops) A i=true)/\AllocAt C ops R A e.2/\(∀j,D j->qgf ops j->ahead (Region.before ops) A j=false)) ->
   Sim ρ (H.lay L) w->Step ρ0 H0 w0 ρ (H.lay L) w->CurH ops R (qvi D i) (H.lay L) ->
   (if Region.wanted o (yielded ops a.tmps)=true then o.wpIn (fen r) 0 C.P a w K Q else (∀f,o.about C.P w a.eval=some f->(fen r).fn f)/\K (a.put o.dst undef) w):=by
  intro L hg hv hL sm st hcur;rw[ql2 (env H) ((hguard H).trans hg)];simp only[Bool.false_eq_true,if_false];refine⟨fun f _=>qx9 r f,hK ρ _ w (H.lay L) (inv.turn run dr ho hn hc (fun k hk=>?_) hL (by rw[hv];exact tup ρ) sm st (.refl _ _ _) hcur)⟩;obtain⟨o',p,g1,_,g3,_⟩:=hk;rw[ho]at g1;cases g1;rw[hg]at g3;cases g3
 have nil:∀e,e∈([]:List (Nat × Blk))->∃A,e.1=base+A/\D A/\(qgf ops i/\ahead (Region.before ops) A i=true)/\AllocAt C ops R A e.2/\(∀j,D j->qgf ops j->ahead (Region.before ops) A j=false):=fun e he=>by cases he
 have notAct:qb9 o.op≠.acts->¬ qgf ops i:=fun h ⟨o',g1,g2⟩=>by rw[ho]at g1;cases g1;exact h g2
 have notAlloc:qb9 o.op≠.allocs->∀k,¬ AllocAt C ops R i k:=fun h k ⟨o',p,g1,g2,_⟩=>by rw[ho]at g1;cases g1;exact h g2
 cases run.how i o ho with
 |skip hg hv hcl hH hp hh hr=>exact skip [] hg hv nil inv.sim inv.step (inv.heapStays (notAct hcl))
 |skipActs hg hv hcl hH hp hh hr=>have hact:qgf ops i:=⟨o,ho,hcl⟩;refine skip _ hg hv (wants hact) (laid hact).1 (laid hact).2 ?_;have h1:=inv.heapIs run dr hn hc hact;rw[h1,<- hH];exact inv.heapTurns dr hn hc hact
 |alloc hg hcl k hk hv hH hp hh hr=>
  have hAt:AllocAt C ops R i k.2:=⟨o,k,ho,hcl,hg,hk,rfl⟩;rw[ql2 (env H) ((hguard H).trans hg)];simp only[if_true];have hk':qbt C o (only (R i).s (qei ops o) H)=some k:=(qnw fun t ht=>by rw[qmy,if_pos (qq3 ht)]).trans hk;obtain⟨ob,fin,x,h1,h2⟩:=qsr (C:=C) (s:=only (R i).s (qei ops o) H) inv.sim (env H) hk';obtain⟨h3,h4⟩:=h2 (base+i) (inv.undone i hn hi);have hsome:∃q,qae C call o (only (R i).s (qei ops o) H)=some q:=by unfold qae;cases hop:o.op<;>simp[qb9,hop]at hcl<;>simp only[hk',Option.bind_some];all_goals first|exact⟨_,rfl⟩|(split at hcl<;>(try simp at hcl)<;>split at hcl<;>simp at hcl)
  obtain⟨q,hq⟩:=hsome;refine⟨fun f _=>qx9 r f,?_⟩;rw[qpg hq,h1];exact hK _ _ _ H (inv.allocs run dr hbase ho hn hc hAt (by rw[hv];exact h3) h4)
 |act hg hcl he hp hh hr=>have hact:qgf ops i:=⟨o,ho,hcl⟩;have h1:=inv.heapIs run dr hn hc hact;refine go _ (R (i+1)).s.H hg (notAlloc (by rw[hcl];intro e;cases e)) (wants hact) (laid hact).1 (laid hact).2 ?_ (inv.heapTurns dr hn hc hact);rw[h1];exact he
 |read hg hcl he hH hp hh hr=>
  have hna:=notAct (by rw[hcl];intro e;cases e);refine go [] H hg (notAlloc (by rw[hcl];intro e;cases e)) nil inv.sim inv.step ?_ (inv.heapStays hna);have hrec:({ i:=i,o:=o,s:=(R i).s,v:=V i }:Rec)∈(R ops.size).rs:=by have:=run.rs_at (x:={ i:=i,o:=o,s:=(R i).s,v:=V i }) (i:=i+1) (by rw[hr];exact List.mem_cons_self) (ops.size - (i+1)) (by omega);have e:i+1+(ops.size - (i+1))=ops.size:=(by omega);rw[e]at this;exact this
  have hs:=run.same_at inv.closed (x:={ i:=i,o:=o,s:=(R i).s,v:=V i }) hn hc inv.heap ops.size (Nat.le_refl _) (fun j hj _=>inv.inside j hj) (run.same _ hrec);unfold qeb at hs;simp only at hs;show qae C call o { (R i).s with H:=H }=_;cases hy:qae C call o { (R i).s with H:=H } with
  |none=>rw[hy]at hs;cases hs
  |some y=>rw[hy]at hs;obtain⟨v,H1⟩:=y;simp only[decide_eq_true_eq]at hs;subst hs;have:=qft hcl hy;simp only at this;rw[this]
 |pure hg hcl he hH hp hh hr=>have hna:=notAct (by rw[hcl];intro e;cases e);exact go [] H hg (notAlloc (by rw[hcl];intro e;cases e)) nil inv.sim inv.step ((qgp hcl he).2 H) (inv.heapStays hna)
theorem count_set{l:Array Bool} {i:Nat} (hi:i < l.size) (h:l.getD i true=false):(l.setIfInBounds i true).toList.count false+1=l.toList.count false:=by
 have hl:l[i]=false:=by simpa[Array.getD,hi]using h
 have h1:i < l.toList.length:=by simpa using hi
 rw[Array.toList_setIfInBounds,List.count_set h1];have h2:l.toList[i]=false:=by simpa using hl
 have hlen:l.toList.length=l.size:=by simp
 have hpos:0 < l.toList.count false:=List.count_pos_iff.2 (by rw[<- h2];exact List.getElem_mem h1);have e1:(l.toList[i] == false)=true:=by rw[h2];rfl
 rw[if_pos e1];simp only[Bool.true_eq_false,beq_iff_eq,if_false];omega
theorem draw_any(hC:CallOK C call) (run:Run C call ops base R V) (dr:Drawn ops) (hbase:H0.n=base) {r:Option Nat} {Q:Exit->Act->World->Prop}
  (hk:∀ρ' a' w' H' D,(∀j,j < ops.size->D j)->Inv C ops base R V ρ0 H0 w0 ds D ρ' a' w' H'->Q .normal a' w') :
  ∀(fuel:Nat) (listed:Array Bool) (ρ:Place) (a:Act) (w:World) (H:Heap),listed.size=ops.size->listed.toList.count false<=fuel ->
   Inv C ops base R V ρ0 H0 w0 ds (fun j=>listed.getD j false=true) ρ a w H->wpAnyIn (fen r) 0 C.P .any ops Q fuel listed a w:=by
 have fin:∀(listed:Array Bool) ρ a w H,listed.size=ops.size->Region.ready .any ops listed=[]->Inv C ops base R V ρ0 H0 w0 ds (fun j=>listed.getD j false=true) ρ a w H->Q .normal a w:=by
  intro listed ρ a w H hs hr inv;refine hk ρ a w H _ (fun j hj=>?_) inv;induction j using Nat.strongRecOn with
  |_ j ih=>
   cases hl:listed.getD j false with
   |true=>rfl
   |false=>have hjs:j < listed.size:=(by omega);have hmem:j∈Region.ready .any ops listed:=mem_ready.2 ⟨by simpa[Array.getD,hjs]using hl,ops[j],by simp[hj],fun e he hb=>by have hlt:=dr.back j ops[j] (by simp[hj]) e he hb;exact ih e.on hlt (by omega)⟩;rw[hr]at hmem;cases hmem
 intro fuel;induction fuel with
 |zero=>
  intro listed ρ a w H hs hcnt inv;have hr:Region.ready .any ops listed=[]:=by rw[List.eq_nil_iff_forall_not_mem];intro j hj;obtain⟨h1,o,ho,_⟩:=mem_ready.1 hj;have hjs:j < listed.size:=(by rw[hs];exact(Array.getElem?_eq_some_iff.1 ho).1);have hl:listed.toList[j]'(by simpa using hjs)=false:=(by simpa[Array.getD,hjs]using h1);have:0 < listed.toList.count false:=List.count_pos_iff.2 (by rw[<- hl];exact List.getElem_mem _);omega
  exact⟨hr,fin listed ρ a w H hs hr inv⟩
 |succ fuel ih=>
  intro listed ρ a w H hs hcnt inv;refine⟨fun hr=>fin listed ρ a w H hs hr inv,fun i hi=>?_⟩;obtain⟨h1,o,ho,h3⟩:=mem_ready.1 hi;have hio:i < ops.size:=(Array.getElem?_eq_some_iff.1 ho).1;have his:i < listed.size:=by rw[hs];exact hio
  have hn:¬ listed.getD i false=true:=by have:listed[i]=false:=(by simpa[Array.getD,his]using h1);simp[Array.getD,his,this]
  refine inv.ready hC run dr hbase ho hn (fun o' ho' e he hb=>by rw[ho]at ho';cases ho';exact h3 e he hb) fun ρ' a' w' H' inv'=>?_;refine ih (listed.setIfInBounds i true) ρ' a' w' H' (by simp[hs]) (by have:=count_set his h1;omega) ?_;have:(fun j=>(listed.setIfInBounds i true).getD j false=true)=qvi (fun j=>listed.getD j false=true) i:=by
   funext j;apply propext;unfold qvi;simp only[Array.getD_eq_getD_getElem?,Array.getElem?_setIfInBounds];by_cases hj:i=j
   ·subst hj;simp[his]
   ·rw[if_neg hj];constructor
    ·exact .inr
    ·rintro(h|h)
     ·exact absurd h.symm hj
     ·exact h
  rw[this];exact inv'
theorem zc9(hC:CallOK C call) {id:Nat} {s s':St} {r:Option Nat} {Q:Exit->Act->World->Prop} (hm:C.P.follows .mixedOrders=true)
  (h:qj9 C call ops s=some s') (sm:Sim ρ s.H w) (e:EnvR ρ s a)
  (hk:∀a' w' ρ',Sim ρ' s'.H w'->Step ρ s.H w ρ' s'.H w'->EnvR ρ' s' a'->a'.defers=a.defers->Q .normal a' w'):(Code.region id ops true).wpIn (fen r) 0 C.P Q a w:=by
 obtain⟨dr,R,V,run,h0,h1⟩:=qtj h;refine wpIn_region_any hm ?_;obtain⟨g1,g2,g3⟩:=qjl (l:=ops.toList) sm e;have hn0:(qar ops.toList s).H.n=s.H.n:=qme _ _;have hR0:(R 0).s.H=⟨s.H.n+ops.size,(qar ops.toList s).H.fs⟩:=by rw[h0];simp[qc7,hn0]
 have sm0:Sim ρ (R 0).s.H w:=by rw[hR0];exact g1.of_sub (fun _ h=>h) (by rw[hn0];exact Nat.le_add_right _ _) g1.nodup
 have st0:Step ρ s.H w ρ (R 0).s.H w:=by rw[hR0];exact g2.trans (.of_sub (fun _ h=>h) (by rw[hn0];exact Nat.le_add_right _ _))
 have e0:EnvR ρ (R 0).s a:=by rw[h0];exact⟨g3.size,g3.val⟩
 have nobody:∀j,¬ (Array.replicate ops.size false).getD j false=true:=fun j=>by rw[Array.getD_eq_getD_getElem?,Array.getElem?_replicate];split<;>simp
 have hw:({ w with drawn:=w.drawn+1 }:World)=w.drew:=rfl;have inv:Inv C ops s.H.n R V ρ s.H w a.defers (fun j=>(Array.replicate ops.size false).getD j false=true) ρ a w.drew (R 0).s.H:=
  ⟨fun j hj=>absurd hj (nobody j),fun j hj=>absurd hj (nobody j),e0.size,fun t v hc=>by
   rcases hc with⟨j,hj,_⟩|⟨_,hv⟩
   ·exact absurd hj (nobody j)
   ·exact e0.val t v hv,
   .inr ⟨fun k hk=>absurd hk (nobody k),rfl⟩,sm0.drew,st0.trans (Step.drew _ _ _),by rw[hR0];exact Nat.le_refl _,fun A _ _=>sm.dom _ (Nat.le_add_right _ _),fun A k hA=>absurd hA (nobody A),
   fun A A' k k' hA=>absurd hA (nobody A),rfl⟩
 rw[hw];refine draw_any hC run dr rfl (fun ρ' a' w' H' D hD inv=>?_) ops.size _ ρ a w.drew _ (by simp) (by simp) inv;have hall:∀j,D j↔j < ops.size:=fun j=>⟨inv.inside j,hD j⟩;have hDeq:D=fun j=>j < ops.size:=funext fun j=>propext (hall j);subst hDeq;have hH:H'=(R ops.size).s.H:=inv.heap.one (run.heap_at ops.size (Nat.le_refl _));obtain⟨hnd,hps⟩:=run.ps_at ops.size (Nat.le_refl _);have hun:∀p,p∈(R ops.size).ps->∀j,j < ops.size->qgf ops j->ahead (Region.before ops) p.i j=false:=fun p hp j hj hja=>by
  cases hx:ahead (Region.before ops) p.i j with
  |false=>rfl
  |true=>rw[(hps p hp).2.2.2 j hja (dr.lt hx) hj]at hx;cases hx
 have hid:∀x,x∈allPend (R ops.size).ps->∃l,Hid w ρ' H' w' x.1 x.2 l:=fun x hx=>by obtain⟨p,hp,rfl⟩:=mem_allPend.1 hx;obtain⟨q1,q2,q3,_⟩:=hps p hp;simp only;rw[q2];exact inv.pend p.i p.k q1 q3 (hun p hp)
 have smE:=inv.sim.lay (L:=allPend (R ops.size).ps) (by rw[qot];exact hnd) hid fun x x' hx hx' l l' hl hl' hcb=>by obtain⟨p,hp,rfl⟩:=mem_allPend.1 hx;obtain⟨p',hp',rfl⟩:=mem_allPend.1 hx';obtain⟨q1,q2,q3,_⟩:=hps p hp;obtain⟨q1',q2',q3',_⟩:=hps p' hp';simp only at hl hl' ⊢;rw[q2]at hl ⊢;rw[q2']at hl' ⊢;rw[inv.apart p.i p'.i p.k p'.k q1 q1' q3 q3' (hun p hp) (hun p' hp') l l' hl hl' hcb]
 have stE:=inv.step.lay hid;rw[hH]at smE stE;subst h1;refine hk a' w' ρ' smE stE ⟨?_,fun t v hv=>?_⟩ inv.defers
 ·show (R ops.size).s.sz=_;rw[run.sz_at ops.size (Nat.le_refl _)];exact inv.size
 ·exact inv.slots t v (run.get_at ops.size (Nat.le_refl _) t v hv)
