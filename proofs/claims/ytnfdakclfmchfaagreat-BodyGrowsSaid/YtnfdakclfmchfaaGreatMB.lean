/- How E's operations on maps meet the model's; least and most. No condition. -/
import Derived.Test.YtnfdakclfmchfaaGreatMA
import Derived.Laws.StructEq
import Derived.Laws.Concat
import Derived.IntWalk
import Derived.Laws.BytesString
import Derived.Lib.Builder
import Derived.Laws.IdiomStrings
import Derived.MapKept
namespace Go.Proofs.YtnfdakclfmchfaaGreat
set_option linter.unusedSimpArgs false
set_option linter.unusedVariables false
open Go Go.RowKit
noncomputable section
section
variable {P:Program} {ρ:Place} {H H':Heap} {w:World}
theorem qcw{i:Int} {n j:Nat} (h:idx i n=some j):i=(j:Int)/\j < n:=by
 unfold idx at h;split at h
 ·split at h
  next hb=>simp only[sj]at h;subst h;exact⟨rfl,Nat.le_of_ble_eq_true hb⟩
  ·simp at h
 ·simp at h
theorem qrb{t:TypeId} {x v:AV} {i:Nat} {y:Value} (h:qaw P t x i=some v) (hx:VR ρ x y) (w:World) :
  ∃z,(Instr.fieldAt t y i).run P w=.ok z w/\VR ρ v z:=by
 obtain⟨d,hd,h⟩:=obs h;cases d with
 |struct fs=>
  obtain⟨f,hf,h⟩:=obs h;obtain⟨n,hn,h⟩:=obs h;have hf':fs[i]? = some f:=by have:=qoc hf;simpa using this
  cases n with
  |zero=>simp at h
  |succ n=>
   have hs:=qcc hn w;have key:∀b o,(Instr.fieldAt t (.pointer (some ⟨b,o,none⟩)) i).run P w=.ok (.pointer (some ⟨b,o+f.offset,none⟩)) w:=fun b o=>(by simp[Instr.fieldAt,run_underlying hd,hf',Instr.sureAddr,fieldPlace,hs,qep]);cases hx with
   |ptr b o l hl=>simp only[sj]at h;subst h;exact⟨_,key _ _,by rw[Nat.add_assoc];exact .ptr _ _ l hl⟩
   |fptr cs o cb off vs hB hc hv=>simp only[sj]at h;subst h;exact⟨_,key _ _,by rw[Nat.add_assoc];exact .fptr cs _ cb off vs hB hc hv⟩
   |_=>simp at h
 |_=>simp at h
theorem qqy{t:TypeId} {x i v:AV} {y z:Value} (h:qan P t x i=some v) (hx:VR ρ x y) (hi:VR ρ i z) (w:World) :
  ∃u,(Instr.indexAt t y z).run P w=.ok u w/\VR ρ v u:=by
 cases hi with
 |int k i=>
  replace h:=obs h;obtain⟨d,hd,h⟩:=h;cases d with
  |slice elem=>
   cases hx with
   |slcE b o len c l hl hc=>replace h:=obs h;obtain⟨j,hj,h⟩:=h;replace h:=obs h;obtain⟨n,hn,h⟩:=h;simp only[sj]at h;subst h;obtain⟨rfl,hlt⟩:=qcw hj;exact⟨_,by simp[Instr.indexAt,asIntOf,run_underlying hd,hlt,qcc hn,qep];rfl,by rw[Nat.add_assoc];exact .ptr _ _ l hl⟩
   |slcR b o len sz c l hl hc hf=>replace h:=obs h;obtain⟨j,hj,h⟩:=h;replace h:=obs h;obtain⟨n,hn,h⟩:=h;simp only[sj]at h;subst h;obtain⟨rfl,hlt⟩:=qcw hj;exact⟨_,by simp[Instr.indexAt,asIntOf,run_underlying hd,hlt,qcc hn,qep];rfl,by rw[Nat.add_assoc];exact .ptr _ _ l hl⟩
   |fslc sz es cb off cap vs hB hcap hz hc hv=>
    replace h:=obs h;obtain⟨j,hj,h⟩:=h;replace h:=obs h;obtain⟨n,hn,h⟩:=h;split at h
    next hb=>have hb:=Nat.eq_of_beq_eq_true hb;subst hb;replace h:=obs h;obtain⟨e,he,h⟩:=h;simp only[sj]at h;subst h;obtain⟨hlt,rfl⟩:=qed he;obtain⟨rfl,_⟩:=qcw hj;refine⟨_,by simp[Instr.indexAt,asIntOf,run_underlying hd,hlt,qcc hn,qep];rfl,?_⟩;have hzj:=hz j hlt;exact .fptr _ 0 cb (off+j * n) (vs j) hB (fun i hi=>hc j hlt i (by omega)) (fun i hi=>hv j hlt i hi)
    ·simp at h
   |fnil sz=>replace h:=obs h;obtain⟨j,hj,h⟩:=h;exact absurd (qcw hj).2 (Nat.not_lt_zero _)
   |fnone sz a c=>replace h:=obs h;obtain⟨j,hj,h⟩:=h;exact absurd (qcw hj).2 (Nat.not_lt_zero _)
   |_=>simp at h
  |array len elem=>
   replace h:=obs h;obtain⟨j,hj,h⟩:=h;replace h:=obs h;obtain⟨n,hn,h⟩:=h;obtain⟨rfl,hlt⟩:=qcw hj;cases hx with
   |ptr b o l hl=>simp only[sj]at h;subst h;exact⟨_,by simp[Instr.indexAt,asIntOf,run_underlying hd,hlt,qcc hn,qep,Instr.sureAddr];rfl,by rw[Nat.add_assoc];exact .ptr _ _ l hl⟩
   |fptr cs o cb off vs hB hc hv=>simp only[sj]at h;subst h;exact⟨_,by simp[Instr.indexAt,asIntOf,run_underlying hd,hlt,qcc hn,qep,Instr.sureAddr];rfl,by rw[Nat.add_assoc];exact .fptr cs _ cb off vs hB hc hv⟩
   |_=>simp at h
  |_=>simp at h
 |_=>simp[qan]at h
theorem qkv{t:TypeId} {cs:List AV} {c:Array Value} {off:Nat} {v:AV} (h:qy9 P t cs off=some v) (hv:VRs ρ cs c.toList) (w:World) :
  ∃u,(part t c off).run P w=.ok u w/\VR ρ v u:=by
 replace h:=obs h;obtain⟨ag,hag,h⟩:=h;have hlen:c.size=cs.length:=by simpa using hv.1
 cases ag with
 |true=>replace h:=obs h;obtain⟨n,hn,h⟩:=h;replace h:=obs h;obtain⟨r,hr,h⟩:=h;simp only[sj]at h;subst h;obtain⟨h1,rfl⟩:=qkl hr;refine⟨_,by simp[part,qrq hag,qcc hn];rfl,.agg _ _ (by simp;omega) fun i h2 h3=>?_⟩;simp only[List.getElem_take,List.getElem_drop,Array.getElem_extract];simp at h2;exact hv.2 (off+i) (by omega) (by simp;omega)
 |false=>obtain⟨h1,rfl⟩:=qed h;refine⟨c[off]'(by omega),?_,hv.2 off h1 (by simp;omega)⟩;simp[part,qrq hag,hlen,h1]
theorem qkb{cs:List AV} {vs:Array Value} (hl:vs.size=cs.length) (hv:∀i (h:i < cs.length) (h':i < vs.size),VR ρ cs[i] vs[i]):VRs ρ cs vs.toList:=
 ⟨by simpa using hl,fun i h1 h2=>hv i h1 (by simpa using h2)⟩
theorem zby{t:TypeId} {x v:AV} {i:Nat} {y:Value} (h:qc9 P t x i=some v) (hx:VR ρ x y) (w:World) :
  ∃z,(Instr.field t y i).run P w=.ok z w/\VR ρ v z:=by
 obtain⟨d,hd,h⟩:=obs h;cases d with
 |struct fs=>
  obtain⟨f,hf,h⟩:=obs h;have hf':fs[i]? = some f:=by have:=qoc hf;simpa using this
  cases hx with
  |agg cs vs hl hv=>obtain⟨u,hu,hr⟩:=qkv h (qkb hl hv) w;exact⟨u,by simp[Instr.field,run_underlying hd,hf',asAgg,hu],hr⟩
  |_=>simp at h
 |_=>simp at h
theorem zbi{t:TypeId} {x i v:AV} {y z:Value} (h:ql1 P t x i=some v) (hx:VR ρ x y) (hi:VR ρ i z) (w:World) :
  ∃u,(Instr.index t y z).run P w=.ok u w/\VR ρ v u:=by
 cases hi with
 |int k i=>
  replace h:=obs h;obtain⟨d,hd,h⟩:=h;cases d with
  |array len elem=>
   cases hx with
   |agg cs vs hl hv=>replace h:=obs h;obtain⟨j,hj,h⟩:=h;replace h:=obs h;obtain⟨n,hn,h⟩:=h;obtain⟨rfl,hlt⟩:=qcw hj;obtain⟨u,hu,hr⟩:=qkv h (qkb hl hv) w;exact⟨u,by simp[Instr.index,asIntOf,run_underlying hd,hlt,qcc hn,hu],hr⟩
   |_=>simp at h
  |string=>
   cases hx with
   |str s=>replace h:=obs h;obtain⟨j,hj,h⟩:=h;replace h:=obs h;obtain⟨c,hc,h⟩:=h;simp only[sj]at h;subst h;obtain⟨rfl,hlt⟩:=qcw hj;obtain⟨h1,rfl⟩:=qed hc;have hsz:(⟨s.toArray⟩ : ByteArray).size=s.length:=(by simp[ByteArray.size]);have hget:(⟨s.toArray⟩ : ByteArray)[j]? = some s[j]:=(by have:j < (⟨s.toArray⟩ : ByteArray).size:=(by omega);rw[getElem?_pos (⟨s.toArray⟩ : ByteArray) j this];simp[ByteArray.getElem_eq_getElem_data]);refine⟨.int .u8 s[j].toNat,?_,.int _ _⟩;simp[Instr.index,asIntOf,run_underlying hd,hget]
   |_=>simp at h
  |_=>simp at h
 |_=>simp[ql1]at h
theorem qw4{v:AV} {x:Value} {d y y' j:Nat} {code:BoundsCode} (h:qch (some v) d y=some j) (hv:VR ρ v x) (hy:y<=y') (w:World) :
  (Instr.sliceBound x y' code).run P w=.ok j w/\j<=y:=by
 cases hv with
 |int k i=>
  obtain⟨rfl,hlt⟩:=qcw (show idx i (Nat.succ y)=some j from h);have h1:(j:Int)<=(y':Int):=by omega
  exact⟨by simp[Instr.sliceBound,asIntOf];omega,by omega⟩
 |_=>simp[qch]at h
inductive OptR (ρ:Place):Option AV->Option Value->Prop
 |none:OptR ρ none none
 |some (v:AV) (x:Value) (h:VR ρ v x):OptR ρ (some v) (some x)
theorem qnv{s:St} {a:Act} (e:EnvR ρ s a) {x:Option Operand} {v:Option AV} (h:qg2 s x=some v):OptR ρ v (x.map a.eval):=by
 cases x with
 |none=>simp only[qg2,sj]at h;subst h;exact .none
 |some x=>obtain⟨v',hv,h⟩:=obs h;simp only[sj]at h;subst h;exact .some _ _ (qb5 e hv)
def qhx{α:Type} (mx:Option α) (m c:Nat):Nat:=match mx with
 |some _=>m
 |none=>c
theorem qd0{isSlice:Bool} {len c c' mD m l h:Nat} {lo hi mx:Option AV} {lo' hi' mx':Option Value} (rl:OptR ρ lo lo') (rh:OptR ρ hi hi') (rm:OptR ρ mx mx')
  (ok:qr3 hi mx=true) (hc:c<=c') (hm:qch mx mD c=some m) (hh:qch hi len (qhx mx m c)=some h) (hl:qch lo 0 h=some l) (w:World) :
  (Instr.sliceBounds isSlice len c' lo' hi' mx').run P w=.ok (l,h,qhx mx m c') w/\(hi=none->h=len)/\(∀v,hi=some v->h<=qhx mx m c)/\l<=h/\(∀v,mx=some v->m<=c):=by
 have low:∀code,(match lo' with|some v=>Instr.sliceBound v h code|none=>pure 0:Sem Nat).run P w=.ok l w/\l<=h:=fun code=>by
  cases rl with
  |none=>simp only[qch,sj]at hl;subst hl;exact⟨rfl,Nat.zero_le _⟩
  |some v x hv=>exact qw4 hl hv (Nat.le_refl _) w
 cases rm with
 |none=>
  cases rh with
  |none=>simp only[qch,sj]at hh;subst hh;refine⟨?_,fun _=>rfl,fun v e=>(by cases e),(low .sliceB).2,fun v e=>(by cases e)⟩;have:=(low .sliceB).1;cases rl<;>simp_all [Instr.sliceBounds,qhx]
  |some v x hv=>obtain⟨h1,h2⟩:=qw4 (P:=P) (code:=if isSlice then .sliceAcap else .sliceAlen) hh hv hc w;refine⟨?_,fun e=>(by cases e),fun _ _=>h2,(low .sliceB).2,fun v e=>(by cases e)⟩;have:=(low .sliceB).1;cases rl<;>simp_all [Instr.sliceBounds,qhx]
 |some v x hv=>
  obtain⟨h1,h2⟩:=qw4 (P:=P) (code:=if isSlice then .slice3Acap else .slice3Alen) hm hv hc w;cases rh with
  |none=>simp[qr3]at ok
  |some u y hu=>obtain⟨h3,h4⟩:=qw4 (P:=P) (code:=.slice3B) hh hu (Nat.le_refl _) w;refine⟨?_,fun e=>(by cases e),fun _ _=>h4,(low .slice3C).2,fun _ _=>h2⟩;have:=(low .slice3C).1;cases rl<;>simp_all [Instr.sliceBounds,qhx]
def qq2(b o l m sz:Nat):Addr:=if m=l then ⟨b,o,none⟩ else ⟨b,o+l * sz,none⟩
theorem qm8(s:Sim ρ H w) {sz b o len:Nat} {cap:Cap} {lo hi mx:Option AV} {lo' hi' mx':Option Value} {v:AV} {ad:Option Addr} {cap':Nat} {isSlice:Bool}
  (h:qfb H sz b o len cap lo hi mx=some v) (rl:OptR ρ lo lo') (rh:OptR ρ hi hi') (rm:OptR ρ mx mx') (ok:qr3 hi mx=true)
  (hx:VR ρ (.slc b o len cap) (.slice ad len cap')) :
  ∃l hh m b' o',ad=some ⟨b',o',none⟩/\(Instr.sliceBounds isSlice len cap' lo' hi' mx').run P w=.ok (l,hh,m) w/\VR ρ v (.slice (some (qq2 b' o' l m sz)) (hh - l) (m - l)):=by
 replace h:=obs h;obtain⟨kn,hkn,h⟩:=h;cases hx with
 |slcE _ _ _ c l0 hl0 hlen=>
  replace h:=obs h;obtain⟨m,hm,h⟩:=h;replace h:=obs h;obtain⟨hh,hhh,h⟩:=h;replace h:=obs h;obtain⟨l,hl,h⟩:=h;simp only[sj]at h;subst h;have hmm:qhx mx m cap'=m:=by
   cases rm with
   |none=>simp only[qch,sj]at hm;exact hm
   |some=>rfl
  obtain⟨h1,h2,h3,h4,h5⟩:=qd0 (P:=P) (isSlice:=isSlice) (len:=len) (c:=cap') (c':=cap') rl rh rm ok (Nat.le_refl _) hm (by rw[hmm];exact hhh) hl w;rw[hmm]at h1 h3;have hle:hh<=m:=by
   cases rh with
   |none=>
    rw[h2 rfl];cases rm with
    |none=>simp only[qch,sj]at hm;omega
    |some=>simp[qr3]at ok
   |some u y hu=>exact h3 _ rfl
  refine⟨l,hh,m,_,_,rfl,h1,?_⟩;unfold qq2;by_cases hml:m=l
  ·subst hml;simp only[if_true,Nat.beq_refl];exact .slcE _ _ _ _ l0 hl0 (by omega)
  ·simp only[hml,if_false,qb4 hml,Nat.add_assoc];exact .slcE _ _ _ _ l0 hl0 (by omega)
 |slcR _ _ _ sz' c l0 hl0 hlen hfin=>
  dsimp only at h;split at h
  ·simp at h
  ·rename_i hb;have hb:=Nat.eq_of_beq_eq_true hb;subst hb;obtain⟨k,hk,hkl⟩:=obs hkn;obtain⟨cs,hrd,hkl⟩:=obs hkl
   ·simp only[sj]at hkl;subst hkl;obtain⟨l1,hl1,_,_,hr0⟩:=s.block hk;rw[hl0]at hl1;cases hl1;have hr:=hr0.rdR hrd;have hroom:(cs.length - o) / sz<=cap':=by
     rcases Nat.eq_zero_or_pos sz with h0|h0
     ·subst h0;simp
     ·have:(cs.length - o)<=cap' * sz:=(by have:=hr.1;omega);exact Nat.div_le_of_le_mul (by rw[Nat.mul_comm];exact this)
    split at h
    ·rename_i v' _;replace h:=obs h;obtain⟨m,hm,h⟩:=h;replace h:=obs h;obtain⟨hh,hhh,h⟩:=h;replace h:=obs h;obtain⟨l,hl,h⟩:=h;obtain⟨h1,h2,h3,h4,h5⟩:=qd0 (P:=P) (isSlice:=isSlice) (len:=len) (c:=(cs.length - o) / sz) (c':=cap') rl rh rm ok hroom hm hhh hl w;have hle:hh<=m:=by
      cases rh with
      |none=>simp[qr3]at ok
      |some u y hu=>exact h3 _ rfl
     refine⟨l,hh,m,_,_,rfl,h1,?_⟩;unfold qq2;split at h
     next hml=>have hml:=Nat.eq_of_beq_eq_true hml;simp only[sj]at h;subst h;subst hml;rw[show hh - m=0 by omega];exact .eslc _ _
     next hml=>have hml:m≠l:=fun e=>(by rw[e,Nat.beq_refl]at hml;cases hml);simp only[sj]at h;subst h;simp only[hml,if_false,Nat.add_assoc];exact .slcE _ _ _ _ l0 hl0 (by omega)
    ·replace h:=obs h;obtain⟨hh,hhh,h⟩:=h;replace h:=obs h;obtain⟨l,hl,h⟩:=h;obtain⟨h1,h2,h3,h4,h5⟩:=qd0 (P:=P) (isSlice:=isSlice) (len:=len) (c:=(cs.length - o) / sz) (c':=cap') (mD:=0) (m:=0) rl rh rm ok hroom rfl hhh hl w;have hle:hh<=cap':=by
      cases rh with
      |none=>rw[h2 rfl];exact hlen
      |some u y hu=>exact Nat.le_trans (h3 _ rfl) hroom
     refine⟨l,hh,cap',_,_,rfl,h1,?_⟩;unfold qq2;have main:cap'≠l\/l=0->VR ρ (.slc b (o+l * sz) (hh - l) (.rest sz)) (.slice (some (if cap'=l then ⟨l0.cb,l0.off+o,none⟩ else ⟨l0.cb,l0.off+o+l * sz,none⟩)) (hh - l) (cap' - l)):=fun hor=>by
      have e:(if cap'=l then (⟨l0.cb,l0.off+o,none⟩ : Addr) else ⟨l0.cb,l0.off+o+l * sz,none⟩)=⟨l0.cb,l0.off+(o+l * sz),none⟩:=by
       rcases hor with hne|h0
       ·rw[if_neg hne,Nat.add_assoc]
       ·subst h0;simp
      rw[e];refine .slcR _ _ _ _ _ l0 hl0 (by omega) ?_;have:(cap' - l) * sz+l * sz=cap' * sz:=(by rw[<- Nat.add_mul];congr 1;omega);omega
     split at h
     ·rename_i hkle;cases l with
      |zero=>simp only[sj]at h;subst h;simpa using main (.inr rfl)
      |succ l=>
       simp only at h;split at h
       next hhl=>have hhl:=Nat.eq_of_beq_eq_true hhl;simp only[sj]at h;subst h;rw[show hh - (l+1)=0 by omega];exact .eslc _ _
       ·simp at h
     next hkle=>simp only[sj]at h;subst h;refine main (.inl fun e=>?_);subst e;have:Nat.ble (cs.length - o) (cap' * sz)=true:=(by rw[Nat.ble_eq];have:=hr.1;omega);rw[this]at hkle;cases hkle
end
theorem qdl(s:List UInt8):(⟨s.toArray⟩ : ByteArray).size=s.length:=by simp[ByteArray.size]
theorem qiu(s:List UInt8):(⟨s.toArray⟩ : ByteArray).toList=s:=by rw[ByteArray.toList_eq]<;>simp
theorem qtq(s t:List UInt8):(⟨s.toArray⟩ : ByteArray)++⟨t.toArray⟩=⟨(s++t).toArray⟩:=by apply ByteArray.ext;simp
theorem qhp(s:List UInt8) (l h:Nat):(⟨s.toArray⟩ : ByteArray).extract l h=⟨((s.take h).drop l).toArray⟩:=by apply ByteArray.ext;simp[List.drop_take]
theorem ql7:∀(x y:List UInt8),eqB x y=decide (x=y)
 |[],[]=>rfl
 |[],_::_=>rfl
 |_::_,[]=>rfl
 |a::x,b::y=>by
  unfold eqB;have:Nat.beq a.toNat b.toNat=decide (a=b):=by
   by_cases h:a=b
   ·subst h;simp
   ·have:a.toNat≠b.toNat:=fun e=>h (UInt8.toNat_inj.1 e);simp[h,qb4 this]
  simp only[this];by_cases h:a=b
  ·subst h;simp[ql7 x y]
  ·simp[h]
section
variable {P:Program} {ρ:Place} {H H':Heap} {w:World}
theorem qzy(s:Sim ρ H w) {t:TypeId} {x v:AV} {lo hi mx:Option AV} {lo' hi' mx':Option Value} {y:Value} (h:qcs P H t x lo hi mx=some v)
  (hx:VR ρ x y) (rl:OptR ρ lo lo') (rh:OptR ρ hi hi') (rm:OptR ρ mx mx'):∃u,(Instr.sliceAt t y lo' hi' mx').run P w=.ok u w/\VR ρ v u:=by
 replace h:=obs h;obtain⟨d,hd,h⟩:=h;split at hd
 rotate_left
 ·simp at hd
 rename_i ok;have plain:(match d with | .array _ _=>False|_=>True)->(Instr.sliceAt t y lo' hi' mx').run P w=(Instr.slice t y lo' hi' mx').run P w:=fun hp=>by cases d<;>first|exact hp.elim|simp[Instr.sliceAt,run_underlying hd]
 cases d with
 |string=>
  rw[plain trivial];cases hx with
  |str st=>
   cases rm with
   |some=>simp at h
   |none=>dsimp only at h;replace h:=obs h;obtain⟨hh,hhh,h⟩:=h;replace h:=obs h;obtain⟨l,hl,h⟩:=h;simp only[sj]at h;subst h;obtain⟨h1,_,_,_,_⟩:=qd0 (P:=P) (isSlice:=false) (len:=st.length) (c:=st.length) (c':=st.length) (mD:=0) (m:=0) rl rh .none ok (Nat.le_refl _) rfl hhh hl w;refine⟨.string ⟨((st.take hh).drop l).toArray⟩,?_,.str _⟩;simp only[qhx]at h1;simp[Instr.slice,run_underlying hd,qdl,h1,qhp]
  |_=>simp at h
 |slice elem=>
  rw[plain trivial];replace h:=obs h;obtain⟨sz,hsz,h⟩:=h;have hS:=qcc hsz w;have blk:∀{b o len:Nat} {cap:Cap} {ad:Option Addr} {cap':Nat},qfb H sz b o len cap lo hi mx=some v->VR ρ (.slc b o len cap) (.slice ad len cap') ->
    ∃u,(Instr.slice t (.slice ad len cap') lo' hi' mx').run P w=.ok u w/\VR ρ v u:=fun {b o len cap ad cap'} hb hv=>by
   obtain⟨l,hh,m,b',o',rfl,h1,h2⟩:=qm8 (P:=P) (isSlice:=true) s hb rl rh rm ok hv;refine⟨_,?_,h2⟩;simp only[Instr.slice,Sem.run_bind,run_underlying hd,Result.andThen_ok,h1,hS,Sem.run_pure];congr 1;unfold qq2;split<;>simp_all [qep]
  cases hx with
  |slcE b o len c l hl hc=>exact blk h (.slcE b o len c l hl hc)
  |slcR b o len sz' c l hl hc hf=>exact blk h (.slcR b o len sz' c l hl hc hf)
  |nilS=>
   replace h:=obs h;obtain⟨m,hm,h⟩:=h;replace h:=obs h;obtain⟨hh,hhh,h⟩:=h;replace h:=obs h;obtain⟨l,hl,h⟩:=h;simp only[sj]at h;subst h;have h0:∀{q:Option AV} {d j:Nat},qch q d 0=some j->d=0->j=0:=fun {q d j} hq hd=>by
    cases q with
    |none=>simp only[qch,sj]at hq;omega
    |some u=>cases u<;>simp[qch]at hq;have:=(qcw hq).2;omega
   obtain rfl:=h0 hm rfl;obtain rfl:=h0 hhh rfl;obtain rfl:=h0 hl rfl;obtain⟨h1,_,_,_,_⟩:=qd0 (P:=P) (isSlice:=true) (len:=0) (c:=0) (c':=0) (mD:=0) (m:=0) rl rh rm ok (Nat.le_refl _) hm (by cases rm<;>exact hhh) hl w;refine⟨.slice none 0 0,?_,.nilS⟩;have h2:qhx mx 0 0=0:=(by cases rm<;>rfl);rw[h2]at h1;simp[Instr.slice,run_underlying hd,h1,hS]
  |zslcN=>
   replace h:=obs h;obtain⟨m,hm,h⟩:=h;replace h:=obs h;obtain⟨hh,hhh,h⟩:=h;replace h:=obs h;obtain⟨l,hl,h⟩:=h;simp only[sj]at h;subst h;have h0:∀{q:Option AV} {d j:Nat},qch q d 0=some j->d=0->j=0:=fun {q d j} hq hd=>by
    cases q with
    |none=>simp only[qch,sj]at hq;omega
    |some u=>cases u<;>simp[qch]at hq;have:=(qcw hq).2;omega
   obtain rfl:=h0 hm rfl;obtain rfl:=h0 hhh rfl;obtain rfl:=h0 hl rfl;obtain⟨h1,_,_,_,_⟩:=qd0 (P:=P) (isSlice:=true) (len:=0) (c:=0) (c':=0) (mD:=0) (m:=0) rl rh rm ok (Nat.le_refl _) hm (by cases rm<;>exact hhh) hl w;refine⟨.slice none 0 0,?_,.zslcN⟩;have h2:qhx mx 0 0=0:=(by cases rm<;>rfl);rw[h2]at h1;simp[Instr.slice,run_underlying hd,h1,hS]
  |zslcE a=>
   replace h:=obs h;obtain⟨m,hm,h⟩:=h;replace h:=obs h;obtain⟨hh,hhh,h⟩:=h;replace h:=obs h;obtain⟨l,hl,h⟩:=h;simp only[sj]at h;subst h;have h0:∀{q:Option AV} {d j:Nat},qch q d 0=some j->d=0->j=0:=fun {q d j} hq hd=>by
    cases q with
    |none=>simp only[qch,sj]at hq;omega
    |some u=>cases u<;>simp[qch]at hq;have:=(qcw hq).2;omega
   obtain rfl:=h0 hm rfl;obtain rfl:=h0 hhh rfl;obtain rfl:=h0 hl rfl;obtain⟨h1,_,_,_,_⟩:=qd0 (P:=P) (isSlice:=true) (len:=0) (c:=0) (c':=0) (mD:=0) (m:=0) rl rh rm ok (Nat.le_refl _) hm (by cases rm<;>exact hhh) hl w;refine⟨.slice (some a) 0 0,?_,.zslcE a⟩;have h2:qhx mx 0 0=0:=(by cases rm<;>rfl);rw[h2]at h1;simp[Instr.slice,run_underlying hd,h1,hS]
  |fslc sz' es cb off cap vs hB hcap hz hc hv=>
   cases rm with
   |some q z hq=>
    dsimp only at h;replace h:=obs h;obtain⟨hsz',hb,h⟩:=h;split at hb
    rotate_left
    ·simp at hb
    rename_i hbeq;have hbeq:=Nat.eq_of_beq_eq_true hbeq;subst hbeq;replace h:=obs h;obtain⟨m,hm,h⟩:=h;replace h:=obs h;obtain⟨hh,hhh,h⟩:=h;split at h
    ·simp at h
    rename_i hhm;have hhm:=Nat.eq_of_beq_eq_true hhm;subst hhm;cases rl with
    |some=>simp at h
    |none=>
     have rm:OptR ρ (some q) (some z):=.some q z hq;obtain⟨h1,-,-,-,h5⟩:=qd0 (P:=P) (isSlice:=true) (lo:=none) (len:=es.length) (c:=es.length) (c':=cap) (mD:=0) (m:=hh) (l:=0) .none rh rm ok hcap hm hhh rfl w;have hle:hh<=es.length:=h5 _ rfl;simp only[qhx]at h1;dsimp only at h;split at h
     ·cases h;refine⟨.slice (some ⟨cb,off,none⟩) 0 0,?_,.zslcE _⟩;simp[Instr.slice,run_underlying hd,h1,hS]
     ·rename_i m';cases h;have hlen:(es.take (m'+1)).length=m'+1:=(by simp;omega);refine⟨.slice (some ⟨cb,off,none⟩) (m'+1) (m'+1),?_,?_⟩
      ·simp[Instr.slice,run_underlying hd,h1,hS,qep]
      ·have:VR ρ (.xslc sz' (es.take (m'+1))) (.slice (some ⟨cb,off,none⟩) (es.take (m'+1)).length (es.take (m'+1)).length):=by
        refine .xslc sz' _ cb off vs hB (fun i hi=>?_) (fun i hi j hj=>?_) (fun i hi j hj=>?_)
        ·rw[List.getElem_take];exact hz i (by rw[hlen]at hi;omega)
        ·exact hc i (by rw[hlen]at hi;omega) j hj
        ·simp only[List.getElem_take]at hj ⊢;exact hv i (by rw[hlen]at hi;omega) j hj
       rw[hlen]at this;exact this
   |none=>
    dsimp only at h;replace h:=obs h;obtain⟨hsz',hb,h⟩:=h;split at hb
    rotate_left
    ·simp at hb
    rename_i hbeq;have hbeq:=Nat.eq_of_beq_eq_true hbeq;subst hbeq;replace h:=obs h;obtain⟨hh,hhh,h⟩:=h;replace h:=obs h;obtain⟨l,hl,h⟩:=h;simp only[sj]at h;subst h;obtain⟨h1,h2,h3,h4,_⟩:=qd0 (P:=P) (isSlice:=true) (len:=es.length) (c:=es.length) (c':=cap) (mD:=0) (m:=0) rl rh .none ok hcap rfl hhh hl w;have hle:hh<=es.length:=by
     cases rh with
     |none=>rw[h2 rfl];exact Nat.le_refl _
     |some u z hu=>exact h3 _ rfl
    have hlen:((es.take hh).drop l).length=hh - l:=(by simp;omega);have mk:∀o',(o'=off+l * sz'\/hh - l=0)->VR ρ (.fslc sz' ((es.take hh).drop l)) (.slice (some ⟨cb,o',none⟩) (hh - l) (cap - l)):=fun o' ho=>by
     rw[<- hlen];refine .fslc sz' _ cb o' (cap - l) (fun i j=>vs (l+i) j) hB (by rw[hlen];omega) (fun i hi=>?_) (fun i hi j hj=>?_) (fun i hi j hj=>?_)
     ·simp only[List.getElem_drop,List.getElem_take];exact hz _ (by rw[hlen]at hi;omega)
     ·rw[hlen]at hi;rcases ho with rfl|h0
      ·have:=hc (l+i) (by omega) j hj;rw[Nat.add_mul,<- Nat.add_assoc]at this;exact this
      ·omega
     ·rw[hlen]at hi;simp only[List.getElem_drop,List.getElem_take];exact hv (l+i) (by omega) j (by simpa only[List.getElem_drop,List.getElem_take]using hj)
    simp only[qhx]at h1;by_cases hcl:cap=l
    ·subst hcl;refine⟨.slice (some ⟨cb,off,none⟩) (hh - cap) 0,?_,by simpa using mk off (.inr (by omega))⟩;simp[Instr.slice,run_underlying hd,h1,hS]
    ·refine⟨.slice (some ⟨cb,off+l * sz',none⟩) (hh - l) (cap - l),?_,mk _ (.inl rfl)⟩;simp[Instr.slice,run_underlying hd,h1,hS,hcl,qep]
  |fnil sz'=>
   cases rm with
   |some q z hq=>
    dsimp only at h;replace h:=obs h;obtain⟨hsz',hb,h⟩:=h;replace h:=obs h;obtain⟨m,hm,h⟩:=h;replace h:=obs h;obtain⟨hh,hhh,h⟩:=h;split at h
    ·simp at h
    rename_i hhm;have hhm:=Nat.eq_of_beq_eq_true hhm;subst hhm;cases rl with
    |some=>simp at h
    |none=>have rm:OptR ρ (some q) (some z):=.some q z hq;obtain⟨h1,-,-,-,h5⟩:=qd0 (P:=P) (isSlice:=true) (lo:=none) (len:=0) (c:=0) (c':=0) (mD:=0) (m:=hh) (l:=0) .none rh rm ok (Nat.zero_le _) hm hhh rfl w;obtain rfl:hh=0:=Nat.le_zero.1 (h5 _ rfl);simp only[qhx]at h1;cases h;refine⟨.slice none 0 0,?_,.zslcN⟩;simp[Instr.slice,run_underlying hd,h1,hS]
   |none=>
    dsimp only at h;replace h:=obs h;obtain⟨hsz',hb,h⟩:=h;replace h:=obs h;obtain⟨hh,hhh,h⟩:=h;replace h:=obs h;obtain⟨l,hl,h⟩:=h;simp only[List.take_nil,List.drop_nil,sj]at h;subst h;have h0:∀{q:Option AV} {d j:Nat},qch q d 0=some j->d=0->j=0:=fun {q d j} hq hd=>by
     cases q with
     |none=>simp only[qch,sj]at hq;omega
     |some u=>cases u<;>simp[qch]at hq;have:=(qcw hq).2;omega
    obtain rfl:=h0 hhh rfl;obtain rfl:=h0 hl rfl;obtain⟨h1,_,_,_,_⟩:=qd0 (P:=P) (isSlice:=true) (len:=0) (c:=0) (c':=0) (mD:=0) (m:=0) rl rh .none ok (Nat.zero_le _) rfl hhh hl w;simp only[qhx]at h1;exact⟨.slice none 0 0,by simp[Instr.slice,run_underlying hd,h1,hS],.fnil _⟩
  |fnone sz' a c=>
   cases rm with
   |some q z hq=>
    dsimp only at h;replace h:=obs h;obtain⟨hsz',hb,h⟩:=h;replace h:=obs h;obtain⟨m,hm,h⟩:=h;replace h:=obs h;obtain⟨hh,hhh,h⟩:=h;split at h
    ·simp at h
    rename_i hhm;have hhm:=Nat.eq_of_beq_eq_true hhm;subst hhm;cases rl with
    |some=>simp at h
    |none=>have rm:OptR ρ (some q) (some z):=.some q z hq;obtain⟨h1,-,-,-,h5⟩:=qd0 (P:=P) (isSlice:=true) (lo:=none) (len:=0) (c:=0) (c':=c) (mD:=0) (m:=hh) (l:=0) .none rh rm ok (Nat.zero_le _) hm hhh rfl w;obtain rfl:hh=0:=Nat.le_zero.1 (h5 _ rfl);simp only[qhx]at h1;cases h;refine⟨.slice (some a) 0 0,?_,.zslcE _⟩;simp[Instr.slice,run_underlying hd,h1,hS]
   |none=>
    dsimp only at h;replace h:=obs h;obtain⟨hsz',hb,h⟩:=h;replace h:=obs h;obtain⟨hh,hhh,h⟩:=h;replace h:=obs h;obtain⟨l,hl,h⟩:=h;simp only[List.take_nil,List.drop_nil,sj]at h;subst h;have h0:∀{q:Option AV} {d j:Nat},qch q d 0=some j->d=0->j=0:=fun {q d j} hq hd=>by
     cases q with
     |none=>simp only[qch,sj]at hq;omega
     |some u=>cases u<;>simp[qch]at hq;have:=(qcw hq).2;omega
    obtain rfl:=h0 hhh rfl;obtain rfl:=h0 hl rfl;obtain⟨h1,_,_,_,_⟩:=qd0 (P:=P) (isSlice:=true) (len:=0) (c:=0) (c':=c) (mD:=0) (m:=0) rl rh .none ok (Nat.zero_le _) rfl hhh hl w;simp only[qhx]at h1;refine⟨.slice (some a) 0 c,?_,.fnone _ _ _⟩;simp[Instr.slice,run_underlying hd,h1,hS];intro _;cases a;simp[Addr.add]
  |_=>simp at h
 |array n elem=>
  replace h:=obs h;obtain⟨sz,hsz,h⟩:=h;cases hx with
  |ptr b o l hl=>obtain⟨l1,hh,m,b',o',he,h1,h2⟩:=qm8 (P:=P) (isSlice:=false) s h rl rh rm ok (.slcE b o n n l hl (Nat.le_refl _));simp only[sj,Addr.mk.injEq,and_true]at he;obtain⟨rfl,rfl⟩:=he;refine⟨_,?_,h2⟩;simp only[Instr.sliceAt,Sem.run_bind,run_underlying hd,Result.andThen_ok,Instr.sureAddr,Sem.run_pure,h1,qcc hsz];congr 1;unfold qq2;split<;>simp_all [qep]
  |_=>simp at h
 |_=>simp at h
end
theorem qtp(x y:List UInt8):((⟨x.toArray⟩ : ByteArray) == ⟨y.toArray⟩)=eqB x y:=by
 rw[beq_toListBytes,qiu,qiu,ql7];by_cases h:x=y
 ·subst h;simp
 ·simp[h]
section
variable {P:Program} {ρ:Place} {H H':Heap} {w:World}
theorem qq6{k:IntKind} {n m:Int} (h:wr k n=some m):k.wrap n=m:=by
 unfold wr at h;split at h
 ·split at h
  next hb=>simp only[sj]at h;rw[IntWalk.i64_in n (fits64_iff.1 hb),h]
  ·simp at h
 ·simpa using h
theorem zb9{op:BinOp} {k:IntKind} {a b:Int} {v:AV} (h:qmo op k a b=some v) (hs:op≠.shl) (hr:op≠.shr) (t:TypeId) (w:World) :
  ∃u,(Go.binOp op t (.int k a) (.int k b)).run P w=.ok u w/\VR ρ v u:=by
 cases op<;>simp only[qmo,ne_eq,not_true_eq_false,reduceCtorEq]at h hs hr
 case add|sub|mul=>
  replace h:=obs h;obtain⟨n,hn,h⟩:=h;simp only[sj]at h;subst h;exact⟨_,by simp[Go.binOp,Op.intArith,qq6 hn],.int _ _⟩
 case quo=>
  split at h
  ·simp at h
  next hb=>replace h:=obs h;obtain⟨n,hn,h⟩:=h;simp only[sj]at h;subst h;exact⟨_,by simp[Go.binOp,Op.intDiv,hb,qq6 hn],.int _ _⟩
 case rem=>
  split at h
  ·simp at h
  next hb=>simp only[sj]at h;subst h;exact⟨_,by simp[Go.binOp,Op.intDiv,hb],.int _ _⟩
 case and|or|xor|andNot=>
  simp only[sj]at h;subst h;exact⟨_,by simp[Go.binOp,Op.intBits],.int _ _⟩
 all_goals
  simp only[sj]at h;subst h;exact⟨_,by simp only[Go.binOp,Op.intCmp,ne_eq,not_true_eq_false,if_false,Sem.run_pure],.bool _⟩
theorem qnh{op:BinOp} {k k':IntKind} {a b:Int} {v:AV} (h:qqe op k a b=some v) (t:TypeId) (w:World) :
  ∃u,(Go.binOp op t (.int k a) (.int k' b)).run P w=.ok u w/\VR ρ v u:=by
 unfold qqe at h;split at h
 ·simp at h
 ·rename_i hb;split at h
  ·replace h:=obs h;obtain⟨n,hn,h⟩:=h;simp only[sj]at h;subst h;exact⟨_,by simp[Go.binOp,Op.shift,hb,qq6 hn],.int _ _⟩
  ·simp only[sj]at h;subst h;exact⟨_,by simp[Go.binOp,Op.shift,hb],.int _ _⟩
  ·simp at h
theorem qzt{op:BinOp} {a b:List UInt8} {v:AV} (h:qs3 op a b=some v) (t:TypeId) (w:World) :
  ∃u,(Go.binOp op t (.string ⟨a.toArray⟩) (.string ⟨b.toArray⟩)).run P w=.ok u w/\VR ρ v u:=by
 have he:(a == b)=eqB a b:=by
  rw[ql7];by_cases h:a=b
  ·subst h;simp
  ·simp[h]
 cases op<;>simp only[qs3,reduceCtorEq]at h
 case add=>
  split at h
  next hb=>simp only[sj]at h;subst h;refine⟨_,?_,.str _⟩;have:¬ a.length+b.length > 9223372036854775807:=(by omega);simp only[Go.binOp];rw[run_string_add_if,qdl,qdl,if_neg this,qtq]
  ·simp at h
 all_goals
  simp only[sj]at h;subst h;exact⟨_,by simp only[Go.binOp,Op.stringOp,qiu,he];rfl,.bool _⟩
theorem quy{op:BinOp} {k:FloatKind} {a b:Nat} {v:AV} (h:quz op k a b=some v) (t:TypeId) (w:World) :
  ∃u,(Go.binOp op t (.float k a) (.float k b)).run P w=.ok u w/\VR ρ v u:=by
 cases op<;>simp only[quz,reduceCtorEq]at h
 case lss|gtr=>
  simp only[sj]at h;subst h;exact⟨_,by simp[Go.binOp,Op.floatCmp],.bool _⟩
 all_goals
  replace h:=obs h;obtain⟨r,hr,h⟩:=h;simp only[sj]at h;subst h;exact⟨_,by simp[Go.binOp,Op.floatArith,hr],.float _ _⟩
theorem qyp{op:BinOp} {k:FloatKind} {a b c d:Nat} {v:AV} (h:zcd op k a b c d=some v) (t:TypeId) (w:World) :
  ∃u,(Go.binOp op t (.complex k a b) (.complex k c d)).run P w=.ok u w/\VR ρ v u:=by
 cases op<;>simp only[zcd,reduceCtorEq]at h;all_goals
  obtain⟨r,hr,h⟩:=obs h;obtain⟨i,hi,h⟩:=obs h;simp only[sj]at h;subst h;exact⟨_,by simp[Go.binOp,Op.complexOp,Op.Complex.arith,Op.floatArith,hr,hi],.cplx _ _ _⟩
theorem qlz{d:TypeDesc} {x y:AV} {b:Bool} {x' y':Value} (h:qih d x y=some b) (hx:VR ρ x x') (hy:VR ρ y y') {t:TypeId} (hd:P.underlying t=some d)
  (n:Nat) (w:World):(Op.equalIn (n+1) t x' y').run P w=.ok b w:=by
 unfold qih at h;rw[Op.equalIn];simp only[Sem.run_bind,run_underlying hd,Result.andThen_ok];split at h<;>cases hx<;>cases hy
 case h_2.int.int=>
  split at h
  next hk=>simp only[sj]at h;subst h;subst hk;simp only[if_true];rfl
  ·simp at h
 case h_3.str.str=>
  simp only[sj]at h;subst h;rw[<- qtp];rfl
 all_goals first
  |(simp only[sj]at h;subst h;rfl)
  |simp at h
theorem qmh{xs ys:List AV} {xs' ys':Array Value} (hx:VRs ρ xs xs'.toList) (hy:VRs ρ ys ys'.toList) (n:Nat) (w:World) :
  ∀{fs:List Field} {b:Bool},eqFields P fs xs ys=some b->(Op.eqFields (n+1) xs' ys' fs).run P w=.ok b w
 |[],b,h=>by simp only[eqFields,sj]at h;subst h;rfl
 |f::fs,b,h=>by
  unfold eqFields at h;split at h
  ·simp at h
  ·rename_i hne
   have hne : f.name ≠ "_" := by simpa using hne
   replace h:=obs h;obtain⟨d,hd,h⟩:=h;split at h
   ·simp at h
   ·rename_i hpl;replace h:=obs h;obtain⟨x,hxx,h⟩:=h;replace h:=obs h;obtain⟨y,hyy,h⟩:=h;replace h:=obs h;obtain⟨e,he,h⟩:=h;have hag:qgc P f.type=some false:=by unfold qgc;rw[hd];cases d<;>first|rfl|simp[qhs]at hpl
    obtain⟨x',hx1,hx2⟩:=qkv (P:=P) (t:=f.type) (off:=f.offset) (v:=x) (by simp[qy9,hag,hxx]) hx w;obtain⟨y',hy1,hy2⟩:=qkv (P:=P) (t:=f.type) (off:=f.offset) (v:=y) (by simp[qy9,hag,hyy]) hy w;have heq:=qlz he hx2 hy2 hd n w;have ih:=fun b' (hb:eqFields P fs xs ys=some b')=>qmh hx hy n w hb;simp only[Op.eqFields,hne,ne_eq,not_false_eq_true,if_true,Sem.run_bind,hx1,hy1,heq,Result.andThen_ok];cases e with
    |true=>simpa using ih b h
    |false=>simp only[sj]at h;subst h;simp
theorem qe4{op:BinOp} {t:TypeId} {ox oy:Operand} {a b:Value} (w:World) (h1:a≠.nilIface) (h2:∀c,a≠.agg c):(eqGuard op t ox oy a b).run P w=.ok () w:=by unfold eqGuard;cases op<;>first|rfl|(cases a<;>first|(cases b<;>rfl)|exact absurd rfl h1|exact absurd rfl (h2 _))
theorem zc2{t:TypeId} {x y:AV} {b:Bool} {x' y':Value} (h:eqA P t x y=some b) (hx:VR ρ x x') (hy:VR ρ y y') (w:World) :
  (Op.equal t x' y').run P w=.ok b w/\∀op ox oy,(eqGuard op t ox oy x' y').run P w=.ok () w:=by
 replace h:=obs h;obtain⟨d,hd,h⟩:=h;have fin:qih d x y=some b->(Op.equal t x' y').run P w=.ok b w/\∀op ox oy,(eqGuard op t ox oy x' y').run P w=.ok () w:=fun h=>by refine⟨qlz h hx hy hd 9999 w,fun op ox oy=>?_⟩;unfold qih at h;split at h<;>first|contradiction|(cases hx<;>exact qe4 w (by simp) (by simp))
 split at h
 ·rename_i d' fs xs ys;cases hx with
  |agg _ xs' hl hv=>
   cases hy with
   |agg _ ys' hl' hv'=>
    split at h
    next hst hg=>have ht:P.underlying t=some (.struct (P.fieldsOf t)):=(by simp[Program.fieldsOf,hd]);have hf:(P.fieldsOf t).toList=fs.toList:=(by simp[Program.fieldsOf,hd]);refine⟨?_,fun op ox oy=>run_eqGuard_agg w op t ox oy xs' ys' hg⟩;have:=run_equalIn_struct (P:=P) w 9999 t xs' ys' ht hst;simp only[Op.equal,Op.maxDepth];rw[this,hf];exact qmh (qkb hl hv) (qkb hl' hv') 9998 w h
    ·simp at h
 ·rename_i te a c b' d;replace h:=obs h;obtain⟨n,hn,h⟩:=h;split at h
  ·rename_i hc;simp only[Bool.and_eq_true]at hc;have hab:=Nat.eq_of_beq_eq_true hc.1;have hnp:0 < n:=Nat.le_of_ble_eq_true hc.2;simp only[sj]at h;subst hab;cases hx with
   |ptr _ _ l hl=>
    cases hy with
    |ptr _ _ l' hl'=>
     rw[hl]at hl';cases hl';refine⟨?_,fun op ox oy=>qe4 w (by simp) (by simp)⟩;have hne:¬ n=0:=(by omega);have e:((⟨l.cb,l.off+c,none⟩ : Addr) == ⟨l.cb,l.off+d,none⟩)=b:=by
      rw[<- h];by_cases hcd:c=d
      ·subst hcd;simp
      ·have h1:Nat.beq c d=false:=qb4 hcd;rw[h1];simp[hcd]
     have k:∀d':Nat,(Op.equalIn (d'+1) t (.pointer (some ⟨l.cb,l.off+c,none⟩)) (.pointer (some ⟨l.cb,l.off+d,none⟩))).run P w=.ok b w:=fun d'=>(by simp only[Op.equalIn,Sem.run_bind,run_underlying hd,Result.andThen_ok,qcc hn,ne_eq,hne,not_false_eq_true,if_true];unfold sameAddr;simp only[beq_self_eq_true,if_true,e];rfl);simp only[Op.equal,Op.maxDepth];exact k 9999
  ·simp at h
 ·exact fin h
theorem binA_run{op:BinOp} {t:TypeId} {x y v:AV} {x' y':Value} (h:qda P op t x y=some v) (hx:VR ρ x x') (hy:VR ρ y y') (ox oy:Operand) (w:World) :
  ∃u,(do eqGuard op t ox oy x' y';Go.binOp op t x' y':Sem Value).run P w=.ok u w/\VR ρ v u:=by
 have eqs:(op=.eql\/op=.neq)->∀e,eqA P t x y=some e->v=.bool (if op=.eql then e else !e)->(Go.binOp op t x' y').run P w=((Op.equal t x' y').run P w).andThen (fun b w'=>.ok (.bool (if op=.eql then b else !b)) w') ->
   ∃u,(do eqGuard op t ox oy x' y';Go.binOp op t x' y':Sem Value).run P w=.ok u w/\VR ρ v u:=fun _ e he hv hb=>by
  obtain⟨h1,h2⟩:=zc2 he hx hy w;subst hv;exact⟨_,by simp only[Sem.run_bind,h2 op ox oy,Result.andThen_ok,hb,h1],.bool _⟩
 unfold qda at h;split at h
 ·cases hx;cases hy;rename_i k a k' b;simp only[Sem.run_bind,qe4 w (show Value.int k a≠.nilIface by simp) (show ∀c,Value.int k a≠.agg c by simp),Result.andThen_ok];split at h
  ·exact qnh h t w
  ·exact qnh h t w
  ·rename_i h1 h2;split at h
   next hk=>subst hk;exact zb9 h h1 h2 t w
   ·simp at h
 ·cases hx;cases hy;simp only[Sem.run_bind,qe4 w (show Value.string _≠.nilIface by simp) (show ∀c,Value.string _≠.agg c by simp),Result.andThen_ok];exact qzt h t w
 ·cases hx;cases hy;rename_i k a k' b;simp only[Sem.run_bind,qe4 w (show Value.float k a≠.nilIface by simp) (show ∀c,Value.float k a≠.agg c by simp),Result.andThen_ok];split at h
  next hk=>subst hk;exact quy h t w
  ·simp at h
 ·cases hx;cases hy;rename_i k a b k' c d;simp only[Sem.run_bind,qe4 w (show Value.complex k a b≠.nilIface by simp) (show ∀c,Value.complex k a b≠.agg c by simp),Result.andThen_ok];split at h
  next hk=>subst hk;exact qyp h t w
  ·simp at h
 ·simp at h
 ·rename_i hn1 hn2 hn3 hn4 hn5;have key:∀e,eqA P t x y=some e->(Go.binOp .eql t x' y').run P w=((Op.equal t x' y').run P w).andThen (fun b w'=>.ok (.bool b) w')/\(Go.binOp .neq t x' y').run P w=((Op.equal t x' y').run P w).andThen (fun b w'=>.ok (.bool !b) w'):=fun e he=>by
   obtain⟨d,hd,he⟩:=obs he;split at he
   ·cases hx;cases hy;exact⟨by simp[Go.binOp],by simp[Go.binOp]⟩
   ·cases hx;cases hy;exact⟨by simp[Go.binOp],by simp[Go.binOp]⟩
   ·unfold qih at he;split at he<;>first|contradiction|(cases hx<;>cases hy<;>first|exact(hn2 _ _ _ _ rfl rfl).elim|exact(hn3 _ _ rfl rfl).elim|exact(hn4 _ _ _ _ rfl rfl).elim|exact⟨by simp[Go.binOp],by simp[Go.binOp]⟩)
  split at h
  ·replace h:=obs h;obtain⟨e,he,h⟩:=h;simp only[sj]at h;exact eqs (.inl rfl) e he (by simp[<- h]) (by simpa using(key e he).1)
  ·replace h:=obs h;obtain⟨e,he,h⟩:=h;simp only[sj]at h;exact eqs (.inr rfl) e he (by simp[<- h]) (by simpa using(key e he).2)
  ·simp at h
theorem qur{op:BinOp} {t:TypeId} {e:Bool} {v:AV} {x' y':Value} (h:ifA P op t e=some v) (w:World) (ox oy:Operand)
  (hx:(x'=.nilIface/\y'=.nilIface/\e=true/\(qxe ox || qxe oy)=true)\/(x'=.nilIface/\(∃u z,y'=.iface u z)/\e=false)\/((∃u z,x'=.iface u z)/\y'=.nilIface/\e=false)) :
  ∃u,(do eqGuard op t ox oy x' y';Go.binOp op t x' y':Sem Value).run P w=.ok u w/\VR ρ v u:=by
 replace h:=obs h;obtain⟨d,hd,h⟩:=h;split at h
 ·rename_i ms;have g:(eqGuard op t ox oy x' y').run P w=.ok () w:=by
   rcases hx with⟨rfl,rfl,_,hc⟩|⟨rfl,⟨_,_,rfl⟩,_⟩|⟨⟨_,_,rfl⟩,rfl,_⟩
   ·unfold eqGuard;cases op<;>first|rfl|(cases ox<;>cases oy<;>first|rfl|(simp[qxe]at hc))
   ·unfold eqGuard;cases op<;>rfl
   ·unfold eqGuard;cases op<;>rfl
  have q:(Op.equal t x' y').run P w=.ok e w:=by
   rcases hx with⟨rfl,rfl,rfl,hc⟩|⟨rfl,⟨_,_,rfl⟩,rfl⟩|⟨⟨_,_,rfl⟩,rfl,rfl⟩ <;>
    (simp only[Op.equal,Op.maxDepth];rw[Op.equalIn];simp only[Sem.run_bind,run_underlying hd,Result.andThen_ok];rfl)
  have r1:(Go.binOp .eql t x' y').run P w=((Op.equal t x' y').run P w).andThen (fun b w'=>.ok (.bool b) w'):=by rcases hx with⟨rfl,rfl,_⟩|⟨rfl,⟨_,_,rfl⟩,_⟩|⟨⟨_,_,rfl⟩,rfl,_⟩<;>simp[Go.binOp]
  have r2:(Go.binOp .neq t x' y').run P w=((Op.equal t x' y').run P w).andThen (fun b w'=>.ok (.bool !b) w'):=by rcases hx with⟨rfl,rfl,_⟩|⟨rfl,⟨_,_,rfl⟩,_⟩|⟨⟨_,_,rfl⟩,rfl,_⟩<;>simp[Go.binOp]
  split at h
  ·simp only[sj]at h;subst h;exact⟨.bool e,by simp only[Sem.run_bind,g,Result.andThen_ok,r1,q],.bool _⟩
  ·simp only[sj]at h;subst h;exact⟨.bool !e,by simp only[Sem.run_bind,g,Result.andThen_ok,r2,q],.bool _⟩
  ·simp at h
 ·simp at h
theorem binK_run{op:BinOp} {t:TypeId} {x y v:AV} {x' y':Value} (ox oy:Operand) (h:qke P op t (qxe ox || qxe oy) x y=some v) (hx:VR ρ x x') (hy:VR ρ y y') (w:World) :
  ∃u,(do eqGuard op t ox oy x' y';Go.binOp op t x' y':Sem Value).run P w=.ok u w/\VR ρ v u:=by
 unfold qke at h;split at h
 ·split at h
  ·split at h
   next hc=>cases hx;cases hy;exact qur h w ox oy (.inl ⟨rfl,rfl,rfl,hc⟩)
   ·simp at h
  ·cases hx;cases hy;exact qur h w ox oy (.inr (.inl ⟨rfl,⟨_,_,rfl⟩,rfl⟩))
  ·simp at h
 ·split at h
  ·cases hx;cases hy;exact qur h w ox oy (.inr (.inr ⟨⟨_,_,rfl⟩,rfl,rfl⟩))
  ·simp at h
 ·exact binA_run h hx hy ox oy w
theorem unA_run{op:UnOp} {x v:AV} {x':Value} (h:unA op x=some v) (hx:VR ρ x x') (w:World):∃u,(Op.unary op x').run P w=.ok u w/\VR ρ v u:=by
 unfold unA at h;split at h
 ·cases hx;simp only[sj]at h;subst h;exact⟨_,by simp[Op.unary],.bool _⟩
 ·cases hx;replace h:=obs h;obtain⟨n,hn,h⟩:=h;simp only[sj]at h;subst h;have hn':=qq6 hn;rw[Int.zero_sub]at hn';exact⟨_,by simp[Op.unary,Op.intArith,hn'],.int _ _⟩
 ·cases hx;simp only[sj]at h;subst h;exact⟨_,by simp[Op.unary,Op.intBits],.int _ _⟩
 ·simp at h
end
theorem qk7{sz:Nat}:∀{es:List AV},(∀i (h:i < es.length),es[i].cells.length=sz)->(qa8 es).length=es.length * sz
 |[],_=>by simp[qa8]
 |e::es,h=>by have h0:=h 0 (by simp);have ih:=qk7 (es:=es) fun i hi=>h (i+1) (by simpa using hi);simp only[List.getElem_cons_zero]at h0;simp[qa8,h0,ih,Nat.succ_mul,Nat.add_comm]
theorem qx5{sz:Nat}:∀{es:List AV} (hz:∀i (h:i < es.length),es[i].cells.length=sz) (i j:Nat) (hi:i < es.length) (hj:j < sz) (h:i * sz+j < (qa8 es).length),
  (qa8 es)[i * sz+j]=es[i].cells[j]'(by rw[hz];exact hj)
 |[],_,i,_,hi,_,_=>by simp at hi
 |e::es,hz,0,j,hi,hj,h=>by have h0:=hz 0 (by simp);simp only[List.getElem_cons_zero]at h0;simp only[qa8,Nat.zero_mul,Nat.zero_add,List.getElem_cons_zero];rw[List.getElem_append_left (by omega)]
 |e::es,hz,i+1,j,hi,hj,h=>by
  have h0:=hz 0 (by simp);simp only[List.getElem_cons_zero]at h0;simp only[qa8,List.getElem_cons_succ];have hi':i < es.length:=by simpa using hi
  have hz':∀i (h:i < es.length),es[i].cells.length=sz:=fun i hi=>hz (i+1) (by simpa using hi);have hlt:i * sz+j < (qa8 es).length:=by rw[qk7 hz'];have:(i+1) * sz<=es.length * sz:=Nat.mul_le_mul_right _ hi';rw[Nat.succ_mul]at this;omega
  rw[List.getElem_append_right (by rw[h0,Nat.succ_mul];omega)];have e1:(i+1) * sz+j - e.cells.length=i * sz+j:=by rw[h0,Nat.succ_mul];omega
  simp only[e1];exact qx5 hz' i j hi' hj hlt
theorem qcx:∀(s:List UInt8),(qck s).length=s.length
 |[]=>rfl
 |_::r=>by simp[qck,qcx r]
theorem qka:∀(s:List UInt8) (i:Nat) (h:i < (qck s).length),(qck s)[i]=.int .u8 (s[i]'(by rw[qcx]at h;exact h)).toNat
 |c::r,0,_=>rfl
 |c::r,i+1,h=>by simpa[qck]using qka r i (by simpa[qck]using h)
section
variable {P:Program} {ρ:Place} {H H':Heap} {w:World}
theorem qpc{x:AV} {n:Nat} {x':Value} (h:qc3 x=some n) (hx:VR ρ x x') (w:World):(Builtin.lenOf x').run P w=.ok n w:=by cases hx<;>simp only[qc3,sj,reduceCtorEq]at h<;>subst h<;>simp[Builtin.lenOf,qdl]
theorem qd3{x:AV} {n:Nat} {x':Value} (h:qc3 x=some n) (hx:VR ρ x x') (sz:Nat) (w:World):∃c,(Builtin.firstCells sz 0 x').run P w=.ok c w/\c.toList=[]:=by cases hx<;>simp only[qc3,reduceCtorEq]at h<;>exact⟨#[],by simp[Builtin.firstCells,loadCells,loadCellsFrom],rfl⟩
theorem qen(s:Sim ρ H w) {x:AV} {n m sz:Nat} {cs:List AV} {x':Value} (h:qb3 H sz n x=some cs) (hm:qc3 x=some m) (hn:n<=m) (hx:VR ρ x x') :
  ∃c,(Builtin.firstCells sz n x').run P w=.ok c w/\VRs ρ cs c.toList/\(cs.length=n * sz\/∃st,x=.str st):=by
 cases hx with
 |nilS=>simp only[qc3,sj]at hm;simp only[qb3,sj]at h;subst h;exact⟨#[],by simp[Builtin.firstCells],.nil,.inl (by rw[show n=0 from by omega];simp)⟩
 |eslc a c=>
  simp only[qc3,sj]at hm;have:n=0:=by omega
  subst this;simp only[qb3,sj]at h;subst h;exact⟨#[],by simp[Builtin.firstCells,loadCells,loadCellsFrom],.nil,.inl (by simp)⟩
 |slcE b o len c l hl hc=>obtain⟨xs,hv,hlen,hcell⟩:=qe0 s (show readCells H b o (n * sz)=some cs from h) hl;refine⟨xs.toArray,?_,hv,.inl hlen⟩;exact run_firstCells_some (P:=P) w sz n _ _ _ xs (by rw[hv.1,hlen]) (fun j v hj=>by rw[qep];exact hcell j v hj)
 |slcR b o len sz' c l hl hc hf=>obtain⟨xs,hv,hlen,hcell⟩:=qe0 s (show readCells H b o (n * sz)=some cs from h) hl;refine⟨xs.toArray,?_,hv,.inl hlen⟩;exact run_firstCells_some (P:=P) w sz n _ _ _ xs (by rw[hv.1,hlen]) (fun j v hj=>by rw[qep];exact hcell j v hj)
 |fslc sz' es cb off cap vs hB hcap hz hc hv=>
  simp only[qc3,sj]at hm;subst hm;simp only[qb3]at h;split at h
  ·rename_i hb;have hb:=Nat.eq_of_beq_eq_true hb;subst hb;simp only[sj]at h;subst h;have hz':∀i (hi:i < (es.take n).length),(es.take n)[i].cells.length=sz':=fun i hi=>(by rw[List.getElem_take];exact hz i (by simp at hi;omega));have hlen:(qa8 (es.take n)).length=n * sz':=(by rw[qk7 hz',List.length_take,Nat.min_eq_left hn]);have hdm:∀k,k < n * sz'->k / sz' < n/\k % sz' < sz'/\k / sz' * sz'+k % sz'=k:=fun k hk=>by
    have h0:0 < sz':=by
     rcases Nat.eq_zero_or_pos sz' with h|h
     ·subst h;simp at hk
     ·exact h
    exact⟨Nat.div_lt_of_lt_mul (by rw[Nat.mul_comm];exact hk),Nat.mod_lt _ h0,by rw[Nat.mul_comm];exact Nat.div_add_mod k sz'⟩
   have hrun:=run_loadCells (P:=P) w ⟨cb,off,none⟩ (n * sz') (fun k=>vs (k / sz') (k % sz')) (fun k hk=>by obtain⟨h1,h2,h3⟩:=hdm k hk;have:=hc (k / sz') (by omega) (k % sz') h2;rw[Nat.add_assoc,h3]at this;rw[qep,s.cellW (a:=⟨cb,_,none⟩) hB];exact this);refine⟨_,by simpa only[Builtin.firstCells]using hrun,⟨by simp[hlen],fun k h1 h2=>?_⟩,.inl hlen⟩;rw[hlen]at h1;obtain⟨h3,h4,h5⟩:=hdm k h1;simp only[List.getElem_map,List.getElem_range];have e:(qa8 (es.take n))[k]'(by rw[hlen];exact h1)=es[k / sz'].cells[k % sz']'(by rw[hz _ (by omega)];exact h4):=(by have:=qx5 hz' (k / sz') (k % sz') (by simp;omega) h4 (by rw[h5,hlen];exact h1);simp only[h5]at this;rw[this];simp[List.getElem_take]);rw[e];exact(hv _ _ _ _).mono ρ.bare_le
  ·simp at h
 |fnil sz'=>
  simp only[qc3,sj]at hm
  have : n = 0 := by have : m = 0 := by rw [<- hm]; rfl
                     omega
  subst this;simp only[qb3,List.take_nil,qa8]at h;split at h
  ·simp only[sj]at h;subst h;exact⟨#[],by simp[Builtin.firstCells],.nil,.inl (by simp)⟩
  ·simp at h
 |fnone sz' a c=>
  simp only[qc3,sj]at hm
  have : n = 0 := by have : m = 0 := by rw [<- hm]; rfl
                     omega
  subst this;simp only[qb3,List.take_nil,qa8]at h;split at h
  ·simp only[sj]at h;subst h;exact⟨#[],by simp[Builtin.firstCells,loadCells,loadCellsFrom],.nil,.inl (by simp)⟩
  ·simp at h
 |str st=>simp only[qc3,sj]at hm;subst hm;simp only[qb3,sj]at h;subst h;refine⟨_,by simp only[Builtin.firstCells,Sem.run_pure];rfl,⟨by simp[qcx,qhp],fun i h1 h2=>?_⟩,.inr ⟨st,rfl⟩⟩;rw[qka];simp only[qhp,List.map_toArray,List.getElem_toArray,List.getElem_map,List.drop_zero];exact .int _ _
 |zslcN=>
  simp only[qc3,sj]at hm;have:n=0:=by omega
  subst this;simp only[qb3,sj]at h;subst h;exact⟨#[],by simp[Builtin.firstCells],.nil,.inl (by simp)⟩
 |zslcE a=>
  simp only[qc3,sj]at hm;have:n=0:=by omega
  subst this;simp only[qb3,sj]at h;subst h;exact⟨#[],by simp[Builtin.firstCells,loadCells,loadCellsFrom],.nil,.inl (by simp)⟩
 |_=>simp[qc3]at hm
theorem qo6{b kn:Nat} (h:qbp H b=some kn):∃k cs,H.get b=some k/\k.rd=some cs/\cs.length=kn:=by obtain⟨k,hk,h⟩:=obs h;obtain⟨cs,hrd,h⟩:=obs h;simp only[sj]at h;exact⟨k,cs,hk,hrd,h⟩
def qq5(elem:TypeId) (cs:List AV) (k:Blk):Prop:=k=.cells cs\/∃fz,fz<=cs.length/\k=.buf elem fz cs
theorem qj2{elem:TypeId} {cs:List AV}:qq5 elem cs (qpi P elem cs):=by
 unfold qpi;split
 ·exact .inr ⟨0,Nat.zero_le _,rfl⟩
 ·exact .inl rfl
theorem zcp{w:World} {cs:List AV} {c:Array Value} {elem:TypeId} {n:Nat} {k:Blk} (hk:qq5 elem cs k) (hn:cs.length<=c.size) (hv:∀i (h:i < cs.length) (h':i < c.size),VR (ρ.upd n ⟨w.heap.size,0,c.size⟩) cs[i] c[i]) :
  BlkR (ρ.upd n ⟨w.heap.size,0,c.size⟩) (w.alloc (.cells c elem)) ⟨w.heap.size,0,c.size⟩ k:=by
 have h0:=qoq (t:=elem) (fr:=(0,0)) hn hv (fun i _=>by simp);have hh:(w.alloc (.cells c elem)).heap[w.heap.size]? = some (.cells c elem (0,0)):=by show (w.heap.push _)[w.heap.size]? = _;simp
 rcases hk with rfl|⟨fz,hfz,rfl⟩
 ·exact h0
 ·exact⟨⟨h0.1,fun i hi=>(h0.2.1 i hi).1,h0.2.2⟩,rfl,hfz,c,0,0,hh,.inl rfl⟩
theorem qta{c old new:Array Value} {zv:Value} {cs:List AV} {need newCap sz:Nat} {elem:TypeId} {k:Blk} (hk:qq5 elem cs k) (s:Sim ρ H w) (hv:VRs ρ cs (old++new).toList)
  (hzc:zv.cells.size=sz) (hlen:cs.length=need * sz) (hcap:need<=newCap) (h63:newCap<=9223372036854775807) (hc:c=old++new++Builtin.zeroCells zv.cells (newCap - need)) :
  Good ρ H w (.ok (.slice (some ⟨w.heap.size,0,none⟩) need newCap) ((w.drew).alloc (.cells c elem))) (.slc H.n 0 need (.rest sz)) (H.new k):=by
 have hsz:c.size=newCap * sz:=by
  have h1:(old++new).size=need * sz:=by have:=hv.1;simp at this;simp;omega
  rw[hc,Array.size_append,h1];simp only[Builtin.zeroCells,Array.size_map,Array.size_range,hzc];rw[<- Nat.add_mul];congr 1;omega
 have hle:ρ.le (ρ.upd H.n ⟨w.heap.size,0,c.size⟩):=Place.le_upd (s.dom _ (Nat.le_refl _));have hcl:cs.length<=c.size:=by rw[hsz,hlen];exact Nat.mul_le_mul_right _ hcap
 obtain⟨h1,h2⟩:=s.drew.new (.cells c elem) c.size k (zcp hk hcl (fun i h h'=>by
  have hi:i < (old++new).toList.length:=by rw[hv.1];exact h
  have e:c[i]=(old++new).toList[i]:=by subst hc;rw[Array.getElem_append_left (by simpa using hi)];rfl
  rw[e];exact(hv.2 i h hi).mono hle))
 refine⟨_,_,_,rfl,?_,h1,(Step.drew _ _ _).trans h2⟩;exact .slcR H.n 0 need sz newCap ⟨w.heap.size,0,c.size⟩ Place.upd_same hcap ⟨by simp[hsz],h63⟩
end
section
variable {P:Program} {ρ:Place} {H H':Heap} {w:World}
structure AppT (P:Program) (ts:Array TypeId) (elem:TypeId) (sz by_:Nat) (zv:Value):Prop where
 fst:∃t,ts[0]? = some t/\P.underlying t=some (.slice elem)
 snd:∃u,ts[1]? = some u/\(P.underlying u=some .string\/∃e,P.underlying u=some (.slice e))
 size:∀w,(sizeOf elem).run P w=.ok sz w
 info:∃i:TypeInfo,(∀w,(typeInfo elem).run P w=.ok i w)/\i.bytes=by_
 zero:∀w,(zeroValue elem).run P w=.ok zv w
theorem AppT.room{ts:Array TypeId} {ty elem:TypeId} {sz by_:Nat} {zv:Value} (T:AppT P ts elem sz by_ zv) {y':Value} {n sLen sCap:Nat} {a:Addr} {new:Array Value} {w w':World}
  (hn:(Builtin.lenOf y').run P w=.ok n w) (hle:sLen+n<=sCap) (hnew:(Builtin.firstCells sz n y').run P w=.ok new w)
  (hst:(storeCells (a.add (sLen * sz)) new.toList).run P w=.ok () w') :
  (Builtin.append_ ts ty #[.slice (some a) sLen sCap,y']).run P w=.ok (.slice (some a) (sLen+n) sCap) w':=by
 obtain⟨t,ht,hd⟩:=T.fst;obtain⟨u,hu,hud⟩:=T.snd;rcases hud with hud|⟨e,hud⟩ <;>
  simp[Builtin.append_,ht,hu,run_underlying hd,run_underlying hud,T.size,hn,hle,hnew,hst]
theorem AppT.atNil{ts:Array TypeId} {ty elem:TypeId} {sz by_:Nat} {zv:Value} (T:AppT P ts elem sz by_ zv) {y':Value} {sCap:Nat} {new:Array Value} {w:World}
  (hn:(Builtin.lenOf y').run P w=.ok 0 w) (hnew:(Builtin.firstCells sz 0 y').run P w=.ok new w) :
  (Builtin.append_ ts ty #[.slice none 0 sCap,y']).run P w=.ok (.slice none 0 sCap) w:=by
 obtain⟨t,ht,hd⟩:=T.fst;obtain⟨u,hu,hud⟩:=T.snd;rcases hud with hud|⟨e,hud⟩ <;>
  simp[Builtin.append_,ht,hu,run_underlying hd,run_underlying hud,T.size,hn,hnew]
theorem qxd{need old:Nat} {elem:TypeId} {t:Nat} (h:need<=17592186044416):(Question.appendCap need old elem).cut t<=9223372036854775807:=by show need+t % (2 ^ 63 - need)<=_;have:=Nat.mod_lt t (show 0 < 2 ^ 63 - need by omega);omega
theorem AppT.grows{ts:Array TypeId} {ty elem:TypeId} {sz by_:Nat} {zv:Value} (T:AppT P ts elem sz by_ zv) {y':Value} {n sLen sCap:Nat} {base:Option Addr} {old new:Array Value} {w:World}
  (hn:(Builtin.lenOf y').run P w=.ok n w) (hgt:¬ sLen+n<=sCap) (hb:0 < by_) (hroom:(sLen+n) * by_<=17592186044416)
  (hold:(Builtin.firstCells sz sLen (.slice base sLen sCap)).run P w.drew=.ok old w.drew) (hnew:(Builtin.firstCells sz n y').run P w.drew=.ok new w.drew) :
  ∃newCap,(sLen+n<=newCap/\newCap<=9223372036854775807)/\(Builtin.append_ ts ty #[.slice base sLen sCap,y']).run P w =
   .ok (.slice (some ⟨w.heap.size,0,none⟩) (sLen+n) newCap) (w.drew.alloc (.cells (old++new++Builtin.zeroCells zv.cells (newCap - (sLen+n))) elem)):=by
 obtain⟨t,ht,hd⟩:=T.fst;obtain⟨u,hu,hud⟩:=T.snd;obtain⟨ti,hti,rfl⟩:=T.info;have hfit:Builtin.nextslicecap (sLen+n) sCap * ti.bytes<=281474976710656:=growslice_fits (by omega) (by omega);have h63:¬ (ti.bytes=0):=by omega
 refine⟨(Question.appendCap (sLen+n) sCap elem).cut (w.tape w.drawn (.appendCap (sLen+n) sCap elem)),⟨by simp[Question.cut],qxd (Nat.le_trans (Nat.le_mul_of_pos_right _ hb) hroom)⟩,?_⟩;have hforced:(Question.appendCap (sLen+n) sCap elem).forced=false:=rfl;have hnf:¬ 281474976710656 < Builtin.nextslicecap (sLen+n) sCap * ti.bytes:=by omega
 rcases hud with hud|⟨e,hud⟩ <;>
  simp[Builtin.append_,ht,hu,run_underlying hd,run_underlying hud,T.size,hn,hgt,hti,h63,hnf,hforced,hold,hnew,T.zero,newRow,newObj,Sem.run]
theorem qq4(s:Sim ρ H w) {ts:Array TypeId} {t u ty elem:TypeId} (ht:ts[0]? = some t) (hd:P.underlying t=some (.slice elem))
  (hu:ts[1]? = some u) (hud:P.underlying u=some .string\/∃e,P.underlying u=some (.slice e))
  {x y v:AV} {x' y':Value} (h:qby P H elem x y=some (v,H')) (hx:VR ρ x x') (hy:VR ρ y y') :
  Good ρ H w ((Builtin.append_ ts ty #[x',y']).run P w) v H':=by
 replace h:=obs h;obtain⟨sz,hsz,h⟩:=h;replace h:=obs h;obtain⟨by_,hby,h⟩:=h;replace h:=obs h;obtain⟨z,hzz,h⟩:=h;replace h:=obs h;obtain⟨n,hn,h⟩:=h;split at h
 ·simp at h
 rename_i hcond;simp only[Bool.or_eq_false_iff,Bool.not_eq_false']at hcond;obtain⟨hc0,hcz⟩:=hcond;have hszpos:0 < sz:=by
  rcases Nat.eq_zero_or_pos sz with h0|h0
  ·rw[h0]at hc0;simp at hc0
  ·exact h0
 simp only[Bool.and_eq_true]at hcz;have hbpos:0 < by_:=Nat.le_of_ble_eq_true hcz.2;have hzl:=Nat.eq_of_beq_eq_true hcz.1;obtain⟨zv,rfl,hzr,_⟩:=qel hzz;have hzs:zv.cells.size=sz:=by have:=(VRs.const (ρ:=ρ) zv).1;simp at this;omega
 have T:AppT P ts elem sz by_ zv:=⟨⟨t,ht,hd⟩,⟨u,hu,hud⟩,qcc hsz,qm5 hby,hzr⟩;have hl:=qpc (P:=P) hn hy;have inplace:∀(b o len c:Nat) (l:Loc) (cap:Cap),ρ b=some l->len+n<=c->∀cs,qb3 H sz n y=some cs->allSingle cs=true->writeCells H b (o+len * sz) cs=some H' ->
   VR ρ (.slc b o (len+n) cap) (.slice (some ⟨l.cb,l.off+o,none⟩) (len+n) c) ->
   Good ρ H w ((Builtin.append_ ts ty #[.slice (some ⟨l.cb,l.off+o,none⟩) len c,y']).run P w) (.slc b o (len+n) cap) H':=fun b o len c l cap hl0 hle cs hcs hsing hw hv=>by
  obtain⟨cn,hr,hcv,_⟩:=qen (P:=P) s hcs hn (Nat.le_refl _) hy;obtain⟨h1,h2,h3⟩:=qkh (P:=P) s hw hl0 hcv (hcv.oneCell hsing);refine⟨_,ρ,_,T.room (hl w) hle hr (w':=w.setCells l.cb (l.off+(o+len * sz)) cn.toList) ?_,hv,h2,h3⟩;rw[qep,Nat.add_assoc];exact h1
 have grow:∀(base:Option Addr) (sLen sCap:Nat) (old:Array Value) (os cs:List AV) (Hd:Heap) (k:Blk),qq5 elem (os++cs) k->¬ sLen+n<=sCap->qde (sLen+n) by_=true ->
   (Builtin.firstCells sz sLen (.slice base sLen sCap)).run P w.drew=.ok old w.drew->VRs ρ os old.toList->os.length=sLen * sz ->
   qb3 H sz n y=some cs->cs.length=n * sz->Sim ρ Hd w->Step ρ H w ρ Hd w ->
   Good ρ H w ((Builtin.append_ ts ty #[.slice base sLen sCap,y']).run P w) (.slc Hd.n 0 (sLen+n) (.rest sz)) (Hd.new k):=fun base sLen sCap old os cs Hd k hkn hgt hroom hold hov hol hcs hcl sd st=>by
  obtain⟨cn,hr,hcv,_⟩:=qen (P:=P) s.drew hcs hn (Nat.le_refl _) hy;obtain⟨newCap,⟨hle,h63⟩,hrun⟩:=T.grows (ty:=ty) (hl w) hgt hbpos (Nat.le_of_ble_eq_true hroom) hold hr;rw[hrun];obtain⟨x1,ρ1,w1,e1,g1,g2,g3⟩:=qta (elem:=elem) (k:=k) hkn (old:=old) (new:=cn) (zv:=zv) (newCap:=newCap) (need:=sLen+n) (sz:=sz) sd
   (by rw[Array.toList_append];exact hov.append hcv) hzs (by simp[hol,hcl,Nat.add_mul]) hle h63 rfl
  exact⟨x1,ρ1,w1,e1,g1,g2,st.trans g3⟩
 split at h
 ·-- nil
  cases hx;split at h
  ·simp only[sj,Prod.mk.injEq]at h;obtain⟨rfl,rfl⟩:=h;obtain⟨c,hc,_⟩:=qd3 (P:=P) hn hy sz w;exact Good.pure s .nilS (T.atNil (hl w) hc)
  ·rename_i n' _;split at h
   ·rename_i hroom;replace h:=obs h;obtain⟨cs,hcs,h⟩:=h;split at h
    next hlen=>simp only[sj,Prod.mk.injEq]at h;obtain⟨rfl,rfl⟩:=h;have:=grow none 0 0 #[] [] cs H (qpi P elem cs) qj2 (by omega) (by simpa using hroom) (by simp[Builtin.firstCells]) .nil (by simp) hcs (Nat.eq_of_beq_eq_true hlen) s (.refl _ _ _);simpa using this
    ·simp at h
   ·simp at h
 ·rename_i b o len cap;replace h:=obs h;obtain⟨cs,hcs,h⟩:=h;split at h
  ·simp at h
  rename_i hroom;split at h
  ·simp at h
  rename_i hsing;cases hx with
  |slcE _ _ _ c l hl0 hlen=>
   dsimp only at h;split at h
   next hle=>replace h:=obs h;obtain⟨H1,hw,h⟩:=h;simp only[sj,Prod.mk.injEq]at h;obtain⟨rfl,rfl⟩:=h;have hle:=Nat.le_of_ble_eq_true hle;exact inplace b o len c l _ hl0 hle cs hcs hsing hw (.slcE _ _ _ _ l hl0 hle)
   ·rename_i hle;have hgt:¬ len+n<=c:=fun h0=>(by rw[show Nat.ble (len+n) c=true by rw[Nat.ble_eq];exact h0]at hle;cases hle);split at h
    next hcl=>replace h:=obs h;obtain⟨old,hold,h⟩:=h;simp only[sj,Prod.mk.injEq]at h;obtain⟨rfl,rfl⟩:=h;obtain⟨xs,hv,hlen',hcell⟩:=qe0 s.drew hold hl0;refine grow _ len c xs.toArray old cs H _ qj2 hgt hroom ?_ hv hlen' hcs (Nat.eq_of_beq_eq_true hcl) s (.refl _ _ _);exact run_firstCells_some (P:=P) w.drew sz len _ _ _ xs (by rw[hv.1,hlen']) (fun j v hj=>by rw[qep];exact hcell j v hj)
    ·simp at h
  |slcR _ _ _ sz' c l hl0 hlen hf=>
   dsimp only at h;split at h
   ·simp at h
   rename_i hszeq;have hszeq:=Nat.eq_of_beq_eq_true hszeq;subst hszeq;replace h:=obs h;obtain⟨kn,hkn,h⟩:=h;obtain⟨k0,cells,hcells,hrd0,rfl⟩:=qo6 hkn;obtain⟨l1,hl1,_,_,hr0⟩:=s.block hcells;rw[hl0]at hl1;cases hl1;have hr:=hr0.rdR hrd0;have hkc:=hr.1;split at h
   next hle=>replace h:=obs h;obtain⟨H1,hw,h⟩:=h;simp only[sj,Prod.mk.injEq]at h;obtain⟨rfl,rfl⟩:=h;have hle:=Nat.le_of_ble_eq_true hle;have hle2:len+n<=c:=Nat.le_of_mul_le_mul_right (by omega:(len+n) * sz<=c * sz) hszpos;exact inplace b o len c l _ hl0 hle2 cs hcs hsing hw (.slcR _ _ _ _ _ l hl0 hle2 hf)
   ·split at h
    ·rename_i hend;have hend:=Nat.eq_of_beq_eq_true hend;split at h
     ·rename_i hcl;have hcl:=Nat.eq_of_beq_eq_true hcl;replace h:=obs h;obtain⟨old,hold,h⟩:=h;replace h:=obs h;obtain⟨k1,hk1,h⟩:=h;rw[hcells]at hk1;cases hk1;replace h:=obs h;obtain⟨k',hgo,h⟩:=h;simp only[sj,Prod.mk.injEq]at h;obtain⟨rfl,rfl⟩:=h;have hun:∀i,i < l.fin->l.off+o+len * sz<=i->w.frozen? ⟨l.cb,i,none⟩=false:=fun i hi hoi=>by
       cases k0<;>simp only[Blk.rd,sj,reduceCtorEq]at hrd0
       ·exact(hr0.2.1 i hi).2
       ·exact(hr0.1.2.1 i hi).2
       ·rename_i t fz cs0;subst hrd0;obtain⟨_,h0,hfz,cc,lo,hh,hheap,hz⟩:=hr0;simp only[World.frozen?,hheap];rcases hz with rfl|hz
        ·by_cases h1:lo<=i<;>simp<;>omega
        ·simp;omega
      have hlen2:old.length=len * sz:=(by obtain⟨_,_,hx,_⟩:=qe0 s hold hl0;exact hx);have hnr:qq5 elem (old++cs) k':=by
       unfold goOn at hgo;split at hgo
       ·simp only[sj]at hgo;subst hgo;exact .inl rfl
       ·rename_i t fz cs0;split at hgo
        next hc=>simp only[Bool.and_eq_true]at hc;have h1:=Nat.eq_of_beq_eq_true hc.1;have h2:=Nat.eq_of_beq_eq_true hc.2;simp only[sj]at hgo;subst hgo;subst h1;simp only[Blk.rd,sj]at hrd0;subst hrd0;refine .inr ⟨fz,?_,rfl⟩;have:=hr0.2.2.1;simp only[List.length_append];omega
        ·simp at hgo
       ·simp at hgo
      have hsame:∀{w':World} {l':Loc} {ρ':Place},l'.cb=l.cb->l'.off=l.off+o->l'.fin=l.fin->(∀i,w'.frozen? ⟨l.cb,i,none⟩=w.frozen? ⟨l.cb,i,none⟩) ->
        (∀c t fr,w.heap[l.cb]? = some (.cells c t fr)->∃c',w'.heap[l.cb]? = some (.cells c' t fr)/\c'.size=c.size) ->
        l'.off+(old++cs).length<=l'.fin->(∀i,i < l'.fin->(w'.cell? ⟨l'.cb,i,none⟩).isSome=true) ->
        (∀i (h:i < (old++cs).length),∃x,w'.cell? ⟨l'.cb,l'.off+i,none⟩=some x/\VR ρ' (old++cs)[i] x)->BlkR ρ' w' l' k':=by
       intro w' l' ρ' e1 e2 e3 hf hk g1 g2 g3;unfold goOn at hgo;split at hgo
       ·simp only[sj]at hgo;subst hgo;exact⟨g1,fun i hi=>⟨g2 i hi,by rw[e1,hf];exact(hr0.2.1 i (by omega)).2⟩,g3⟩
       ·rename_i t fz cs0;split at hgo
        next hc=>simp only[Bool.and_eq_true]at hc;have h2:=Nat.eq_of_beq_eq_true hc.2;simp only[sj]at hgo;subst hgo;simp only[Blk.rd,sj]at hrd0;subst hrd0;obtain⟨r1,r2,r3,c,lo,hi',hh,hz⟩:=hr0;obtain⟨c',hc',_⟩:=hk _ _ _ hh;refine⟨⟨g1,g2,g3⟩,by omega,?_,c',lo,hi',by rw[e1];exact hc',hz⟩;simp only[List.length_append];omega
        ·simp at hgo
       ·simp at hgo
      by_cases hgt:len+n<=c
      ·-- in place, under a new number
       obtain⟨cn,hrun,hcv,_⟩:=qen (P:=P) s hcs hn (Nat.le_refl _) hy;obtain⟨xs,hv,hlen',hcell⟩:=qe0 s hold hl0;have h1:=hcv.oneCell hsing;have hcn:cn.toList.length=n * sz:=(by rw[hcv.1,hcl]);have hmul:(len+n) * sz<=c * sz:=Nat.mul_le_mul_right _ hgt;rw[Nat.add_mul]at hmul;have hcell2:∀j,j < cn.toList.length->(w.cell? ⟨l.cb,l.off+o+len * sz+j,none⟩).isSome=true:=fun j hj=>hr.2.1 _ (by omega);have hin:=World.cell?_setCells_in l.cb cn.toList (l.off+o+len * sz) w hcell2;have hout:=World.cell?_setCells_out l.cb cn.toList (l.off+o+len * sz) w;have hst:=run_storeCells_cells (P:=P) l.cb (l.off+o+len * sz) cn.toList 0 w (by simpa using hcell2) (fun j hj=>hun _ (by omega) (by omega)) h1;simp only[Nat.add_zero]at hst;have hle':ρ.le (ρ.upd H.n ⟨l.cb,l.off+o,l.fin⟩):=Place.le_upd (s.dom _ (Nat.le_refl _));obtain⟨g1,g2⟩:=s.regrow (k:=k') (l':=⟨l.cb,l.off+o,l.fin⟩) hcells hl0 rfl (qfq l.cb cn.toList (l.off+o+len * sz) w)
        (fun j hj=>qfr _ _ _ _ j hj) (qcl _ _ _ _).1 (qcl _ _ _ _).2.1 (qcl _ _ _ _).2.2 (by
         refine hsame rfl rfl rfl (fun i=>World.frozen?_setCells _ _ _ _ _) (fun c t fr he=>qi1 _ _ _ _ he) (by simp only[List.length_append];omega) (fun i hi=>?_) fun i hi=>?_
         ·by_cases hi2:l.off+o+len * sz<=i/\i < l.off+o+len * sz+cn.toList.length
          ·have:=hin (i - (l.off+o+len * sz)) (by omega);rw[show l.off+o+len * sz+(i - (l.off+o+len * sz))=i by omega]at this;show (World.cell? _ ⟨l.cb,i,none⟩).isSome=true;rw[this];rfl
          ·show (World.cell? _ ⟨l.cb,i,none⟩).isSome=true;rw[hout ⟨l.cb,i,none⟩ (fun _ _=>by show i < _\/_<=i;omega)];exact hr.2.1 i hi
         ·simp only[List.length_append]at hi;by_cases hi2:i < len * sz
          ·have hx:i < xs.length:=(by rw[hv.1,hlen'];exact hi2);refine⟨xs[i],?_,?_⟩
           ·show World.cell? _ ⟨l.cb,l.off+o+i,none⟩=_;rw[hout ⟨l.cb,l.off+o+i,none⟩ (fun _ _=>by show l.off+o+i < _\/_<=l.off+o+i;omega)];exact hcell i _ (List.getElem?_eq_getElem hx)
           ·rw[List.getElem_append_left (by omega)];exact(hv.2 i (by omega) hx).mono hle'
          ·have hj:i - len * sz < cn.toList.length:=(by omega);refine⟨cn.toList[i - len * sz],?_,?_⟩
           ·have:=hin (i - len * sz) hj;show World.cell? _ ⟨l.cb,l.off+o+i,none⟩=_;rw[show l.off+o+len * sz+(i - len * sz)=l.off+o+i by omega]at this;exact this
           ·rw[List.getElem_append_right (by omega)];have e:i - old.length=i - len * sz:=(by omega);simp only[e];exact(hcv.2 _ (by omega) hj).mono hle')
       refine⟨_,_,_,T.room (hl w) hgt hrun (w':=w.setCells l.cb (l.off+o+len * sz) cn.toList) (by rw[qep];exact hst),?_,g1,g2⟩;exact .slcR H.n 0 (len+n) sz c ⟨l.cb,l.off+o,l.fin⟩ Place.upd_same hgt (by simpa using hf)
      ·obtain⟨xs,hv,hlen',hcell⟩:=qe0 s.drew hold hl0;obtain⟨sd,st⟩:=s.dropped b;have:=grow (some ⟨l.cb,l.off+o,none⟩) len c xs.toArray old cs (H.drop b) k' hnr hgt hroom
        (run_firstCells_some (P:=P) w.drew sz len _ _ _ xs (by rw[hv.1,hlen']) (fun j v hj=>by rw[qep];exact hcell j v hj)) hv hlen' hcs hcl sd st
       exact this
     ·simp at h
    ·simp at h
 ·-- an empty one
  split at h
  ·simp only[sj,Prod.mk.injEq]at h;obtain⟨rfl,rfl⟩:=h;obtain⟨c,hc,hcn⟩:=qd3 (P:=P) hn hy sz w;cases hx with
   |zslcN=>exact Good.pure s .zslcN (T.atNil (hl w) hc)
   |zslcE a=>exact Good.pure s (.zslcE a) (T.room (hl w) (by omega) hc (by rw[hcn];rfl))
  ·rename_i n' _;split at h
   ·rename_i hroom;replace h:=obs h;obtain⟨cs,hcs,h⟩:=h;split at h
    ·rename_i hlen;simp only[sj,Prod.mk.injEq]at h;obtain⟨rfl,rfl⟩:=h;cases hx with
     |zslcN=>have:=grow none 0 0 #[] [] cs H (qpi P elem cs) qj2 (by omega) (by simpa using hroom) (by simp[Builtin.firstCells]) .nil (by simp) hcs (Nat.eq_of_beq_eq_true hlen) s (.refl _ _ _);simpa using this
     |zslcE a=>have:=grow (some a) 0 0 #[] [] cs H (qpi P elem cs) qj2 (by omega) (by simpa using hroom) (by simp[Builtin.firstCells,loadCells,loadCellsFrom]) .nil (by simp) hcs (Nat.eq_of_beq_eq_true hlen) s (.refl _ _ _);simpa using this
    ·simp at h
   ·simp at h
 ·cases hx with
  |eslc a c=>
   split at h
   ·simp only[sj,Prod.mk.injEq]at h;obtain⟨rfl,rfl⟩:=h;obtain⟨cn,hc,hcn⟩:=qd3 (P:=P) hn hy sz w;exact Good.pure s (.eslc a c) (T.room (hl w) (by omega) hc (by rw[hcn];rfl))
   ·simp at h
 ·-- frozen, with no room
  rename_i s0 es;split at h
  ·simp at h
  rename_i n' _;replace h:=obs h;obtain⟨os,hos,h⟩:=h;replace h:=obs h;obtain⟨cs,hcs,h⟩:=h;split at h
  ·rename_i hb;simp only[Bool.and_eq_true]at hb;obtain⟨hroom,hcl,hol⟩:=hb;simp only[sj,Prod.mk.injEq]at h;obtain⟨rfl,rfl⟩:=h;cases hx with
   |xslc sz' es' cb off vs hB hz hc hv=>have hx2:VR ρ (.fslc s0 es) (.slice (some ⟨cb,off,none⟩) es.length es.length):=.fslc s0 es cb off es.length vs hB (Nat.le_refl _) hz hc hv;obtain⟨old,hold,hov,_⟩:=qen (P:=P) s.drew hos (m:=es.length) rfl (Nat.le_refl _) hx2;exact grow (some ⟨cb,off,none⟩) es.length es.length old os cs H (qpi P elem (os++cs)) qj2 (by omega) hroom hold hov (Nat.eq_of_beq_eq_true hol) hcs (Nat.eq_of_beq_eq_true hcl) s (.refl _ _ _)
  ·simp at h
 ·simp at h
theorem zbm{ts:Array TypeId} {t u ty elem:TypeId} {kk:IntKind} {sz:Nat} {ti:TypeInfo} {zv:Value} {w:World} (ht:ts[0]? = some t) (hd:P.underlying t=some (.slice elem))
  (hu:ts[1]? = some u) (hud:P.underlying u=some (.int kk)) (hS:∀w,(sizeOf elem).run P w=.ok sz w) (hti:∀w,(typeInfo elem).run P w=.ok ti w) (hzr:∀w,(zeroValue elem).run P w=.ok zv w)
  {k:Nat} (hk:0 < k) (hsz:0 < sz) (hb:0 < ti.bytes) (hroom:k * ti.bytes<=17592186044416) (hlt:k < 140737488355328) :
  (Builtin.append_ ts ty #[.slice none 0 0,.int .i64 (k:Int)]).run P w =
   .ok (.slice (some ⟨w.heap.size,0,none⟩) k ((Question.appendCap k 0 elem).cut (w.tape w.drawn (.appendCap k 0 elem))))
    (w.drew.alloc (.cells (#[]++Builtin.zeroCells zv.cells k++Builtin.zeroCells zv.cells ((Question.appendCap k 0 elem).cut (w.tape w.drawn (.appendCap k 0 elem)) - k)) elem)):=by
 have hwr:IntKind.i64.wrap (k:Int)=k:=IntWalk.i64_in _ (by omega);have hA:¬ (281474976710656 < (k:Int) * (ti.bytes:Int)):=by
  have:(k:Int) * (ti.bytes:Int)=((k * ti.bytes:Nat):Int):=by simp
  rw[this];omega
 have hfit:Builtin.nextslicecap k 0 * ti.bytes<=281474976710656:=growslice_fits (by omega) (by omega);have hnf:¬ 281474976710656 < Builtin.nextslicecap k 0 * ti.bytes:=by omega
 have h63:¬ (ti.bytes=0):=by omega
 have hk0:¬ k=0:=by omega
 have hsz0:¬ sz=0:=by omega
 have hneg:¬ ((k:Int) < 0):=by omega
 have hmx:¬ (IntKind.i64.max < (k:Int)):=by
  have:IntKind.i64.max=9223372036854775807:=by decide
  omega
 have hforced:(Question.appendCap k 0 elem).forced=false:=rfl;simp[Builtin.append_,ht,hu,run_underlying hd,run_underlying hud,hS,asInt,asIntOf,hti,hwr,hA,hnf,h63,hk0,hsz0,hneg,hmx,hforced,hzr,Builtin.firstCells,newRow,newObj,Sem.run];rw[if_neg (show ¬ (9223372036854775807:Int) < (k:Int) by omega),if_neg (by have:=Nat.mul_pos hk hsz;omega)]
theorem grow_run(s:Sim ρ H w) {ts:Array TypeId} {t u ty elem:TypeId} {k:IntKind} (ht:ts[0]? = some t) (hd:P.underlying t=some (.slice elem))
  (hu:ts[1]? = some u) (hud:P.underlying u=some (.int k))
  {x y v:AV} {x' y':Value} (h:qyh P H elem x y=some (v,H')) (hx:VR ρ x x') (hy:VR ρ y y') :
  Good ρ H w ((Builtin.append_ ts ty #[x',y']).run P w) v H':=by
 replace h:=obs h;obtain⟨sz,hsz,h⟩:=h;replace h:=obs h;obtain⟨by_,hby,h⟩:=h;replace h:=obs h;obtain⟨z,hzz,h⟩:=h;split at h
 ·simp at h
 rename_i hcond;simp only[Bool.or_eq_false_iff,Bool.not_eq_false']at hcond;obtain⟨hc0,hcz⟩:=hcond;have hszpos:0 < sz:=by
  rcases Nat.eq_zero_or_pos sz with h0|h0
  ·rw[h0]at hc0;simp at hc0
  ·exact h0
 simp only[Bool.and_eq_true]at hcz;have hbpos:0 < by_:=Nat.le_of_ble_eq_true hcz.2;have hzl:=Nat.eq_of_beq_eq_true hcz.1;obtain⟨zv,rfl,hzr,_⟩:=qel hzz;have hzs:zv.cells.size=sz:=by have:=(VRs.const (ρ:=ρ) zv).1;simp at this;omega
 have hS:=qcc hsz;obtain⟨ti,hti,rfl⟩:=qm5 hby;cases x with
 |nilS=>
  cases hx;cases y with
  |int k2 n=>
   cases k2 with
   |i64=>
    cases hy;replace h:=obs h;obtain⟨n2,hn,h⟩:=h;obtain⟨rfl,hlt⟩:=qcw hn;have hwr:IntKind.i64.wrap (n2:Int)=n2:=IntWalk.i64_in _ (by omega);cases n2 with
    |zero=>simp only[sj,Prod.mk.injEq]at h;obtain⟨rfl,rfl⟩:=h;refine Good.pure s .nilS ?_;simp[Builtin.append_,ht,hu,run_underlying hd,run_underlying hud,hS,asInt,asIntOf,hti,IntWalk.i64_in]
    |succ m=>
     simp only at h;split at h
     ·rename_i hroom;have hroom:=Nat.le_of_ble_eq_true hroom;simp only[sj,Prod.mk.injEq]at h;obtain⟨rfl,rfl⟩:=h;have hzv:=qkf (ρ:=ρ) (n:=m+1) hzl hzs;have hzc:(Builtin.zeroCells zv.cells (m+1)).toList=((Array.range ((m+1) * sz)).map fun i=>zv.cells[i % zv.cells.size]!).toList:=(by simp[Builtin.zeroCells,hzs]);have hrun:=zbm (ty:=ty) (w:=w) ht hd hu hud hS hti hzr (k:=m+1) (by omega) hszpos hbpos hroom hlt;rw[hrun];obtain⟨x1,ρ1,w1,e1,g1,g2,g3⟩:=qta (elem:=elem) (k:=qpi P elem (replL (ofV zv).cells (m+1))) qj2 (old:=#[]) (new:=Builtin.zeroCells zv.cells (m+1)) (zv:=zv) (newCap:=(Question.appendCap (m+1) 0 elem).cut (w.tape w.drawn (.appendCap (m+1) 0 elem))) (need:=m+1) (sz:=sz) s
       (by rw[Array.empty_append,hzc];exact hzv) hzs (by rw[qgj,hzl]) (by simp[Question.cut]) (qxd (Nat.le_trans (Nat.le_mul_of_pos_right _ hbpos) hroom)) rfl
      exact⟨x1,ρ1,w1,e1,g1,g2,g3⟩
     ·simp at h
   |_=>simp at h
  |_=>simp at h
 |_=>simp at h
end
theorem qiw{z:List AV} (h:allSingle z=true):∀n,allSingle (replL z n)=true
 |0=>rfl
 |n+1=>by
  have app:∀(x y:List AV),allSingle x=true->allSingle y=true->allSingle (x++y)=true:=by
   intro x;induction x with
   |nil=>intro y _ hy;exact hy
   |cons v r ih=>
    intro y hx hy;simp only[List.cons_append,allSingle]at hx ⊢;split at hx
    next hv=>exact ih y hx hy
    ·cases hx
  exact app _ _ h (qiw h n)
theorem qpt:∀(ns:List Int) (l:List UInt8),ns.foldl (fun r n=>r.push (UInt8.ofNat n.toNat)) (⟨l.toArray⟩ : ByteArray)=⟨(l++ns.map fun n=>UInt8.ofNat n.toNat).toArray⟩
 |[],l=>by simp
 |n::ns,l=>by
  simp only[List.foldl_cons,List.map_cons];have e:(⟨l.toArray⟩ : ByteArray).push (UInt8.ofNat n.toNat)=⟨(l++[UInt8.ofNat n.toNat]).toArray⟩:=by simp[ByteArray.push]
  rw[e,qpt ns];simp
section
variable {P:Program} {ρ:Place} {H H':Heap} {w:World}
theorem copy_run(s:Sim ρ H w) {ts:Array TypeId} {t ty elem:TypeId} (ht:ts[0]? = some t) (hd:P.underlying t=some (.slice elem))
  {x y v:AV} {x' y':Value} (h:copyA P H elem x y=some (v,H')) (hx:VR ρ x x') (hy:VR ρ y y') :
  Good ρ H w ((Builtin.copy_ ts ty #[x',y']).run P w) v H':=by
 replace h:=obs h;obtain⟨sz,hsz,h⟩:=h;replace h:=obs h;obtain⟨n,hn,h⟩:=h;have hl:=qpc (P:=P) hn hy w;have hS:=qcc hsz w;have slc:∀(b o len c:Nat) (l:Loc),ρ b=some l->((qb3 H sz (Nat.min n len) y).bind fun cs=>match allSingle cs with
   |true=>(writeCells H b o cs).bind fun H'=>some (AV.int .i64 (Nat.min n len:Nat),H')
   |false=>none)=some (v,H')->Good ρ H w ((Builtin.copy_ ts ty #[.slice (some ⟨l.cb,l.off+o,none⟩) len c,y']).run P w) v H':=fun b o len c l hl0 h=>by
  replace h:=obs h;obtain⟨cs,hcs,h⟩:=h;split at h
  next hsing=>replace h:=obs h;obtain⟨H1,hw,h⟩:=h;simp only[sj,Prod.mk.injEq]at h;obtain⟨rfl,rfl⟩:=h;obtain⟨cn,hr,hcv,_⟩:=qen (P:=P) s hcs hn (Nat.min_le_left _ _) hy;obtain⟨h1,h2,h3⟩:=qkh (P:=P) s hw hl0 hcv (hcv.oneCell hsing);exact⟨_,ρ,_,by simp[Builtin.copy_,ht,run_underlying hd,hl,hS,hr,h1,goInt],.int _ _,h2,h3⟩
  ·simp at h
 cases hx with
 |nilS=>simp only[sj,Prod.mk.injEq]at h;obtain⟨rfl,rfl⟩:=h;obtain⟨c,hc,_⟩:=qd3 (P:=P) hn hy sz w;exact Good.pure s (.int _ _) (by simp[Builtin.copy_,ht,run_underlying hd,hl,hS,hc,goInt])
 |eslc a c=>simp only[sj,Prod.mk.injEq]at h;obtain⟨rfl,rfl⟩:=h;obtain⟨cn,hc,hcn⟩:=qd3 (P:=P) hn hy sz w;exact Good.pure s (.int _ _) (by simp[Builtin.copy_,ht,run_underlying hd,hl,hS,hc,goInt,hcn,storeCells])
 |zslcN=>simp only[sj,Prod.mk.injEq]at h;obtain⟨rfl,rfl⟩:=h;obtain⟨c,hc,_⟩:=qd3 (P:=P) hn hy sz w;exact Good.pure s (.int _ _) (by simp[Builtin.copy_,ht,run_underlying hd,hl,hS,hc,goInt])
 |zslcE a=>simp only[sj,Prod.mk.injEq]at h;obtain⟨rfl,rfl⟩:=h;obtain⟨cn,hc,hcn⟩:=qd3 (P:=P) hn hy sz w;exact Good.pure s (.int _ _) (by simp[Builtin.copy_,ht,run_underlying hd,hl,hS,hc,goInt,hcn,storeCells])
 |slcE b o len c l hl0 hlen=>exact slc b o len c l hl0 h
 |slcR b o len sz' c l hl0 hlen hf=>exact slc b o len c l hl0 h
 |_=>simp at h
theorem qfz(s:Sim ρ H w) {b:Nat} {es es':List (AV × AV)} {vs:List AV} {l:Loc} {ents ents':Array MapEntry} {clock clock':Nat} (hg:H.get b=some (.map es)) (hl:ρ b=some l)
  (hw:w.heap[l.cb]? = some (.map ents clock)) (h:(H.ready b vs).set b (.map es')=some H') (hsz:ents'.size=es'.length)
  (hv:∀i (h:i < es'.length) (h':i < ents'.size),VR ρ es'[i].1 ents'[i].key/\VR ρ es'[i].2 ents'[i].val) (hbn:zd2 ents' clock') :
  (setObj l.cb (.map ents' clock')).run P w=.ok () { w with heap:=w.heap.setIfInBounds l.cb (.map ents' clock') } /\
  Sim ρ H' { w with heap:=w.heap.setIfInBounds l.cb (.map ents' clock') }/\Step ρ H w ρ H' { w with heap:=w.heap.setIfInBounds l.cb (.map ents' clock') }:=by
 obtain⟨l',hl',_,hlt,_⟩:=s.block hg;rw[hl]at hl';cases hl';obtain⟨hn,hd,hk',⟨k0,hk0⟩,hs⟩:=qkp h s.nodup;refine⟨MapKept.run_setObj_map _ hw,s.turned hk0 hl hn hd hk' hs (by simp) (fun j hj=>?_) rfl rfl rfl ?_⟩
 ·show (w.heap.setIfInBounds l.cb _)[j]? = _;rw[Array.getElem?_setIfInBounds,if_neg (fun e=>hj e.symm)]
 ·refine⟨ents',clock',?_,hsz,hv,hbn⟩;show (w.heap.setIfInBounds l.cb _)[l.cb]? = _;rw[Array.getElem?_setIfInBounds];simp[hlt]
theorem zch(s:Sim ρ H w) {ts:Array TypeId} {t ty:TypeId} (ht:ts[0]? = some t) {x:AV} {x':Value} (h:qq0 P H t x=some H') (hx:VR ρ x x') :
  Good ρ H w ((Builtin.clear_ ts ty #[x']).run P w) (.tup []) H':=by
 replace h:=obs h;obtain⟨d,hd,h⟩:=h;have unit:VR ρ (.tup []) (.tuple #[]):=.tup [] #[] rfl (fun i h=>absurd h (Nat.not_lt_zero i));have slc:∀(elem:TypeId) (b o len c:Nat) (l:Loc),d=.slice elem->ρ b=some l->((qbq P elem).bind fun z=>(qc1 P elem).bind fun sz=>match Nat.beq z.cells.length sz && allSingle z.cells with
   |true=>writeCells H b o (replL z.cells len)
   |false=>none)=some H'->Good ρ H w ((Builtin.clear_ ts ty #[.slice (some ⟨l.cb,l.off+o,none⟩) len c]).run P w) (.tup []) H':=fun elem b o len c l hde hl0 g=>by
  subst hde;replace g:=obs g;obtain⟨z,hz,g⟩:=g;replace g:=obs g;obtain⟨sz,hsz,g⟩:=g;split at g
  ·rename_i hc;simp only[Bool.and_eq_true]at hc;obtain⟨zv,rfl,hzr,_⟩:=qel hz;have hzl:=Nat.eq_of_beq_eq_true hc.1;have hzs:zv.cells.size=sz:=(by have:=(VRs.const (ρ:=ρ) zv).1;simp at this;omega);have hzv:=qkf (ρ:=ρ) (n:=len) hzl hzs;obtain⟨h1,h2,h3⟩:=qkh (P:=P) s g hl0 hzv (hzv.oneCell (qiw hc.2 len));have hzc:(Builtin.zeroCells zv.cells len).toList=((Array.range (len * sz)).map fun i=>zv.cells[i % zv.cells.size]!).toList:=(by simp[Builtin.zeroCells,hzs]);cases len with
   |zero=>
    refine⟨.tuple #[],ρ,w,by simp[Builtin.clear_,ht,run_underlying hd],unit,?_,?_⟩
    ·simpa[World.setCells]using h2
    ·simpa[World.setCells]using h3
   |succ len=>rw[<- hzc]at h1 h2 h3;refine⟨_,ρ,_,?_,unit,h2,h3⟩;simp[Builtin.clear_,ht,run_underlying hd,hzr,h1]
  ·simp at g
 cases hx with
 |nilS=>
  have:H'=H:=by cases d<;>simpa using h.symm
  subst this;exact Good.pure s unit (by cases d<;>simp[Builtin.clear_,ht,run_underlying hd])
 |eslc a c=>
  have:H'=H:=by cases d<;>simpa using h.symm
  subst this;exact Good.pure s unit (by cases d<;>simp[Builtin.clear_,ht,run_underlying hd])
 |zslcN=>
  have:H'=H:=by cases d<;>simpa using h.symm
  subst this;exact Good.pure s unit (by cases d<;>simp[Builtin.clear_,ht,run_underlying hd])
 |zslcE a=>
  have:H'=H:=by cases d<;>simpa using h.symm
  subst this;exact Good.pure s unit (by cases d<;>simp[Builtin.clear_,ht,run_underlying hd])
 |nilM=>
  have:H'=H:=by cases d<;>simpa using h.symm
  subst this;exact Good.pure s unit (by cases d<;>simp[Builtin.clear_,ht,run_underlying hd])
 |slcE b o len c l hl0 hlen=>cases d<;>first|exact slc _ b o len c l rfl hl0 h|simp at h
 |slcR b o len sz' c l hl0 hlen hf=>cases d<;>first|exact slc _ b o len c l rfl hl0 h|simp at h
 |map b l hl0=>
  cases d<;>try (simp at h;done)
  case map k e=>
  replace h:=obs h;obtain⟨k,hk,h⟩:=h;cases k with
  |map es=>obtain⟨l',hl',_,_,hr⟩:=s.block hk;rw[hl0]at hl';cases hl';obtain⟨ents,clock,hw,_,_⟩:=hr;obtain⟨h1,h2,h3⟩:=qfz (P:=P) (vs:=[]) (ents':=#[]) (clock':=clock) s hk hl0 hw h rfl (fun i h=>absurd h (Nat.not_lt_zero i)) (by simp[zd2]);exact⟨_,ρ,_,by simp[Builtin.clear_,ht,run_underlying hd,MapKept.run_getObj_map hw,h1],unit,h2,h3⟩
  |_=>simp at h
 |_=>cases d<;>simp at h
theorem msB_run{t:TypeId} {l c:AV} {k:(Nat->AV) × Blk} {l' c':Value} (h:msB P t l c=some k) (hl:VR ρ l l') (hc:VR ρ c c') :
  ∃(ob:Obj) (fin:Nat) (x:Value),(Instr.makeSlice t l' c').run P w=.ok x (w.alloc ob)/\∀n,ρ n=none ->
   VR (ρ.upd n ⟨w.heap.size,0,fin⟩) (k.1 n) x/\BlkR (ρ.upd n ⟨w.heap.size,0,fin⟩) (w.alloc ob) ⟨w.heap.size,0,fin⟩ k.2:=by
 unfold msB at h;replace h:=obs h;obtain⟨d,hd,h⟩:=h;cases d with
 |slice elem=>
  replace h:=obs h;obtain⟨sz,hsz,h⟩:=h;replace h:=obs h;obtain⟨by_,hby,h⟩:=h;split at h
  ·rename_i ci li;cases hl;cases hc;replace h:=obs h;obtain⟨c,hci,h⟩:=h;replace h:=obs h;obtain⟨l,hli,h⟩:=h;obtain⟨rfl,hclt⟩:=qcw hci;obtain⟨rfl,hllt⟩:=qcw hli;split at h
   ·rename_i hroom;have hroom:=Nat.le_of_ble_eq_true hroom;replace h:=obs h;obtain⟨z,hz,h⟩:=h;obtain⟨zv,rfl,hzr,_⟩:=qel hz;split at h
    ·rename_i hzl;have hzl:=Nat.eq_of_beq_eq_true hzl;simp only[sj]at h;subst h;have hzs:zv.cells.size=sz:=(by have:=(VRs.const (ρ:=ρ) zv).1;simp at this;omega);have hzv:=qkf (ρ:=ρ) (n:=c) hzl hzs;obtain⟨ti,hti,rfl⟩:=qm5 hby;have hwl:IntKind.i64.wrap (l:Int)=l:=IntWalk.i64_in _ (by omega);have hwc:IntKind.i64.wrap (c:Int)=c:=IntWalk.i64_in _ (by omega);have hcast:((ti.bytes:Int) * (c:Int))=((c * ti.bytes:Nat):Int):=(by rw[Nat.mul_comm];simp);have hA:¬ (281474976710656 < (ti.bytes:Int) * (c:Int)):=(by rw[hcast];omega);have hB':¬ c < l:=(by omega);have hS:=qcc hsz w;have hc0:¬ ((c:Nat):Int) < 0:=(by omega);have hl0:¬ ((l:Nat):Int) < 0:=(by omega);refine⟨.cells ((Array.range (c * sz)).map fun i=>zv.cells[i % zv.cells.size]!) elem,((Array.range (c * sz)).map fun i=>zv.cells[i % zv.cells.size]!).size,.slice (some ⟨w.heap.size,0,none⟩) l c,?_,fun m hm=>⟨.slcE m 0 l c _ Place.upd_same (by omega),
      qoq (by rw[<- hzv.1];simp) (fun i h h'=>(hzv.2 i h (by simpa using h')).mono (Place.le_upd hm)) (fun i _=>by simp)⟩⟩
     by_cases h0:c * sz=0
     ·simp[Instr.makeSlice,run_underlying hd,asInt,asIntOf,hti,hwl,hwc,hA,hB',hc0,hl0,hS,h0,newRow,newObj,Sem.run];have e0:∀f:Nat->Value,(Array.range 0).map f = #[]:=fun f=>(by apply Array.ext';simp);rw[e0,e0]
     ·simp[Instr.makeSlice,run_underlying hd,asInt,asIntOf,hti,hwl,hwc,hA,hB',hc0,hl0,hS,h0,hzr,newRow,newObj,Sem.run]
    ·simp at h
   ·simp at h
  ·simp at h
 |_=>simp at h
theorem qoo:∀{cs:List AV} {st:List UInt8} {xs:List Value},qm6 cs=some st->VRs ρ cs xs->∃ns:List Int,xs=ns.map (Value.int .u8)/\st=ns.map fun n=>UInt8.ofNat n.toNat
 |[],st,xs,h,hv=>by
  simp only[qm6,sj]at h;subst h;cases xs with
  |nil=>exact⟨[],rfl,rfl⟩
  |cons _ _=>have:=hv.1;simp at this
 |v::r,st,xs,h,hv=>by
  replace h:=obs h;obtain⟨c,hc,h⟩:=h;replace h:=obs h;obtain⟨rs,hrs,h⟩:=h;simp only[sj]at h;subst h;cases xs with
  |nil=>have:=hv.1;simp at this
  |cons x xs=>
   obtain⟨ns,rfl,rfl⟩:=qoo hrs hv.tail;have hh:=hv.head;unfold qva at hc;split at hc
   next n=>cases hh;simp only[sj]at hc;subst hc;exact⟨n::ns,rfl,rfl⟩
   ·simp at hc
theorem conv_run(s:Sim ρ H w) {src dst:TypeId} {x v:AV} {x':Value} (h:qrk P H src dst x=some (v,H')) (hx:VR ρ x x') :
  Good ρ H w ((convert src dst x').run P w) v H':=by
 replace h:=obs h;obtain⟨sd,hsd,h⟩:=h;replace h:=obs h;obtain⟨dd,hdd,h⟩:=h;split at h
 ·cases hx;simp only[sj,Prod.mk.injEq]at h;obtain⟨rfl,rfl⟩:=h;exact Good.pure s (.int _ _) (by simp[convert,run_underlying hsd,run_underlying hdd,Conv.intToInt])
 ·cases hx;simp only[sj,Prod.mk.injEq]at h;obtain⟨rfl,rfl⟩:=h;exact Good.pure s (.str _) (by simp[convert,run_underlying hsd,run_underlying hdd,Conv.intToString])
 ·cases hx;simp only[sj,Prod.mk.injEq]at h;obtain⟨rfl,rfl⟩:=h;exact Good.pure s (.str _) (by cases sd<;>simp[convert,run_underlying hsd,run_underlying hdd])
 ·rename_i e st;cases hx;replace h:=obs h;obtain⟨ed,hed,h⟩:=h;split at h
  ·split at h
   ·rename_i hroom;simp only[sj,Prod.mk.injEq]at h;obtain⟨rfl,rfl⟩:=h;have hrun:=run_bytes_of_string (P:=P) w src dst e ⟨st.toArray⟩ hsd hdd hed;have hcap:st.length<=grownCap w (⟨st.toArray⟩ : ByteArray).size 0 e:=(by rw[qdl];simp[grownCap,Question.cut]);have hcap63:grownCap w (⟨st.toArray⟩ : ByteArray).size 0 e<=9223372036854775807:=qxd (by rw[qdl];have:=Nat.le_of_ble_eq_true hroom;omega);generalize hgc:grownCap w (⟨st.toArray⟩ : ByteArray).size 0 e=cap at hrun hcap hcap63;have hrow:(bytesRow ⟨st.toArray⟩ cap).size=cap:=(by simp[bytesRow,qdl];omega);have hle:ρ.le (ρ.upd H.n ⟨w.heap.size,0,(bytesRow ⟨st.toArray⟩ cap).size⟩):=Place.le_upd (s.dom _ (Nat.le_refl _));obtain⟨g1,g2⟩:=s.drew.new (.cells (bytesRow ⟨st.toArray⟩ cap) e ((bytesRow ⟨st.toArray⟩ cap).size,(bytesRow ⟨st.toArray⟩ cap).size+1)) (bytesRow ⟨st.toArray⟩ cap).size (.cells (qck st))
     (qoq (by rw[qcx,hrow];exact hcap) (fun i h1 h2=>by rw[qka];rw[qcx]at h1;have:(bytesRow ⟨st.toArray⟩ cap)[i]? = some (.int .u8 (st[i].toNat:Int)):=(by have:=bytesRow_at ⟨st.toArray⟩ cap i (by simpa using h1);simpa using this);rw[Array.getElem?_eq_getElem h2]at this;simp only[sj]at this;rw[this];exact .int _ _) (fun i hi=>by simp;omega))
    refine⟨_,_,_,hrun,?_,g1,(Step.drew _ _ _).trans g2⟩;rw[qdl];exact .slcR H.n 0 st.length 1 cap ⟨w.heap.size,0,(bytesRow ⟨st.toArray⟩ cap).size⟩ Place.upd_same hcap ⟨by simp[hrow],hcap63⟩
   ·simp at h
  ·simp at h
 ·rename_i e hne;replace h:=obs h;obtain⟨ed,hed,h⟩:=h;split at h
  ·replace h:=obs h;obtain⟨n,hn,h⟩:=h;replace h:=obs h;obtain⟨cs,hcs,h⟩:=h;replace h:=obs h;obtain⟨st,hst,h⟩:=h;simp only[sj,Prod.mk.injEq]at h;obtain⟨rfl,rfl⟩:=h;obtain⟨cn,hr,hcv,_⟩:=qen (P:=P) s hcs hn (Nat.le_refl _) hx;obtain⟨ns,hns,rfl⟩:=qoo hst hcv;have some_:∀(a:Addr) (c:Nat),x'=.slice (some a) n c->Good ρ H w ((convert src dst x').run P w) (.str (ns.map fun n=>UInt8.ofNat n.toNat)) H:=fun a c hxe=>(by subst hxe;refine Good.pure s (.str _) ?_;rw[run_convert_bytes_string w src dst e (some a) n c hsd hed hdd];have hload:(loadCells a n).run P w=.ok (ns.map (Value.int .u8)).toArray w:=(by simp only[Builtin.firstCells,Nat.mul_one]at hr;rw[hr,<- hns,Array.toArray_toList]);have:=run_bytesToString (P:=P) w a n c ns hload;rw[this];have e0:ByteArray.empty=(⟨([]:List UInt8).toArray⟩ : ByteArray):=rfl;rw[e0,qpt];simp);cases hx with
   |nilS=>simp only[qc3,sj]at hn;subst hn;simp only[Builtin.firstCells,Sem.run_pure,Result.ok.injEq,and_true]at hr;subst hr;have:ns=[]:=(by simpa using hns.symm);subst this;exact Good.pure s (.str []) (by rw[run_convert_bytes_string w src dst e none 0 0 hsd hed hdd];rfl)
   |fnil sz=>have hn:0=n:=(by simpa[qc3]using hn);subst hn;simp only[Builtin.firstCells,Sem.run_pure,Result.ok.injEq,and_true]at hr;subst hr;have:ns=[]:=(by simpa using hns.symm);subst this;exact Good.pure s (.str []) (by rw[run_convert_bytes_string w src dst e none 0 0 hsd hed hdd];rfl)
   |fnone sz a c=>have hn:0=n:=(by simpa[qc3]using hn);subst hn;exact some_ _ _ rfl
   |zslcN=>have hn:0=n:=(by simpa[qc3]using hn);subst hn;simp only[Builtin.firstCells,Sem.run_pure,Result.ok.injEq,and_true]at hr;subst hr;have:ns=[]:=(by simpa using hns.symm);subst this;exact Good.pure s (.str []) (by rw[run_convert_bytes_string w src dst e none 0 0 hsd hed hdd];rfl)
   |zslcE a=>have hn:0=n:=(by simpa[qc3]using hn);subst hn;exact some_ _ _ rfl
   |eslc a c=>simp only[qc3,sj]at hn;subst hn;exact some_ _ _ rfl
   |slcE b o len c l hl0 hlen=>simp only[qc3,sj]at hn;subst hn;exact some_ _ _ rfl
   |slcR b o len sz' c l hl0 hlen hf=>simp only[qc3,sj]at hn;subst hn;exact some_ _ _ rfl
   |fslc sz es cb off cap vs hB hcap hz hc hv=>simp only[qc3,sj]at hn;subst hn;exact some_ _ _ rfl
   |str st=>exact(hne st rfl).elim
   |_=>simp[qc3]at hn
  ·simp at h
 ·rename_i u b o;replace h:=obs h;obtain⟨n,hn,h⟩:=h;replace h:=obs h;obtain⟨k,hk,h⟩:=h;replace h:=obs h;obtain⟨cs,hrd,h⟩:=h;split at h
  ·rename_i hc;simp only[Bool.and_eq_true]at hc;have hn0:0 < n:=Nat.le_of_ble_eq_true hc.1;have hlt:o < cs.length:=Nat.le_of_ble_eq_true hc.2;simp only[sj,Prod.mk.injEq]at h;obtain⟨rfl,rfl⟩:=h;cases hx with
   |ptr _ _ l hl=>
    obtain⟨l',hl',_,_,hr0⟩:=s.block hk;rw[hl]at hl';cases hl';have hr:=hr0.rdR hrd;obtain⟨j,hj,rfl⟩:=qgy hn;obtain⟨x,hx,_⟩:=hr.2.2 o hlt;have hrow:∃c e fr,w.heap[l.cb]? = some (.cells c e fr)/\l.off+o < c.size:=by
     unfold World.cell? at hx;split at hx
     ·rename_i c e fr he;simp only at he;refine⟨c,e,fr,he,?_⟩;by_cases hlt2:l.off+o < c.size
      ·exact hlt2
      ·have hz:c.size<=l.off+o:=(by omega);simp[hz]at hx
     ·simp at hx
    obtain⟨c,e,fr,he,hoff⟩:=hrow;exact Good.pure s (.ptr _ _ l hl) (Lib.run_to_unsafe (P:=P) w ⟨l.cb,l.off+o,none⟩ hsd hdd hj (by omega) (e:=e) (by simp only[World.shape?,he]) hoff)
  ·simp at h
 ·rename_i u b o;replace h:=obs h;obtain⟨n,hn,h⟩:=h;replace h:=obs h;obtain⟨k,hk,h⟩:=h;split at h
  ·rename_i t cs;split at h
   ·rename_i hlies;simp only[sj,Prod.mk.injEq]at h;obtain⟨rfl,rfl⟩:=h;cases hx with
    |ptr _ _ l hl=>obtain⟨l',hl',_,_,hr0⟩:=s.block hk;rw[hl]at hl';cases hl';obtain⟨_,h0,hsh⟩:=hr0;obtain⟨j,hj,_⟩:=qgy hn;exact Good.pure s (.ptr _ _ l hl) (Lib.run_from_unsafe (P:=P) w ⟨l.cb,l.off+o,none⟩ hsd hdd hj hsh (by simpa only[h0,Nat.zero_add]using hlies))
   ·simp at h
  ·simp at h
 ·simp at h
end
section
variable {P:Program} {ρ:Place} {H H':Heap} {w:World}
theorem zb6{t:TypeId} {d:TypeDesc} {a b:AV} {q:Bool} {a' b':Value} (h:qt2 P t d a b=some q) (hd:P.underlying t=some d) (ha:VR ρ a a') (hb:VR ρ b b') :
  (∀w,(Op.equal t a' b').run P w=.ok q w)/\(qhs d=true->Instr.sameNow d a' b'=some q)/\(qhs d=false->∃fs,d=.struct fs):=by
 unfold qt2 at h;split at h
 ·rename_i hp;refine⟨fun w=>qlz h ha hb hd 9999 w,fun _=>?_,fun hf=>by rw[hp]at hf;cases hf⟩;unfold qih at h;split at h<;>first|contradiction|skip
  all_goals (try (simp[qhs]at hp;done))
  ·cases ha;cases hb;exact h
  ·cases ha;cases hb;simp only[Instr.sameNow];exact h
  ·cases ha;cases hb;simp only[Instr.sameNow,qtp];exact h
 ·rename_i hp;split at h
  next fs=>exact⟨fun w=>(zc2 h ha hb w).1,fun hf=>(by rw[hp]at hf;cases hf),fun _=>⟨fs,rfl⟩⟩
  ·simp at h
theorem qon{xs:List AV} {xs':Array Value} (hx:VRs ρ xs xs'.toList) (empty:Bool) (n:Nat) (w:World):∀{fs:List Field},eqFields P fs xs xs=some true ->
  (forIn fs PUnit.unit (fun f _=>
   if f.name ≠ "_" then do
    let a <- part f.type xs' f.offset
    Instr.checkKey empty (n+1) f.type a
    pure (ForInStep.yield PUnit.unit)
   else pure (ForInStep.yield PUnit.unit)):Sem PUnit).run P w=.ok PUnit.unit w
 |[],_=>rfl
 |f::fs,h=>by
  unfold eqFields at h;split at h
  ·simp at h
  ·rename_i hne
   have hne : f.name ≠ "_" := by simpa using hne
   replace h:=obs h;obtain⟨d,hd,h⟩:=h;split at h
   ·simp at h
   ·rename_i hpl;replace h:=obs h;obtain⟨x,hxx,h⟩:=h;replace h:=obs h;obtain⟨y,hyy,h⟩:=h;replace h:=obs h;obtain⟨e,he,h⟩:=h;have hag:qgc P f.type=some false:=by unfold qgc;rw[hd];cases d<;>first|rfl|simp[qhs]at hpl
    obtain⟨x',hx1,hx2⟩:=qkv (P:=P) (t:=f.type) (off:=f.offset) (v:=x) (by simp[qy9,hag,hxx]) hx w;have hck:(Instr.checkKey empty (n+1) f.type x').run P w=.ok () w:=by unfold Instr.checkKey;simp only[Sem.run_bind,run_underlying hd,Result.andThen_ok];cases d<;>first|rfl|simp[qhs]at hpl
    cases e with
    |true=>have ih:=qon hx empty n w h;simp only[List.forIn_cons,hne,ne_eq,not_false_eq_true,if_true,Sem.run_bind,hx1,hck,Result.andThen_ok,Sem.run_pure];exact ih
    |false=>simp at h
theorem qis{t:TypeId} {d:TypeDesc} {k:AV} {k':Value} (h:qt1 P t d k=some ()) (hd:P.underlying t=some d) (hk:VR ρ k k') (empty:Bool) (n:Nat) (w:World) :
  (Instr.checkKey empty (n+2) t k').run P w=.ok () w:=by
 replace h:=obs h;obtain⟨q,hq,h⟩:=h;split at h
 ·unfold qt2 at hq;split at hq
  next hp=>unfold Instr.checkKey;simp only[Sem.run_bind,run_underlying hd,Result.andThen_ok];cases d<;>first|rfl|simp[qhs]at hp
  ·split at hq
   ·rename_i fs;replace hq:=obs hq;obtain⟨d2,hd2,hq⟩:=hq;rw[hd]at hd2;cases hd2;cases hk<;>simp only at hq
    case agg cs vs hl hv=>
     split at hq
     ·have:=qon (qkb hl hv) empty n w hq;unfold Instr.checkKey;simp only[Sem.run_bind,run_underlying hd,Result.andThen_ok];rw[<- Array.forIn_toList,this];rfl
     ·simp at hq
    all_goals (unfold qih at hq;simp at hq)
   ·simp at hq
 ·simp at h
def EntR(ρ:Place) (es:List (AV × AV)) (l:List MapEntry):Prop:=l.length=es.length/\∀i (h:i < es.length) (h':i < l.length),VR ρ es[i].1 l[i].key/\VR ρ es[i].2 l[i].val
theorem EntR.tail{e:AV × AV} {es:List (AV × AV)} {x:MapEntry} {l:List MapEntry} (h:EntR ρ (e::es) (x::l)):EntR ρ es l:=
 ⟨by simpa using h.1,fun i h1 h2=>h.2 (i+1) (by simpa using h1) (by simpa using h2)⟩
theorem zah{t:TypeId} {d:TypeDesc} {k:AV} {k':Value} (hd:P.underlying t=some d) (hk:VR ρ k k') (w:World) :
  ∀{es:List (AV × AV)} {l:List MapEntry} {i:Nat} {r:Option Nat},posA P t d k i es=some r->EntR ρ es l ->
   (qhs d=true->Instr.findNow d k' l i=some (r.bind fun j=>(l[j - i]?).map fun e=>(j,e.val))) /\
   (Instr.findAsking t k' l i).run P w=.ok (r.bind fun j=>(l[j - i]?).map fun e=>(j,e.val)) w/\∀j,r=some j->i<=j/\j - i < l.length
 |[],l,i,r,h,he=>by
  simp only[posA,sj]at h;subst h;cases l with
  |nil=>exact⟨fun _=>rfl,rfl,fun j e=>by cases e⟩
  |cons _ _=>have:=he.1;simp at this
 |e::es,l,i,r,h,he=>by
  cases l with
  |nil=>have:=he.1;simp at this
  |cons x l=>
   replace h:=obs h;obtain⟨q,hq,h⟩:=h;obtain⟨h1,h2,_⟩:=zb6 hq hd hk (he.2 0 (by simp) (by simp)).1;simp only[List.getElem_cons_zero]at h1 h2;cases q with
   |true=>
    simp only[sj]at h;subst h;refine⟨fun hp=>?_,?_,fun j e=>by cases e;simp⟩
    ·simp[Instr.findNow,h2 hp]
    ·simp[Instr.findAsking,h1]
   |false=>
    simp only at h;obtain⟨g1,g2,g3⟩:=zah hd hk w h he.tail;have hsh:(r.bind fun j=>(l[j - (i+1)]?).map fun e=>(j,e.val))=(r.bind fun j=>((x::l)[j - i]?).map fun e=>(j,e.val)):=by
     cases r with
     |none=>rfl
     |some j=>have:=(g3 j rfl).1;simp only[Option.bind_some];rw[show j - i=(j - (i+1))+1 by omega];simp
    refine⟨fun hp=>?_,?_,fun j e=>?_⟩
    ·rw[<- hsh];simp only[Instr.findNow,h2 hp];exact g1 hp
    ·rw[<- hsh];simp only[Instr.findAsking,Sem.run_bind,h1,Result.andThen_ok];exact g2
    ·obtain⟨a,b⟩:=g3 j e;simp only[List.length_cons];omega
theorem qra{t:TypeId} {d:TypeDesc} {k:AV} {k':Value} (hd:P.underlying t=some d) (hk:VR ρ k k') (hok:qt1 P t d k=some ()) (w:World) {es:List (AV × AV)} {l:List MapEntry} {r:Option Nat}
  (h:posA P t d k 0 es=some r) (he:EntR ρ es l):(Instr.findKey t k' l).run P w=.ok (r.bind fun j=>(l[j]?).map fun e=>(j,e.val)) w/\∀j,r=some j->j < l.length:=by
 obtain⟨h1,h2,h3⟩:=zah hd hk w h he;simp only[Nat.sub_zero]at h1 h2 h3;refine⟨?_,fun j e=>(h3 j e).2⟩;cases hp:qhs d with
 |true=>exact MapKept.run_findKey hd (h1 hp)
 |false=>
  have:∃fs,d=.struct fs:=by unfold qt1 qt2 at hok;rw[hp]at hok;cases d<;>simp at hok;exact⟨_,rfl⟩
  obtain⟨fs,rfl⟩:=this;cases l with
  |nil=>
   cases es with
   |nil=>simp only[posA,sj]at h;subst h;simp[Instr.findKey,run_underlying hd,Instr.findNow]
   |cons _ _=>have:=he.1;simp at this
  |cons x l=>have hn:Instr.findNow (.struct fs) k' (x::l) 0=none:=(by simp[Instr.findNow,Instr.sameNow]);simp only[Instr.findKey,Sem.run_bind,run_underlying hd,Result.andThen_ok,hn];exact h2
theorem zco{ents:Array MapEntry} {clock:Nat} {k v:Value} (h:zd2 ents clock):zd2 (ents.push { key:=k,val:=v,born:=clock }) (clock+1):=by
 obtain⟨h1,h2⟩:=h;refine⟨?_,fun x hx=>?_⟩
 ·rw[Array.toList_push,List.map_append,List.nodup_append];refine⟨h1,by simp,fun a ha b hb=>?_⟩;simp at hb;obtain⟨x,hx,rfl⟩:=List.mem_map.1 ha;have:=h2 x hx;omega
 ·rw[Array.toList_push]at hx;rcases List.mem_append.1 hx with hx|hx
  ·have:=h2 x hx;omega
  ·simp at hx;subst hx;simp
theorem qvd{ents:Array MapEntry} {clock i:Nat} {k v:Value} (h:zd2 ents clock):zd2 (ents.modify i fun e=>{ e with key:=k,val:=v }) clock:=by
 obtain⟨h1,h2⟩:=h;have e:(ents.modify i fun e=>{ e with key:=k,val:=v }).toList.map (·.born)=ents.toList.map (·.born):=by
  apply List.ext_getElem
  ·simp
  ·intro j g1 g2;simp only[List.getElem_map,Array.getElem_toList,Array.getElem_modify];split<;>rfl
 refine⟨by rw[e];exact h1,fun x hx=>?_⟩;have:x.born∈(ents.modify i fun e=>{ e with key:=k,val:=v }).toList.map (·.born):=List.mem_map.2 ⟨x,hx,rfl⟩;rw[e]at this;obtain⟨y,hy,hyx⟩:=List.mem_map.1 this;have:=h2 y hy;omega
theorem qyt{ents:Array MapEntry} {clock i:Nat} (h:zd2 ents clock):zd2 (ents.eraseIdxIfInBounds i) clock:=by
 obtain⟨h1,h2⟩:=h;have hs:(ents.eraseIdxIfInBounds i).toList.Sublist ents.toList:=by
  unfold Array.eraseIdxIfInBounds;split
  ·rw[Array.toList_eraseIdx];exact List.eraseIdx_sublist _ _
  ·exact List.Sublist.refl _
 exact⟨(hs.map _).nodup h1,fun x hx=>h2 x (hs.subset hx)⟩
theorem VR.plain{ρ ρ':Place} {v:AV} {x:Value} (r:VR ρ v x) (h:qyu v=true):VR ρ' v x:=by cases r<;>first|(simp[qyu]at h;done)|constructor
theorem qtu:∀{es:List (AV × AV)},zcr es=true->∀i (h:i < es.length),qyu es[i].1=true/\qyu es[i].2=true
 |[],_,i,h=>absurd h (Nat.not_lt_zero i)
 |e::r,h,i,hi=>by
  unfold zcr at h;split at h
  ·rename_i hb;simp only[Bool.and_eq_true]at hb;cases i with
   |zero=>exact hb
   |succ i=>exact qtu h i (by simpa using hi)
  ·cases h
def Place.cold(ρ:Place) (w:World) (c:Nat) (hw:∀k,ρ.B k->w.heap[k]? = ρ.W.heap[k]?):Place:=
 ⟨ρ.at_,w,fun k=>ρ.B k\/k=c,
  fun g hg=>⟨.inl (ρ.gl g hg).1,let ⟨m,hm⟩:=(ρ.gl g hg).2;⟨m,by rw[World.cell?,hw g (ρ.gl g hg).1];exact hm⟩⟩,
  fun g hg=>⟨.inl (ρ.gi g hg).1,let ⟨v,hm,hv⟩:=(ρ.gi g hg).2;⟨v,by rw[World.cell?,hw g (ρ.gi g hg).1];exact hm,hv⟩⟩,
  fun x hx=>⟨.inl (ρ.gp x hx).1,fun i n hi=>by rw[World.cell?,hw x.1 (ρ.gp x hx).1];exact(ρ.gp x hx).2 i n hi⟩,
  fun x hx=>⟨.inl (ρ.gx x hx).1,let ⟨t,fz,h⟩:=(ρ.gx x hx).2;⟨t,fz,(hw x.1 (ρ.gx x hx).1).trans h⟩⟩⟩
theorem Sim.cold_le(s:Sim ρ H w) (c:Nat):ρ.le (ρ.cold w c s.below):=⟨fun _ _ h=>h,fun k hk=>⟨.inl hk,s.below k hk⟩,s.os,s.tape,s.output⟩
theorem qwr{b:Nat}:∀{f:List (Nat × Blk)},(f.map (·.1)).Nodup->∀e,e∈killF b f->e.1≠b
 |[],_,e,he=>by cases he
 |x::r,hn,e,he=>by
  rw[List.map_cons,List.nodup_cons]at hn;unfold killF at he;split at he
  next hb=>have hb:=Nat.eq_of_beq_eq_true hb;intro h;exact hn.1 (List.mem_map.2 ⟨e,he,by rw[h,hb]⟩)
  ·rename_i hb;rcases List.mem_cons.1 he with rfl|he
   ·intro h;rw[h,Nat.beq_refl]at hb;cases hb
   ·exact qwr hn.2 e he
theorem zbp{b:Nat}:∀{f:List (Nat × Blk)},getF b f=none->∀e,e∈f->e.1≠b
 |[],_,e,he=>by cases he
 |x::r,h,e,he=>by
  unfold getF at h;split at h
  ·cases h
  ·rename_i hb;rcases List.mem_cons.1 he with rfl|he
   ·intro h2;rw[h2,Nat.beq_refl]at hb;cases hb
   ·exact zbp h e he
theorem qt0{b:Nat}:∀{fs:List (List (Nat × Blk))},(fs.flatten.map (·.1)).Nodup->∀e,e∈(qeo b fs).flatten->e.1≠b
 |[],_,e,he=>by simp[qeo]at he
 |f::r,hn,e,he=>by
  rw[List.flatten_cons,List.map_append,List.nodup_append]at hn;unfold qeo at he;split at he
  ·rename_i k hk;rw[List.flatten_cons,List.mem_append]at he;rcases he with he|he
   ·exact qwr hn.1 e he
   ·intro h;have:=hn.2.2 b (List.mem_map.2 ⟨(b,k),qr7 hk,rfl⟩) e.1 (List.mem_map.2 ⟨e,he,rfl⟩);exact this h.symm
  ·rename_i hk;rw[List.flatten_cons,List.mem_append]at he;rcases he with he|he
   ·exact zbp hk e he
   ·exact qt0 hn.2.1 e he
theorem drop_ne{H:Heap} {b:Nat} (hn:(H.ents.map (·.1)).Nodup) {e:Nat × Blk} (he:e∈(H.drop b).ents):e.1≠b:=qt0 hn e he
theorem Sim.ranged(s:Sim ρ H w) {b:Nat} {es:List (AV × AV)} {l:Loc} (hk:H.get b=some (.map es)) (hl:ρ b=some l) (hb:zcr es=true) :
  ∃(w1:World) (ρ1:Place),VR ρ1 (.ptr H.n 0) (.pointer (some ⟨w.heap.size,0,none⟩))/\Sim ρ1 ((H.drop b).new (.rng es none)) w1/\Step ρ H w ρ1 ((H.drop b).new (.rng es none)) w1 /\
   ∀t k e (_:Unit),P.underlying t=some (.map k e)->(Instr.range t (.map (some l.cb))).run P w=.ok (.pointer (some ⟨w.heap.size,0,none⟩)) w1:=by
 obtain⟨l',hl',hnB,hlt,ents,clock,hw,hsz,hv,hbn⟩:=s.block hk;rw[hl]at hl';cases hl';obtain⟨s1,t1⟩:=s.dropped b;have hlive:=s.live;have hmem:(b,Blk.map es)∈H.ents:=Heap.get_mem hk;have hsub:∀e,e∈(H.drop b).ents->e∈H.ents/\e.1≠b:=fun e he=>⟨(qls b H.fs).subset he,drop_ne s.nodup he⟩;have hoff:∀e,e∈(H.drop b).ents->∀l2,ρ e.1=some l2->l2.cb≠l.cb:=fun e he l2 hl2 hcb=>by obtain⟨h1,h2⟩:=hsub e he;exact h2 (s.inj e (b,.map es) h1 hmem l2 l hl2 hl hcb)
 have hle:=s.cold_le l.cb;have s2:Sim (ρ.cold w l.cb s.below) (H.drop b) w:={
  base:=fun k hk=>by
   rcases hk with hk|rfl
   ·exact s.base k hk
   ·exact hlt
  below:=fun _ _=>rfl
  os:=rfl
  tape:=rfl
  output:=rfl
  dom:=s1.dom
  nodup:=s1.nodup
  live:=fun e he=>by
   obtain⟨l2,g1,g2,g3,g4⟩:=s1.live e he;refine⟨l2,g1,?_,g3,g4.mono hle⟩;rintro(h|h)
   ·exact g2 h
   ·exact hoff e he l2 g1 h
  inj:=s1.inj }
 have t2:Step ρ H w (ρ.cold w l.cb s.below) (H.drop b) w:={
  le:=hle
  size:=Nat.le_refl _
  keeps:=fun _ _ _=>rfl
  rows:=fun e he l2 h=>.inl ⟨e,(hsub e he).1,l2,h,rfl⟩
  num:=t1.num
  low:=fun _ _=>rfl
  cold:=fun k hk=>by
   rcases hk with hk|rfl
   ·exact .inl hk
   ·exact .inr (.inl ⟨_,hmem,l,hl,rfl⟩) }
 have hleft:leftOf ents #[]=ents:=by unfold leftOf;exact Array.filter_eq_self.2 fun x _=>by simp
 obtain⟨g1,g2⟩:=s2.new (.mapIter (some l.cb) clock #[] clock) 0 (.rng es none) ⟨rfl,⟨l.cb,ents,clock,clock,#[],clock⟩,.inr rfl,hw,⟨hbn.1,hbn.2,Nat.le_refl _,rfl⟩,by show (w.heap.push _)[w.heap.size]? = _;simp,⟨⟨by simp[hleft,hsz],fun i a c=>by have hi:i < ents.size:=(by omega);have hx:=hv i a hi;have hp:=qtu hb i a;simp only[hleft,Array.getElem_toList];exact⟨hx.1.plain hp.1,hx.2.plain hp.2⟩⟩,fun e he=>by cases he⟩⟩;have hn:(H.drop b).n=H.n:=rfl;refine⟨_,_,?_,g1,t2.trans g2,fun t k e _ ht=>run_range_map w t k e l.cb ents clock ht hw⟩;exact .ptr H.n 0 _ Place.upd_same
theorem zc3{l cbm since c0 clock:Nat} {seen sn:Array Nat} {ents:Array MapEntry} {y:MapEntry} (h1:w.heap[l]? = some (.mapIter (some cbm) since seen c0)) (h2:w.heap[cbm]? = some (.map ents clock)) (hy:y∈ents.toList) (hs:seen=sn.push y.born) (hn:(ents.toList.map (·.born)).Nodup) (hc:c0=clock) :
  (Instr.entry (.pointer (some ⟨l,0,none⟩))).run P w=.ok (.tuple #[y.key,y.val]) w:=by
 have hf:ents.find? (·.born == y.born)=some y:=by rw[<- Array.find?_toList];exact find_born y ents.toList hn hy
 subst hs hc;simp only[Instr.entry,getObj,Sem.run_bind,Sem.run,h1,h2,Result.andThen,Array.back?_push,bne_self_eq_false,Bool.false_eq_true,if_false,hf];rfl
theorem Sim.mapAt(s:Sim ρ H w) {b:Nat} {es:List (AV × AV)} {l:Loc} (h:H.get b=some (.map es)) (hl:ρ b=some l) :
  ∃(ents:Array MapEntry) (clock:Nat),w.heap[l.cb]? = some (.map ents clock)/\EntR ρ es ents.toList/\zd2 ents clock:=by
 obtain⟨l',hl',_,_,ents,clock,h1,h2,h3,h4⟩:=s.block h;rw[hl]at hl';cases hl';exact⟨ents,clock,h1,⟨by simpa using h2,fun i a b=>h3 i a (by simpa using b)⟩,h4⟩
def two(ok:Bool) (x:AV) (b:Bool):AV:=match ok with
 |true=>.tup [x,.bool b]
 |false=>x
theorem qyc(s:Sim ρ H w) {t:TypeId} {m k v:AV} {ok:Bool} {m' k':Value} (h:qia P H t m k ok=some v) (hm:VR ρ m m') (hk:VR ρ k k') :
  ∃y,(Instr.lookup t m' k' ok).run P w=.ok y w/\VR ρ v y:=by
 obtain⟨d,hd,h⟩:=obs h;cases d with
 |map key elem=>
  obtain⟨kd,hkd,h⟩:=obs h;replace h:=obs h;obtain⟨⟨⟩,hok,h⟩:=h;obtain⟨es,hes,h⟩:=obs h;obtain⟨r,hr,h⟩:=obs h;have pair:∀{x:AV} {x':Value} (b:Bool),VR ρ x x'->VR ρ (two ok x b) (if ok=true then .tuple #[x',.bool b] else x'):=fun {x x'} b hx=>by
   cases ok with
   |false=>exact hx
   |true=>
    refine .tup _ _ rfl fun i h1 h2=>?_
    match i,h1 with
    |0,_=>exact hx
    |1,_=>exact .bool b
  have main:∀(ents:Array MapEntry),EntR ρ es ents.toList->(m'=.map none/\ents = #[]\/∃l clock,m'=.map (some l)/\w.heap[l]? = some (.map ents clock)) ->
    ∃y,(Instr.lookup t m' k' ok).run P w=.ok y w/\VR ρ v y:=fun ents he hor=>by
   obtain⟨p,hp,hr⟩:=obs hr;obtain⟨hfind,hlt⟩:=qra (P:=P) hkd hk hok w hp he;have hck:=fun e=>qis (P:=P) hok hkd hk e 9998 w;cases p with
   |none=>
    simp only[sj]at hr;subst hr;obtain⟨z,hz,h⟩:=obs h;simp only[sj]at h;subst h;obtain⟨zv,rfl,hzr,_⟩:=qel hz;simp only[Option.bind_none]at hfind;refine⟨_,?_,pair false (VR.const zv)⟩;rcases hor with⟨rfl,rfl⟩|⟨l,clock,rfl,hw⟩
    ·have hf2:(Instr.findKey key k' []).run P w=.ok none w:=(by simpa using hfind);simp[Instr.lookup,run_underlying hd,hck,hf2,hzr]
    ·simp[Instr.lookup,run_underlying hd,MapKept.run_getObj_map hw,hck,hfind,hzr]
   |some i=>
    obtain⟨e,hge,hr⟩:=obs hr;simp only[sj]at hr;subst hr;simp only[sj]at h;subst h;obtain⟨hi,rfl⟩:=qed hge;have hi':i < ents.toList.length:=(by rw[he.1];exact hi);have hg:ents.toList[i]? = some ents.toList[i]:=List.getElem?_eq_getElem hi';simp only[Option.bind_some,hg,Option.map_some]at hfind;refine⟨_,?_,pair true (he.2 i hi hi').2⟩;rcases hor with⟨rfl,rfl⟩|⟨l,clock,rfl,hw⟩
    ·simp at hi'
    ·simp[Instr.lookup,run_underlying hd,MapKept.run_getObj_map hw,hck,hfind]
  cases hm with
  |nilM=>simp only[sj]at hes;subst hes;exact main #[] ⟨rfl,fun i h=>absurd h (Nat.not_lt_zero i)⟩ (.inl ⟨rfl,rfl⟩)
  |map b l hl=>
   obtain⟨x,hx,hes⟩:=obs hes;cases x with
   |map es'=>simp only[sj]at hes;subst hes;obtain⟨ents,clock,hw,he,hbn⟩:=s.mapAt hx hl;exact main ents he (.inr ⟨_,_,rfl,hw⟩)
   |_=>simp at hes
  |_=>simp at hes
 |_=>simp at h
theorem qs8{α:Type} {v:α}:∀{l l':List α} {i:Nat},setL v l i=some l'->i < l.length/\l'=l.set i v
 |[],_,_,h=>by simp[setL]at h
 |x::r,l',0,h=>by simp only[setL,sj]at h;subst h;simp
 |x::r,l',i+1,h=>by obtain⟨r',hr,h⟩:=obs (show (setL v r i).bind (fun r'=>some (x::r'))=some l' from h);simp only[sj]at h;subst h;obtain⟨h1,h2⟩:=qs8 hr;subst h2;simp[h1]
theorem qpm(s:Sim ρ H w) {t:TypeId} {m k v:AV} {m' k' v':Value} (h:qi9 P H t m k v=some H') (hm:VR ρ m m') (hk:VR ρ k k') (hv:VR ρ v v') :
  ∃w',(Instr.mapUpdate t m' k' v').run P w=.ok () w'/\Sim ρ H' w'/\Step ρ H w ρ H' w':=by
 replace h:=obs h;obtain⟨d,hd,h⟩:=h;cases d with
 |map key elem=>
  replace h:=obs h;obtain⟨kd,hkd,h⟩:=h;replace h:=obs h;obtain⟨⟨⟩,hok,h⟩:=h;cases hm with
  |map b l hl=>
   replace h:=obs h;obtain⟨x,hx,h⟩:=h;cases x with
   |map es=>
    replace h:=obs h;obtain⟨es',hes',h⟩:=h;obtain⟨ents,clock,hw,he,hbn⟩:=s.mapAt hx hl;obtain⟨p,hp,hes'⟩:=obs hes';obtain⟨hfind,hlt⟩:=qra (P:=P) hkd hk hok w hp he;have hck:=fun e=>qis (P:=P) hok hkd hk e 9998 w;have hsz:ents.size=es.length:=(by simpa using he.1);cases p with
    |none=>
     simp only[sj]at hes';subst hes';simp only[Option.bind_none]at hfind;obtain⟨h1,h2,h3⟩:=qfz (P:=P) (ents':=ents.push { key:=k',val:=v',born:=clock }) (clock':=clock+1) s hx hl hw h (by simp[hsz]) (fun i g1 g2=>by
      by_cases hi:i < es.length
      ·have:=he.2 i hi (by simpa[hsz]using hi);rw[List.getElem_append_left hi,Array.getElem_push_lt (by omega)];exact this
      ·have:i=es.length:=(by simp at g1;omega);subst this;rw[List.getElem_append_right (Nat.le_refl _)];simp only[Nat.sub_self,List.getElem_cons_zero];have:(ents.push { key:=k',val:=v',born:=clock })[es.length]'g2={ key:=k',val:=v',born:=clock }:=(by simp[<- hsz]);rw[this];exact⟨hk,hv⟩) (zco hbn)
     exact⟨_,by simp[Instr.mapUpdate,run_underlying hd,MapKept.run_getObj_map hw,hck,hfind,h1],h2,h3⟩
    |some i=>
     obtain⟨e,hge,hes'⟩:=obs hes';split at hes'
     ·rename_i hek;have hek:=of_decide_eq_true hek;obtain⟨hi,rfl⟩:=qed hge;obtain⟨_,rfl⟩:=qs8 hes';have hi':i < ents.toList.length:=hlt i rfl;have hia:i < ents.size:=(by simpa using hi');have hg:ents.toList[i]? = some ents.toList[i]:=List.getElem?_eq_getElem hi';simp only[Option.bind_some,hg,Option.map_some]at hfind;have hold:VR ρ k ents[i].key:=(by have:=(he.2 i hi hi').1;rw[hek]at this;exact this);have fin:∀(key':Value) (w0:World),VR ρ k key'->Sim ρ H w0->w0.heap[l.cb]? = some (.map ents clock)->Step ρ H w ρ H w0 ->
        (Instr.keyThatStays ents[i].key k').run P w=.ok key' w0->∃w',(Instr.mapUpdate t (.map (some l.cb)) k' v').run P w=.ok () w'/\Sim ρ H' w'/\Step ρ H w ρ H' w':=fun key' w0 hkey s0 hw0 st0 hrun=>by
       obtain⟨h1,h2,h3⟩:=qfz (P:=P) (ents':=ents.modify i fun e=>{ e with key:=key',val:=v' }) (clock':=clock) s0 hx hl hw0 h (by simp[hsz]) (fun j g1 g2=>by
        simp only[List.length_set]at g1;by_cases hj:j=i
        ·subst hj;simp only[List.getElem_set_self,Array.getElem_modify_self];exact⟨hkey,hv⟩
        ·rw[List.getElem_set_ne (fun e=>hj e.symm),Array.getElem_modify_of_ne (fun e=>hj e.symm)];exact he.2 j g1 (by simpa[hsz]using g1)) (qvd hbn)
       refine⟨_,?_,h2,st0.trans h3⟩;have hgi:ents[i]? = some ents[i]:=Array.getElem?_eq_getElem hia;simp[Instr.mapUpdate,run_underlying hd,MapKept.run_getObj_map hw,hck,hfind,hgi,hrun,h1]
      have tri:(Instr.keyThatStays ents[i].key k').run P w=.ok k' w\/(Instr.keyThatStays ents[i].key k').run P w=.ok k' w.drew\/(Instr.keyThatStays ents[i].key k').run P w=.ok ents[i].key w.drew:=by
       unfold Instr.keyThatStays;by_cases hb:Instr.sameBits 10000 ents[i].key k'=true
       ·exact .inl (by simp[hb])
       ·right;simp only[hb,Bool.false_eq_true,if_false,Sem.run_bind];simp[Question.forced];exact(Classical.em _).elim (fun h=>Or.inl fun hn=>absurd h hn) (fun h=>Or.inr fun hp=>absurd hp h)
      rcases tri with tri|tri|tri
      ·exact fin k' w hk s hw (.refl _ _ _) tri
      ·exact fin k' w.drew hk s.drew hw (.drew _ _ _) tri
      ·exact fin ents[i].key w.drew hold s.drew hw (.drew _ _ _) tri
     ·simp at hes'
   |_=>simp at h
  |_=>simp at h
 |_=>simp at h
theorem qyo(s:Sim ρ H w) {ts:Array TypeId} {t ty:TypeId} (ht:ts[0]? = some t) {m k:AV} {m' k':Value} (h:qm0 P H t m k=some H') (hm:VR ρ m m') (hk:VR ρ k k') :
  Good ρ H w ((Builtin.delete_ ts ty #[m',k']).run P w) (.tup []) H':=by
 have unit:VR ρ (.tup []) (.tuple #[]):=.tup [] #[] rfl (fun i h=>absurd h (Nat.not_lt_zero i));replace h:=obs h;obtain⟨d,hd,h⟩:=h;cases d with
 |map key elem=>
  replace h:=obs h;obtain⟨kd,hkd,h⟩:=h;replace h:=obs h;obtain⟨⟨⟩,hok,h⟩:=h;have hck:=fun e=>qis (P:=P) hok hkd hk e 9998 w;cases hm with
  |nilM=>simp only[sj]at h;subst h;exact Good.pure s unit (by simp[Builtin.delete_,ht,run_underlying hd,hck])
  |map b l hl=>
   replace h:=obs h;obtain⟨x,hx,h⟩:=h;cases x with
   |map es=>
    replace h:=obs h;obtain⟨es',hes',h⟩:=h;obtain⟨ents,clock,hw,he,hbn⟩:=s.mapAt hx hl;obtain⟨p,hp,hes'⟩:=obs hes';obtain⟨hfind,hlt⟩:=qra (P:=P) hkd hk hok w hp he;have hsz:ents.size=es.length:=(by simpa using he.1);cases p with
    |none=>simp only[sj]at hes';subst hes';simp only[Option.bind_none]at hfind;obtain⟨h1,h2,h3⟩:=qfz (P:=P) (vs:=[]) (ents':=ents) (clock':=clock) s hx hl hw h hsz (fun i g1 g2=>he.2 i g1 (by simpa using g2)) hbn;exact⟨_,ρ,_,by simp[Builtin.delete_,ht,run_underlying hd,MapKept.run_getObj_map hw,hck,hfind,h1],unit,h2,h3⟩
    |some i=>
     simp only[sj]at hes';subst hes';have hi':i < ents.toList.length:=hlt i rfl;have hia:i < ents.size:=(by simpa using hi');have hg:ents.toList[i]? = some ents.toList[i]:=List.getElem?_eq_getElem hi';simp only[Option.bind_some,hg,Option.map_some]at hfind;have hel:(ents.eraseIdxIfInBounds i).toList=ents.toList.eraseIdx i:=(by simp[Array.eraseIdxIfInBounds,hia]);obtain⟨h1,h2,h3⟩:=qfz (P:=P) (vs:=[]) (ents':=ents.eraseIdxIfInBounds i) (clock':=clock) s hx hl hw h
      (by have:=congrArg List.length hel;simp only[Array.length_toList]at this;rw[this,List.length_eraseIdx,List.length_eraseIdx];simp[hsz])
      (fun j g1 g2=>by
       have e:(ents.eraseIdxIfInBounds i)[j]=(ents.toList.eraseIdx i)[j]'(by rw[<- hel,Array.length_toList];exact g2):=(by simp only[<- hel];rfl);rw[e];simp only[List.getElem_eraseIdx];split
       ·exact he.2 j _ _
       ·exact he.2 (j+1) _ _) (qyt hbn)
     exact⟨_,ρ,_,by simp[Builtin.delete_,ht,run_underlying hd,MapKept.run_getObj_map hw,hck,hfind,h1],unit,h2,h3⟩
   |_=>simp at h
  |_=>simp at h
 |_=>simp at h
theorem len_run(s:Sim ρ H w) {ts:Array TypeId} {t ty:TypeId} (ht:ts[0]? = some t) {x:AV} {n:Nat} {x':Value} (h:qeq P H t x=some n) (hx:VR ρ x x') :
  (Builtin.len_ ts ty #[x']).run P w=.ok (.int .i64 n) w:=by
 replace h:=obs h;obtain⟨d,hd,h⟩:=h;split at h
 ·cases hx;simp only[sj]at h;subst h;simp[Builtin.len_,ht,run_underlying hd,goInt,qdl]
 ·simp only[sj]at h;subst h;simp[Builtin.len_,ht,run_underlying hd,goInt]
 ·cases hx;simp only[sj]at h;subst h;simp[Builtin.len_,ht,run_underlying hd,goInt]
 ·cases hx;simp only[sj]at h;subst h;simp[Builtin.len_,ht,run_underlying hd,goInt]
 ·cases hx<;>simp only[sj]at h<;>subst h<;>simp[Builtin.len_,ht,run_underlying hd,goInt]
 ·cases hx<;>simp only[sj]at h<;>subst h<;>simp[Builtin.len_,ht,run_underlying hd,goInt]
 ·cases hx<;>simp only[sj]at h<;>subst h<;>simp[Builtin.len_,ht,run_underlying hd,goInt]
 ·cases hx;simp only[sj]at h;subst h;simp[Builtin.len_,ht,run_underlying hd,goInt]
 ·cases hx;rename_i l hl;obtain⟨k,hk,h⟩:=obs h;cases k with
  |map es=>simp only[sj]at h;subst h;obtain⟨ents,clock,hw,he,hbn⟩:=s.mapAt hk hl;have:ents.size=es.length:=(by simpa using he.1);simp[Builtin.len_,ht,run_underlying hd,MapKept.run_getObj_map hw,goInt,this]
  |_=>simp at h
 ·simp at h
theorem qmz{least:Bool}:∀{r:List AV} {x v:AV} {x':Value} {r':List Value},qnx least x r=some v->VR ρ x x'->VRs ρ r r'->∀w:World,
  ∃y,(r'.foldlM (if least=true then Builtin.min2 else Builtin.max2) x':Sem Value).run P w=.ok y w/\VR ρ v y
 |[],x,v,x',r',h,hx,hr,w=>by
  simp only[qnx,sj]at h;subst h;cases r' with
  |nil=>exact⟨x',rfl,hx⟩
  |cons _ _=>have:=hr.1;simp at this
 |y::r,x,v,x',r',h,hx,hr,w=>by
  cases r' with
  |nil=>have:=hr.1;simp at this
  |cons y' r'=>
   have hy:=hr.head;unfold qnx at h;split at h
   ·cases hx;cases hy;rename_i k a k' b;split at h
    ·rename_i hk;subst hk;cases least with
     |true=>obtain⟨z,h1,h2⟩:=qmz h (.int k (min a b)) hr.tail w;refine⟨z,?_,h2⟩;have e:(if b < a then b else a)=min a b:=(by omega);simp only[if_true]at h1 ⊢;simp only[List.foldlM_cons,Sem.run_bind,Builtin.min2,Sem.run_pure,Result.andThen_ok,e,h1]
     |false=>obtain⟨z,h1,h2⟩:=qmz h (.int k (max a b)) hr.tail w;refine⟨z,?_,h2⟩;have e:(if b > a then b else a)=max a b:=(by omega);simp only[Bool.false_eq_true,if_false]at h1 ⊢;simp only[List.foldlM_cons,Sem.run_bind,Builtin.max2,Sem.run_pure,Result.andThen_ok,e,h1]
    ·simp at h
   ·simp at h
