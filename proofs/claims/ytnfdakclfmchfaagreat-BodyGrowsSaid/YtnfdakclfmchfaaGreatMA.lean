/- How E's single operations meet the model's: memory, aggregates, addresses. No condition. -/
import Derived.CallsIn
import Derived.RangeFuncIn
import Derived.Below
import Derived.Laws.IdiomCopy
import Derived.Laws.NewBlocks
import Derived.Laws.Append
import Derived.Laws.IdiomRangeMap
import Derived.Laws.Tables
import Derived.ChangeKeysEq
import Derived.Laws.Slices
namespace Go.Proofs.YtnfdakclfmchfaaGreat
noncomputable section
set_option linter.unusedSimpArgs false
set_option linter.unusedVariables false
open Go Go.RowKit
abbrev lsB0:List UInt8:=[100,101,115,99,32,102,111,114,101,105,103,110,79,98,106,101,99,116,32,116,105,116,108,101]
abbrev lsB1:List UInt8:=[104,116,109,108,32,116,97,98,108,101,32,116,101,109,112,108,97,116,101]
abbrev lsB2:List UInt8:=[104,49,32,104,50,32,104,51,32,104,52,32,104,53,32,104,54]
abbrev lsB3:List UInt8:=[109,105,32,109,110,32,109,111,32,109,115,32,109,116,101,120,116]
abbrev lsB4:List UInt8:=[97,100,100,114,101,115,115,32,97,112,112,108,101,116,32,97,114,101,97,32,97,114,116,105,99,108,101,32,97,115,105,100,101,32,98,97,115,101,32,98,97,115,101,102,111,110,116,32,98,103,115,111,117,110,100,32,98,108,111,99,107,113,117,111,116,101,32,98,111,100,121,32,98,114,32,98,117,116,116,111,110,32,99,97,112,116,105,111,110,32,99,101,110,116,101,114,32,99,111,108,32,99,111,108,103,114,111,117,112,32,100,100,32,100,101,116,97,105,108,115,32,100,105,114,32,100,105,118,32,100,108,32,100,116,32,101,109,98,101,100,32,102,105,101,108,100,115,101,116,32,102,105,103,99,97,112,116,105,111,110,32,102,105,103,117,114,101,32,102,111,111,116,101,114,32,102,111,114,109,32,102,114,97,109,101,32,102,114,97,109,101,115,101,116,32,104,49,32,104,50,32,104,51,32,104,52,32,104,53,32,104,54,32,104,101,97,100,32,104,101,97,100,101,114,32,104,103,114,111,117,112,32,104,114,32,104,116,109,108,32,105,102,114,97,109,101,32,105,109,103,32,105,110,112,117,116,32,107,101,121,103,101,110,32,108,105,32,108,105,110,107,32,108,105,115,116,105,110,103,32,109,97,105,110,32,109,97,114,113,117,101,101,32,109,101,110,117,32,109,101,116,97,32,110,97,118,32,110,111,101,109,98,101,100,32,110,111,102,114,97,109,101,115,32,110,111,115,99,114,105,112,116,32,111,98,106,101,99,116,32,111,108,32,111,112,116,103,114,111,117,112,32,111,112,116,105,111,110,32,112,32,112,97,114,97,109,32,112,108,97,105,110,116,101,120,116,32,112,114,101,32,115,99,114,105,112,116,32,115,101,97,114,99,104,32,115,101,99,116,105,111,110,32,115,101,108,101,99,116,32,115,111,117,114,99,101,32,115,116,121,108,101,32,115,117,109,109,97,114,121,32,116,97,98,108,101,32,116,98,111,100,121,32,116,100,32,116,101,109,112,108,97,116,101,32,116,101,120,116,97,114,101,97,32,116,102,111,111,116,32,116,104,32,116,104,101,97,100,32,116,105,116,108,101,32,116,114,32,116,114,97,99,107,32,117,108,32,119,98,114,32,120,109,112]
abbrev lsB5:List UInt8:=[97,100,100,114,101,115,115,32,97,114,116,105,99,108,101,32,97,115,105,100,101,32,98,108,111,99,107,113,117,111,116,101,32,99,101,110,116,101,114,32,100,101,116,97,105,108,115,32,100,105,97,108,111,103,32,100,105,114,32,100,105,118,32,100,108,32,102,105,101,108,100,115,101,116,32,102,105,103,99,97,112,116,105,111,110,32,102,105,103,117,114,101,32,102,111,111,116,101,114,32,104,101,97,100,101,114,32,104,103,114,111,117,112,32,108,105,115,116,105,110,103,32,109,97,105,110,32,109,101,110,117,32,110,97,118,32,111,108,32,112,32,112,114,101,32,115,101,97,114,99,104,32,115,101,99,116,105,111,110,32,115,117,109,109,97,114,121,32,117,108]
abbrev lsB6:List UInt8:=[97,112,112,108,101,116,32,99,97,112,116,105,111,110,32,104,116,109,108,32,109,97,114,113,117,101,101,32,111,98,106,101,99,116,32,116,97,98,108,101,32,116,100,32,116,101,109,112,108,97,116,101,32,116,104]
abbrev lsB7:List UInt8:=[97,32,98,32,98,105,103,32,99,111,100,101,32,101,109,32,102,111,110,116,32,105,32,110,111,98,114,32,115,32,115,109,97,108,108,32,115,116,114,105,107,101,32,115,116,114,111,110,103,32,116,116,32,117]
theorem obs{α β:Type _} {f:α -> Option β} {o:Option α} {b:β} (h:o.bind f = some b):∃a,o = some a /\ f a = some b:=Option.bind_eq_some_iff.1 h
theorem sj{α:Type _} (a b:α):(some a = some b) = (a = b):=Option.some.injEq a b
inductive Cap where
 |ex (c:Nat)
 |rest (sz:Nat)
 deriving DecidableEq
inductive AV where
 |undef
 |bool (b:Bool)
 |int (k:IntKind) (n:Int)
 |float (k:FloatKind) (bits:Nat)
 |cplx (k:FloatKind) (re im:Nat)
 |str (s:List UInt8)
 |nilP
 |ptr (b o:Nat)
 |fptr (cs:List AV) (o:Nat)
 |nilS
 |eslc
 |zslc
 |slc (b o len:Nat) (cap:Cap)
 |fslc (sz:Nat) (es:List AV)
 /-- as fslc, with no room behind it (not empty) -/
 |xslc (sz:Nat) (es:List AV)
 |nilM
 |map (b:Nat)
 |nilF
 |func (fn:Fn) (first captured:List AV)
 |nilI
 |iface (t:TypeId) (v:AV)
 |agg (cs:List AV)
 |tup (cs:List AV)
 |yld (b:Nat)
 |zptr (b o:Nat)
 |val (v:Value)
def objs:List TypeId:=[]
inductive Blk where
 |cells (cs:List AV)
 |map (es:List (AV × AV))
 |obj (t:TypeId) (cs:List AV)
 |buf (t:TypeId) (fz:Nat) (cs:List AV)
 |iter (s:List UInt8) (pos:Nat)
 /-- a loop over a map that nobody writes: what has not been handed out, and the last that was -/
 |rng (left:List (AV × AV)) (cur:Option (AV × AV))
 |loop (st:LoopState) (pend:Option Code) (ks:List Nat) (vs:List AV) (ts:List (Nat × AV)) (sz:Nat) (ps:List Nat) (assign body:Code)
structure Heap where
 n:Nat
 fs:List (List (Nat × Blk))
def getF(b:Nat):List (Nat × Blk)->Option Blk
 |[]=>none
 |x::r=>match Nat.beq x.1 b with
  |true=>some x.2
  |false=>getF b r
def getFs(b:Nat):List (List (Nat × Blk))->Option Blk
 |[]=>none
 |f::r=>match getF b f with
  |some x=>some x
  |none=>getFs b r
def Heap.get(H:Heap) (b:Nat):Option Blk:=getFs b H.fs
def setF(b:Nat) (k:Blk):List (Nat × Blk)->Option (List (Nat × Blk))
 |[]=>none
 |x::r=>match Nat.beq x.1 b with
  |true=>some ((b,k)::r)
  |false=>(setF b k r).bind fun r'=>some (x::r')
def setFs(b:Nat) (k:Blk):List (List (Nat × Blk))->Option (List (List (Nat × Blk)))
 |[]=>none
 |f::r=>match setF b k f with
  |some f'=>some (f'::r)
  |none=>(setFs b k r).bind fun r'=>some (f::r')
def Heap.set(H:Heap) (b:Nat) (k:Blk):Option Heap:=match H with
 |⟨n,fs0⟩=>(setFs b k fs0).bind fun fs=>some ⟨n,fs⟩
def killF(b:Nat):List (Nat × Blk)->List (Nat × Blk)
 |[]=>[]
 |x::r=>match Nat.beq x.1 b with
  |true=>r
  |false=>x::killF b r
def Heap.kill(H:Heap) (b:Nat):Heap:=match H.fs with
 |[]=>H
 |f::r=>⟨H.n,killF b f::r⟩
def qeo(b:Nat):List (List (Nat × Blk))->List (List (Nat × Blk))
 |[]=>[]
 |f::r=>match getF b f with
  |some _=>killF b f::r
  |none=>f::qeo b r
def Heap.drop(H:Heap) (b:Nat):Heap:=match H with
 |⟨n,fs⟩=>⟨n,qeo b fs⟩
def pushF(x:Nat × Blk):List (List (Nat × Blk))->List (List (Nat × Blk))
 |[]=>[[x]]
 |f::r=>(x::f)::r
def Heap.new(H:Heap) (k:Blk):Heap:=match H with
 |⟨n,fs⟩=>⟨Nat.succ n,pushF (n,k) fs⟩
def qca{α:Type}:List α->Nat->Option α
 |[],_=>none
 |x::r,i=>match i with
  |0=>some x
  |Nat.succ j=>qca r j
def setL{α:Type} (v:α):List α->Nat->Option (List α)
 |[],_=>none
 |x::r,i=>match i with
  |0=>some (v::r)
  |Nat.succ j=>(setL v r j).bind fun r'=>some (x::r')
def qe8{α:Type}:Nat->List α->Option (List α)
 |0,_=>some []
 |Nat.succ n,l=>match l with
  |[]=>none
  |x::r=>(qe8 n r).bind fun r'=>some (x::r')
def qf1{α:Type} (o n:Nat) (l:List α):Option (List α):=qe8 n (l.drop o)
def qhi{α:Type}:List α->List α->Option (List α)
 |[],l=>some l
 |v::vs,l=>match l with
  |[]=>none
  |_::r=>(qhi vs r).bind fun r'=>some (v::r')
def qjh{α:Type} (vs:List α):Nat->List α->Option (List α)
 |0,l=>qhi vs l
 |Nat.succ o,l=>match l with
  |[]=>none
  |x::r=>(qjh vs o r).bind fun r'=>some (x::r')
def replL{α:Type} (z:List α):Nat->List α
 |0=>[]
 |Nat.succ n=>z++replL z n
def AV.cells:AV->List AV
 |.agg cs=>cs
 |v=>[v]
def AV.single:AV->Bool
 |.undef | .agg _ | .tup _=>false
 |_=>true
def allSingle:List AV->Bool
 |[]=>true
 |v::r=>match v.single with
  |true=>allSingle r
  |false=>false
def ofV1:Value->AV
 |.bool b=>.bool b
 |.int k n=>.int k n
 |.float k b=>.float k b
 |.complex k a b=>.cplx k a b
 |.string s=>.str s.data.toList
 |.pointer none=>.nilP
 |.slice none 0 0=>.nilS
 |.map none=>.nilM
 |.nilFunc=>.nilF
 |.nilIface=>.nilI
 |_=>.undef
def ofV:Value->AV
 |.agg cs=>.agg (cs.toList.map ofV1)
 |v=>ofV1 v
def qbq(P:Program) (t:TypeId):Option AV:=(P.info? t).bind fun i=>i.zero.bind fun z=>some (ofV z)
def qc1(P:Program) (t:TypeId):Option Nat:=(P.info? t).bind fun i=>some i.size
def qce(P:Program) (t:TypeId):Option Nat:=(P.info? t).bind fun i=>some i.bytes
def qgc(P:Program) (t:TypeId):Option Bool:=(P.underlying t).bind fun d=>match d with
 |.struct _ | .array _ _=>some true
 |_=>some false
structure St where
 ks:List Nat
 vs:List AV
 ts:List (Nat × AV)
 sz:Nat
 H:Heap
/- These three are given by List.rec itself: the kernel is several times quicker with it than with the compiled recursion. -/
def look(t:Nat) (l:List (Nat × AV)):Option AV:=
 List.rec (motive:=fun _=>Option AV) none (fun x _ ih=>Bool.rec (motive:=fun _=>Option AV) ih (some x.2) (Nat.beq x.1 t)) l
theorem qma{t:Nat}:look t []=none:=rfl
theorem qgm{t:Nat} {x:Nat × AV} {r:List (Nat × AV)}:look t (x::r)=match Nat.beq x.1 t with
  |true=>some x.2
  |false=>look t r:=by
 show (Bool.rec (motive:=fun _=>Option AV) (look t r) (some x.2) (Nat.beq x.1 t))=_;cases Nat.beq x.1 t<;>rfl
def qfi(t:Nat) (l:List Nat):List AV->Option AV:=
 List.rec (motive:=fun _=>List AV->Option AV) (fun _=>none) (fun k _ ih vs=>List.rec (motive:=fun _=>Option AV) none (fun v r _=>Bool.rec (motive:=fun _=>Option AV) (ih r) (some v) (Nat.beq k t)) vs) l
theorem qic{t:Nat} {vs:List AV}:qfi t [] vs=none:=rfl
theorem qdk{t k:Nat} {ks:List Nat} {vs:List AV}:qfi t (k::ks) vs=match vs with
  |v::r=>match Nat.beq k t with
   |true=>some v
   |false=>qfi t ks r
  |[]=>none:=by
 cases vs with
 |nil=>rfl
 |cons v r=>show (Bool.rec (motive:=fun _=>Option AV) (qfi t ks r) (some v) (Nat.beq k t))=_;cases Nat.beq k t<;>rfl
def St.get(s:St) (t:Nat):Option AV:=match qfi t s.ks s.vs with
 |some v=>some v
 |none=>look t s.ts
def qu1(t:Nat) (v:AV) (l:List Nat):List AV->Option (List AV):=
 List.rec (motive:=fun _=>List AV->Option (List AV)) (fun _=>none) (fun k _ ih vs=>List.rec (motive:=fun _=>Option (List AV)) none (fun x r _=>Bool.rec (motive:=fun _=>Option (List AV)) ((ih r).bind fun r'=>some (x::r')) (some (v::r)) (Nat.beq k t)) vs) l
theorem putK_n{t:Nat} {v:AV} {vs:List AV}:qu1 t v [] vs=none:=rfl
theorem qsg{t k:Nat} {v:AV} {ks:List Nat} {vs:List AV}:qu1 t v (k::ks) vs=match vs with
  |x::r=>match Nat.beq k t with
   |true=>some (v::r)
   |false=>(qu1 t v ks r).bind fun r'=>some (x::r')
  |[]=>none:=by
 cases vs with
 |nil=>rfl
 |cons x r=>show (Bool.rec (motive:=fun _=>Option (List AV)) ((qu1 t v ks r).bind fun r'=>some (x::r')) (some (v::r)) (Nat.beq k t))=_;cases Nat.beq k t<;>rfl
def St.set(s:St) (t:Nat) (v:AV):Option St:=match s with
 |⟨ks,vs0,ts,sz,H⟩=>match Nat.blt t sz with
  |true=>match qu1 t v ks vs0 with
   |some vs=>some ⟨ks,vs,ts,sz,H⟩
   |none=>some ⟨ks,vs0,(t,v)::ts,sz,H⟩
  |false=>none
def St.wH(s:St) (H:Heap):St:=match s with
 |⟨ks,vs,ts,sz,_⟩=>⟨ks,vs,ts,sz,H⟩
def St.wT(s:St):St:=match s with
 |⟨ks,vs,_,sz,H⟩=>⟨ks,vs,[],sz,H⟩
def St.put(s:St) (d:Option Tmp) (v:AV):Option St:=match d with
 |some t=>s.set t v
 |none=>some s
def pins:List (Nat × List Int):=[]
def pinC(g:Nat):List (Nat × List Int)->Option (List AV)
 |[]=>none
 |x::r=>match Nat.beq x.1 g with
  |true=>some (x.2.map (.int .u8))
  |false=>pinC g r
def tabs:List (Nat × IntKind × List Int):=[]
def qbr(s:St):Operand->Option AV
 |.tmp t=>s.get t
 |.const v=>some (ofV v)
 |.func f=>some (.func (.func f) [] [])
 |.global g=>(pinC g pins).bind fun cs=>some (.fptr cs 0)
def qex(s:St):List Operand->Option (List AV)
 |[]=>some []
 |x::r=>(qbr s x).bind fun v=>(qex s r).bind fun vs=>some (v::vs)
def qg2(s:St):Option Operand->Option (Option AV)
 |none=>some none
 |some x=>(qbr s x).bind fun v=>some (some v)
def qgs(s:St):List (Nat × Operand)->Option (List (Nat × AV))
 |[]=>some []
 |x::r=>(qbr s x.2).bind fun v=>(qgs s r).bind fun vs=>some ((x.1,v)::vs)
def refs:Nat->AV->List Nat
 |0,_=>[]
 |Nat.succ n,v=>match v with
  |.ptr b _=>[b]
  |.slc b _ _ _=>[b]
  |.map b=>[b]
  |.yld b=>[b]
  |.zptr b _=>[b]
  |.func _ a c=>a.flatMap (refs n)++c.flatMap (refs n)
  |.iface _ v=>refs n v
  |.agg cs=>cs.flatMap (refs n)
  |.tup cs=>cs.flatMap (refs n)
  |_=>[]
def qy2:Blk->List Nat
 |.cells cs=>cs.flatMap (refs 4)
 |.obj _ cs=>cs.flatMap (refs 4)
 |.buf _ _ cs=>cs.flatMap (refs 4)
 |.iter _ _=>[]
 |.rng _ _=>[]
 |.map es=>es.flatMap fun e=>refs 4 e.1++refs 4 e.2
 |.loop ..=>[]
def qht:Nat->List Nat->List (Nat × Blk)->List (Nat × Blk)->List (Nat × Blk) × List (Nat × Blk)
 |0,_,f,acc=>(acc,f)
 |Nat.succ n,todo,f,acc=>match todo with
  |[]=>(acc,f)
  |b::r=>match f with
   |[]=>(acc,f)
   |_::_=>match getF b f with
    |none=>qht n r f acc
    |some k=>qht n (qy2 k++r) (killF b f) ((b,k)::acc)
def refsF:List (Nat × Blk)->List Nat
 |[]=>[]
 |x::r=>qy2 x.2++refsF r
def qdd(b:Nat):List Nat->List (Nat × Blk)->List (List (Nat × Blk))->List (List (Nat × Blk))
 |_,carry,[]=>[carry]
 |roots,carry,f::r=>match getF b f with
  |some _=>(carry++f)::r
  |none=>match qht 100000 roots f []with
   |(ex,rest)=>rest::qdd b (refsF ex++roots) (ex++carry) r
def Heap.ready(H:Heap) (b:Nat) (vs:List AV):Heap:=match vs.flatMap (refs 6)with
 |[]=>H
 |r::rs=>⟨H.n,qdd b (r::rs) [] H.fs⟩
def qb8(l:List (Nat × Blk)):List (List (Nat × Blk))->List (List (Nat × Blk))
 |[]=>[l]
 |f::r=>(l++f)::r
def qsj(v:AV) (H:Heap):Heap:=match H.fs with
 |[]=>H
 |f::r=>match refs 6 v with
  |[]=>⟨H.n,r⟩
  |b::bs=>⟨H.n,qb8 (qht 100000 (b::bs) f []).1 r⟩
def qck:List UInt8->List AV
 |[]=>[]
 |c::r=>.int .u8 c.toNat::qck r
def Blk.rd:Blk->Option (List AV)
 |.cells cs=>some cs
 |.obj _ cs=>some cs
 |.buf _ _ cs=>some cs
 |_=>none
def Blk.wt(k:Blk) (o:Nat):Option (List AV):=match k with
 |.cells cs=>some cs
 |.obj _ cs=>some cs
 |.buf _ fz cs=>match Nat.ble fz o with
  |true=>some cs
  |false=>none
 |_=>none
def Blk.re:Blk->List AV->Blk
 |.obj t _,cs=>.obj t cs
 |.buf t fz _,cs=>.buf t fz cs
 |_,cs=>.cells cs
def readCells(H:Heap) (b o n:Nat):Option (List AV):=(H.get b).bind fun k=>k.rd.bind fun cs=>qf1 o n cs
def qaq(P:Program) (H:Heap) (t:TypeId) (p:AV):Option AV:=(qgc P t).bind fun ag=>(qc1 P t).bind fun n=>
 match ag with
 |true=>match p with
  |.ptr b o=>(readCells H b o n).bind fun cs=>some (.agg cs)
  |.fptr cs o=>(qf1 o n cs).bind fun cs=>some (.agg cs)
  |_=>none
 |false=>match p with
  |.ptr b o=>(H.get b).bind fun k=>k.rd.bind fun cs=>qca cs o
  |.fptr cs o=>qca cs o
  |_=>none
def writeCells(H:Heap) (b o:Nat) (vs:List AV):Option Heap:=(H.get b).bind fun k=>(k.wt o).bind fun cs=>(qjh vs o cs).bind fun cs'=>(H.ready b vs).set b (k.re cs')
def writeVar(P:Program) (H:Heap) (t:TypeId) (p v:AV):Option Heap:=(qc1 P t).bind fun n=>
 match Nat.beq v.cells.length n with
 |true=>match allSingle v.cells with
  |true=>match p with
   |.ptr b o=>writeCells H b o v.cells
   |_=>none
  |false=>none
 |false=>none
def zbt(n:Int):Bool:=match n with
 |.ofNat m=>Nat.ble m 9223372036854775807
 |.negSucc m=>Nat.ble m 9223372036854775807
theorem fits64_iff{n:Int}:zbt n=true ↔ -9223372036854775808<=n/\n<=9223372036854775807:=by
 cases n with
 |ofNat m=>show Nat.ble m 9223372036854775807=true↔_;rw[Nat.ble_eq,Int.ofNat_eq_natCast];omega
 |negSucc m=>show Nat.ble m 9223372036854775807=true↔_;rw[Nat.ble_eq,Int.negSucc_eq];omega
def wr(k:IntKind) (n:Int):Option Int:=match k with
 |.i64=>match zbt n with
  |true=>some n
  |false=>none
 |k=>some (k.wrap n)
def qmo(op:BinOp) (k:IntKind) (x y:Int):Option AV:=match op with
 |.add=>(wr k (x+y)).bind fun n=>some (.int k n)
 |.sub=>(wr k (x - y)).bind fun n=>some (.int k n)
 |.mul=>(wr k (x * y)).bind fun n=>some (.int k n)
 |.quo=>if y=0 then none else (wr k (x.tdiv y)).bind fun n=>some (.int k n)
 |.rem=>if y=0 then none else some (.int k (x.tmod y))
 |.and=>some (.int k (k.wrap (BitVec.ofInt k.bits x &&& BitVec.ofInt k.bits y).toNat))
 |.or=>some (.int k (k.wrap (BitVec.ofInt k.bits x ||| BitVec.ofInt k.bits y).toNat))
 |.xor=>some (.int k (k.wrap (BitVec.ofInt k.bits x ^^^ BitVec.ofInt k.bits y).toNat))
 |.andNot=>some (.int k (k.wrap (BitVec.ofInt k.bits x &&& ~~~ BitVec.ofInt k.bits y).toNat))
 |.eql=>some (.bool (x == y))
 |.neq=>some (.bool (x != y))
 |.lss=>some (.bool (x < y))
 |.leq=>some (.bool (x<=y))
 |.gtr=>some (.bool (x > y))
 |.geq=>some (.bool (x >= y))
 |_=>none
def qqe(op:BinOp) (k:IntKind) (x y:Int):Option AV:=if y < 0 then none else match op with
 |.shl=>(wr k (x * 2 ^ (min y.toNat k.bits))).bind fun n=>some (.int k n)
 |.shr=>some (.int k (x.fdiv (2 ^ (min y.toNat k.bits))))
 |_=>none
def eqB:List UInt8->List UInt8->Bool
 |[],l=>match l with|[]=>true|_::_=>false
 |a::x,l=>match l with
  |[]=>false
  |b::y=>match Nat.beq a.toNat b.toNat with
   |true=>eqB x y
   |false=>false
def qs3(op:BinOp) (x y:List UInt8):Option AV:=match op with
 |.add=>if x.length+y.length<=1099511627776 then some (.str (x++y)) else none
 |.eql=>some (.bool (eqB x y))
 |.neq=>some (.bool (!eqB x y))
 |.lss=>some (.bool (Op.bytesLess x y))
 |.leq=>some (.bool (Op.bytesLess x y || eqB x y))
 |.gtr=>some (.bool !(Op.bytesLess x y || eqB x y))
 |.geq=>some (.bool !(Op.bytesLess x y))
 |_=>none
def quz(op:BinOp) (k:FloatKind) (x y:Nat):Option AV:=match op with
 |.add=>(k.format.add x y).bind fun r=>some (.float k r)
 |.sub=>(k.format.sub x y).bind fun r=>some (.float k r)
 |.mul=>(k.format.mul x y).bind fun r=>some (.float k r)
 |.lss=>some (.bool (k.format.order x y == some .lt))
 |.gtr=>some (.bool (k.format.order x y == some .gt))
 |_=>none
def zcd(op:BinOp) (k:FloatKind) (a b c d:Nat):Option AV:=match op with
 |.sub=>(k.format.sub a c).bind fun r=>(k.format.sub b d).bind fun i=>some (.cplx k r i)
 |_=>none
def qih(d:TypeDesc) (x y:AV):Option Bool:=match d,x,y with
 |.bool,.bool a,.bool b=>some (a == b)
 |.int _,.int k a,.int k' b=>if k=k' then some (a == b) else none
 |.string,.str a,.str b=>some (eqB a b)
 |.slice _,.nilS,.nilS=>some true
 |.slice _,.nilS,.slc ..=>some false
 |.slice _,.nilS,.fslc _ (_::_)=>some false
 |.slice _,.nilS,.eslc=>some false
 |.slice _,.slc ..,.nilS=>some false
 |.slice _,.fslc _ (_::_),.nilS=>some false
 |.slice _,.eslc,.nilS=>some false
 |.pointer _,.nilP,.nilP=>some true
 |.pointer _,.nilP,.ptr ..=>some false
 |.pointer _,.nilP,.fptr ..=>some false
 |.pointer _,.ptr ..,.nilP=>some false
 |.pointer _,.fptr ..,.nilP=>some false
 |.map _ _,.nilM,.nilM=>some true
 |.map _ _,.nilM,.map _=>some false
 |.map _ _,.map _,.nilM=>some false
 |.func _ _ _,.nilF,.nilF=>some true
 |.func _ _ _,.nilF,.func ..=>some false
 |.func _ _ _,.func ..,.nilF=>some false
 |_,_,_=>none
def qhs(d:TypeDesc):Bool:=match d with
 |.bool | .int _ | .string=>true
 |_=>false
def eqFields(P:Program):List Field->List AV->List AV->Option Bool
 |[],_,_=>some true
 | f :: fs, xs, ys => match f.name == "_" with
  |true=>none
  |false=>(P.underlying f.type).bind fun d=>match qhs d with
   |false=>none
   |true=>(qca xs f.offset).bind fun x=>(qca ys f.offset).bind fun y=>(qih d x y).bind fun e=>match e with
    |true=>eqFields P fs xs ys
    |false=>some false
def eqA(P:Program) (t:TypeId) (x y:AV):Option Bool:=(P.underlying t).bind fun d=>match d,x,y with
 |.struct fs,.agg xs,.agg ys=>match P.stoodInHeld t,P.eqGuardType P.depth t with
  |false,false=>eqFields P fs.toList xs ys
  |_,_=>none
 |.pointer te,.ptr a c,.ptr b d=>(qc1 P te).bind fun n=>match Nat.beq a b && Nat.blt 0 n with
  |true=>some (Nat.beq c d)
  |false=>none
 |_,_,_=>qih d x y
def qda(P:Program) (op:BinOp) (t:TypeId) (x y:AV):Option AV:=match x,y with
 |.int k a,.int k' b=>match op with
  |.shl=>qqe .shl k a b
  |.shr=>qqe .shr k a b
  |_=>if k=k' then qmo op k a b else none
 |.str a,.str b=>qs3 op a b
 |.float k a,.float k' b=>if k=k' then quz op k a b else none
 |.cplx k a b,.cplx k' c d=>if k=k' then zcd op k a b c d else none
 |.cplx ..,_=>none
 |_,_=>match op with
  |.eql=>(eqA P t x y).bind fun e=>some (.bool e)
  |.neq=>(eqA P t x y).bind fun e=>some (.bool !e)
  |_=>none
def unA(op:UnOp) (x:AV):Option AV:=match op,x with
 |.not,.bool b=>some (.bool !b)
 |.neg,.int k n=>(wr k (0 - n)).bind fun m=>some (.int k m)
 |.xor,.int k n=>some (.int k (k.wrap (BitVec.ofInt k.bits (if k.signed then -1 else k.max) ^^^ BitVec.ofInt k.bits n).toNat))
 |_,_=>none
def qxe:Operand->Bool
 |.const _=>true
 |_=>false
def ifA(P:Program) (op:BinOp) (t:TypeId) (e:Bool):Option AV:=(P.underlying t).bind fun d=>match d with
 |.interface _=>match op with
  |.eql=>some (.bool e)
  |.neq=>some (.bool !e)
  |_=>none
 |_=>none
def qke(P:Program) (op:BinOp) (t:TypeId) (c:Bool) (x y:AV):Option AV:=match x with
 |.nilI=>match y with
  |.nilI=>match c with
   |true=>ifA P op t true
   |false=>none
  |.iface _ _=>ifA P op t false
  |_=>none
 |.iface _ _=>match y with
  |.nilI=>ifA P op t false
  |_=>none
 |x=>qda P op t x y
def fillA(place:Nat->Option (Nat × Nat)):List (Nat × AV)->List AV->Option (List AV)
 |[],cs=>some cs
 |x::r,cs=>(place x.1).bind fun p=>match Nat.beq x.2.cells.length p.2 with
  |true=>match allSingle x.2.cells with
   |true=>(qjh x.2.cells p.1 cs).bind fun cs'=>fillA place r cs'
   |false=>none
  |false=>none
def qn6(P:Program):List Field->Option (List (Nat × Nat))
 |[]=>some []
 |f::r=>(qc1 P f.type).bind fun n=>(qn6 P r).bind fun t=>some ((f.offset,n)::t)
def qdw(P:Program) (t:TypeId) (parts:List (Nat × AV)):Option AV:=(qbq P t).bind fun z=>(P.underlying t).bind fun d=>match d with
 |.struct fs=>(qn6 P fs.toList).bind fun tbl=>(fillA (qca tbl) parts z.cells).bind fun cs=>some (.agg cs)
 |.array _ elem=>(qc1 P elem).bind fun n=>(fillA (fun i=>some (i * n,n)) parts z.cells).bind fun cs=>some (.agg cs)
 |_=>none
def qy9(P:Program) (t:TypeId) (cs:List AV) (off:Nat):Option AV:=(qgc P t).bind fun ag=>match ag with
 |true=>(qc1 P t).bind fun n=>(qf1 off n cs).bind fun r=>some (.agg r)
 |false=>qca cs off
def qc9(P:Program) (t:TypeId) (x:AV) (i:Nat):Option AV:=(P.underlying t).bind fun d=>match d with
 |.struct fs=>(qca fs.toList i).bind fun f=>match x with
  |.agg cs=>qy9 P f.type cs f.offset
  |_=>none
 |_=>none
def qaw(P:Program) (t:TypeId) (x:AV) (i:Nat):Option AV:=(P.underlying t).bind fun d=>match d with
 |.struct fs=>(qca fs.toList i).bind fun f=>(qc1 P f.type).bind fun n=>match n with
  |0=>none
  |Nat.succ _=>match x with
   |.ptr b o=>some (.ptr b (o+f.offset))
   |.fptr cs o=>some (.fptr cs (o+f.offset))
   |_=>none
 |_=>none
def idx(i:Int) (n:Nat):Option Nat:=match i with
 |.ofNat j=>match Nat.blt j n with
  |true=>some j
  |false=>none
 |.negSucc _=>none
def qan(P:Program) (t:TypeId) (x i:AV):Option AV:=match i with
 |.int _ i=>(P.underlying t).bind fun d=>match d with
  |.slice elem=>match x with
   |.slc b o len _=>(idx i len).bind fun j=>(qc1 P elem).bind fun n=>some (.ptr b (o+j * n))
   |.fslc sz es=>(idx i es.length).bind fun j=>(qc1 P elem).bind fun n=>match Nat.beq n sz with
    |true=>(qca es j).bind fun e=>some (.fptr e.cells 0)
    |false=>none
   |_=>none
  |.array len elem=>(idx i len).bind fun j=>(qc1 P elem).bind fun n=>match x with
   |.ptr b o=>some (.ptr b (o+j * n))
   |.fptr cs o=>some (.fptr cs (o+j * n))
   |_=>none
  |_=>none
 |_=>none
def ql1(P:Program) (t:TypeId) (x i:AV):Option AV:=match i with
 |.int _ i=>(P.underlying t).bind fun d=>match d with
  |.array len elem=>match x with
   |.agg cs=>(idx i len).bind fun j=>(qc1 P elem).bind fun n=>qy9 P elem cs (j * n)
   |_=>none
  |.string=>match x with
   |.str s=>(idx i s.length).bind fun j=>(qca s j).bind fun c=>some (.int .u8 c.toNat)
   |_=>none
  |_=>none
 |_=>none
def qch(x:Option AV) (dflt most:Nat):Option Nat:=match x with
 |none=>some dflt
 |some v=>match v with
  |.int _ i=>idx i (Nat.succ most)
  |_=>none
def qbp(H:Heap) (b:Nat):Option Nat:=(H.get b).bind fun k=>k.rd.bind fun cs=>some cs.length
def qpi(P:Program) (elem:TypeId) (cs:List AV):Blk:=match P.underlying elem with
 |some (.int .u8)=>.buf elem 0 cs
 |_=>.cells cs
def goOn(k:Blk) (elem:TypeId) (o:Nat) (cs:List AV):Option Blk:=match k with
 |.cells _=>some (.cells cs)
 |.buf t fz _=>match Nat.beq t elem && Nat.beq o 0 with
  |true=>some (.buf t fz cs)
  |false=>none
 |_=>none
def qfb(H:Heap) (sz b o len:Nat) (cap:Cap) (lo hi mx:Option AV):Option AV:=(qbp H b).bind fun kn=>match cap with
 |.ex c=>(qch mx c c).bind fun m=>(qch hi len m).bind fun h=>(qch lo 0 h).bind fun l=>
   some (.slc b (match Nat.beq m l with|true=>o|false=>o+l * sz) (h - l) (.ex (m - l)))
 |.rest sz'=>match Nat.beq sz sz' with
  |false=>none
  |true=>match mx with
   |some v=>(qch (some v) 0 ((kn - o) / sz)).bind fun m=>(qch hi len m).bind fun h=>(qch lo 0 h).bind fun l=>
    match Nat.beq m l with
    |true=>some .eslc
    |false=>some (.slc b (o+l * sz) (h - l) (.ex (m - l)))
   |none=>(qch hi len ((kn - o) / sz)).bind fun h=>(qch lo 0 h).bind fun l=>
    match Nat.ble (kn - o) (l * sz)with
    |true=>match l with
     |0=>some (.slc b o h (.rest sz))
     |Nat.succ _=>match Nat.beq h l with
      |true=>some .eslc
      |false=>none
    |false=>some (.slc b (o+l * sz) (h - l) (.rest sz))
def qr3(hi mx:Option AV):Bool:=match mx,hi with
 |some _,none=>false
 |_,_=>true
def qcs(P:Program) (H:Heap) (t:TypeId) (x:AV) (lo hi mx:Option AV):Option AV:=(match qr3 hi mx with|true=>P.underlying t|false=>none).bind fun d=>match d with
 |.string=>match x,mx with
  |.str s,none=>(qch hi s.length s.length).bind fun h=>(qch lo 0 h).bind fun l=>some (.str ((s.take h).drop l))
  |_,_=>none
 |.slice elem=>(qc1 P elem).bind fun sz=>match x with
  |.slc b o len cap=>qfb H sz b o len cap lo hi mx
  |.fslc s es=>match mx with
   |none=>(match Nat.beq s sz with|true=>some ()|false=>none).bind fun _=>(qch hi es.length es.length).bind fun h=>(qch lo 0 h).bind fun l=>some (.fslc s ((es.take h).drop l))
   |some q=>(match Nat.beq s sz with|true=>some ()|false=>none).bind fun _=>(qch (some q) 0 es.length).bind fun m=>(qch hi es.length m).bind fun h=>match Nat.beq h m with
    |false=>none
    |true=>match lo with
     |some _=>none
     |none=>match m with
      |0=>some .zslc
      |Nat.succ _=>some (.xslc s (es.take m))
  |.nilS=>(qch mx 0 0).bind fun _=>(qch hi 0 0).bind fun _=>(qch lo 0 0).bind fun _=>some .nilS
  |.zslc=>(qch mx 0 0).bind fun _=>(qch hi 0 0).bind fun _=>(qch lo 0 0).bind fun _=>some .zslc
  |_=>none
 |.array n elem=>(qc1 P elem).bind fun sz=>match x with
  |.ptr b o=>qfb H sz b o n (.ex n) lo hi mx
  |_=>none
 |_=>none
def qeq(P:Program) (H:Heap) (t:TypeId) (x:AV):Option Nat:=(P.underlying t).bind fun d=>match d,x with
 |.string,.str s=>some s.length
 |.array n _,_=>some n
 |.slice _,.nilS=>some 0
 |.slice _,.eslc=>some 0
 |.slice _,.zslc=>some 0
 |.slice _,.slc _ _ n _=>some n
 |.slice _,.fslc _ es=>some es.length
 |.map _ _,.nilM=>some 0
 |.map _ _,.map b=>(H.get b).bind fun k=>match k with
  |.map es=>some es.length
  |_=>none
 |_,_=>none
def qa8:List AV->List AV
 |[]=>[]
 |v::r=>v.cells++qa8 r
def qc3(x:AV):Option Nat:=match x with
 |.nilS | .eslc | .zslc=>some 0
 |.slc _ _ n _=>some n
 |.fslc _ es=>some es.length
 |.str s=>some s.length
 |_=>none
def qb3(H:Heap) (sz n:Nat) (x:AV):Option (List AV):=match x with
 |.nilS=>some []
 |.zslc=>match n with
  |0=>some []
  |_=>none
 |.eslc=>match n with
  |0=>some []
  |_=>none
 |.slc b o _ _=>readCells H b o (n * sz)
 |.fslc s es=>match Nat.beq s sz with
  |true=>some (qa8 (es.take n))
  |false=>none
 |.str s=>some (qck (s.take n))
 |_=>none
def qde(need bytes:Nat):Bool:=Nat.ble (need * bytes) 17592186044416
def qby(P:Program) (H:Heap) (elem:TypeId) (s x:AV):Option (AV × Heap):=(qc1 P elem).bind fun sz=>(qce P elem).bind fun by_=>(qbq P elem).bind fun z=>(qc3 x).bind fun n=>
 match Nat.beq sz 0 || !(Nat.beq z.cells.length sz && Nat.blt 0 by_)with
 |true=>none
 |false=>match s with
 |.nilS=>match n with
  |0=>some (.nilS,H)
  |Nat.succ _=>match qde n by_ with
   |true=>(qb3 H sz n x).bind fun cs=>match Nat.beq cs.length (n * sz)with
    |true=>some (.slc H.n 0 n (.rest sz),H.new (qpi P elem cs))
    |false=>none
   |false=>none
 |.slc b o len cap=>(qb3 H sz n x).bind fun cs=>match qde (len+n) by_ with
  |false=>none
  |true=>match allSingle cs with
   |false=>none
   |true=>match cap with
    |.ex c=>match Nat.ble (len+n) c with
     |true=>(writeCells H b (o+len * sz) cs).bind fun H'=>some (.slc b o (len+n) (.ex c),H')
     |false=>match Nat.beq cs.length (n * sz)with
      |true=>(readCells H b o (len * sz)).bind fun old=>some (.slc H.n 0 (len+n) (.rest sz),H.new (qpi P elem (old++cs)))
      |false=>none
    |.rest sz'=>match Nat.beq sz sz' with
     |false=>none
     |true=>(qbp H b).bind fun kn=>match Nat.ble (o+(len+n) * sz) kn with
      |true=>(writeCells H b (o+len * sz) cs).bind fun H'=>some (.slc b o (len+n) (.rest sz),H')
      |false=>match Nat.beq (o+len * sz) kn with
       |true=>match Nat.beq cs.length (n * sz)with
        |true=>(readCells H b o (len * sz)).bind fun old=>(H.get b).bind fun k=>(goOn k elem o (old++cs)).bind fun k'=>some (.slc H.n 0 (len+n) (.rest sz),(H.drop b).new k')
        |false=>none
       |false=>none
 |.zslc=>match n with
  |0=>some (.zslc,H)
  |Nat.succ _=>match qde n by_ with
   |true=>(qb3 H sz n x).bind fun cs=>match Nat.beq cs.length (n * sz)with
    |true=>some (.slc H.n 0 n (.rest sz),H.new (qpi P elem cs))
    |false=>none
   |false=>none
 |.eslc=>match n with
  |0=>some (.eslc,H)
  |Nat.succ _=>none
 |.xslc s es=>match n with
  |0=>none
  |Nat.succ _=>(qb3 H sz es.length (.fslc s es)).bind fun os=>(qb3 H sz n x).bind fun cs=>match qde (es.length+n) by_ && (Nat.beq cs.length (n * sz) && Nat.beq os.length (es.length * sz))with
   |true=>some (.slc H.n 0 (es.length+n) (.rest sz),H.new (qpi P elem (os++cs)))
   |false=>none
 |_=>none
def qyh(P:Program) (H:Heap) (elem:TypeId) (s x:AV):Option (AV × Heap):=(qc1 P elem).bind fun sz=>(qce P elem).bind fun by_=>(qbq P elem).bind fun z=>
 match Nat.beq sz 0 || !(Nat.beq z.cells.length sz && Nat.blt 0 by_)with
 |true=>none
 |false=>match s with
  |.nilS=>match x with
   |.int k m=>match k with
    |.i64=>(idx m 140737488355328).bind fun n=>match n with
     |0=>some (.nilS,H)
     |Nat.succ q=>match qde (q+1) by_ with
      |true=>some (.slc H.n 0 (q+1) (.rest sz),H.new (qpi P elem (replL z.cells (q+1))))
      |false=>none
    |_=>none
   |_=>none
  |_=>none
def copyA(P:Program) (H:Heap) (elem:TypeId) (d x:AV):Option (AV × Heap):=(qc1 P elem).bind fun sz=>(qc3 x).bind fun n=>match d with
 |.nilS | .eslc | .zslc=>some (.int .i64 0,H)
 |.slc b o len _=>(qb3 H sz (Nat.min n len) x).bind fun cs=>match allSingle cs with
  |true=>(writeCells H b o cs).bind fun H'=>some (.int .i64 (Nat.min n len:Nat),H')
  |false=>none
 |_=>none
def qq0(P:Program) (H:Heap) (t:TypeId) (x:AV):Option Heap:=(P.underlying t).bind fun d=>match d,x with
 |_,.nilS=>some H
 |_,.eslc=>some H
 |_,.zslc=>some H
 |_,.nilM=>some H
 |.map _ _,.map b=>(H.get b).bind fun k=>match k with
  |.map _=>H.set b (.map [])
  |_=>none
 |.slice elem,.slc b o len _=>(qbq P elem).bind fun z=>(qc1 P elem).bind fun sz=>match Nat.beq z.cells.length sz && allSingle z.cells with
  |true=>writeCells H b o (replL z.cells len)
  |false=>none
 |_,_=>none
mutual
def AV.beq:AV->AV->Bool
 |.undef,.undef=>true
 |.bool a,.bool b=>a == b
 |.int k a,.int l b=>decide (k=l) && decide (a=b)
 |.float k a,.float l b=>decide (k=l) && decide (a=b)
 |.cplx k a c,.cplx l b d=>decide (k=l) && decide (a=b) && decide (c=d)
 |.str a,.str b=>decide (a=b)
 |.nilP,.nilP=>true
 |.ptr a c,.ptr b d=>decide (a=b) && decide (c=d)
 |.fptr a c,.fptr b d=>AV.beqL a b && decide (c=d)
 |.nilS,.nilS=>true
 |.eslc,.eslc=>true
 |.zslc,.zslc=>true
 |.slc a c n q,.slc b d m r=>decide (a=b) && decide (c=d) && decide (n=m) && decide (q=r)
 |.fslc z a,.fslc y b=>decide (z=y) && AV.beqL a b
 |.xslc z a,.xslc y b=>decide (z=y) && AV.beqL a b
 |.nilM,.nilM=>true
 |.map a,.map b=>decide (a=b)
 |.nilF,.nilF=>true
 |.func f a c,.func g b d=>decide (f=g) && AV.beqL a b && AV.beqL c d
 |.nilI,.nilI=>true
 |.iface t a,.iface u b=>decide (t=u) && AV.beq a b
 |.agg a,.agg b=>AV.beqL a b
 |.tup a,.tup b=>AV.beqL a b
 |.yld a,.yld b=>decide (a=b)
 |.zptr a c,.zptr b d=>decide (a=b) && decide (c=d)
 |.val a,.val b=>@decide (a=b) (Classical.propDecidable _)
 |_,_=>false
def AV.beqL:List AV->List AV->Bool
 |[],[]=>true
 |a::x,b::y=>AV.beq a b && AV.beqL x y
 |_,_=>false
end
mutual
theorem AV.eq_of_beq:∀(a b:AV),AV.beq a b=true->a=b:=by
 intro a b h;cases a<;>cases b<;>simp only[AV.beq,Bool.and_eq_true,decide_eq_true_eq,beq_iff_eq,Bool.false_eq_true]at h<;>try trivial
 all_goals first
  |(subst h;rfl)
  |(obtain⟨rfl,rfl⟩:=h;rfl)
  |(obtain⟨⟨rfl,rfl⟩,rfl⟩:=h;rfl)
  |(obtain⟨⟨⟨rfl,rfl⟩,rfl⟩,rfl⟩:=h;rfl)
  |(obtain⟨h,rfl⟩:=h;rw[AV.eqL_of_beq _ _ h])
  |(obtain⟨rfl,h⟩:=h;first|rw[AV.eqL_of_beq _ _ h]|rw[AV.eq_of_beq _ _ h])
  |(obtain⟨⟨rfl,h⟩,h'⟩:=h;rw[AV.eqL_of_beq _ _ h,AV.eqL_of_beq _ _ h'])
  |rw[AV.eqL_of_beq _ _ h]
theorem AV.eqL_of_beq:∀(a b:List AV),AV.beqL a b=true->a=b:=by
 intro a b h;cases a with
 |nil=>cases b with
  |nil=>rfl
  |cons _ _=>simp[AV.beqL]at h
 |cons x a=>cases b with
  |nil=>simp[AV.beqL]at h
  |cons y b=>simp only[AV.beqL,Bool.and_eq_true]at h;rw[AV.eq_of_beq _ _ h.1,AV.eqL_of_beq _ _ h.2]
end
mutual
theorem AV.beq_self:∀(a:AV),AV.beq a a=true:=by intro a;cases a<;>simp only[AV.beq,AV.beqL_self,AV.beq_self,decide_true,Bool.and_self,beq_self_eq_true]
theorem AV.beqL_self:∀(a:List AV),AV.beqL a a=true:=by
 intro a;cases a with
 |nil=>rfl
 |cons x a=>simp only[AV.beqL,AV.beq_self x,AV.beqL_self a,Bool.and_self]
end
instance:DecidableEq AV:=fun a b=>match h:AV.beq a b with
 |true=>isTrue (AV.eq_of_beq a b h)
 |false=>isFalse fun e=>by subst e;rw[AV.beq_self]at h;cases h
def qt2(P:Program) (t:TypeId) (d:TypeDesc) (a b:AV):Option Bool:=match qhs d with
 |true=>qih d a b
 |false=>match d with
  |.struct _=>eqA P t a b
  |_=>none
def posA(P:Program) (t:TypeId) (d:TypeDesc) (k:AV):Nat->List (AV × AV)->Option (Option Nat)
 |_,[]=>some none
 |i,e::es=>(qt2 P t d k e.1).bind fun q=>match q with
  |true=>some (some i)
  |false=>posA P t d k (Nat.succ i) es
def findA(P:Program) (t:TypeId) (d:TypeDesc) (k:AV) (es:List (AV × AV)):Option (Option AV):=(posA P t d k 0 es).bind fun r=>match r with
 |none=>some none
 |some i=>(qca es i).bind fun e=>some (some e.2)
def updA(P:Program) (t:TypeId) (d:TypeDesc) (k v:AV) (es:List (AV × AV)):Option (List (AV × AV)):=(posA P t d k 0 es).bind fun r=>match r with
 |none=>some (es++[(k,v)])
 |some i=>(qca es i).bind fun e=>match decide (e.1=k)with
  |true=>setL (k,v) es i
  |false=>none
def delA(P:Program) (t:TypeId) (d:TypeDesc) (k:AV) (es:List (AV × AV)):Option (List (AV × AV)):=(posA P t d k 0 es).bind fun r=>match r with
 |none=>some es
 |some i=>some (es.eraseIdx i)
def qt1(P:Program) (t:TypeId) (d:TypeDesc) (k:AV):Option Unit:=(qt2 P t d k k).bind fun q=>match q with
 |true=>some ()
 |false=>none
def qia(P:Program) (H:Heap) (t:TypeId) (m k:AV) (ok:Bool):Option AV:=(P.underlying t).bind fun d=>match d with
 |.map key elem=>(P.underlying key).bind fun kd=>(qt1 P key kd k).bind fun _=>(match m with
   |.nilM=>some []
   |.map b=>(H.get b).bind fun x=>match x with
    |.map es=>some es
    |_=>none
   |_=>none).bind fun es=>(findA P key kd k es).bind fun r=>match r with
    |some v=>some (match ok with|true=>.tup [v,.bool true]|false=>v)
    |none=>(qbq P elem).bind fun z=>some (match ok with|true=>.tup [z,.bool false]|false=>z)
 |_=>none
def qi9(P:Program) (H:Heap) (t:TypeId) (m k v:AV):Option Heap:=(P.underlying t).bind fun d=>match d with
 |.map key _=>(P.underlying key).bind fun kd=>(qt1 P key kd k).bind fun _=>match m with
  |.map b=>(H.get b).bind fun x=>match x with
   |.map es=>(updA P key kd k v es).bind fun es'=>(H.ready b [k,v]).set b (.map es')
   |_=>none
  |_=>none
 |_=>none
def qm0(P:Program) (H:Heap) (t:TypeId) (m k:AV):Option Heap:=(P.underlying t).bind fun d=>match d with
 |.map key _=>(P.underlying key).bind fun kd=>(qt1 P key kd k).bind fun _=>match m with
  |.nilM=>some H
  |.map b=>(H.get b).bind fun x=>match x with
   |.map es=>(delA P key kd k es).bind fun es'=>H.set b (.map es')
   |_=>none
  |_=>none
 |_=>none
def qva:AV->Option UInt8
 |.int .u8 n=>some (UInt8.ofNat n.toNat)
 |_=>none
def qm6:List AV->Option (List UInt8)
 |[]=>some []
 |v::r=>(qva v).bind fun c=>(qm6 r).bind fun cs=>some (c::cs)
def zck:AV->Option UInt8
 |.int .u8 n=>(idx n 256).bind fun m=>some (UInt8.ofNat m)
 |_=>none
def qxg:List AV->Option (List UInt8)
 |[]=>some []
 |v::r=>(zck v).bind fun c=>(qxg r).bind fun cs=>some (c::cs)
def qrk(P:Program) (H:Heap) (src dst:TypeId) (x:AV):Option (AV × Heap):=(P.underlying src).bind fun sd=>(P.underlying dst).bind fun dd=>match sd,dd,x with
 |_,.int k,.int _ n=>some (.int k (k.wrap n),H)
 |.int _,.string,.int _ n=>some (.str (Utf8.encode n).data.toList,H)
 |_,.string,.str s=>some (.str s,H)
 |.string,.slice e,.str s=>(P.underlying e).bind fun ed=>match ed with
  |.int .u8=>match qde s.length 1 with
   |true=>some (.slc H.n 0 s.length (.rest 1),H.new (.cells (qck s)))
   |false=>none
  |_=>none
 |.slice e,.string,x=>(P.underlying e).bind fun ed=>match ed with
  |.int .u8=>(qc3 x).bind fun n=>(qb3 H 1 n x).bind fun cs=>(qm6 cs).bind fun s=>some (.str s,H)
  |_=>none
 |.pointer u,.unsafePointer,.ptr b o=>(qc1 P u).bind fun n=>(H.get b).bind fun k=>k.rd.bind fun cs=>match Nat.blt 0 n && Nat.blt o cs.length with
  |true=>some (.ptr b o,H)
  |false=>none
 |.unsafePointer,.pointer u,.ptr b o=>(qc1 P u).bind fun _=>(H.get b).bind fun k=>match k with
  |.obj t cs=>match liesAt P P.depth t (cs.length / P.cellsOf t) o u 1 with
   |true=>some (.ptr b o,H)
   |false=>none
  |_=>none
 |_,_,_=>none
def qnx(least:Bool):AV->List AV->Option AV
 |v,[]=>some v
 |v,w::r=>match v,w with
  |.int k a,.int k' b=>if k=k' then qnx least (.int k (match least with|true=>min a b|false=>max a b)) r else none
  |_,_=>none
def qc0(P:Program) (H:Heap) (b:Builtin) (ts:Array TypeId) (args:List AV):Option (AV × Heap):=match b,args with
 |.len,[x]=>(ts[0]?).bind fun t=>(qeq P H t x).bind fun n=>some (.int .i64 n,H)
 |.append,[s,x]=>(ts[0]?).bind fun t=>(P.underlying t).bind fun d=>match d with
  |.slice elem=>(match ts[1]? with
   |some u=>(P.underlying u).bind fun ud=>match ud with
    |.string=>some false
    |.slice _=>some false
    |.int _=>some true
    |_=>none
   |none=>none).bind fun q=>match q with
    |false=>qby P H elem s x
    |true=>qyh P H elem s x
  |_=>none
 |.cap,[x]=>(ts[0]?).bind fun t=>(P.underlying t).bind fun d=>match d,x with
  |.slice _,.nilS=>some (.int .i64 0,H)
  |_,_=>none
 |.copy,[d,s]=>(ts[0]?).bind fun t=>(P.underlying t).bind fun dd=>match dd with
  |.slice elem=>copyA P H elem d s
  |_=>none
 |.clear,[x]=>(ts[0]?).bind fun t=>(qq0 P H t x).bind fun H'=>some (.tup [],H')
 |.delete,[m,k]=>(ts[0]?).bind fun t=>(qm0 P H t m k).bind fun H'=>some (.tup [],H')
 |.complex,[x,y]=>match x,y with
  |.float k a,.float k' b=>if k=k' then some (.cplx k a b,H) else none
  |_,_=>none
 |.real,[x]=>match x with
  |.cplx k a _=>some (.float k a,H)
  |_=>none
 |.imag,[x]=>match x with
  |.cplx k _ a=>some (.float k a,H)
  |_=>none
 |.unsafeSliceData,[x]=>match x with
  |.nilS=>some (.nilP,H)
  |.slc b o len _=>match len with
   |0=>none
   |Nat.succ _=>some (.ptr b o,H)
  |_=>none
 |.unsafeString,[p,n]=>match n with
  |.int .i64 n=>(idx n 140737488355328).bind fun n=>match p with
   |.nilP=>(ts[0]?).bind fun _=>match n with
    |0=>some (.str [],H)
    |Nat.succ _=>none
   |.ptr b o=>(ts[0]?).bind fun t=>(P.underlying t).bind fun d=>match d with
    |.pointer u=>(H.get b).bind fun k=>match k with
     |.buf e fz cs=>match Nat.beq e u && Nat.beq o 0 && Nat.blt 0 n with
      |true=>(P.underlying u).bind fun ud=>match ud,Nat.beq (P.cellsOf u) 1 with
       |.int .u8,true=>(qe8 n cs).bind fun bs=>(qxg bs).bind fun s=>(H.set b (.buf e (Nat.max fz n) cs)).bind fun H'=>some (.str s,H')
       |_,_=>none
      |false=>none
     |_=>none
    |_=>none
   |_=>none
  |_=>none
 |.max,v::r=>(qnx false v r).bind fun x=>some (x,H)
 |.min,v::r=>(qnx true v r).bind fun x=>some (x,H)
 |_,_=>none
structure Ctx where
 P:Program
 keep:FuncId->List Nat
 summ:FuncId->Option (List AV->Heap->Option (AV × Heap))
inductive Cl where
 |fn (f:FuncId)
 |yl (b:Nat)
abbrev qc5:=Cl->List AV->Heap->Option (AV × Heap)
def qaz(ops:Array Oper) (s:St) (o:Oper):Option Bool:=match o.guard with
 |none=>some true
 |some (j,want)=>(ops[j]?).bind fun p=>p.dst.bind fun t=>(s.get t).bind fun v=>match v with
  |.bool b=>some (b == want)
  |.tup []=>some false
  |_=>none
def sliceParts(P:Program) (t:TypeId) (len:Nat) (parts:List (Nat × AV)):Option (List AV):=(P.underlying t).bind fun d=>match d with
 |.slice elem=>(qc1 P elem).bind fun sz=>match Nat.ble (len * sz) 65536 with
  |false=>none
  |true=>(qbq P elem).bind fun z=>match Nat.beq z.cells.length sz with
   |true=>fillA (fun i=>some (i * sz,sz)) parts (replL z.cells len)
   |false=>none
 |_=>none
def msB(P:Program) (t:TypeId) (l c:AV):Option ((Nat->AV) × Blk):=(P.underlying t).bind fun d=>match d with
 |.slice elem=>(qc1 P elem).bind fun sz=>(qce P elem).bind fun by_=>match c,l with
  |.int .i64 c,.int .i64 l=>(idx c 17592186044416).bind fun c=>(idx l (Nat.succ c)).bind fun l=>match qde c by_ with
   |true=>(qbq P elem).bind fun z=>match Nat.beq z.cells.length sz with
    |true=>some (fun b=>.slc b 0 l (.ex c),.cells (replL z.cells c))
    |false=>none
   |false=>none
  |_,_=>none
 |_=>none
def qh4(P:Program) (H:Heap) (t:TypeId) (l c:AV):Option (AV × Heap):=(msB P t l c).bind fun k=>some (k.1 H.n,H.new k.2)
def memT(n:Nat):List Nat->Bool
 |[]=>false
 |m::r=>match Nat.beq n m with
  |true=>true
  |false=>memT n r
def bufs:List (Nat × Nat):=[(38,59),(38,15)]
def memP(t d:Nat):List (Nat × Nat)->Bool
 |[]=>false
 |x::r=>match Nat.beq x.1 t && Nat.beq x.2 d with
  |true=>true
  |false=>memP t d r
def qz2(P:Program) (t:TypeId) (d:Option Tmp) (cs:List AV):Blk:=match d with
 |none=>.cells cs
 |some d=>match memP t d bufs with
  |true=>(match P.underlying t with
   |some (.slice e)=>.buf e 0 cs
   |_=>.cells cs)
  |false=>.cells cs
def qbt(C:Ctx) (o:Oper) (s:St):Option ((Nat->AV) × Blk):=match o.op with
 |.alloc t=>(qbq C.P t).bind fun z=>(qc1 C.P t).bind fun n=>match Nat.beq z.cells.length n with
  |true=>some (fun b=>.ptr b 0,match memT t objs with
   |true=>.obj t z.cells
   |false=>.cells z.cells)
  |false=>none
 |.box _ x=>(qbr s x).bind fun x=>match allSingle x.cells with
  |true=>some (fun b=>.ptr b 0,.cells x.cells)
  |false=>none
 |.buildSlice t len parts=>(qgs s parts.toList).bind fun ps=>(sliceParts C.P t len ps).bind fun cs=>
   some (fun b=>.slc b 0 len (.ex len),qz2 C.P t o.dst cs)
 |.makeSlice t l c=>(qbr s l).bind fun l=>(qbr s c).bind fun c=>msB C.P t l c
 |.makeMap t r=>(match r with
   |none=>some ()
   |some x=>(qbr s x).bind fun x=>(C.P.underlying t).bind fun d=>match d,x with
    |.map _ _,.int ..=>some ()
    |_,_=>none).bind fun _=>some (fun b=>.map b,.map [])
 |_=>none
def qyu:AV->Bool
 |.int _ _=>true
 |.str _=>true
 |.bool _=>true
 |_=>false
def zcr:List (AV × AV)->Bool
 |[]=>true
 |e::r=>match qyu e.1 && qyu e.2 with
  |true=>zcr r
  |false=>false
def zae(H:Heap) (b:Nat):Option (AV × Heap):=(H.get b).bind fun k=>match k with
 |.map es=>match zcr es with
  |true=>some (.ptr H.n 0,(H.drop b).new (.rng es none))
  |false=>none
 |_=>none
def qxa(H:Heap) (b:Nat):Option AV:=(H.get b).bind fun k=>match k with
 |.rng _ cur=>match cur with
  |some e=>some (.tup [e.1,e.2])
  |none=>none
 |_=>none
def qsn(H:Heap) (b:Nat):Option (AV × Heap):=(H.get b).bind fun k=>match k with
 |.iter s pos=>match Nat.blt pos s.length with
  |true=>(H.set b (.iter s (pos+(Utf8.decode ⟨s.toArray⟩ pos).2))).bind fun H'=>some (.tup [.bool true,.int .i64 pos,.int .i32 (Utf8.decode ⟨s.toArray⟩ pos).1],H')
  |false=>some (.tup [.bool false],H)
 |_=>none
def qae(C:Ctx) (call:qc5) (o:Oper) (s:St):Option (AV × Heap):=
 let v (x:Option AV):Option (AV × Heap):=x.bind fun x=>some (x,s.H)
 match o.op with
 |.move x | .assign x=>v (qbr s x)
 |.pick c a b=>(qbr s c).bind fun c=>match c with
  |.bool t=>match t with
   |true=>v (qbr s a)
   |false=>v (qbr s b)
  |_=>none
 |.alloc .. | .box .. | .buildSlice .. | .makeMap .. | .makeSlice ..=>(qbt C o s).bind fun x=>some (x.1 s.H.n,s.H.new x.2)
 |.build t parts=>(qgs s parts.toList).bind fun ps=>v (qdw C.P t ps)
 |.load t a=>(qbr s a).bind fun a=>v (qaq C.P s.H t a)
 |.store t a x=>(qbr s a).bind fun a=>(qbr s x).bind fun x=>(writeVar C.P s.H t a x).bind fun H=>some (.undef,H)
 |.nilCheck x=>(qbr s x).bind fun x=>match x with
  |.ptr b o=>some (.ptr b o,s.H)
  |.fptr cs o=>some (.fptr cs o,s.H)
  |.func (.func f) a b=>some (.func (.func f) a b,s.H)
  |.func (.yield f) a b=>some (.func (.yield f) a b,s.H)
  |.yld b=>some (.yld b,s.H)
  |_=>none
 |.binOp op t x y _=>(qbr s x).bind fun a=>(qbr s y).bind fun b=>v (qke C.P op t (qxe x || qxe y) a b)
 |.unOp op _ x=>(qbr s x).bind fun x=>v (unA op x)
 |.convert a b x=>(qbr s x).bind fun x=>qrk C.P s.H a b x
 |.makeFunc fn first cap=>(qex s first.toList).bind fun a=>(qex s cap.toList).bind fun b=>some (.func fn a b,s.H)
 |.slice t x lo hi mx=>(qbr s x).bind fun x=>(qg2 s lo).bind fun lo=>(qg2 s hi).bind fun hi=>(qg2 s mx).bind fun mx=>v (qcs C.P s.H t x lo hi mx)
 |.fieldAddr t x f=>(qbr s x).bind fun x=>v (qaw C.P t x f)
 |.field t x f=>(qbr s x).bind fun x=>v (qc9 C.P t x f)
 |.indexAddr t x i=>(qbr s x).bind fun x=>(qbr s i).bind fun i=>v (qan C.P t x i)
 |.index t x i=>(qbr s x).bind fun x=>(qbr s i).bind fun i=>v (ql1 C.P t x i)
 |.lookup t m k ok=>(qbr s m).bind fun m=>(qbr s k).bind fun k=>v (qia C.P s.H t m k ok)
 |.mapUpdate t m k x | .insert t m k x=>(qbr s m).bind fun m=>(qbr s k).bind fun k=>(qbr s x).bind fun x=>(qi9 C.P s.H t m k x).bind fun H=>some (.undef,H)
 |.extract x i=>(qbr s x).bind fun x=>match x with
  |.tup vs=>v (qca vs i)
  |_=>none
 |.range t x=>(qbr s x).bind fun x=>(C.P.underlying t).bind fun d=>match d,x with
  |.string,.str l=>some (.ptr s.H.n 0,s.H.new (.iter l 0))
  |.map _ _,.map b=>zae s.H b
  |_,_=>none
 |.entry x=>(qbr s x).bind fun x=>match x with
  |.ptr b 0=>v (qxa s.H b)
  |_=>none
 |.next x isS=>(qbr s x).bind fun x=>match isS,x with
  |true,.ptr b 0=>qsn s.H b
  |_,_=>none
 |.call c=>(qex s c.args.toList).bind fun args=>match c.callee with
  |.builtin b=>qc0 C.P s.H b c.argTypes args
  |.value f=>(qbr s f).bind fun f=>match f with
   |.func (.func f) first cap=>call (.fn f) (first++args++cap) s.H
   |.yld b=>call (.yl b) args s.H
   |_=>none
  |.invoke _ _=>none
 |_=>none
def qbn(s:St) (o:Oper):St:=match o.op with
 |.alloc _ | .box _ _=>match o.dst with
  |some t=>match s.get t with
   |some (.ptr b 0)=>match s.H.get b with
    |some (.cells [_])=>s
    |_=>s.wH (s.H.kill b)
   |_=>s
  |none=>s
 |_=>s
def qdt(C:Ctx) (call:qc5) (ops:Array Oper) (o:Oper) (s:St):Option St:=(qaz ops s o).bind fun g=>match g with
 |true=>(qae C call o s).bind fun r=>St.put (s.wH r.2) o.dst r.1
 |false=>s.put o.dst (.tup [])
def qej(C:Ctx) (call:qc5) (ops:Array Oper):List Oper->St->Option St
 |[],s=>some s
 |o::r,s=>(qdt C call ops o (qbn s o)).bind fun s=>qej C call ops r s
inductive Out where
 |normal
 |exit (id:Nat)
 |goto (l:Nat)
 |ret
def retVal(C:Ctx) (s:St):List ResultVar->Option (List AV)
 |[]=>some []
 |x::r=>(match x with
   |.tmp t=>s.get t
   |.cell a t=>(s.get a).bind fun p=>qaq C.P s.H t p).bind fun v=>(retVal C s r).bind fun vs=>some (v::vs)
def oneOr:List AV->AV
 |[v]=>v
 |vs=>.tup vs
inductive Cls where
 |pure|reads|allocs|acts
def qb9:Op->Cls
 |.move _ | .assign _ | .pick .. | .build .. | .nilCheck _ | .binOp .. | .unOp .. | .makeFunc .. | .fieldAddr .. | .field .. | .indexAddr .. | .index .. | .extract ..=>.pure
 |.load .. | .lookup .. | .slice ..=>.reads
 |.alloc .. | .box .. | .buildSlice .. | .makeMap .. | .makeSlice ..=>.allocs
 |.call c=>match c.callee with
  |.builtin b=>match b with
   |.len=>.reads
   |.max | .min=>.pure
   |_=>.acts
  |_=>.acts
 |_=>.acts
def ahead(bef:Array Nat) (i j:Nat):Bool:=(bef.getD j 0).testBit i
def qit(bef:Array Nat):List Nat->Bool
 |[]=>true
 |i::r=>match r with
  |[]=>true
  |j::_=>match ahead bef i j with
   |true=>qit bef r
   |false=>false
def qg7:Nat->List Oper->List Nat
 |_,[]=>[]
 |i,o::r=>match qb9 o.op with
  |.acts=>i::qg7 (Nat.succ i) r
  |_=>qg7 (Nat.succ i) r
def qei(ops:Array Oper) (o:Oper):List Nat:=
 (o.op.operands.toList.filterMap fun x=>match x with | .tmp t=>some t|_=>none) ++
 (match o.guard with
  |none=>[]
  |some (j,_)=>match (ops[j]?).bind (·.dst)with
   |some t=>[t]
   |none=>[])
def memN(n:Nat):List Nat->Bool
 |[]=>false
 |m::r=>match Nat.beq n m with
  |true=>true
  |false=>memN n r
def qes(bef:Array Nat) (i:Nat) (ts:List Nat):Nat->List Oper->Bool
 |_,[]=>true
 |j,p::r=>match p.dst with
  |none=>qes bef i ts (Nat.succ j) r
  |some t=>match memN t ts with
   |false=>qes bef i ts (Nat.succ j) r
   |true=>match (match Nat.beq i j with|true=>true|false=>match Nat.blt i j with|true=>ahead bef i j|false=>ahead bef j i)with
    |true=>qes bef i ts (Nat.succ j) r
    |false=>false
def qq8(bef:Array Nat) (ops:Array Oper):Nat->List Oper->Bool
 |_,[]=>true
 |i,o::r=>match qes bef i (o.dst.toList++qei ops o) 0 ops.toList with
  |true=>qq8 bef ops (Nat.succ i) r
  |false=>false
def qij(i:Nat):List Edge->Bool
 |[]=>true
 |e::r=>match Region.binds .any e with
  |false=>qij i r
  |true=>match Nat.blt e.on i with
   |true=>qij i r
   |false=>false
def qrp:Nat->List Oper->Bool
 |_,[]=>true
 |i,o::r=>match qij i o.after.toList with
  |true=>qrp (Nat.succ i) r
  |false=>false
def qpz(ops:Array Oper):Bool:=match qit (Region.before ops) (qg7 0 ops.toList)with
 |true=>match qq8 (Region.before ops) ops 0 ops.toList with
  |true=>qrp 0 ops.toList
  |false=>false
 |false=>false
structure Rec where
 i:Nat
 o:Oper
 s:St
 v:AV
structure Pend where
 i:Nat
 b:Nat
 k:Blk
structure DrawSt where
 s:St
 ps:List Pend
 hs:List (Nat × Heap)
 rs:List Rec
def qbg(bef:Array Nat) (i:Nat):List Pend->List (Nat × Blk)
 |[]=>[]
 |p::r=>match ahead bef p.i i with
  |true=>(p.b,p.k)::qbg bef i r
  |false=>qbg bef i r
def qb7(bef:Array Nat) (i:Nat):List Pend->List Pend
 |[]=>[]
 |p::r=>match ahead bef p.i i with
  |true=>qb7 bef i r
  |false=>p::qb7 bef i r
def allPend:List Pend->List (Nat × Blk)
 |[]=>[]
 |p::r=>(p.b,p.k)::allPend r
def Heap.lay(H:Heap) (l:List (Nat × Blk)):Heap:=match l with
 |[]=>H
 |x::r=>⟨H.n,qb8 (x::r) H.fs⟩
def qhf(C:Ctx) (call:qc5) (ops:Array Oper) (bef:Array Nat) (base i:Nat) (o:Oper) (d:DrawSt):Option DrawSt:=(qaz ops d.s o).bind fun g=>match g with
 |false=>(d.s.put o.dst (.tup [])).bind fun s'=>match qb9 o.op with
  |.acts=>some { d with s:=s'.wH (s'.H.lay (qbg bef i d.ps)),ps:=qb7 bef i d.ps,hs:=(i,s'.H.lay (qbg bef i d.ps))::d.hs }
  |_=>some { d with s:=s' }
 |true=>match qb9 o.op with
  |.allocs=>(qbt C o d.s).bind fun k=>(d.s.put o.dst (k.1 (base+i))).bind fun s'=>some { d with s:=s',ps:={ i:=i,b:=base+i,k:=k.2 }::d.ps }
  |.acts=>(qae C call o (d.s.wH (d.s.H.lay (qbg bef i d.ps)))).bind fun v=>(St.put (d.s.wH v.2) o.dst v.1).bind fun s'=>
    some { d with s:=s',ps:=qb7 bef i d.ps,hs:=(i,s'.H)::d.hs }
  |.reads=>(qae C call o d.s).bind fun v=>(d.s.put o.dst v.1).bind fun s'=>some { d with s:=s',rs:={ i:=i,o:=o,s:=d.s,v:=v.1 }::d.rs }
  |.pure=>(qae C call o d.s).bind fun v=>(d.s.put o.dst v.1).bind fun s'=>some { d with s:=s' }
def qly(C:Ctx) (call:qc5) (ops:Array Oper) (bef:Array Nat) (base:Nat):Nat->List Oper->DrawSt->Option DrawSt
 |_,[],d=>some d
 |i,o::r,d=>(qhf C call ops bef base i o d).bind fun d=>qly C call ops bef base (Nat.succ i) r d
def qeb(C:Ctx) (call:qc5) (x:Rec) (H:Heap):Bool:=match qae C call x.o { x.s with H:=H } with
 |some y=>decide (y.1=x.v)
 |none=>false
def qcq(C:Ctx) (call:qc5) (bef:Array Nat) (x:Rec) (H0:Heap):List (Nat × Heap)->Bool
 |[]=>qeb C call x H0
 |h::r=>match ahead bef x.i h.1 with
  |true=>qcq C call bef x H0 r
  |false=>match qeb C call x h.2 with
   |false=>false
   |true=>match ahead bef h.1 x.i with
    |true=>true
    |false=>qcq C call bef x H0 r
def qcp(C:Ctx) (call:qc5) (bef:Array Nat) (H0:Heap) (hs:List (Nat × Heap)):List Rec->Bool
 |[]=>true
 |x::r=>match qcq C call bef x H0 hs with
  |true=>qcp C call bef H0 hs r
  |false=>false
def qar:List Oper->St->St
 |[],s=>s
 |o::r,s=>qar r (qbn s o)
def qc7(s:St) (n:Nat):St:={ s with H:=⟨s.H.n+n,s.H.fs⟩ }
def qj9(C:Ctx) (call:qc5) (ops:Array Oper) (s:St):Option St:=match qpz ops with
 |false=>none
 |true=>(qly C call ops (Region.before ops) s.H.n 0 ops.toList ⟨qc7 (qar ops.toList s) ops.size,[],[],[]⟩).bind fun d=>
  match qcp C call (Region.before ops) (qc7 (qar ops.toList s) ops.size).H d.hs d.rs with
   |true=>some (d.s.wH (d.s.H.lay (allPend d.ps)))
   |false=>none
abbrev qov:=Code->St->Option (Out × St)
def ql6(ih:qov) (body:Code):Nat->Code->St->Option (Out × St)
 |0,_,_=>none
 |Nat.succ n,c,s=>(ih c s).bind fun r=>match r.1 with
  |.goto l=>match findLabel body l with
   |some rest=>ql6 ih body n rest r.2
   |none=>some r
  |_=>some r
def qrg(C:Ctx) (f:FuncId):Bool:=match C.P.funcs[f]? with
 | some fn => match fn.name == "runtime.NumGoroutine" with
  |true=>false
  |false=>fn.body.isSome
 |none=>false
def qun:Code->Option Out
 |.ret=>some .ret
 |.exit id=>some (.exit id)
 |.goto l=>some (.goto l)
 |_=>none
def qh9(C:Ctx) (call:qc5) (g:Operand) (ps:Array Tmp) (assign body:Code) (s:St):Option (Out × St):=(qbr s g).bind fun g=>match g with
 |.func (.func f) first cap=>match qrg C f with
  |false=>none
  |true=>(call (.fn f) (first++[.yld s.H.n]++cap) (s.H.new (.loop .ready none s.ks s.vs s.ts s.sz ps.toList assign body))).bind fun r=>(r.2.get s.H.n).bind fun k=>match k with
   |.loop st pend _ _ _ _ _ _ _=>match st with
    |.ready=>match pend with
     |none=>some (.normal,s.wH (r.2.drop s.H.n))
     |some _=>none
    |.done=>pend.bind fun c=>(qun c).bind fun x=>some (x,s.wH (r.2.drop s.H.n))
    |_=>none
   |_=>none
 |_=>none
def qfu(C:Ctx) (call:qc5) (rf:Bool) (ih:qov) (c:Code) (s:St):Option (Out × St):=match c with
 |.skip=>some (.normal,s)
 |.label _=>some (.normal,s)
 |.region _ ops draw=>match draw with
  |false=>(qej C call ops ops.toList s.wT).bind fun s=>some (.normal,s)
  |true=>(qj9 C call ops s.wT).bind fun s=>some (.normal,s)
 |.seq a b=>(ih a s).bind fun r=>match r.1 with
  |.normal=>ih b r.2
  |_=>some r
 |.cond c a b=>(qbr s c).bind fun v=>match v with
  |.bool t=>match t with
   |true=>ih a s
   |false=>ih b s
  |_=>none
 |.block id b=>(ih b s).bind fun r=>match r.1 with
  |.exit k=>match Nat.beq k id with
   |true=>some (.normal,r.2)
   |false=>some r
  |_=>some r
 |.loop b=>(ih b s).bind fun r=>match r.1 with
  |.normal=>ih (.loop b) r.2
  |_=>some r
 |.exit id=>some (.exit id,s)
 |.scope b=>ql6 ih b 1000000 b s
 |.goto l=>some (.goto l,s)
 |.ret=>some (.ret,s)
 |.rangeFunc g ps assign body=>match rf with
  |true=>qh9 C call g ps assign body s
  |false=>none
 |.refuse _=>none
def qp9:List Nat->List AV
 |[]=>[]
 |_::r=>.undef::qp9 r
def qqg(s:St):Nat->List AV->Option St
 |_,[]=>some s
 |i,v::r=>(s.set i v).bind fun s=>qqg s (Nat.succ i) r
def enterF(C:Ctx) (f:FuncId) (fn:Func) (args:List AV) (H:Heap):Option St:=
 qqg { ks:=C.keep f,vs:=qp9 (C.keep f),ts:=[],sz:=args.length+(fn.ntmps - args.length),H:=⟨H.n,[]::H.fs⟩ } 0 args
def qse(s:St):List Nat->List AV->Option St
 |[],[]=>some s
 |p::ps,v::vs=>(s.set p v).bind fun s=>qse s ps vs
 |_,_=>none
def qh5(x:Out):Bool × LoopState × Option Code:=match x with
 |.normal=>(true,.ready,none)
 |.ret=>(false,.done,some .ret)
 |.exit id=>(false,.done,some (.exit id))
 |.goto l=>(false,.done,some (.goto l))
def qoi(ih:qov) (b:Nat) (args:List AV) (H:Heap):Option (AV × Heap):=(H.get b).bind fun k=>match k with
 |.loop st _ ks vs ts sz ps assign body=>match st with
  |.ready=>(qse ⟨ks,vs,ts,sz,⟨H.n,[]::H.fs⟩⟩ ps args).bind fun s=>(ih assign s).bind fun r=>match r.1 with
   |.normal=>(r.2.H.get b).bind fun k1=>match k1 with
    |.loop st1 pend1 ks1 vs1 ts1 sz1 ps1 as1 bd1=>match st1 with
     |.ready=>(r.2.H.set b (.loop .busy pend1 ks1 vs1 ts1 sz1 ps1 as1 bd1)).bind fun H1=>(ih body (r.2.wH H1)).bind fun r=>(r.2.H.get b).bind fun k2=>match k2 with
      |.loop _ _ ks2 vs2 ts2 sz2 ps2 as2 bd2=>(r.2.H.set b (.loop (qh5 r.1).2.1 (qh5 r.1).2.2 ks2 vs2 ts2 sz2 ps2 as2 bd2)).bind fun H2=>
       some (.bool (qh5 r.1).1,qsj (.bool true) H2)
      |_=>none
     |_=>none
    |_=>none
   |_=>none
  |_=>none
 |_=>none
def qpv(C:Ctx) (ih ihR:qov):qc5:=fun c args H=>match c with
 |.yl b=>qoi ihR b args H
 |.fn f=>match C.summ f with
  |some g=>g args H
  | none => (C.P.funcs[f]?).bind fun fn => match fn.name == "runtime.NumGoroutine" with
   |true=>none
   |false=>fn.body.bind fun body=>(enterF C f fn args H).bind fun s=>(ih body s).bind fun r=>match r.1 with
    |.normal=>(retVal C r.2 fn.results.toList).bind fun vs=>some (oneOr vs,qsj (oneOr vs) r.2.H)
    |.ret=>(retVal C r.2 fn.results.toList).bind fun vs=>some (oneOr vs,qsj (oneOr vs) r.2.H)
    |_=>none
def qre(C:Ctx):Nat->Bool->qov
 |0,_=>fun _ _=>none
 |Nat.succ n,rf=>fun c s=>qfu C (qpv C (qre C n true) (qre C n false)) rf (qre C n rf) c s
def callN(C:Ctx) (n:Nat):qc5:=qpv C (qre C n true) (qre C n false)
structure Loc where
 cb:Nat
 off:Nat
 fin:Nat
def globs:List Nat:=[0]
def ivars:List Nat:=[]
def isIf(v:Value):Prop:=v=.nilIface\/∃t p,v=.iface t p
structure Place where
 at_:Nat->Option Loc
 W:World
 B:Nat->Prop
 gl:∀g,g∈globs->B g/\∃m,W.cell? ⟨g,0,none⟩=some (.int .i64 m)
 gi:∀g,g∈ivars->B g/\∃v,W.cell? ⟨g,0,none⟩=some v/\isIf v
 gp:∀x,x∈pins->B x.1/\∀i n,x.2[i]? = some n->W.cell? ⟨x.1,i,none⟩=some (.int .u8 n)
 gx:∀x,x∈tabs->B x.1/\∃t fz,W.heap[x.1]? = some (.cells (x.2.2.map (Value.int x.2.1)).toArray t fz)
instance:CoeFun Place fun _=>Nat->Option Loc:=⟨Place.at_⟩
structure Place.le (ρ ρ':Place):Prop where
 at_:∀b l,ρ b=some l->ρ' b=some l
 fz:∀k,ρ.B k->ρ'.B k/\ρ'.W.heap[k]? = ρ.W.heap[k]?
 os:ρ'.W.os=ρ.W.os
 tape:ρ'.W.tape=ρ.W.tape
 output:ρ'.W.output=ρ.W.output
instance (ρ ρ':Place):CoeFun (ρ.le ρ') fun _=>∀b l,ρ b=some l->ρ' b=some l:=⟨Place.le.at_⟩
theorem Place.le_refl(ρ:Place):ρ.le ρ:=⟨fun _ _ h=>h,fun _ h=>⟨h,rfl⟩,rfl,rfl,rfl⟩
theorem Place.le_trans{a b c:Place} (h:a.le b) (k:b.le c):a.le c:=
 ⟨fun x l e=>k x l (h x l e),fun x hx=>let ⟨h1,h2⟩:=h.fz x hx;let ⟨k1,k2⟩:=k.fz x h1;⟨k1,k2.trans h2⟩,k.os.trans h.os,k.tape.trans h.tape,k.output.trans h.output⟩
def Place.upd(ρ:Place) (b:Nat) (l:Loc):Place:={ ρ with at_:=fun x=>if x=b then some l else ρ x }
theorem Place.le_upd{ρ:Place} {b:Nat} {l:Loc} (h:ρ b=none):ρ.le (ρ.upd b l):=by
 refine⟨fun x m e=>?_,fun _ h=>⟨h,rfl⟩,rfl,rfl,rfl⟩;show (if x=b then some l else ρ x)=some m;split
 next hx=>subst hx;rw[h]at e;cases e
 ·exact e
theorem Place.upd_same{ρ:Place} {b:Nat} {l:Loc}:(ρ.upd b l) b=some l:=by simp[Place.upd]
theorem Place.upd_other{ρ:Place} {b x:Nat} {l:Loc} (h:x≠b):(ρ.upd b l) x=ρ x:=by simp[Place.upd,h]
def Place.bare(ρ:Place):Place:={ ρ with at_:=fun _=>none }
theorem Place.bare_le(ρ:Place):ρ.bare.le ρ:=⟨fun _ _ h=>by simp[Place.bare]at h,fun _ h=>⟨h,rfl⟩,rfl,rfl,rfl⟩
theorem Place.le.bare{ρ ρ':Place} (h:ρ.le ρ'):ρ.bare.le ρ'.bare:=⟨fun _ _ h=>by simp[Place.bare]at h,h.fz,h.os,h.tape,h.output⟩
theorem Place.le.cell{ρ ρ':Place} (h:ρ.le ρ') {a:Addr} (ha:ρ.B a.block):ρ'.W.cell? a=ρ.W.cell? a:=by simp only[World.cell?,(h.fz _ ha).2]
inductive VR:Place->AV->Value->Prop
 |undef {ρ:Place} (x:Value):VR ρ .undef x
 |bool {ρ:Place} (b:Bool):VR ρ (.bool b) (.bool b)
 |int {ρ:Place} (k:IntKind) (n:Int):VR ρ (.int k n) (.int k n)
 |float {ρ:Place} (k:FloatKind) (n:Nat):VR ρ (.float k n) (.float k n)
 |cplx {ρ:Place} (k:FloatKind) (a b:Nat):VR ρ (.cplx k a b) (.complex k a b)
 |str {ρ:Place} (s:List UInt8):VR ρ (.str s) (.string ⟨s.toArray⟩)
 |nilP {ρ:Place}:VR ρ .nilP (.pointer none)
 |ptr {ρ:Place} (b o:Nat) (l:Loc) (h:ρ b=some l):VR ρ (.ptr b o) (.pointer (some ⟨l.cb,l.off+o,none⟩))
 |fptr {ρ:Place} (cs:List AV) (o cb off:Nat) (vs:Nat->Value) (hB:ρ.B cb)
   (hc:∀i,i < cs.length->ρ.W.cell? ⟨cb,off+i,none⟩=some (vs i)) (hv:∀i (h:i < cs.length),VR ρ.bare cs[i] (vs i)) :
   VR ρ (.fptr cs o) (.pointer (some ⟨cb,off+o,none⟩))
 |nilS {ρ:Place}:VR ρ .nilS (.slice none 0 0)
 |eslc {ρ:Place} (a:Addr) (c:Nat):VR ρ .eslc (.slice (some a) 0 c)
 |zslcN {ρ:Place}:VR ρ .zslc (.slice none 0 0)
 |zslcE {ρ:Place} (a:Addr):VR ρ .zslc (.slice (some a) 0 0)
 |slcE {ρ:Place} (b o len c:Nat) (l:Loc) (h:ρ b=some l) (hc:len<=c):VR ρ (.slc b o len (.ex c)) (.slice (some ⟨l.cb,l.off+o,none⟩) len c)
 |slcR {ρ:Place} (b o len sz c:Nat) (l:Loc) (h:ρ b=some l) (hc:len<=c) (hf:l.off+o+c * sz=l.fin/\c<=9223372036854775807):VR ρ (.slc b o len (.rest sz)) (.slice (some ⟨l.cb,l.off+o,none⟩) len c)
 |fslc {ρ:Place} (sz:Nat) (es:List AV) (cb off cap:Nat) (vs:Nat->Nat->Value) (hB:ρ.B cb) (hcap:es.length<=cap)
   (hz:∀i (h:i < es.length),es[i].cells.length=sz)
   (hc:∀i,i < es.length->∀j,j < sz->ρ.W.cell? ⟨cb,off+i * sz+j,none⟩=some (vs i j))
   (hv:∀i (h:i < es.length) j (h':j < es[i].cells.length),VR ρ.bare es[i].cells[j] (vs i j)) :
   VR ρ (.fslc sz es) (.slice (some ⟨cb,off,none⟩) es.length cap)
 |xslc {ρ:Place} (sz:Nat) (es:List AV) (cb off:Nat) (vs:Nat->Nat->Value) (hB:ρ.B cb)
   (hz:∀i (h:i < es.length),es[i].cells.length=sz)
   (hc:∀i,i < es.length->∀j,j < sz->ρ.W.cell? ⟨cb,off+i * sz+j,none⟩=some (vs i j))
   (hv:∀i (h:i < es.length) j (h':j < es[i].cells.length),VR ρ.bare es[i].cells[j] (vs i j)) :
   VR ρ (.xslc sz es) (.slice (some ⟨cb,off,none⟩) es.length es.length)
 |fnil {ρ:Place} (sz:Nat):VR ρ (.fslc sz []) (.slice none 0 0)
 |fnone {ρ:Place} (sz:Nat) (a:Addr) (c:Nat):VR ρ (.fslc sz []) (.slice (some a) 0 c)
 |nilM {ρ:Place}:VR ρ .nilM (.map none)
 |map {ρ:Place} (b:Nat) (l:Loc) (h:ρ b=some l):VR ρ (.map b) (.map (some l.cb))
 |nilF {ρ:Place}:VR ρ .nilF .nilFunc
 |func {ρ:Place} (fn:Fn) (a c:List AV) (a' c':Array Value) (ha:a'.size=a.length) (hc:c'.size=c.length)
   (hav:∀i (h:i < a.length) (h':i < a'.size),VR ρ a[i] a'[i]) (hcv:∀i (h:i < c.length) (h':i < c'.size),VR ρ c[i] c'[i]) :
   VR ρ (.func fn a c) (.func fn a' c')
 |nilI {ρ:Place}:VR ρ .nilI .nilIface
 |iface {ρ:Place} (t:TypeId) (v:AV) (x:Value) (h:VR ρ v x):VR ρ (.iface t v) (.iface t x)
 |agg {ρ:Place} (cs:List AV) (vs:Array Value) (hl:vs.size=cs.length) (hv:∀i (h:i < cs.length) (h':i < vs.size),VR ρ cs[i] vs[i]):VR ρ (.agg cs) (.agg vs)
 |tup {ρ:Place} (cs:List AV) (vs:Array Value) (hl:vs.size=cs.length) (hv:∀i (h:i < cs.length) (h':i < vs.size),VR ρ cs[i] vs[i]):VR ρ (.tup cs) (.tuple vs)
 |yld {ρ:Place} (b:Nat) (l:Loc) (h:ρ b=some l):VR ρ (.yld b) (.func (.yield l.cb) #[] #[])
 |zptrN {ρ:Place} (b o:Nat):VR ρ (.zptr b o) (.pointer none)
 |zptrP {ρ:Place} (b o:Nat) (l:Loc) (h:ρ b=some l):VR ρ (.zptr b o) (.pointer (some ⟨l.cb,l.off+o,none⟩))
 |val {ρ:Place} (v:Value) (h:v.oneCell'=true):VR ρ (.val v) v
section
theorem VR.mono{ρ ρ':Place} (h:ρ.le ρ') {v:AV} {x:Value} (r:VR ρ v x):VR ρ' v x:=by
 induction r generalizing ρ' with
 |undef x=>exact .undef x
 |bool b=>exact .bool b
 |int k n=>exact .int k n
 |float k n=>exact .float k n
 |cplx k a b=>exact .cplx k a b
 |str s=>exact .str s
 |nilP=>exact .nilP
 |ptr b o l e=>exact .ptr b o l (h _ _ e)
 |fptr cs o cb off vs hB hc hv ih=>exact .fptr cs o cb off vs (h.fz _ hB).1 (fun i hi=>by rw[h.cell (a:=⟨cb,_,none⟩) hB];exact hc i hi) (fun i hi=>ih i hi h.bare)
 |nilS=>exact .nilS
 |eslc a c=>exact .eslc a c
 |zslcN=>exact .zslcN
 |zslcE a=>exact .zslcE a
 |slcE b o len c l e hc=>exact .slcE b o len c l (h _ _ e) hc
 |slcR b o len sz c l e hc hf=>exact .slcR b o len sz c l (h _ _ e) hc hf
 |fslc sz es cb off cap vs hB hcap hz hc hv ih=>exact .fslc sz es cb off cap vs (h.fz _ hB).1 hcap hz (fun i hi j hj=>by rw[h.cell (a:=⟨cb,_,none⟩) hB];exact hc i hi j hj) (fun i hi j hj=>ih i hi j hj h.bare)
 |xslc sz es cb off vs hB hz hc hv ih=>exact .xslc sz es cb off vs (h.fz _ hB).1 hz (fun i hi j hj=>by rw[h.cell (a:=⟨cb,_,none⟩) hB];exact hc i hi j hj) (fun i hi j hj=>ih i hi j hj h.bare)
 |fnil sz=>exact .fnil sz
 |fnone sz a c=>exact .fnone sz a c
 |nilM=>exact .nilM
 |map b l e=>exact .map b l (h _ _ e)
 |nilF=>exact .nilF
 |func fn a c a' c' ha hc hav hcv iha ihc=>exact .func fn a c a' c' ha hc (fun i h1 h2=>iha i h1 h2 h) (fun i h1 h2=>ihc i h1 h2 h)
 |nilI=>exact .nilI
 |iface t v x _ ih=>exact .iface t v x (ih h)
 |agg cs vs hl hv ih=>exact .agg cs vs hl fun i h1 h2=>ih i h1 h2 h
 |tup cs vs hl hv ih=>exact .tup cs vs hl fun i h1 h2=>ih i h1 h2 h
 |yld b l e=>exact .yld b l (h _ _ e)
 |zptrN b o=>exact .zptrN b o
 |zptrP b o l e=>exact .zptrP b o l (h _ _ e)
 |val v e=>exact .val v e
theorem VR.oneCell{ρ:Place} {v:AV} {x:Value} (r:VR ρ v x) (h:v.single=true):x.oneCell'=true:=by cases r<;>first|rfl|assumption|simp[AV.single]at h
def VRs(ρ:Place) (vs:List AV) (xs:List Value):Prop:=xs.length=vs.length/\∀i (h:i < vs.length) (h':i < xs.length),VR ρ vs[i] xs[i]
theorem VRs.nil{ρ:Place}:VRs ρ [] []:=⟨rfl,fun i h=>absurd h (Nat.not_lt_zero i)⟩
theorem VRs.cons{ρ:Place} {v:AV} {x:Value} {vs:List AV} {xs:List Value} (h:VR ρ v x) (r:VRs ρ vs xs):VRs ρ (v::vs) (x::xs):=by
 refine⟨by simp[r.1],fun i h1 h2=>?_⟩;cases i with
 |zero=>exact h
 |succ i=>exact r.2 i (by simpa using h1) (by simpa using h2)
theorem VRs.head{ρ:Place} {v:AV} {x:Value} {vs:List AV} {xs:List Value} (r:VRs ρ (v::vs) (x::xs)):VR ρ v x:=r.2 0 (by simp) (by simp)
theorem VRs.tail{ρ:Place} {v:AV} {x:Value} {vs:List AV} {xs:List Value} (r:VRs ρ (v::vs) (x::xs)):VRs ρ vs xs:=
 ⟨by simpa using r.1,fun i h1 h2=>r.2 (i+1) (by simpa using h1) (by simpa using h2)⟩
theorem VRs.mono{ρ ρ':Place} (h:ρ.le ρ') {vs:List AV} {xs:List Value} (r:VRs ρ vs xs):VRs ρ' vs xs:=⟨r.1,fun i h1 h2=>(r.2 i h1 h2).mono h⟩
theorem VRs.append{ρ:Place} {vs us:List AV} {xs ys:List Value} (h:VRs ρ vs xs) (k:VRs ρ us ys):VRs ρ (vs++us) (xs++ys):=by
 induction vs generalizing xs with
 |nil=>cases xs with
  |nil=>exact k
  |cons _ _=>have:=h.1;simp at this
 |cons v vs ih=>cases xs with
  |nil=>have:=h.1;simp at this
  |cons x xs=>exact .cons h.head (ih h.tail)
theorem zat{v:Value} (h:v.oneCell'=true):v.cells.toList=[v]:=by cases v<;>first|rfl|simp[Value.oneCell']at h
theorem VR.cells{ρ:Place} {v:AV} {x:Value} (r:VR ρ v x) (h:v≠.undef) (h':∀l,v≠.tup l):VRs ρ v.cells x.cells.toList:=by
 cases r with
 |undef _=>exact absurd rfl h
 |tup cs vs _ _=>exact absurd rfl (h' cs)
 |agg cs vs hl hv=>exact⟨by simp[Value.cells,AV.cells,hl],fun i h1 h2=>hv i h1 (by simpa[Value.cells]using h2)⟩
 |val _ e=>rw[zat e];exact .cons (.val _ e) .nil
 |_=>exact .cons (by constructor<;>assumption) .nil
def zd2(ents:Array MapEntry) (clock:Nat):Prop:=(ents.toList.map (·.born)).Nodup/\∀x,x∈ents.toList->x.born < clock
structure RngR where
 cbm:Nat
 ents:Array MapEntry
 clock:Nat
 since:Nat
 seen:Array Nat
 c0:Nat
def RngR.ok(r:RngR):Prop:=(r.ents.toList.map (·.born)).Nodup/\(∀x,x∈r.ents.toList->x.born < r.since)/\r.since<=r.c0/\r.c0=r.clock
def RngR.says(r:RngR) (ρ:Place) (left:List (AV × AV)) (cur:Option (AV × AV)):Prop:=
 (left.length=(leftOf r.ents r.seen).toList.length/\∀i (h:i < left.length) (h':i < (leftOf r.ents r.seen).toList.length),VR ρ left[i].1 (leftOf r.ents r.seen).toList[i].key/\VR ρ left[i].2 (leftOf r.ents r.seen).toList[i].val) /\
 ∀e,cur=some e->∃(x:MapEntry) (s:Array Nat),x∈r.ents.toList/\r.seen=s.push x.born/\VR ρ e.1 x.key/\VR ρ e.2 x.val
theorem RngR.says_mono{r:RngR} {ρ ρ':Place} {left:List (AV × AV)} {cur:Option (AV × AV)} (h:ρ.le ρ') (k:r.says ρ left cur):r.says ρ' left cur:=
 ⟨⟨k.1.1,fun i a b=>⟨(k.1.2 i a b).1.mono h,(k.1.2 i a b).2.mono h⟩⟩,fun e he=>let ⟨x,s,h1,h2,h3,h4⟩:=k.2 e he;⟨x,s,h1,h2,h3.mono h,h4.mono h⟩⟩
def BlkR(ρ:Place) (w:World) (l:Loc):Blk->Prop
 |.cells cs=>l.off+cs.length<=l.fin /\
   (∀i,i < l.fin->(w.cell? ⟨l.cb,i,none⟩).isSome=true/\w.frozen? ⟨l.cb,i,none⟩=false) /\
   ∀i (h:i < cs.length),∃x,w.cell? ⟨l.cb,l.off+i,none⟩=some x/\VR ρ cs[i] x
 |.map es=>∃(ents:Array MapEntry) (clock:Nat),w.heap[l.cb]? = some (.map ents clock)/\ents.size=es.length /\
   (∀i (h:i < es.length) (h':i < ents.size),VR ρ es[i].1 ents[i].key/\VR ρ es[i].2 ents[i].val)/\zd2 ents clock
 |.obj t cs=>(l.off+cs.length<=l.fin /\
   (∀i,i < l.fin->(w.cell? ⟨l.cb,i,none⟩).isSome=true/\w.frozen? ⟨l.cb,i,none⟩=false) /\
   ∀i (h:i < cs.length),∃x,w.cell? ⟨l.cb,l.off+i,none⟩=some x/\VR ρ cs[i] x)/\l.off=0/\w.shape? l.cb=some (t,cs.length)
 |.buf t fz cs=>(l.off+cs.length<=l.fin/\(∀i,i < l.fin->(w.cell? ⟨l.cb,i,none⟩).isSome=true) /\
   ∀i (h:i < cs.length),∃x,w.cell? ⟨l.cb,l.off+i,none⟩=some x/\VR ρ cs[i] x)/\l.off=0/\fz<=cs.length /\
   ∃c lo hi,w.heap[l.cb]? = some (.cells c t (lo,hi))/\(lo=hi\/hi<=fz)
 |.iter s pos=>w.heap[l.cb]? = some (.stringIter ⟨s.toArray⟩ pos)/\l.off=0
 |.rng left cur=>l.off=0/\∃r:RngR,ρ.B r.cbm/\ρ.W.heap[r.cbm]? = some (.map r.ents r.clock)/\r.ok/\w.heap[l.cb]? = some (.mapIter (some r.cbm) r.since r.seen r.c0)/\r.says ρ.bare left cur
 |.loop st pend ks vs ts sz ps assign body=>∃r:Loop,w.heap[l.cb]? = some (.loop r)/\r.state=st/\r.pending=pend/\r.params.toList=ps/\r.assign=assign/\r.body=body/\r.tmps.size=sz /\
   ∀t v,(match qfi t ks vs with|some v=>some v|none=>look t ts)=some v->VR ρ v (r.tmps.getD t undef)
def Heap.ents(H:Heap):List (Nat × Blk):=H.fs.flatten
theorem BlkR.mono{ρ ρ':Place} (h:ρ.le ρ') {w:World} {l:Loc} {k:Blk} (r:BlkR ρ w l k):BlkR ρ' w l k:=by
 cases k with
 |cells cs=>exact⟨r.1,r.2.1,fun i hi=>let ⟨x,hx,hv⟩:=r.2.2 i hi;⟨x,hx,hv.mono h⟩⟩
 |map es=>obtain⟨ents,clock,h1,h2,h3,h4⟩:=r;exact⟨ents,clock,h1,h2,fun i a b=>⟨(h3 i a b).1.mono h,(h3 i a b).2.mono h⟩,h4⟩
 |obj t cs=>exact⟨⟨r.1.1,r.1.2.1,fun i hi=>let ⟨x,hx,hv⟩:=r.1.2.2 i hi;⟨x,hx,hv.mono h⟩⟩,r.2⟩
 |buf t fz cs=>exact⟨⟨r.1.1,r.1.2.1,fun i hi=>let ⟨x,hx,hv⟩:=r.1.2.2 i hi;⟨x,hx,hv.mono h⟩⟩,r.2⟩
 |iter s pos=>exact r
 |rng left cur=>obtain⟨h0,q,h1,h2,h3,h4,h5⟩:=r;exact⟨h0,q,(h.fz _ h1).1,(h.fz _ h1).2.trans h2,h3,h4,RngR.says_mono h.bare h5⟩
 |loop=>obtain⟨q,h1,h2,h3,h4,h5,h6,h7,h8⟩:=r;exact⟨q,h1,h2,h3,h4,h5,h6,h7,fun t v e=>(h8 t v e).mono h⟩
theorem BlkR.same{ρ:Place} {w w':World} {l:Loc} {k:Blk} (h:w'.heap[l.cb]? = w.heap[l.cb]?) (r:BlkR ρ w l k):BlkR ρ w' l k:=by
 have hc:∀i,w'.cell? ⟨l.cb,i,none⟩=w.cell? ⟨l.cb,i,none⟩:=fun i=>by simp[World.cell?,h]
 have hf:∀i,w'.frozen? ⟨l.cb,i,none⟩=w.frozen? ⟨l.cb,i,none⟩:=fun i=>by simp[World.frozen?,h]
 cases k with
 |cells cs=>exact⟨r.1,fun i hi=>by rw[hc,hf];exact r.2.1 i hi,fun i hi=>by rw[hc];exact r.2.2 i hi⟩
 |map es=>obtain⟨ents,clock,h1,h2,h3⟩:=r;exact⟨ents,clock,by rw[h];exact h1,h2,h3⟩
 |obj t cs=>exact⟨⟨r.1.1,fun i hi=>by rw[hc,hf];exact r.1.2.1 i hi,fun i hi=>by rw[hc];exact r.1.2.2 i hi⟩,r.2.1,by simp only[World.shape?,h];exact r.2.2⟩
 |buf t fz cs=>exact⟨⟨r.1.1,fun i hi=>by rw[hc];exact r.1.2.1 i hi,fun i hi=>by rw[hc];exact r.1.2.2 i hi⟩,r.2.1,r.2.2.1,by rw[h];exact r.2.2.2⟩
 |iter s pos=>exact⟨by rw[h];exact r.1,r.2⟩
 |rng left cur=>obtain⟨h0,q,h1,h2,h3,h4,h5⟩:=r;exact⟨h0,q,h1,h2,h3,by rw[h];exact h4,h5⟩
 |loop=>obtain⟨q,h1,h2⟩:=r;exact⟨q,by rw[h];exact h1,h2⟩
theorem BlkR.rdR{ρ:Place} {w:World} {l:Loc} {k:Blk} {cs:List AV} (r:BlkR ρ w l k) (h:k.rd=some cs) :
  l.off+cs.length<=l.fin/\(∀i,i < l.fin->(w.cell? ⟨l.cb,i,none⟩).isSome=true)/\∀i (h:i < cs.length),∃x,w.cell? ⟨l.cb,l.off+i,none⟩=some x/\VR ρ cs[i] x:=by
 cases k<;>simp only[Blk.rd,sj,reduceCtorEq]at h
 ·subst h;exact⟨r.1,fun i hi=>(r.2.1 i hi).1,r.2.2⟩
 ·subst h;exact⟨r.1.1,fun i hi=>(r.1.2.1 i hi).1,r.1.2.2⟩
 ·subst h;exact r.1
theorem BlkR.wtR{ρ:Place} {w:World} {l:Loc} {k:Blk} {cs:List AV} {o:Nat} (r:BlkR ρ w l k) (h:k.wt o=some cs) :
  k.rd=some cs/\∀i,i < l.fin->l.off+o<=i->w.frozen? ⟨l.cb,i,none⟩=false:=by
 cases k<;>simp only[Blk.wt,sj,reduceCtorEq]at h
 ·subst h;exact⟨rfl,fun i hi _=>(r.2.1 i hi).2⟩
 ·subst h;exact⟨rfl,fun i hi _=>(r.1.2.1 i hi).2⟩
 ·split at h
  ·rename_i hb;simp only[sj]at h;subst h;refine⟨rfl,fun i hi ho=>?_⟩;obtain⟨_,h0,_,c,lo,hi',hh,hz⟩:=r;have hb:=Nat.le_of_ble_eq_true hb;simp only[World.frozen?,hh];rcases hz with rfl|hz
   ·by_cases h1:lo<=i<;>simp<;>omega
   ·simp;omega
  ·cases h
theorem BlkR.reR{ρ:Place} {w w':World} {l:Loc} {k:Blk} {cs cs':List AV} {o:Nat} (r:BlkR ρ w l k) (h:k.wt o=some cs) (hl:cs'.length=cs.length)
  (hs:∀i,i < l.fin->(w'.cell? ⟨l.cb,i,none⟩).isSome=true) (hf:∀i,w'.frozen? ⟨l.cb,i,none⟩=w.frozen? ⟨l.cb,i,none⟩)
  (hk:∀c t fr,w.heap[l.cb]? = some (.cells c t fr)->∃c',w'.heap[l.cb]? = some (.cells c' t fr)/\c'.size=c.size)
  (hv:∀i (h:i < cs'.length),∃x,w'.cell? ⟨l.cb,l.off+i,none⟩=some x/\VR ρ cs'[i] x):BlkR ρ w' l (k.re cs'):=by
 cases k<;>simp only[Blk.wt,sj,reduceCtorEq]at h
 ·subst h;exact⟨by rw[hl];exact r.1,fun i hi=>⟨hs i hi,by rw[hf];exact(r.2.1 i hi).2⟩,hv⟩
 ·subst h;refine⟨⟨by rw[hl];exact r.1.1,fun i hi=>⟨hs i hi,by rw[hf];exact(r.1.2.1 i hi).2⟩,hv⟩,r.2.1,?_⟩;have hsh:=r.2.2;unfold World.shape? at hsh ⊢;split at hsh
  next c e fr he=>obtain⟨c',hc',hz⟩:=hk _ _ _ he;simp only[hc',hz,hl];exact hsh
  ·cases hsh
 ·split at h
  ·simp only[sj]at h;subst h;obtain⟨r1,r2,r3,c,lo,hi',hh,hz⟩:=r;obtain⟨c',hc',_⟩:=hk _ _ _ hh;exact⟨⟨by rw[hl];exact r1.1,hs,hv⟩,r2,by rw[hl];exact r3,c',lo,hi',hc',hz⟩
  ·cases h
structure Sim (ρ:Place) (H:Heap) (w:World):Prop where
 base:∀k,ρ.B k->k < w.heap.size
 below:∀k,ρ.B k->w.heap[k]? = ρ.W.heap[k]?
 os:w.os=ρ.W.os
 tape:w.tape=ρ.W.tape
 output:w.output=ρ.W.output
 dom:∀b,H.n<=b->ρ b=none
 nodup:(H.ents.map (·.1)).Nodup
 live:∀e,e∈H.ents->∃l,ρ e.1=some l/\¬ ρ.B l.cb/\l.cb < w.heap.size/\BlkR ρ w l e.2
 inj:∀e e',e∈H.ents->e'∈H.ents->∀l l',ρ e.1=some l->ρ e'.1=some l'->l.cb=l'.cb->e.1=e'.1
structure Step (ρ:Place) (H:Heap) (w:World) (ρ':Place) (H':Heap) (w':World):Prop where
 le:ρ.le ρ'
 size:w.heap.size<=w'.heap.size
 keeps:∀k,k < w.heap.size->(∀e,e∈H.ents->∀l,ρ e.1=some l->l.cb≠k)->w'.heap[k]? = w.heap[k]?
 rows:∀e',e'∈H'.ents->∀l',ρ' e'.1=some l'->(∃e,e∈H.ents/\∃l,ρ e.1=some l/\l.cb=l'.cb)\/w.heap.size<=l'.cb
 num:H.n<=H'.n
 low:∀b,b < H.n->ρ' b=ρ b
 cold:∀k,ρ'.B k->ρ.B k\/(∃e,e∈H.ents/\∃l,ρ e.1=some l/\l.cb=k)\/w.heap.size<=k
theorem Step.trans{ρ ρ' ρ'':Place} {H H' H'':Heap} {w w' w'':World} (h:Step ρ H w ρ' H' w') (k:Step ρ' H' w' ρ'' H'' w''):Step ρ H w ρ'' H'' w'' where
 le:=Place.le_trans h.le k.le
 size:=Nat.le_trans h.size k.size
 num:=Nat.le_trans h.num k.num
 low:=fun b hb=>(k.low b (Nat.lt_of_lt_of_le hb h.num)).trans (h.low b hb)
 cold:=fun j hj=>by
  rcases k.cold j hj with h1|⟨e,he,l,hl,hlj⟩|hge
  ·exact h.cold j h1
  ·rcases h.rows e he l hl with⟨e0,he0,l0,hl0,hcb⟩|hge
   ·exact .inr (.inl ⟨e0,he0,l0,hl0,hcb.trans hlj⟩)
   ·exact .inr (.inr (by rw[<- hlj];exact hge))
  ·exact .inr (.inr (Nat.le_trans h.size hge))
 keeps:=fun j hj hn=>by
  rw[k.keeps j (Nat.lt_of_lt_of_le hj h.size) (fun e he l hl hlj=>?_),h.keeps j hj hn];rcases h.rows e he l hl with⟨e0,he0,l0,hl0,hcb⟩|hge
  ·exact hn e0 he0 l0 hl0 (by rw[hcb,hlj])
  ·omega
 rows:=fun e he l hl=>by
  rcases k.rows e he l hl with⟨e1,he1,l1,hl1,hcb⟩|hge
  ·rcases h.rows e1 he1 l1 hl1 with⟨e0,he0,l0,hl0,hcb0⟩|hge
   ·exact .inl ⟨e0,he0,l0,hl0,by rw[hcb0,hcb]⟩
   ·exact .inr (by rw[<- hcb];exact hge)
  ·exact .inr (Nat.le_trans h.size hge)
theorem Step.of_sub{ρ:Place} {H H':Heap} {w:World} (hs:∀e,e∈H'.ents->e∈H.ents) (hn:H.n<=H'.n):Step ρ H w ρ H' w where
 le:=Place.le_refl _
 size:=Nat.le_refl _
 num:=hn
 low:=fun _ _=>rfl
 cold:=fun _ h=>.inl h
 keeps:=fun _ _ _=>rfl
 rows:=fun e he l h=>.inl ⟨e,hs e he,l,h,rfl⟩
theorem Sim.of_sub{ρ:Place} {H H':Heap} {w:World} (s:Sim ρ H w) (hs:∀e,e∈H'.ents->e∈H.ents) (hn:H.n<=H'.n) (hd:(H'.ents.map (·.1)).Nodup):Sim ρ H' w where
 base:=s.base
 below:=s.below
 os:=s.os
 tape:=s.tape
 output:=s.output
 dom:=fun b hb=>s.dom b (Nat.le_trans hn hb)
 nodup:=hd
 live:=fun e he=>s.live e (hs e he)
 inj:=fun e e' he he'=>s.inj e e' (hs e he) (hs e' he')
theorem Step.refl(ρ:Place) (H:Heap) (w:World):Step ρ H w ρ H w:=.of_sub (fun _ h=>h) (Nat.le_refl _)
theorem Sim.drew{ρ:Place} {H:Heap} {w:World} (s:Sim ρ H w):Sim ρ H w.drew where
 base:=s.base
 below:=s.below
 os:=s.os
 tape:=s.tape
 output:=s.output
 dom:=s.dom
 nodup:=s.nodup
 live:=fun e he=>let ⟨l,h1,h2,h3,h4⟩:=s.live e he;⟨l,h1,h2,h3,h4.same rfl⟩
 inj:=s.inj
theorem Step.drew(ρ:Place) (H:Heap) (w:World):Step ρ H w ρ H w.drew where
 le:=Place.le_refl _
 size:=Nat.le_refl _
 num:=Nat.le_refl _
 low:=fun _ _=>rfl
 cold:=fun _ h=>.inl h
 keeps:=fun _ _ _=>rfl
 rows:=fun e he l h=>.inl ⟨e,he,l,h,rfl⟩
theorem qr7{b:Nat} {k:Blk}:∀{f:List (Nat × Blk)},getF b f=some k->(b,k)∈f
 |[],h=>by simp[getF]at h
 |x::r,h=>by
  unfold getF at h;split at h
  next hb=>have hb':x.1=b:=Nat.eq_of_beq_eq_true hb;simp only[sj]at h;subst hb';subst h;exact List.mem_cons_self
  ·exact List.mem_cons_of_mem _ (qr7 h)
theorem qtb{b:Nat} {k:Blk}:∀{fs:List (List (Nat × Blk))},getFs b fs=some k->(b,k)∈fs.flatten
 |[],h=>by simp[getFs]at h
 |f::r,h=>by
  unfold getFs at h;rw[List.flatten_cons,List.mem_append];split at h
  next x hx=>simp only[sj]at h;subst h;exact .inl (qr7 hx)
  ·exact .inr (qtb h)
theorem Heap.get_mem{H:Heap} {b:Nat} {k:Blk} (h:H.get b=some k):(b,k)∈H.ents:=qtb h
theorem qy6(x:Nat × Blk) (fs:List (List (Nat × Blk))):(pushF x fs).flatten=x::fs.flatten:=by cases fs<;>simp[pushF]
theorem Heap.new_ents(H:Heap) (k:Blk):(H.new k).ents=(H.n,k)::H.ents:=qy6 _ _
theorem Sim.id_lt{ρ:Place} {H:Heap} {w:World} (s:Sim ρ H w) {e:Nat × Blk} (he:e∈H.ents):e.1 < H.n:=by
 obtain⟨l,hl,_⟩:=s.live e he;rcases Nat.lt_or_ge e.1 H.n with h|h
 ·exact h
 ·rw[s.dom _ h]at hl;cases hl
theorem Sim.alloc{ρ:Place} {H:Heap} {w:World} (s:Sim ρ H w) (o:Obj) (fin:Nat) (b:Nat) (k:Blk) (H':Heap)
  (hb:ρ b=none) (hb0:H.n<=b) (hbn:b < H'.n) (hn:H.n<=H'.n) (he:H'.ents=(b,k)::H.ents)
  (hk:BlkR (ρ.upd b ⟨w.heap.size,0,fin⟩) (w.alloc o) ⟨w.heap.size,0,fin⟩ k) :
  Sim (ρ.upd b ⟨w.heap.size,0,fin⟩) H' (w.alloc o)/\Step ρ H w (ρ.upd b ⟨w.heap.size,0,fin⟩) H' (w.alloc o):=by
 have hle:ρ.le (ρ.upd b ⟨w.heap.size,0,fin⟩):=Place.le_upd hb;have hne:∀e,e∈H.ents->e.1≠b:=fun e hm hx=>by obtain⟨l,hl,_⟩:=s.live e hm;rw[hx,hb]at hl;cases hl
 have hcell:∀k,k < w.heap.size->(w.alloc o).heap[k]? = w.heap[k]?:=fun k hk=>Below.heap_alloc w o k hk;refine⟨⟨?_,?_,s.os,s.tape,s.output,?_,?_,?_,?_⟩,⟨hle,by simp,fun k hk _=>hcell k hk,?_,hn,fun x hx=>Place.upd_other (by omega),fun _ h=>.inl h⟩⟩
 ·intro k hk;have:=s.base k hk;simp;omega
 ·intro k hk;rw[hcell k (s.base k hk)];exact s.below k hk
 ·intro x hx;rw[Place.upd_other (by omega)];exact s.dom x (by omega)
 ·rw[he,List.map_cons,List.nodup_cons];refine⟨fun hm=>?_,s.nodup⟩;obtain⟨e,hem,hex⟩:=List.mem_map.1 hm;exact hne e hem hex
 ·intro e hem;rw[he]at hem;rcases List.mem_cons.1 hem with rfl|hem
  ·exact⟨_,Place.upd_same,fun hx=>absurd (s.base _ hx) (Nat.lt_irrefl _),by simp,hk⟩
  ·obtain⟨l,h1,h2,h3,h4⟩:=s.live e hem;exact⟨l,hle _ _ h1,h2,by simp;omega,(h4.same (hcell _ h3)).mono hle⟩
 ·intro e e' h1 h2 l l' hl hl' hcb;rw[he]at h1 h2;rcases List.mem_cons.1 h1 with rfl|h1<;>rcases List.mem_cons.1 h2 with rfl|h2
  ·rfl
  ·rw[Place.upd_same]at hl;cases hl;rw[Place.upd_other (hne e' h2)]at hl';obtain⟨m,hm,_,hlt,_⟩:=s.live e' h2;rw[hm]at hl';cases hl';simp at hcb;omega
  ·rw[Place.upd_same]at hl';cases hl';rw[Place.upd_other (hne e h1)]at hl;obtain⟨m,hm,_,hlt,_⟩:=s.live e h1;rw[hm]at hl;cases hl;simp at hcb;omega
  ·rw[Place.upd_other (hne e h1)]at hl;rw[Place.upd_other (hne e' h2)]at hl';exact s.inj e e' h1 h2 l l' hl hl' hcb
 ·intro e' h1 l' hl';rw[he]at h1;rcases List.mem_cons.1 h1 with rfl|h1
  ·rw[Place.upd_same]at hl';cases hl';exact .inr (Nat.le_refl _)
  ·rw[Place.upd_other (hne e' h1)]at hl';exact .inl ⟨e',h1,l',hl',rfl⟩
theorem Sim.new{ρ:Place} {H:Heap} {w:World} (s:Sim ρ H w) (o:Obj) (fin:Nat) (k:Blk)
  (hk:BlkR (ρ.upd H.n ⟨w.heap.size,0,fin⟩) (w.alloc o) ⟨w.heap.size,0,fin⟩ k) :
  Sim (ρ.upd H.n ⟨w.heap.size,0,fin⟩) (H.new k) (w.alloc o)/\Step ρ H w (ρ.upd H.n ⟨w.heap.size,0,fin⟩) (H.new k) (w.alloc o):=
 s.alloc o fin H.n k (H.new k) (s.dom _ (Nat.le_refl _)) (Nat.le_refl _) (Nat.lt_succ_self _) (Nat.le_succ _) (H.new_ents k) hk
theorem qw1{b:Nat} {k:Blk}:∀{f f':List (Nat × Blk)},setF b k f=some f'->f'.map (·.1)=f.map (·.1)
 |[],_,h=>by simp[setF]at h
 |x::r,f',h=>by
  unfold setF at h;split at h
  next hb=>simp only[sj]at h;subst h;simp[Nat.eq_of_beq_eq_true hb]
  ·obtain⟨r',hr,hf⟩:=obs h;simp only[sj]at hf;subst hf;simp[qw1 hr]
theorem qw0{b:Nat} {k:Blk}:∀{f f':List (Nat × Blk)},setF b k f=some f'->(b,k)∈f'/\(∃k0,(b,k0)∈f)/\∀e,e∈f'->e=(b,k)\/e∈f
 |[],_,h=>by simp[setF]at h
 |x::r,f',h=>by
  unfold setF at h;split at h
  ·rename_i hb;simp only[sj]at h;subst h;refine⟨List.mem_cons_self,⟨x.2,?_⟩,fun e he=>?_⟩
   ·rw[<- Nat.eq_of_beq_eq_true hb];exact List.mem_cons_self
   ·rcases List.mem_cons.1 he with rfl|he
    ·exact .inl rfl
    ·exact .inr (List.mem_cons_of_mem _ he)
  ·obtain⟨r',hr,hf⟩:=obs h;simp only[sj]at hf;subst hf;obtain⟨h1,⟨k0,h2⟩,h3⟩:=qw0 hr;refine⟨List.mem_cons_of_mem _ h1,⟨k0,List.mem_cons_of_mem _ h2⟩,fun e he=>?_⟩;rcases List.mem_cons.1 he with rfl|he
   ·exact .inr List.mem_cons_self
   ·rcases h3 e he with h|h
    ·exact .inl h
    ·exact .inr (List.mem_cons_of_mem _ h)
theorem qpf{b:Nat} {k:Blk}:∀{fs fs':List (List (Nat × Blk))},setFs b k fs=some fs' ->
  fs'.flatten.map (·.1)=fs.flatten.map (·.1)/\(b,k)∈fs'.flatten/\(∃k0,(b,k0)∈fs.flatten)/\∀e,e∈fs'.flatten->e=(b,k)\/e∈fs.flatten
 |[],_,h=>by simp[setFs]at h
 |f::r,fs',h=>by
  unfold setFs at h;split at h
  ·rename_i f' hf;simp only[sj]at h;subst h;obtain⟨h1,⟨k0,h2⟩,h3⟩:=qw0 hf;simp only[List.flatten_cons,List.map_append,qw1 hf,List.mem_append,true_and];refine⟨.inl h1,⟨k0,.inl h2⟩,fun e he=>?_⟩;rcases he with he|he
   ·rcases h3 e he with h|h
    ·exact .inl h
    ·exact .inr (.inl h)
   ·exact .inr (.inr he)
  ·obtain⟨r',hr,hf⟩:=obs h;simp only[sj]at hf;subst hf;obtain⟨h0,h1,⟨k0,h2⟩,h3⟩:=qpf hr;simp only[List.flatten_cons,List.map_append,h0,List.mem_append,true_and];refine⟨.inr h1,⟨k0,.inr h2⟩,fun e he=>?_⟩;rcases he with he|he
   ·exact .inr (.inl he)
   ·rcases h3 e he with h|h
    ·exact .inl h
    ·exact .inr (.inr h)
theorem qyb{l:List (Nat × Blk)} (hd:(l.map (·.1)).Nodup) {b:Nat} {k k':Blk} (h:(b,k)∈l) (h':(b,k')∈l):k=k':=by
 induction l with
 |nil=>cases h
 |cons x r ih=>
  rw[List.map_cons,List.nodup_cons]at hd;rcases List.mem_cons.1 h with rfl|h1<;>rcases List.mem_cons.1 h' with h2|h2
  ·cases h2;rfl
  ·exact absurd (List.mem_map.2 ⟨_,h2,rfl⟩) hd.1
  ·subst h2;exact absurd (List.mem_map.2 ⟨_,h1,rfl⟩) hd.1
  ·exact ih hd.2 h1 h2
theorem qlt{b:Nat} {k:Blk}:∀{f:List (Nat × Blk)},getF b f=some k->f.Perm ((b,k)::killF b f)
 |[],h=>by simp[getF]at h
 |x::r,h=>by
  unfold getF at h;unfold killF;split at h
  next hb=>simp only[sj]at h;subst h;rw[<- Nat.eq_of_beq_eq_true hb]
  ·exact((qlt h).cons x).trans (List.Perm.swap _ _ _)
theorem qo7(b:Nat):∀(f:List (Nat × Blk)),(killF b f).Sublist f
 |[]=>List.Sublist.refl _
 |x::r=>by
  unfold killF;split
  ·exact List.sublist_cons_self x r
  ·exact(qo7 b r).cons_cons x
theorem qls(b:Nat):∀(fs:List (List (Nat × Blk))),(qeo b fs).flatten.Sublist fs.flatten
 |[]=>List.Sublist.refl _
 |f::r=>by
  unfold qeo;split
  ·simp only[List.flatten_cons];exact(qo7 b f).append (List.Sublist.refl _)
  ·simp only[List.flatten_cons];exact(List.Sublist.refl _).append (qls b r)
theorem qj4:∀(n:Nat) (todo:List Nat) (f acc:List (Nat × Blk)),((qht n todo f acc).1++(qht n todo f acc).2).Perm (acc++f)
 |0,_,_,_=>List.Perm.refl _
 |n+1,todo,f,acc=>by
  unfold qht;split
  ·exact List.Perm.refl _
  ·split
   ·exact List.Perm.refl _
   ·split
    ·exact qj4 n _ _ _
    next k hk=>refine(qj4 n _ _ _).trans ?_;refine List.Perm.trans ?_ ((qlt hk).symm.append_left acc);simp only[List.cons_append];exact List.perm_middle.symm
theorem qm9(b:Nat):∀(roots:List Nat) (carry:List (Nat × Blk)) (fs:List (List (Nat × Blk))),(qdd b roots carry fs).flatten.Perm (carry++fs.flatten)
 |_,carry,[]=>by simp[qdd]
 |roots,carry,f::r=>by
  unfold qdd;split
  ·simp only[List.flatten_cons,List.append_assoc];exact List.Perm.refl _
  ·generalize hx:qht 100000 roots f []=x;obtain⟨ex,rest⟩:=x;have hp:=qj4 100000 roots f [];rw[hx]at hp;simp only[List.nil_append]at hp;simp only[List.flatten_cons];refine((qm9 b _ (ex++carry) r).append_left rest).trans ?_;have h1:(rest++(ex++carry++r.flatten)).Perm ((rest++ex)++(carry++r.flatten)):=(by simp only[List.append_assoc];exact List.Perm.refl _);refine h1.trans ?_;refine((List.perm_append_comm.trans hp).append_right _).trans ?_;rw[<- List.append_assoc,<- List.append_assoc];exact List.perm_append_comm.append_right _
theorem qy3(H:Heap) (b:Nat) (vs:List AV):(H.ready b vs).ents.Perm H.ents:=by
 unfold Heap.ready;split
 ·exact List.Perm.refl _
 ·exact qm9 b _ [] H.fs
theorem ready_n(H:Heap) (b:Nat) (vs:List AV):(H.ready b vs).n=H.n:=by unfold Heap.ready;split<;>rfl
theorem qjk{l l':List (Nat × Blk)} (h:l.Perm l') (hd:(l'.map (·.1)).Nodup):(l.map (·.1)).Nodup:=(h.map _).nodup_iff.2 hd
theorem qfs{l l':List (Nat × Blk)} (h:l.Sublist l') (hd:(l'.map (·.1)).Nodup):(l.map (·.1)).Nodup:=(h.map _).nodup hd
theorem qpl(l:List (Nat × Blk)) (fs:List (List (Nat × Blk))):(qb8 l fs).flatten=l++fs.flatten:=by cases fs<;>simp[qb8]
theorem Sim.pop{ρ:Place} {H:Heap} {w:World} (s:Sim ρ H w) (v:AV):Sim ρ (qsj v H) w/\Step ρ H w ρ (qsj v H) w:=by
 unfold qsj;split
 ·exact⟨s,.refl _ _ _⟩
 ·rename_i f r hfs;have he:H.ents=f++r.flatten:=by simp[Heap.ents,hfs]
  split
  ·have hs:∀e,e∈Heap.ents ⟨H.n,r⟩->e∈H.ents:=fun e h=>(by rw[he];exact List.mem_append.2 (.inr h));refine⟨s.of_sub hs (Nat.le_refl _) (qfs (l':=H.ents) ?_ s.nodup),.of_sub hs (Nat.le_refl _)⟩;rw[he];exact List.sublist_append_right _ _
  ·rename_i b bs _;have hp:=qj4 100000 (b::bs) f [];generalize qht 100000 (b::bs) f []=x at hp;obtain⟨ex,rest⟩:=x;simp only[List.nil_append]at hp;have hx:Heap.ents ⟨H.n,qb8 ex r⟩=ex++r.flatten:=qpl _ _;have hs:∀e,e∈Heap.ents ⟨H.n,qb8 ex r⟩->e∈H.ents:=fun e h=>by
    rw[hx]at h;rw[he];rcases List.mem_append.1 h with h|h
    ·exact List.mem_append.2 (.inl (hp.mem_iff.1 (List.mem_append.2 (.inl h))))
    ·exact List.mem_append.2 (.inr h)
   refine⟨s.of_sub hs (Nat.le_refl _) ?_,.of_sub hs (Nat.le_refl _)⟩;have hd:(((ex++rest)++r.flatten).map (·.1)).Nodup:=qjk (hp.append_right _) (he ▸ s.nodup);rw[hx];refine qfs ?_ hd;exact(List.sublist_append_left ex rest).append (List.Sublist.refl _)
theorem Sim.killed{ρ:Place} {H:Heap} {w:World} (s:Sim ρ H w) (b:Nat):Sim ρ (H.kill b) w/\Step ρ H w ρ (H.kill b) w:=by
 unfold Heap.kill;split
 ·exact⟨s,.refl _ _ _⟩
 ·rename_i f r hfs;have hx:(Heap.ents ⟨H.n,killF b f::r⟩).Sublist H.ents:=by simp only[Heap.ents,hfs,List.flatten_cons];exact(qo7 b f).append (List.Sublist.refl _)
  exact⟨s.of_sub (fun e h=>hx.subset h) (Nat.le_refl _) (qfs hx s.nodup),.of_sub (fun e h=>hx.subset h) (Nat.le_refl _)⟩
theorem Sim.dropped{ρ:Place} {H:Heap} {w:World} (s:Sim ρ H w) (b:Nat):Sim ρ (H.drop b) w/\Step ρ H w ρ (H.drop b) w:=by have hx:(H.drop b).ents.Sublist H.ents:=qls b H.fs;exact⟨s.of_sub (fun e h=>hx.subset h) (Nat.le_refl _) (qfs hx s.nodup),.of_sub (fun e h=>hx.subset h) (Nat.le_refl _)⟩
theorem Sim.opened{ρ:Place} {H:Heap} {w:World} (s:Sim ρ H w):Sim ρ ⟨H.n,[]::H.fs⟩ w/\Step ρ H w ρ ⟨H.n,[]::H.fs⟩ w:=
 ⟨s.of_sub (fun _ h=>h) (Nat.le_refl _) s.nodup,.of_sub (fun _ h=>h) (Nat.le_refl _)⟩
theorem Sim.turned{ρ:Place} {H H':Heap} {w w':World} (s:Sim ρ H w) {b:Nat} {k0 k:Blk} {l:Loc} (hb:(b,k0)∈H.ents) (hl:ρ b=some l)
  (hn:H'.n=H.n) (hd:(H'.ents.map (·.1)).Nodup) (hk:(b,k)∈H'.ents) (hs:∀e,e∈H'.ents->e=(b,k)\/e∈H.ents)
  (hsize:w'.heap.size=w.heap.size) (hkeep:∀j,j≠l.cb->w'.heap[j]? = w.heap[j]?) (hos:w'.os=w.os) (ht:w'.tape=w.tape) (ho:w'.output=w.output)
  (hr:BlkR ρ w' l k):Sim ρ H' w'/\Step ρ H w ρ H' w':=by
 have hmem:∀e,e∈H'.ents->e=(b,k)\/(e∈H.ents/\e.1≠b):=fun e he=>by
  rcases hs e he with h|h
  ·exact .inl h
  ·by_cases hx:e.1=b
   ·left;obtain⟨e1,e2⟩:=e;simp only at hx;subst hx;rw[qyb hd he hk]
   ·exact .inr ⟨h,hx⟩
 have hid:∀e,e∈H'.ents->∃e0,e0∈H.ents/\e0.1=e.1:=fun e he=>by
  rcases hmem e he with rfl|⟨h,_⟩
  ·exact⟨_,hb,rfl⟩
  ·exact⟨e,h,rfl⟩
 obtain⟨l0,hl0,hB,hlt,_⟩:=s.live _ hb;rw[hl]at hl0;cases hl0;refine⟨⟨by rw[hsize];exact s.base,?_,hos.trans s.os,ht.trans s.tape,ho.trans s.output,fun x hx=>s.dom x (by omega),hd,?_,?_⟩,⟨Place.le_refl _,by omega,?_,?_,by omega,fun _ _=>rfl,fun _ h=>.inl h⟩⟩
 ·intro j hj;rw[hkeep j (fun hx=>hB (hx ▸ hj))];exact s.below j hj
 ·intro e he;rcases hmem e he with rfl|⟨h,hx⟩
  ·exact⟨l,hl,hB,by omega,hr⟩
  ·obtain⟨m,h1,h2,h3,h4⟩:=s.live e h;refine⟨m,h1,h2,by omega,h4.same (hkeep _ fun hc=>hx ?_)⟩;exact s.inj e (b,k0) h hb m l h1 hl hc
 ·intro e e' he he' m m' hm hm' hc;obtain⟨e0,h0,h0'⟩:=hid e he;obtain⟨e1,h1,h1'⟩:=hid e' he';rw[<- h0',<- h1'];exact s.inj e0 e1 h0 h1 m m' (by rw[h0'];exact hm) (by rw[h1'];exact hm') hc
 ·intro j hj hn';exact hkeep j fun hc=>hn' (b,k0) hb l hl hc.symm
 ·intro e he m hm;obtain⟨e0,h0,h0'⟩:=hid e he;exact .inl ⟨e0,h0,m,by rw[h0'];exact hm,rfl⟩
theorem qk4{b:Nat} {k:Blk}:∀{fs:List (List (Nat × Blk))},getFs b fs=some k->fs.flatten.Perm ((b,k)::(qeo b fs).flatten)
 |[],h=>by simp[getFs]at h
 |f::r,h=>by
  unfold getFs at h;unfold qeo;split at h
  next x hx=>simp only[sj]at h;subst h;simp only[hx,List.flatten_cons];exact(qlt hx).append_right _
  next hx=>simp only[hx,List.flatten_cons];exact((qk4 h).append_left f).trans List.perm_middle
theorem Sim.regrow{ρ:Place} {H:Heap} {w w':World} (s:Sim ρ H w) {b:Nat} {k0 k:Blk} {l l':Loc} (hb:H.get b=some k0) (hl:ρ b=some l) (hcb:l'.cb=l.cb)
  (hsize:w'.heap.size=w.heap.size) (hkeep:∀j,j≠l.cb->w'.heap[j]? = w.heap[j]?) (hos:w'.os=w.os) (ht:w'.tape=w.tape) (ho:w'.output=w.output)
  (hr:BlkR (ρ.upd H.n l') w' l' k):Sim (ρ.upd H.n l') ((H.drop b).new k) w'/\Step ρ H w (ρ.upd H.n l') ((H.drop b).new k) w':=by
 have hn0:ρ H.n=none:=s.dom _ (Nat.le_refl _);have hle:ρ.le (ρ.upd H.n l'):=Place.le_upd hn0;have hp:H.ents.Perm ((b,k0)::(H.drop b).ents):=qk4 hb;have hd:(((b,k0)::(H.drop b).ents).map (·.1)).Nodup:=(hp.map _).nodup_iff.1 s.nodup;rw[List.map_cons,List.nodup_cons]at hd;have hsub:∀e,e∈(H.drop b).ents->e∈H.ents/\e.1≠b:=fun e he=>⟨hp.mem_iff.2 (List.mem_cons_of_mem _ he),fun hx=>hd.1 (List.mem_map.2 ⟨e,he,hx⟩)⟩;have hbm:(b,k0)∈H.ents:=Heap.get_mem hb;have hne:∀e,e∈H.ents->e.1≠H.n:=fun e he hx=>by obtain⟨m,hm,_⟩:=s.live e he;rw[hx,hn0]at hm;cases hm
 have hents:((H.drop b).new k).ents=(H.n,k)::(H.drop b).ents:=Heap.new_ents _ _;obtain⟨l0,hl0,hB,hlt,_⟩:=s.live _ hbm;rw[hl]at hl0;cases hl0;refine⟨⟨by rw[hsize];exact s.base,fun j hj=>by rw[hkeep j (fun hx=>hB (hx ▸ hj))];exact s.below j hj,hos.trans s.os,ht.trans s.tape,ho.trans s.output,?_,?_,?_,?_⟩,⟨hle,by omega,?_,?_,?_,fun x hx=>Place.upd_other (by omega),fun _ h=>.inl h⟩⟩
 ·intro x hx;have hx':H.n+1<=x:=hx;rw[Place.upd_other (by omega)];exact s.dom x (by omega)
 ·rw[hents,List.map_cons,List.nodup_cons];refine⟨fun hm=>?_,hd.2⟩;obtain⟨e,he,hx⟩:=List.mem_map.1 hm;exact hne e (hsub e he).1 hx
 ·intro e he;rw[hents]at he;rcases List.mem_cons.1 he with rfl|he
  ·exact⟨l',Place.upd_same,by rw[hcb];exact hB,by omega,hr⟩
  ·obtain⟨h1,h2⟩:=hsub e he;obtain⟨m,g1,g2,g3,g4⟩:=s.live e h1;refine⟨m,hle _ _ g1,g2,by omega,(g4.same (hkeep _ fun hc=>h2 ?_)).mono hle⟩;exact s.inj e (b,k0) h1 hbm m l g1 hl hc
 ·intro e e' he he' m m' hm hm' hc;rw[hents]at he he';rcases List.mem_cons.1 he with rfl|he<;>rcases List.mem_cons.1 he' with rfl|he'
  ·rfl
  ·rw[Place.upd_same]at hm;cases hm;obtain⟨h1,h2⟩:=hsub e' he';rw[Place.upd_other (hne e' h1)]at hm';exact absurd (s.inj e' (b,k0) h1 hbm m' l hm' hl (by omega)) h2
  ·rw[Place.upd_same]at hm';cases hm';obtain⟨h1,h2⟩:=hsub e he;rw[Place.upd_other (hne e h1)]at hm;exact absurd (s.inj e (b,k0) h1 hbm m l hm hl (by omega)) h2
  ·rw[Place.upd_other (hne e (hsub e he).1)]at hm;rw[Place.upd_other (hne e' (hsub e' he').1)]at hm';exact s.inj e e' (hsub e he).1 (hsub e' he').1 m m' hm hm' hc
 ·intro j hj hnj;exact hkeep j fun hc=>hnj _ hbm l hl hc.symm
 ·intro e he m hm;rw[hents]at he;rcases List.mem_cons.1 he with rfl|he
  ·rw[Place.upd_same]at hm;cases hm;exact .inl ⟨_,hbm,l,hl,hcb.symm⟩
  ·obtain⟨h1,_⟩:=hsub e he;rw[Place.upd_other (hne e h1)]at hm;exact .inl ⟨e,h1,m,hm,rfl⟩
 ·exact Nat.le_succ _
theorem qkp{H H':Heap} {b:Nat} {k:Blk} {vs:List AV} (h:(H.ready b vs).set b k=some H') (hd:(H.ents.map (·.1)).Nodup) :
  H'.n=H.n/\(H'.ents.map (·.1)).Nodup/\(b,k)∈H'.ents/\(∃k0,(b,k0)∈H.ents)/\∀e,e∈H'.ents->e=(b,k)\/e∈H.ents:=by
 obtain⟨fs,hf,hH⟩:=obs h;simp only[sj]at hH;subst hH;obtain⟨h0,h1,⟨k0,h2⟩,h3⟩:=qpf hf;have hp:=qy3 H b vs;refine⟨ready_n _ _ _,?_,h1,⟨k0,hp.mem_iff.1 h2⟩,fun e he=>?_⟩
 ·show (fs.flatten.map (·.1)).Nodup;rw[h0];exact qjk hp hd
 ·rcases h3 e he with h|h
  ·exact .inl h
  ·exact .inr (hp.mem_iff.1 h)
end
theorem qsz{α:Type}:∀{vs l l':List α},qhi vs l=some l'->vs.length<=l.length/\l'=vs++l.drop vs.length
 |[],l,l',h=>by simp only[qhi,sj]at h;subst h;simp
 |v::vs,l,l',h=>by
  unfold qhi at h;cases l with
  |nil=>simp at h
  |cons x r=>obtain⟨r',hr,hl⟩:=obs h;simp only[sj]at hl;subst hl;obtain⟨h1,h2⟩:=qsz hr;subst h2;simp[h1]
theorem qo5{α:Type} {vs:List α}:∀{o:Nat} {l l':List α},qjh vs o l=some l'->o+vs.length<=l.length/\l'=l.take o++vs++l.drop (o+vs.length)
 |0,l,l',h=>by have:=qsz (show qhi vs l=some l' by cases l<;>simpa[qjh]using h);simpa using this
 |o+1,l,l',h=>by
  unfold qjh at h;cases l with
  |nil=>simp at h
  |cons x r=>obtain⟨r',hr,hl⟩:=obs h;simp only[sj]at hl;subst hl;obtain⟨h1,h2⟩:=qo5 hr;subst h2;refine⟨by simp;omega,?_⟩;have:o+1+vs.length=(o+vs.length)+1:=(by omega);simp[this]
theorem qlk{α:Type}:∀{n:Nat} {l r:List α},qe8 n l=some r->n<=l.length/\r=l.take n
 |0,l,r,h=>by cases l<;>simp_all [qe8]
 |n+1,l,r,h=>by
  cases l with
  |nil=>simp[qe8]at h
  |cons x l=>obtain⟨r',hr,hl⟩:=obs (show (qe8 n l).bind (fun r'=>some (x::r'))=some r from h);simp only[sj]at hl;subst hl;obtain⟨h1,h2⟩:=qlk hr;subst h2;simp[h1]
theorem qkl{α:Type} {o n:Nat} {l r:List α} (h:qf1 o n l=some r):(n=0\/o+n<=l.length)/\r=(l.drop o).take n:=by obtain⟨h1,h2⟩:=qlk h;simp at h1;exact⟨by omega,h2⟩
theorem qed{α:Type}:∀{l:List α} {i:Nat} {x:α},qca l i=some x->∃h:i < l.length,l[i]=x
 |[],i,x,h=>by simp[qca]at h
 |y::r,0,x,h=>by simp only[qca,sj]at h;exact⟨by simp,h⟩
 |y::r,i+1,x,h=>by obtain⟨h1,h2⟩:=qed (show qca r i=some x from h);exact⟨by simpa using h1,h2⟩
theorem qfq(b:Nat):∀(vs:List Value) (o:Nat) (w:World),(w.setCells b o vs).heap.size=w.heap.size
 |[],_,_=>rfl
 |v::r,o,w=>by simp only[World.setCells];rw[qfq b r];simp
theorem qfr(b:Nat):∀(vs:List Value) (o:Nat) (w:World) (j:Nat),j≠b->(w.setCells b o vs).heap[j]? = w.heap[j]?
 |[],_,_,_,_=>rfl
 |v::r,o,w,j,h=>by simp only[World.setCells];rw[qfr b r _ _ j h];exact Below.heap_setCell _ _ _ _ h
theorem qcl(b:Nat):∀(vs:List Value) (o:Nat) (w:World),(w.setCells b o vs).os=w.os/\(w.setCells b o vs).tape=w.tape/\(w.setCells b o vs).output=w.output
 |[],_,_=>⟨rfl,rfl,rfl⟩
 |v::r,o,w=>by simp only[World.setCells];exact qcl b r _ _
theorem qi1(b:Nat):∀(vs:List Value) (o:Nat) (w:World) {c:Array Value} {t:TypeId} {fr:Nat × Nat},w.heap[b]? = some (.cells c t fr) ->
  ∃c',(w.setCells b o vs).heap[b]? = some (.cells c' t fr)/\c'.size=c.size
 |[],_,_,c,_,_,h=>⟨c,h,rfl⟩
 |v::r,o,w,c,t,fr,h=>by
  simp only[World.setCells];have h1:(w.setCell ⟨b,o,none⟩ v).heap[b]? = some (.cells (c.setIfInBounds o v) t fr):=by simp only[World.setCell,Array.getElem?_modify,h];simp
  obtain⟨c',h2,h3⟩:=qi1 b r (o+1) _ h1;exact⟨c',h2,by rw[h3];simp⟩
section
variable {P:Program}
theorem qlb:∀{vs:List AV},allSingle vs=true->∀v,v∈vs->v.single=true
 |[],_,v,h=>by cases h
 |x::r,h,v,hm=>by
  unfold allSingle at h;split at h
  ·rename_i hx;rcases List.mem_cons.1 hm with rfl|hm
   ·exact hx
   ·exact qlb h v hm
  ·cases h
theorem VRs.oneCell{ρ:Place} {vs:List AV} {xs:List Value} (r:VRs ρ vs xs) (h:allSingle vs=true):∀x,x∈xs->x.oneCell'=true:=by
 intro x hx;obtain⟨i,hi,rfl⟩:=List.mem_iff_getElem.1 hx;have hi':i < vs.length:=by rw[<- r.1];exact hi
 exact(r.2 i hi' hi).oneCell (qlb h _ (List.getElem_mem hi'))
theorem Sim.block{ρ:Place} {H:Heap} {w:World} (s:Sim ρ H w) {b:Nat} {k:Blk} (h:H.get b=some k):∃l,ρ b=some l/\¬ ρ.B l.cb/\l.cb < w.heap.size/\BlkR ρ w l k:=
 s.live (b,k) (Heap.get_mem h)
theorem qkh{ρ:Place} {H H':Heap} {w:World} (s:Sim ρ H w) {b o:Nat} {vs:List AV} {xs:List Value} {l:Loc}
  (h:writeCells H b o vs=some H') (hl:ρ b=some l) (hv:VRs ρ vs xs) (h1:∀x,x∈xs->x.oneCell'=true) :
  (storeCells ⟨l.cb,l.off+o,none⟩ xs).run P w=.ok () (w.setCells l.cb (l.off+o) xs) /\
  Sim ρ H' (w.setCells l.cb (l.off+o) xs)/\Step ρ H w ρ H' (w.setCells l.cb (l.off+o) xs):=by
 obtain⟨k,hk,h⟩:=obs h;obtain⟨cs,hwt,h⟩:=obs h
 ·obtain⟨cs',hlay,hset⟩:=obs h;obtain⟨l',hl',hB,hlt,hr0⟩:=s.block hk;rw[hl]at hl';cases hl';obtain⟨hrd,hfz⟩:=hr0.wtR hwt;have hr:=hr0.rdR hrd;obtain⟨hlen,rfl⟩:=qo5 hlay;obtain⟨hn,hd,hk',⟨k0,hk0⟩,hs⟩:=qkp hset s.nodup;have hxl:xs.length=vs.length:=hv.1;have hcell:∀j,j < xs.length->(w.cell? ⟨l.cb,l.off+o+j,none⟩).isSome=true:=fun j hj=>hr.2.1 _ (by have:=hr.1;omega);have hin:=World.cell?_setCells_in l.cb xs (l.off+o) w hcell;have hout:=World.cell?_setCells_out l.cb xs (l.off+o) w;have hrun:=run_storeCells_cells (P:=P) l.cb (l.off+o) xs 0 w (by simpa using hcell) (fun j hj=>hfz _ (by have:=hr.1;omega) (by omega)) h1;simp only[Nat.add_zero]at hrun;refine⟨hrun,s.turned hk0 hl hn hd hk' hs (qfq _ _ _ _) (fun j hj=>qfr _ _ _ _ j hj) (qcl _ _ _ _).1 (qcl _ _ _ _).2.1 (qcl _ _ _ _).2.2 ?_⟩;refine hr0.reR hwt (by simp;omega) (fun i hi=>?_) (fun i=>World.frozen?_setCells _ _ _ _ _) (fun c t fr he=>qi1 _ _ _ _ he) fun i hi=>?_
  ·by_cases hi2:l.off+o<=i/\i < l.off+o+xs.length
   ·have:=hin (i - (l.off+o)) (by omega);rw[show l.off+o+(i - (l.off+o))=i by omega]at this;rw[this];rfl
   ·rw[hout ⟨l.cb,i,none⟩ (fun _ _=>by show i < _\/_<=i;omega)];exact hr.2.1 i hi
  ·by_cases hi2:o<=i/\i < o+vs.length
   ·have hin':=hin (i - o) (by omega);rw[show l.off+o+(i - o)=l.off+i by omega]at hin';refine⟨_,hin',?_⟩;have he:(List.take o cs++vs++List.drop (o+vs.length) cs)[i]=vs[i - o]'(by omega):=(by rw[List.getElem_append_left (by simp;omega),List.getElem_append_right (by simp;omega)];congr 1;simp;omega);rw[he];exact hv.2 _ _ _
   ·have hlc:i < cs.length:=(by simp at hi;omega);obtain⟨x,hx,hxv⟩:=hr.2.2 i hlc;refine⟨x,by rw[hout ⟨l.cb,l.off+i,none⟩ (fun _ _=>by show l.off+i < _\/_<=l.off+i;omega)];exact hx,?_⟩;have he:(List.take o cs++vs++List.drop (o+vs.length) cs)[i]=cs[i]:=by
     by_cases h3:i < o
     ·rw[List.getElem_append_left (by simp;omega),List.getElem_append_left (by simp;omega)];simp
     ·rw[List.getElem_append_right (by simp;omega)];simp only[List.length_append,List.length_take,List.getElem_drop];congr 1;omega
    rw[he];exact hxv
theorem qe0{ρ:Place} {H:Heap} {w:World} (s:Sim ρ H w) {b o n:Nat} {r:List AV} {l:Loc} (h:readCells H b o n=some r) (hl:ρ b=some l) :
  ∃xs:List Value,VRs ρ r xs/\r.length=n/\∀j v,xs[j]? = some v->w.cell? ⟨l.cb,l.off+o+j,none⟩=some v:=by
 obtain⟨k,hk,h⟩:=obs h;obtain⟨cs,hrd,h⟩:=obs h
 ·obtain⟨l',hl',hB,hlt,hr0⟩:=s.block hk;rw[hl]at hl';cases hl';have hr:=hr0.rdR hrd;obtain⟨hn,rfl⟩:=qkl h;have hch:∀i (hi:i < cs.length),w.cell? ⟨l.cb,l.off+i,none⟩=some ((w.cell? ⟨l.cb,l.off+i,none⟩).getD undef)/\VR ρ cs[i] ((w.cell? ⟨l.cb,l.off+i,none⟩).getD undef):=fun i hi=>by obtain⟨x,hx,hv⟩:=hr.2.2 i hi;rw[hx];exact⟨rfl,hv⟩
  refine⟨(List.range n).map fun j=>(w.cell? ⟨l.cb,l.off+o+j,none⟩).getD undef,⟨by simp;omega,fun i hi hi'=>?_⟩,by simp;omega,fun j v hj=>?_⟩
  ·have hi2:o+i < cs.length:=(by simp at hi;omega);simp only[List.getElem_map,List.getElem_range,List.getElem_take,List.getElem_drop];have:=(hch (o+i) hi2).2
   rwa [<- Nat.add_assoc]at this
  ·simp only[List.getElem?_map,Option.map_eq_some_iff]at hj;obtain⟨a,ha,rfl⟩:=hj;obtain⟨hlt',rfl⟩:=List.getElem?_eq_some_iff.1 ha;simp only[List.getElem_range];simp at hlt';have:=(hch (o+j) (by omega)).1
   rwa [<- Nat.add_assoc]at this
end
theorem qb4{a b:Nat} (h:a≠b):Nat.beq a b=false:=by
 cases hb:Nat.beq a b
 ·rfl
 ·exact absurd (Nat.eq_of_beq_eq_true hb) h
section
variable {P:Program} {ρ:Place}
theorem VR.const1(v:Value):VR ρ (ofV1 v) v:=by unfold ofV1;split<;>first|exact .undef _|(rename_i s;exact .str s.data.toList)|constructor
theorem VR.const(v:Value):VR ρ (ofV v) v:=by
 unfold ofV;split
 next cs=>exact .agg _ _ (by simp) fun i h h'=>by simpa using VR.const1 _
 ·exact VR.const1 _
theorem VRs.const(v:Value):VRs ρ (ofV v).cells v.cells.toList:=by
 unfold ofV;split
 next cs=>exact⟨by simp[AV.cells,Value.cells],fun i h h'=>by simpa[AV.cells,Value.cells]using VR.const1 _⟩
 ·rename_i hx;have hc:v.cells = #[v]:=by cases v<;>first|rfl|exact absurd rfl (hx _)
  have hc':(ofV1 v).cells=[ofV1 v]:=by unfold ofV1;split<;>rfl
  rw[hc,hc'];exact .cons (VR.const1 v) .nil
theorem qel{t:TypeId} {z:AV} (h:qbq P t=some z):∃v,z=ofV v/\(∀w,(zeroValue t).run P w=.ok v w)/\∃i,P.info? t=some i/\i.zero=some v:=by obtain⟨i,hi,h⟩:=obs h;obtain⟨v,hv,h⟩:=obs h;simp only[sj]at h;exact⟨v,h.symm,fun w=>by simp[zeroValue,typeInfo,hi,hv],i,hi,hv⟩
theorem qgy{t:TypeId} {n:Nat} (h:qc1 P t=some n):∃i,P.info? t=some i/\i.size=n:=by obtain⟨i,hi,h⟩:=obs h;simp only[sj]at h;exact⟨i,hi,h⟩
theorem qcc{t:TypeId} {n:Nat} (h:qc1 P t=some n) (w:World):(sizeOf t).run P w=.ok n w:=by obtain⟨i,hi,rfl⟩:=qgy h;simp[sizeOf,typeInfo,hi]
theorem qm5{t:TypeId} {n:Nat} (h:qce P t=some n):∃i,(∀w,(typeInfo t).run P w=.ok i w)/\i.bytes=n:=by obtain⟨i,hi,h⟩:=obs h;simp only[sj]at h;exact⟨i,fun w=>by simp[typeInfo,hi],h⟩
theorem qrq{t:TypeId} {b:Bool} (h:qgc P t=some b) (w:World):(isAgg t).run P w=.ok b w:=by obtain⟨d,hd,h⟩:=obs h;simp only[isAgg,Sem.run_bind,run_underlying hd,Result.andThen_ok];cases d<;>simp at h<;>subst h<;>rfl
structure EnvR (ρ:Place) (s:St) (a:Act):Prop where
 size:s.sz=a.tmps.size
 val:∀t v,s.get t=some v->VR ρ v (a.tmps.getD t undef)
theorem EnvR.mono{ρ':Place} (h:ρ.le ρ') {s:St} {a:Act} (e:EnvR ρ s a):EnvR ρ' s a:=⟨e.size,fun t v g=>(e.val t v g).mono h⟩
theorem EnvR.heap{s:St} {a:Act} (e:EnvR ρ s a) (H:Heap):EnvR ρ { s with H:=H } a:=⟨e.size,e.val⟩
theorem qwb{t:Nat} {v:AV}:∀{ks:List Nat} {vs vs':List AV},qu1 t v ks vs=some vs'->∀u,qfi u ks vs'=if u=t then some v else qfi u ks vs
 |[],_,_,h,_=>by simp[qsg,putK_n]at h
 |k::ks,vs,vs',h,u=>by
  rw[qsg]at h;cases vs with
  |nil=>simp at h
  |cons x r=>
   simp only at h;split at h
   ·rename_i hk;have hk':=Nat.eq_of_beq_eq_true hk;simp only[sj]at h;subst h;rw[qdk,qdk];by_cases hu:u=t
    ·subst hu;simp[hk]
    ·have:Nat.beq k u=false:=qb4 (by rw[hk'];exact fun e=>hu e.symm);simp[this,hu]
   ·rename_i hk;obtain⟨r',hr,hv⟩:=obs h;simp only[sj]at hv;subst hv;have ih:=qwb hr u;rw[qdk,qdk];by_cases hu:u=t
    ·subst hu;simp only[hk];rw[ih];simp
    ·cases hku:Nat.beq k u with
     |true=>simp[hu]
     |false=>simp only;rw[ih]
theorem qsf{t:Nat} {v:AV}:∀{ks:List Nat} {vs:List AV},qu1 t v ks vs=none->qfi t ks vs=none
 |[],_,_=>by simp[qdk,qic]
 |k::ks,vs,h=>by
  rw[qsg]at h;rw[qdk];cases vs with
  |nil=>rfl
  |cons x r=>
   simp only at h;split at h
   ·simp at h
   ·rename_i hk;simp only;refine qsf (v:=v) ?_;cases hp:qu1 t v ks r with
    |none=>rfl
    |some r'=>rw[hp]at h;simp at h
theorem St.set_get{s s':St} {t:Nat} {v:AV} (h:s.set t v=some s'):t < s.sz/\s'.sz=s.sz/\s'.H=s.H/\s'.ks=s.ks/\∀u,s'.get u=if u=t then some v else s.get u:=by
 obtain⟨ks,vs0,ts,sz,H⟩:=s;simp only[St.set]at h;split at h
 ·rename_i hlt;have hlt':t < sz:=Nat.le_of_ble_eq_true hlt;split at h
  ·rename_i vs hp;simp only[sj]at h;subst h;refine⟨hlt',rfl,rfl,rfl,fun u=>?_⟩;simp only[St.get];rw[qwb hp u];by_cases hu:u=t
   ·simp[hu]
   ·simp[hu]
  ·rename_i hp;simp only[sj]at h;subst h;refine⟨hlt',rfl,rfl,rfl,fun u=>?_⟩;simp only[St.get];by_cases hu:u=t
   ·subst hu;rw[qsf hp];simp[qgm,qma]
   ·have:Nat.beq t u=false:=qb4 fun e=>hu e.symm;simp[hu,qgm,this]
 ·simp at h
theorem EnvR.set{s s':St} {a:Act} {t:Nat} {v:AV} {x:Value} (e:EnvR ρ s a) (h:s.set t v=some s') (hv:VR ρ v x):EnvR ρ s' { a with tmps:=a.tmps.setIfInBounds t x }:=by
 obtain⟨h1,h2,_,_,h5⟩:=St.set_get h;refine⟨by simp[h2,e.size],fun u y hu=>?_⟩;rw[h5]at hu;simp only[Array.getD_eq_getD_getElem?,Array.getElem?_setIfInBounds];by_cases hut:u=t
 ·subst hut;simp only[if_true,sj]at hu;subst hu;have:u < a.tmps.size:=by rw[<- e.size];exact h1
  simp[this,hv]
 ·simp only[hut,if_false]at hu;have:=e.val u y hu;rw[if_neg (fun e=>hut e.symm)];simpa[Array.getD_eq_getD_getElem?]using this
theorem EnvR.put{s s':St} {a:Act} {d:Option Tmp} {v:AV} {x:Value} (e:EnvR ρ s a) (h:s.put d v=some s') (hv:VR ρ v x):EnvR ρ s' (a.put d x):=by
 cases d with
 |none=>simp only[St.put,sj]at h;subst h;exact e
 |some t=>exact e.set h hv
theorem St.put_heap{s s':St} {d:Option Tmp} {v:AV} (h:s.put d v=some s'):s'.H=s.H:=by
 cases d with
 |none=>simp only[St.put,sj]at h;subst h;rfl
 |some t=>exact(St.set_get h).2.2.1
theorem zaj{g:Nat} {cs:List AV}:∀{l:List (Nat × List Int)},pinC g l=some cs->∃x,x∈l/\x.1=g/\cs=x.2.map (.int .u8)
 |[],h=>by simp[pinC]at h
 |x::r,h=>by
  unfold pinC at h;split at h
  next hb=>simp only[sj]at h;exact⟨x,List.mem_cons_self,Nat.eq_of_beq_eq_true hb,h.symm⟩
  ·obtain⟨y,h1,h2⟩:=zaj h;exact⟨y,List.mem_cons_of_mem _ h1,h2⟩
theorem qb5{s:St} {a:Act} (e:EnvR ρ s a) {x:Operand} {v:AV} (h:qbr s x=some v):VR ρ v (a.eval x):=by
 cases x with
 |tmp t=>exact e.val t v h
 |const c=>simp only[qbr,sj]at h;subst h;exact VR.const c
 |global g=>
  simp only[qbr]at h;obtain⟨cs,hcs,h⟩:=obs h;simp only[sj]at h;subst h;obtain⟨y,hy,rfl,rfl⟩:=zaj hcs;obtain⟨hB,hc⟩:=ρ.gp y hy;have:=VR.fptr (ρ:=ρ) (y.2.map (.int .u8)) 0 y.1 0 (fun i=>.int .u8 (y.2.getD i 0)) hB
   (fun i hi=>by rw[List.length_map]at hi;rw[Nat.zero_add];exact hc i _ (by simp[List.getD_eq_getElem?_getD,List.getElem?_eq_getElem hi]))
   (fun i hi=>by rw[List.length_map]at hi;simp only[List.getElem_map,List.getD_eq_getElem?_getD,List.getElem?_eq_getElem hi,Option.getD_some];exact .int _ _)
  exact this
 |func f=>simp only[qbr,sj]at h;subst h;exact .func _ _ _ _ _ rfl rfl (fun i h=>absurd h (Nat.not_lt_zero i)) (fun i h=>absurd h (Nat.not_lt_zero i))
theorem qsm{s:St} {a:Act} (e:EnvR ρ s a):∀{xs:List Operand} {vs:List AV},qex s xs=some vs->VRs ρ vs (xs.map a.eval)
 |[],vs,h=>by simp only[qex,sj]at h;subst h;exact .nil
 |x::r,vs,h=>by obtain⟨v,hv,h⟩:=obs h;obtain⟨us,hu,h⟩:=obs h;simp only[sj]at h;subst h;exact .cons (qb5 e hv) (qsm e hu)
theorem qnu{s:St} {a:Act} (e:EnvR ρ s a):∀{xs:List (Nat × Operand)} {vs:List (Nat × AV)},qgs s xs=some vs ->
  vs.map (·.1)=xs.map (·.1)/\VRs ρ (vs.map (·.2)) (xs.map fun p=>a.eval p.2)
 |[],vs,h=>by simp only[qgs,sj]at h;subst h;exact⟨rfl,.nil⟩
 |x::r,vs,h=>by obtain⟨v,hv,h⟩:=obs h;obtain⟨us,hu,h⟩:=obs h;simp only[sj]at h;subst h;obtain⟨h1,h2⟩:=qnu e hu;exact⟨by simp[h1],.cons (qb5 e hv) h2⟩
def Good(ρ:Place) (H:Heap) (w:World) (r:Result Value) (v:AV) (H':Heap):Prop:=
 ∃x ρ' w',r=.ok x w'/\VR ρ' v x/\Sim ρ' H' w'/\Step ρ H w ρ' H' w'
theorem Good.pure{H:Heap} {w:World} {v:AV} {x:Value} {r:Result Value} (s:Sim ρ H w) (hv:VR ρ v x) (hr:r=.ok x w):Good ρ H w r v H:=
 ⟨x,ρ,w,hr,hv,s,.refl _ _ _⟩
theorem qoq{w:World} {cs:List AV} {c:Array Value} {t:TypeId} {fr:Nat × Nat} {n:Nat} (hn:cs.length<=c.size) (hv:∀i (h:i < cs.length) (h':i < c.size),VR (ρ.upd n ⟨w.heap.size,0,c.size⟩) cs[i] c[i])
  (hf:∀i,i < c.size->(decide (fr.1<=i) && decide (i < fr.2))=false) :
  BlkR (ρ.upd n ⟨w.heap.size,0,c.size⟩) (w.alloc (.cells c t fr)) ⟨w.heap.size,0,c.size⟩ (.cells cs):=by
 have hh:(w.alloc (.cells c t fr)).heap[w.heap.size]? = some (.cells c t fr):=by show (w.heap.push _)[w.heap.size]? = _;simp
 refine⟨by simpa using hn,fun i hi=>⟨?_,?_⟩,fun i hi=>⟨c[i]'(by omega),?_,hv i hi (by omega)⟩⟩
 ·have:i < c.size:=hi;simp only[World.cell?,hh];simp[this]
 ·simp only[World.frozen?,hh];exact hf i hi
 ·have:i < c.size:=by omega
  simp only[World.cell?,hh];simp[this]
end
theorem qep(b o n:Nat):(⟨b,o,none⟩ : Addr).add n=⟨b,o+n,none⟩:=by unfold Addr.add;split<;>simp_all
section
variable {P:Program} {ρ:Place} {H H':Heap} {w:World}
theorem Sim.cellW(s:Sim ρ H w) {a:Addr} (h:ρ.B a.block):w.cell? a=ρ.W.cell? a:=by simp only[World.cell?,s.below _ h]
theorem qno(s:Sim ρ H w) {t:TypeId} {p v:AV} {x:Value} (h:qaq P H t p=some v) (hp:VR ρ p x) :
  ∃y,(Instr.loadAt t x).run P w=.ok y w/\VR ρ v y:=by
 replace h:=obs h;obtain⟨ag,hag,h⟩:=h;replace h:=obs h;obtain⟨n,hn,h⟩:=h;have hAg:=qrq hag w;have hN:=qcc hn w;cases ag with
 |true=>
  cases hp with
  |ptr b o l hl=>replace h:=obs h;obtain⟨cs,hcs,h⟩:=h;simp only[sj]at h;subst h;obtain⟨xs,hv,hlen,hc⟩:=qe0 s hcs hl;have hrun:=run_loadCells_list (P:=P) w ⟨l.cb,l.off+o,none⟩ xs (fun j y hj=>by rw[qep];exact hc j y hj);rw[hv.1,hlen]at hrun;refine⟨.agg xs.toArray,?_,.agg _ _ (by simp[hv.1]) fun i h1 h2=>by simpa using hv.2 i h1 (by simpa using h2)⟩;simp[Instr.loadAt,Instr.sureAddr,loadVar,hAg,hN,hrun]
  |fptr cs o cb off vs hB hc hv=>replace h:=obs h;obtain⟨r,hr,h⟩:=h;simp only[sj]at h;subst h;obtain⟨hlen,rfl⟩:=qkl hr;have hrun:=run_loadCells (P:=P) w ⟨cb,off+o,none⟩ n (fun j=>vs (o+j)) (fun j hj=>by rw[qep,s.cellW (a:=⟨cb,_,none⟩) hB,Nat.add_assoc];exact hc (o+j) (by omega));refine⟨_,by simp only[Instr.loadAt,Instr.sureAddr,loadVar,Sem.run_bind,Sem.run_pure,Result.andThen_ok,hAg,hN,hrun,if_true];rfl,.agg _ _ (by simp;omega) fun i h1 h2=>?_⟩;simp only[List.getElem_toArray,List.getElem_map,List.getElem_range,List.getElem_take,List.getElem_drop];exact(hv _ (by simp at h1;omega)).mono ρ.bare_le
  |_=>simp at h
 |false=>
  cases hp with
  |ptr b o l hl=>
   replace h:=obs h;obtain⟨k,hk,h⟩:=h;replace h:=obs h;obtain⟨cs,hrd,h⟩:=h
   ·obtain⟨l',hl',_,_,hr0⟩:=s.block hk;rw[hl]at hl';cases hl';have hr:=hr0.rdR hrd;obtain⟨hi,rfl⟩:=qed h;obtain⟨y,hy,hyv⟩:=hr.2.2 o hi;exact⟨y,by simp[Instr.loadAt,Instr.sureAddr,loadVar,hAg,load,Sem.run,hy],hyv⟩
  |fptr cs o cb off vs hB hc hv=>obtain⟨hi,rfl⟩:=qed h;refine⟨vs o,?_,(hv o hi).mono ρ.bare_le⟩;have:=hc o hi;rw[<- s.cellW (a:=⟨cb,off+o,none⟩) hB]at this;simp[Instr.loadAt,Instr.sureAddr,loadVar,hAg,load,Sem.run,this]
  |_=>simp at h
theorem qrw(s:Sim ρ H w) {t:TypeId} {p v:AV} {x y:Value} (h:writeVar P H t p v=some H') (hp:VR ρ p x) (hv:VR ρ v y) :
  ∃w',(Instr.storeAt t x y).run P w=.ok () w'/\Sim ρ H' w'/\Step ρ H w ρ H' w':=by
 replace h:=obs h;obtain⟨n,hn,h⟩:=h;split at h
 ·rename_i hlen;have hlen:=Nat.eq_of_beq_eq_true hlen;split at h
  ·rename_i hsing;have hcells:VRs ρ v.cells y.cells.toList:=hv.cells (by rintro rfl;simp[AV.cells,allSingle,AV.single]at hsing) (by rintro l rfl;simp[AV.cells,allSingle,AV.single]at hsing);cases hp with
   |ptr b o l hl=>obtain⟨h1,h2,h3⟩:=qkh (P:=P) s h hl hcells (hcells.oneCell hsing);refine⟨_,?_,h2,h3⟩;have hsz:y.cells.size=n:=(by have:=hcells.1;simp at this;omega);simp[Instr.storeAt,Instr.sureAddr,storeVar,qcc hn,hsz,h1]
   |_=>simp at h
  ·simp at h
 ·simp at h
theorem qn5{place:Nat->Option (Nat × Nat)} {place':Nat->Option (Nat × Nat)} (hpl:∀i p,place i=some p->place' i=some p) :
  ∀{parts:List (Nat × AV)} {vals:List (Nat × Value)} {cs cs':List AV} {c:Array Value},fillA place parts cs=some cs'->vals.map (·.1)=parts.map (·.1) ->
   VRs ρ (parts.map (·.2)) (vals.map (·.2))->VRs ρ cs c.toList->∃c',Instr.fill place' c vals=some c'/\VRs ρ cs' c'.toList
 |[],vals,cs,cs',c,h,hi,_,hc=>by
  simp only[fillA,sj]at h;subst h;cases vals with
  |nil=>exact⟨c,rfl,hc⟩
  |cons _ _=>simp at hi
 |x::r,vals,cs,cs',c,h,hi,hv,hc=>by
  cases vals with
  |nil=>simp at hi
  |cons y ys=>
   simp only[List.map_cons,List.cons.injEq]at hi;replace h:=obs h;obtain⟨p,hp,h⟩:=h;split at h
   ·rename_i hlen;have hlen:=Nat.eq_of_beq_eq_true hlen;split at h
    ·rename_i hsing;replace h:=obs h;obtain⟨cs1,hlay,h⟩:=h;have hyc:VRs ρ x.2.cells y.2.cells.toList:=hv.head.cells (by rintro e;simp[e,AV.cells,allSingle,AV.single]at hsing) (by rintro l e;simp[e,AV.cells,allSingle,AV.single]at hsing);obtain⟨h1,rfl⟩:=qo5 hlay;have hsz:y.2.cells.size=p.2:=(by have:=hyc.1;simp at this;omega);have hcl:c.size=cs.length:=(by simpa using hc.1);have hfold:∀(ys:List Value) (k:Nat) (c:Array Value),p.1+k+ys.length<=c.size ->
       ((ys.zipIdx k).foldl (fun cs (q:Value × Nat)=>cs.setIfInBounds (p.1+q.2) q.1) c).toList=c.toList.take (p.1+k)++ys++c.toList.drop (p.1+k+ys.length):=by
      intro ys;induction ys with
      |nil=>intro k c _;simp
      |cons z zs ih=>
       intro k c hk;simp only[List.zipIdx_cons,List.foldl_cons];simp only[List.length_cons]at hk;rw[ih (k+1) _ (by simp;omega)];have hlt:p.1+k < c.toList.length:=(by simp;omega);apply List.ext_getElem?;intro i;simp only[Array.toList_setIfInBounds,List.getElem?_append,List.length_append,List.length_take,List.length_set,List.length_cons,List.getElem?_take,List.getElem?_drop,List.getElem?_set];have hcl:c.toList.length=c.size:=(by simp);rw[hcl]at hlt ⊢;rw[Nat.min_eq_left (by omega),Nat.min_eq_left (by omega)];by_cases h1:i < p.1+k
       ·simp[h1,show i < p.1+(k+1) by omega,show i < p.1+(k+1)+zs.length by omega,show i < p.1+k+(zs.length+1) by omega,show p.1+k≠i by omega]
       ·by_cases h2:i=p.1+k
        ·subst h2;simp[show p.1+k < p.1+(k+1) by omega,show p.1+k < p.1+(k+1)+zs.length by omega,hlt]
        ·by_cases h3:i < p.1+(k+1)+zs.length
         ·simp[h1,h3,show ¬ i < p.1+(k+1) by omega,show i < p.1+k+(zs.length+1) by omega];rw[show i - (p.1+k)=(i - (p.1+(k+1)))+1 by omega];simp
         ·simp[h3,show ¬ i < p.1+k+(zs.length+1) by omega,show p.1+k≠p.1+(k+1)+zs.length+(i - (p.1+(k+1)+zs.length)) by omega];congr 1;omega
     have hfin:=hfold y.2.cells.toList 0 c (by simp;omega);simp only[Nat.add_zero,Array.length_toList]at hfin;generalize hc1:((y.2.cells.toList.zipIdx 0).foldl (fun cs (q:Value × Nat)=>cs.setIfInBounds (p.1+q.2) q.1) c)=c1 at hfin;obtain⟨c',hc',hv'⟩:=qn5 hpl (c:=c1) (vals:=ys) h hi.2 hv.tail (by rw[hfin];have htake:VRs ρ (cs.take p.1) (c.toList.take p.1):=⟨by simp;omega,fun i h1 h2=>by simp only[List.getElem_take];exact hc.2 i (by simp at h1;omega) (by simp at h2;simp;omega)⟩;have hdrop:VRs ρ (cs.drop (p.1+x.2.cells.length)) (c.toList.drop (p.1+y.2.cells.size)):=(by have:y.2.cells.size=x.2.cells.length:=(by omega);rw[this];exact⟨by simp;omega,fun i h1 h2=>by simp only[List.getElem_drop];exact hc.2 (p.1+x.2.cells.length+i) (by simp at h1;omega) (by simp at h2;simp;omega)⟩);exact(htake.append hyc).append hdrop);refine⟨c',?_,hv'⟩;simp only[Instr.fill,hi.1,hpl _ _ hp];rw[if_neg (by simp[hsz];omega),<- hc'];congr 1;rw[<- hc1];rw[<- Array.foldl_toList,Array.toList_zipIdx]
    ·simp at h
   ·simp at h
theorem qmg:∀{fs:List Field} {tbl:List (Nat × Nat)},qn6 P fs=some tbl->fs.mapM (fun f=>(P.info? f.type).map fun i=>(f.offset,i.size))=some tbl
 |[],tbl,h=>by simp only[qn6,sj]at h;subst h;rfl
 |f::r,tbl,h=>by obtain⟨n,hn,h⟩:=obs h;obtain⟨t,ht,h⟩:=obs h;simp only[sj]at h;subst h;obtain⟨i,hi,rfl⟩:=qgy hn;simp[List.mapM_cons,hi,qmg ht]
theorem qoc{α:Type} {l:List α} {i:Nat} {x:α} (h:qca l i=some x):l[i]? = some x:=by obtain⟨h1,h2⟩:=qed h;rw[List.getElem?_eq_getElem h1,h2]
theorem zcn{t:TypeId} {parts:List (Nat × AV)} {vals:List (Nat × Value)} {v:AV} (h:qdw P t parts=some v) (hi:vals.map (·.1)=parts.map (·.1))
  (hv:VRs ρ (parts.map (·.2)) (vals.map (·.2))) (w:World):∃y,(Instr.build t vals.toArray).run P w=.ok y w/\VR ρ v y:=by
 replace h:=obs h;obtain⟨z,hz,h⟩:=h;replace h:=obs h;obtain⟨d,hd,h⟩:=h;obtain⟨zv,rfl,hzr,it,hit,hiz⟩:=qel hz;have fin:∀{cs:List AV} {c':Array Value},P.built t vals=some c'->VRs ρ cs c'.toList->∃y,(Instr.build t vals.toArray).run P w=.ok y w/\VR ρ (.agg cs) y:=fun {cs c'} hb hr=>
  ⟨_,run_build w t vals.toArray c' (by simpa using hb),.agg _ _ (by simpa using hr.1) fun i h1 h2=>hr.2 i h1 (by simpa using h2)⟩
 cases d with
 |struct fs=>replace h:=obs h;obtain⟨tbl,ht,h⟩:=h;replace h:=obs h;obtain⟨cs,hcs,h⟩:=h;simp only[sj]at h;subst h;obtain⟨c',hc',hr⟩:=qn5 (place':=fun i=>tbl[i]?) (fun i p hp=>qoc hp) (vals:=vals) (c:=zv.cells) hcs hi hv (VRs.const zv);exact fin (by simp only[Program.built,hit,hd,hiz,qmg ht];simpa using hc') hr
 |array n e=>replace h:=obs h;obtain⟨m,hm,h⟩:=h;replace h:=obs h;obtain⟨cs,hcs,h⟩:=h;simp only[sj]at h;subst h;obtain⟨ie,hie,rfl⟩:=qgy hm;obtain⟨c',hc',hr⟩:=qn5 (place':=fun i=>some (i * ie.size,ie.size)) (fun i p hp=>hp) (vals:=vals) (c:=zv.cells) hcs hi hv (VRs.const zv);exact fin (by simp only[Program.built,hit,hd,hiz,hie];exact hc') hr
 |_=>simp at h
theorem qgj{α:Type} (z:List α):∀n,(replL z n).length=n * z.length
 |0=>by simp[replL]
 |n+1=>by simp[replL,qgj z n,Nat.succ_mul,Nat.add_comm]
theorem qsd{α:Type} (z:List α):∀(n i:Nat) (h:i < (replL z n).length) (h':i % z.length < z.length),(replL z n)[i]=z[i % z.length]
 |0,i,h,_=>by simp[replL]at h
 |n+1,i,h,h'=>by
  simp only[replL];by_cases hi:i < z.length
  ·rw[List.getElem_append_left hi];congr 1;exact(Nat.mod_eq_of_lt hi).symm
  ·rw[List.getElem_append_right (by omega),qsd z n (i - z.length) (by simp[replL]at h;omega) (by rw[<- Nat.mod_eq_sub_mod (by omega)];exact h')];congr 1;exact(Nat.mod_eq_sub_mod (by omega)).symm
theorem qkf{zv:Value} {n sz:Nat} (hz:(ofV zv).cells.length=sz) (hsz:zv.cells.size=sz) :
  VRs ρ (replL (ofV zv).cells n) ((Array.range (n * sz)).map fun i=>zv.cells[i % zv.cells.size]!).toList:=by
 have hc:=VRs.const (ρ:=ρ) zv;refine⟨by simp[qgj,hz],fun i h1 h2=>?_⟩;have h3:i < n * sz:=by rw[qgj,hz]at h1;exact h1
 have h0:0 < sz:=by
  rcases Nat.eq_zero_or_pos sz with h|h
  ·subst h;simp at h3
  ·exact h
 have hlt:i % zv.cells.size < zv.cells.size:=Nat.mod_lt _ (by omega);rw[qsd _ _ _ h1 (by rw[hz];exact Nat.mod_lt _ h0)];simp only[Array.toList_map,Array.toList_range,List.getElem_map,List.getElem_range];rw[getElem!_pos zv.cells _ hlt];have:=hc.2 (i % sz) (by rw[hz];exact Nat.mod_lt _ h0) (by simp[hsz];exact Nat.mod_lt _ h0);simp only[Array.getElem_toList]at this;simpa[hz,hsz]using this
theorem qp6(s:Sim ρ H w) {t:TypeId} {len:Nat} {parts:List (Nat × AV)} {vals:List (Nat × Value)} {cs:List AV} (h:sliceParts P t len parts=some cs)
  (hi:vals.map (·.1)=parts.map (·.1)) (hv:VRs ρ (parts.map (·.2)) (vals.map (·.2))) :
  ∃c e,P.underlying t=some (.slice e)/\(Instr.buildSlice t len vals.toArray).run P w=.ok (.slice (some ⟨w.heap.size,0,none⟩) len len) (w.alloc (.cells c e))/\VRs ρ cs c.toList:=by
 replace h:=obs h;obtain⟨d,hd,h⟩:=h;cases d with
 |slice elem=>
  replace h:=obs h;obtain⟨sz,hsz,h⟩:=h;split at h
  ·simp at h
  ·rename_i hle;have hle:=Nat.le_of_ble_eq_true hle;replace h:=obs h;obtain⟨z,hz,h⟩:=h;obtain⟨zv,rfl,hzr,it,hit,hiz⟩:=qel hz;split at h
   ·rename_i hzl;have hzl:=Nat.eq_of_beq_eq_true hzl;have hzs:zv.cells.size=sz:=(by have:=(VRs.const (ρ:=ρ) zv).1;simp at this;omega);have hz0:=qkf (ρ:=ρ) (n:=len) hzl hzs;obtain⟨c',hc',hr⟩:=qn5 (place':=fun i=>some (i * sz,sz)) (fun i p hp=>hp) (vals:=vals) h hi hv hz0;refine⟨c',elem,hd,?_,hr⟩
    have hn : ¬ len * sz > 2 ^ 24 := by have : (2:Nat) ^ 24 = 16777216 := by decide
                                        omega
    by_cases h0:len * sz=0
    ·have e0:((Array.range (len * sz)).map fun i=>zv.cells[i % zv.cells.size]!)=(Array.range (len * sz)).map fun i=>(#[]:Array Value)[i % (#[]:Array Value).size]!:=(by simp[h0]);rw[e0]at hc';have hc2:Instr.fill (fun i=>some (i * sz,sz)) (Array.map (fun _=>default) (Array.range 0)) vals=some c':=(by simpa[h0]using hc');simp[Instr.buildSlice,run_underlying hd,qcc hsz,h0,hc2,newRow,newObj,Sem.run]
    ·simp[Instr.buildSlice,run_underlying hd,qcc hsz,hn,h0,hzr,hc',newRow,newObj,Sem.run]
   ·simp at h
 |_=>simp at h
