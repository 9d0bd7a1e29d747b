/- How E's single operations meet the model's: memory, aggregates, addresses. No condition. -/
import Derived.CallsIn
import Derived.RangeFuncIn
import Derived.Below
import Derived.Laws.IdiomCopy
import Derived.Laws.NewBlocks
import Derived.Laws.Append
import Derived.Laws.IdiomRangeMap
import Derived.Laws.Tables
import Derived.ChangeKeysEq
import Derived.Laws.Slices
import Derived.Laws.StructEq
import Derived.Laws.Concat
import Derived.IntWalk
import Derived.Laws.BytesString
import Derived.Lib.Builder
import Derived.Laws.IdiomStrings
import Derived.MapKept
namespace Go.Proofs.YtocnpnnplllneaaGreatDoor
noncomputable section
set_option linter.unusedSimpArgs false
set_option linter.unusedVariables false
open Go Go.RowKit
theorem ja:type_of% @List.mem_cons:=@List.mem_cons
theorem jb:type_of% @Option.bind_some:=@Option.bind_some
theorem jc:type_of% @Nat.le_refl:=@Nat.le_refl
theorem jd:type_of% @Bool.and_eq_true:=@Bool.and_eq_true
theorem je:type_of% @List.flatten_cons:=@List.flatten_cons
theorem jf:type_of% @Prod.mk.injEq:=@Prod.mk.injEq
theorem jh:type_of% @Nat.zero_le:=@Nat.zero_le
theorem ji:type_of% @List.mem_map:=@List.mem_map
theorem jj:type_of% @List.map_cons:=@List.map_cons
theorem jk:type_of% @Nat.not_lt_zero:=@Nat.not_lt_zero
theorem jl:type_of% @List.mem_append:=@List.mem_append
theorem jo:type_of% @List.length_append:=@List.length_append
theorem jp:type_of% @List.mem_cons_of_mem:=@List.mem_cons_of_mem
theorem jq:type_of% @List.nil_append:=@List.nil_append
theorem jr:type_of% @List.nodup_cons:=@List.nodup_cons
theorem jv:type_of% @List.getElem_append_right:=@List.getElem_append_right
theorem jx:type_of% @List.length_cons:=@List.length_cons
theorem jy:type_of% @List.getElem_mem:=@List.getElem_mem
theorem j3:type_of% @List.map_append:=@List.map_append
theorem j4:type_of% @List.cons.injEq:=@List.cons.injEq
theorem j5:type_of% @List.getElem_cons_zero:=@List.getElem_cons_zero
theorem j6:type_of% @List.getElem_append_left:=@List.getElem_append_left
theorem j7:type_of% @Result.andThen_ok:=@Result.andThen_ok
theorem jA:type_of% @List.mem_cons_self:=@List.mem_cons_self
theorem jB:type_of% @Nat.le_of_ble_eq_true:=@Nat.le_of_ble_eq_true
theorem jC:type_of% @Bool.false_eq_true:=@Bool.false_eq_true
theorem jD:type_of% @Nat.beq_refl:=@Nat.beq_refl
theorem jE:type_of% @Array.getD_eq_getD_getElem?:=@Array.getD_eq_getD_getElem?
theorem jF:type_of% @List.drop_zero:=@List.drop_zero
theorem jH:type_of% @Sem.run_bind:=@Sem.run_bind
theorem jI:type_of% @Nat.lt_of_lt_of_le:=@Nat.lt_of_lt_of_le
theorem jJ:type_of% @List.length_map:=@List.length_map
theorem jK:type_of% @Nat.le_trans:=@Nat.le_trans
theorem jM:type_of% @Bool.or_eq_false_iff:=@Bool.or_eq_false_iff
theorem jN:type_of% @Nat.ble_eq:=@Nat.ble_eq
theorem jO:type_of% @Nat.zero_add:=@Nat.zero_add
theorem jR:type_of% @Nat.lt_or_ge:=@Nat.lt_or_ge
theorem jT:type_of% @List.getElem_map:=@List.getElem_map
theorem jX:type_of% @Nat.lt_succ_self:=@Nat.lt_succ_self
theorem jY:type_of% @List.getElem_take:=@List.getElem_take
theorem jZ:type_of% @Option.map_some:=@Option.map_some
theorem yb:type_of% @List.nodup_append:=@List.nodup_append
theorem yc:type_of% @List.getElem_drop:=@List.getElem_drop
theorem yh:type_of% @List.length_take:=@List.length_take
theorem yj:type_of% @List.Sublist.refl:=@List.Sublist.refl
theorem yk:type_of% @MapKept.run_getObj_map:=@MapKept.run_getObj_map
theorem ym:type_of% @List.getElem_cons_succ:=@List.getElem_cons_succ
theorem yn:type_of% @UInt8.toNat_inj:=@UInt8.toNat_inj
theorem yq:type_of% @Sem.run_pure:=@Sem.run_pure
theorem yv:type_of% @List.perm_append_comm:=@List.perm_append_comm
theorem y4:type_of% @Nat.add_zero:=@Nat.add_zero
theorem y5:type_of% @List.getElem_range:=@List.getElem_range
theorem y8:type_of% @Nat.mul_one:=@Nat.mul_one
theorem yB:type_of% @List.foldl_cons:=@List.foldl_cons
theorem yC:type_of% @Nat.eq_zero_or_pos:=@Nat.eq_zero_or_pos
theorem yG:type_of% @List.Perm.refl:=@List.Perm.refl
theorem yH:type_of% @List.sublist_cons_self:=@List.sublist_cons_self
theorem yK:type_of% @Nat.le_succ:=@Nat.le_succ
theorem yL:type_of% @Array.toArray_toList:=@Array.toArray_toList
theorem yN:type_of% @Nat.sub_self:=@Nat.sub_self
theorem yO:type_of% @IntWalk.i64_in:=@IntWalk.i64_in
theorem yV:type_of% @Nat.lt_irrefl:=@Nat.lt_irrefl
theorem yX:type_of% @Option.bind_none:=@Option.bind_none
abbrev lsB0:List UInt8:=[100,101,115,99,32,102,111,114,101,105,103,110,79,98,106,101,99,116,32,116,105,116,108,101]
abbrev lsB1:List UInt8:=[104,114,32,116,97,98,108,101,32,102,111,114,109,32,108,105,32,100,100,32,100,116]
abbrev lsB2:List UInt8:=[104,116,109,108,32,116,97,98,108,101,32,116,101,109,112,108,97,116,101]
abbrev lsB3:List UInt8:=[104,49,32,104,50,32,104,51,32,104,52,32,104,53,32,104,54]
abbrev lsB4:List UInt8:=[109,105,32,109,110,32,109,111,32,109,115,32,109,116,101,120,116]
abbrev lsB5:List UInt8:=[111,112,116,103,114,111,117,112,32,111,112,116,105,111,110]
abbrev lsB6:List UInt8:=[111,112,116,105,111,110,32,111,112,116,103,114,111,117,112]
abbrev lsB7:List UInt8:=[112,114,101,115,101,114,118,101,65,115,112,101,99,116,82,97,116,105,111]
abbrev lsB8:List UInt8:=[116,97,98,108,101,32,116,98,111,100,121,32,116,102,111,111,116,32,116,104,101,97,100,32,116,114,32,99,111,108,103,114,111,117,112]
abbrev lsB9:List UInt8:=[118,105,101,119,66,111,120,32,112,114,101,115,101,114,118,101,65,115,112,101,99,116,82,97,116,105,111,32,103,114,97,100,105,101,110,116,85,110,105,116,115]
abbrev lsB10:List UInt8:=[97,100,100,114,101,115,115,32,97,112,112,108,101,116,32,97,114,101,97,32,97,114,116,105,99,108,101,32,97,115,105,100,101,32,98,97,115,101,32,98,97,115,101,102,111,110,116,32,98,103,115,111,117,110,100,32,98,108,111,99,107,113,117,111,116,101,32,98,111,100,121,32,98,114,32,98,117,116,116,111,110,32,99,97,112,116,105,111,110,32,99,101,110,116,101,114,32,99,111,108,32,99,111,108,103,114,111,117,112,32,100,100,32,100,101,116,97,105,108,115,32,100,105,114,32,100,105,118,32,100,108,32,100,116,32,101,109,98,101,100,32,102,105,101,108,100,115,101,116,32,102,105,103,99,97,112,116,105,111,110,32,102,105,103,117,114,101,32,102,111,111,116,101,114,32,102,111,114,109,32,102,114,97,109,101,32,102,114,97,109,101,115,101,116,32,104,49,32,104,50,32,104,51,32,104,52,32,104,53,32,104,54,32,104,101,97,100,32,104,101,97,100,101,114,32,104,103,114,111,117,112,32,104,114,32,104,116,109,108,32,105,102,114,97,109,101,32,105,109,103,32,105,110,112,117,116,32,107,101,121,103,101,110,32,108,105,32,108,105,110,107,32,108,105,115,116,105,110,103,32,109,97,105,110,32,109,97,114,113,117,101,101,32,109,101,110,117,32,109,101,116,97,32,110,97,118,32,110,111,101,109,98,101,100,32,110,111,102,114,97,109,101,115,32,110,111,115,99,114,105,112,116,32,111,98,106,101,99,116,32,111,108,32,111,112,116,103,114,111,117,112,32,111,112,116,105,111,110,32,112,32,112,97,114,97,109,32,112,108,97,105,110,116,101,120,116,32,112,114,101,32,115,99,114,105,112,116,32,115,101,97,114,99,104,32,115,101,99,116,105,111,110,32,115,101,108,101,99,116,32,115,111,117,114,99,101,32,115,116,121,108,101,32,115,117,109,109,97,114,121,32,116,97,98,108,101,32,116,98,111,100,121,32,116,100,32,116,101,109,112,108,97,116,101,32,116,101,120,116,97,114,101,97,32,116,102,111,111,116,32,116,104,32,116,104,101,97,100,32,116,105,116,108,101,32,116,114,32,116,114,97,99,107,32,117,108,32,119,98,114,32,120,109,112]
abbrev qsa:List UInt8:=[97,100,100,114,101,115,115,32,97,114,116,105,99,108,101,32,97,115,105,100,101,32,98,108,111,99,107,113,117,111,116,101,32,99,101,110,116,101,114,32,100,101,116,97,105,108,115,32,100,105,97,108,111,103,32,100,105,114,32,100,105,118,32,100,108,32,102,105,101,108,100,115,101,116,32,102,105,103,99,97,112,116,105,111,110,32,102,105,103,117,114,101,32,102,111,111,116,101,114,32,104,101,97,100,101,114,32,104,103,114,111,117,112,32,108,105,115,116,105,110,103,32,109,97,105,110,32,109,101,110,117,32,110,97,118,32,111,108,32,112,32,112,114,101,32,115,101,97,114,99,104,32,115,101,99,116,105,111,110,32,115,117,109,109,97,114,121,32,117,108]
abbrev lsB12:List UInt8:=[97,110,110,111,116,97,116,105,111,110,45,120,109,108,32,109,105,32,109,110,32,109,111,32,109,115,32,109,116,101,120,116]
abbrev lsB13:List UInt8:=[97,110,110,111,116,97,116,105,111,110,45,120,109,108,32,109,97,116,104,32,109,102,114,97,99,32,109,105,32,109,110,32,109,111,32,109,114,111,119,32,109,115,32,109,116,101,120,116]
abbrev lsB14:List UInt8:=[97,112,112,108,101,116,32,99,97,112,116,105,111,110,32,104,116,109,108,32,109,97,114,113,117,101,101,32,111,98,106,101,99,116,32,116,97,98,108,101,32,116,100,32,116,101,109,112,108,97,116,101,32,116,104]
abbrev qs9:List UInt8:=[97,112,112,108,101,116,32,99,97,112,116,105,111,110,32,109,97,114,113,117,101,101,32,111,98,106,101,99,116,32,116,100,32,116,104]
abbrev lsB16:List UInt8:=[97,32,97,98,98,114,32,97,100,100,114,101,115,115,32,97,114,101,97,32,97,114,116,105,99,108,101,32,97,115,105,100,101,32,98,32,98,100,105,32,98,100,111,32,98,105,103,32,98,108,111,99,107,113,117,111,116,101,32,98,114,32,98,117,116,116,111,110,32,99,97,112,116,105,111,110,32,99,101,110,116,101,114,32,99,105,116,101,32,99,111,100,101,32,99,111,108,32,99,111,108,103,114,111,117,112,32,100,97,116,97,32,100,97,116,97,108,105,115,116,32,100,100,32,100,101,108,32,100,101,116,97,105,108,115,32,100,102,110,32,100,105,97,108,111,103,32,100,105,118,32,100,108,32,100,116,32,101,109,32,102,105,101,108,100,115,101,116,32,102,105,103,99,97,112,116,105,111,110,32,102,105,103,117,114,101,32,102,111,110,116,32,102,111,111,116,101,114,32,102,111,114,109,32,104,49,32,104,50,32,104,51,32,104,52,32,104,53,32,104,54,32,104,101,97,100,101,114,32,104,103,114,111,117,112,32,104,114,32,105,32,105,109,103,32,105,110,112,117,116,32,105,110,115,32,107,98,100,32,108,97,98,101,108,32,108,101,103,101,110,100,32,108,105,32,109,97,105,110,32,109,97,112,32,109,97,114,107,32,109,101,110,117,32,109,101,116,101,114,32,110,97,118,32,110,111,98,114,32,111,108,32,111,112,116,103,114,111,117,112,32,111,112,116,105,111,110,32,111,117,116,112,117,116,32,112,32,112,114,101,32,112,114,111,103,114,101,115,115,32,113,32,115,32,115,97,109,112,32,115,101,97,114,99,104,32,115,101,99,116,105,111,110,32,115,101,108,101,99,116,32,115,109,97,108,108,32,115,112,97,110,32,115,116,114,105,107,101,32,115,116,114,111,110,103,32,115,117,98,32,115,117,109,109,97,114,121,32,115,117,112,32,116,97,98,108,101,32,116,98,111,100,121,32,116,100,32,116,101,120,116,97,114,101,97,32,116,102,111,111,116,32,116,104,32,116,104,101,97,100,32,116,105,109,101,32,116,114,32,116,116,32,117,32,117,108,32,118,97,114,32,119,98,114]
abbrev lsB17:List UInt8:=[99,105,114,99,108,101,32,100,101,115,99,32,102,111,114,101,105,103,110,79,98,106,101,99,116,32,103,32,112,97,116,104,32,114,101,99,116,32,115,118,103,32,116,101,120,116,32,116,105,116,108,101]
abbrev lsB18:List UInt8:=[99,97,112,116,105,111,110,32,99,111,108,103,114,111,117,112,32,116,98,111,100,121,32,116,102,111,111,116,32,116,104,101,97,100]
abbrev zgs:List UInt8:=[99,97,112,116,105,111,110,32,99,111,108,32,99,111,108,103,114,111,117,112,32,116,98,111,100,121,32,116,100,32,116,102,111,111,116,32,116,104,32,116,104,101,97,100,32,116,114]
theorem obs{α β:Type _} {f:α -> Option β} {o:Option α} {b:β} (h:o.bind f = some b):∃a,o = some a /\ f a = some b:=Option.bind_eq_some_iff.1 h
theorem sj{α:Type _} (a b:α):(some a = some b) = (a = b):=Option.some.injEq a b
inductive Cap where
 |ex (c:Nat)
 |rest (sz:Nat)
 deriving DecidableEq
inductive AV where
 |undef
 |bool (b:Bool)
 |int (k:IntKind) (n:Int)
 |float (k:FloatKind) (bits:Nat)
 |cplx (k:FloatKind) (re im:Nat)
 |str (s:List UInt8)
 |nilP
 |ptr (b o:Nat)
 |fptr (cs:List AV) (o:Nat)
 |nilS
 |eslc
 |zslc
 |slc (b o len:Nat) (cap:Cap)
 |fslc (sz:Nat) (es:List AV)
 /-- as fslc, with no room behind it (not empty) -/
 |xslc (sz:Nat) (es:List AV)
 |nilM
 |map (b:Nat)
 |nilF
 |func (fn:Fn) (first captured:List AV)
 |nilI
 |iface (t:TypeId) (v:AV)
 |agg (cs:List AV)
 |tup (cs:List AV)
 |yld (b:Nat)
 |zptr (b o:Nat)
 |val (v:Value)
def objs:List TypeId:=[88]
inductive Blk where
 |cells (cs:List AV)
 |map (es:List (AV × AV))
 |obj (t:TypeId) (cs:List AV)
 |buf (t:TypeId) (fz:Nat) (cs:List AV)
 |iter (s:List UInt8) (pos:Nat)
 /-- a loop over a map that nobody writes: what has not been handed out, and the last that was -/
 |rng (left:List (AV × AV)) (cur:Option (AV × AV))
 |loop (st:LoopState) (pend:Option Code) (ks:List Nat) (vs:List AV) (ts:List (Nat × AV)) (sz:Nat) (ps:List Nat) (assign body:Code)
structure Heap where
 n:Nat
 fs:List (List (Nat × Blk))
def getF(b:Nat):List (Nat × Blk)->Option Blk
 |[]=>none
 |x::r=>match Nat.beq x.1 b with
  |true=>some x.2
  |false=>getF b r
def getFs(b:Nat):List (List (Nat × Blk))->Option Blk
 |[]=>none
 |f::r=>match getF b f with
  |some x=>some x
  |none=>getFs b r
def Heap.get(H:Heap) (b:Nat):Option Blk:=getFs b H.fs
def setF(b:Nat) (k:Blk):List (Nat × Blk)->Option (List (Nat × Blk))
 |[]=>none
 |x::r=>match Nat.beq x.1 b with
  |true=>some ((b,k)::r)
  |false=>(setF b k r).bind fun r'=>some (x::r')
def setFs(b:Nat) (k:Blk):List (List (Nat × Blk))->Option (List (List (Nat × Blk)))
 |[]=>none
 |f::r=>match setF b k f with
  |some f'=>some (f'::r)
  |none=>(setFs b k r).bind fun r'=>some (f::r')
def Heap.set(H:Heap) (b:Nat) (k:Blk):Option Heap:=match H with
 |⟨n,fs0⟩=>(setFs b k fs0).bind fun fs=>some ⟨n,fs⟩
def killF(b:Nat):List (Nat × Blk)->List (Nat × Blk)
 |[]=>[]
 |x::r=>match Nat.beq x.1 b with
  |true=>r
  |false=>x::killF b r
def Heap.kill(H:Heap) (b:Nat):Heap:=match H.fs with
 |[]=>H
 |f::r=>⟨H.n,killF b f::r⟩
def qem(b:Nat):List (List (Nat × Blk))->List (List (Nat × Blk))
 |[]=>[]
 |f::r=>match getF b f with
  |some _=>killF b f::r
  |none=>f::qem b r
def Heap.drop(H:Heap) (b:Nat):Heap:=match H with
 |⟨n,fs⟩=>⟨n,qem b fs⟩
def pushF(x:Nat × Blk):List (List (Nat × Blk))->List (List (Nat × Blk))
 |[]=>[[x]]
 |f::r=>(x::f)::r
def Heap.new(H:Heap) (k:Blk):Heap:=match H with
 |⟨n,fs⟩=>⟨Nat.succ n,pushF (n,k) fs⟩
def qcy{α:Type}:List α->Nat->Option α
 |[],_=>none
 |x::r,i=>match i with
  |0=>some x
  |Nat.succ j=>qcy r j
def setL{α:Type} (v:α):List α->Nat->Option (List α)
 |[],_=>none
 |x::r,i=>match i with
  |0=>some (v::r)
  |Nat.succ j=>(setL v r j).bind fun r'=>some (x::r')
def qef{α:Type}:Nat->List α->Option (List α)
 |0,_=>some []
 |Nat.succ n,l=>match l with
  |[]=>none
  |x::r=>(qef n r).bind fun r'=>some (x::r')
def qek{α:Type} (o n:Nat) (l:List α):Option (List α):=qef n (l.drop o)
def qif{α:Type}:List α->List α->Option (List α)
 |[],l=>some l
 |v::vs,l=>match l with
  |[]=>none
  |_::r=>(qif vs r).bind fun r'=>some (v::r')
def qho{α:Type} (vs:List α):Nat->List α->Option (List α)
 |0,l=>qif vs l
 |Nat.succ o,l=>match l with
  |[]=>none
  |x::r=>(qho vs o r).bind fun r'=>some (x::r')
def replL{α:Type} (z:List α):Nat->List α
 |0=>[]
 |Nat.succ n=>z++replL z n
def AV.cells:AV->List AV
 |.agg cs=>cs
 |v=>[v]
def AV.single:AV->Bool
 |.undef | .agg _ | .tup _=>false
 |_=>true
def allSingle:List AV->Bool
 |[]=>true
 |v::r=>match v.single with
  |true=>allSingle r
  |false=>false
def ofV1:Value->AV
 |.bool b=>.bool b
 |.int k n=>.int k n
 |.float k b=>.float k b
 |.complex k a b=>.cplx k a b
 |.string s=>.str s.data.toList
 |.pointer none=>.nilP
 |.slice none 0 0=>.nilS
 |.map none=>.nilM
 |.nilFunc=>.nilF
 |.nilIface=>.nilI
 |_=>.undef
def ofV:Value->AV
 |.agg cs=>.agg (cs.toList.map ofV1)
 |v=>ofV1 v
def qc1(P:Program) (t:TypeId):Option AV:=(P.info? t).bind fun i=>i.zero.bind fun z=>some (ofV z)
def qcg(P:Program) (t:TypeId):Option Nat:=(P.info? t).bind fun i=>some i.size
def qco(P:Program) (t:TypeId):Option Nat:=(P.info? t).bind fun i=>some i.bytes
def qi8(P:Program) (t:TypeId):Option Bool:=(P.underlying t).bind fun d=>match d with
 |.struct _ | .array _ _=>some true
 |_=>some false
structure St where
 ks:List Nat
 vs:List AV
 ts:List (Nat × AV)
 sz:Nat
 H:Heap
/- These three are given by List.rec itself: the kernel is several times quicker with it than with the compiled recursion. -/
def look(t:Nat) (l:List (Nat × AV)):Option AV:=
 List.rec (motive:=fun _=>Option AV) none (fun x _ ih=>Bool.rec (motive:=fun _=>Option AV) ih (some x.2) (Nat.beq x.1 t)) l
theorem qov{t:Nat}:look t []=none:=rfl
theorem qfo{t:Nat} {x:Nat × AV} {r:List (Nat × AV)}:look t (x::r)=match Nat.beq x.1 t with
  |true=>some x.2
  |false=>look t r:=by
 show (Bool.rec (motive:=fun _=>Option AV) (look t r) (some x.2) (Nat.beq x.1 t))=_;cases Nat.beq x.1 t<;>rfl
def qgw(t:Nat) (l:List Nat):List AV->Option AV:=
 List.rec (motive:=fun _=>List AV->Option AV) (fun _=>none) (fun k _ ih vs=>List.rec (motive:=fun _=>Option AV) none (fun v r _=>Bool.rec (motive:=fun _=>Option AV) (ih r) (some v) (Nat.beq k t)) vs) l
theorem qk2{t:Nat} {vs:List AV}:qgw t [] vs=none:=rfl
theorem qe8{t k:Nat} {ks:List Nat} {vs:List AV}:qgw t (k::ks) vs=match vs with
  |v::r=>match Nat.beq k t with
   |true=>some v
   |false=>qgw t ks r
  |[]=>none:=by
 cases vs with
 |nil=>rfl
 |cons v r=>show (Bool.rec (motive:=fun _=>Option AV) (qgw t ks r) (some v) (Nat.beq k t))=_;cases Nat.beq k t<;>rfl
def St.get(s:St) (t:Nat):Option AV:=match qgw t s.ks s.vs with
 |some v=>some v
 |none=>look t s.ts
def zax(t:Nat) (v:AV) (l:List Nat):List AV->Option (List AV):=
 List.rec (motive:=fun _=>List AV->Option (List AV)) (fun _=>none) (fun k _ ih vs=>List.rec (motive:=fun _=>Option (List AV)) none (fun x r _=>Bool.rec (motive:=fun _=>Option (List AV)) ((ih r).bind fun r'=>some (x::r')) (some (v::r)) (Nat.beq k t)) vs) l
theorem putK_n{t:Nat} {v:AV} {vs:List AV}:zax t v [] vs=none:=rfl
theorem qwc{t k:Nat} {v:AV} {ks:List Nat} {vs:List AV}:zax t v (k::ks) vs=match vs with
  |x::r=>match Nat.beq k t with
   |true=>some (v::r)
   |false=>(zax t v ks r).bind fun r'=>some (x::r')
  |[]=>none:=by
 cases vs with
 |nil=>rfl
 |cons x r=>show (Bool.rec (motive:=fun _=>Option (List AV)) ((zax t v ks r).bind fun r'=>some (x::r')) (some (v::r)) (Nat.beq k t))=_;cases Nat.beq k t<;>rfl
def St.set(s:St) (t:Nat) (v:AV):Option St:=match s with
 |⟨ks,vs0,ts,sz,H⟩=>match Nat.blt t sz with
  |true=>match zax t v ks vs0 with
   |some vs=>some ⟨ks,vs,ts,sz,H⟩
   |none=>some ⟨ks,vs0,(t,v)::ts,sz,H⟩
  |false=>none
def St.wH(s:St) (H:Heap):St:=match s with
 |⟨ks,vs,ts,sz,_⟩=>⟨ks,vs,ts,sz,H⟩
def St.wT(s:St):St:=match s with
 |⟨ks,vs,_,sz,H⟩=>⟨ks,vs,[],sz,H⟩
def St.put(s:St) (d:Option Tmp) (v:AV):Option St:=match d with
 |some t=>s.set t v
 |none=>some s
def qpg:List Int:=List.replicate 128 240++List.replicate 66 241++List.replicate 30 2++[19]++List.replicate 12 3++[35]++List.replicate 2 3++[52]++List.replicate 3 4++[68]++List.replicate 11 241
def utfAcc:List Int:=[128,191,160,191,128,159,144,191,128,143]++List.replicate 22 0
def pins:List (Nat × List Int):=[(0,qpg),(1,utfAcc)]
def pinC(g:Nat):List (Nat × List Int)->Option (List AV)
 |[]=>none
 |x::r=>match Nat.beq x.1 g with
  |true=>some (x.2.map (.int .u8))
  |false=>pinC g r
def tabs:List (Nat × IntKind × List Int):=[]
def qc0(s:St):Operand->Option AV
 |.tmp t=>s.get t
 |.const v=>some (ofV v)
 |.func f=>some (.func (.func f) [] [])
 |.global g=>(pinC g pins).bind fun cs=>some (.fptr cs 0)
def qg5(s:St):List Operand->Option (List AV)
 |[]=>some []
 |x::r=>(qc0 s x).bind fun v=>(qg5 s r).bind fun vs=>some (v::vs)
def qji(s:St):Option Operand->Option (Option AV)
 |none=>some none
 |some x=>(qc0 s x).bind fun v=>some (some v)
def qi6(s:St):List (Nat × Operand)->Option (List (Nat × AV))
 |[]=>some []
 |x::r=>(qc0 s x.2).bind fun v=>(qi6 s r).bind fun vs=>some ((x.1,v)::vs)
def refs:Nat->AV->List Nat
 |0,_=>[]
 |Nat.succ n,v=>match v with
  |.ptr b _=>[b]
  |.slc b _ _ _=>[b]
  |.map b=>[b]
  |.yld b=>[b]
  |.zptr b _=>[b]
  |.func _ a c=>a.flatMap (refs n)++c.flatMap (refs n)
  |.iface _ v=>refs n v
  |.agg cs=>cs.flatMap (refs n)
  |.tup cs=>cs.flatMap (refs n)
  |_=>[]
def qs5:Blk->List Nat
 |.cells cs=>cs.flatMap (refs 4)
 |.obj _ cs=>cs.flatMap (refs 4)
 |.buf _ _ cs=>cs.flatMap (refs 4)
 |.iter _ _=>[]
 |.rng _ _=>[]
 |.map es=>es.flatMap fun e=>refs 4 e.1++refs 4 e.2
 |.loop ..=>[]
def qgu:Nat->List Nat->List (Nat × Blk)->List (Nat × Blk)->List (Nat × Blk) × List (Nat × Blk)
 |0,_,f,acc=>(acc,f)
 |Nat.succ n,todo,f,acc=>match todo with
  |[]=>(acc,f)
  |b::r=>match f with
   |[]=>(acc,f)
   |_::_=>match getF b f with
    |none=>qgu n r f acc
    |some k=>qgu n (qs5 k++r) (killF b f) ((b,k)::acc)
def qqh:List (Nat × Blk)->List Nat
 |[]=>[]
 |x::r=>qs5 x.2++qqh r
def qdj(b:Nat):List Nat->List (Nat × Blk)->List (List (Nat × Blk))->List (List (Nat × Blk))
 |_,carry,[]=>[carry]
 |roots,carry,f::r=>match getF b f with
  |some _=>(carry++f)::r
  |none=>match qgu 100000 roots f []with
   |(ex,rest)=>rest::qdj b (qqh ex++roots) (ex++carry) r
def Heap.ready(H:Heap) (b:Nat) (vs:List AV):Heap:=match vs.flatMap (refs 6)with
 |[]=>H
 |r::rs=>⟨H.n,qdj b (r::rs) [] H.fs⟩
def qdk(l:List (Nat × Blk)):List (List (Nat × Blk))->List (List (Nat × Blk))
 |[]=>[l]
 |f::r=>(l++f)::r
def qwe(v:AV) (H:Heap):Heap:=match H.fs with
 |[]=>H
 |f::r=>match refs 6 v with
  |[]=>⟨H.n,r⟩
  |b::bs=>⟨H.n,qdk (qgu 100000 (b::bs) f []).1 r⟩
def qad:List UInt8->List AV
 |[]=>[]
 |c::r=>.int .u8 c.toNat::qad r
def Blk.rd:Blk->Option (List AV)
 |.cells cs=>some cs
 |.obj _ cs=>some cs
 |.buf _ _ cs=>some cs
 |_=>none
def Blk.wt(k:Blk) (o:Nat):Option (List AV):=match k with
 |.cells cs=>some cs
 |.obj _ cs=>some cs
 |.buf _ fz cs=>match Nat.ble fz o with
  |true=>some cs
  |false=>none
 |_=>none
def Blk.re:Blk->List AV->Blk
 |.obj t _,cs=>.obj t cs
 |.buf t fz _,cs=>.buf t fz cs
 |_,cs=>.cells cs
def readCells(H:Heap) (b o n:Nat):Option (List AV):=(H.get b).bind fun k=>k.rd.bind fun cs=>qek o n cs
def qb3(P:Program) (H:Heap) (t:TypeId) (p:AV):Option AV:=(qi8 P t).bind fun ag=>(qcg P t).bind fun n=>
 match ag with
 |true=>match p with
  |.ptr b o=>(readCells H b o n).bind fun cs=>some (.agg cs)
  |.fptr cs o=>(qek o n cs).bind fun cs=>some (.agg cs)
  |_=>none
 |false=>match p with
  |.ptr b o=>(H.get b).bind fun k=>k.rd.bind fun cs=>qcy cs o
  |.fptr cs o=>qcy cs o
  |_=>none
def writeCells(H:Heap) (b o:Nat) (vs:List AV):Option Heap:=(H.get b).bind fun k=>(k.wt o).bind fun cs=>(qho vs o cs).bind fun cs'=>(H.ready b vs).set b (k.re cs')
def writeVar(P:Program) (H:Heap) (t:TypeId) (p v:AV):Option Heap:=(qcg P t).bind fun n=>
 match Nat.beq v.cells.length n with
 |true=>match allSingle v.cells with
  |true=>match p with
   |.ptr b o=>writeCells H b o v.cells
   |_=>none
  |false=>none
 |false=>none
def zi0(n:Int):Bool:=match n with
 |.ofNat m=>Nat.ble m 9223372036854775807
 |.negSucc m=>Nat.ble m 9223372036854775807
theorem fits64_iff{n:Int}:zi0 n=true ↔ -9223372036854775808<=n/\n<=9223372036854775807:=by
 cases n with
 |ofNat m=>show Nat.ble m 9223372036854775807=true↔_;rw[jN,Int.ofNat_eq_natCast];omega
 |negSucc m=>show Nat.ble m 9223372036854775807=true↔_;rw[jN,Int.negSucc_eq];omega
def wr(k:IntKind) (n:Int):Option Int:=match k with
 |.i64=>match zi0 n with
  |true=>some n
  |false=>none
 |k=>some (k.wrap n)
def qpc(op:BinOp) (k:IntKind) (x y:Int):Option AV:=match op with
 |.add=>(wr k (x+y)).bind fun n=>some (.int k n)
 |.sub=>(wr k (x - y)).bind fun n=>some (.int k n)
 |.mul=>(wr k (x * y)).bind fun n=>some (.int k n)
 |.quo=>if y=0 then none else (wr k (x.tdiv y)).bind fun n=>some (.int k n)
 |.rem=>if y=0 then none else some (.int k (x.tmod y))
 |.and=>some (.int k (k.wrap (BitVec.ofInt k.bits x &&& BitVec.ofInt k.bits y).toNat))
 |.or=>some (.int k (k.wrap (BitVec.ofInt k.bits x ||| BitVec.ofInt k.bits y).toNat))
 |.xor=>some (.int k (k.wrap (BitVec.ofInt k.bits x ^^^ BitVec.ofInt k.bits y).toNat))
 |.andNot=>some (.int k (k.wrap (BitVec.ofInt k.bits x &&& ~~~ BitVec.ofInt k.bits y).toNat))
 |.eql=>some (.bool (x == y))
 |.neq=>some (.bool (x != y))
 |.lss=>some (.bool (x < y))
 |.leq=>some (.bool (x<=y))
 |.gtr=>some (.bool (x > y))
 |.geq=>some (.bool (x >= y))
 |_=>none
def qtv(op:BinOp) (k:IntKind) (x y:Int):Option AV:=if y < 0 then none else match op with
 |.shl=>(wr k (x * 2 ^ (min y.toNat k.bits))).bind fun n=>some (.int k n)
 |.shr=>some (.int k (x.fdiv (2 ^ (min y.toNat k.bits))))
 |_=>none
def eqB:List UInt8->List UInt8->Bool
 |[],l=>match l with|[]=>true|_::_=>false
 |a::x,l=>match l with
  |[]=>false
  |b::y=>match Nat.beq a.toNat b.toNat with
   |true=>eqB x y
   |false=>false
def qvv(op:BinOp) (x y:List UInt8):Option AV:=match op with
 |.add=>if x.length+y.length<=1099511627776 then some (.str (x++y)) else none
 |.eql=>some (.bool (eqB x y))
 |.neq=>some (.bool (!eqB x y))
 |.lss=>some (.bool (Op.bytesLess x y))
 |.leq=>some (.bool (Op.bytesLess x y || eqB x y))
 |.gtr=>some (.bool !(Op.bytesLess x y || eqB x y))
 |.geq=>some (.bool !(Op.bytesLess x y))
 |_=>none
def qzc(op:BinOp) (k:FloatKind) (x y:Nat):Option AV:=match op with
 |.add=>(k.format.add x y).bind fun r=>some (.float k r)
 |.sub=>(k.format.sub x y).bind fun r=>some (.float k r)
 |.mul=>(k.format.mul x y).bind fun r=>some (.float k r)
 |.lss=>some (.bool (k.format.order x y == some .lt))
 |.gtr=>some (.bool (k.format.order x y == some .gt))
 |_=>none
def ziv(op:BinOp) (k:FloatKind) (a b c d:Nat):Option AV:=match op with
 |.sub=>(k.format.sub a c).bind fun r=>(k.format.sub b d).bind fun i=>some (.cplx k r i)
 |_=>none
def qkb(d:TypeDesc) (x y:AV):Option Bool:=match d,x,y with
 |.bool,.bool a,.bool b=>some (a == b)
 |.int _,.int k a,.int k' b=>if k=k' then some (a == b) else none
 |.string,.str a,.str b=>some (eqB a b)
 |.slice _,.nilS,.nilS=>some true
 |.slice _,.nilS,.slc ..=>some false
 |.slice _,.nilS,.fslc _ (_::_)=>some false
 |.slice _,.nilS,.eslc=>some false
 |.slice _,.slc ..,.nilS=>some false
 |.slice _,.fslc _ (_::_),.nilS=>some false
 |.slice _,.eslc,.nilS=>some false
 |.pointer _,.nilP,.nilP=>some true
 |.pointer _,.nilP,.ptr ..=>some false
 |.pointer _,.nilP,.fptr ..=>some false
 |.pointer _,.ptr ..,.nilP=>some false
 |.pointer _,.fptr ..,.nilP=>some false
 |.map _ _,.nilM,.nilM=>some true
 |.map _ _,.nilM,.map _=>some false
 |.map _ _,.map _,.nilM=>some false
 |.func _ _ _,.nilF,.nilF=>some true
 |.func _ _ _,.nilF,.func ..=>some false
 |.func _ _ _,.func ..,.nilF=>some false
 |_,_,_=>none
def qjd(d:TypeDesc):Bool:=match d with
 |.bool | .int _ | .string=>true
 |_=>false
def eqFields(P:Program):List Field->List AV->List AV->Option Bool
 |[],_,_=>some true
 | f :: fs, xs, ys => match f.name == "_" with
  |true=>none
  |false=>(P.underlying f.type).bind fun d=>match qjd d with
   |false=>none
   |true=>(qcy xs f.offset).bind fun x=>(qcy ys f.offset).bind fun y=>(qkb d x y).bind fun e=>match e with
    |true=>eqFields P fs xs ys
    |false=>some false
def eqA(P:Program) (t:TypeId) (x y:AV):Option Bool:=(P.underlying t).bind fun d=>match d,x,y with
 |.struct fs,.agg xs,.agg ys=>match P.stoodInHeld t,P.eqGuardType P.depth t with
  |false,false=>eqFields P fs.toList xs ys
  |_,_=>none
 |.pointer te,.ptr a c,.ptr b d=>(qcg P te).bind fun n=>match Nat.beq a b && Nat.blt 0 n with
  |true=>some (Nat.beq c d)
  |false=>none
 |_,_,_=>qkb d x y
def qdy(P:Program) (op:BinOp) (t:TypeId) (x y:AV):Option AV:=match x,y with
 |.int k a,.int k' b=>match op with
  |.shl=>qtv .shl k a b
  |.shr=>qtv .shr k a b
  |_=>if k=k' then qpc op k a b else none
 |.str a,.str b=>qvv op a b
 |.float k a,.float k' b=>if k=k' then qzc op k a b else none
 |.cplx k a b,.cplx k' c d=>if k=k' then ziv op k a b c d else none
 |.cplx ..,_=>none
 |_,_=>match op with
  |.eql=>(eqA P t x y).bind fun e=>some (.bool e)
  |.neq=>(eqA P t x y).bind fun e=>some (.bool !e)
  |_=>none
def unA(op:UnOp) (x:AV):Option AV:=match op,x with
 |.not,.bool b=>some (.bool !b)
 |.neg,.int k n=>(wr k (0 - n)).bind fun m=>some (.int k m)
 |.xor,.int k n=>some (.int k (k.wrap (BitVec.ofInt k.bits (if k.signed then -1 else k.max) ^^^ BitVec.ofInt k.bits n).toNat))
 |_,_=>none
def zca:Operand->Bool
 |.const _=>true
 |_=>false
def ifA(P:Program) (op:BinOp) (t:TypeId) (e:Bool):Option AV:=(P.underlying t).bind fun d=>match d with
 |.interface _=>match op with
  |.eql=>some (.bool e)
  |.neq=>some (.bool !e)
  |_=>none
 |_=>none
def qmf(P:Program) (op:BinOp) (t:TypeId) (c:Bool) (x y:AV):Option AV:=match x with
 |.nilI=>match y with
  |.nilI=>match c with
   |true=>ifA P op t true
   |false=>none
  |.iface _ _=>ifA P op t false
  |_=>none
 |.iface _ _=>match y with
  |.nilI=>ifA P op t false
  |_=>none
 |x=>qdy P op t x y
def fillA(place:Nat->Option (Nat × Nat)):List (Nat × AV)->List AV->Option (List AV)
 |[],cs=>some cs
 |x::r,cs=>(place x.1).bind fun p=>match Nat.beq x.2.cells.length p.2 with
  |true=>match allSingle x.2.cells with
   |true=>(qho x.2.cells p.1 cs).bind fun cs'=>fillA place r cs'
   |false=>none
  |false=>none
def qpv(P:Program):List Field->Option (List (Nat × Nat))
 |[]=>some []
 |f::r=>(qcg P f.type).bind fun n=>(qpv P r).bind fun t=>some ((f.offset,n)::t)
def qgq(P:Program) (t:TypeId) (parts:List (Nat × AV)):Option AV:=(qc1 P t).bind fun z=>(P.underlying t).bind fun d=>match d with
 |.struct fs=>(qpv P fs.toList).bind fun tbl=>(fillA (qcy tbl) parts z.cells).bind fun cs=>some (.agg cs)
 |.array _ elem=>(qcg P elem).bind fun n=>(fillA (fun i=>some (i * n,n)) parts z.cells).bind fun cs=>some (.agg cs)
 |_=>none
def zdc(P:Program) (t:TypeId) (cs:List AV) (off:Nat):Option AV:=(qi8 P t).bind fun ag=>match ag with
 |true=>(qcg P t).bind fun n=>(qek off n cs).bind fun r=>some (.agg r)
 |false=>qcy cs off
def qe1(P:Program) (t:TypeId) (x:AV) (i:Nat):Option AV:=(P.underlying t).bind fun d=>match d with
 |.struct fs=>(qcy fs.toList i).bind fun f=>match x with
  |.agg cs=>zdc P f.type cs f.offset
  |_=>none
 |_=>none
def qc2(P:Program) (t:TypeId) (x:AV) (i:Nat):Option AV:=(P.underlying t).bind fun d=>match d with
 |.struct fs=>(qcy fs.toList i).bind fun f=>(qcg P f.type).bind fun n=>match n with
  |0=>none
  |Nat.succ _=>match x with
   |.ptr b o=>some (.ptr b (o+f.offset))
   |.fptr cs o=>some (.fptr cs (o+f.offset))
   |_=>none
 |_=>none
def idx(i:Int) (n:Nat):Option Nat:=match i with
 |.ofNat j=>match Nat.blt j n with
  |true=>some j
  |false=>none
 |.negSucc _=>none
def qav(P:Program) (t:TypeId) (x i:AV):Option AV:=match i with
 |.int _ i=>(P.underlying t).bind fun d=>match d with
  |.slice elem=>match x with
   |.slc b o len _=>(idx i len).bind fun j=>(qcg P elem).bind fun n=>some (.ptr b (o+j * n))
   |.fslc sz es=>(idx i es.length).bind fun j=>(qcg P elem).bind fun n=>match Nat.beq n sz with
    |true=>(qcy es j).bind fun e=>some (.fptr e.cells 0)
    |false=>none
   |_=>none
  |.array len elem=>(idx i len).bind fun j=>(qcg P elem).bind fun n=>match x with
   |.ptr b o=>some (.ptr b (o+j * n))
   |.fptr cs o=>some (.fptr cs (o+j * n))
   |_=>none
  |_=>none
 |_=>none
def qi1(P:Program) (t:TypeId) (x i:AV):Option AV:=match i with
 |.int _ i=>(P.underlying t).bind fun d=>match d with
  |.array len elem=>match x with
   |.agg cs=>(idx i len).bind fun j=>(qcg P elem).bind fun n=>zdc P elem cs (j * n)
   |_=>none
  |.string=>match x with
   |.str s=>(idx i s.length).bind fun j=>(qcy s j).bind fun c=>some (.int .u8 c.toNat)
   |_=>none
  |_=>none
 |_=>none
def qdd(x:Option AV) (dflt most:Nat):Option Nat:=match x with
 |none=>some dflt
 |some v=>match v with
  |.int _ i=>idx i (Nat.succ most)
  |_=>none
def qck(H:Heap) (b:Nat):Option Nat:=(H.get b).bind fun k=>k.rd.bind fun cs=>some cs.length
def qpi(P:Program) (elem:TypeId) (cs:List AV):Blk:=match P.underlying elem with
 |some (.int .u8)=>.buf elem 0 cs
 |_=>.cells cs
def goOn(k:Blk) (elem:TypeId) (o:Nat) (cs:List AV):Option Blk:=match k with
 |.cells _=>some (.cells cs)
 |.buf t fz _=>match Nat.beq t elem && Nat.beq o 0 with
  |true=>some (.buf t fz cs)
  |false=>none
 |_=>none
def qkv(H:Heap) (sz b o len:Nat) (cap:Cap) (lo hi mx:Option AV):Option AV:=(qck H b).bind fun kn=>match cap with
 |.ex c=>(qdd mx c c).bind fun m=>(qdd hi len m).bind fun h=>(qdd lo 0 h).bind fun l=>
   some (.slc b (match Nat.beq m l with|true=>o|false=>o+l * sz) (h - l) (.ex (m - l)))
 |.rest sz'=>match Nat.beq sz sz' with
  |false=>none
  |true=>match mx with
   |some v=>(qdd (some v) 0 ((kn - o) / sz)).bind fun m=>(qdd hi len m).bind fun h=>(qdd lo 0 h).bind fun l=>
    match Nat.beq m l with
    |true=>some .eslc
    |false=>some (.slc b (o+l * sz) (h - l) (.ex (m - l)))
   |none=>(qdd hi len ((kn - o) / sz)).bind fun h=>(qdd lo 0 h).bind fun l=>
    match Nat.ble (kn - o) (l * sz)with
    |true=>match l with
     |0=>some (.slc b o h (.rest sz))
     |Nat.succ _=>match Nat.beq h l with
      |true=>some .eslc
      |false=>none
    |false=>some (.slc b (o+l * sz) (h - l) (.rest sz))
def zdn(hi mx:Option AV):Bool:=match mx,hi with
 |some _,none=>false
 |_,_=>true
def qee(P:Program) (H:Heap) (t:TypeId) (x:AV) (lo hi mx:Option AV):Option AV:=(match zdn hi mx with|true=>P.underlying t|false=>none).bind fun d=>match d with
 |.string=>match x,mx with
  |.str s,none=>(qdd hi s.length s.length).bind fun h=>(qdd lo 0 h).bind fun l=>some (.str ((s.take h).drop l))
  |_,_=>none
 |.slice elem=>(qcg P elem).bind fun sz=>match x with
  |.slc b o len cap=>qkv H sz b o len cap lo hi mx
  |.fslc s es=>match mx with
   |none=>(match Nat.beq s sz with|true=>some ()|false=>none).bind fun _=>(qdd hi es.length es.length).bind fun h=>(qdd lo 0 h).bind fun l=>some (.fslc s ((es.take h).drop l))
   |some q=>(match Nat.beq s sz with|true=>some ()|false=>none).bind fun _=>(qdd (some q) 0 es.length).bind fun m=>(qdd hi es.length m).bind fun h=>match Nat.beq h m with
    |false=>none
    |true=>match lo with
     |some _=>none
     |none=>match m with
      |0=>some .zslc
      |Nat.succ _=>some (.xslc s (es.take m))
  |.nilS=>(qdd mx 0 0).bind fun _=>(qdd hi 0 0).bind fun _=>(qdd lo 0 0).bind fun _=>some .nilS
  |.zslc=>(qdd mx 0 0).bind fun _=>(qdd hi 0 0).bind fun _=>(qdd lo 0 0).bind fun _=>some .zslc
  |_=>none
 |.array n elem=>(qcg P elem).bind fun sz=>match x with
  |.ptr b o=>qkv H sz b o n (.ex n) lo hi mx
  |_=>none
 |_=>none
def qer(P:Program) (H:Heap) (t:TypeId) (x:AV):Option Nat:=(P.underlying t).bind fun d=>match d,x with
 |.string,.str s=>some s.length
 |.array n _,_=>some n
 |.slice _,.nilS=>some 0
 |.slice _,.eslc=>some 0
 |.slice _,.zslc=>some 0
 |.slice _,.slc _ _ n _=>some n
 |.slice _,.fslc _ es=>some es.length
 |.map _ _,.nilM=>some 0
 |.map _ _,.map b=>(H.get b).bind fun k=>match k with
  |.map es=>some es.length
  |_=>none
 |_,_=>none
def qa5:List AV->List AV
 |[]=>[]
 |v::r=>v.cells++qa5 r
def qc7(x:AV):Option Nat:=match x with
 |.nilS | .eslc | .zslc=>some 0
 |.slc _ _ n _=>some n
 |.fslc _ es=>some es.length
 |.str s=>some s.length
 |_=>none
def qbb(H:Heap) (sz n:Nat) (x:AV):Option (List AV):=match x with
 |.nilS=>some []
 |.zslc=>match n with
  |0=>some []
  |_=>none
 |.eslc=>match n with
  |0=>some []
  |_=>none
 |.slc b o _ _=>readCells H b o (n * sz)
 |.fslc s es=>match Nat.beq s sz with
  |true=>some (qa5 (es.take n))
  |false=>none
 |.str s=>some (qad (s.take n))
 |_=>none
def qcf(need bytes:Nat):Bool:=Nat.ble (need * bytes) 17592186044416
def qby(P:Program) (H:Heap) (elem:TypeId) (s x:AV):Option (AV × Heap):=(qcg P elem).bind fun sz=>(qco P elem).bind fun by_=>(qc1 P elem).bind fun z=>(qc7 x).bind fun n=>
 match Nat.beq sz 0 || !(Nat.beq z.cells.length sz && Nat.blt 0 by_)with
 |true=>none
 |false=>match s with
 |.nilS=>match n with
  |0=>some (.nilS,H)
  |Nat.succ _=>match qcf n by_ with
   |true=>(qbb H sz n x).bind fun cs=>match Nat.beq cs.length (n * sz)with
    |true=>some (.slc H.n 0 n (.rest sz),H.new (qpi P elem cs))
    |false=>none
   |false=>none
 |.slc b o len cap=>(qbb H sz n x).bind fun cs=>match qcf (len+n) by_ with
  |false=>none
  |true=>match allSingle cs with
   |false=>none
   |true=>match cap with
    |.ex c=>match Nat.ble (len+n) c with
     |true=>(writeCells H b (o+len * sz) cs).bind fun H'=>some (.slc b o (len+n) (.ex c),H')
     |false=>match Nat.beq cs.length (n * sz)with
      |true=>(readCells H b o (len * sz)).bind fun old=>some (.slc H.n 0 (len+n) (.rest sz),H.new (qpi P elem (old++cs)))
      |false=>none
    |.rest sz'=>match Nat.beq sz sz' with
     |false=>none
     |true=>(qck H b).bind fun kn=>match Nat.ble (o+(len+n) * sz) kn with
      |true=>(writeCells H b (o+len * sz) cs).bind fun H'=>some (.slc b o (len+n) (.rest sz),H')
      |false=>match Nat.beq (o+len * sz) kn with
       |true=>match Nat.beq cs.length (n * sz)with
        |true=>(readCells H b o (len * sz)).bind fun old=>(H.get b).bind fun k=>(goOn k elem o (old++cs)).bind fun k'=>some (.slc H.n 0 (len+n) (.rest sz),(H.drop b).new k')
        |false=>none
       |false=>none
 |.zslc=>match n with
  |0=>some (.zslc,H)
  |Nat.succ _=>match qcf n by_ with
   |true=>(qbb H sz n x).bind fun cs=>match Nat.beq cs.length (n * sz)with
    |true=>some (.slc H.n 0 n (.rest sz),H.new (qpi P elem cs))
    |false=>none
   |false=>none
 |.eslc=>match n with
  |0=>some (.eslc,H)
  |Nat.succ _=>none
 |.xslc s es=>match n with
  |0=>none
  |Nat.succ _=>(qbb H sz es.length (.fslc s es)).bind fun os=>(qbb H sz n x).bind fun cs=>match qcf (es.length+n) by_ && (Nat.beq cs.length (n * sz) && Nat.beq os.length (es.length * sz))with
   |true=>some (.slc H.n 0 (es.length+n) (.rest sz),H.new (qpi P elem (os++cs)))
   |false=>none
 |_=>none
def growA(P:Program) (H:Heap) (elem:TypeId) (s x:AV):Option (AV × Heap):=(qcg P elem).bind fun sz=>(qco P elem).bind fun by_=>(qc1 P elem).bind fun z=>
 match Nat.beq sz 0 || !(Nat.beq z.cells.length sz && Nat.blt 0 by_)with
 |true=>none
 |false=>match s with
  |.nilS=>match x with
   |.int k m=>match k with
    |.i64=>(idx m 140737488355328).bind fun n=>match n with
     |0=>some (.nilS,H)
     |Nat.succ q=>match qcf (q+1) by_ with
      |true=>some (.slc H.n 0 (q+1) (.rest sz),H.new (qpi P elem (replL z.cells (q+1))))
      |false=>none
    |_=>none
   |_=>none
  |_=>none
def copyA(P:Program) (H:Heap) (elem:TypeId) (d x:AV):Option (AV × Heap):=(qcg P elem).bind fun sz=>(qc7 x).bind fun n=>match d with
 |.nilS | .eslc | .zslc=>some (.int .i64 0,H)
 |.slc b o len _=>(qbb H sz (Nat.min n len) x).bind fun cs=>match allSingle cs with
  |true=>(writeCells H b o cs).bind fun H'=>some (.int .i64 (Nat.min n len:Nat),H')
  |false=>none
 |_=>none
def zcb(P:Program) (H:Heap) (t:TypeId) (x:AV):Option Heap:=(P.underlying t).bind fun d=>match d,x with
 |_,.nilS=>some H
 |_,.eslc=>some H
 |_,.zslc=>some H
 |_,.nilM=>some H
 |.map _ _,.map b=>(H.get b).bind fun k=>match k with
  |.map _=>H.set b (.map [])
  |_=>none
 |.slice elem,.slc b o len _=>(qc1 P elem).bind fun z=>(qcg P elem).bind fun sz=>match Nat.beq z.cells.length sz && allSingle z.cells with
  |true=>writeCells H b o (replL z.cells len)
  |false=>none
 |_,_=>none
mutual
def AV.beq:AV->AV->Bool
 |.undef,.undef=>true
 |.bool a,.bool b=>a == b
 |.int k a,.int l b=>decide (k=l) && decide (a=b)
 |.float k a,.float l b=>decide (k=l) && decide (a=b)
 |.cplx k a c,.cplx l b d=>decide (k=l) && decide (a=b) && decide (c=d)
 |.str a,.str b=>decide (a=b)
 |.nilP,.nilP=>true
 |.ptr a c,.ptr b d=>decide (a=b) && decide (c=d)
 |.fptr a c,.fptr b d=>AV.beqL a b && decide (c=d)
 |.nilS,.nilS=>true
 |.eslc,.eslc=>true
 |.zslc,.zslc=>true
 |.slc a c n q,.slc b d m r=>decide (a=b) && decide (c=d) && decide (n=m) && decide (q=r)
 |.fslc z a,.fslc y b=>decide (z=y) && AV.beqL a b
 |.xslc z a,.xslc y b=>decide (z=y) && AV.beqL a b
 |.nilM,.nilM=>true
 |.map a,.map b=>decide (a=b)
 |.nilF,.nilF=>true
 |.func f a c,.func g b d=>decide (f=g) && AV.beqL a b && AV.beqL c d
 |.nilI,.nilI=>true
 |.iface t a,.iface u b=>decide (t=u) && AV.beq a b
 |.agg a,.agg b=>AV.beqL a b
 |.tup a,.tup b=>AV.beqL a b
 |.yld a,.yld b=>decide (a=b)
 |.zptr a c,.zptr b d=>decide (a=b) && decide (c=d)
 |.val a,.val b=>@decide (a=b) (Classical.propDecidable _)
 |_,_=>false
def AV.beqL:List AV->List AV->Bool
 |[],[]=>true
 |a::x,b::y=>AV.beq a b && AV.beqL x y
 |_,_=>false
end
mutual
theorem AV.eq_of_beq:∀(a b:AV),AV.beq a b=true->a=b:=by
 intro a b h;cases a<;>cases b<;>simp only[AV.beq,jd,decide_eq_true_eq,beq_iff_eq,jC]at h<;>try trivial
 all_goals first
  |(subst h;rfl)
  |(obtain⟨rfl,rfl⟩:=h;rfl)
  |(obtain⟨⟨rfl,rfl⟩,rfl⟩:=h;rfl)
  |(obtain⟨⟨⟨rfl,rfl⟩,rfl⟩,rfl⟩:=h;rfl)
  |(obtain⟨h,rfl⟩:=h;rw[AV.eqL_of_beq _ _ h])
  |(obtain⟨rfl,h⟩:=h;first|rw[AV.eqL_of_beq _ _ h]|rw[AV.eq_of_beq _ _ h])
  |(obtain⟨⟨rfl,h⟩,h'⟩:=h;rw[AV.eqL_of_beq _ _ h,AV.eqL_of_beq _ _ h'])
  |rw[AV.eqL_of_beq _ _ h]
theorem AV.eqL_of_beq:∀(a b:List AV),AV.beqL a b=true->a=b:=by
 intro a b h;cases a with
 |nil=>cases b with
  |nil=>rfl
  |cons _ _=>simp[AV.beqL]at h
 |cons x a=>cases b with
  |nil=>simp[AV.beqL]at h
  |cons y b=>simp only[AV.beqL,jd]at h;rw[AV.eq_of_beq _ _ h.1,AV.eqL_of_beq _ _ h.2]
end
mutual
theorem AV.beq_self:∀(a:AV),AV.beq a a=true:=by intro a;cases a<;>simp only[AV.beq,AV.beqL_self,AV.beq_self,decide_true,Bool.and_self,beq_self_eq_true]
theorem AV.beqL_self:∀(a:List AV),AV.beqL a a=true:=by
 intro a;cases a with
 |nil=>rfl
 |cons x a=>simp only[AV.beqL,AV.beq_self x,AV.beqL_self a,Bool.and_self]
end
instance:DecidableEq AV:=fun a b=>match h:AV.beq a b with
 |true=>isTrue (AV.eq_of_beq a b h)
 |false=>isFalse fun e=>by subst e;rw[AV.beq_self]at h;cases h
def qz0(P:Program) (t:TypeId) (d:TypeDesc) (a b:AV):Option Bool:=match qjd d with
 |true=>qkb d a b
 |false=>match d with
  |.struct _=>eqA P t a b
  |_=>none
def posA(P:Program) (t:TypeId) (d:TypeDesc) (k:AV):Nat->List (AV × AV)->Option (Option Nat)
 |_,[]=>some none
 |i,e::es=>(qz0 P t d k e.1).bind fun q=>match q with
  |true=>some (some i)
  |false=>posA P t d k (Nat.succ i) es
def findA(P:Program) (t:TypeId) (d:TypeDesc) (k:AV) (es:List (AV × AV)):Option (Option AV):=(posA P t d k 0 es).bind fun r=>match r with
 |none=>some none
 |some i=>(qcy es i).bind fun e=>some (some e.2)
def updA(P:Program) (t:TypeId) (d:TypeDesc) (k v:AV) (es:List (AV × AV)):Option (List (AV × AV)):=(posA P t d k 0 es).bind fun r=>match r with
 |none=>some (es++[(k,v)])
 |some i=>(qcy es i).bind fun e=>match decide (e.1=k)with
  |true=>setL (k,v) es i
  |false=>none
def delA(P:Program) (t:TypeId) (d:TypeDesc) (k:AV) (es:List (AV × AV)):Option (List (AV × AV)):=(posA P t d k 0 es).bind fun r=>match r with
 |none=>some es
 |some i=>some (es.eraseIdx i)
def qx1(P:Program) (t:TypeId) (d:TypeDesc) (k:AV):Option Unit:=(qz0 P t d k k).bind fun q=>match q with
 |true=>some ()
 |false=>none
def qk0(P:Program) (H:Heap) (t:TypeId) (m k:AV) (ok:Bool):Option AV:=(P.underlying t).bind fun d=>match d with
 |.map key elem=>(P.underlying key).bind fun kd=>(qx1 P key kd k).bind fun _=>(match m with
   |.nilM=>some []
   |.map b=>(H.get b).bind fun x=>match x with
    |.map es=>some es
    |_=>none
   |_=>none).bind fun es=>(findA P key kd k es).bind fun r=>match r with
    |some v=>some (match ok with|true=>.tup [v,.bool true]|false=>v)
    |none=>(qc1 P elem).bind fun z=>some (match ok with|true=>.tup [z,.bool false]|false=>z)
 |_=>none
def qiz(P:Program) (H:Heap) (t:TypeId) (m k v:AV):Option Heap:=(P.underlying t).bind fun d=>match d with
 |.map key _=>(P.underlying key).bind fun kd=>(qx1 P key kd k).bind fun _=>match m with
  |.map b=>(H.get b).bind fun x=>match x with
   |.map es=>(updA P key kd k v es).bind fun es'=>(H.ready b [k,v]).set b (.map es')
   |_=>none
  |_=>none
 |_=>none
def qof(P:Program) (H:Heap) (t:TypeId) (m k:AV):Option Heap:=(P.underlying t).bind fun d=>match d with
 |.map key _=>(P.underlying key).bind fun kd=>(qx1 P key kd k).bind fun _=>match m with
  |.nilM=>some H
  |.map b=>(H.get b).bind fun x=>match x with
   |.map es=>(delA P key kd k es).bind fun es'=>H.set b (.map es')
   |_=>none
  |_=>none
 |_=>none
def qzr:AV->Option UInt8
 |.int .u8 n=>some (UInt8.ofNat n.toNat)
 |_=>none
def qm7:List AV->Option (List UInt8)
 |[]=>some []
 |v::r=>(qzr v).bind fun c=>(qm7 r).bind fun cs=>some (c::cs)
def zce:AV->Option UInt8
 |.int .u8 n=>(idx n 256).bind fun m=>some (UInt8.ofNat m)
 |_=>none
def qtf:List AV->Option (List UInt8)
 |[]=>some []
 |v::r=>(zce v).bind fun c=>(qtf r).bind fun cs=>some (c::cs)
def qh7(P:Program) (H:Heap) (src dst:TypeId) (x:AV):Option (AV × Heap):=(P.underlying src).bind fun sd=>(P.underlying dst).bind fun dd=>match sd,dd,x with
 |_,.int k,.int _ n=>some (.int k (k.wrap n),H)
 |.int _,.string,.int _ n=>some (.str (Utf8.encode n).data.toList,H)
 |_,.string,.str s=>some (.str s,H)
 |.string,.slice e,.str s=>(P.underlying e).bind fun ed=>match ed with
  |.int .u8=>match qcf s.length 1 with
   |true=>some (.slc H.n 0 s.length (.rest 1),H.new (.cells (qad s)))
   |false=>none
  |_=>none
 |.slice e,.string,x=>(P.underlying e).bind fun ed=>match ed with
  |.int .u8=>(qc7 x).bind fun n=>(qbb H 1 n x).bind fun cs=>(qm7 cs).bind fun s=>some (.str s,H)
  |_=>none
 |.pointer u,.unsafePointer,.ptr b o=>(qcg P u).bind fun n=>(H.get b).bind fun k=>k.rd.bind fun cs=>match Nat.blt 0 n && Nat.blt o cs.length with
  |true=>some (.ptr b o,H)
  |false=>none
 |.unsafePointer,.pointer u,.ptr b o=>(qcg P u).bind fun _=>(H.get b).bind fun k=>match k with
  |.obj t cs=>match liesAt P P.depth t (cs.length / P.cellsOf t) o u 1 with
   |true=>some (.ptr b o,H)
   |false=>none
  |_=>none
 |_,_,_=>none
def qwq(least:Bool):AV->List AV->Option AV
 |v,[]=>some v
 |v,w::r=>match v,w with
  |.int k a,.int k' b=>if k=k' then qwq least (.int k (match least with|true=>min a b|false=>max a b)) r else none
  |_,_=>none
def qc5(P:Program) (H:Heap) (b:Builtin) (ts:Array TypeId) (args:List AV):Option (AV × Heap):=match b,args with
 |.len,[x]=>(ts[0]?).bind fun t=>(qer P H t x).bind fun n=>some (.int .i64 n,H)
 |.append,[s,x]=>(ts[0]?).bind fun t=>(P.underlying t).bind fun d=>match d with
  |.slice elem=>(match ts[1]? with
   |some u=>(P.underlying u).bind fun ud=>match ud with
    |.string=>some false
    |.slice _=>some false
    |.int _=>some true
    |_=>none
   |none=>none).bind fun q=>match q with
    |false=>qby P H elem s x
    |true=>growA P H elem s x
  |_=>none
 |.cap,[x]=>(ts[0]?).bind fun t=>(P.underlying t).bind fun d=>match d,x with
  |.slice _,.nilS=>some (.int .i64 0,H)
  |_,_=>none
 |.copy,[d,s]=>(ts[0]?).bind fun t=>(P.underlying t).bind fun dd=>match dd with
  |.slice elem=>copyA P H elem d s
  |_=>none
 |.clear,[x]=>(ts[0]?).bind fun t=>(zcb P H t x).bind fun H'=>some (.tup [],H')
 |.delete,[m,k]=>(ts[0]?).bind fun t=>(qof P H t m k).bind fun H'=>some (.tup [],H')
 |.complex,[x,y]=>match x,y with
  |.float k a,.float k' b=>if k=k' then some (.cplx k a b,H) else none
  |_,_=>none
 |.real,[x]=>match x with
  |.cplx k a _=>some (.float k a,H)
  |_=>none
 |.imag,[x]=>match x with
  |.cplx k _ a=>some (.float k a,H)
  |_=>none
 |.unsafeSliceData,[x]=>match x with
  |.nilS=>some (.nilP,H)
  |.slc b o len _=>match len with
   |0=>none
   |Nat.succ _=>some (.ptr b o,H)
  |_=>none
 |.unsafeString,[p,n]=>match n with
  |.int .i64 n=>(idx n 140737488355328).bind fun n=>match p with
   |.nilP=>(ts[0]?).bind fun _=>match n with
    |0=>some (.str [],H)
    |Nat.succ _=>none
   |.ptr b o=>(ts[0]?).bind fun t=>(P.underlying t).bind fun d=>match d with
    |.pointer u=>(H.get b).bind fun k=>match k with
     |.buf e fz cs=>match Nat.beq e u && Nat.beq o 0 && Nat.blt 0 n with
      |true=>(P.underlying u).bind fun ud=>match ud,Nat.beq (P.cellsOf u) 1 with
       |.int .u8,true=>(qef n cs).bind fun bs=>(qtf bs).bind fun s=>(H.set b (.buf e (Nat.max fz n) cs)).bind fun H'=>some (.str s,H')
       |_,_=>none
      |false=>none
     |_=>none
    |_=>none
   |_=>none
  |_=>none
 |.max,v::r=>(qwq false v r).bind fun x=>some (x,H)
 |.min,v::r=>(qwq true v r).bind fun x=>some (x,H)
 |_,_=>none
structure Ctx where
 P:Program
 keep:FuncId->List Nat
 summ:FuncId->Option (List AV->Heap->Option (AV × Heap))
inductive Cl where
 |fn (f:FuncId)
 |yl (b:Nat)
abbrev qcj:=Cl->List AV->Heap->Option (AV × Heap)
def qc9(ops:Array Oper) (s:St) (o:Oper):Option Bool:=match o.guard with
 |none=>some true
 |some (j,want)=>(ops[j]?).bind fun p=>p.dst.bind fun t=>(s.get t).bind fun v=>match v with
  |.bool b=>some (b == want)
  |.tup []=>some false
  |_=>none
def sliceParts(P:Program) (t:TypeId) (len:Nat) (parts:List (Nat × AV)):Option (List AV):=(P.underlying t).bind fun d=>match d with
 |.slice elem=>(qcg P elem).bind fun sz=>match Nat.ble (len * sz) 65536 with
  |false=>none
  |true=>(qc1 P elem).bind fun z=>match Nat.beq z.cells.length sz with
   |true=>fillA (fun i=>some (i * sz,sz)) parts (replL z.cells len)
   |false=>none
 |_=>none
def msB(P:Program) (t:TypeId) (l c:AV):Option ((Nat->AV) × Blk):=(P.underlying t).bind fun d=>match d with
 |.slice elem=>(qcg P elem).bind fun sz=>(qco P elem).bind fun by_=>match c,l with
  |.int .i64 c,.int .i64 l=>(idx c 17592186044416).bind fun c=>(idx l (Nat.succ c)).bind fun l=>match qcf c by_ with
   |true=>(qc1 P elem).bind fun z=>match Nat.beq z.cells.length sz with
    |true=>some (fun b=>.slc b 0 l (.ex c),.cells (replL z.cells c))
    |false=>none
   |false=>none
  |_,_=>none
 |_=>none
def qgg(P:Program) (H:Heap) (t:TypeId) (l c:AV):Option (AV × Heap):=(msB P t l c).bind fun k=>some (k.1 H.n,H.new k.2)
def memT(n:Nat):List Nat->Bool
 |[]=>false
 |m::r=>match Nat.beq n m with
  |true=>true
  |false=>memT n r
def bufs:List (Nat × Nat):=[]
def memP(t d:Nat):List (Nat × Nat)->Bool
 |[]=>false
 |x::r=>match Nat.beq x.1 t && Nat.beq x.2 d with
  |true=>true
  |false=>memP t d r
def rowB(P:Program) (t:TypeId) (d:Option Tmp) (cs:List AV):Blk:=match d with
 |none=>.cells cs
 |some d=>match memP t d bufs with
  |true=>(match P.underlying t with
   |some (.slice e)=>.buf e 0 cs
   |_=>.cells cs)
  |false=>.cells cs
def qdx(C:Ctx) (o:Oper) (s:St):Option ((Nat->AV) × Blk):=match o.op with
 |.alloc t=>(qc1 C.P t).bind fun z=>(qcg C.P t).bind fun n=>match Nat.beq z.cells.length n with
  |true=>some (fun b=>.ptr b 0,match memT t objs with
   |true=>.obj t z.cells
   |false=>.cells z.cells)
  |false=>none
 |.box _ x=>(qc0 s x).bind fun x=>match allSingle x.cells with
  |true=>some (fun b=>.ptr b 0,.cells x.cells)
  |false=>none
 |.buildSlice t len parts=>(qi6 s parts.toList).bind fun ps=>(sliceParts C.P t len ps).bind fun cs=>
   some (fun b=>.slc b 0 len (.ex len),rowB C.P t o.dst cs)
 |.makeSlice t l c=>(qc0 s l).bind fun l=>(qc0 s c).bind fun c=>msB C.P t l c
 |.makeMap t r=>(match r with
   |none=>some ()
   |some x=>(qc0 s x).bind fun x=>(C.P.underlying t).bind fun d=>match d,x with
    |.map _ _,.int ..=>some ()
    |_,_=>none).bind fun _=>some (fun b=>.map b,.map [])
 |_=>none
def ze7:AV->Bool
 |.int _ _=>true
 |.str _=>true
 |.bool _=>true
 |_=>false
def zjm:List (AV × AV)->Bool
 |[]=>true
 |e::r=>match ze7 e.1 && ze7 e.2 with
  |true=>zjm r
  |false=>false
def zft(H:Heap) (b:Nat):Option (AV × Heap):=(H.get b).bind fun k=>match k with
 |.map es=>match zjm es with
  |true=>some (.ptr H.n 0,(H.drop b).new (.rng es none))
  |false=>none
 |_=>none
def zc6(H:Heap) (b:Nat):Option AV:=(H.get b).bind fun k=>match k with
 |.rng _ cur=>match cur with
  |some e=>some (.tup [e.1,e.2])
  |none=>none
 |_=>none
def qs8(H:Heap) (b:Nat):Option (AV × Heap):=(H.get b).bind fun k=>match k with
 |.iter s pos=>match Nat.blt pos s.length with
  |true=>(H.set b (.iter s (pos+(Utf8.decode ⟨s.toArray⟩ pos).2))).bind fun H'=>some (.tup [.bool true,.int .i64 pos,.int .i32 (Utf8.decode ⟨s.toArray⟩ pos).1],H')
  |false=>some (.tup [.bool false],H)
 |_=>none
def qae(C:Ctx) (call:qcj) (o:Oper) (s:St):Option (AV × Heap):=
 let v (x:Option AV):Option (AV × Heap):=x.bind fun x=>some (x,s.H)
 match o.op with
 |.move x | .assign x=>v (qc0 s x)
 |.pick c a b=>(qc0 s c).bind fun c=>match c with
  |.bool t=>match t with
   |true=>v (qc0 s a)
   |false=>v (qc0 s b)
  |_=>none
 |.alloc .. | .box .. | .buildSlice .. | .makeMap .. | .makeSlice ..=>(qdx C o s).bind fun x=>some (x.1 s.H.n,s.H.new x.2)
 |.build t parts=>(qi6 s parts.toList).bind fun ps=>v (qgq C.P t ps)
 |.load t a=>(qc0 s a).bind fun a=>v (qb3 C.P s.H t a)
 |.store t a x=>(qc0 s a).bind fun a=>(qc0 s x).bind fun x=>(writeVar C.P s.H t a x).bind fun H=>some (.undef,H)
 |.nilCheck x=>(qc0 s x).bind fun x=>match x with
  |.ptr b o=>some (.ptr b o,s.H)
  |.fptr cs o=>some (.fptr cs o,s.H)
  |.func (.func f) a b=>some (.func (.func f) a b,s.H)
  |.func (.yield f) a b=>some (.func (.yield f) a b,s.H)
  |.yld b=>some (.yld b,s.H)
  |_=>none
 |.binOp op t x y _=>(qc0 s x).bind fun a=>(qc0 s y).bind fun b=>v (qmf C.P op t (zca x || zca y) a b)
 |.unOp op _ x=>(qc0 s x).bind fun x=>v (unA op x)
 |.convert a b x=>(qc0 s x).bind fun x=>qh7 C.P s.H a b x
 |.makeFunc fn first cap=>(qg5 s first.toList).bind fun a=>(qg5 s cap.toList).bind fun b=>some (.func fn a b,s.H)
 |.slice t x lo hi mx=>(qc0 s x).bind fun x=>(qji s lo).bind fun lo=>(qji s hi).bind fun hi=>(qji s mx).bind fun mx=>v (qee C.P s.H t x lo hi mx)
 |.fieldAddr t x f=>(qc0 s x).bind fun x=>v (qc2 C.P t x f)
 |.field t x f=>(qc0 s x).bind fun x=>v (qe1 C.P t x f)
 |.indexAddr t x i=>(qc0 s x).bind fun x=>(qc0 s i).bind fun i=>v (qav C.P t x i)
 |.index t x i=>(qc0 s x).bind fun x=>(qc0 s i).bind fun i=>v (qi1 C.P t x i)
 |.lookup t m k ok=>(qc0 s m).bind fun m=>(qc0 s k).bind fun k=>v (qk0 C.P s.H t m k ok)
 |.mapUpdate t m k x | .insert t m k x=>(qc0 s m).bind fun m=>(qc0 s k).bind fun k=>(qc0 s x).bind fun x=>(qiz C.P s.H t m k x).bind fun H=>some (.undef,H)
 |.extract x i=>(qc0 s x).bind fun x=>match x with
  |.tup vs=>v (qcy vs i)
  |_=>none
 |.range t x=>(qc0 s x).bind fun x=>(C.P.underlying t).bind fun d=>match d,x with
  |.string,.str l=>some (.ptr s.H.n 0,s.H.new (.iter l 0))
  |.map _ _,.map b=>zft s.H b
  |_,_=>none
 |.entry x=>(qc0 s x).bind fun x=>match x with
  |.ptr b 0=>v (zc6 s.H b)
  |_=>none
 |.next x isS=>(qc0 s x).bind fun x=>match isS,x with
  |true,.ptr b 0=>qs8 s.H b
  |_,_=>none
 |.call c=>(qg5 s c.args.toList).bind fun args=>match c.callee with
  |.builtin b=>qc5 C.P s.H b c.argTypes args
  |.value f=>(qc0 s f).bind fun f=>match f with
   |.func (.func f) first cap=>call (.fn f) (first++args++cap) s.H
   |.yld b=>call (.yl b) args s.H
   |_=>none
  |.invoke _ _=>none
 |_=>none
def qbw(s:St) (o:Oper):St:=match o.op with
 |.alloc _ | .box _ _=>match o.dst with
  |some t=>match s.get t with
   |some (.ptr b 0)=>match s.H.get b with
    |some (.cells [_])=>s
    |_=>s.wH (s.H.kill b)
   |_=>s
  |none=>s
 |_=>s
def qi4(C:Ctx) (call:qcj) (ops:Array Oper) (o:Oper) (s:St):Option St:=(qc9 ops s o).bind fun g=>match g with
 |true=>(qae C call o s).bind fun r=>St.put (s.wH r.2) o.dst r.1
 |false=>s.put o.dst (.tup [])
def qff(C:Ctx) (call:qcj) (ops:Array Oper):List Oper->St->Option St
 |[],s=>some s
 |o::r,s=>(qi4 C call ops o (qbw s o)).bind fun s=>qff C call ops r s
inductive Out where
 |normal
 |exit (id:Nat)
 |goto (l:Nat)
 |ret
def retVal(C:Ctx) (s:St):List ResultVar->Option (List AV)
 |[]=>some []
 |x::r=>(match x with
   |.tmp t=>s.get t
   |.cell a t=>(s.get a).bind fun p=>qb3 C.P s.H t p).bind fun v=>(retVal C s r).bind fun vs=>some (v::vs)
def oneOr:List AV->AV
 |[v]=>v
 |vs=>.tup vs
inductive Cls where
 |pure|reads|allocs|acts
def qc4:Op->Cls
 |.move _ | .assign _ | .pick .. | .build .. | .nilCheck _ | .binOp .. | .unOp .. | .makeFunc .. | .fieldAddr .. | .field .. | .indexAddr .. | .index .. | .extract ..=>.pure
 |.load .. | .lookup .. | .slice ..=>.reads
 |.alloc .. | .box .. | .buildSlice .. | .makeMap .. | .makeSlice ..=>.allocs
 |.call c=>match c.callee with
  |.builtin b=>match b with
   |.len=>.reads
   |.max | .min=>.pure
   |_=>.acts
  |_=>.acts
 |_=>.acts
def ahead(bef:Array Nat) (i j:Nat):Bool:=(bef.getD j 0).testBit i
def qkj(bef:Array Nat):List Nat->Bool
 |[]=>true
 |i::r=>match r with
  |[]=>true
  |j::_=>match ahead bef i j with
   |true=>qkj bef r
   |false=>false
def qhm:Nat->List Oper->List Nat
 |_,[]=>[]
 |i,o::r=>match qc4 o.op with
  |.acts=>i::qhm (Nat.succ i) r
  |_=>qhm (Nat.succ i) r
def qfd(ops:Array Oper) (o:Oper):List Nat:=
 (o.op.operands.toList.filterMap fun x=>match x with | .tmp t=>some t|_=>none) ++
 (match o.guard with
  |none=>[]
  |some (j,_)=>match (ops[j]?).bind (·.dst)with
   |some t=>[t]
   |none=>[])
def memN(n:Nat):List Nat->Bool
 |[]=>false
 |m::r=>match Nat.beq n m with
  |true=>true
  |false=>memN n r
def qg1(bef:Array Nat) (i:Nat) (ts:List Nat):Nat->List Oper->Bool
 |_,[]=>true
 |j,p::r=>match p.dst with
  |none=>qg1 bef i ts (Nat.succ j) r
  |some t=>match memN t ts with
   |false=>qg1 bef i ts (Nat.succ j) r
   |true=>match (match Nat.beq i j with|true=>true|false=>match Nat.blt i j with|true=>ahead bef i j|false=>ahead bef j i)with
    |true=>qg1 bef i ts (Nat.succ j) r
    |false=>false
def qts(bef:Array Nat) (ops:Array Oper):Nat->List Oper->Bool
 |_,[]=>true
 |i,o::r=>match qg1 bef i (o.dst.toList++qfd ops o) 0 ops.toList with
  |true=>qts bef ops (Nat.succ i) r
  |false=>false
def qke(i:Nat):List Edge->Bool
 |[]=>true
 |e::r=>match Region.binds .any e with
  |false=>qke i r
  |true=>match Nat.blt e.on i with
   |true=>qke i r
   |false=>false
def qve:Nat->List Oper->Bool
 |_,[]=>true
 |i,o::r=>match qke i o.after.toList with
  |true=>qve (Nat.succ i) r
  |false=>false
def qtb(ops:Array Oper):Bool:=match qkj (Region.before ops) (qhm 0 ops.toList)with
 |true=>match qts (Region.before ops) ops 0 ops.toList with
  |true=>qve 0 ops.toList
  |false=>false
 |false=>false
structure Rec where
 i:Nat
 o:Oper
 s:St
 v:AV
structure Pend where
 i:Nat
 b:Nat
 k:Blk
structure DrawSt where
 s:St
 ps:List Pend
 hs:List (Nat × Heap)
 rs:List Rec
def qb4(bef:Array Nat) (i:Nat):List Pend->List (Nat × Blk)
 |[]=>[]
 |p::r=>match ahead bef p.i i with
  |true=>(p.b,p.k)::qb4 bef i r
  |false=>qb4 bef i r
def qb0(bef:Array Nat) (i:Nat):List Pend->List Pend
 |[]=>[]
 |p::r=>match ahead bef p.i i with
  |true=>qb0 bef i r
  |false=>p::qb0 bef i r
def qc8:List Pend->List (Nat × Blk)
 |[]=>[]
 |p::r=>(p.b,p.k)::qc8 r
def Heap.lay(H:Heap) (l:List (Nat × Blk)):Heap:=match l with
 |[]=>H
 |x::r=>⟨H.n,qdk (x::r) H.fs⟩
def qib(C:Ctx) (call:qcj) (ops:Array Oper) (bef:Array Nat) (base i:Nat) (o:Oper) (d:DrawSt):Option DrawSt:=(qc9 ops d.s o).bind fun g=>match g with
 |false=>(d.s.put o.dst (.tup [])).bind fun s'=>match qc4 o.op with
  |.acts=>some { d with s:=s'.wH (s'.H.lay (qb4 bef i d.ps)),ps:=qb0 bef i d.ps,hs:=(i,s'.H.lay (qb4 bef i d.ps))::d.hs }
  |_=>some { d with s:=s' }
 |true=>match qc4 o.op with
  |.allocs=>(qdx C o d.s).bind fun k=>(d.s.put o.dst (k.1 (base+i))).bind fun s'=>some { d with s:=s',ps:={ i:=i,b:=base+i,k:=k.2 }::d.ps }
  |.acts=>(qae C call o (d.s.wH (d.s.H.lay (qb4 bef i d.ps)))).bind fun v=>(St.put (d.s.wH v.2) o.dst v.1).bind fun s'=>
    some { d with s:=s',ps:=qb0 bef i d.ps,hs:=(i,s'.H)::d.hs }
  |.reads=>(qae C call o d.s).bind fun v=>(d.s.put o.dst v.1).bind fun s'=>some { d with s:=s',rs:={ i:=i,o:=o,s:=d.s,v:=v.1 }::d.rs }
  |.pure=>(qae C call o d.s).bind fun v=>(d.s.put o.dst v.1).bind fun s'=>some { d with s:=s' }
def qnl(C:Ctx) (call:qcj) (ops:Array Oper) (bef:Array Nat) (base:Nat):Nat->List Oper->DrawSt->Option DrawSt
 |_,[],d=>some d
 |i,o::r,d=>(qib C call ops bef base i o d).bind fun d=>qnl C call ops bef base (Nat.succ i) r d
def qe5(C:Ctx) (call:qcj) (x:Rec) (H:Heap):Bool:=match qae C call x.o { x.s with H:=H } with
 |some y=>decide (y.1=x.v)
 |none=>false
def qcs(C:Ctx) (call:qcj) (bef:Array Nat) (x:Rec) (H0:Heap):List (Nat × Heap)->Bool
 |[]=>qe5 C call x H0
 |h::r=>match ahead bef x.i h.1 with
  |true=>qcs C call bef x H0 r
  |false=>match qe5 C call x h.2 with
   |false=>false
   |true=>match ahead bef h.1 x.i with
    |true=>true
    |false=>qcs C call bef x H0 r
def qcb(C:Ctx) (call:qcj) (bef:Array Nat) (H0:Heap) (hs:List (Nat × Heap)):List Rec->Bool
 |[]=>true
 |x::r=>match qcs C call bef x H0 hs with
  |true=>qcb C call bef H0 hs r
  |false=>false
def qas:List Oper->St->St
 |[],s=>s
 |o::r,s=>qas r (qbw s o)
def qbn(s:St) (n:Nat):St:={ s with H:=⟨s.H.n+n,s.H.fs⟩ }
def ql5(C:Ctx) (call:qcj) (ops:Array Oper) (s:St):Option St:=match qtb ops with
 |false=>none
 |true=>(qnl C call ops (Region.before ops) s.H.n 0 ops.toList ⟨qbn (qas ops.toList s) ops.size,[],[],[]⟩).bind fun d=>
  match qcb C call (Region.before ops) (qbn (qas ops.toList s) ops.size).H d.hs d.rs with
   |true=>some (d.s.wH (d.s.H.lay (qc8 d.ps)))
   |false=>none
abbrev qs0:=Code->St->Option (Out × St)
def qnk(ih:qs0) (body:Code):Nat->Code->St->Option (Out × St)
 |0,_,_=>none
 |Nat.succ n,c,s=>(ih c s).bind fun r=>match r.1 with
  |.goto l=>match findLabel body l with
   |some rest=>qnk ih body n rest r.2
   |none=>some r
  |_=>some r
def qv1(C:Ctx) (f:FuncId):Bool:=match C.P.funcs[f]? with
 | some fn => match fn.name == "runtime.NumGoroutine" with
  |true=>false
  |false=>fn.body.isSome
 |none=>false
def qz1:Code->Option Out
 |.ret=>some .ret
 |.exit id=>some (.exit id)
 |.goto l=>some (.goto l)
 |_=>none
def qij(C:Ctx) (call:qcj) (g:Operand) (ps:Array Tmp) (assign body:Code) (s:St):Option (Out × St):=(qc0 s g).bind fun g=>match g with
 |.func (.func f) first cap=>match qv1 C f with
  |false=>none
  |true=>(call (.fn f) (first++[.yld s.H.n]++cap) (s.H.new (.loop .ready none s.ks s.vs s.ts s.sz ps.toList assign body))).bind fun r=>(r.2.get s.H.n).bind fun k=>match k with
   |.loop st pend _ _ _ _ _ _ _=>match st with
    |.ready=>match pend with
     |none=>some (.normal,s.wH (r.2.drop s.H.n))
     |some _=>none
    |.done=>pend.bind fun c=>(qz1 c).bind fun x=>some (x,s.wH (r.2.drop s.H.n))
    |_=>none
   |_=>none
 |_=>none
def qh6(C:Ctx) (call:qcj) (rf:Bool) (ih:qs0) (c:Code) (s:St):Option (Out × St):=match c with
 |.skip=>some (.normal,s)
 |.label _=>some (.normal,s)
 |.region _ ops draw=>match draw with
  |false=>(qff C call ops ops.toList s.wT).bind fun s=>some (.normal,s)
  |true=>(ql5 C call ops s.wT).bind fun s=>some (.normal,s)
 |.seq a b=>(ih a s).bind fun r=>match r.1 with
  |.normal=>ih b r.2
  |_=>some r
 |.cond c a b=>(qc0 s c).bind fun v=>match v with
  |.bool t=>match t with
   |true=>ih a s
   |false=>ih b s
  |_=>none
 |.block id b=>(ih b s).bind fun r=>match r.1 with
  |.exit k=>match Nat.beq k id with
   |true=>some (.normal,r.2)
   |false=>some r
  |_=>some r
 |.loop b=>(ih b s).bind fun r=>match r.1 with
  |.normal=>ih (.loop b) r.2
  |_=>some r
 |.exit id=>some (.exit id,s)
 |.scope b=>qnk ih b 1000000 b s
 |.goto l=>some (.goto l,s)
 |.ret=>some (.ret,s)
 |.rangeFunc g ps assign body=>match rf with
  |true=>qij C call g ps assign body s
  |false=>none
 |.refuse _=>none
def qsj:List Nat->List AV
 |[]=>[]
 |_::r=>.undef::qsj r
def qu0(s:St):Nat->List AV->Option St
 |_,[]=>some s
 |i,v::r=>(s.set i v).bind fun s=>qu0 s (Nat.succ i) r
def enterF(C:Ctx) (f:FuncId) (fn:Func) (args:List AV) (H:Heap):Option St:=
 qu0 { ks:=C.keep f,vs:=qsj (C.keep f),ts:=[],sz:=args.length+(fn.ntmps - args.length),H:=⟨H.n,[]::H.fs⟩ } 0 args
def qw8(s:St):List Nat->List AV->Option St
 |[],[]=>some s
 |p::ps,v::vs=>(s.set p v).bind fun s=>qw8 s ps vs
 |_,_=>none
def qih(x:Out):Bool × LoopState × Option Code:=match x with
 |.normal=>(true,.ready,none)
 |.ret=>(false,.done,some .ret)
 |.exit id=>(false,.done,some (.exit id))
 |.goto l=>(false,.done,some (.goto l))
def qrp(ih:qs0) (b:Nat) (args:List AV) (H:Heap):Option (AV × Heap):=(H.get b).bind fun k=>match k with
 |.loop st _ ks vs ts sz ps assign body=>match st with
  |.ready=>(qw8 ⟨ks,vs,ts,sz,⟨H.n,[]::H.fs⟩⟩ ps args).bind fun s=>(ih assign s).bind fun r=>match r.1 with
   |.normal=>(r.2.H.get b).bind fun k1=>match k1 with
    |.loop st1 pend1 ks1 vs1 ts1 sz1 ps1 as1 bd1=>match st1 with
     |.ready=>(r.2.H.set b (.loop .busy pend1 ks1 vs1 ts1 sz1 ps1 as1 bd1)).bind fun H1=>(ih body (r.2.wH H1)).bind fun r=>(r.2.H.get b).bind fun k2=>match k2 with
      |.loop _ _ ks2 vs2 ts2 sz2 ps2 as2 bd2=>(r.2.H.set b (.loop (qih r.1).2.1 (qih r.1).2.2 ks2 vs2 ts2 sz2 ps2 as2 bd2)).bind fun H2=>
       some (.bool (qih r.1).1,qwe (.bool true) H2)
      |_=>none
     |_=>none
    |_=>none
   |_=>none
  |_=>none
 |_=>none
def qt6(C:Ctx) (ih ihR:qs0):qcj:=fun c args H=>match c with
 |.yl b=>qrp ihR b args H
 |.fn f=>match C.summ f with
  |some g=>g args H
  | none => (C.P.funcs[f]?).bind fun fn => match fn.name == "runtime.NumGoroutine" with
   |true=>none
   |false=>fn.body.bind fun body=>(enterF C f fn args H).bind fun s=>(ih body s).bind fun r=>match r.1 with
    |.normal=>(retVal C r.2 fn.results.toList).bind fun vs=>some (oneOr vs,qwe (oneOr vs) r.2.H)
    |.ret=>(retVal C r.2 fn.results.toList).bind fun vs=>some (oneOr vs,qwe (oneOr vs) r.2.H)
    |_=>none
def quy(C:Ctx):Nat->Bool->qs0
 |0,_=>fun _ _=>none
 |Nat.succ n,rf=>fun c s=>qh6 C (qt6 C (quy C n true) (quy C n false)) rf (quy C n rf) c s
def qru(C:Ctx) (n:Nat):qcj:=qt6 C (quy C n true) (quy C n false)
structure Loc where
 cb:Nat
 off:Nat
 fin:Nat
def globs:List Nat:=[2]
def ivars:List Nat:=[]
def isIf(v:Value):Prop:=v=.nilIface\/∃t p,v=.iface t p
structure Place where
 at_:Nat->Option Loc
 W:World
 B:Nat->Prop
 gl:∀g,g∈globs->B g/\∃m,W.cell? ⟨g,0,none⟩=some (.int .i64 m)
 gi:∀g,g∈ivars->B g/\∃v,W.cell? ⟨g,0,none⟩=some v/\isIf v
 gp:∀x,x∈pins->B x.1/\∀i n,x.2[i]? = some n->W.cell? ⟨x.1,i,none⟩=some (.int .u8 n)
 gx:∀x,x∈tabs->B x.1/\∃t fz,W.heap[x.1]? = some (.cells (x.2.2.map (Value.int x.2.1)).toArray t fz)
instance:CoeFun Place fun _=>Nat->Option Loc:=⟨Place.at_⟩
structure Place.le (ρ ρ':Place):Prop where
 at_:∀b l,ρ b=some l->ρ' b=some l
 fz:∀k,ρ.B k->ρ'.B k/\ρ'.W.heap[k]? = ρ.W.heap[k]?
 os:ρ'.W.os=ρ.W.os
 tape:ρ'.W.tape=ρ.W.tape
 output:ρ'.W.output=ρ.W.output
instance (ρ ρ':Place):CoeFun (ρ.le ρ') fun _=>∀b l,ρ b=some l->ρ' b=some l:=⟨Place.le.at_⟩
theorem Place.le_refl(ρ:Place):ρ.le ρ:=⟨fun _ _ h=>h,fun _ h=>⟨h,rfl⟩,rfl,rfl,rfl⟩
theorem Place.le_trans{a b c:Place} (h:a.le b) (k:b.le c):a.le c:=
 ⟨fun x l e=>k x l (h x l e),fun x hx=>let ⟨h1,h2⟩:=h.fz x hx;let ⟨k1,k2⟩:=k.fz x h1;⟨k1,k2.trans h2⟩,k.os.trans h.os,k.tape.trans h.tape,k.output.trans h.output⟩
def Place.upd(ρ:Place) (b:Nat) (l:Loc):Place:={ ρ with at_:=fun x=>if x=b then some l else ρ x }
theorem Place.le_upd{ρ:Place} {b:Nat} {l:Loc} (h:ρ b=none):ρ.le (ρ.upd b l):=by
 refine⟨fun x m e=>?_,fun _ h=>⟨h,rfl⟩,rfl,rfl,rfl⟩;show (if x=b then some l else ρ x)=some m;split
 next hx=>subst hx;rw[h]at e;cases e
 ·exact e
theorem Place.upd_same{ρ:Place} {b:Nat} {l:Loc}:(ρ.upd b l) b=some l:=by simp[Place.upd]
theorem Place.upd_other{ρ:Place} {b x:Nat} {l:Loc} (h:x≠b):(ρ.upd b l) x=ρ x:=by simp[Place.upd,h]
def Place.bare(ρ:Place):Place:={ ρ with at_:=fun _=>none }
theorem Place.bare_le(ρ:Place):ρ.bare.le ρ:=⟨fun _ _ h=>by simp[Place.bare]at h,fun _ h=>⟨h,rfl⟩,rfl,rfl,rfl⟩
theorem Place.le.bare{ρ ρ':Place} (h:ρ.le ρ'):ρ.bare.le ρ'.bare:=⟨fun _ _ h=>by simp[Place.bare]at h,h.fz,h.os,h.tape,h.output⟩
theorem Place.le.cell{ρ ρ':Place} (h:ρ.le ρ') {a:Addr} (ha:ρ.B a.block):ρ'.W.cell? a=ρ.W.cell? a:=by simp only[World.cell?,(h.fz _ ha).2]
inductive VR:Place->AV->Value->Prop
 |undef {ρ:Place} (x:Value):VR ρ .undef x
 |bool {ρ:Place} (b:Bool):VR ρ (.bool b) (.bool b)
 |int {ρ:Place} (k:IntKind) (n:Int):VR ρ (.int k n) (.int k n)
 |float {ρ:Place} (k:FloatKind) (n:Nat):VR ρ (.float k n) (.float k n)
 |cplx {ρ:Place} (k:FloatKind) (a b:Nat):VR ρ (.cplx k a b) (.complex k a b)
 |str {ρ:Place} (s:List UInt8):VR ρ (.str s) (.string ⟨s.toArray⟩)
 |nilP {ρ:Place}:VR ρ .nilP (.pointer none)
 |ptr {ρ:Place} (b o:Nat) (l:Loc) (h:ρ b=some l):VR ρ (.ptr b o) (.pointer (some ⟨l.cb,l.off+o,none⟩))
 |fptr {ρ:Place} (cs:List AV) (o cb off:Nat) (vs:Nat->Value) (hB:ρ.B cb)
   (hc:∀i,i < cs.length->ρ.W.cell? ⟨cb,off+i,none⟩=some (vs i)) (hv:∀i (h:i < cs.length),VR ρ.bare cs[i] (vs i)) :
   VR ρ (.fptr cs o) (.pointer (some ⟨cb,off+o,none⟩))
 |nilS {ρ:Place}:VR ρ .nilS (.slice none 0 0)
 |eslc {ρ:Place} (a:Addr) (c:Nat):VR ρ .eslc (.slice (some a) 0 c)
 |zslcN {ρ:Place}:VR ρ .zslc (.slice none 0 0)
 |zslcE {ρ:Place} (a:Addr):VR ρ .zslc (.slice (some a) 0 0)
 |slcE {ρ:Place} (b o len c:Nat) (l:Loc) (h:ρ b=some l) (hc:len<=c):VR ρ (.slc b o len (.ex c)) (.slice (some ⟨l.cb,l.off+o,none⟩) len c)
 |slcR {ρ:Place} (b o len sz c:Nat) (l:Loc) (h:ρ b=some l) (hc:len<=c) (hf:l.off+o+c * sz=l.fin/\c<=9223372036854775807):VR ρ (.slc b o len (.rest sz)) (.slice (some ⟨l.cb,l.off+o,none⟩) len c)
 |fslc {ρ:Place} (sz:Nat) (es:List AV) (cb off cap:Nat) (vs:Nat->Nat->Value) (hB:ρ.B cb) (hcap:es.length<=cap)
   (hz:∀i (h:i < es.length),es[i].cells.length=sz)
   (hc:∀i,i < es.length->∀j,j < sz->ρ.W.cell? ⟨cb,off+i * sz+j,none⟩=some (vs i j))
   (hv:∀i (h:i < es.length) j (h':j < es[i].cells.length),VR ρ.bare es[i].cells[j] (vs i j)) :
   VR ρ (.fslc sz es) (.slice (some ⟨cb,off,none⟩) es.length cap)
 |xslc {ρ:Place} (sz:Nat) (es:List AV) (cb off:Nat) (vs:Nat->Nat->Value) (hB:ρ.B cb)
   (hz:∀i (h:i < es.length),es[i].cells.length=sz)
   (hc:∀i,i < es.length->∀j,j < sz->ρ.W.cell? ⟨cb,off+i * sz+j,none⟩=some (vs i j))
   (hv:∀i (h:i < es.length) j (h':j < es[i].cells.length),VR ρ.bare es[i].cells[j] (vs i j)) :
   VR ρ (.xslc sz es) (.slice (some ⟨cb,off,none⟩) es.length es.length)
 |fnil {ρ:Place} (sz:Nat):VR ρ (.fslc sz []) (.slice none 0 0)
 |fnone {ρ:Place} (sz:Nat) (a:Addr) (c:Nat):VR ρ (.fslc sz []) (.slice (some a) 0 c)
 |nilM {ρ:Place}:VR ρ .nilM (.map none)
 |map {ρ:Place} (b:Nat) (l:Loc) (h:ρ b=some l):VR ρ (.map b) (.map (some l.cb))
 |nilF {ρ:Place}:VR ρ .nilF .nilFunc
 |func {ρ:Place} (fn:Fn) (a c:List AV) (a' c':Array Value) (ha:a'.size=a.length) (hc:c'.size=c.length)
   (hav:∀i (h:i < a.length) (h':i < a'.size),VR ρ a[i] a'[i]) (hcv:∀i (h:i < c.length) (h':i < c'.size),VR ρ c[i] c'[i]) :
   VR ρ (.func fn a c) (.func fn a' c')
 |nilI {ρ:Place}:VR ρ .nilI .nilIface
 |iface {ρ:Place} (t:TypeId) (v:AV) (x:Value) (h:VR ρ v x):VR ρ (.iface t v) (.iface t x)
 |agg {ρ:Place} (cs:List AV) (vs:Array Value) (hl:vs.size=cs.length) (hv:∀i (h:i < cs.length) (h':i < vs.size),VR ρ cs[i] vs[i]):VR ρ (.agg cs) (.agg vs)
 |tup {ρ:Place} (cs:List AV) (vs:Array Value) (hl:vs.size=cs.length) (hv:∀i (h:i < cs.length) (h':i < vs.size),VR ρ cs[i] vs[i]):VR ρ (.tup cs) (.tuple vs)
 |yld {ρ:Place} (b:Nat) (l:Loc) (h:ρ b=some l):VR ρ (.yld b) (.func (.yield l.cb) #[] #[])
 |zptrN {ρ:Place} (b o:Nat):VR ρ (.zptr b o) (.pointer none)
 |zptrP {ρ:Place} (b o:Nat) (l:Loc) (h:ρ b=some l):VR ρ (.zptr b o) (.pointer (some ⟨l.cb,l.off+o,none⟩))
 |val {ρ:Place} (v:Value) (h:v.oneCell'=true):VR ρ (.val v) v
section
theorem VR.mono{ρ ρ':Place} (h:ρ.le ρ') {v:AV} {x:Value} (r:VR ρ v x):VR ρ' v x:=by
 induction r generalizing ρ' with
 |undef x=>exact .undef x
 |bool b=>exact .bool b
 |int k n=>exact .int k n
 |float k n=>exact .float k n
 |cplx k a b=>exact .cplx k a b
 |str s=>exact .str s
 |nilP=>exact .nilP
 |ptr b o l e=>exact .ptr b o l (h _ _ e)
 |fptr cs o cb off vs hB hc hv ih=>exact .fptr cs o cb off vs (h.fz _ hB).1 (fun i hi=>by rw[h.cell (a:=⟨cb,_,none⟩) hB];exact hc i hi) (fun i hi=>ih i hi h.bare)
 |nilS=>exact .nilS
 |eslc a c=>exact .eslc a c
 |zslcN=>exact .zslcN
 |zslcE a=>exact .zslcE a
 |slcE b o len c l e hc=>exact .slcE b o len c l (h _ _ e) hc
 |slcR b o len sz c l e hc hf=>exact .slcR b o len sz c l (h _ _ e) hc hf
 |fslc sz es cb off cap vs hB hcap hz hc hv ih=>exact .fslc sz es cb off cap vs (h.fz _ hB).1 hcap hz (fun i hi j hj=>by rw[h.cell (a:=⟨cb,_,none⟩) hB];exact hc i hi j hj) (fun i hi j hj=>ih i hi j hj h.bare)
 |xslc sz es cb off vs hB hz hc hv ih=>exact .xslc sz es cb off vs (h.fz _ hB).1 hz (fun i hi j hj=>by rw[h.cell (a:=⟨cb,_,none⟩) hB];exact hc i hi j hj) (fun i hi j hj=>ih i hi j hj h.bare)
 |fnil sz=>exact .fnil sz
 |fnone sz a c=>exact .fnone sz a c
 |nilM=>exact .nilM
 |map b l e=>exact .map b l (h _ _ e)
 |nilF=>exact .nilF
 |func fn a c a' c' ha hc hav hcv iha ihc=>exact .func fn a c a' c' ha hc (fun i h1 h2=>iha i h1 h2 h) (fun i h1 h2=>ihc i h1 h2 h)
 |nilI=>exact .nilI
 |iface t v x _ ih=>exact .iface t v x (ih h)
 |agg cs vs hl hv ih=>exact .agg cs vs hl fun i h1 h2=>ih i h1 h2 h
 |tup cs vs hl hv ih=>exact .tup cs vs hl fun i h1 h2=>ih i h1 h2 h
 |yld b l e=>exact .yld b l (h _ _ e)
 |zptrN b o=>exact .zptrN b o
 |zptrP b o l e=>exact .zptrP b o l (h _ _ e)
 |val v e=>exact .val v e
theorem VR.oneCell{ρ:Place} {v:AV} {x:Value} (r:VR ρ v x) (h:v.single=true):x.oneCell'=true:=by cases r<;>first|rfl|assumption|simp[AV.single]at h
def VRs(ρ:Place) (vs:List AV) (xs:List Value):Prop:=xs.length=vs.length/\∀i (h:i < vs.length) (h':i < xs.length),VR ρ vs[i] xs[i]
theorem VRs.nil{ρ:Place}:VRs ρ [] []:=⟨rfl,fun i h=>absurd h (jk i)⟩
theorem VRs.cons{ρ:Place} {v:AV} {x:Value} {vs:List AV} {xs:List Value} (h:VR ρ v x) (r:VRs ρ vs xs):VRs ρ (v::vs) (x::xs):=by
 refine⟨by simp[r.1],fun i h1 h2=>?_⟩;cases i with
 |zero=>exact h
 |succ i=>exact r.2 i (by simpa using h1) (by simpa using h2)
theorem VRs.head{ρ:Place} {v:AV} {x:Value} {vs:List AV} {xs:List Value} (r:VRs ρ (v::vs) (x::xs)):VR ρ v x:=r.2 0 (by simp) (by simp)
theorem VRs.tail{ρ:Place} {v:AV} {x:Value} {vs:List AV} {xs:List Value} (r:VRs ρ (v::vs) (x::xs)):VRs ρ vs xs:=
 ⟨by simpa using r.1,fun i h1 h2=>r.2 (i+1) (by simpa using h1) (by simpa using h2)⟩
theorem VRs.mono{ρ ρ':Place} (h:ρ.le ρ') {vs:List AV} {xs:List Value} (r:VRs ρ vs xs):VRs ρ' vs xs:=⟨r.1,fun i h1 h2=>(r.2 i h1 h2).mono h⟩
theorem VRs.append{ρ:Place} {vs us:List AV} {xs ys:List Value} (h:VRs ρ vs xs) (k:VRs ρ us ys):VRs ρ (vs++us) (xs++ys):=by
 induction vs generalizing xs with
 |nil=>cases xs with
  |nil=>exact k
  |cons _ _=>have:=h.1;simp at this
 |cons v vs ih=>cases xs with
  |nil=>have:=h.1;simp at this
  |cons x xs=>exact .cons h.head (ih h.tail)
theorem zgh{v:Value} (h:v.oneCell'=true):v.cells.toList=[v]:=by cases v<;>first|rfl|simp[Value.oneCell']at h
theorem VR.cells{ρ:Place} {v:AV} {x:Value} (r:VR ρ v x) (h:v≠.undef) (h':∀l,v≠.tup l):VRs ρ v.cells x.cells.toList:=by
 cases r with
 |undef _=>exact absurd rfl h
 |tup cs vs _ _=>exact absurd rfl (h' cs)
 |agg cs vs hl hv=>exact⟨by simp[Value.cells,AV.cells,hl],fun i h1 h2=>hv i h1 (by simpa[Value.cells]using h2)⟩
 |val _ e=>rw[zgh e];exact .cons (.val _ e) .nil
 |_=>exact .cons (by constructor<;>assumption) .nil
def zk2(ents:Array MapEntry) (clock:Nat):Prop:=(ents.toList.map (·.born)).Nodup/\∀x,x∈ents.toList->x.born < clock
structure RngR where
 cbm:Nat
 ents:Array MapEntry
 clock:Nat
 since:Nat
 seen:Array Nat
 c0:Nat
def RngR.ok(r:RngR):Prop:=(r.ents.toList.map (·.born)).Nodup/\(∀x,x∈r.ents.toList->x.born < r.since)/\r.since<=r.c0/\r.c0=r.clock
def RngR.says(r:RngR) (ρ:Place) (left:List (AV × AV)) (cur:Option (AV × AV)):Prop:=
 (left.length=(leftOf r.ents r.seen).toList.length/\∀i (h:i < left.length) (h':i < (leftOf r.ents r.seen).toList.length),VR ρ left[i].1 (leftOf r.ents r.seen).toList[i].key/\VR ρ left[i].2 (leftOf r.ents r.seen).toList[i].val) /\
 ∀e,cur=some e->∃(x:MapEntry) (s:Array Nat),x∈r.ents.toList/\r.seen=s.push x.born/\VR ρ e.1 x.key/\VR ρ e.2 x.val
theorem RngR.says_mono{r:RngR} {ρ ρ':Place} {left:List (AV × AV)} {cur:Option (AV × AV)} (h:ρ.le ρ') (k:r.says ρ left cur):r.says ρ' left cur:=
 ⟨⟨k.1.1,fun i a b=>⟨(k.1.2 i a b).1.mono h,(k.1.2 i a b).2.mono h⟩⟩,fun e he=>let ⟨x,s,h1,h2,h3,h4⟩:=k.2 e he;⟨x,s,h1,h2,h3.mono h,h4.mono h⟩⟩
def BlkR(ρ:Place) (w:World) (l:Loc):Blk->Prop
 |.cells cs=>l.off+cs.length<=l.fin /\
   (∀i,i < l.fin->(w.cell? ⟨l.cb,i,none⟩).isSome=true/\w.frozen? ⟨l.cb,i,none⟩=false) /\
   ∀i (h:i < cs.length),∃x,w.cell? ⟨l.cb,l.off+i,none⟩=some x/\VR ρ cs[i] x
 |.map es=>∃(ents:Array MapEntry) (clock:Nat),w.heap[l.cb]? = some (.map ents clock)/\ents.size=es.length /\
   (∀i (h:i < es.length) (h':i < ents.size),VR ρ es[i].1 ents[i].key/\VR ρ es[i].2 ents[i].val)/\zk2 ents clock
 |.obj t cs=>(l.off+cs.length<=l.fin /\
   (∀i,i < l.fin->(w.cell? ⟨l.cb,i,none⟩).isSome=true/\w.frozen? ⟨l.cb,i,none⟩=false) /\
   ∀i (h:i < cs.length),∃x,w.cell? ⟨l.cb,l.off+i,none⟩=some x/\VR ρ cs[i] x)/\l.off=0/\w.shape? l.cb=some (t,cs.length)
 |.buf t fz cs=>(l.off+cs.length<=l.fin/\(∀i,i < l.fin->(w.cell? ⟨l.cb,i,none⟩).isSome=true) /\
   ∀i (h:i < cs.length),∃x,w.cell? ⟨l.cb,l.off+i,none⟩=some x/\VR ρ cs[i] x)/\l.off=0/\fz<=cs.length /\
   ∃c lo hi,w.heap[l.cb]? = some (.cells c t (lo,hi))/\(lo=hi\/hi<=fz)
 |.iter s pos=>w.heap[l.cb]? = some (.stringIter ⟨s.toArray⟩ pos)/\l.off=0
 |.rng left cur=>l.off=0/\∃r:RngR,ρ.B r.cbm/\ρ.W.heap[r.cbm]? = some (.map r.ents r.clock)/\r.ok/\w.heap[l.cb]? = some (.mapIter (some r.cbm) r.since r.seen r.c0)/\r.says ρ.bare left cur
 |.loop st pend ks vs ts sz ps assign body=>∃r:Loop,w.heap[l.cb]? = some (.loop r)/\r.state=st/\r.pending=pend/\r.params.toList=ps/\r.assign=assign/\r.body=body/\r.tmps.size=sz /\
   ∀t v,(match qgw t ks vs with|some v=>some v|none=>look t ts)=some v->VR ρ v (r.tmps.getD t undef)
def Heap.ents(H:Heap):List (Nat × Blk):=H.fs.flatten
theorem BlkR.mono{ρ ρ':Place} (h:ρ.le ρ') {w:World} {l:Loc} {k:Blk} (r:BlkR ρ w l k):BlkR ρ' w l k:=by
 cases k with
 |cells cs=>exact⟨r.1,r.2.1,fun i hi=>let ⟨x,hx,hv⟩:=r.2.2 i hi;⟨x,hx,hv.mono h⟩⟩
 |map es=>obtain⟨ents,clock,h1,h2,h3,h4⟩:=r;exact⟨ents,clock,h1,h2,fun i a b=>⟨(h3 i a b).1.mono h,(h3 i a b).2.mono h⟩,h4⟩
 |obj t cs=>exact⟨⟨r.1.1,r.1.2.1,fun i hi=>let ⟨x,hx,hv⟩:=r.1.2.2 i hi;⟨x,hx,hv.mono h⟩⟩,r.2⟩
 |buf t fz cs=>exact⟨⟨r.1.1,r.1.2.1,fun i hi=>let ⟨x,hx,hv⟩:=r.1.2.2 i hi;⟨x,hx,hv.mono h⟩⟩,r.2⟩
 |iter s pos=>exact r
 |rng left cur=>obtain⟨h0,q,h1,h2,h3,h4,h5⟩:=r;exact⟨h0,q,(h.fz _ h1).1,(h.fz _ h1).2.trans h2,h3,h4,RngR.says_mono h.bare h5⟩
 |loop=>obtain⟨q,h1,h2,h3,h4,h5,h6,h7,h8⟩:=r;exact⟨q,h1,h2,h3,h4,h5,h6,h7,fun t v e=>(h8 t v e).mono h⟩
theorem BlkR.same{ρ:Place} {w w':World} {l:Loc} {k:Blk} (h:w'.heap[l.cb]? = w.heap[l.cb]?) (r:BlkR ρ w l k):BlkR ρ w' l k:=by
 have hc:∀i,w'.cell? ⟨l.cb,i,none⟩=w.cell? ⟨l.cb,i,none⟩:=fun i=>by simp[World.cell?,h]
 have hf:∀i,w'.frozen? ⟨l.cb,i,none⟩=w.frozen? ⟨l.cb,i,none⟩:=fun i=>by simp[World.frozen?,h]
 cases k with
 |cells cs=>exact⟨r.1,fun i hi=>by rw[hc,hf];exact r.2.1 i hi,fun i hi=>by rw[hc];exact r.2.2 i hi⟩
 |map es=>obtain⟨ents,clock,h1,h2,h3⟩:=r;exact⟨ents,clock,by rw[h];exact h1,h2,h3⟩
 |obj t cs=>exact⟨⟨r.1.1,fun i hi=>by rw[hc,hf];exact r.1.2.1 i hi,fun i hi=>by rw[hc];exact r.1.2.2 i hi⟩,r.2.1,by simp only[World.shape?,h];exact r.2.2⟩
 |buf t fz cs=>exact⟨⟨r.1.1,fun i hi=>by rw[hc];exact r.1.2.1 i hi,fun i hi=>by rw[hc];exact r.1.2.2 i hi⟩,r.2.1,r.2.2.1,by rw[h];exact r.2.2.2⟩
 |iter s pos=>exact⟨by rw[h];exact r.1,r.2⟩
 |rng left cur=>obtain⟨h0,q,h1,h2,h3,h4,h5⟩:=r;exact⟨h0,q,h1,h2,h3,by rw[h];exact h4,h5⟩
 |loop=>obtain⟨q,h1,h2⟩:=r;exact⟨q,by rw[h];exact h1,h2⟩
theorem BlkR.rdR{ρ:Place} {w:World} {l:Loc} {k:Blk} {cs:List AV} (r:BlkR ρ w l k) (h:k.rd=some cs) :
  l.off+cs.length<=l.fin/\(∀i,i < l.fin->(w.cell? ⟨l.cb,i,none⟩).isSome=true)/\∀i (h:i < cs.length),∃x,w.cell? ⟨l.cb,l.off+i,none⟩=some x/\VR ρ cs[i] x:=by
 cases k<;>simp only[Blk.rd,sj,reduceCtorEq]at h
 ·subst h;exact⟨r.1,fun i hi=>(r.2.1 i hi).1,r.2.2⟩
 ·subst h;exact⟨r.1.1,fun i hi=>(r.1.2.1 i hi).1,r.1.2.2⟩
 ·subst h;exact r.1
theorem BlkR.wtR{ρ:Place} {w:World} {l:Loc} {k:Blk} {cs:List AV} {o:Nat} (r:BlkR ρ w l k) (h:k.wt o=some cs) :
  k.rd=some cs/\∀i,i < l.fin->l.off+o<=i->w.frozen? ⟨l.cb,i,none⟩=false:=by
 cases k<;>simp only[Blk.wt,sj,reduceCtorEq]at h
 ·subst h;exact⟨rfl,fun i hi _=>(r.2.1 i hi).2⟩
 ·subst h;exact⟨rfl,fun i hi _=>(r.1.2.1 i hi).2⟩
 ·split at h
  ·rename_i hb;simp only[sj]at h;subst h;refine⟨rfl,fun i hi ho=>?_⟩;obtain⟨_,h0,_,c,lo,hi',hh,hz⟩:=r;have hb:=jB hb;simp only[World.frozen?,hh];rcases hz with rfl|hz
   ·by_cases h1:lo<=i<;>simp<;>omega
   ·simp;omega
  ·cases h
theorem BlkR.reR{ρ:Place} {w w':World} {l:Loc} {k:Blk} {cs cs':List AV} {o:Nat} (r:BlkR ρ w l k) (h:k.wt o=some cs) (hl:cs'.length=cs.length)
  (hs:∀i,i < l.fin->(w'.cell? ⟨l.cb,i,none⟩).isSome=true) (hf:∀i,w'.frozen? ⟨l.cb,i,none⟩=w.frozen? ⟨l.cb,i,none⟩)
  (hk:∀c t fr,w.heap[l.cb]? = some (.cells c t fr)->∃c',w'.heap[l.cb]? = some (.cells c' t fr)/\c'.size=c.size)
  (hv:∀i (h:i < cs'.length),∃x,w'.cell? ⟨l.cb,l.off+i,none⟩=some x/\VR ρ cs'[i] x):BlkR ρ w' l (k.re cs'):=by
 cases k<;>simp only[Blk.wt,sj,reduceCtorEq]at h
 ·subst h;exact⟨by rw[hl];exact r.1,fun i hi=>⟨hs i hi,by rw[hf];exact(r.2.1 i hi).2⟩,hv⟩
 ·subst h;refine⟨⟨by rw[hl];exact r.1.1,fun i hi=>⟨hs i hi,by rw[hf];exact(r.1.2.1 i hi).2⟩,hv⟩,r.2.1,?_⟩;have hsh:=r.2.2;unfold World.shape? at hsh ⊢;split at hsh
  next c e fr he=>obtain⟨c',hc',hz⟩:=hk _ _ _ he;simp only[hc',hz,hl];exact hsh
  ·cases hsh
 ·split at h
  ·simp only[sj]at h;subst h;obtain⟨r1,r2,r3,c,lo,hi',hh,hz⟩:=r;obtain⟨c',hc',_⟩:=hk _ _ _ hh;exact⟨⟨by rw[hl];exact r1.1,hs,hv⟩,r2,by rw[hl];exact r3,c',lo,hi',hc',hz⟩
  ·cases h
structure Sim (ρ:Place) (H:Heap) (w:World):Prop where
 base:∀k,ρ.B k->k < w.heap.size
 below:∀k,ρ.B k->w.heap[k]? = ρ.W.heap[k]?
 os:w.os=ρ.W.os
 tape:w.tape=ρ.W.tape
 output:w.output=ρ.W.output
 dom:∀b,H.n<=b->ρ b=none
 nodup:(H.ents.map (·.1)).Nodup
 live:∀e,e∈H.ents->∃l,ρ e.1=some l/\¬ ρ.B l.cb/\l.cb < w.heap.size/\BlkR ρ w l e.2
 inj:∀e e',e∈H.ents->e'∈H.ents->∀l l',ρ e.1=some l->ρ e'.1=some l'->l.cb=l'.cb->e.1=e'.1
structure Step (ρ:Place) (H:Heap) (w:World) (ρ':Place) (H':Heap) (w':World):Prop where
 le:ρ.le ρ'
 size:w.heap.size<=w'.heap.size
 keeps:∀k,k < w.heap.size->(∀e,e∈H.ents->∀l,ρ e.1=some l->l.cb≠k)->w'.heap[k]? = w.heap[k]?
 rows:∀e',e'∈H'.ents->∀l',ρ' e'.1=some l'->(∃e,e∈H.ents/\∃l,ρ e.1=some l/\l.cb=l'.cb)\/w.heap.size<=l'.cb
 num:H.n<=H'.n
 low:∀b,b < H.n->ρ' b=ρ b
 cold:∀k,ρ'.B k->ρ.B k\/(∃e,e∈H.ents/\∃l,ρ e.1=some l/\l.cb=k)\/w.heap.size<=k
theorem Step.trans{ρ ρ' ρ'':Place} {H H' H'':Heap} {w w' w'':World} (h:Step ρ H w ρ' H' w') (k:Step ρ' H' w' ρ'' H'' w''):Step ρ H w ρ'' H'' w'' where
 le:=Place.le_trans h.le k.le
 size:=jK h.size k.size
 num:=jK h.num k.num
 low:=fun b hb=>(k.low b (jI hb h.num)).trans (h.low b hb)
 cold:=fun j hj=>by
  rcases k.cold j hj with h1|⟨e,he,l,hl,hlj⟩|hge
  ·exact h.cold j h1
  ·rcases h.rows e he l hl with⟨e0,he0,l0,hl0,hcb⟩|hge
   ·exact .inr (.inl ⟨e0,he0,l0,hl0,hcb.trans hlj⟩)
   ·exact .inr (.inr (by rw[<- hlj];exact hge))
  ·exact .inr (.inr (jK h.size hge))
 keeps:=fun j hj hn=>by
  rw[k.keeps j (jI hj h.size) (fun e he l hl hlj=>?_),h.keeps j hj hn];rcases h.rows e he l hl with⟨e0,he0,l0,hl0,hcb⟩|hge
  ·exact hn e0 he0 l0 hl0 (by rw[hcb,hlj])
  ·omega
 rows:=fun e he l hl=>by
  rcases k.rows e he l hl with⟨e1,he1,l1,hl1,hcb⟩|hge
  ·rcases h.rows e1 he1 l1 hl1 with⟨e0,he0,l0,hl0,hcb0⟩|hge
   ·exact .inl ⟨e0,he0,l0,hl0,by rw[hcb0,hcb]⟩
   ·exact .inr (by rw[<- hcb];exact hge)
  ·exact .inr (jK h.size hge)
theorem Step.of_sub{ρ:Place} {H H':Heap} {w:World} (hs:∀e,e∈H'.ents->e∈H.ents) (hn:H.n<=H'.n):Step ρ H w ρ H' w where
 le:=Place.le_refl _
 size:=jc _
 num:=hn
 low:=fun _ _=>rfl
 cold:=fun _ h=>.inl h
 keeps:=fun _ _ _=>rfl
 rows:=fun e he l h=>.inl ⟨e,hs e he,l,h,rfl⟩
theorem Sim.of_sub{ρ:Place} {H H':Heap} {w:World} (s:Sim ρ H w) (hs:∀e,e∈H'.ents->e∈H.ents) (hn:H.n<=H'.n) (hd:(H'.ents.map (·.1)).Nodup):Sim ρ H' w where
 base:=s.base
 below:=s.below
 os:=s.os
 tape:=s.tape
 output:=s.output
 dom:=fun b hb=>s.dom b (jK hn hb)
 nodup:=hd
 live:=fun e he=>s.live e (hs e he)
 inj:=fun e e' he he'=>s.inj e e' (hs e he) (hs e' he')
theorem Step.refl(ρ:Place) (H:Heap) (w:World):Step ρ H w ρ H w:=.of_sub (fun _ h=>h) (jc _)
theorem Sim.drew{ρ:Place} {H:Heap} {w:World} (s:Sim ρ H w):Sim ρ H w.drew where
 base:=s.base
 below:=s.below
 os:=s.os
 tape:=s.tape
 output:=s.output
 dom:=s.dom
 nodup:=s.nodup
 live:=fun e he=>let ⟨l,h1,h2,h3,h4⟩:=s.live e he;⟨l,h1,h2,h3,h4.same rfl⟩
 inj:=s.inj
theorem Step.drew(ρ:Place) (H:Heap) (w:World):Step ρ H w ρ H w.drew where
 le:=Place.le_refl _
 size:=jc _
 num:=jc _
 low:=fun _ _=>rfl
 cold:=fun _ h=>.inl h
 keeps:=fun _ _ _=>rfl
 rows:=fun e he l h=>.inl ⟨e,he,l,h,rfl⟩
theorem quk{b:Nat} {k:Blk}:∀{f:List (Nat × Blk)},getF b f=some k->(b,k)∈f
 |[],h=>by simp[getF]at h
 |x::r,h=>by
  unfold getF at h;split at h
  next hb=>have hb':x.1=b:=Nat.eq_of_beq_eq_true hb;simp only[sj]at h;subst hb';subst h;exact jA
  ·exact jp _ (quk h)
theorem qxc{b:Nat} {k:Blk}:∀{fs:List (List (Nat × Blk))},getFs b fs=some k->(b,k)∈fs.flatten
 |[],h=>by simp[getFs]at h
 |f::r,h=>by
  unfold getFs at h;rw[je,jl];split at h
  next x hx=>simp only[sj]at h;subst h;exact .inl (quk hx)
  ·exact .inr (qxc h)
theorem Heap.get_mem{H:Heap} {b:Nat} {k:Blk} (h:H.get b=some k):(b,k)∈H.ents:=qxc h
theorem zd8(x:Nat × Blk) (fs:List (List (Nat × Blk))):(pushF x fs).flatten=x::fs.flatten:=by cases fs<;>simp[pushF]
theorem Heap.new_ents(H:Heap) (k:Blk):(H.new k).ents=(H.n,k)::H.ents:=zd8 _ _
theorem Sim.id_lt{ρ:Place} {H:Heap} {w:World} (s:Sim ρ H w) {e:Nat × Blk} (he:e∈H.ents):e.1 < H.n:=by
 obtain⟨l,hl,_⟩:=s.live e he;rcases jR e.1 H.n with h|h
 ·exact h
 ·rw[s.dom _ h]at hl;cases hl
theorem Sim.alloc{ρ:Place} {H:Heap} {w:World} (s:Sim ρ H w) (o:Obj) (fin:Nat) (b:Nat) (k:Blk) (H':Heap)
  (hb:ρ b=none) (hb0:H.n<=b) (hbn:b < H'.n) (hn:H.n<=H'.n) (he:H'.ents=(b,k)::H.ents)
  (hk:BlkR (ρ.upd b ⟨w.heap.size,0,fin⟩) (w.alloc o) ⟨w.heap.size,0,fin⟩ k) :
  Sim (ρ.upd b ⟨w.heap.size,0,fin⟩) H' (w.alloc o)/\Step ρ H w (ρ.upd b ⟨w.heap.size,0,fin⟩) H' (w.alloc o):=by
 have hle:ρ.le (ρ.upd b ⟨w.heap.size,0,fin⟩):=Place.le_upd hb;have hne:∀e,e∈H.ents->e.1≠b:=fun e hm hx=>by obtain⟨l,hl,_⟩:=s.live e hm;rw[hx,hb]at hl;cases hl
 have hcell:∀k,k < w.heap.size->(w.alloc o).heap[k]? = w.heap[k]?:=fun k hk=>Below.heap_alloc w o k hk;refine⟨⟨?_,?_,s.os,s.tape,s.output,?_,?_,?_,?_⟩,⟨hle,by simp,fun k hk _=>hcell k hk,?_,hn,fun x hx=>Place.upd_other (by omega),fun _ h=>.inl h⟩⟩
 ·intro k hk;have:=s.base k hk;simp;omega
 ·intro k hk;rw[hcell k (s.base k hk)];exact s.below k hk
 ·intro x hx;rw[Place.upd_other (by omega)];exact s.dom x (by omega)
 ·rw[he,jj,jr];refine⟨fun hm=>?_,s.nodup⟩;obtain⟨e,hem,hex⟩:=ji.1 hm;exact hne e hem hex
 ·intro e hem;rw[he]at hem;rcases ja.1 hem with rfl|hem
  ·exact⟨_,Place.upd_same,fun hx=>absurd (s.base _ hx) (yV _),by simp,hk⟩
  ·obtain⟨l,h1,h2,h3,h4⟩:=s.live e hem;exact⟨l,hle _ _ h1,h2,by simp;omega,(h4.same (hcell _ h3)).mono hle⟩
 ·intro e e' h1 h2 l l' hl hl' hcb;rw[he]at h1 h2;rcases ja.1 h1 with rfl|h1<;>rcases ja.1 h2 with rfl|h2
  ·rfl
  ·rw[Place.upd_same]at hl;cases hl;rw[Place.upd_other (hne e' h2)]at hl';obtain⟨m,hm,_,hlt,_⟩:=s.live e' h2;rw[hm]at hl';cases hl';simp at hcb;omega
  ·rw[Place.upd_same]at hl';cases hl';rw[Place.upd_other (hne e h1)]at hl;obtain⟨m,hm,_,hlt,_⟩:=s.live e h1;rw[hm]at hl;cases hl;simp at hcb;omega
  ·rw[Place.upd_other (hne e h1)]at hl;rw[Place.upd_other (hne e' h2)]at hl';exact s.inj e e' h1 h2 l l' hl hl' hcb
 ·intro e' h1 l' hl';rw[he]at h1;rcases ja.1 h1 with rfl|h1
  ·rw[Place.upd_same]at hl';cases hl';exact .inr (jc _)
  ·rw[Place.upd_other (hne e' h1)]at hl';exact .inl ⟨e',h1,l',hl',rfl⟩
theorem Sim.new{ρ:Place} {H:Heap} {w:World} (s:Sim ρ H w) (o:Obj) (fin:Nat) (k:Blk)
  (hk:BlkR (ρ.upd H.n ⟨w.heap.size,0,fin⟩) (w.alloc o) ⟨w.heap.size,0,fin⟩ k) :
  Sim (ρ.upd H.n ⟨w.heap.size,0,fin⟩) (H.new k) (w.alloc o)/\Step ρ H w (ρ.upd H.n ⟨w.heap.size,0,fin⟩) (H.new k) (w.alloc o):=
 s.alloc o fin H.n k (H.new k) (s.dom _ (jc _)) (jc _) (jX _) (yK _) (H.new_ents k) hk
theorem zam{b:Nat} {k:Blk}:∀{f f':List (Nat × Blk)},setF b k f=some f'->f'.map (·.1)=f.map (·.1)
 |[],_,h=>by simp[setF]at h
 |x::r,f',h=>by
  unfold setF at h;split at h
  next hb=>simp only[sj]at h;subst h;simp[Nat.eq_of_beq_eq_true hb]
  ·obtain⟨r',hr,hf⟩:=obs h;simp only[sj]at hf;subst hf;simp[zam hr]
theorem zal{b:Nat} {k:Blk}:∀{f f':List (Nat × Blk)},setF b k f=some f'->(b,k)∈f'/\(∃k0,(b,k0)∈f)/\∀e,e∈f'->e=(b,k)\/e∈f
 |[],_,h=>by simp[setF]at h
 |x::r,f',h=>by
  unfold setF at h;split at h
  ·rename_i hb;simp only[sj]at h;subst h;refine⟨jA,⟨x.2,?_⟩,fun e he=>?_⟩
   ·rw[<- Nat.eq_of_beq_eq_true hb];exact jA
   ·rcases ja.1 he with rfl|he
    ·exact .inl rfl
    ·exact .inr (jp _ he)
  ·obtain⟨r',hr,hf⟩:=obs h;simp only[sj]at hf;subst hf;obtain⟨h1,⟨k0,h2⟩,h3⟩:=zal hr;refine⟨jp _ h1,⟨k0,jp _ h2⟩,fun e he=>?_⟩;rcases ja.1 he with rfl|he
   ·exact .inr jA
   ·rcases h3 e he with h|h
    ·exact .inl h
    ·exact .inr (jp _ h)
theorem qsq{b:Nat} {k:Blk}:∀{fs fs':List (List (Nat × Blk))},setFs b k fs=some fs' ->
  fs'.flatten.map (·.1)=fs.flatten.map (·.1)/\(b,k)∈fs'.flatten/\(∃k0,(b,k0)∈fs.flatten)/\∀e,e∈fs'.flatten->e=(b,k)\/e∈fs.flatten
 |[],_,h=>by simp[setFs]at h
 |f::r,fs',h=>by
  unfold setFs at h;split at h
  ·rename_i f' hf;simp only[sj]at h;subst h;obtain⟨h1,⟨k0,h2⟩,h3⟩:=zal hf;simp only[je,j3,zam hf,jl,true_and];refine⟨.inl h1,⟨k0,.inl h2⟩,fun e he=>?_⟩;rcases he with he|he
   ·rcases h3 e he with h|h
    ·exact .inl h
    ·exact .inr (.inl h)
   ·exact .inr (.inr he)
  ·obtain⟨r',hr,hf⟩:=obs h;simp only[sj]at hf;subst hf;obtain⟨h0,h1,⟨k0,h2⟩,h3⟩:=qsq hr;simp only[je,j3,h0,jl,true_and];refine⟨.inr h1,⟨k0,.inr h2⟩,fun e he=>?_⟩;rcases he with he|he
   ·exact .inr (.inl he)
   ·rcases h3 e he with h|h
    ·exact .inl h
    ·exact .inr (.inr h)
theorem zdh{l:List (Nat × Blk)} (hd:(l.map (·.1)).Nodup) {b:Nat} {k k':Blk} (h:(b,k)∈l) (h':(b,k')∈l):k=k':=by
 induction l with
 |nil=>cases h
 |cons x r ih=>
  rw[jj,jr]at hd;rcases ja.1 h with rfl|h1<;>rcases ja.1 h' with h2|h2
  ·cases h2;rfl
  ·exact absurd (ji.2 ⟨_,h2,rfl⟩) hd.1
  ·subst h2;exact absurd (ji.2 ⟨_,h1,rfl⟩) hd.1
  ·exact ih hd.2 h1 h2
theorem qo5{b:Nat} {k:Blk}:∀{f:List (Nat × Blk)},getF b f=some k->f.Perm ((b,k)::killF b f)
 |[],h=>by simp[getF]at h
 |x::r,h=>by
  unfold getF at h;unfold killF;split at h
  next hb=>simp only[sj]at h;subst h;rw[<- Nat.eq_of_beq_eq_true hb]
  ·exact((qo5 h).cons x).trans (List.Perm.swap _ _ _)
theorem qra(b:Nat):∀(f:List (Nat × Blk)),(killF b f).Sublist f
 |[]=>yj _
 |x::r=>by
  unfold killF;split
  ·exact yH x r
  ·exact(qra b r).cons_cons x
theorem qo4(b:Nat):∀(fs:List (List (Nat × Blk))),(qem b fs).flatten.Sublist fs.flatten
 |[]=>yj _
 |f::r=>by
  unfold qem;split
  ·simp only[je];exact(qra b f).append (yj _)
  ·simp only[je];exact(yj _).append (qo4 b r)
theorem qkz:∀(n:Nat) (todo:List Nat) (f acc:List (Nat × Blk)),((qgu n todo f acc).1++(qgu n todo f acc).2).Perm (acc++f)
 |0,_,_,_=>yG _
 |n+1,todo,f,acc=>by
  unfold qgu;split
  ·exact yG _
  ·split
   ·exact yG _
   ·split
    ·exact qkz n _ _ _
    next k hk=>refine(qkz n _ _ _).trans ?_;refine List.Perm.trans ?_ ((qo5 hk).symm.append_left acc);simp only[List.cons_append];exact List.perm_middle.symm
theorem qot(b:Nat):∀(roots:List Nat) (carry:List (Nat × Blk)) (fs:List (List (Nat × Blk))),(qdj b roots carry fs).flatten.Perm (carry++fs.flatten)
 |_,carry,[]=>by simp[qdj]
 |roots,carry,f::r=>by
  unfold qdj;split
  ·simp only[je,List.append_assoc];exact yG _
  ·generalize hx:qgu 100000 roots f []=x;obtain⟨ex,rest⟩:=x;have hp:=qkz 100000 roots f [];rw[hx]at hp;simp only[jq]at hp;simp only[je];refine((qot b _ (ex++carry) r).append_left rest).trans ?_;have h1:(rest++(ex++carry++r.flatten)).Perm ((rest++ex)++(carry++r.flatten)):=(by simp only[List.append_assoc];exact yG _);refine h1.trans ?_;refine((yv.trans hp).append_right _).trans ?_;rw[<- List.append_assoc,<- List.append_assoc];exact yv.append_right _
theorem zd6(H:Heap) (b:Nat) (vs:List AV):(H.ready b vs).ents.Perm H.ents:=by
 unfold Heap.ready;split
 ·exact yG _
 ·exact qot b _ [] H.fs
theorem ready_n(H:Heap) (b:Nat) (vs:List AV):(H.ready b vs).n=H.n:=by unfold Heap.ready;split<;>rfl
theorem qlh{l l':List (Nat × Blk)} (h:l.Perm l') (hd:(l'.map (·.1)).Nodup):(l.map (·.1)).Nodup:=(h.map _).nodup_iff.2 hd
theorem qh1{l l':List (Nat × Blk)} (h:l.Sublist l') (hd:(l'.map (·.1)).Nodup):(l.map (·.1)).Nodup:=(h.map _).nodup hd
theorem qsx(l:List (Nat × Blk)) (fs:List (List (Nat × Blk))):(qdk l fs).flatten=l++fs.flatten:=by cases fs<;>simp[qdk]
theorem Sim.pop{ρ:Place} {H:Heap} {w:World} (s:Sim ρ H w) (v:AV):Sim ρ (qwe v H) w/\Step ρ H w ρ (qwe v H) w:=by
 unfold qwe;split
 ·exact⟨s,.refl _ _ _⟩
 ·rename_i f r hfs;have he:H.ents=f++r.flatten:=by simp[Heap.ents,hfs]
  split
  ·have hs:∀e,e∈Heap.ents ⟨H.n,r⟩->e∈H.ents:=fun e h=>(by rw[he];exact jl.2 (.inr h));refine⟨s.of_sub hs (jc _) (qh1 (l':=H.ents) ?_ s.nodup),.of_sub hs (jc _)⟩;rw[he];exact List.sublist_append_right _ _
  ·rename_i b bs _;have hp:=qkz 100000 (b::bs) f [];generalize qgu 100000 (b::bs) f []=x at hp;obtain⟨ex,rest⟩:=x;simp only[jq]at hp;have hx:Heap.ents ⟨H.n,qdk ex r⟩=ex++r.flatten:=qsx _ _;have hs:∀e,e∈Heap.ents ⟨H.n,qdk ex r⟩->e∈H.ents:=fun e h=>by
    rw[hx]at h;rw[he];rcases jl.1 h with h|h
    ·exact jl.2 (.inl (hp.mem_iff.1 (jl.2 (.inl h))))
    ·exact jl.2 (.inr h)
   refine⟨s.of_sub hs (jc _) ?_,.of_sub hs (jc _)⟩;have hd:(((ex++rest)++r.flatten).map (·.1)).Nodup:=qlh (hp.append_right _) (he ▸ s.nodup);rw[hx];refine qh1 ?_ hd;exact(List.sublist_append_left ex rest).append (yj _)
theorem Sim.killed{ρ:Place} {H:Heap} {w:World} (s:Sim ρ H w) (b:Nat):Sim ρ (H.kill b) w/\Step ρ H w ρ (H.kill b) w:=by
 unfold Heap.kill;split
 ·exact⟨s,.refl _ _ _⟩
 ·rename_i f r hfs;have hx:(Heap.ents ⟨H.n,killF b f::r⟩).Sublist H.ents:=by simp only[Heap.ents,hfs,je];exact(qra b f).append (yj _)
  exact⟨s.of_sub (fun e h=>hx.subset h) (jc _) (qh1 hx s.nodup),.of_sub (fun e h=>hx.subset h) (jc _)⟩
theorem Sim.dropped{ρ:Place} {H:Heap} {w:World} (s:Sim ρ H w) (b:Nat):Sim ρ (H.drop b) w/\Step ρ H w ρ (H.drop b) w:=by have hx:(H.drop b).ents.Sublist H.ents:=qo4 b H.fs;exact⟨s.of_sub (fun e h=>hx.subset h) (jc _) (qh1 hx s.nodup),.of_sub (fun e h=>hx.subset h) (jc _)⟩
theorem Sim.opened{ρ:Place} {H:Heap} {w:World} (s:Sim ρ H w):Sim ρ ⟨H.n,[]::H.fs⟩ w/\Step ρ H w ρ ⟨H.n,[]::H.fs⟩ w:=
 ⟨s.of_sub (fun _ h=>h) (jc _) s.nodup,.of_sub (fun _ h=>h) (jc _)⟩
theorem Sim.turned{ρ:Place} {H H':Heap} {w w':World} (s:Sim ρ H w) {b:Nat} {k0 k:Blk} {l:Loc} (hb:(b,k0)∈H.ents) (hl:ρ b=some l)
  (hn:H'.n=H.n) (hd:(H'.ents.map (·.1)).Nodup) (hk:(b,k)∈H'.ents) (hs:∀e,e∈H'.ents->e=(b,k)\/e∈H.ents)
  (hsize:w'.heap.size=w.heap.size) (hkeep:∀j,j≠l.cb->w'.heap[j]? = w.heap[j]?) (hos:w'.os=w.os) (ht:w'.tape=w.tape) (ho:w'.output=w.output)
  (hr:BlkR ρ w' l k):Sim ρ H' w'/\Step ρ H w ρ H' w':=by
 have hmem:∀e,e∈H'.ents->e=(b,k)\/(e∈H.ents/\e.1≠b):=fun e he=>by
  rcases hs e he with h|h
  ·exact .inl h
  ·by_cases hx:e.1=b
   ·left;obtain⟨e1,e2⟩:=e;simp only at hx;subst hx;rw[zdh hd he hk]
   ·exact .inr ⟨h,hx⟩
 have hid:∀e,e∈H'.ents->∃e0,e0∈H.ents/\e0.1=e.1:=fun e he=>by
  rcases hmem e he with rfl|⟨h,_⟩
  ·exact⟨_,hb,rfl⟩
  ·exact⟨e,h,rfl⟩
 obtain⟨l0,hl0,hB,hlt,_⟩:=s.live _ hb;rw[hl]at hl0;cases hl0;refine⟨⟨by rw[hsize];exact s.base,?_,hos.trans s.os,ht.trans s.tape,ho.trans s.output,fun x hx=>s.dom x (by omega),hd,?_,?_⟩,⟨Place.le_refl _,by omega,?_,?_,by omega,fun _ _=>rfl,fun _ h=>.inl h⟩⟩
 ·intro j hj;rw[hkeep j (fun hx=>hB (hx ▸ hj))];exact s.below j hj
 ·intro e he;rcases hmem e he with rfl|⟨h,hx⟩
  ·exact⟨l,hl,hB,by omega,hr⟩
  ·obtain⟨m,h1,h2,h3,h4⟩:=s.live e h;refine⟨m,h1,h2,by omega,h4.same (hkeep _ fun hc=>hx ?_)⟩;exact s.inj e (b,k0) h hb m l h1 hl hc
 ·intro e e' he he' m m' hm hm' hc;obtain⟨e0,h0,h0'⟩:=hid e he;obtain⟨e1,h1,h1'⟩:=hid e' he';rw[<- h0',<- h1'];exact s.inj e0 e1 h0 h1 m m' (by rw[h0'];exact hm) (by rw[h1'];exact hm') hc
 ·intro j hj hn';exact hkeep j fun hc=>hn' (b,k0) hb l hl hc.symm
 ·intro e he m hm;obtain⟨e0,h0,h0'⟩:=hid e he;exact .inl ⟨e0,h0,m,by rw[h0'];exact hm,rfl⟩
theorem qm1{b:Nat} {k:Blk}:∀{fs:List (List (Nat × Blk))},getFs b fs=some k->fs.flatten.Perm ((b,k)::(qem b fs).flatten)
 |[],h=>by simp[getFs]at h
 |f::r,h=>by
  unfold getFs at h;unfold qem;split at h
  next x hx=>simp only[sj]at h;subst h;simp only[hx,je];exact(qo5 hx).append_right _
  next hx=>simp only[hx,je];exact((qm1 h).append_left f).trans List.perm_middle
theorem Sim.regrow{ρ:Place} {H:Heap} {w w':World} (s:Sim ρ H w) {b:Nat} {k0 k:Blk} {l l':Loc} (hb:H.get b=some k0) (hl:ρ b=some l) (hcb:l'.cb=l.cb)
  (hsize:w'.heap.size=w.heap.size) (hkeep:∀j,j≠l.cb->w'.heap[j]? = w.heap[j]?) (hos:w'.os=w.os) (ht:w'.tape=w.tape) (ho:w'.output=w.output)
  (hr:BlkR (ρ.upd H.n l') w' l' k):Sim (ρ.upd H.n l') ((H.drop b).new k) w'/\Step ρ H w (ρ.upd H.n l') ((H.drop b).new k) w':=by
 have hn0:ρ H.n=none:=s.dom _ (jc _);have hle:ρ.le (ρ.upd H.n l'):=Place.le_upd hn0;have hp:H.ents.Perm ((b,k0)::(H.drop b).ents):=qm1 hb;have hd:(((b,k0)::(H.drop b).ents).map (·.1)).Nodup:=(hp.map _).nodup_iff.1 s.nodup;rw[jj,jr]at hd;have hsub:∀e,e∈(H.drop b).ents->e∈H.ents/\e.1≠b:=fun e he=>⟨hp.mem_iff.2 (jp _ he),fun hx=>hd.1 (ji.2 ⟨e,he,hx⟩)⟩;have hbm:(b,k0)∈H.ents:=Heap.get_mem hb;have hne:∀e,e∈H.ents->e.1≠H.n:=fun e he hx=>by obtain⟨m,hm,_⟩:=s.live e he;rw[hx,hn0]at hm;cases hm
 have hents:((H.drop b).new k).ents=(H.n,k)::(H.drop b).ents:=Heap.new_ents _ _;obtain⟨l0,hl0,hB,hlt,_⟩:=s.live _ hbm;rw[hl]at hl0;cases hl0;refine⟨⟨by rw[hsize];exact s.base,fun j hj=>by rw[hkeep j (fun hx=>hB (hx ▸ hj))];exact s.below j hj,hos.trans s.os,ht.trans s.tape,ho.trans s.output,?_,?_,?_,?_⟩,⟨hle,by omega,?_,?_,?_,fun x hx=>Place.upd_other (by omega),fun _ h=>.inl h⟩⟩
 ·intro x hx;have hx':H.n+1<=x:=hx;rw[Place.upd_other (by omega)];exact s.dom x (by omega)
 ·rw[hents,jj,jr];refine⟨fun hm=>?_,hd.2⟩;obtain⟨e,he,hx⟩:=ji.1 hm;exact hne e (hsub e he).1 hx
 ·intro e he;rw[hents]at he;rcases ja.1 he with rfl|he
  ·exact⟨l',Place.upd_same,by rw[hcb];exact hB,by omega,hr⟩
  ·obtain⟨h1,h2⟩:=hsub e he;obtain⟨m,g1,g2,g3,g4⟩:=s.live e h1;refine⟨m,hle _ _ g1,g2,by omega,(g4.same (hkeep _ fun hc=>h2 ?_)).mono hle⟩;exact s.inj e (b,k0) h1 hbm m l g1 hl hc
 ·intro e e' he he' m m' hm hm' hc;rw[hents]at he he';rcases ja.1 he with rfl|he<;>rcases ja.1 he' with rfl|he'
  ·rfl
  ·rw[Place.upd_same]at hm;cases hm;obtain⟨h1,h2⟩:=hsub e' he';rw[Place.upd_other (hne e' h1)]at hm';exact absurd (s.inj e' (b,k0) h1 hbm m' l hm' hl (by omega)) h2
  ·rw[Place.upd_same]at hm';cases hm';obtain⟨h1,h2⟩:=hsub e he;rw[Place.upd_other (hne e h1)]at hm;exact absurd (s.inj e (b,k0) h1 hbm m l hm hl (by omega)) h2
  ·rw[Place.upd_other (hne e (hsub e he).1)]at hm;rw[Place.upd_other (hne e' (hsub e' he').1)]at hm';exact s.inj e e' (hsub e he).1 (hsub e' he').1 m m' hm hm' hc
 ·intro j hj hnj;exact hkeep j fun hc=>hnj _ hbm l hl hc.symm
 ·intro e he m hm;rw[hents]at he;rcases ja.1 he with rfl|he
  ·rw[Place.upd_same]at hm;cases hm;exact .inl ⟨_,hbm,l,hl,hcb.symm⟩
  ·obtain⟨h1,_⟩:=hsub e he;rw[Place.upd_other (hne e h1)]at hm;exact .inl ⟨e,h1,m,hm,rfl⟩
 ·exact yK _
theorem qmn{H H':Heap} {b:Nat} {k:Blk} {vs:List AV} (h:(H.ready b vs).set b k=some H') (hd:(H.ents.map (·.1)).Nodup) :
  H'.n=H.n/\(H'.ents.map (·.1)).Nodup/\(b,k)∈H'.ents/\(∃k0,(b,k0)∈H.ents)/\∀e,e∈H'.ents->e=(b,k)\/e∈H.ents:=by
 obtain⟨fs,hf,hH⟩:=obs h;simp only[sj]at hH;subst hH;obtain⟨h0,h1,⟨k0,h2⟩,h3⟩:=qsq hf;have hp:=zd6 H b vs;refine⟨ready_n _ _ _,?_,h1,⟨k0,hp.mem_iff.1 h2⟩,fun e he=>?_⟩
 ·show (fs.flatten.map (·.1)).Nodup;rw[h0];exact qlh hp hd
 ·rcases h3 e he with h|h
  ·exact .inl h
  ·exact .inr (hp.mem_iff.1 h)
end
theorem qwx{α:Type}:∀{vs l l':List α},qif vs l=some l'->vs.length<=l.length/\l'=vs++l.drop vs.length
 |[],l,l',h=>by simp only[qif,sj]at h;subst h;simp
 |v::vs,l,l',h=>by
  unfold qif at h;cases l with
  |nil=>simp at h
  |cons x r=>obtain⟨r',hr,hl⟩:=obs h;simp only[sj]at hl;subst hl;obtain⟨h1,h2⟩:=qwx hr;subst h2;simp[h1]
theorem qr8{α:Type} {vs:List α}:∀{o:Nat} {l l':List α},qho vs o l=some l'->o+vs.length<=l.length/\l'=l.take o++vs++l.drop (o+vs.length)
 |0,l,l',h=>by have:=qwx (show qif vs l=some l' by cases l<;>simpa[qho]using h);simpa using this
 |o+1,l,l',h=>by
  unfold qho at h;cases l with
  |nil=>simp at h
  |cons x r=>obtain⟨r',hr,hl⟩:=obs h;simp only[sj]at hl;subst hl;obtain⟨h1,h2⟩:=qr8 hr;subst h2;refine⟨by simp;omega,?_⟩;have:o+1+vs.length=(o+vs.length)+1:=(by omega);simp[this]
theorem qns{α:Type}:∀{n:Nat} {l r:List α},qef n l=some r->n<=l.length/\r=l.take n
 |0,l,r,h=>by cases l<;>simp_all [qef]
 |n+1,l,r,h=>by
  cases l with
  |nil=>simp[qef]at h
  |cons x l=>obtain⟨r',hr,hl⟩:=obs (show (qef n l).bind (fun r'=>some (x::r'))=some r from h);simp only[sj]at hl;subst hl;obtain⟨h1,h2⟩:=qns hr;subst h2;simp[h1]
theorem qmj{α:Type} {o n:Nat} {l r:List α} (h:qek o n l=some r):(n=0\/o+n<=l.length)/\r=(l.drop o).take n:=by obtain⟨h1,h2⟩:=qns h;simp at h1;exact⟨by omega,h2⟩
theorem qfb{α:Type}:∀{l:List α} {i:Nat} {x:α},qcy l i=some x->∃h:i < l.length,l[i]=x
 |[],i,x,h=>by simp[qcy]at h
 |y::r,0,x,h=>by simp only[qcy,sj]at h;exact⟨by simp,h⟩
 |y::r,i+1,x,h=>by obtain⟨h1,h2⟩:=qfb (show qcy r i=some x from h);exact⟨by simpa using h1,h2⟩
theorem qgz(b:Nat):∀(vs:List Value) (o:Nat) (w:World),(w.setCells b o vs).heap.size=w.heap.size
 |[],_,_=>rfl
 |v::r,o,w=>by simp only[World.setCells];rw[qgz b r];simp
theorem qh0(b:Nat):∀(vs:List Value) (o:Nat) (w:World) (j:Nat),j≠b->(w.setCells b o vs).heap[j]? = w.heap[j]?
 |[],_,_,_,_=>rfl
 |v::r,o,w,j,h=>by simp only[World.setCells];rw[qh0 b r _ _ j h];exact Below.heap_setCell _ _ _ _ h
theorem qd6(b:Nat):∀(vs:List Value) (o:Nat) (w:World),(w.setCells b o vs).os=w.os/\(w.setCells b o vs).tape=w.tape/\(w.setCells b o vs).output=w.output
 |[],_,_=>⟨rfl,rfl,rfl⟩
 |v::r,o,w=>by simp only[World.setCells];exact qd6 b r _ _
theorem qju(b:Nat):∀(vs:List Value) (o:Nat) (w:World) {c:Array Value} {t:TypeId} {fr:Nat × Nat},w.heap[b]? = some (.cells c t fr) ->
  ∃c',(w.setCells b o vs).heap[b]? = some (.cells c' t fr)/\c'.size=c.size
 |[],_,_,c,_,_,h=>⟨c,h,rfl⟩
 |v::r,o,w,c,t,fr,h=>by
  simp only[World.setCells];have h1:(w.setCell ⟨b,o,none⟩ v).heap[b]? = some (.cells (c.setIfInBounds o v) t fr):=by simp only[World.setCell,Array.getElem?_modify,h];simp
  obtain⟨c',h2,h3⟩:=qju b r (o+1) _ h1;exact⟨c',h2,by rw[h3];simp⟩
section
variable {P:Program}
theorem qnn:∀{vs:List AV},allSingle vs=true->∀v,v∈vs->v.single=true
 |[],_,v,h=>by cases h
 |x::r,h,v,hm=>by
  unfold allSingle at h;split at h
  ·rename_i hx;rcases ja.1 hm with rfl|hm
   ·exact hx
   ·exact qnn h v hm
  ·cases h
theorem VRs.oneCell{ρ:Place} {vs:List AV} {xs:List Value} (r:VRs ρ vs xs) (h:allSingle vs=true):∀x,x∈xs->x.oneCell'=true:=by
 intro x hx;obtain⟨i,hi,rfl⟩:=List.mem_iff_getElem.1 hx;have hi':i < vs.length:=by rw[<- r.1];exact hi
 exact(r.2 i hi' hi).oneCell (qnn h _ (jy hi'))
theorem Sim.block{ρ:Place} {H:Heap} {w:World} (s:Sim ρ H w) {b:Nat} {k:Blk} (h:H.get b=some k):∃l,ρ b=some l/\¬ ρ.B l.cb/\l.cb < w.heap.size/\BlkR ρ w l k:=
 s.live (b,k) (Heap.get_mem h)
theorem qmh{ρ:Place} {H H':Heap} {w:World} (s:Sim ρ H w) {b o:Nat} {vs:List AV} {xs:List Value} {l:Loc}
  (h:writeCells H b o vs=some H') (hl:ρ b=some l) (hv:VRs ρ vs xs) (h1:∀x,x∈xs->x.oneCell'=true) :
  (storeCells ⟨l.cb,l.off+o,none⟩ xs).run P w=.ok () (w.setCells l.cb (l.off+o) xs) /\
  Sim ρ H' (w.setCells l.cb (l.off+o) xs)/\Step ρ H w ρ H' (w.setCells l.cb (l.off+o) xs):=by
 obtain⟨k,hk,h⟩:=obs h;obtain⟨cs,hwt,h⟩:=obs h
 ·obtain⟨cs',hlay,hset⟩:=obs h;obtain⟨l',hl',hB,hlt,hr0⟩:=s.block hk;rw[hl]at hl';cases hl';obtain⟨hrd,hfz⟩:=hr0.wtR hwt;have hr:=hr0.rdR hrd;obtain⟨hlen,rfl⟩:=qr8 hlay;obtain⟨hn,hd,hk',⟨k0,hk0⟩,hs⟩:=qmn hset s.nodup;have hxl:xs.length=vs.length:=hv.1;have hcell:∀j,j < xs.length->(w.cell? ⟨l.cb,l.off+o+j,none⟩).isSome=true:=fun j hj=>hr.2.1 _ (by have:=hr.1;omega);have hin:=World.cell?_setCells_in l.cb xs (l.off+o) w hcell;have hout:=World.cell?_setCells_out l.cb xs (l.off+o) w;have hrun:=run_storeCells_cells (P:=P) l.cb (l.off+o) xs 0 w (by simpa using hcell) (fun j hj=>hfz _ (by have:=hr.1;omega) (by omega)) h1;simp only[y4]at hrun;refine⟨hrun,s.turned hk0 hl hn hd hk' hs (qgz _ _ _ _) (fun j hj=>qh0 _ _ _ _ j hj) (qd6 _ _ _ _).1 (qd6 _ _ _ _).2.1 (qd6 _ _ _ _).2.2 ?_⟩;refine hr0.reR hwt (by simp;omega) (fun i hi=>?_) (fun i=>World.frozen?_setCells _ _ _ _ _) (fun c t fr he=>qju _ _ _ _ he) fun i hi=>?_
  ·by_cases hi2:l.off+o<=i/\i < l.off+o+xs.length
   ·have:=hin (i - (l.off+o)) (by omega);rw[show l.off+o+(i - (l.off+o))=i by omega]at this;rw[this];rfl
   ·rw[hout ⟨l.cb,i,none⟩ (fun _ _=>by show i < _\/_<=i;omega)];exact hr.2.1 i hi
  ·by_cases hi2:o<=i/\i < o+vs.length
   ·have hin':=hin (i - o) (by omega);rw[show l.off+o+(i - o)=l.off+i by omega]at hin';refine⟨_,hin',?_⟩;have he:(List.take o cs++vs++List.drop (o+vs.length) cs)[i]=vs[i - o]'(by omega):=(by rw[j6 (by simp;omega),jv (by simp;omega)];congr 1;simp;omega);rw[he];exact hv.2 _ _ _
   ·have hlc:i < cs.length:=(by simp at hi;omega);obtain⟨x,hx,hxv⟩:=hr.2.2 i hlc;refine⟨x,by rw[hout ⟨l.cb,l.off+i,none⟩ (fun _ _=>by show l.off+i < _\/_<=l.off+i;omega)];exact hx,?_⟩;have he:(List.take o cs++vs++List.drop (o+vs.length) cs)[i]=cs[i]:=by
     by_cases h3:i < o
     ·rw[j6 (by simp;omega),j6 (by simp;omega)];simp
     ·rw[jv (by simp;omega)];simp only[jo,yh,yc];congr 1;omega
    rw[he];exact hxv
theorem qgf{ρ:Place} {H:Heap} {w:World} (s:Sim ρ H w) {b o n:Nat} {r:List AV} {l:Loc} (h:readCells H b o n=some r) (hl:ρ b=some l) :
  ∃xs:List Value,VRs ρ r xs/\r.length=n/\∀j v,xs[j]? = some v->w.cell? ⟨l.cb,l.off+o+j,none⟩=some v:=by
 obtain⟨k,hk,h⟩:=obs h;obtain⟨cs,hrd,h⟩:=obs h
 ·obtain⟨l',hl',hB,hlt,hr0⟩:=s.block hk;rw[hl]at hl';cases hl';have hr:=hr0.rdR hrd;obtain⟨hn,rfl⟩:=qmj h;have hch:∀i (hi:i < cs.length),w.cell? ⟨l.cb,l.off+i,none⟩=some ((w.cell? ⟨l.cb,l.off+i,none⟩).getD undef)/\VR ρ cs[i] ((w.cell? ⟨l.cb,l.off+i,none⟩).getD undef):=fun i hi=>by obtain⟨x,hx,hv⟩:=hr.2.2 i hi;rw[hx];exact⟨rfl,hv⟩
  refine⟨(List.range n).map fun j=>(w.cell? ⟨l.cb,l.off+o+j,none⟩).getD undef,⟨by simp;omega,fun i hi hi'=>?_⟩,by simp;omega,fun j v hj=>?_⟩
  ·have hi2:o+i < cs.length:=(by simp at hi;omega);simp only[jT,y5,jY,yc];have:=(hch (o+i) hi2).2
   rwa [<- Nat.add_assoc]at this
  ·simp only[List.getElem?_map,Option.map_eq_some_iff]at hj;obtain⟨a,ha,rfl⟩:=hj;obtain⟨hlt',rfl⟩:=List.getElem?_eq_some_iff.1 ha;simp only[y5];simp at hlt';have:=(hch (o+j) (by omega)).1
   rwa [<- Nat.add_assoc]at this
end
theorem qaw{a b:Nat} (h:a≠b):Nat.beq a b=false:=by
 cases hb:Nat.beq a b
 ·rfl
 ·exact absurd (Nat.eq_of_beq_eq_true hb) h
section
variable {P:Program} {ρ:Place}
theorem VR.const1(v:Value):VR ρ (ofV1 v) v:=by unfold ofV1;split<;>first|exact .undef _|(rename_i s;exact .str s.data.toList)|constructor
theorem VR.const(v:Value):VR ρ (ofV v) v:=by
 unfold ofV;split
 next cs=>exact .agg _ _ (by simp) fun i h h'=>by simpa using VR.const1 _
 ·exact VR.const1 _
theorem VRs.const(v:Value):VRs ρ (ofV v).cells v.cells.toList:=by
 unfold ofV;split
 next cs=>exact⟨by simp[AV.cells,Value.cells],fun i h h'=>by simpa[AV.cells,Value.cells]using VR.const1 _⟩
 ·rename_i hx;have hc:v.cells = #[v]:=by cases v<;>first|rfl|exact absurd rfl (hx _)
  have hc':(ofV1 v).cells=[ofV1 v]:=by unfold ofV1;split<;>rfl
  rw[hc,hc'];exact .cons (VR.const1 v) .nil
theorem qfh{t:TypeId} {z:AV} (h:qc1 P t=some z):∃v,z=ofV v/\(∀w,(zeroValue t).run P w=.ok v w)/\∃i,P.info? t=some i/\i.zero=some v:=by obtain⟨i,hi,h⟩:=obs h;obtain⟨v,hv,h⟩:=obs h;simp only[sj]at h;exact⟨v,h.symm,fun w=>by simp[zeroValue,typeInfo,hi,hv],i,hi,hv⟩
theorem qic{t:TypeId} {n:Nat} (h:qcg P t=some n):∃i,P.info? t=some i/\i.size=n:=by obtain⟨i,hi,h⟩:=obs h;simp only[sj]at h;exact⟨i,hi,h⟩
theorem qcz{t:TypeId} {n:Nat} (h:qcg P t=some n) (w:World):(sizeOf t).run P w=.ok n w:=by obtain⟨i,hi,rfl⟩:=qic h;simp[sizeOf,typeInfo,hi]
theorem qol{t:TypeId} {n:Nat} (h:qco P t=some n):∃i,(∀w,(typeInfo t).run P w=.ok i w)/\i.bytes=n:=by obtain⟨i,hi,h⟩:=obs h;simp only[sj]at h;exact⟨i,fun w=>by simp[typeInfo,hi],h⟩
theorem qvf{t:TypeId} {b:Bool} (h:qi8 P t=some b) (w:World):(isAgg t).run P w=.ok b w:=by obtain⟨d,hd,h⟩:=obs h;simp only[isAgg,jH,run_underlying hd,j7];cases d<;>simp at h<;>subst h<;>rfl
structure EnvR (ρ:Place) (s:St) (a:Act):Prop where
 size:s.sz=a.tmps.size
 val:∀t v,s.get t=some v->VR ρ v (a.tmps.getD t undef)
theorem EnvR.mono{ρ':Place} (h:ρ.le ρ') {s:St} {a:Act} (e:EnvR ρ s a):EnvR ρ' s a:=⟨e.size,fun t v g=>(e.val t v g).mono h⟩
theorem EnvR.heap{s:St} {a:Act} (e:EnvR ρ s a) (H:Heap):EnvR ρ { s with H:=H } a:=⟨e.size,e.val⟩
theorem zaw{t:Nat} {v:AV}:∀{ks:List Nat} {vs vs':List AV},zax t v ks vs=some vs'->∀u,qgw u ks vs'=if u=t then some v else qgw u ks vs
 |[],_,_,h,_=>by simp[qwc,putK_n]at h
 |k::ks,vs,vs',h,u=>by
  rw[qwc]at h;cases vs with
  |nil=>simp at h
  |cons x r=>
   simp only at h;split at h
   ·rename_i hk;have hk':=Nat.eq_of_beq_eq_true hk;simp only[sj]at h;subst h;rw[qe8,qe8];by_cases hu:u=t
    ·subst hu;simp[hk]
    ·have:Nat.beq k u=false:=qaw (by rw[hk'];exact fun e=>hu e.symm);simp[this,hu]
   ·rename_i hk;obtain⟨r',hr,hv⟩:=obs h;simp only[sj]at hv;subst hv;have ih:=zaw hr u;rw[qe8,qe8];by_cases hu:u=t
    ·subst hu;simp only[hk];rw[ih];simp
    ·cases hku:Nat.beq k u with
     |true=>simp[hu]
     |false=>simp only;rw[ih]
theorem qwb{t:Nat} {v:AV}:∀{ks:List Nat} {vs:List AV},zax t v ks vs=none->qgw t ks vs=none
 |[],_,_=>by simp[qe8,qk2]
 |k::ks,vs,h=>by
  rw[qwc]at h;rw[qe8];cases vs with
  |nil=>rfl
  |cons x r=>
   simp only at h;split at h
   ·simp at h
   ·rename_i hk;simp only;refine qwb (v:=v) ?_;cases hp:zax t v ks r with
    |none=>rfl
    |some r'=>rw[hp]at h;simp at h
theorem St.set_get{s s':St} {t:Nat} {v:AV} (h:s.set t v=some s'):t < s.sz/\s'.sz=s.sz/\s'.H=s.H/\s'.ks=s.ks/\∀u,s'.get u=if u=t then some v else s.get u:=by
 obtain⟨ks,vs0,ts,sz,H⟩:=s;simp only[St.set]at h;split at h
 ·rename_i hlt;have hlt':t < sz:=jB hlt;split at h
  ·rename_i vs hp;simp only[sj]at h;subst h;refine⟨hlt',rfl,rfl,rfl,fun u=>?_⟩;simp only[St.get];rw[zaw hp u];by_cases hu:u=t
   ·simp[hu]
   ·simp[hu]
  ·rename_i hp;simp only[sj]at h;subst h;refine⟨hlt',rfl,rfl,rfl,fun u=>?_⟩;simp only[St.get];by_cases hu:u=t
   ·subst hu;rw[qwb hp];simp[qfo,qov]
   ·have:Nat.beq t u=false:=qaw fun e=>hu e.symm;simp[hu,qfo,this]
 ·simp at h
theorem EnvR.set{s s':St} {a:Act} {t:Nat} {v:AV} {x:Value} (e:EnvR ρ s a) (h:s.set t v=some s') (hv:VR ρ v x):EnvR ρ s' { a with tmps:=a.tmps.setIfInBounds t x }:=by
 obtain⟨h1,h2,_,_,h5⟩:=St.set_get h;refine⟨by simp[h2,e.size],fun u y hu=>?_⟩;rw[h5]at hu;simp only[jE,Array.getElem?_setIfInBounds];by_cases hut:u=t
 ·subst hut;simp only[if_true,sj]at hu;subst hu;have:u < a.tmps.size:=by rw[<- e.size];exact h1
  simp[this,hv]
 ·simp only[hut,if_false]at hu;have:=e.val u y hu;rw[if_neg (fun e=>hut e.symm)];simpa[jE]using this
theorem EnvR.put{s s':St} {a:Act} {d:Option Tmp} {v:AV} {x:Value} (e:EnvR ρ s a) (h:s.put d v=some s') (hv:VR ρ v x):EnvR ρ s' (a.put d x):=by
 cases d with
 |none=>simp only[St.put,sj]at h;subst h;exact e
 |some t=>exact e.set h hv
theorem St.put_heap{s s':St} {d:Option Tmp} {v:AV} (h:s.put d v=some s'):s'.H=s.H:=by
 cases d with
 |none=>simp only[St.put,sj]at h;subst h;rfl
 |some t=>exact(St.set_get h).2.2.1
theorem zg5{g:Nat} {cs:List AV}:∀{l:List (Nat × List Int)},pinC g l=some cs->∃x,x∈l/\x.1=g/\cs=x.2.map (.int .u8)
 |[],h=>by simp[pinC]at h
 |x::r,h=>by
  unfold pinC at h;split at h
  next hb=>simp only[sj]at h;exact⟨x,jA,Nat.eq_of_beq_eq_true hb,h.symm⟩
  ·obtain⟨y,h1,h2⟩:=zg5 h;exact⟨y,jp _ h1,h2⟩
theorem qbg{s:St} {a:Act} (e:EnvR ρ s a) {x:Operand} {v:AV} (h:qc0 s x=some v):VR ρ v (a.eval x):=by
 cases x with
 |tmp t=>exact e.val t v h
 |const c=>simp only[qc0,sj]at h;subst h;exact VR.const c
 |global g=>
  simp only[qc0]at h;obtain⟨cs,hcs,h⟩:=obs h;simp only[sj]at h;subst h;obtain⟨y,hy,rfl,rfl⟩:=zg5 hcs;obtain⟨hB,hc⟩:=ρ.gp y hy;have:=VR.fptr (ρ:=ρ) (y.2.map (.int .u8)) 0 y.1 0 (fun i=>.int .u8 (y.2.getD i 0)) hB
   (fun i hi=>by rw[jJ]at hi;rw[jO];exact hc i _ (by simp[List.getD_eq_getElem?_getD,List.getElem?_eq_getElem hi]))
   (fun i hi=>by rw[jJ]at hi;simp only[jT,List.getD_eq_getElem?_getD,List.getElem?_eq_getElem hi,Option.getD_some];exact .int _ _)
  exact this
 |func f=>simp only[qc0,sj]at h;subst h;exact .func _ _ _ _ _ rfl rfl (fun i h=>absurd h (jk i)) (fun i h=>absurd h (jk i))
theorem qwk{s:St} {a:Act} (e:EnvR ρ s a):∀{xs:List Operand} {vs:List AV},qg5 s xs=some vs->VRs ρ vs (xs.map a.eval)
 |[],vs,h=>by simp only[qg5,sj]at h;subst h;exact .nil
 |x::r,vs,h=>by obtain⟨v,hv,h⟩:=obs h;obtain⟨us,hu,h⟩:=obs h;simp only[sj]at h;subst h;exact .cons (qbg e hv) (qwk e hu)
theorem qqu{s:St} {a:Act} (e:EnvR ρ s a):∀{xs:List (Nat × Operand)} {vs:List (Nat × AV)},qi6 s xs=some vs ->
  vs.map (·.1)=xs.map (·.1)/\VRs ρ (vs.map (·.2)) (xs.map fun p=>a.eval p.2)
 |[],vs,h=>by simp only[qi6,sj]at h;subst h;exact⟨rfl,.nil⟩
 |x::r,vs,h=>by obtain⟨v,hv,h⟩:=obs h;obtain⟨us,hu,h⟩:=obs h;simp only[sj]at h;subst h;obtain⟨h1,h2⟩:=qqu e hu;exact⟨by simp[h1],.cons (qbg e hv) h2⟩
def Good(ρ:Place) (H:Heap) (w:World) (r:Result Value) (v:AV) (H':Heap):Prop:=
 ∃x ρ' w',r=.ok x w'/\VR ρ' v x/\Sim ρ' H' w'/\Step ρ H w ρ' H' w'
theorem Good.pure{H:Heap} {w:World} {v:AV} {x:Value} {r:Result Value} (s:Sim ρ H w) (hv:VR ρ v x) (hr:r=.ok x w):Good ρ H w r v H:=
 ⟨x,ρ,w,hr,hv,s,.refl _ _ _⟩
theorem qv9{w:World} {cs:List AV} {c:Array Value} {t:TypeId} {fr:Nat × Nat} {n:Nat} (hn:cs.length<=c.size) (hv:∀i (h:i < cs.length) (h':i < c.size),VR (ρ.upd n ⟨w.heap.size,0,c.size⟩) cs[i] c[i])
  (hf:∀i,i < c.size->(decide (fr.1<=i) && decide (i < fr.2))=false) :
  BlkR (ρ.upd n ⟨w.heap.size,0,c.size⟩) (w.alloc (.cells c t fr)) ⟨w.heap.size,0,c.size⟩ (.cells cs):=by
 have hh:(w.alloc (.cells c t fr)).heap[w.heap.size]? = some (.cells c t fr):=by show (w.heap.push _)[w.heap.size]? = _;simp
 refine⟨by simpa using hn,fun i hi=>⟨?_,?_⟩,fun i hi=>⟨c[i]'(by omega),?_,hv i hi (by omega)⟩⟩
 ·have:i < c.size:=hi;simp only[World.cell?,hh];simp[this]
 ·simp only[World.frozen?,hh];exact hf i hi
 ·have:i < c.size:=by omega
  simp only[World.cell?,hh];simp[this]
end
theorem qfy(b o n:Nat):(⟨b,o,none⟩ : Addr).add n=⟨b,o+n,none⟩:=by unfold Addr.add;split<;>simp_all
section
variable {P:Program} {ρ:Place} {H H':Heap} {w:World}
theorem Sim.cellW(s:Sim ρ H w) {a:Addr} (h:ρ.B a.block):w.cell? a=ρ.W.cell? a:=by simp only[World.cell?,s.below _ h]
theorem qqi(s:Sim ρ H w) {t:TypeId} {p v:AV} {x:Value} (h:qb3 P H t p=some v) (hp:VR ρ p x) :
  ∃y,(Instr.loadAt t x).run P w=.ok y w/\VR ρ v y:=by
 replace h:=obs h;obtain⟨ag,hag,h⟩:=h;replace h:=obs h;obtain⟨n,hn,h⟩:=h;have hAg:=qvf hag w;have hN:=qcz hn w;cases ag with
 |true=>
  cases hp with
  |ptr b o l hl=>replace h:=obs h;obtain⟨cs,hcs,h⟩:=h;simp only[sj]at h;subst h;obtain⟨xs,hv,hlen,hc⟩:=qgf s hcs hl;have hrun:=run_loadCells_list (P:=P) w ⟨l.cb,l.off+o,none⟩ xs (fun j y hj=>by rw[qfy];exact hc j y hj);rw[hv.1,hlen]at hrun;refine⟨.agg xs.toArray,?_,.agg _ _ (by simp[hv.1]) fun i h1 h2=>by simpa using hv.2 i h1 (by simpa using h2)⟩;simp[Instr.loadAt,Instr.sureAddr,loadVar,hAg,hN,hrun]
  |fptr cs o cb off vs hB hc hv=>replace h:=obs h;obtain⟨r,hr,h⟩:=h;simp only[sj]at h;subst h;obtain⟨hlen,rfl⟩:=qmj hr;have hrun:=run_loadCells (P:=P) w ⟨cb,off+o,none⟩ n (fun j=>vs (o+j)) (fun j hj=>by rw[qfy,s.cellW (a:=⟨cb,_,none⟩) hB,Nat.add_assoc];exact hc (o+j) (by omega));refine⟨_,by simp only[Instr.loadAt,Instr.sureAddr,loadVar,jH,yq,j7,hAg,hN,hrun,if_true];rfl,.agg _ _ (by simp;omega) fun i h1 h2=>?_⟩;simp only[List.getElem_toArray,jT,y5,jY,yc];exact(hv _ (by simp at h1;omega)).mono ρ.bare_le
  |_=>simp at h
 |false=>
  cases hp with
  |ptr b o l hl=>
   replace h:=obs h;obtain⟨k,hk,h⟩:=h;replace h:=obs h;obtain⟨cs,hrd,h⟩:=h
   ·obtain⟨l',hl',_,_,hr0⟩:=s.block hk;rw[hl]at hl';cases hl';have hr:=hr0.rdR hrd;obtain⟨hi,rfl⟩:=qfb h;obtain⟨y,hy,hyv⟩:=hr.2.2 o hi;exact⟨y,by simp[Instr.loadAt,Instr.sureAddr,loadVar,hAg,load,Sem.run,hy],hyv⟩
  |fptr cs o cb off vs hB hc hv=>obtain⟨hi,rfl⟩:=qfb h;refine⟨vs o,?_,(hv o hi).mono ρ.bare_le⟩;have:=hc o hi;rw[<- s.cellW (a:=⟨cb,off+o,none⟩) hB]at this;simp[Instr.loadAt,Instr.sureAddr,loadVar,hAg,load,Sem.run,this]
  |_=>simp at h
theorem qvk(s:Sim ρ H w) {t:TypeId} {p v:AV} {x y:Value} (h:writeVar P H t p v=some H') (hp:VR ρ p x) (hv:VR ρ v y) :
  ∃w',(Instr.storeAt t x y).run P w=.ok () w'/\Sim ρ H' w'/\Step ρ H w ρ H' w':=by
 replace h:=obs h;obtain⟨n,hn,h⟩:=h;split at h
 ·rename_i hlen;have hlen:=Nat.eq_of_beq_eq_true hlen;split at h
  ·rename_i hsing;have hcells:VRs ρ v.cells y.cells.toList:=hv.cells (by rintro rfl;simp[AV.cells,allSingle,AV.single]at hsing) (by rintro l rfl;simp[AV.cells,allSingle,AV.single]at hsing);cases hp with
   |ptr b o l hl=>obtain⟨h1,h2,h3⟩:=qmh (P:=P) s h hl hcells (hcells.oneCell hsing);refine⟨_,?_,h2,h3⟩;have hsz:y.cells.size=n:=(by have:=hcells.1;simp at this;omega);simp[Instr.storeAt,Instr.sureAddr,storeVar,qcz hn,hsz,h1]
   |_=>simp at h
  ·simp at h
 ·simp at h
theorem qpu{place:Nat->Option (Nat × Nat)} {place':Nat->Option (Nat × Nat)} (hpl:∀i p,place i=some p->place' i=some p) :
  ∀{parts:List (Nat × AV)} {vals:List (Nat × Value)} {cs cs':List AV} {c:Array Value},fillA place parts cs=some cs'->vals.map (·.1)=parts.map (·.1) ->
   VRs ρ (parts.map (·.2)) (vals.map (·.2))->VRs ρ cs c.toList->∃c',Instr.fill place' c vals=some c'/\VRs ρ cs' c'.toList
 |[],vals,cs,cs',c,h,hi,_,hc=>by
  simp only[fillA,sj]at h;subst h;cases vals with
  |nil=>exact⟨c,rfl,hc⟩
  |cons _ _=>simp at hi
 |x::r,vals,cs,cs',c,h,hi,hv,hc=>by
  cases vals with
  |nil=>simp at hi
  |cons y ys=>
   simp only[jj,j4]at hi;replace h:=obs h;obtain⟨p,hp,h⟩:=h;split at h
   ·rename_i hlen;have hlen:=Nat.eq_of_beq_eq_true hlen;split at h
    ·rename_i hsing;replace h:=obs h;obtain⟨cs1,hlay,h⟩:=h;have hyc:VRs ρ x.2.cells y.2.cells.toList:=hv.head.cells (by rintro e;simp[e,AV.cells,allSingle,AV.single]at hsing) (by rintro l e;simp[e,AV.cells,allSingle,AV.single]at hsing);obtain⟨h1,rfl⟩:=qr8 hlay;have hsz:y.2.cells.size=p.2:=(by have:=hyc.1;simp at this;omega);have hcl:c.size=cs.length:=(by simpa using hc.1);have hfold:∀(ys:List Value) (k:Nat) (c:Array Value),p.1+k+ys.length<=c.size ->
       ((ys.zipIdx k).foldl (fun cs (q:Value × Nat)=>cs.setIfInBounds (p.1+q.2) q.1) c).toList=c.toList.take (p.1+k)++ys++c.toList.drop (p.1+k+ys.length):=by
      intro ys;induction ys with
      |nil=>intro k c _;simp
      |cons z zs ih=>
       intro k c hk;simp only[List.zipIdx_cons,yB];simp only[jx]at hk;rw[ih (k+1) _ (by simp;omega)];have hlt:p.1+k < c.toList.length:=(by simp;omega);apply List.ext_getElem?;intro i;simp only[Array.toList_setIfInBounds,List.getElem?_append,jo,yh,List.length_set,jx,List.getElem?_take,List.getElem?_drop,List.getElem?_set];have hcl:c.toList.length=c.size:=(by simp);rw[hcl]at hlt ⊢;rw[Nat.min_eq_left (by omega),Nat.min_eq_left (by omega)];by_cases h1:i < p.1+k
       ·simp[h1,show i < p.1+(k+1) by omega,show i < p.1+(k+1)+zs.length by omega,show i < p.1+k+(zs.length+1) by omega,show p.1+k≠i by omega]
       ·by_cases h2:i=p.1+k
        ·subst h2;simp[show p.1+k < p.1+(k+1) by omega,show p.1+k < p.1+(k+1)+zs.length by omega,hlt]
        ·by_cases h3:i < p.1+(k+1)+zs.length
         ·simp[h1,h3,show ¬ i < p.1+(k+1) by omega,show i < p.1+k+(zs.length+1) by omega];rw[show i - (p.1+k)=(i - (p.1+(k+1)))+1 by omega];simp
         ·simp[h3,show ¬ i < p.1+k+(zs.length+1) by omega,show p.1+k≠p.1+(k+1)+zs.length+(i - (p.1+(k+1)+zs.length)) by omega];congr 1;omega
     have hfin:=hfold y.2.cells.toList 0 c (by simp;omega);simp only[y4,Array.length_toList]at hfin;generalize hc1:((y.2.cells.toList.zipIdx 0).foldl (fun cs (q:Value × Nat)=>cs.setIfInBounds (p.1+q.2) q.1) c)=c1 at hfin;obtain⟨c',hc',hv'⟩:=qpu hpl (c:=c1) (vals:=ys) h hi.2 hv.tail (by rw[hfin];have htake:VRs ρ (cs.take p.1) (c.toList.take p.1):=⟨by simp;omega,fun i h1 h2=>by simp only[jY];exact hc.2 i (by simp at h1;omega) (by simp at h2;simp;omega)⟩;have hdrop:VRs ρ (cs.drop (p.1+x.2.cells.length)) (c.toList.drop (p.1+y.2.cells.size)):=(by have:y.2.cells.size=x.2.cells.length:=(by omega);rw[this];exact⟨by simp;omega,fun i h1 h2=>by simp only[yc];exact hc.2 (p.1+x.2.cells.length+i) (by simp at h1;omega) (by simp at h2;simp;omega)⟩);exact(htake.append hyc).append hdrop);refine⟨c',?_,hv'⟩;simp only[Instr.fill,hi.1,hpl _ _ hp];rw[if_neg (by simp[hsz];omega),<- hc'];congr 1;rw[<- hc1];rw[<- Array.foldl_toList,Array.toList_zipIdx]
    ·simp at h
   ·simp at h
theorem qp3:∀{fs:List Field} {tbl:List (Nat × Nat)},qpv P fs=some tbl->fs.mapM (fun f=>(P.info? f.type).map fun i=>(f.offset,i.size))=some tbl
 |[],tbl,h=>by simp only[qpv,sj]at h;subst h;rfl
 |f::r,tbl,h=>by obtain⟨n,hn,h⟩:=obs h;obtain⟨t,ht,h⟩:=obs h;simp only[sj]at h;subst h;obtain⟨i,hi,rfl⟩:=qic hn;simp[List.mapM_cons,hi,qp3 ht]
theorem qrg{α:Type} {l:List α} {i:Nat} {x:α} (h:qcy l i=some x):l[i]? = some x:=by obtain⟨h1,h2⟩:=qfb h;rw[List.getElem?_eq_getElem h1,h2]
theorem zjd{t:TypeId} {parts:List (Nat × AV)} {vals:List (Nat × Value)} {v:AV} (h:qgq P t parts=some v) (hi:vals.map (·.1)=parts.map (·.1))
  (hv:VRs ρ (parts.map (·.2)) (vals.map (·.2))) (w:World):∃y,(Instr.build t vals.toArray).run P w=.ok y w/\VR ρ v y:=by
 replace h:=obs h;obtain⟨z,hz,h⟩:=h;replace h:=obs h;obtain⟨d,hd,h⟩:=h;obtain⟨zv,rfl,hzr,it,hit,hiz⟩:=qfh hz;have fin:∀{cs:List AV} {c':Array Value},P.built t vals=some c'->VRs ρ cs c'.toList->∃y,(Instr.build t vals.toArray).run P w=.ok y w/\VR ρ (.agg cs) y:=fun {cs c'} hb hr=>
  ⟨_,run_build w t vals.toArray c' (by simpa using hb),.agg _ _ (by simpa using hr.1) fun i h1 h2=>hr.2 i h1 (by simpa using h2)⟩
 cases d with
 |struct fs=>replace h:=obs h;obtain⟨tbl,ht,h⟩:=h;replace h:=obs h;obtain⟨cs,hcs,h⟩:=h;simp only[sj]at h;subst h;obtain⟨c',hc',hr⟩:=qpu (place':=fun i=>tbl[i]?) (fun i p hp=>qrg hp) (vals:=vals) (c:=zv.cells) hcs hi hv (VRs.const zv);exact fin (by simp only[Program.built,hit,hd,hiz,qp3 ht];simpa using hc') hr
 |array n e=>replace h:=obs h;obtain⟨m,hm,h⟩:=h;replace h:=obs h;obtain⟨cs,hcs,h⟩:=h;simp only[sj]at h;subst h;obtain⟨ie,hie,rfl⟩:=qic hm;obtain⟨c',hc',hr⟩:=qpu (place':=fun i=>some (i * ie.size,ie.size)) (fun i p hp=>hp) (vals:=vals) (c:=zv.cells) hcs hi hv (VRs.const zv);exact fin (by simp only[Program.built,hit,hd,hiz,hie];exact hc') hr
 |_=>simp at h
theorem qhx{α:Type} (z:List α):∀n,(replL z n).length=n * z.length
 |0=>by simp[replL]
 |n+1=>by simp[replL,qhx z n,Nat.succ_mul,Nat.add_comm]
theorem qw4{α:Type} (z:List α):∀(n i:Nat) (h:i < (replL z n).length) (h':i % z.length < z.length),(replL z n)[i]=z[i % z.length]
 |0,i,h,_=>by simp[replL]at h
 |n+1,i,h,h'=>by
  simp only[replL];by_cases hi:i < z.length
  ·rw[j6 hi];congr 1;exact(Nat.mod_eq_of_lt hi).symm
  ·rw[jv (by omega),qw4 z n (i - z.length) (by simp[replL]at h;omega) (by rw[<- Nat.mod_eq_sub_mod (by omega)];exact h')];congr 1;exact(Nat.mod_eq_sub_mod (by omega)).symm
theorem qmg{zv:Value} {n sz:Nat} (hz:(ofV zv).cells.length=sz) (hsz:zv.cells.size=sz) :
  VRs ρ (replL (ofV zv).cells n) ((Array.range (n * sz)).map fun i=>zv.cells[i % zv.cells.size]!).toList:=by
 have hc:=VRs.const (ρ:=ρ) zv;refine⟨by simp[qhx,hz],fun i h1 h2=>?_⟩;have h3:i < n * sz:=by rw[qhx,hz]at h1;exact h1
 have h0:0 < sz:=by
  rcases yC sz with h|h
  ·subst h;simp at h3
  ·exact h
 have hlt:i % zv.cells.size < zv.cells.size:=Nat.mod_lt _ (by omega);rw[qw4 _ _ _ h1 (by rw[hz];exact Nat.mod_lt _ h0)];simp only[Array.toList_map,Array.toList_range,jT,y5];rw[getElem!_pos zv.cells _ hlt];have:=hc.2 (i % sz) (by rw[hz];exact Nat.mod_lt _ h0) (by simp[hsz];exact Nat.mod_lt _ h0);simp only[Array.getElem_toList]at this;simpa[hz,hsz]using this
theorem qsg(s:Sim ρ H w) {t:TypeId} {len:Nat} {parts:List (Nat × AV)} {vals:List (Nat × Value)} {cs:List AV} (h:sliceParts P t len parts=some cs)
  (hi:vals.map (·.1)=parts.map (·.1)) (hv:VRs ρ (parts.map (·.2)) (vals.map (·.2))) :
  ∃c e,P.underlying t=some (.slice e)/\(Instr.buildSlice t len vals.toArray).run P w=.ok (.slice (some ⟨w.heap.size,0,none⟩) len len) (w.alloc (.cells c e))/\VRs ρ cs c.toList:=by
 replace h:=obs h;obtain⟨d,hd,h⟩:=h;cases d with
 |slice elem=>
  replace h:=obs h;obtain⟨sz,hsz,h⟩:=h;split at h
  ·simp at h
  ·rename_i hle;have hle:=jB hle;replace h:=obs h;obtain⟨z,hz,h⟩:=h;obtain⟨zv,rfl,hzr,it,hit,hiz⟩:=qfh hz;split at h
   ·rename_i hzl;have hzl:=Nat.eq_of_beq_eq_true hzl;have hzs:zv.cells.size=sz:=(by have:=(VRs.const (ρ:=ρ) zv).1;simp at this;omega);have hz0:=qmg (ρ:=ρ) (n:=len) hzl hzs;obtain⟨c',hc',hr⟩:=qpu (place':=fun i=>some (i * sz,sz)) (fun i p hp=>hp) (vals:=vals) h hi hv hz0;refine⟨c',elem,hd,?_,hr⟩
    have hn : ¬ len * sz > 2 ^ 24 := by have : (2:Nat) ^ 24 = 16777216 := by decide
                                        omega
    by_cases h0:len * sz=0
    ·have e0:((Array.range (len * sz)).map fun i=>zv.cells[i % zv.cells.size]!)=(Array.range (len * sz)).map fun i=>(#[]:Array Value)[i % (#[]:Array Value).size]!:=(by simp[h0]);rw[e0]at hc';have hc2:Instr.fill (fun i=>some (i * sz,sz)) (Array.map (fun _=>default) (Array.range 0)) vals=some c':=(by simpa[h0]using hc');simp[Instr.buildSlice,run_underlying hd,qcz hsz,h0,hc2,newRow,newObj,Sem.run]
    ·simp[Instr.buildSlice,run_underlying hd,qcz hsz,hn,h0,hzr,hc',newRow,newObj,Sem.run]
   ·simp at h
 |_=>simp at h
section
variable {P:Program} {ρ:Place} {H H':Heap} {w:World}
theorem qdl{i:Int} {n j:Nat} (h:idx i n=some j):i=(j:Int)/\j < n:=by
 unfold idx at h;split at h
 ·split at h
  next hb=>simp only[sj]at h;subst h;exact⟨rfl,jB hb⟩
  ·simp at h
 ·simp at h
theorem quv{t:TypeId} {x v:AV} {i:Nat} {y:Value} (h:qc2 P t x i=some v) (hx:VR ρ x y) (w:World) :
  ∃z,(Instr.fieldAt t y i).run P w=.ok z w/\VR ρ v z:=by
 obtain⟨d,hd,h⟩:=obs h;cases d with
 |struct fs=>
  obtain⟨f,hf,h⟩:=obs h;obtain⟨n,hn,h⟩:=obs h;have hf':fs[i]? = some f:=by have:=qrg hf;simpa using this
  cases n with
  |zero=>simp at h
  |succ n=>
   have hs:=qcz hn w;have key:∀b o,(Instr.fieldAt t (.pointer (some ⟨b,o,none⟩)) i).run P w=.ok (.pointer (some ⟨b,o+f.offset,none⟩)) w:=fun b o=>(by simp[Instr.fieldAt,run_underlying hd,hf',Instr.sureAddr,fieldPlace,hs,qfy]);cases hx with
   |ptr b o l hl=>simp only[sj]at h;subst h;exact⟨_,key _ _,by rw[Nat.add_assoc];exact .ptr _ _ l hl⟩
   |fptr cs o cb off vs hB hc hv=>simp only[sj]at h;subst h;exact⟨_,key _ _,by rw[Nat.add_assoc];exact .fptr cs _ cb off vs hB hc hv⟩
   |_=>simp at h
 |_=>simp at h
theorem qui{t:TypeId} {x i v:AV} {y z:Value} (h:qav P t x i=some v) (hx:VR ρ x y) (hi:VR ρ i z) (w:World) :
  ∃u,(Instr.indexAt t y z).run P w=.ok u w/\VR ρ v u:=by
 cases hi with
 |int k i=>
  replace h:=obs h;obtain⟨d,hd,h⟩:=h;cases d with
  |slice elem=>
   cases hx with
   |slcE b o len c l hl hc=>replace h:=obs h;obtain⟨j,hj,h⟩:=h;replace h:=obs h;obtain⟨n,hn,h⟩:=h;simp only[sj]at h;subst h;obtain⟨rfl,hlt⟩:=qdl hj;exact⟨_,by simp[Instr.indexAt,asIntOf,run_underlying hd,hlt,qcz hn,qfy];rfl,by rw[Nat.add_assoc];exact .ptr _ _ l hl⟩
   |slcR b o len sz c l hl hc hf=>replace h:=obs h;obtain⟨j,hj,h⟩:=h;replace h:=obs h;obtain⟨n,hn,h⟩:=h;simp only[sj]at h;subst h;obtain⟨rfl,hlt⟩:=qdl hj;exact⟨_,by simp[Instr.indexAt,asIntOf,run_underlying hd,hlt,qcz hn,qfy];rfl,by rw[Nat.add_assoc];exact .ptr _ _ l hl⟩
   |fslc sz es cb off cap vs hB hcap hz hc hv=>
    replace h:=obs h;obtain⟨j,hj,h⟩:=h;replace h:=obs h;obtain⟨n,hn,h⟩:=h;split at h
    next hb=>have hb:=Nat.eq_of_beq_eq_true hb;subst hb;replace h:=obs h;obtain⟨e,he,h⟩:=h;simp only[sj]at h;subst h;obtain⟨hlt,rfl⟩:=qfb he;obtain⟨rfl,_⟩:=qdl hj;refine⟨_,by simp[Instr.indexAt,asIntOf,run_underlying hd,hlt,qcz hn,qfy];rfl,?_⟩;have hzj:=hz j hlt;exact .fptr _ 0 cb (off+j * n) (vs j) hB (fun i hi=>hc j hlt i (by omega)) (fun i hi=>hv j hlt i hi)
    ·simp at h
   |fnil sz=>replace h:=obs h;obtain⟨j,hj,h⟩:=h;exact absurd (qdl hj).2 (jk _)
   |fnone sz a c=>replace h:=obs h;obtain⟨j,hj,h⟩:=h;exact absurd (qdl hj).2 (jk _)
   |_=>simp at h
  |array len elem=>
   replace h:=obs h;obtain⟨j,hj,h⟩:=h;replace h:=obs h;obtain⟨n,hn,h⟩:=h;obtain⟨rfl,hlt⟩:=qdl hj;cases hx with
   |ptr b o l hl=>simp only[sj]at h;subst h;exact⟨_,by simp[Instr.indexAt,asIntOf,run_underlying hd,hlt,qcz hn,qfy,Instr.sureAddr];rfl,by rw[Nat.add_assoc];exact .ptr _ _ l hl⟩
   |fptr cs o cb off vs hB hc hv=>simp only[sj]at h;subst h;exact⟨_,by simp[Instr.indexAt,asIntOf,run_underlying hd,hlt,qcz hn,qfy,Instr.sureAddr];rfl,by rw[Nat.add_assoc];exact .fptr cs _ cb off vs hB hc hv⟩
   |_=>simp at h
  |_=>simp at h
 |_=>simp[qav]at h
theorem qmv{t:TypeId} {cs:List AV} {c:Array Value} {off:Nat} {v:AV} (h:zdc P t cs off=some v) (hv:VRs ρ cs c.toList) (w:World) :
  ∃u,(part t c off).run P w=.ok u w/\VR ρ v u:=by
 replace h:=obs h;obtain⟨ag,hag,h⟩:=h;have hlen:c.size=cs.length:=by simpa using hv.1
 cases ag with
 |true=>replace h:=obs h;obtain⟨n,hn,h⟩:=h;replace h:=obs h;obtain⟨r,hr,h⟩:=h;simp only[sj]at h;subst h;obtain⟨h1,rfl⟩:=qmj hr;refine⟨_,by simp[part,qvf hag,qcz hn];rfl,.agg _ _ (by simp;omega) fun i h2 h3=>?_⟩;simp only[jY,yc,Array.getElem_extract];simp at h2;exact hv.2 (off+i) (by omega) (by simp;omega)
 |false=>obtain⟨h1,rfl⟩:=qfb h;refine⟨c[off]'(by omega),?_,hv.2 off h1 (by simp;omega)⟩;simp[part,qvf hag,hlen,h1]
theorem qma{cs:List AV} {vs:Array Value} (hl:vs.size=cs.length) (hv:∀i (h:i < cs.length) (h':i < vs.size),VR ρ cs[i] vs[i]):VRs ρ cs vs.toList:=
 ⟨by simpa using hl,fun i h1 h2=>hv i h1 (by simpa using h2)⟩
theorem zia{t:TypeId} {x v:AV} {i:Nat} {y:Value} (h:qe1 P t x i=some v) (hx:VR ρ x y) (w:World) :
  ∃z,(Instr.field t y i).run P w=.ok z w/\VR ρ v z:=by
 obtain⟨d,hd,h⟩:=obs h;cases d with
 |struct fs=>
  obtain⟨f,hf,h⟩:=obs h;have hf':fs[i]? = some f:=by have:=qrg hf;simpa using this
  cases hx with
  |agg cs vs hl hv=>obtain⟨u,hu,hr⟩:=qmv h (qma hl hv) w;exact⟨u,by simp[Instr.field,run_underlying hd,hf',asAgg,hu],hr⟩
  |_=>simp at h
 |_=>simp at h
theorem zha{t:TypeId} {x i v:AV} {y z:Value} (h:qi1 P t x i=some v) (hx:VR ρ x y) (hi:VR ρ i z) (w:World) :
  ∃u,(Instr.index t y z).run P w=.ok u w/\VR ρ v u:=by
 cases hi with
 |int k i=>
  replace h:=obs h;obtain⟨d,hd,h⟩:=h;cases d with
  |array len elem=>
   cases hx with
   |agg cs vs hl hv=>replace h:=obs h;obtain⟨j,hj,h⟩:=h;replace h:=obs h;obtain⟨n,hn,h⟩:=h;obtain⟨rfl,hlt⟩:=qdl hj;obtain⟨u,hu,hr⟩:=qmv h (qma hl hv) w;exact⟨u,by simp[Instr.index,asIntOf,run_underlying hd,hlt,qcz hn,hu],hr⟩
   |_=>simp at h
  |string=>
   cases hx with
   |str s=>replace h:=obs h;obtain⟨j,hj,h⟩:=h;replace h:=obs h;obtain⟨c,hc,h⟩:=h;simp only[sj]at h;subst h;obtain⟨rfl,hlt⟩:=qdl hj;obtain⟨h1,rfl⟩:=qfb hc;have hsz:(⟨s.toArray⟩ : ByteArray).size=s.length:=(by simp[ByteArray.size]);have hget:(⟨s.toArray⟩ : ByteArray)[j]? = some s[j]:=(by have:j < (⟨s.toArray⟩ : ByteArray).size:=(by omega);rw[getElem?_pos (⟨s.toArray⟩ : ByteArray) j this];simp[ByteArray.getElem_eq_getElem_data]);refine⟨.int .u8 s[j].toNat,?_,.int _ _⟩;simp[Instr.index,asIntOf,run_underlying hd,hget]
   |_=>simp at h
  |_=>simp at h
 |_=>simp[qi1]at h
theorem zao{v:AV} {x:Value} {d y y' j:Nat} {code:BoundsCode} (h:qdd (some v) d y=some j) (hv:VR ρ v x) (hy:y<=y') (w:World) :
  (Instr.sliceBound x y' code).run P w=.ok j w/\j<=y:=by
 cases hv with
 |int k i=>
  obtain⟨rfl,hlt⟩:=qdl (show idx i (Nat.succ y)=some j from h);have h1:(j:Int)<=(y':Int):=by omega
  exact⟨by simp[Instr.sliceBound,asIntOf];omega,by omega⟩
 |_=>simp[qdd]at h
inductive OptR (ρ:Place):Option AV->Option Value->Prop
 |none:OptR ρ none none
 |some (v:AV) (x:Value) (h:VR ρ v x):OptR ρ (some v) (some x)
theorem qqv{s:St} {a:Act} (e:EnvR ρ s a) {x:Option Operand} {v:Option AV} (h:qji s x=some v):OptR ρ v (x.map a.eval):=by
 cases x with
 |none=>simp only[qji,sj]at h;subst h;exact .none
 |some x=>obtain⟨v',hv,h⟩:=obs h;simp only[sj]at h;subst h;exact .some _ _ (qbg e hv)
def qjm{α:Type} (mx:Option α) (m c:Nat):Nat:=match mx with
 |some _=>m
 |none=>c
theorem qdp{isSlice:Bool} {len c c' mD m l h:Nat} {lo hi mx:Option AV} {lo' hi' mx':Option Value} (rl:OptR ρ lo lo') (rh:OptR ρ hi hi') (rm:OptR ρ mx mx')
  (ok:zdn hi mx=true) (hc:c<=c') (hm:qdd mx mD c=some m) (hh:qdd hi len (qjm mx m c)=some h) (hl:qdd lo 0 h=some l) (w:World) :
  (Instr.sliceBounds isSlice len c' lo' hi' mx').run P w=.ok (l,h,qjm mx m c') w/\(hi=none->h=len)/\(∀v,hi=some v->h<=qjm mx m c)/\l<=h/\(∀v,mx=some v->m<=c):=by
 have low:∀code,(match lo' with|some v=>Instr.sliceBound v h code|none=>pure 0:Sem Nat).run P w=.ok l w/\l<=h:=fun code=>by
  cases rl with
  |none=>simp only[qdd,sj]at hl;subst hl;exact⟨rfl,jh _⟩
  |some v x hv=>exact zao hl hv (jc _) w
 cases rm with
 |none=>
  cases rh with
  |none=>simp only[qdd,sj]at hh;subst hh;refine⟨?_,fun _=>rfl,fun v e=>(by cases e),(low .sliceB).2,fun v e=>(by cases e)⟩;have:=(low .sliceB).1;cases rl<;>simp_all [Instr.sliceBounds,qjm]
  |some v x hv=>obtain⟨h1,h2⟩:=zao (P:=P) (code:=if isSlice then .sliceAcap else .sliceAlen) hh hv hc w;refine⟨?_,fun e=>(by cases e),fun _ _=>h2,(low .sliceB).2,fun v e=>(by cases e)⟩;have:=(low .sliceB).1;cases rl<;>simp_all [Instr.sliceBounds,qjm]
 |some v x hv=>
  obtain⟨h1,h2⟩:=zao (P:=P) (code:=if isSlice then .slice3Acap else .slice3Alen) hm hv hc w;cases rh with
  |none=>simp[zdn]at ok
  |some u y hu=>obtain⟨h3,h4⟩:=zao (P:=P) (code:=.slice3B) hh hu (jc _) w;refine⟨?_,fun e=>(by cases e),fun _ _=>h4,(low .slice3C).2,fun _ _=>h2⟩;have:=(low .slice3C).1;cases rl<;>simp_all [Instr.sliceBounds,qjm]
def qtg(b o l m sz:Nat):Addr:=if m=l then ⟨b,o,none⟩ else ⟨b,o+l * sz,none⟩
theorem qor(s:Sim ρ H w) {sz b o len:Nat} {cap:Cap} {lo hi mx:Option AV} {lo' hi' mx':Option Value} {v:AV} {ad:Option Addr} {cap':Nat} {isSlice:Bool}
  (h:qkv H sz b o len cap lo hi mx=some v) (rl:OptR ρ lo lo') (rh:OptR ρ hi hi') (rm:OptR ρ mx mx') (ok:zdn hi mx=true)
  (hx:VR ρ (.slc b o len cap) (.slice ad len cap')) :
  ∃l hh m b' o',ad=some ⟨b',o',none⟩/\(Instr.sliceBounds isSlice len cap' lo' hi' mx').run P w=.ok (l,hh,m) w/\VR ρ v (.slice (some (qtg b' o' l m sz)) (hh - l) (m - l)):=by
 replace h:=obs h;obtain⟨kn,hkn,h⟩:=h;cases hx with
 |slcE _ _ _ c l0 hl0 hlen=>
  replace h:=obs h;obtain⟨m,hm,h⟩:=h;replace h:=obs h;obtain⟨hh,hhh,h⟩:=h;replace h:=obs h;obtain⟨l,hl,h⟩:=h;simp only[sj]at h;subst h;have hmm:qjm mx m cap'=m:=by
   cases rm with
   |none=>simp only[qdd,sj]at hm;exact hm
   |some=>rfl
  obtain⟨h1,h2,h3,h4,h5⟩:=qdp (P:=P) (isSlice:=isSlice) (len:=len) (c:=cap') (c':=cap') rl rh rm ok (jc _) hm (by rw[hmm];exact hhh) hl w;rw[hmm]at h1 h3;have hle:hh<=m:=by
   cases rh with
   |none=>
    rw[h2 rfl];cases rm with
    |none=>simp only[qdd,sj]at hm;omega
    |some=>simp[zdn]at ok
   |some u y hu=>exact h3 _ rfl
  refine⟨l,hh,m,_,_,rfl,h1,?_⟩;unfold qtg;by_cases hml:m=l
  ·subst hml;simp only[if_true,jD];exact .slcE _ _ _ _ l0 hl0 (by omega)
  ·simp only[hml,if_false,qaw hml,Nat.add_assoc];exact .slcE _ _ _ _ l0 hl0 (by omega)
 |slcR _ _ _ sz' c l0 hl0 hlen hfin=>
  dsimp only at h;split at h
  ·simp at h
  ·rename_i hb;have hb:=Nat.eq_of_beq_eq_true hb;subst hb;obtain⟨k,hk,hkl⟩:=obs hkn;obtain⟨cs,hrd,hkl⟩:=obs hkl
   ·simp only[sj]at hkl;subst hkl;obtain⟨l1,hl1,_,_,hr0⟩:=s.block hk;rw[hl0]at hl1;cases hl1;have hr:=hr0.rdR hrd;have hroom:(cs.length - o) / sz<=cap':=by
     rcases yC sz with h0|h0
     ·subst h0;simp
     ·have:(cs.length - o)<=cap' * sz:=(by have:=hr.1;omega);exact Nat.div_le_of_le_mul (by rw[Nat.mul_comm];exact this)
    split at h
    ·rename_i v' _;replace h:=obs h;obtain⟨m,hm,h⟩:=h;replace h:=obs h;obtain⟨hh,hhh,h⟩:=h;replace h:=obs h;obtain⟨l,hl,h⟩:=h;obtain⟨h1,h2,h3,h4,h5⟩:=qdp (P:=P) (isSlice:=isSlice) (len:=len) (c:=(cs.length - o) / sz) (c':=cap') rl rh rm ok hroom hm hhh hl w;have hle:hh<=m:=by
      cases rh with
      |none=>simp[zdn]at ok
      |some u y hu=>exact h3 _ rfl
     refine⟨l,hh,m,_,_,rfl,h1,?_⟩;unfold qtg;split at h
     next hml=>have hml:=Nat.eq_of_beq_eq_true hml;simp only[sj]at h;subst h;subst hml;rw[show hh - m=0 by omega];exact .eslc _ _
     next hml=>have hml:m≠l:=fun e=>(by rw[e,jD]at hml;cases hml);simp only[sj]at h;subst h;simp only[hml,if_false,Nat.add_assoc];exact .slcE _ _ _ _ l0 hl0 (by omega)
    ·replace h:=obs h;obtain⟨hh,hhh,h⟩:=h;replace h:=obs h;obtain⟨l,hl,h⟩:=h;obtain⟨h1,h2,h3,h4,h5⟩:=qdp (P:=P) (isSlice:=isSlice) (len:=len) (c:=(cs.length - o) / sz) (c':=cap') (mD:=0) (m:=0) rl rh rm ok hroom rfl hhh hl w;have hle:hh<=cap':=by
      cases rh with
      |none=>rw[h2 rfl];exact hlen
      |some u y hu=>exact jK (h3 _ rfl) hroom
     refine⟨l,hh,cap',_,_,rfl,h1,?_⟩;unfold qtg;have main:cap'≠l\/l=0->VR ρ (.slc b (o+l * sz) (hh - l) (.rest sz)) (.slice (some (if cap'=l then ⟨l0.cb,l0.off+o,none⟩ else ⟨l0.cb,l0.off+o+l * sz,none⟩)) (hh - l) (cap' - l)):=fun hor=>by
      have e:(if cap'=l then (⟨l0.cb,l0.off+o,none⟩ : Addr) else ⟨l0.cb,l0.off+o+l * sz,none⟩)=⟨l0.cb,l0.off+(o+l * sz),none⟩:=by
       rcases hor with hne|h0
       ·rw[if_neg hne,Nat.add_assoc]
       ·subst h0;simp
      rw[e];refine .slcR _ _ _ _ _ l0 hl0 (by omega) ?_;have:(cap' - l) * sz+l * sz=cap' * sz:=(by rw[<- Nat.add_mul];congr 1;omega);omega
     split at h
     ·rename_i hkle;cases l with
      |zero=>simp only[sj]at h;subst h;simpa using main (.inr rfl)
      |succ l=>
       simp only at h;split at h
       next hhl=>have hhl:=Nat.eq_of_beq_eq_true hhl;simp only[sj]at h;subst h;rw[show hh - (l+1)=0 by omega];exact .eslc _ _
       ·simp at h
     next hkle=>simp only[sj]at h;subst h;refine main (.inl fun e=>?_);subst e;have:Nat.ble (cs.length - o) (cap' * sz)=true:=(by rw[jN];have:=hr.1;omega);rw[this]at hkle;cases hkle
end
theorem qed(s:List UInt8):(⟨s.toArray⟩ : ByteArray).size=s.length:=by simp[ByteArray.size]
theorem qkn(s:List UInt8):(⟨s.toArray⟩ : ByteArray).toList=s:=by rw[ByteArray.toList_eq]<;>simp
theorem qy0(s t:List UInt8):(⟨s.toArray⟩ : ByteArray)++⟨t.toArray⟩=⟨(s++t).toArray⟩:=by apply ByteArray.ext;simp
theorem qj5(s:List UInt8) (l h:Nat):(⟨s.toArray⟩ : ByteArray).extract l h=⟨((s.take h).drop l).toArray⟩:=by apply ByteArray.ext;simp[List.drop_take]
theorem qkc:∀(x y:List UInt8),eqB x y=decide (x=y)
 |[],[]=>rfl
 |[],_::_=>rfl
 |_::_,[]=>rfl
 |a::x,b::y=>by
  unfold eqB;have:Nat.beq a.toNat b.toNat=decide (a=b):=by
   by_cases h:a=b
   ·subst h;simp
   ·have:a.toNat≠b.toNat:=fun e=>h (yn.1 e);simp[h,qaw this]
  simp only[this];by_cases h:a=b
  ·subst h;simp[qkc x y]
  ·simp[h]
section
variable {P:Program} {ρ:Place} {H H':Heap} {w:World}
theorem zfk(s:Sim ρ H w) {t:TypeId} {x v:AV} {lo hi mx:Option AV} {lo' hi' mx':Option Value} {y:Value} (h:qee P H t x lo hi mx=some v)
  (hx:VR ρ x y) (rl:OptR ρ lo lo') (rh:OptR ρ hi hi') (rm:OptR ρ mx mx'):∃u,(Instr.sliceAt t y lo' hi' mx').run P w=.ok u w/\VR ρ v u:=by
 replace h:=obs h;obtain⟨d,hd,h⟩:=h;split at hd
 rotate_left
 ·simp at hd
 rename_i ok;have plain:(match d with | .array _ _=>False|_=>True)->(Instr.sliceAt t y lo' hi' mx').run P w=(Instr.slice t y lo' hi' mx').run P w:=fun hp=>by cases d<;>first|exact hp.elim|simp[Instr.sliceAt,run_underlying hd]
 cases d with
 |string=>
  rw[plain trivial];cases hx with
  |str st=>
   cases rm with
   |some=>simp at h
   |none=>dsimp only at h;replace h:=obs h;obtain⟨hh,hhh,h⟩:=h;replace h:=obs h;obtain⟨l,hl,h⟩:=h;simp only[sj]at h;subst h;obtain⟨h1,_,_,_,_⟩:=qdp (P:=P) (isSlice:=false) (len:=st.length) (c:=st.length) (c':=st.length) (mD:=0) (m:=0) rl rh .none ok (jc _) rfl hhh hl w;refine⟨.string ⟨((st.take hh).drop l).toArray⟩,?_,.str _⟩;simp only[qjm]at h1;simp[Instr.slice,run_underlying hd,qed,h1,qj5]
  |_=>simp at h
 |slice elem=>
  rw[plain trivial];replace h:=obs h;obtain⟨sz,hsz,h⟩:=h;have hS:=qcz hsz w;have blk:∀{b o len:Nat} {cap:Cap} {ad:Option Addr} {cap':Nat},qkv H sz b o len cap lo hi mx=some v->VR ρ (.slc b o len cap) (.slice ad len cap') ->
    ∃u,(Instr.slice t (.slice ad len cap') lo' hi' mx').run P w=.ok u w/\VR ρ v u:=fun {b o len cap ad cap'} hb hv=>by
   obtain⟨l,hh,m,b',o',rfl,h1,h2⟩:=qor (P:=P) (isSlice:=true) s hb rl rh rm ok hv;refine⟨_,?_,h2⟩;simp only[Instr.slice,jH,run_underlying hd,j7,h1,hS,yq];congr 1;unfold qtg;split<;>simp_all [qfy]
  cases hx with
  |slcE b o len c l hl hc=>exact blk h (.slcE b o len c l hl hc)
  |slcR b o len sz' c l hl hc hf=>exact blk h (.slcR b o len sz' c l hl hc hf)
  |nilS=>
   replace h:=obs h;obtain⟨m,hm,h⟩:=h;replace h:=obs h;obtain⟨hh,hhh,h⟩:=h;replace h:=obs h;obtain⟨l,hl,h⟩:=h;simp only[sj]at h;subst h;have h0:∀{q:Option AV} {d j:Nat},qdd q d 0=some j->d=0->j=0:=fun {q d j} hq hd=>by
    cases q with
    |none=>simp only[qdd,sj]at hq;omega
    |some u=>cases u<;>simp[qdd]at hq;have:=(qdl hq).2;omega
   obtain rfl:=h0 hm rfl;obtain rfl:=h0 hhh rfl;obtain rfl:=h0 hl rfl;obtain⟨h1,_,_,_,_⟩:=qdp (P:=P) (isSlice:=true) (len:=0) (c:=0) (c':=0) (mD:=0) (m:=0) rl rh rm ok (jc _) hm (by cases rm<;>exact hhh) hl w;refine⟨.slice none 0 0,?_,.nilS⟩;have h2:qjm mx 0 0=0:=(by cases rm<;>rfl);rw[h2]at h1;simp[Instr.slice,run_underlying hd,h1,hS]
  |zslcN=>
   replace h:=obs h;obtain⟨m,hm,h⟩:=h;replace h:=obs h;obtain⟨hh,hhh,h⟩:=h;replace h:=obs h;obtain⟨l,hl,h⟩:=h;simp only[sj]at h;subst h;have h0:∀{q:Option AV} {d j:Nat},qdd q d 0=some j->d=0->j=0:=fun {q d j} hq hd=>by
    cases q with
    |none=>simp only[qdd,sj]at hq;omega
    |some u=>cases u<;>simp[qdd]at hq;have:=(qdl hq).2;omega
   obtain rfl:=h0 hm rfl;obtain rfl:=h0 hhh rfl;obtain rfl:=h0 hl rfl;obtain⟨h1,_,_,_,_⟩:=qdp (P:=P) (isSlice:=true) (len:=0) (c:=0) (c':=0) (mD:=0) (m:=0) rl rh rm ok (jc _) hm (by cases rm<;>exact hhh) hl w;refine⟨.slice none 0 0,?_,.zslcN⟩;have h2:qjm mx 0 0=0:=(by cases rm<;>rfl);rw[h2]at h1;simp[Instr.slice,run_underlying hd,h1,hS]
  |zslcE a=>
   replace h:=obs h;obtain⟨m,hm,h⟩:=h;replace h:=obs h;obtain⟨hh,hhh,h⟩:=h;replace h:=obs h;obtain⟨l,hl,h⟩:=h;simp only[sj]at h;subst h;have h0:∀{q:Option AV} {d j:Nat},qdd q d 0=some j->d=0->j=0:=fun {q d j} hq hd=>by
    cases q with
    |none=>simp only[qdd,sj]at hq;omega
    |some u=>cases u<;>simp[qdd]at hq;have:=(qdl hq).2;omega
   obtain rfl:=h0 hm rfl;obtain rfl:=h0 hhh rfl;obtain rfl:=h0 hl rfl;obtain⟨h1,_,_,_,_⟩:=qdp (P:=P) (isSlice:=true) (len:=0) (c:=0) (c':=0) (mD:=0) (m:=0) rl rh rm ok (jc _) hm (by cases rm<;>exact hhh) hl w;refine⟨.slice (some a) 0 0,?_,.zslcE a⟩;have h2:qjm mx 0 0=0:=(by cases rm<;>rfl);rw[h2]at h1;simp[Instr.slice,run_underlying hd,h1,hS]
  |fslc sz' es cb off cap vs hB hcap hz hc hv=>
   cases rm with
   |some q z hq=>
    dsimp only at h;replace h:=obs h;obtain⟨hsz',hb,h⟩:=h;split at hb
    rotate_left
    ·simp at hb
    rename_i hbeq;have hbeq:=Nat.eq_of_beq_eq_true hbeq;subst hbeq;replace h:=obs h;obtain⟨m,hm,h⟩:=h;replace h:=obs h;obtain⟨hh,hhh,h⟩:=h;split at h
    ·simp at h
    rename_i hhm;have hhm:=Nat.eq_of_beq_eq_true hhm;subst hhm;cases rl with
    |some=>simp at h
    |none=>
     have rm:OptR ρ (some q) (some z):=.some q z hq;obtain⟨h1,-,-,-,h5⟩:=qdp (P:=P) (isSlice:=true) (lo:=none) (len:=es.length) (c:=es.length) (c':=cap) (mD:=0) (m:=hh) (l:=0) .none rh rm ok hcap hm hhh rfl w;have hle:hh<=es.length:=h5 _ rfl;simp only[qjm]at h1;dsimp only at h;split at h
     ·cases h;refine⟨.slice (some ⟨cb,off,none⟩) 0 0,?_,.zslcE _⟩;simp[Instr.slice,run_underlying hd,h1,hS]
     ·rename_i m';cases h;have hlen:(es.take (m'+1)).length=m'+1:=(by simp;omega);refine⟨.slice (some ⟨cb,off,none⟩) (m'+1) (m'+1),?_,?_⟩
      ·simp[Instr.slice,run_underlying hd,h1,hS,qfy]
      ·have:VR ρ (.xslc sz' (es.take (m'+1))) (.slice (some ⟨cb,off,none⟩) (es.take (m'+1)).length (es.take (m'+1)).length):=by
        refine .xslc sz' _ cb off vs hB (fun i hi=>?_) (fun i hi j hj=>?_) (fun i hi j hj=>?_)
        ·rw[jY];exact hz i (by rw[hlen]at hi;omega)
        ·exact hc i (by rw[hlen]at hi;omega) j hj
        ·simp only[jY]at hj ⊢;exact hv i (by rw[hlen]at hi;omega) j hj
       rw[hlen]at this;exact this
   |none=>
    dsimp only at h;replace h:=obs h;obtain⟨hsz',hb,h⟩:=h;split at hb
    rotate_left
    ·simp at hb
    rename_i hbeq;have hbeq:=Nat.eq_of_beq_eq_true hbeq;subst hbeq;replace h:=obs h;obtain⟨hh,hhh,h⟩:=h;replace h:=obs h;obtain⟨l,hl,h⟩:=h;simp only[sj]at h;subst h;obtain⟨h1,h2,h3,h4,_⟩:=qdp (P:=P) (isSlice:=true) (len:=es.length) (c:=es.length) (c':=cap) (mD:=0) (m:=0) rl rh .none ok hcap rfl hhh hl w;have hle:hh<=es.length:=by
     cases rh with
     |none=>rw[h2 rfl];exact jc _
     |some u z hu=>exact h3 _ rfl
    have hlen:((es.take hh).drop l).length=hh - l:=(by simp;omega);have mk:∀o',(o'=off+l * sz'\/hh - l=0)->VR ρ (.fslc sz' ((es.take hh).drop l)) (.slice (some ⟨cb,o',none⟩) (hh - l) (cap - l)):=fun o' ho=>by
     rw[<- hlen];refine .fslc sz' _ cb o' (cap - l) (fun i j=>vs (l+i) j) hB (by rw[hlen];omega) (fun i hi=>?_) (fun i hi j hj=>?_) (fun i hi j hj=>?_)
     ·simp only[yc,jY];exact hz _ (by rw[hlen]at hi;omega)
     ·rw[hlen]at hi;rcases ho with rfl|h0
      ·have:=hc (l+i) (by omega) j hj;rw[Nat.add_mul,<- Nat.add_assoc]at this;exact this
      ·omega
     ·rw[hlen]at hi;simp only[yc,jY];exact hv (l+i) (by omega) j (by simpa only[yc,jY]using hj)
    simp only[qjm]at h1;by_cases hcl:cap=l
    ·subst hcl;refine⟨.slice (some ⟨cb,off,none⟩) (hh - cap) 0,?_,by simpa using mk off (.inr (by omega))⟩;simp[Instr.slice,run_underlying hd,h1,hS]
    ·refine⟨.slice (some ⟨cb,off+l * sz',none⟩) (hh - l) (cap - l),?_,mk _ (.inl rfl)⟩;simp[Instr.slice,run_underlying hd,h1,hS,hcl,qfy]
  |fnil sz'=>
   cases rm with
   |some q z hq=>
    dsimp only at h;replace h:=obs h;obtain⟨hsz',hb,h⟩:=h;replace h:=obs h;obtain⟨m,hm,h⟩:=h;replace h:=obs h;obtain⟨hh,hhh,h⟩:=h;split at h
    ·simp at h
    rename_i hhm;have hhm:=Nat.eq_of_beq_eq_true hhm;subst hhm;cases rl with
    |some=>simp at h
    |none=>have rm:OptR ρ (some q) (some z):=.some q z hq;obtain⟨h1,-,-,-,h5⟩:=qdp (P:=P) (isSlice:=true) (lo:=none) (len:=0) (c:=0) (c':=0) (mD:=0) (m:=hh) (l:=0) .none rh rm ok (jh _) hm hhh rfl w;obtain rfl:hh=0:=Nat.le_zero.1 (h5 _ rfl);simp only[qjm]at h1;cases h;refine⟨.slice none 0 0,?_,.zslcN⟩;simp[Instr.slice,run_underlying hd,h1,hS]
   |none=>
    dsimp only at h;replace h:=obs h;obtain⟨hsz',hb,h⟩:=h;replace h:=obs h;obtain⟨hh,hhh,h⟩:=h;replace h:=obs h;obtain⟨l,hl,h⟩:=h;simp only[List.take_nil,List.drop_nil,sj]at h;subst h;have h0:∀{q:Option AV} {d j:Nat},qdd q d 0=some j->d=0->j=0:=fun {q d j} hq hd=>by
     cases q with
     |none=>simp only[qdd,sj]at hq;omega
     |some u=>cases u<;>simp[qdd]at hq;have:=(qdl hq).2;omega
    obtain rfl:=h0 hhh rfl;obtain rfl:=h0 hl rfl;obtain⟨h1,_,_,_,_⟩:=qdp (P:=P) (isSlice:=true) (len:=0) (c:=0) (c':=0) (mD:=0) (m:=0) rl rh .none ok (jh _) rfl hhh hl w;simp only[qjm]at h1;exact⟨.slice none 0 0,by simp[Instr.slice,run_underlying hd,h1,hS],.fnil _⟩
  |fnone sz' a c=>
   cases rm with
   |some q z hq=>
    dsimp only at h;replace h:=obs h;obtain⟨hsz',hb,h⟩:=h;replace h:=obs h;obtain⟨m,hm,h⟩:=h;replace h:=obs h;obtain⟨hh,hhh,h⟩:=h;split at h
    ·simp at h
    rename_i hhm;have hhm:=Nat.eq_of_beq_eq_true hhm;subst hhm;cases rl with
    |some=>simp at h
    |none=>have rm:OptR ρ (some q) (some z):=.some q z hq;obtain⟨h1,-,-,-,h5⟩:=qdp (P:=P) (isSlice:=true) (lo:=none) (len:=0) (c:=0) (c':=c) (mD:=0) (m:=hh) (l:=0) .none rh rm ok (jh _) hm hhh rfl w;obtain rfl:hh=0:=Nat.le_zero.1 (h5 _ rfl);simp only[qjm]at h1;cases h;refine⟨.slice (some a) 0 0,?_,.zslcE _⟩;simp[Instr.slice,run_underlying hd,h1,hS]
   |none=>
    dsimp only at h;replace h:=obs h;obtain⟨hsz',hb,h⟩:=h;replace h:=obs h;obtain⟨hh,hhh,h⟩:=h;replace h:=obs h;obtain⟨l,hl,h⟩:=h;simp only[List.take_nil,List.drop_nil,sj]at h;subst h;have h0:∀{q:Option AV} {d j:Nat},qdd q d 0=some j->d=0->j=0:=fun {q d j} hq hd=>by
     cases q with
     |none=>simp only[qdd,sj]at hq;omega
     |some u=>cases u<;>simp[qdd]at hq;have:=(qdl hq).2;omega
    obtain rfl:=h0 hhh rfl;obtain rfl:=h0 hl rfl;obtain⟨h1,_,_,_,_⟩:=qdp (P:=P) (isSlice:=true) (len:=0) (c:=0) (c':=c) (mD:=0) (m:=0) rl rh .none ok (jh _) rfl hhh hl w;simp only[qjm]at h1;refine⟨.slice (some a) 0 c,?_,.fnone _ _ _⟩;simp[Instr.slice,run_underlying hd,h1,hS];intro _;cases a;simp[Addr.add]
  |_=>simp at h
 |array n elem=>
  replace h:=obs h;obtain⟨sz,hsz,h⟩:=h;cases hx with
  |ptr b o l hl=>obtain⟨l1,hh,m,b',o',he,h1,h2⟩:=qor (P:=P) (isSlice:=false) s h rl rh rm ok (.slcE b o n n l hl (jc _));simp only[sj,Addr.mk.injEq,and_true]at he;obtain⟨rfl,rfl⟩:=he;refine⟨_,?_,h2⟩;simp only[Instr.sliceAt,jH,run_underlying hd,j7,Instr.sureAddr,yq,h1,qcz hsz];congr 1;unfold qtg;split<;>simp_all [qfy]
  |_=>simp at h
 |_=>simp at h
end
theorem qxz(x y:List UInt8):((⟨x.toArray⟩ : ByteArray) == ⟨y.toArray⟩)=eqB x y:=by
 rw[beq_toListBytes,qkn,qkn,qkc];by_cases h:x=y
 ·subst h;simp
 ·simp[h]
section
variable {P:Program} {ρ:Place} {H H':Heap} {w:World}
theorem qtl{k:IntKind} {n m:Int} (h:wr k n=some m):k.wrap n=m:=by
 unfold wr at h;split at h
 ·split at h
  next hb=>simp only[sj]at h;rw[yO n (fits64_iff.1 hb),h]
  ·simp at h
 ·simpa using h
theorem zh8{op:BinOp} {k:IntKind} {a b:Int} {v:AV} (h:qpc op k a b=some v) (hs:op≠.shl) (hr:op≠.shr) (t:TypeId) (w:World) :
  ∃u,(Go.binOp op t (.int k a) (.int k b)).run P w=.ok u w/\VR ρ v u:=by
 cases op<;>simp only[qpc,ne_eq,not_true_eq_false,reduceCtorEq]at h hs hr
 case add|sub|mul=>
  replace h:=obs h;obtain⟨n,hn,h⟩:=h;simp only[sj]at h;subst h;exact⟨_,by simp[Go.binOp,Op.intArith,qtl hn],.int _ _⟩
 case quo=>
  split at h
  ·simp at h
  next hb=>replace h:=obs h;obtain⟨n,hn,h⟩:=h;simp only[sj]at h;subst h;exact⟨_,by simp[Go.binOp,Op.intDiv,hb,qtl hn],.int _ _⟩
 case rem=>
  split at h
  ·simp at h
  next hb=>simp only[sj]at h;subst h;exact⟨_,by simp[Go.binOp,Op.intDiv,hb],.int _ _⟩
 case and|or|xor|andNot=>
  simp only[sj]at h;subst h;exact⟨_,by simp[Go.binOp,Op.intBits],.int _ _⟩
 all_goals
  simp only[sj]at h;subst h;exact⟨_,by simp only[Go.binOp,Op.intCmp,ne_eq,not_true_eq_false,if_false,yq],.bool _⟩
theorem qqc{op:BinOp} {k k':IntKind} {a b:Int} {v:AV} (h:qtv op k a b=some v) (t:TypeId) (w:World) :
  ∃u,(Go.binOp op t (.int k a) (.int k' b)).run P w=.ok u w/\VR ρ v u:=by
 unfold qtv at h;split at h
 ·simp at h
 ·rename_i hb;split at h
  ·replace h:=obs h;obtain⟨n,hn,h⟩:=h;simp only[sj]at h;subst h;exact⟨_,by simp[Go.binOp,Op.shift,hb,qtl hn],.int _ _⟩
  ·simp only[sj]at h;subst h;exact⟨_,by simp[Go.binOp,Op.shift,hb],.int _ _⟩
  ·simp at h
theorem zf9{op:BinOp} {a b:List UInt8} {v:AV} (h:qvv op a b=some v) (t:TypeId) (w:World) :
  ∃u,(Go.binOp op t (.string ⟨a.toArray⟩) (.string ⟨b.toArray⟩)).run P w=.ok u w/\VR ρ v u:=by
 have he:(a == b)=eqB a b:=by
  rw[qkc];by_cases h:a=b
  ·subst h;simp
  ·simp[h]
 cases op<;>simp only[qvv,reduceCtorEq]at h
 case add=>
  split at h
  next hb=>simp only[sj]at h;subst h;refine⟨_,?_,.str _⟩;have:¬ a.length+b.length > 9223372036854775807:=(by omega);simp only[Go.binOp];rw[run_string_add_if,qed,qed,if_neg this,qy0]
  ·simp at h
 all_goals
  simp only[sj]at h;subst h;exact⟨_,by simp only[Go.binOp,Op.stringOp,qkn,he];rfl,.bool _⟩
theorem qzb{op:BinOp} {k:FloatKind} {a b:Nat} {v:AV} (h:qzc op k a b=some v) (t:TypeId) (w:World) :
  ∃u,(Go.binOp op t (.float k a) (.float k b)).run P w=.ok u w/\VR ρ v u:=by
 cases op<;>simp only[qzc,reduceCtorEq]at h
 case lss|gtr=>
  simp only[sj]at h;subst h;exact⟨_,by simp[Go.binOp,Op.floatCmp],.bool _⟩
 all_goals
  replace h:=obs h;obtain⟨r,hr,h⟩:=h;simp only[sj]at h;subst h;exact⟨_,by simp[Go.binOp,Op.floatArith,hr],.float _ _⟩
theorem ze1{op:BinOp} {k:FloatKind} {a b c d:Nat} {v:AV} (h:ziv op k a b c d=some v) (t:TypeId) (w:World) :
  ∃u,(Go.binOp op t (.complex k a b) (.complex k c d)).run P w=.ok u w/\VR ρ v u:=by
 cases op<;>simp only[ziv,reduceCtorEq]at h;all_goals
  obtain⟨r,hr,h⟩:=obs h;obtain⟨i,hi,h⟩:=obs h;simp only[sj]at h;subst h;exact⟨_,by simp[Go.binOp,Op.complexOp,Op.Complex.arith,Op.floatArith,hr,hi],.cplx _ _ _⟩
theorem qoc{d:TypeDesc} {x y:AV} {b:Bool} {x' y':Value} (h:qkb d x y=some b) (hx:VR ρ x x') (hy:VR ρ y y') {t:TypeId} (hd:P.underlying t=some d)
  (n:Nat) (w:World):(Op.equalIn (n+1) t x' y').run P w=.ok b w:=by
 unfold qkb at h;rw[Op.equalIn];simp only[jH,run_underlying hd,j7];split at h<;>cases hx<;>cases hy
 case h_2.int.int=>
  split at h
  next hk=>simp only[sj]at h;subst h;subst hk;simp only[if_true];rfl
  ·simp at h
 case h_3.str.str=>
  simp only[sj]at h;subst h;rw[<- qxz];rfl
 all_goals first
  |(simp only[sj]at h;subst h;rfl)
  |simp at h
theorem qp4{xs ys:List AV} {xs' ys':Array Value} (hx:VRs ρ xs xs'.toList) (hy:VRs ρ ys ys'.toList) (n:Nat) (w:World) :
  ∀{fs:List Field} {b:Bool},eqFields P fs xs ys=some b->(Op.eqFields (n+1) xs' ys' fs).run P w=.ok b w
 |[],b,h=>by simp only[eqFields,sj]at h;subst h;rfl
 |f::fs,b,h=>by
  unfold eqFields at h;split at h
  ·simp at h
  ·rename_i hne
   have hne : f.name ≠ "_" := by simpa using hne
   replace h:=obs h;obtain⟨d,hd,h⟩:=h;split at h
   ·simp at h
   ·rename_i hpl;replace h:=obs h;obtain⟨x,hxx,h⟩:=h;replace h:=obs h;obtain⟨y,hyy,h⟩:=h;replace h:=obs h;obtain⟨e,he,h⟩:=h;have hag:qi8 P f.type=some false:=by unfold qi8;rw[hd];cases d<;>first|rfl|simp[qjd]at hpl
    obtain⟨x',hx1,hx2⟩:=qmv (P:=P) (t:=f.type) (off:=f.offset) (v:=x) (by simp[zdc,hag,hxx]) hx w;obtain⟨y',hy1,hy2⟩:=qmv (P:=P) (t:=f.type) (off:=f.offset) (v:=y) (by simp[zdc,hag,hyy]) hy w;have heq:=qoc he hx2 hy2 hd n w;have ih:=fun b' (hb:eqFields P fs xs ys=some b')=>qp4 hx hy n w hb;simp only[Op.eqFields,hne,ne_eq,not_false_eq_true,if_true,jH,hx1,hy1,heq,j7];cases e with
    |true=>simpa using ih b h
    |false=>simp only[sj]at h;subst h;simp
theorem qf5{op:BinOp} {t:TypeId} {ox oy:Operand} {a b:Value} (w:World) (h1:a≠.nilIface) (h2:∀c,a≠.agg c):(eqGuard op t ox oy a b).run P w=.ok () w:=by unfold eqGuard;cases op<;>first|rfl|(cases a<;>first|(cases b<;>rfl)|exact absurd rfl h1|exact absurd rfl (h2 _))
theorem zik{t:TypeId} {x y:AV} {b:Bool} {x' y':Value} (h:eqA P t x y=some b) (hx:VR ρ x x') (hy:VR ρ y y') (w:World) :
  (Op.equal t x' y').run P w=.ok b w/\∀op ox oy,(eqGuard op t ox oy x' y').run P w=.ok () w:=by
 replace h:=obs h;obtain⟨d,hd,h⟩:=h;have fin:qkb d x y=some b->(Op.equal t x' y').run P w=.ok b w/\∀op ox oy,(eqGuard op t ox oy x' y').run P w=.ok () w:=fun h=>by refine⟨qoc h hx hy hd 9999 w,fun op ox oy=>?_⟩;unfold qkb at h;split at h<;>first|contradiction|(cases hx<;>exact qf5 w (by simp) (by simp))
 split at h
 ·rename_i d' fs xs ys;cases hx with
  |agg _ xs' hl hv=>
   cases hy with
   |agg _ ys' hl' hv'=>
    split at h
    next hst hg=>have ht:P.underlying t=some (.struct (P.fieldsOf t)):=(by simp[Program.fieldsOf,hd]);have hf:(P.fieldsOf t).toList=fs.toList:=(by simp[Program.fieldsOf,hd]);refine⟨?_,fun op ox oy=>run_eqGuard_agg w op t ox oy xs' ys' hg⟩;have:=run_equalIn_struct (P:=P) w 9999 t xs' ys' ht hst;simp only[Op.equal,Op.maxDepth];rw[this,hf];exact qp4 (qma hl hv) (qma hl' hv') 9998 w h
    ·simp at h
 ·rename_i te a c b' d;replace h:=obs h;obtain⟨n,hn,h⟩:=h;split at h
  ·rename_i hc;simp only[jd]at hc;have hab:=Nat.eq_of_beq_eq_true hc.1;have hnp:0 < n:=jB hc.2;simp only[sj]at h;subst hab;cases hx with
   |ptr _ _ l hl=>
    cases hy with
    |ptr _ _ l' hl'=>
     rw[hl]at hl';cases hl';refine⟨?_,fun op ox oy=>qf5 w (by simp) (by simp)⟩;have hne:¬ n=0:=(by omega);have e:((⟨l.cb,l.off+c,none⟩ : Addr) == ⟨l.cb,l.off+d,none⟩)=b:=by
      rw[<- h];by_cases hcd:c=d
      ·subst hcd;simp
      ·have h1:Nat.beq c d=false:=qaw hcd;rw[h1];simp[hcd]
     have k:∀d':Nat,(Op.equalIn (d'+1) t (.pointer (some ⟨l.cb,l.off+c,none⟩)) (.pointer (some ⟨l.cb,l.off+d,none⟩))).run P w=.ok b w:=fun d'=>(by simp only[Op.equalIn,jH,run_underlying hd,j7,qcz hn,ne_eq,hne,not_false_eq_true,if_true];unfold sameAddr;simp only[beq_self_eq_true,if_true,e];rfl);simp only[Op.equal,Op.maxDepth];exact k 9999
  ·simp at h
 ·exact fin h
theorem binA_run{op:BinOp} {t:TypeId} {x y v:AV} {x' y':Value} (h:qdy P op t x y=some v) (hx:VR ρ x x') (hy:VR ρ y y') (ox oy:Operand) (w:World) :
  ∃u,(do eqGuard op t ox oy x' y';Go.binOp op t x' y':Sem Value).run P w=.ok u w/\VR ρ v u:=by
 have eqs:(op=.eql\/op=.neq)->∀e,eqA P t x y=some e->v=.bool (if op=.eql then e else !e)->(Go.binOp op t x' y').run P w=((Op.equal t x' y').run P w).andThen (fun b w'=>.ok (.bool (if op=.eql then b else !b)) w') ->
   ∃u,(do eqGuard op t ox oy x' y';Go.binOp op t x' y':Sem Value).run P w=.ok u w/\VR ρ v u:=fun _ e he hv hb=>by
  obtain⟨h1,h2⟩:=zik he hx hy w;subst hv;exact⟨_,by simp only[jH,h2 op ox oy,j7,hb,h1],.bool _⟩
 unfold qdy at h;split at h
 ·cases hx;cases hy;rename_i k a k' b;simp only[jH,qf5 w (show Value.int k a≠.nilIface by simp) (show ∀c,Value.int k a≠.agg c by simp),j7];split at h
  ·exact qqc h t w
  ·exact qqc h t w
  ·rename_i h1 h2;split at h
   next hk=>subst hk;exact zh8 h h1 h2 t w
   ·simp at h
 ·cases hx;cases hy;simp only[jH,qf5 w (show Value.string _≠.nilIface by simp) (show ∀c,Value.string _≠.agg c by simp),j7];exact zf9 h t w
 ·cases hx;cases hy;rename_i k a k' b;simp only[jH,qf5 w (show Value.float k a≠.nilIface by simp) (show ∀c,Value.float k a≠.agg c by simp),j7];split at h
  next hk=>subst hk;exact qzb h t w
  ·simp at h
 ·cases hx;cases hy;rename_i k a b k' c d;simp only[jH,qf5 w (show Value.complex k a b≠.nilIface by simp) (show ∀c,Value.complex k a b≠.agg c by simp),j7];split at h
  next hk=>subst hk;exact ze1 h t w
  ·simp at h
 ·simp at h
 ·rename_i hn1 hn2 hn3 hn4 hn5;have key:∀e,eqA P t x y=some e->(Go.binOp .eql t x' y').run P w=((Op.equal t x' y').run P w).andThen (fun b w'=>.ok (.bool b) w')/\(Go.binOp .neq t x' y').run P w=((Op.equal t x' y').run P w).andThen (fun b w'=>.ok (.bool !b) w'):=fun e he=>by
   obtain⟨d,hd,he⟩:=obs he;split at he
   ·cases hx;cases hy;exact⟨by simp[Go.binOp],by simp[Go.binOp]⟩
   ·cases hx;cases hy;exact⟨by simp[Go.binOp],by simp[Go.binOp]⟩
   ·unfold qkb at he;split at he<;>first|contradiction|(cases hx<;>cases hy<;>first|exact(hn2 _ _ _ _ rfl rfl).elim|exact(hn3 _ _ rfl rfl).elim|exact(hn4 _ _ _ _ rfl rfl).elim|exact⟨by simp[Go.binOp],by simp[Go.binOp]⟩)
  split at h
  ·replace h:=obs h;obtain⟨e,he,h⟩:=h;simp only[sj]at h;exact eqs (.inl rfl) e he (by simp[<- h]) (by simpa using(key e he).1)
  ·replace h:=obs h;obtain⟨e,he,h⟩:=h;simp only[sj]at h;exact eqs (.inr rfl) e he (by simp[<- h]) (by simpa using(key e he).2)
  ·simp at h
theorem qz6{op:BinOp} {t:TypeId} {e:Bool} {v:AV} {x' y':Value} (h:ifA P op t e=some v) (w:World) (ox oy:Operand)
  (hx:(x'=.nilIface/\y'=.nilIface/\e=true/\(zca ox || zca oy)=true)\/(x'=.nilIface/\(∃u z,y'=.iface u z)/\e=false)\/((∃u z,x'=.iface u z)/\y'=.nilIface/\e=false)) :
  ∃u,(do eqGuard op t ox oy x' y';Go.binOp op t x' y':Sem Value).run P w=.ok u w/\VR ρ v u:=by
 replace h:=obs h;obtain⟨d,hd,h⟩:=h;split at h
 ·rename_i ms;have g:(eqGuard op t ox oy x' y').run P w=.ok () w:=by
   rcases hx with⟨rfl,rfl,_,hc⟩|⟨rfl,⟨_,_,rfl⟩,_⟩|⟨⟨_,_,rfl⟩,rfl,_⟩
   ·unfold eqGuard;cases op<;>first|rfl|(cases ox<;>cases oy<;>first|rfl|(simp[zca]at hc))
   ·unfold eqGuard;cases op<;>rfl
   ·unfold eqGuard;cases op<;>rfl
  have q:(Op.equal t x' y').run P w=.ok e w:=by
   rcases hx with⟨rfl,rfl,rfl,hc⟩|⟨rfl,⟨_,_,rfl⟩,rfl⟩|⟨⟨_,_,rfl⟩,rfl,rfl⟩ <;>
    (simp only[Op.equal,Op.maxDepth];rw[Op.equalIn];simp only[jH,run_underlying hd,j7];rfl)
  have r1:(Go.binOp .eql t x' y').run P w=((Op.equal t x' y').run P w).andThen (fun b w'=>.ok (.bool b) w'):=by rcases hx with⟨rfl,rfl,_⟩|⟨rfl,⟨_,_,rfl⟩,_⟩|⟨⟨_,_,rfl⟩,rfl,_⟩<;>simp[Go.binOp]
  have r2:(Go.binOp .neq t x' y').run P w=((Op.equal t x' y').run P w).andThen (fun b w'=>.ok (.bool !b) w'):=by rcases hx with⟨rfl,rfl,_⟩|⟨rfl,⟨_,_,rfl⟩,_⟩|⟨⟨_,_,rfl⟩,rfl,_⟩<;>simp[Go.binOp]
  split at h
  ·simp only[sj]at h;subst h;exact⟨.bool e,by simp only[jH,g,j7,r1,q],.bool _⟩
  ·simp only[sj]at h;subst h;exact⟨.bool !e,by simp only[jH,g,j7,r2,q],.bool _⟩
  ·simp at h
 ·simp at h
theorem binK_run{op:BinOp} {t:TypeId} {x y v:AV} {x' y':Value} (ox oy:Operand) (h:qmf P op t (zca ox || zca oy) x y=some v) (hx:VR ρ x x') (hy:VR ρ y y') (w:World) :
  ∃u,(do eqGuard op t ox oy x' y';Go.binOp op t x' y':Sem Value).run P w=.ok u w/\VR ρ v u:=by
 unfold qmf at h;split at h
 ·split at h
  ·split at h
   next hc=>cases hx;cases hy;exact qz6 h w ox oy (.inl ⟨rfl,rfl,rfl,hc⟩)
   ·simp at h
  ·cases hx;cases hy;exact qz6 h w ox oy (.inr (.inl ⟨rfl,⟨_,_,rfl⟩,rfl⟩))
  ·simp at h
 ·split at h
  ·cases hx;cases hy;exact qz6 h w ox oy (.inr (.inr ⟨⟨_,_,rfl⟩,rfl,rfl⟩))
  ·simp at h
 ·exact binA_run h hx hy ox oy w
theorem unA_run{op:UnOp} {x v:AV} {x':Value} (h:unA op x=some v) (hx:VR ρ x x') (w:World):∃u,(Op.unary op x').run P w=.ok u w/\VR ρ v u:=by
 unfold unA at h;split at h
 ·cases hx;simp only[sj]at h;subst h;exact⟨_,by simp[Op.unary],.bool _⟩
 ·cases hx;replace h:=obs h;obtain⟨n,hn,h⟩:=h;simp only[sj]at h;subst h;have hn':=qtl hn;rw[Int.zero_sub]at hn';exact⟨_,by simp[Op.unary,Op.intArith,hn'],.int _ _⟩
 ·cases hx;simp only[sj]at h;subst h;exact⟨_,by simp[Op.unary,Op.intBits],.int _ _⟩
 ·simp at h
end
theorem qm5{sz:Nat}:∀{es:List AV},(∀i (h:i < es.length),es[i].cells.length=sz)->(qa5 es).length=es.length * sz
 |[],_=>by simp[qa5]
 |e::es,h=>by have h0:=h 0 (by simp);have ih:=qm5 (es:=es) fun i hi=>h (i+1) (by simpa using hi);simp only[j5]at h0;simp[qa5,h0,ih,Nat.succ_mul,Nat.add_comm]
theorem zc2{sz:Nat}:∀{es:List AV} (hz:∀i (h:i < es.length),es[i].cells.length=sz) (i j:Nat) (hi:i < es.length) (hj:j < sz) (h:i * sz+j < (qa5 es).length),
  (qa5 es)[i * sz+j]=es[i].cells[j]'(by rw[hz];exact hj)
 |[],_,i,_,hi,_,_=>by simp at hi
 |e::es,hz,0,j,hi,hj,h=>by have h0:=hz 0 (by simp);simp only[j5]at h0;simp only[qa5,Nat.zero_mul,jO,j5];rw[j6 (by omega)]
 |e::es,hz,i+1,j,hi,hj,h=>by
  have h0:=hz 0 (by simp);simp only[j5]at h0;simp only[qa5,ym];have hi':i < es.length:=by simpa using hi
  have hz':∀i (h:i < es.length),es[i].cells.length=sz:=fun i hi=>hz (i+1) (by simpa using hi);have hlt:i * sz+j < (qa5 es).length:=by rw[qm5 hz'];have:(i+1) * sz<=es.length * sz:=Nat.mul_le_mul_right _ hi';rw[Nat.succ_mul]at this;omega
  rw[jv (by rw[h0,Nat.succ_mul];omega)];have e1:(i+1) * sz+j - e.cells.length=i * sz+j:=by rw[h0,Nat.succ_mul];omega
  simp only[e1];exact zc2 hz' i j hi' hj hlt
theorem qbr:∀(s:List UInt8),(qad s).length=s.length
 |[]=>rfl
 |_::r=>by simp[qad,qbr r]
theorem qm8:∀(s:List UInt8) (i:Nat) (h:i < (qad s).length),(qad s)[i]=.int .u8 (s[i]'(by rw[qbr]at h;exact h)).toNat
 |c::r,0,_=>rfl
 |c::r,i+1,h=>by simpa[qad]using qm8 r i (by simpa[qad]using h)
section
variable {P:Program} {ρ:Place} {H H':Heap} {w:World}
theorem qsm{x:AV} {n:Nat} {x':Value} (h:qc7 x=some n) (hx:VR ρ x x') (w:World):(Builtin.lenOf x').run P w=.ok n w:=by cases hx<;>simp only[qc7,sj,reduceCtorEq]at h<;>subst h<;>simp[Builtin.lenOf,qed]
theorem qds{x:AV} {n:Nat} {x':Value} (h:qc7 x=some n) (hx:VR ρ x x') (sz:Nat) (w:World):∃c,(Builtin.firstCells sz 0 x').run P w=.ok c w/\c.toList=[]:=by cases hx<;>simp only[qc7,reduceCtorEq]at h<;>exact⟨#[],by simp[Builtin.firstCells,loadCells,loadCellsFrom],rfl⟩
theorem qfj(s:Sim ρ H w) {x:AV} {n m sz:Nat} {cs:List AV} {x':Value} (h:qbb H sz n x=some cs) (hm:qc7 x=some m) (hn:n<=m) (hx:VR ρ x x') :
  ∃c,(Builtin.firstCells sz n x').run P w=.ok c w/\VRs ρ cs c.toList/\(cs.length=n * sz\/∃st,x=.str st):=by
 cases hx with
 |nilS=>simp only[qc7,sj]at hm;simp only[qbb,sj]at h;subst h;exact⟨#[],by simp[Builtin.firstCells],.nil,.inl (by rw[show n=0 from by omega];simp)⟩
 |eslc a c=>
  simp only[qc7,sj]at hm;have:n=0:=by omega
  subst this;simp only[qbb,sj]at h;subst h;exact⟨#[],by simp[Builtin.firstCells,loadCells,loadCellsFrom],.nil,.inl (by simp)⟩
 |slcE b o len c l hl hc=>obtain⟨xs,hv,hlen,hcell⟩:=qgf s (show readCells H b o (n * sz)=some cs from h) hl;refine⟨xs.toArray,?_,hv,.inl hlen⟩;exact run_firstCells_some (P:=P) w sz n _ _ _ xs (by rw[hv.1,hlen]) (fun j v hj=>by rw[qfy];exact hcell j v hj)
 |slcR b o len sz' c l hl hc hf=>obtain⟨xs,hv,hlen,hcell⟩:=qgf s (show readCells H b o (n * sz)=some cs from h) hl;refine⟨xs.toArray,?_,hv,.inl hlen⟩;exact run_firstCells_some (P:=P) w sz n _ _ _ xs (by rw[hv.1,hlen]) (fun j v hj=>by rw[qfy];exact hcell j v hj)
 |fslc sz' es cb off cap vs hB hcap hz hc hv=>
  simp only[qc7,sj]at hm;subst hm;simp only[qbb]at h;split at h
  ·rename_i hb;have hb:=Nat.eq_of_beq_eq_true hb;subst hb;simp only[sj]at h;subst h;have hz':∀i (hi:i < (es.take n).length),(es.take n)[i].cells.length=sz':=fun i hi=>(by rw[jY];exact hz i (by simp at hi;omega));have hlen:(qa5 (es.take n)).length=n * sz':=(by rw[qm5 hz',yh,Nat.min_eq_left hn]);have hdm:∀k,k < n * sz'->k / sz' < n/\k % sz' < sz'/\k / sz' * sz'+k % sz'=k:=fun k hk=>by
    have h0:0 < sz':=by
     rcases yC sz' with h|h
     ·subst h;simp at hk
     ·exact h
    exact⟨Nat.div_lt_of_lt_mul (by rw[Nat.mul_comm];exact hk),Nat.mod_lt _ h0,by rw[Nat.mul_comm];exact Nat.div_add_mod k sz'⟩
   have hrun:=run_loadCells (P:=P) w ⟨cb,off,none⟩ (n * sz') (fun k=>vs (k / sz') (k % sz')) (fun k hk=>by obtain⟨h1,h2,h3⟩:=hdm k hk;have:=hc (k / sz') (by omega) (k % sz') h2;rw[Nat.add_assoc,h3]at this;rw[qfy,s.cellW (a:=⟨cb,_,none⟩) hB];exact this);refine⟨_,by simpa only[Builtin.firstCells]using hrun,⟨by simp[hlen],fun k h1 h2=>?_⟩,.inl hlen⟩;rw[hlen]at h1;obtain⟨h3,h4,h5⟩:=hdm k h1;simp only[jT,y5];have e:(qa5 (es.take n))[k]'(by rw[hlen];exact h1)=es[k / sz'].cells[k % sz']'(by rw[hz _ (by omega)];exact h4):=(by have:=zc2 hz' (k / sz') (k % sz') (by simp;omega) h4 (by rw[h5,hlen];exact h1);simp only[h5]at this;rw[this];simp[jY]);rw[e];exact(hv _ _ _ _).mono ρ.bare_le
  ·simp at h
 |fnil sz'=>
  simp only[qc7,sj]at hm
  have : n = 0 := by have : m = 0 := by rw [<- hm]; rfl
                     omega
  subst this;simp only[qbb,List.take_nil,qa5]at h;split at h
  ·simp only[sj]at h;subst h;exact⟨#[],by simp[Builtin.firstCells],.nil,.inl (by simp)⟩
  ·simp at h
 |fnone sz' a c=>
  simp only[qc7,sj]at hm
  have : n = 0 := by have : m = 0 := by rw [<- hm]; rfl
                     omega
  subst this;simp only[qbb,List.take_nil,qa5]at h;split at h
  ·simp only[sj]at h;subst h;exact⟨#[],by simp[Builtin.firstCells,loadCells,loadCellsFrom],.nil,.inl (by simp)⟩
  ·simp at h
 |str st=>simp only[qc7,sj]at hm;subst hm;simp only[qbb,sj]at h;subst h;refine⟨_,by simp only[Builtin.firstCells,yq];rfl,⟨by simp[qbr,qj5],fun i h1 h2=>?_⟩,.inr ⟨st,rfl⟩⟩;rw[qm8];simp only[qj5,List.map_toArray,List.getElem_toArray,jT,jF];exact .int _ _
 |zslcN=>
  simp only[qc7,sj]at hm;have:n=0:=by omega
  subst this;simp only[qbb,sj]at h;subst h;exact⟨#[],by simp[Builtin.firstCells],.nil,.inl (by simp)⟩
 |zslcE a=>
  simp only[qc7,sj]at hm;have:n=0:=by omega
  subst this;simp only[qbb,sj]at h;subst h;exact⟨#[],by simp[Builtin.firstCells,loadCells,loadCellsFrom],.nil,.inl (by simp)⟩
 |_=>simp[qc7]at hm
theorem qr9{b kn:Nat} (h:qck H b=some kn):∃k cs,H.get b=some k/\k.rd=some cs/\cs.length=kn:=by obtain⟨k,hk,h⟩:=obs h;obtain⟨cs,hrd,h⟩:=obs h;simp only[sj]at h;exact⟨k,cs,hk,hrd,h⟩
def qtk(elem:TypeId) (cs:List AV) (k:Blk):Prop:=k=.cells cs\/∃fz,fz<=cs.length/\k=.buf elem fz cs
theorem qkw{elem:TypeId} {cs:List AV}:qtk elem cs (qpi P elem cs):=by
 unfold qpi;split
 ·exact .inr ⟨0,jh _,rfl⟩
 ·exact .inl rfl
theorem zjf{w:World} {cs:List AV} {c:Array Value} {elem:TypeId} {n:Nat} {k:Blk} (hk:qtk elem cs k) (hn:cs.length<=c.size) (hv:∀i (h:i < cs.length) (h':i < c.size),VR (ρ.upd n ⟨w.heap.size,0,c.size⟩) cs[i] c[i]) :
  BlkR (ρ.upd n ⟨w.heap.size,0,c.size⟩) (w.alloc (.cells c elem)) ⟨w.heap.size,0,c.size⟩ k:=by
 have h0:=qv9 (t:=elem) (fr:=(0,0)) hn hv (fun i _=>by simp);have hh:(w.alloc (.cells c elem)).heap[w.heap.size]? = some (.cells c elem (0,0)):=by show (w.heap.push _)[w.heap.size]? = _;simp
 rcases hk with rfl|⟨fz,hfz,rfl⟩
 ·exact h0
 ·exact⟨⟨h0.1,fun i hi=>(h0.2.1 i hi).1,h0.2.2⟩,rfl,hfz,c,0,0,hh,.inl rfl⟩
theorem qxb{c old new:Array Value} {zv:Value} {cs:List AV} {need newCap sz:Nat} {elem:TypeId} {k:Blk} (hk:qtk elem cs k) (s:Sim ρ H w) (hv:VRs ρ cs (old++new).toList)
  (hzc:zv.cells.size=sz) (hlen:cs.length=need * sz) (hcap:need<=newCap) (h63:newCap<=9223372036854775807) (hc:c=old++new++Builtin.zeroCells zv.cells (newCap - need)) :
  Good ρ H w (.ok (.slice (some ⟨w.heap.size,0,none⟩) need newCap) ((w.drew).alloc (.cells c elem))) (.slc H.n 0 need (.rest sz)) (H.new k):=by
 have hsz:c.size=newCap * sz:=by
  have h1:(old++new).size=need * sz:=by have:=hv.1;simp at this;simp;omega
  rw[hc,Array.size_append,h1];simp only[Builtin.zeroCells,Array.size_map,Array.size_range,hzc];rw[<- Nat.add_mul];congr 1;omega
 have hle:ρ.le (ρ.upd H.n ⟨w.heap.size,0,c.size⟩):=Place.le_upd (s.dom _ (jc _));have hcl:cs.length<=c.size:=by rw[hsz,hlen];exact Nat.mul_le_mul_right _ hcap
 obtain⟨h1,h2⟩:=s.drew.new (.cells c elem) c.size k (zjf hk hcl (fun i h h'=>by
  have hi:i < (old++new).toList.length:=by rw[hv.1];exact h
  have e:c[i]=(old++new).toList[i]:=by subst hc;rw[Array.getElem_append_left (by simpa using hi)];rfl
  rw[e];exact(hv.2 i h hi).mono hle))
 refine⟨_,_,_,rfl,?_,h1,(Step.drew _ _ _).trans h2⟩;exact .slcR H.n 0 need sz newCap ⟨w.heap.size,0,c.size⟩ Place.upd_same hcap ⟨by simp[hsz],h63⟩
end
section
variable {P:Program} {ρ:Place} {H H':Heap} {w:World}
structure AppT (P:Program) (ts:Array TypeId) (elem:TypeId) (sz by_:Nat) (zv:Value):Prop where
 fst:∃t,ts[0]? = some t/\P.underlying t=some (.slice elem)
 snd:∃u,ts[1]? = some u/\(P.underlying u=some .string\/∃e,P.underlying u=some (.slice e))
 size:∀w,(sizeOf elem).run P w=.ok sz w
 info:∃i:TypeInfo,(∀w,(typeInfo elem).run P w=.ok i w)/\i.bytes=by_
 zero:∀w,(zeroValue elem).run P w=.ok zv w
theorem AppT.room{ts:Array TypeId} {ty elem:TypeId} {sz by_:Nat} {zv:Value} (T:AppT P ts elem sz by_ zv) {y':Value} {n sLen sCap:Nat} {a:Addr} {new:Array Value} {w w':World}
  (hn:(Builtin.lenOf y').run P w=.ok n w) (hle:sLen+n<=sCap) (hnew:(Builtin.firstCells sz n y').run P w=.ok new w)
  (hst:(storeCells (a.add (sLen * sz)) new.toList).run P w=.ok () w') :
  (Builtin.append_ ts ty #[.slice (some a) sLen sCap,y']).run P w=.ok (.slice (some a) (sLen+n) sCap) w':=by
 obtain⟨t,ht,hd⟩:=T.fst;obtain⟨u,hu,hud⟩:=T.snd;rcases hud with hud|⟨e,hud⟩ <;>
  simp[Builtin.append_,ht,hu,run_underlying hd,run_underlying hud,T.size,hn,hle,hnew,hst]
theorem AppT.atNil{ts:Array TypeId} {ty elem:TypeId} {sz by_:Nat} {zv:Value} (T:AppT P ts elem sz by_ zv) {y':Value} {sCap:Nat} {new:Array Value} {w:World}
  (hn:(Builtin.lenOf y').run P w=.ok 0 w) (hnew:(Builtin.firstCells sz 0 y').run P w=.ok new w) :
  (Builtin.append_ ts ty #[.slice none 0 sCap,y']).run P w=.ok (.slice none 0 sCap) w:=by
 obtain⟨t,ht,hd⟩:=T.fst;obtain⟨u,hu,hud⟩:=T.snd;rcases hud with hud|⟨e,hud⟩ <;>
  simp[Builtin.append_,ht,hu,run_underlying hd,run_underlying hud,T.size,hn,hnew]
theorem ziu{need old:Nat} {elem:TypeId} {t:Nat} (h:need<=17592186044416):(Question.appendCap need old elem).cut t<=9223372036854775807:=by show need+t % (2 ^ 63 - need)<=_;have:=Nat.mod_lt t (show 0 < 2 ^ 63 - need by omega);omega
theorem AppT.grows{ts:Array TypeId} {ty elem:TypeId} {sz by_:Nat} {zv:Value} (T:AppT P ts elem sz by_ zv) {y':Value} {n sLen sCap:Nat} {base:Option Addr} {old new:Array Value} {w:World}
  (hn:(Builtin.lenOf y').run P w=.ok n w) (hgt:¬ sLen+n<=sCap) (hb:0 < by_) (hroom:(sLen+n) * by_<=17592186044416)
  (hold:(Builtin.firstCells sz sLen (.slice base sLen sCap)).run P w.drew=.ok old w.drew) (hnew:(Builtin.firstCells sz n y').run P w.drew=.ok new w.drew) :
  ∃newCap,(sLen+n<=newCap/\newCap<=9223372036854775807)/\(Builtin.append_ ts ty #[.slice base sLen sCap,y']).run P w =
   .ok (.slice (some ⟨w.heap.size,0,none⟩) (sLen+n) newCap) (w.drew.alloc (.cells (old++new++Builtin.zeroCells zv.cells (newCap - (sLen+n))) elem)):=by
 obtain⟨t,ht,hd⟩:=T.fst;obtain⟨u,hu,hud⟩:=T.snd;obtain⟨ti,hti,rfl⟩:=T.info;have hfit:Builtin.nextslicecap (sLen+n) sCap * ti.bytes<=281474976710656:=growslice_fits (by omega) (by omega);have h63:¬ (ti.bytes=0):=by omega
 refine⟨(Question.appendCap (sLen+n) sCap elem).cut (w.tape w.drawn (.appendCap (sLen+n) sCap elem)),⟨by simp[Question.cut],ziu (jK (Nat.le_mul_of_pos_right _ hb) hroom)⟩,?_⟩;have hforced:(Question.appendCap (sLen+n) sCap elem).forced=false:=rfl;have hnf:¬ 281474976710656 < Builtin.nextslicecap (sLen+n) sCap * ti.bytes:=by omega
 rcases hud with hud|⟨e,hud⟩ <;>
  simp[Builtin.append_,ht,hu,run_underlying hd,run_underlying hud,T.size,hn,hgt,hti,h63,hnf,hforced,hold,hnew,T.zero,newRow,newObj,Sem.run]
theorem qti(s:Sim ρ H w) {ts:Array TypeId} {t u ty elem:TypeId} (ht:ts[0]? = some t) (hd:P.underlying t=some (.slice elem))
  (hu:ts[1]? = some u) (hud:P.underlying u=some .string\/∃e,P.underlying u=some (.slice e))
  {x y v:AV} {x' y':Value} (h:qby P H elem x y=some (v,H')) (hx:VR ρ x x') (hy:VR ρ y y') :
  Good ρ H w ((Builtin.append_ ts ty #[x',y']).run P w) v H':=by
 replace h:=obs h;obtain⟨sz,hsz,h⟩:=h;replace h:=obs h;obtain⟨by_,hby,h⟩:=h;replace h:=obs h;obtain⟨z,hzz,h⟩:=h;replace h:=obs h;obtain⟨n,hn,h⟩:=h;split at h
 ·simp at h
 rename_i hcond;simp only[jM,Bool.not_eq_false']at hcond;obtain⟨hc0,hcz⟩:=hcond;have hszpos:0 < sz:=by
  rcases yC sz with h0|h0
  ·rw[h0]at hc0;simp at hc0
  ·exact h0
 simp only[jd]at hcz;have hbpos:0 < by_:=jB hcz.2;have hzl:=Nat.eq_of_beq_eq_true hcz.1;obtain⟨zv,rfl,hzr,_⟩:=qfh hzz;have hzs:zv.cells.size=sz:=by have:=(VRs.const (ρ:=ρ) zv).1;simp at this;omega
 have T:AppT P ts elem sz by_ zv:=⟨⟨t,ht,hd⟩,⟨u,hu,hud⟩,qcz hsz,qol hby,hzr⟩;have hl:=qsm (P:=P) hn hy;have inplace:∀(b o len c:Nat) (l:Loc) (cap:Cap),ρ b=some l->len+n<=c->∀cs,qbb H sz n y=some cs->allSingle cs=true->writeCells H b (o+len * sz) cs=some H' ->
   VR ρ (.slc b o (len+n) cap) (.slice (some ⟨l.cb,l.off+o,none⟩) (len+n) c) ->
   Good ρ H w ((Builtin.append_ ts ty #[.slice (some ⟨l.cb,l.off+o,none⟩) len c,y']).run P w) (.slc b o (len+n) cap) H':=fun b o len c l cap hl0 hle cs hcs hsing hw hv=>by
  obtain⟨cn,hr,hcv,_⟩:=qfj (P:=P) s hcs hn (jc _) hy;obtain⟨h1,h2,h3⟩:=qmh (P:=P) s hw hl0 hcv (hcv.oneCell hsing);refine⟨_,ρ,_,T.room (hl w) hle hr (w':=w.setCells l.cb (l.off+(o+len * sz)) cn.toList) ?_,hv,h2,h3⟩;rw[qfy,Nat.add_assoc];exact h1
 have grow:∀(base:Option Addr) (sLen sCap:Nat) (old:Array Value) (os cs:List AV) (Hd:Heap) (k:Blk),qtk elem (os++cs) k->¬ sLen+n<=sCap->qcf (sLen+n) by_=true ->
   (Builtin.firstCells sz sLen (.slice base sLen sCap)).run P w.drew=.ok old w.drew->VRs ρ os old.toList->os.length=sLen * sz ->
   qbb H sz n y=some cs->cs.length=n * sz->Sim ρ Hd w->Step ρ H w ρ Hd w ->
   Good ρ H w ((Builtin.append_ ts ty #[.slice base sLen sCap,y']).run P w) (.slc Hd.n 0 (sLen+n) (.rest sz)) (Hd.new k):=fun base sLen sCap old os cs Hd k hkn hgt hroom hold hov hol hcs hcl sd st=>by
  obtain⟨cn,hr,hcv,_⟩:=qfj (P:=P) s.drew hcs hn (jc _) hy;obtain⟨newCap,⟨hle,h63⟩,hrun⟩:=T.grows (ty:=ty) (hl w) hgt hbpos (jB hroom) hold hr;rw[hrun];obtain⟨x1,ρ1,w1,e1,g1,g2,g3⟩:=qxb (elem:=elem) (k:=k) hkn (old:=old) (new:=cn) (zv:=zv) (newCap:=newCap) (need:=sLen+n) (sz:=sz) sd
   (by rw[Array.toList_append];exact hov.append hcv) hzs (by simp[hol,hcl,Nat.add_mul]) hle h63 rfl
  exact⟨x1,ρ1,w1,e1,g1,g2,st.trans g3⟩
 split at h
 ·-- nil
  cases hx;split at h
  ·simp only[sj,jf]at h;obtain⟨rfl,rfl⟩:=h;obtain⟨c,hc,_⟩:=qds (P:=P) hn hy sz w;exact Good.pure s .nilS (T.atNil (hl w) hc)
  ·rename_i n' _;split at h
   ·rename_i hroom;replace h:=obs h;obtain⟨cs,hcs,h⟩:=h;split at h
    next hlen=>simp only[sj,jf]at h;obtain⟨rfl,rfl⟩:=h;have:=grow none 0 0 #[] [] cs H (qpi P elem cs) qkw (by omega) (by simpa using hroom) (by simp[Builtin.firstCells]) .nil (by simp) hcs (Nat.eq_of_beq_eq_true hlen) s (.refl _ _ _);simpa using this
    ·simp at h
   ·simp at h
 ·rename_i b o len cap;replace h:=obs h;obtain⟨cs,hcs,h⟩:=h;split at h
  ·simp at h
  rename_i hroom;split at h
  ·simp at h
  rename_i hsing;cases hx with
  |slcE _ _ _ c l hl0 hlen=>
   dsimp only at h;split at h
   next hle=>replace h:=obs h;obtain⟨H1,hw,h⟩:=h;simp only[sj,jf]at h;obtain⟨rfl,rfl⟩:=h;have hle:=jB hle;exact inplace b o len c l _ hl0 hle cs hcs hsing hw (.slcE _ _ _ _ l hl0 hle)
   ·rename_i hle;have hgt:¬ len+n<=c:=fun h0=>(by rw[show Nat.ble (len+n) c=true by rw[jN];exact h0]at hle;cases hle);split at h
    next hcl=>replace h:=obs h;obtain⟨old,hold,h⟩:=h;simp only[sj,jf]at h;obtain⟨rfl,rfl⟩:=h;obtain⟨xs,hv,hlen',hcell⟩:=qgf s.drew hold hl0;refine grow _ len c xs.toArray old cs H _ qkw hgt hroom ?_ hv hlen' hcs (Nat.eq_of_beq_eq_true hcl) s (.refl _ _ _);exact run_firstCells_some (P:=P) w.drew sz len _ _ _ xs (by rw[hv.1,hlen']) (fun j v hj=>by rw[qfy];exact hcell j v hj)
    ·simp at h
  |slcR _ _ _ sz' c l hl0 hlen hf=>
   dsimp only at h;split at h
   ·simp at h
   rename_i hszeq;have hszeq:=Nat.eq_of_beq_eq_true hszeq;subst hszeq;replace h:=obs h;obtain⟨kn,hkn,h⟩:=h;obtain⟨k0,cells,hcells,hrd0,rfl⟩:=qr9 hkn;obtain⟨l1,hl1,_,_,hr0⟩:=s.block hcells;rw[hl0]at hl1;cases hl1;have hr:=hr0.rdR hrd0;have hkc:=hr.1;split at h
   next hle=>replace h:=obs h;obtain⟨H1,hw,h⟩:=h;simp only[sj,jf]at h;obtain⟨rfl,rfl⟩:=h;have hle:=jB hle;have hle2:len+n<=c:=Nat.le_of_mul_le_mul_right (by omega:(len+n) * sz<=c * sz) hszpos;exact inplace b o len c l _ hl0 hle2 cs hcs hsing hw (.slcR _ _ _ _ _ l hl0 hle2 hf)
   ·split at h
    ·rename_i hend;have hend:=Nat.eq_of_beq_eq_true hend;split at h
     ·rename_i hcl;have hcl:=Nat.eq_of_beq_eq_true hcl;replace h:=obs h;obtain⟨old,hold,h⟩:=h;replace h:=obs h;obtain⟨k1,hk1,h⟩:=h;rw[hcells]at hk1;cases hk1;replace h:=obs h;obtain⟨k',hgo,h⟩:=h;simp only[sj,jf]at h;obtain⟨rfl,rfl⟩:=h;have hun:∀i,i < l.fin->l.off+o+len * sz<=i->w.frozen? ⟨l.cb,i,none⟩=false:=fun i hi hoi=>by
       cases k0<;>simp only[Blk.rd,sj,reduceCtorEq]at hrd0
       ·exact(hr0.2.1 i hi).2
       ·exact(hr0.1.2.1 i hi).2
       ·rename_i t fz cs0;subst hrd0;obtain⟨_,h0,hfz,cc,lo,hh,hheap,hz⟩:=hr0;simp only[World.frozen?,hheap];rcases hz with rfl|hz
        ·by_cases h1:lo<=i<;>simp<;>omega
        ·simp;omega
      have hlen2:old.length=len * sz:=(by obtain⟨_,_,hx,_⟩:=qgf s hold hl0;exact hx);have hnr:qtk elem (old++cs) k':=by
       unfold goOn at hgo;split at hgo
       ·simp only[sj]at hgo;subst hgo;exact .inl rfl
       ·rename_i t fz cs0;split at hgo
        next hc=>simp only[jd]at hc;have h1:=Nat.eq_of_beq_eq_true hc.1;have h2:=Nat.eq_of_beq_eq_true hc.2;simp only[sj]at hgo;subst hgo;subst h1;simp only[Blk.rd,sj]at hrd0;subst hrd0;refine .inr ⟨fz,?_,rfl⟩;have:=hr0.2.2.1;simp only[jo];omega
        ·simp at hgo
       ·simp at hgo
      have hsame:∀{w':World} {l':Loc} {ρ':Place},l'.cb=l.cb->l'.off=l.off+o->l'.fin=l.fin->(∀i,w'.frozen? ⟨l.cb,i,none⟩=w.frozen? ⟨l.cb,i,none⟩) ->
        (∀c t fr,w.heap[l.cb]? = some (.cells c t fr)->∃c',w'.heap[l.cb]? = some (.cells c' t fr)/\c'.size=c.size) ->
        l'.off+(old++cs).length<=l'.fin->(∀i,i < l'.fin->(w'.cell? ⟨l'.cb,i,none⟩).isSome=true) ->
        (∀i (h:i < (old++cs).length),∃x,w'.cell? ⟨l'.cb,l'.off+i,none⟩=some x/\VR ρ' (old++cs)[i] x)->BlkR ρ' w' l' k':=by
       intro w' l' ρ' e1 e2 e3 hf hk g1 g2 g3;unfold goOn at hgo;split at hgo
       ·simp only[sj]at hgo;subst hgo;exact⟨g1,fun i hi=>⟨g2 i hi,by rw[e1,hf];exact(hr0.2.1 i (by omega)).2⟩,g3⟩
       ·rename_i t fz cs0;split at hgo
        next hc=>simp only[jd]at hc;have h2:=Nat.eq_of_beq_eq_true hc.2;simp only[sj]at hgo;subst hgo;simp only[Blk.rd,sj]at hrd0;subst hrd0;obtain⟨r1,r2,r3,c,lo,hi',hh,hz⟩:=hr0;obtain⟨c',hc',_⟩:=hk _ _ _ hh;refine⟨⟨g1,g2,g3⟩,by omega,?_,c',lo,hi',by rw[e1];exact hc',hz⟩;simp only[jo];omega
        ·simp at hgo
       ·simp at hgo
      by_cases hgt:len+n<=c
      ·-- in place, under a new number
       obtain⟨cn,hrun,hcv,_⟩:=qfj (P:=P) s hcs hn (jc _) hy;obtain⟨xs,hv,hlen',hcell⟩:=qgf s hold hl0;have h1:=hcv.oneCell hsing;have hcn:cn.toList.length=n * sz:=(by rw[hcv.1,hcl]);have hmul:(len+n) * sz<=c * sz:=Nat.mul_le_mul_right _ hgt;rw[Nat.add_mul]at hmul;have hcell2:∀j,j < cn.toList.length->(w.cell? ⟨l.cb,l.off+o+len * sz+j,none⟩).isSome=true:=fun j hj=>hr.2.1 _ (by omega);have hin:=World.cell?_setCells_in l.cb cn.toList (l.off+o+len * sz) w hcell2;have hout:=World.cell?_setCells_out l.cb cn.toList (l.off+o+len * sz) w;have hst:=run_storeCells_cells (P:=P) l.cb (l.off+o+len * sz) cn.toList 0 w (by simpa using hcell2) (fun j hj=>hun _ (by omega) (by omega)) h1;simp only[y4]at hst;have hle':ρ.le (ρ.upd H.n ⟨l.cb,l.off+o,l.fin⟩):=Place.le_upd (s.dom _ (jc _));obtain⟨g1,g2⟩:=s.regrow (k:=k') (l':=⟨l.cb,l.off+o,l.fin⟩) hcells hl0 rfl (qgz l.cb cn.toList (l.off+o+len * sz) w)
        (fun j hj=>qh0 _ _ _ _ j hj) (qd6 _ _ _ _).1 (qd6 _ _ _ _).2.1 (qd6 _ _ _ _).2.2 (by
         refine hsame rfl rfl rfl (fun i=>World.frozen?_setCells _ _ _ _ _) (fun c t fr he=>qju _ _ _ _ he) (by simp only[jo];omega) (fun i hi=>?_) fun i hi=>?_
         ·by_cases hi2:l.off+o+len * sz<=i/\i < l.off+o+len * sz+cn.toList.length
          ·have:=hin (i - (l.off+o+len * sz)) (by omega);rw[show l.off+o+len * sz+(i - (l.off+o+len * sz))=i by omega]at this;show (World.cell? _ ⟨l.cb,i,none⟩).isSome=true;rw[this];rfl
          ·show (World.cell? _ ⟨l.cb,i,none⟩).isSome=true;rw[hout ⟨l.cb,i,none⟩ (fun _ _=>by show i < _\/_<=i;omega)];exact hr.2.1 i hi
         ·simp only[jo]at hi;by_cases hi2:i < len * sz
          ·have hx:i < xs.length:=(by rw[hv.1,hlen'];exact hi2);refine⟨xs[i],?_,?_⟩
           ·show World.cell? _ ⟨l.cb,l.off+o+i,none⟩=_;rw[hout ⟨l.cb,l.off+o+i,none⟩ (fun _ _=>by show l.off+o+i < _\/_<=l.off+o+i;omega)];exact hcell i _ (List.getElem?_eq_getElem hx)
           ·rw[j6 (by omega)];exact(hv.2 i (by omega) hx).mono hle'
          ·have hj:i - len * sz < cn.toList.length:=(by omega);refine⟨cn.toList[i - len * sz],?_,?_⟩
           ·have:=hin (i - len * sz) hj;show World.cell? _ ⟨l.cb,l.off+o+i,none⟩=_;rw[show l.off+o+len * sz+(i - len * sz)=l.off+o+i by omega]at this;exact this
           ·rw[jv (by omega)];have e:i - old.length=i - len * sz:=(by omega);simp only[e];exact(hcv.2 _ (by omega) hj).mono hle')
       refine⟨_,_,_,T.room (hl w) hgt hrun (w':=w.setCells l.cb (l.off+o+len * sz) cn.toList) (by rw[qfy];exact hst),?_,g1,g2⟩;exact .slcR H.n 0 (len+n) sz c ⟨l.cb,l.off+o,l.fin⟩ Place.upd_same hgt (by simpa using hf)
      ·obtain⟨xs,hv,hlen',hcell⟩:=qgf s.drew hold hl0;obtain⟨sd,st⟩:=s.dropped b;have:=grow (some ⟨l.cb,l.off+o,none⟩) len c xs.toArray old cs (H.drop b) k' hnr hgt hroom
        (run_firstCells_some (P:=P) w.drew sz len _ _ _ xs (by rw[hv.1,hlen']) (fun j v hj=>by rw[qfy];exact hcell j v hj)) hv hlen' hcs hcl sd st
       exact this
     ·simp at h
    ·simp at h
 ·-- an empty one
  split at h
  ·simp only[sj,jf]at h;obtain⟨rfl,rfl⟩:=h;obtain⟨c,hc,hcn⟩:=qds (P:=P) hn hy sz w;cases hx with
   |zslcN=>exact Good.pure s .zslcN (T.atNil (hl w) hc)
   |zslcE a=>exact Good.pure s (.zslcE a) (T.room (hl w) (by omega) hc (by rw[hcn];rfl))
  ·rename_i n' _;split at h
   ·rename_i hroom;replace h:=obs h;obtain⟨cs,hcs,h⟩:=h;split at h
    ·rename_i hlen;simp only[sj,jf]at h;obtain⟨rfl,rfl⟩:=h;cases hx with
     |zslcN=>have:=grow none 0 0 #[] [] cs H (qpi P elem cs) qkw (by omega) (by simpa using hroom) (by simp[Builtin.firstCells]) .nil (by simp) hcs (Nat.eq_of_beq_eq_true hlen) s (.refl _ _ _);simpa using this
     |zslcE a=>have:=grow (some a) 0 0 #[] [] cs H (qpi P elem cs) qkw (by omega) (by simpa using hroom) (by simp[Builtin.firstCells,loadCells,loadCellsFrom]) .nil (by simp) hcs (Nat.eq_of_beq_eq_true hlen) s (.refl _ _ _);simpa using this
    ·simp at h
   ·simp at h
 ·cases hx with
  |eslc a c=>
   split at h
   ·simp only[sj,jf]at h;obtain⟨rfl,rfl⟩:=h;obtain⟨cn,hc,hcn⟩:=qds (P:=P) hn hy sz w;exact Good.pure s (.eslc a c) (T.room (hl w) (by omega) hc (by rw[hcn];rfl))
   ·simp at h
 ·-- frozen, with no room
  rename_i s0 es;split at h
  ·simp at h
  rename_i n' _;replace h:=obs h;obtain⟨os,hos,h⟩:=h;replace h:=obs h;obtain⟨cs,hcs,h⟩:=h;split at h
  ·rename_i hb;simp only[jd]at hb;obtain⟨hroom,hcl,hol⟩:=hb;simp only[sj,jf]at h;obtain⟨rfl,rfl⟩:=h;cases hx with
   |xslc sz' es' cb off vs hB hz hc hv=>have hx2:VR ρ (.fslc s0 es) (.slice (some ⟨cb,off,none⟩) es.length es.length):=.fslc s0 es cb off es.length vs hB (jc _) hz hc hv;obtain⟨old,hold,hov,_⟩:=qfj (P:=P) s.drew hos (m:=es.length) rfl (jc _) hx2;exact grow (some ⟨cb,off,none⟩) es.length es.length old os cs H (qpi P elem (os++cs)) qkw (by omega) hroom hold hov (Nat.eq_of_beq_eq_true hol) hcs (Nat.eq_of_beq_eq_true hcl) s (.refl _ _ _)
  ·simp at h
 ·simp at h
theorem zhm{ts:Array TypeId} {t u ty elem:TypeId} {kk:IntKind} {sz:Nat} {ti:TypeInfo} {zv:Value} {w:World} (ht:ts[0]? = some t) (hd:P.underlying t=some (.slice elem))
  (hu:ts[1]? = some u) (hud:P.underlying u=some (.int kk)) (hS:∀w,(sizeOf elem).run P w=.ok sz w) (hti:∀w,(typeInfo elem).run P w=.ok ti w) (hzr:∀w,(zeroValue elem).run P w=.ok zv w)
  {k:Nat} (hk:0 < k) (hsz:0 < sz) (hb:0 < ti.bytes) (hroom:k * ti.bytes<=17592186044416) (hlt:k < 140737488355328) :
  (Builtin.append_ ts ty #[.slice none 0 0,.int .i64 (k:Int)]).run P w =
   .ok (.slice (some ⟨w.heap.size,0,none⟩) k ((Question.appendCap k 0 elem).cut (w.tape w.drawn (.appendCap k 0 elem))))
    (w.drew.alloc (.cells (#[]++Builtin.zeroCells zv.cells k++Builtin.zeroCells zv.cells ((Question.appendCap k 0 elem).cut (w.tape w.drawn (.appendCap k 0 elem)) - k)) elem)):=by
 have hwr:IntKind.i64.wrap (k:Int)=k:=yO _ (by omega);have hA:¬ (281474976710656 < (k:Int) * (ti.bytes:Int)):=by
  have:(k:Int) * (ti.bytes:Int)=((k * ti.bytes:Nat):Int):=by simp
  rw[this];omega
 have hfit:Builtin.nextslicecap k 0 * ti.bytes<=281474976710656:=growslice_fits (by omega) (by omega);have hnf:¬ 281474976710656 < Builtin.nextslicecap k 0 * ti.bytes:=by omega
 have h63:¬ (ti.bytes=0):=by omega
 have hk0:¬ k=0:=by omega
 have hsz0:¬ sz=0:=by omega
 have hneg:¬ ((k:Int) < 0):=by omega
 have hmx:¬ (IntKind.i64.max < (k:Int)):=by
  have:IntKind.i64.max=9223372036854775807:=by decide
  omega
 have hforced:(Question.appendCap k 0 elem).forced=false:=rfl;simp[Builtin.append_,ht,hu,run_underlying hd,run_underlying hud,hS,asInt,asIntOf,hti,hwr,hA,hnf,h63,hk0,hsz0,hneg,hmx,hforced,hzr,Builtin.firstCells,newRow,newObj,Sem.run];rw[if_neg (show ¬ (9223372036854775807:Int) < (k:Int) by omega),if_neg (by have:=Nat.mul_pos hk hsz;omega)]
theorem grow_run(s:Sim ρ H w) {ts:Array TypeId} {t u ty elem:TypeId} {k:IntKind} (ht:ts[0]? = some t) (hd:P.underlying t=some (.slice elem))
  (hu:ts[1]? = some u) (hud:P.underlying u=some (.int k))
  {x y v:AV} {x' y':Value} (h:growA P H elem x y=some (v,H')) (hx:VR ρ x x') (hy:VR ρ y y') :
  Good ρ H w ((Builtin.append_ ts ty #[x',y']).run P w) v H':=by
 replace h:=obs h;obtain⟨sz,hsz,h⟩:=h;replace h:=obs h;obtain⟨by_,hby,h⟩:=h;replace h:=obs h;obtain⟨z,hzz,h⟩:=h;split at h
 ·simp at h
 rename_i hcond;simp only[jM,Bool.not_eq_false']at hcond;obtain⟨hc0,hcz⟩:=hcond;have hszpos:0 < sz:=by
  rcases yC sz with h0|h0
  ·rw[h0]at hc0;simp at hc0
  ·exact h0
 simp only[jd]at hcz;have hbpos:0 < by_:=jB hcz.2;have hzl:=Nat.eq_of_beq_eq_true hcz.1;obtain⟨zv,rfl,hzr,_⟩:=qfh hzz;have hzs:zv.cells.size=sz:=by have:=(VRs.const (ρ:=ρ) zv).1;simp at this;omega
 have hS:=qcz hsz;obtain⟨ti,hti,rfl⟩:=qol hby;cases x with
 |nilS=>
  cases hx;cases y with
  |int k2 n=>
   cases k2 with
   |i64=>
    cases hy;replace h:=obs h;obtain⟨n2,hn,h⟩:=h;obtain⟨rfl,hlt⟩:=qdl hn;have hwr:IntKind.i64.wrap (n2:Int)=n2:=yO _ (by omega);cases n2 with
    |zero=>simp only[sj,jf]at h;obtain⟨rfl,rfl⟩:=h;refine Good.pure s .nilS ?_;simp[Builtin.append_,ht,hu,run_underlying hd,run_underlying hud,hS,asInt,asIntOf,hti,yO]
    |succ m=>
     simp only at h;split at h
     ·rename_i hroom;have hroom:=jB hroom;simp only[sj,jf]at h;obtain⟨rfl,rfl⟩:=h;have hzv:=qmg (ρ:=ρ) (n:=m+1) hzl hzs;have hzc:(Builtin.zeroCells zv.cells (m+1)).toList=((Array.range ((m+1) * sz)).map fun i=>zv.cells[i % zv.cells.size]!).toList:=(by simp[Builtin.zeroCells,hzs]);have hrun:=zhm (ty:=ty) (w:=w) ht hd hu hud hS hti hzr (k:=m+1) (by omega) hszpos hbpos hroom hlt;rw[hrun];obtain⟨x1,ρ1,w1,e1,g1,g2,g3⟩:=qxb (elem:=elem) (k:=qpi P elem (replL (ofV zv).cells (m+1))) qkw (old:=#[]) (new:=Builtin.zeroCells zv.cells (m+1)) (zv:=zv) (newCap:=(Question.appendCap (m+1) 0 elem).cut (w.tape w.drawn (.appendCap (m+1) 0 elem))) (need:=m+1) (sz:=sz) s
       (by rw[Array.empty_append,hzc];exact hzv) hzs (by rw[qhx,hzl]) (by simp[Question.cut]) (ziu (jK (Nat.le_mul_of_pos_right _ hbpos) hroom)) rfl
      exact⟨x1,ρ1,w1,e1,g1,g2,g3⟩
     ·simp at h
   |_=>simp at h
  |_=>simp at h
 |_=>simp at h
end
theorem qkr{z:List AV} (h:allSingle z=true):∀n,allSingle (replL z n)=true
 |0=>rfl
 |n+1=>by
  have app:∀(x y:List AV),allSingle x=true->allSingle y=true->allSingle (x++y)=true:=by
   intro x;induction x with
   |nil=>intro y _ hy;exact hy
   |cons v r ih=>
    intro y hx hy;simp only[List.cons_append,allSingle]at hx ⊢;split at hx
    next hv=>exact ih y hx hy
    ·cases hx
  exact app _ _ h (qkr h n)
theorem qt4:∀(ns:List Int) (l:List UInt8),ns.foldl (fun r n=>r.push (UInt8.ofNat n.toNat)) (⟨l.toArray⟩ : ByteArray)=⟨(l++ns.map fun n=>UInt8.ofNat n.toNat).toArray⟩
 |[],l=>by simp
 |n::ns,l=>by
  simp only[yB,jj];have e:(⟨l.toArray⟩ : ByteArray).push (UInt8.ofNat n.toNat)=⟨(l++[UInt8.ofNat n.toNat]).toArray⟩:=by simp[ByteArray.push]
  rw[e,qt4 ns];simp
section
variable {P:Program} {ρ:Place} {H H':Heap} {w:World}
theorem copy_run(s:Sim ρ H w) {ts:Array TypeId} {t ty elem:TypeId} (ht:ts[0]? = some t) (hd:P.underlying t=some (.slice elem))
  {x y v:AV} {x' y':Value} (h:copyA P H elem x y=some (v,H')) (hx:VR ρ x x') (hy:VR ρ y y') :
  Good ρ H w ((Builtin.copy_ ts ty #[x',y']).run P w) v H':=by
 replace h:=obs h;obtain⟨sz,hsz,h⟩:=h;replace h:=obs h;obtain⟨n,hn,h⟩:=h;have hl:=qsm (P:=P) hn hy w;have hS:=qcz hsz w;have slc:∀(b o len c:Nat) (l:Loc),ρ b=some l->((qbb H sz (Nat.min n len) y).bind fun cs=>match allSingle cs with
   |true=>(writeCells H b o cs).bind fun H'=>some (AV.int .i64 (Nat.min n len:Nat),H')
   |false=>none)=some (v,H')->Good ρ H w ((Builtin.copy_ ts ty #[.slice (some ⟨l.cb,l.off+o,none⟩) len c,y']).run P w) v H':=fun b o len c l hl0 h=>by
  replace h:=obs h;obtain⟨cs,hcs,h⟩:=h;split at h
  next hsing=>replace h:=obs h;obtain⟨H1,hw,h⟩:=h;simp only[sj,jf]at h;obtain⟨rfl,rfl⟩:=h;obtain⟨cn,hr,hcv,_⟩:=qfj (P:=P) s hcs hn (Nat.min_le_left _ _) hy;obtain⟨h1,h2,h3⟩:=qmh (P:=P) s hw hl0 hcv (hcv.oneCell hsing);exact⟨_,ρ,_,by simp[Builtin.copy_,ht,run_underlying hd,hl,hS,hr,h1,goInt],.int _ _,h2,h3⟩
  ·simp at h
 cases hx with
 |nilS=>simp only[sj,jf]at h;obtain⟨rfl,rfl⟩:=h;obtain⟨c,hc,_⟩:=qds (P:=P) hn hy sz w;exact Good.pure s (.int _ _) (by simp[Builtin.copy_,ht,run_underlying hd,hl,hS,hc,goInt])
 |eslc a c=>simp only[sj,jf]at h;obtain⟨rfl,rfl⟩:=h;obtain⟨cn,hc,hcn⟩:=qds (P:=P) hn hy sz w;exact Good.pure s (.int _ _) (by simp[Builtin.copy_,ht,run_underlying hd,hl,hS,hc,goInt,hcn,storeCells])
 |zslcN=>simp only[sj,jf]at h;obtain⟨rfl,rfl⟩:=h;obtain⟨c,hc,_⟩:=qds (P:=P) hn hy sz w;exact Good.pure s (.int _ _) (by simp[Builtin.copy_,ht,run_underlying hd,hl,hS,hc,goInt])
 |zslcE a=>simp only[sj,jf]at h;obtain⟨rfl,rfl⟩:=h;obtain⟨cn,hc,hcn⟩:=qds (P:=P) hn hy sz w;exact Good.pure s (.int _ _) (by simp[Builtin.copy_,ht,run_underlying hd,hl,hS,hc,goInt,hcn,storeCells])
 |slcE b o len c l hl0 hlen=>exact slc b o len c l hl0 h
 |slcR b o len sz' c l hl0 hlen hf=>exact slc b o len c l hl0 h
 |_=>simp at h
theorem qhd(s:Sim ρ H w) {b:Nat} {es es':List (AV × AV)} {vs:List AV} {l:Loc} {ents ents':Array MapEntry} {clock clock':Nat} (hg:H.get b=some (.map es)) (hl:ρ b=some l)
  (hw:w.heap[l.cb]? = some (.map ents clock)) (h:(H.ready b vs).set b (.map es')=some H') (hsz:ents'.size=es'.length)
  (hv:∀i (h:i < es'.length) (h':i < ents'.size),VR ρ es'[i].1 ents'[i].key/\VR ρ es'[i].2 ents'[i].val) (hbn:zk2 ents' clock') :
  (setObj l.cb (.map ents' clock')).run P w=.ok () { w with heap:=w.heap.setIfInBounds l.cb (.map ents' clock') } /\
  Sim ρ H' { w with heap:=w.heap.setIfInBounds l.cb (.map ents' clock') }/\Step ρ H w ρ H' { w with heap:=w.heap.setIfInBounds l.cb (.map ents' clock') }:=by
 obtain⟨l',hl',_,hlt,_⟩:=s.block hg;rw[hl]at hl';cases hl';obtain⟨hn,hd,hk',⟨k0,hk0⟩,hs⟩:=qmn h s.nodup;refine⟨MapKept.run_setObj_map _ hw,s.turned hk0 hl hn hd hk' hs (by simp) (fun j hj=>?_) rfl rfl rfl ?_⟩
 ·show (w.heap.setIfInBounds l.cb _)[j]? = _;rw[Array.getElem?_setIfInBounds,if_neg (fun e=>hj e.symm)]
 ·refine⟨ents',clock',?_,hsz,hv,hbn⟩;show (w.heap.setIfInBounds l.cb _)[l.cb]? = _;rw[Array.getElem?_setIfInBounds];simp[hlt]
theorem ziz(s:Sim ρ H w) {ts:Array TypeId} {t ty:TypeId} (ht:ts[0]? = some t) {x:AV} {x':Value} (h:zcb P H t x=some H') (hx:VR ρ x x') :
  Good ρ H w ((Builtin.clear_ ts ty #[x']).run P w) (.tup []) H':=by
 replace h:=obs h;obtain⟨d,hd,h⟩:=h;have unit:VR ρ (.tup []) (.tuple #[]):=.tup [] #[] rfl (fun i h=>absurd h (jk i));have slc:∀(elem:TypeId) (b o len c:Nat) (l:Loc),d=.slice elem->ρ b=some l->((qc1 P elem).bind fun z=>(qcg P elem).bind fun sz=>match Nat.beq z.cells.length sz && allSingle z.cells with
   |true=>writeCells H b o (replL z.cells len)
   |false=>none)=some H'->Good ρ H w ((Builtin.clear_ ts ty #[.slice (some ⟨l.cb,l.off+o,none⟩) len c]).run P w) (.tup []) H':=fun elem b o len c l hde hl0 g=>by
  subst hde;replace g:=obs g;obtain⟨z,hz,g⟩:=g;replace g:=obs g;obtain⟨sz,hsz,g⟩:=g;split at g
  ·rename_i hc;simp only[jd]at hc;obtain⟨zv,rfl,hzr,_⟩:=qfh hz;have hzl:=Nat.eq_of_beq_eq_true hc.1;have hzs:zv.cells.size=sz:=(by have:=(VRs.const (ρ:=ρ) zv).1;simp at this;omega);have hzv:=qmg (ρ:=ρ) (n:=len) hzl hzs;obtain⟨h1,h2,h3⟩:=qmh (P:=P) s g hl0 hzv (hzv.oneCell (qkr hc.2 len));have hzc:(Builtin.zeroCells zv.cells len).toList=((Array.range (len * sz)).map fun i=>zv.cells[i % zv.cells.size]!).toList:=(by simp[Builtin.zeroCells,hzs]);cases len with
   |zero=>
    refine⟨.tuple #[],ρ,w,by simp[Builtin.clear_,ht,run_underlying hd],unit,?_,?_⟩
    ·simpa[World.setCells]using h2
    ·simpa[World.setCells]using h3
   |succ len=>rw[<- hzc]at h1 h2 h3;refine⟨_,ρ,_,?_,unit,h2,h3⟩;simp[Builtin.clear_,ht,run_underlying hd,hzr,h1]
  ·simp at g
 cases hx with
 |nilS=>
  have:H'=H:=by cases d<;>simpa using h.symm
  subst this;exact Good.pure s unit (by cases d<;>simp[Builtin.clear_,ht,run_underlying hd])
 |eslc a c=>
  have:H'=H:=by cases d<;>simpa using h.symm
  subst this;exact Good.pure s unit (by cases d<;>simp[Builtin.clear_,ht,run_underlying hd])
 |zslcN=>
  have:H'=H:=by cases d<;>simpa using h.symm
  subst this;exact Good.pure s unit (by cases d<;>simp[Builtin.clear_,ht,run_underlying hd])
 |zslcE a=>
  have:H'=H:=by cases d<;>simpa using h.symm
  subst this;exact Good.pure s unit (by cases d<;>simp[Builtin.clear_,ht,run_underlying hd])
 |nilM=>
  have:H'=H:=by cases d<;>simpa using h.symm
  subst this;exact Good.pure s unit (by cases d<;>simp[Builtin.clear_,ht,run_underlying hd])
 |slcE b o len c l hl0 hlen=>cases d<;>first|exact slc _ b o len c l rfl hl0 h|simp at h
 |slcR b o len sz' c l hl0 hlen hf=>cases d<;>first|exact slc _ b o len c l rfl hl0 h|simp at h
 |map b l hl0=>
  cases d<;>try (simp at h;done)
  case map k e=>
  replace h:=obs h;obtain⟨k,hk,h⟩:=h;cases k with
  |map es=>obtain⟨l',hl',_,_,hr⟩:=s.block hk;rw[hl0]at hl';cases hl';obtain⟨ents,clock,hw,_,_⟩:=hr;obtain⟨h1,h2,h3⟩:=qhd (P:=P) (vs:=[]) (ents':=#[]) (clock':=clock) s hk hl0 hw h rfl (fun i h=>absurd h (jk i)) (by simp[zk2]);exact⟨_,ρ,_,by simp[Builtin.clear_,ht,run_underlying hd,yk hw,h1],unit,h2,h3⟩
  |_=>simp at h
 |_=>cases d<;>simp at h
theorem msB_run{t:TypeId} {l c:AV} {k:(Nat->AV) × Blk} {l' c':Value} (h:msB P t l c=some k) (hl:VR ρ l l') (hc:VR ρ c c') :
  ∃(ob:Obj) (fin:Nat) (x:Value),(Instr.makeSlice t l' c').run P w=.ok x (w.alloc ob)/\∀n,ρ n=none ->
   VR (ρ.upd n ⟨w.heap.size,0,fin⟩) (k.1 n) x/\BlkR (ρ.upd n ⟨w.heap.size,0,fin⟩) (w.alloc ob) ⟨w.heap.size,0,fin⟩ k.2:=by
 unfold msB at h;replace h:=obs h;obtain⟨d,hd,h⟩:=h;cases d with
 |slice elem=>
  replace h:=obs h;obtain⟨sz,hsz,h⟩:=h;replace h:=obs h;obtain⟨by_,hby,h⟩:=h;split at h
  ·rename_i ci li;cases hl;cases hc;replace h:=obs h;obtain⟨c,hci,h⟩:=h;replace h:=obs h;obtain⟨l,hli,h⟩:=h;obtain⟨rfl,hclt⟩:=qdl hci;obtain⟨rfl,hllt⟩:=qdl hli;split at h
   ·rename_i hroom;have hroom:=jB hroom;replace h:=obs h;obtain⟨z,hz,h⟩:=h;obtain⟨zv,rfl,hzr,_⟩:=qfh hz;split at h
    ·rename_i hzl;have hzl:=Nat.eq_of_beq_eq_true hzl;simp only[sj]at h;subst h;have hzs:zv.cells.size=sz:=(by have:=(VRs.const (ρ:=ρ) zv).1;simp at this;omega);have hzv:=qmg (ρ:=ρ) (n:=c) hzl hzs;obtain⟨ti,hti,rfl⟩:=qol hby;have hwl:IntKind.i64.wrap (l:Int)=l:=yO _ (by omega);have hwc:IntKind.i64.wrap (c:Int)=c:=yO _ (by omega);have hcast:((ti.bytes:Int) * (c:Int))=((c * ti.bytes:Nat):Int):=(by rw[Nat.mul_comm];simp);have hA:¬ (281474976710656 < (ti.bytes:Int) * (c:Int)):=(by rw[hcast];omega);have hB':¬ c < l:=(by omega);have hS:=qcz hsz w;have hc0:¬ ((c:Nat):Int) < 0:=(by omega);have hl0:¬ ((l:Nat):Int) < 0:=(by omega);refine⟨.cells ((Array.range (c * sz)).map fun i=>zv.cells[i % zv.cells.size]!) elem,((Array.range (c * sz)).map fun i=>zv.cells[i % zv.cells.size]!).size,.slice (some ⟨w.heap.size,0,none⟩) l c,?_,fun m hm=>⟨.slcE m 0 l c _ Place.upd_same (by omega),
      qv9 (by rw[<- hzv.1];simp) (fun i h h'=>(hzv.2 i h (by simpa using h')).mono (Place.le_upd hm)) (fun i _=>by simp)⟩⟩
     by_cases h0:c * sz=0
     ·simp[Instr.makeSlice,run_underlying hd,asInt,asIntOf,hti,hwl,hwc,hA,hB',hc0,hl0,hS,h0,newRow,newObj,Sem.run];have e0:∀f:Nat->Value,(Array.range 0).map f = #[]:=fun f=>(by apply Array.ext';simp);rw[e0,e0]
     ·simp[Instr.makeSlice,run_underlying hd,asInt,asIntOf,hti,hwl,hwc,hA,hB',hc0,hl0,hS,h0,hzr,newRow,newObj,Sem.run]
    ·simp at h
   ·simp at h
  ·simp at h
 |_=>simp at h
theorem qrv:∀{cs:List AV} {st:List UInt8} {xs:List Value},qm7 cs=some st->VRs ρ cs xs->∃ns:List Int,xs=ns.map (Value.int .u8)/\st=ns.map fun n=>UInt8.ofNat n.toNat
 |[],st,xs,h,hv=>by
  simp only[qm7,sj]at h;subst h;cases xs with
  |nil=>exact⟨[],rfl,rfl⟩
  |cons _ _=>have:=hv.1;simp at this
 |v::r,st,xs,h,hv=>by
  replace h:=obs h;obtain⟨c,hc,h⟩:=h;replace h:=obs h;obtain⟨rs,hrs,h⟩:=h;simp only[sj]at h;subst h;cases xs with
  |nil=>have:=hv.1;simp at this
  |cons x xs=>
   obtain⟨ns,rfl,rfl⟩:=qrv hrs hv.tail;have hh:=hv.head;unfold qzr at hc;split at hc
   next n=>cases hh;simp only[sj]at hc;subst hc;exact⟨n::ns,rfl,rfl⟩
   ·simp at hc
theorem conv_run(s:Sim ρ H w) {src dst:TypeId} {x v:AV} {x':Value} (h:qh7 P H src dst x=some (v,H')) (hx:VR ρ x x') :
  Good ρ H w ((convert src dst x').run P w) v H':=by
 replace h:=obs h;obtain⟨sd,hsd,h⟩:=h;replace h:=obs h;obtain⟨dd,hdd,h⟩:=h;split at h
 ·cases hx;simp only[sj,jf]at h;obtain⟨rfl,rfl⟩:=h;exact Good.pure s (.int _ _) (by simp[convert,run_underlying hsd,run_underlying hdd,Conv.intToInt])
 ·cases hx;simp only[sj,jf]at h;obtain⟨rfl,rfl⟩:=h;exact Good.pure s (.str _) (by simp[convert,run_underlying hsd,run_underlying hdd,Conv.intToString])
 ·cases hx;simp only[sj,jf]at h;obtain⟨rfl,rfl⟩:=h;exact Good.pure s (.str _) (by cases sd<;>simp[convert,run_underlying hsd,run_underlying hdd])
 ·rename_i e st;cases hx;replace h:=obs h;obtain⟨ed,hed,h⟩:=h;split at h
  ·split at h
   ·rename_i hroom;simp only[sj,jf]at h;obtain⟨rfl,rfl⟩:=h;have hrun:=run_bytes_of_string (P:=P) w src dst e ⟨st.toArray⟩ hsd hdd hed;have hcap:st.length<=grownCap w (⟨st.toArray⟩ : ByteArray).size 0 e:=(by rw[qed];simp[grownCap,Question.cut]);have hcap63:grownCap w (⟨st.toArray⟩ : ByteArray).size 0 e<=9223372036854775807:=ziu (by rw[qed];have:=jB hroom;omega);generalize hgc:grownCap w (⟨st.toArray⟩ : ByteArray).size 0 e=cap at hrun hcap hcap63;have hrow:(bytesRow ⟨st.toArray⟩ cap).size=cap:=(by simp[bytesRow,qed];omega);have hle:ρ.le (ρ.upd H.n ⟨w.heap.size,0,(bytesRow ⟨st.toArray⟩ cap).size⟩):=Place.le_upd (s.dom _ (jc _));obtain⟨g1,g2⟩:=s.drew.new (.cells (bytesRow ⟨st.toArray⟩ cap) e ((bytesRow ⟨st.toArray⟩ cap).size,(bytesRow ⟨st.toArray⟩ cap).size+1)) (bytesRow ⟨st.toArray⟩ cap).size (.cells (qad st))
     (qv9 (by rw[qbr,hrow];exact hcap) (fun i h1 h2=>by rw[qm8];rw[qbr]at h1;have:(bytesRow ⟨st.toArray⟩ cap)[i]? = some (.int .u8 (st[i].toNat:Int)):=(by have:=bytesRow_at ⟨st.toArray⟩ cap i (by simpa using h1);simpa using this);rw[Array.getElem?_eq_getElem h2]at this;simp only[sj]at this;rw[this];exact .int _ _) (fun i hi=>by simp;omega))
    refine⟨_,_,_,hrun,?_,g1,(Step.drew _ _ _).trans g2⟩;rw[qed];exact .slcR H.n 0 st.length 1 cap ⟨w.heap.size,0,(bytesRow ⟨st.toArray⟩ cap).size⟩ Place.upd_same hcap ⟨by simp[hrow],hcap63⟩
   ·simp at h
  ·simp at h
 ·rename_i e hne;replace h:=obs h;obtain⟨ed,hed,h⟩:=h;split at h
  ·replace h:=obs h;obtain⟨n,hn,h⟩:=h;replace h:=obs h;obtain⟨cs,hcs,h⟩:=h;replace h:=obs h;obtain⟨st,hst,h⟩:=h;simp only[sj,jf]at h;obtain⟨rfl,rfl⟩:=h;obtain⟨cn,hr,hcv,_⟩:=qfj (P:=P) s hcs hn (jc _) hx;obtain⟨ns,hns,rfl⟩:=qrv hst hcv;have some_:∀(a:Addr) (c:Nat),x'=.slice (some a) n c->Good ρ H w ((convert src dst x').run P w) (.str (ns.map fun n=>UInt8.ofNat n.toNat)) H:=fun a c hxe=>(by subst hxe;refine Good.pure s (.str _) ?_;rw[run_convert_bytes_string w src dst e (some a) n c hsd hed hdd];have hload:(loadCells a n).run P w=.ok (ns.map (Value.int .u8)).toArray w:=(by simp only[Builtin.firstCells,y8]at hr;rw[hr,<- hns,yL]);have:=run_bytesToString (P:=P) w a n c ns hload;rw[this];have e0:ByteArray.empty=(⟨([]:List UInt8).toArray⟩ : ByteArray):=rfl;rw[e0,qt4];simp);cases hx with
   |nilS=>simp only[qc7,sj]at hn;subst hn;simp only[Builtin.firstCells,yq,Result.ok.injEq,and_true]at hr;subst hr;have:ns=[]:=(by simpa using hns.symm);subst this;exact Good.pure s (.str []) (by rw[run_convert_bytes_string w src dst e none 0 0 hsd hed hdd];rfl)
   |fnil sz=>have hn:0=n:=(by simpa[qc7]using hn);subst hn;simp only[Builtin.firstCells,yq,Result.ok.injEq,and_true]at hr;subst hr;have:ns=[]:=(by simpa using hns.symm);subst this;exact Good.pure s (.str []) (by rw[run_convert_bytes_string w src dst e none 0 0 hsd hed hdd];rfl)
   |fnone sz a c=>have hn:0=n:=(by simpa[qc7]using hn);subst hn;exact some_ _ _ rfl
   |zslcN=>have hn:0=n:=(by simpa[qc7]using hn);subst hn;simp only[Builtin.firstCells,yq,Result.ok.injEq,and_true]at hr;subst hr;have:ns=[]:=(by simpa using hns.symm);subst this;exact Good.pure s (.str []) (by rw[run_convert_bytes_string w src dst e none 0 0 hsd hed hdd];rfl)
   |zslcE a=>have hn:0=n:=(by simpa[qc7]using hn);subst hn;exact some_ _ _ rfl
   |eslc a c=>simp only[qc7,sj]at hn;subst hn;exact some_ _ _ rfl
   |slcE b o len c l hl0 hlen=>simp only[qc7,sj]at hn;subst hn;exact some_ _ _ rfl
   |slcR b o len sz' c l hl0 hlen hf=>simp only[qc7,sj]at hn;subst hn;exact some_ _ _ rfl
   |fslc sz es cb off cap vs hB hcap hz hc hv=>simp only[qc7,sj]at hn;subst hn;exact some_ _ _ rfl
   |str st=>exact(hne st rfl).elim
   |_=>simp[qc7]at hn
  ·simp at h
 ·rename_i u b o;replace h:=obs h;obtain⟨n,hn,h⟩:=h;replace h:=obs h;obtain⟨k,hk,h⟩:=h;replace h:=obs h;obtain⟨cs,hrd,h⟩:=h;split at h
  ·rename_i hc;simp only[jd]at hc;have hn0:0 < n:=jB hc.1;have hlt:o < cs.length:=jB hc.2;simp only[sj,jf]at h;obtain⟨rfl,rfl⟩:=h;cases hx with
   |ptr _ _ l hl=>
    obtain⟨l',hl',_,_,hr0⟩:=s.block hk;rw[hl]at hl';cases hl';have hr:=hr0.rdR hrd;obtain⟨j,hj,rfl⟩:=qic hn;obtain⟨x,hx,_⟩:=hr.2.2 o hlt;have hrow:∃c e fr,w.heap[l.cb]? = some (.cells c e fr)/\l.off+o < c.size:=by
     unfold World.cell? at hx;split at hx
     ·rename_i c e fr he;simp only at he;refine⟨c,e,fr,he,?_⟩;by_cases hlt2:l.off+o < c.size
      ·exact hlt2
      ·have hz:c.size<=l.off+o:=(by omega);simp[hz]at hx
     ·simp at hx
    obtain⟨c,e,fr,he,hoff⟩:=hrow;exact Good.pure s (.ptr _ _ l hl) (Lib.run_to_unsafe (P:=P) w ⟨l.cb,l.off+o,none⟩ hsd hdd hj (by omega) (e:=e) (by simp only[World.shape?,he]) hoff)
  ·simp at h
 ·rename_i u b o;replace h:=obs h;obtain⟨n,hn,h⟩:=h;replace h:=obs h;obtain⟨k,hk,h⟩:=h;split at h
  ·rename_i t cs;split at h
   ·rename_i hlies;simp only[sj,jf]at h;obtain⟨rfl,rfl⟩:=h;cases hx with
    |ptr _ _ l hl=>obtain⟨l',hl',_,_,hr0⟩:=s.block hk;rw[hl]at hl';cases hl';obtain⟨_,h0,hsh⟩:=hr0;obtain⟨j,hj,_⟩:=qic hn;exact Good.pure s (.ptr _ _ l hl) (Lib.run_from_unsafe (P:=P) w ⟨l.cb,l.off+o,none⟩ hsd hdd hj hsh (by simpa only[h0,jO]using hlies))
   ·simp at h
  ·simp at h
 ·simp at h
end
section
variable {P:Program} {ρ:Place} {H H':Heap} {w:World}
theorem zh3{t:TypeId} {d:TypeDesc} {a b:AV} {q:Bool} {a' b':Value} (h:qz0 P t d a b=some q) (hd:P.underlying t=some d) (ha:VR ρ a a') (hb:VR ρ b b') :
  (∀w,(Op.equal t a' b').run P w=.ok q w)/\(qjd d=true->Instr.sameNow d a' b'=some q)/\(qjd d=false->∃fs,d=.struct fs):=by
 unfold qz0 at h;split at h
 ·rename_i hp;refine⟨fun w=>qoc h ha hb hd 9999 w,fun _=>?_,fun hf=>by rw[hp]at hf;cases hf⟩;unfold qkb at h;split at h<;>first|contradiction|skip
  all_goals (try (simp[qjd]at hp;done))
  ·cases ha;cases hb;exact h
  ·cases ha;cases hb;simp only[Instr.sameNow];exact h
  ·cases ha;cases hb;simp only[Instr.sameNow,qxz];exact h
 ·rename_i hp;split at h
  next fs=>exact⟨fun w=>(zik h ha hb w).1,fun hf=>(by rw[hp]at hf;cases hf),fun _=>⟨fs,rfl⟩⟩
  ·simp at h
theorem qrr{xs:List AV} {xs':Array Value} (hx:VRs ρ xs xs'.toList) (empty:Bool) (n:Nat) (w:World):∀{fs:List Field},eqFields P fs xs xs=some true ->
  (forIn fs PUnit.unit (fun f _=>
   if f.name ≠ "_" then do
    let a <- part f.type xs' f.offset
    Instr.checkKey empty (n+1) f.type a
    pure (ForInStep.yield PUnit.unit)
   else pure (ForInStep.yield PUnit.unit)):Sem PUnit).run P w=.ok PUnit.unit w
 |[],_=>rfl
 |f::fs,h=>by
  unfold eqFields at h;split at h
  ·simp at h
  ·rename_i hne
   have hne : f.name ≠ "_" := by simpa using hne
   replace h:=obs h;obtain⟨d,hd,h⟩:=h;split at h
   ·simp at h
   ·rename_i hpl;replace h:=obs h;obtain⟨x,hxx,h⟩:=h;replace h:=obs h;obtain⟨y,hyy,h⟩:=h;replace h:=obs h;obtain⟨e,he,h⟩:=h;have hag:qi8 P f.type=some false:=by unfold qi8;rw[hd];cases d<;>first|rfl|simp[qjd]at hpl
    obtain⟨x',hx1,hx2⟩:=qmv (P:=P) (t:=f.type) (off:=f.offset) (v:=x) (by simp[zdc,hag,hxx]) hx w;have hck:(Instr.checkKey empty (n+1) f.type x').run P w=.ok () w:=by unfold Instr.checkKey;simp only[jH,run_underlying hd,j7];cases d<;>first|rfl|simp[qjd]at hpl
    cases e with
    |true=>have ih:=qrr hx empty n w h;simp only[List.forIn_cons,hne,ne_eq,not_false_eq_true,if_true,jH,hx1,hck,j7,yq];exact ih
    |false=>simp at h
theorem qkh{t:TypeId} {d:TypeDesc} {k:AV} {k':Value} (h:qx1 P t d k=some ()) (hd:P.underlying t=some d) (hk:VR ρ k k') (empty:Bool) (n:Nat) (w:World) :
  (Instr.checkKey empty (n+2) t k').run P w=.ok () w:=by
 replace h:=obs h;obtain⟨q,hq,h⟩:=h;split at h
 ·unfold qz0 at hq;split at hq
  next hp=>unfold Instr.checkKey;simp only[jH,run_underlying hd,j7];cases d<;>first|rfl|simp[qjd]at hp
  ·split at hq
   ·rename_i fs;replace hq:=obs hq;obtain⟨d2,hd2,hq⟩:=hq;rw[hd]at hd2;cases hd2;cases hk<;>simp only at hq
    case agg cs vs hl hv=>
     split at hq
     ·have:=qrr (qma hl hv) empty n w hq;unfold Instr.checkKey;simp only[jH,run_underlying hd,j7];rw[<- Array.forIn_toList,this];rfl
     ·simp at hq
    all_goals (unfold qkb at hq;simp at hq)
   ·simp at hq
 ·simp at h
def EntR(ρ:Place) (es:List (AV × AV)) (l:List MapEntry):Prop:=l.length=es.length/\∀i (h:i < es.length) (h':i < l.length),VR ρ es[i].1 l[i].key/\VR ρ es[i].2 l[i].val
theorem EntR.tail{e:AV × AV} {es:List (AV × AV)} {x:MapEntry} {l:List MapEntry} (h:EntR ρ (e::es) (x::l)):EntR ρ es l:=
 ⟨by simpa using h.1,fun i h1 h2=>h.2 (i+1) (by simpa using h1) (by simpa using h2)⟩
theorem zg2{t:TypeId} {d:TypeDesc} {k:AV} {k':Value} (hd:P.underlying t=some d) (hk:VR ρ k k') (w:World) :
  ∀{es:List (AV × AV)} {l:List MapEntry} {i:Nat} {r:Option Nat},posA P t d k i es=some r->EntR ρ es l ->
   (qjd d=true->Instr.findNow d k' l i=some (r.bind fun j=>(l[j - i]?).map fun e=>(j,e.val))) /\
   (Instr.findAsking t k' l i).run P w=.ok (r.bind fun j=>(l[j - i]?).map fun e=>(j,e.val)) w/\∀j,r=some j->i<=j/\j - i < l.length
 |[],l,i,r,h,he=>by
  simp only[posA,sj]at h;subst h;cases l with
  |nil=>exact⟨fun _=>rfl,rfl,fun j e=>by cases e⟩
  |cons _ _=>have:=he.1;simp at this
 |e::es,l,i,r,h,he=>by
  cases l with
  |nil=>have:=he.1;simp at this
  |cons x l=>
   replace h:=obs h;obtain⟨q,hq,h⟩:=h;obtain⟨h1,h2,_⟩:=zh3 hq hd hk (he.2 0 (by simp) (by simp)).1;simp only[j5]at h1 h2;cases q with
   |true=>
    simp only[sj]at h;subst h;refine⟨fun hp=>?_,?_,fun j e=>by cases e;simp⟩
    ·simp[Instr.findNow,h2 hp]
    ·simp[Instr.findAsking,h1]
   |false=>
    simp only at h;obtain⟨g1,g2,g3⟩:=zg2 hd hk w h he.tail;have hsh:(r.bind fun j=>(l[j - (i+1)]?).map fun e=>(j,e.val))=(r.bind fun j=>((x::l)[j - i]?).map fun e=>(j,e.val)):=by
     cases r with
     |none=>rfl
     |some j=>have:=(g3 j rfl).1;simp only[jb];rw[show j - i=(j - (i+1))+1 by omega];simp
    refine⟨fun hp=>?_,?_,fun j e=>?_⟩
    ·rw[<- hsh];simp only[Instr.findNow,h2 hp];exact g1 hp
    ·rw[<- hsh];simp only[Instr.findAsking,jH,h1,j7];exact g2
    ·obtain⟨a,b⟩:=g3 j e;simp only[jx];omega
theorem qut{t:TypeId} {d:TypeDesc} {k:AV} {k':Value} (hd:P.underlying t=some d) (hk:VR ρ k k') (hok:qx1 P t d k=some ()) (w:World) {es:List (AV × AV)} {l:List MapEntry} {r:Option Nat}
  (h:posA P t d k 0 es=some r) (he:EntR ρ es l):(Instr.findKey t k' l).run P w=.ok (r.bind fun j=>(l[j]?).map fun e=>(j,e.val)) w/\∀j,r=some j->j < l.length:=by
 obtain⟨h1,h2,h3⟩:=zg2 hd hk w h he;simp only[Nat.sub_zero]at h1 h2 h3;refine⟨?_,fun j e=>(h3 j e).2⟩;cases hp:qjd d with
 |true=>exact MapKept.run_findKey hd (h1 hp)
 |false=>
  have:∃fs,d=.struct fs:=by unfold qx1 qz0 at hok;rw[hp]at hok;cases d<;>simp at hok;exact⟨_,rfl⟩
  obtain⟨fs,rfl⟩:=this;cases l with
  |nil=>
   cases es with
   |nil=>simp only[posA,sj]at h;subst h;simp[Instr.findKey,run_underlying hd,Instr.findNow]
   |cons _ _=>have:=he.1;simp at this
  |cons x l=>have hn:Instr.findNow (.struct fs) k' (x::l) 0=none:=(by simp[Instr.findNow,Instr.sameNow]);simp only[Instr.findKey,jH,run_underlying hd,j7,hn];exact h2
theorem zje{ents:Array MapEntry} {clock:Nat} {k v:Value} (h:zk2 ents clock):zk2 (ents.push { key:=k,val:=v,born:=clock }) (clock+1):=by
 obtain⟨h1,h2⟩:=h;refine⟨?_,fun x hx=>?_⟩
 ·rw[Array.toList_push,j3,yb];refine⟨h1,by simp,fun a ha b hb=>?_⟩;simp at hb;obtain⟨x,hx,rfl⟩:=ji.1 ha;have:=h2 x hx;omega
 ·rw[Array.toList_push]at hx;rcases jl.1 hx with hx|hx
  ·have:=h2 x hx;omega
  ·simp at hx;subst hx;simp
theorem qzv{ents:Array MapEntry} {clock i:Nat} {k v:Value} (h:zk2 ents clock):zk2 (ents.modify i fun e=>{ e with key:=k,val:=v }) clock:=by
 obtain⟨h1,h2⟩:=h;have e:(ents.modify i fun e=>{ e with key:=k,val:=v }).toList.map (·.born)=ents.toList.map (·.born):=by
  apply List.ext_getElem
  ·simp
  ·intro j g1 g2;simp only[jT,Array.getElem_toList,Array.getElem_modify];split<;>rfl
 refine⟨by rw[e];exact h1,fun x hx=>?_⟩;have:x.born∈(ents.modify i fun e=>{ e with key:=k,val:=v }).toList.map (·.born):=ji.2 ⟨x,hx,rfl⟩;rw[e]at this;obtain⟨y,hy,hyx⟩:=ji.1 this;have:=h2 y hy;omega
theorem ze6{ents:Array MapEntry} {clock i:Nat} (h:zk2 ents clock):zk2 (ents.eraseIdxIfInBounds i) clock:=by
 obtain⟨h1,h2⟩:=h;have hs:(ents.eraseIdxIfInBounds i).toList.Sublist ents.toList:=by
  unfold Array.eraseIdxIfInBounds;split
  ·rw[Array.toList_eraseIdx];exact List.eraseIdx_sublist _ _
  ·exact yj _
 exact⟨(hs.map _).nodup h1,fun x hx=>h2 x (hs.subset hx)⟩
theorem VR.plain{ρ ρ':Place} {v:AV} {x:Value} (r:VR ρ v x) (h:ze7 v=true):VR ρ' v x:=by cases r<;>first|(simp[ze7]at h;done)|constructor
theorem qy3:∀{es:List (AV × AV)},zjm es=true->∀i (h:i < es.length),ze7 es[i].1=true/\ze7 es[i].2=true
 |[],_,i,h=>absurd h (jk i)
 |e::r,h,i,hi=>by
  unfold zjm at h;split at h
  ·rename_i hb;simp only[jd]at hb;cases i with
   |zero=>exact hb
   |succ i=>exact qy3 h i (by simpa using hi)
  ·cases h
def Place.cold(ρ:Place) (w:World) (c:Nat) (hw:∀k,ρ.B k->w.heap[k]? = ρ.W.heap[k]?):Place:=
 ⟨ρ.at_,w,fun k=>ρ.B k\/k=c,
  fun g hg=>⟨.inl (ρ.gl g hg).1,let ⟨m,hm⟩:=(ρ.gl g hg).2;⟨m,by rw[World.cell?,hw g (ρ.gl g hg).1];exact hm⟩⟩,
  fun g hg=>⟨.inl (ρ.gi g hg).1,let ⟨v,hm,hv⟩:=(ρ.gi g hg).2;⟨v,by rw[World.cell?,hw g (ρ.gi g hg).1];exact hm,hv⟩⟩,
  fun x hx=>⟨.inl (ρ.gp x hx).1,fun i n hi=>by rw[World.cell?,hw x.1 (ρ.gp x hx).1];exact(ρ.gp x hx).2 i n hi⟩,
  fun x hx=>⟨.inl (ρ.gx x hx).1,let ⟨t,fz,h⟩:=(ρ.gx x hx).2;⟨t,fz,(hw x.1 (ρ.gx x hx).1).trans h⟩⟩⟩
theorem Sim.cold_le(s:Sim ρ H w) (c:Nat):ρ.le (ρ.cold w c s.below):=⟨fun _ _ h=>h,fun k hk=>⟨.inl hk,s.below k hk⟩,s.os,s.tape,s.output⟩
theorem zbl{b:Nat}:∀{f:List (Nat × Blk)},(f.map (·.1)).Nodup->∀e,e∈killF b f->e.1≠b
 |[],_,e,he=>by cases he
 |x::r,hn,e,he=>by
  rw[jj,jr]at hn;unfold killF at he;split at he
  next hb=>have hb:=Nat.eq_of_beq_eq_true hb;intro h;exact hn.1 (ji.2 ⟨e,he,by rw[h,hb]⟩)
  ·rename_i hb;rcases ja.1 he with rfl|he
   ·intro h;rw[h,jD]at hb;cases hb
   ·exact zbl hn.2 e he
theorem zhn{b:Nat}:∀{f:List (Nat × Blk)},getF b f=none->∀e,e∈f->e.1≠b
 |[],_,e,he=>by cases he
 |x::r,h,e,he=>by
  unfold getF at h;split at h
  ·cases h
  ·rename_i hb;rcases ja.1 he with rfl|he
   ·intro h2;rw[h2,jD]at hb;cases hb
   ·exact zhn h e he
theorem qwz{b:Nat}:∀{fs:List (List (Nat × Blk))},(fs.flatten.map (·.1)).Nodup->∀e,e∈(qem b fs).flatten->e.1≠b
 |[],_,e,he=>by simp[qem]at he
 |f::r,hn,e,he=>by
  rw[je,j3,yb]at hn;unfold qem at he;split at he
  ·rename_i k hk;rw[je,jl]at he;rcases he with he|he
   ·exact zbl hn.1 e he
   ·intro h;have:=hn.2.2 b (ji.2 ⟨(b,k),quk hk,rfl⟩) e.1 (ji.2 ⟨e,he,rfl⟩);exact this h.symm
  ·rename_i hk;rw[je,jl]at he;rcases he with he|he
   ·exact zhn hk e he
   ·exact qwz hn.2.1 e he
theorem drop_ne{H:Heap} {b:Nat} (hn:(H.ents.map (·.1)).Nodup) {e:Nat × Blk} (he:e∈(H.drop b).ents):e.1≠b:=qwz hn e he
theorem Sim.ranged(s:Sim ρ H w) {b:Nat} {es:List (AV × AV)} {l:Loc} (hk:H.get b=some (.map es)) (hl:ρ b=some l) (hb:zjm es=true) :
  ∃(w1:World) (ρ1:Place),VR ρ1 (.ptr H.n 0) (.pointer (some ⟨w.heap.size,0,none⟩))/\Sim ρ1 ((H.drop b).new (.rng es none)) w1/\Step ρ H w ρ1 ((H.drop b).new (.rng es none)) w1 /\
   ∀t k e (_:Unit),P.underlying t=some (.map k e)->(Instr.range t (.map (some l.cb))).run P w=.ok (.pointer (some ⟨w.heap.size,0,none⟩)) w1:=by
 obtain⟨l',hl',hnB,hlt,ents,clock,hw,hsz,hv,hbn⟩:=s.block hk;rw[hl]at hl';cases hl';obtain⟨s1,t1⟩:=s.dropped b;have hlive:=s.live;have hmem:(b,Blk.map es)∈H.ents:=Heap.get_mem hk;have hsub:∀e,e∈(H.drop b).ents->e∈H.ents/\e.1≠b:=fun e he=>⟨(qo4 b H.fs).subset he,drop_ne s.nodup he⟩;have hoff:∀e,e∈(H.drop b).ents->∀l2,ρ e.1=some l2->l2.cb≠l.cb:=fun e he l2 hl2 hcb=>by obtain⟨h1,h2⟩:=hsub e he;exact h2 (s.inj e (b,.map es) h1 hmem l2 l hl2 hl hcb)
 have hle:=s.cold_le l.cb;have s2:Sim (ρ.cold w l.cb s.below) (H.drop b) w:={
  base:=fun k hk=>by
   rcases hk with hk|rfl
   ·exact s.base k hk
   ·exact hlt
  below:=fun _ _=>rfl
  os:=rfl
  tape:=rfl
  output:=rfl
  dom:=s1.dom
  nodup:=s1.nodup
  live:=fun e he=>by
   obtain⟨l2,g1,g2,g3,g4⟩:=s1.live e he;refine⟨l2,g1,?_,g3,g4.mono hle⟩;rintro(h|h)
   ·exact g2 h
   ·exact hoff e he l2 g1 h
  inj:=s1.inj }
 have t2:Step ρ H w (ρ.cold w l.cb s.below) (H.drop b) w:={
  le:=hle
  size:=jc _
  keeps:=fun _ _ _=>rfl
  rows:=fun e he l2 h=>.inl ⟨e,(hsub e he).1,l2,h,rfl⟩
  num:=t1.num
  low:=fun _ _=>rfl
  cold:=fun k hk=>by
   rcases hk with hk|rfl
   ·exact .inl hk
   ·exact .inr (.inl ⟨_,hmem,l,hl,rfl⟩) }
 have hleft:leftOf ents #[]=ents:=by unfold leftOf;exact Array.filter_eq_self.2 fun x _=>by simp
 obtain⟨g1,g2⟩:=s2.new (.mapIter (some l.cb) clock #[] clock) 0 (.rng es none) ⟨rfl,⟨l.cb,ents,clock,clock,#[],clock⟩,.inr rfl,hw,⟨hbn.1,hbn.2,jc _,rfl⟩,by show (w.heap.push _)[w.heap.size]? = _;simp,⟨⟨by simp[hleft,hsz],fun i a c=>by have hi:i < ents.size:=(by omega);have hx:=hv i a hi;have hp:=qy3 hb i a;simp only[hleft,Array.getElem_toList];exact⟨hx.1.plain hp.1,hx.2.plain hp.2⟩⟩,fun e he=>by cases he⟩⟩;have hn:(H.drop b).n=H.n:=rfl;refine⟨_,_,?_,g1,t2.trans g2,fun t k e _ ht=>run_range_map w t k e l.cb ents clock ht hw⟩;exact .ptr H.n 0 _ Place.upd_same
theorem zil{l cbm since c0 clock:Nat} {seen sn:Array Nat} {ents:Array MapEntry} {y:MapEntry} (h1:w.heap[l]? = some (.mapIter (some cbm) since seen c0)) (h2:w.heap[cbm]? = some (.map ents clock)) (hy:y∈ents.toList) (hs:seen=sn.push y.born) (hn:(ents.toList.map (·.born)).Nodup) (hc:c0=clock) :
  (Instr.entry (.pointer (some ⟨l,0,none⟩))).run P w=.ok (.tuple #[y.key,y.val]) w:=by
 have hf:ents.find? (·.born == y.born)=some y:=by rw[<- Array.find?_toList];exact find_born y ents.toList hn hy
 subst hs hc;simp only[Instr.entry,getObj,jH,Sem.run,h1,h2,Result.andThen,Array.back?_push,bne_self_eq_false,jC,if_false,hf];rfl
theorem Sim.mapAt(s:Sim ρ H w) {b:Nat} {es:List (AV × AV)} {l:Loc} (h:H.get b=some (.map es)) (hl:ρ b=some l) :
  ∃(ents:Array MapEntry) (clock:Nat),w.heap[l.cb]? = some (.map ents clock)/\EntR ρ es ents.toList/\zk2 ents clock:=by
 obtain⟨l',hl',_,_,ents,clock,h1,h2,h3,h4⟩:=s.block h;rw[hl]at hl';cases hl';exact⟨ents,clock,h1,⟨by simpa using h2,fun i a b=>h3 i a (by simpa using b)⟩,h4⟩
def two(ok:Bool) (x:AV) (b:Bool):AV:=match ok with
 |true=>.tup [x,.bool b]
 |false=>x
theorem zdi(s:Sim ρ H w) {t:TypeId} {m k v:AV} {ok:Bool} {m' k':Value} (h:qk0 P H t m k ok=some v) (hm:VR ρ m m') (hk:VR ρ k k') :
  ∃y,(Instr.lookup t m' k' ok).run P w=.ok y w/\VR ρ v y:=by
 obtain⟨d,hd,h⟩:=obs h;cases d with
 |map key elem=>
  obtain⟨kd,hkd,h⟩:=obs h;replace h:=obs h;obtain⟨⟨⟩,hok,h⟩:=h;obtain⟨es,hes,h⟩:=obs h;obtain⟨r,hr,h⟩:=obs h;have pair:∀{x:AV} {x':Value} (b:Bool),VR ρ x x'->VR ρ (two ok x b) (if ok=true then .tuple #[x',.bool b] else x'):=fun {x x'} b hx=>by
   cases ok with
   |false=>exact hx
   |true=>
    refine .tup _ _ rfl fun i h1 h2=>?_
    match i,h1 with
    |0,_=>exact hx
    |1,_=>exact .bool b
  have main:∀(ents:Array MapEntry),EntR ρ es ents.toList->(m'=.map none/\ents = #[]\/∃l clock,m'=.map (some l)/\w.heap[l]? = some (.map ents clock)) ->
    ∃y,(Instr.lookup t m' k' ok).run P w=.ok y w/\VR ρ v y:=fun ents he hor=>by
   obtain⟨p,hp,hr⟩:=obs hr;obtain⟨hfind,hlt⟩:=qut (P:=P) hkd hk hok w hp he;have hck:=fun e=>qkh (P:=P) hok hkd hk e 9998 w;cases p with
   |none=>
    simp only[sj]at hr;subst hr;obtain⟨z,hz,h⟩:=obs h;simp only[sj]at h;subst h;obtain⟨zv,rfl,hzr,_⟩:=qfh hz;simp only[yX]at hfind;refine⟨_,?_,pair false (VR.const zv)⟩;rcases hor with⟨rfl,rfl⟩|⟨l,clock,rfl,hw⟩
    ·have hf2:(Instr.findKey key k' []).run P w=.ok none w:=(by simpa using hfind);simp[Instr.lookup,run_underlying hd,hck,hf2,hzr]
    ·simp[Instr.lookup,run_underlying hd,yk hw,hck,hfind,hzr]
   |some i=>
    obtain⟨e,hge,hr⟩:=obs hr;simp only[sj]at hr;subst hr;simp only[sj]at h;subst h;obtain⟨hi,rfl⟩:=qfb hge;have hi':i < ents.toList.length:=(by rw[he.1];exact hi);have hg:ents.toList[i]? = some ents.toList[i]:=List.getElem?_eq_getElem hi';simp only[jb,hg,jZ]at hfind;refine⟨_,?_,pair true (he.2 i hi hi').2⟩;rcases hor with⟨rfl,rfl⟩|⟨l,clock,rfl,hw⟩
    ·simp at hi'
    ·simp[Instr.lookup,run_underlying hd,yk hw,hck,hfind]
  cases hm with
  |nilM=>simp only[sj]at hes;subst hes;exact main #[] ⟨rfl,fun i h=>absurd h (jk i)⟩ (.inl ⟨rfl,rfl⟩)
  |map b l hl=>
   obtain⟨x,hx,hes⟩:=obs hes;cases x with
   |map es'=>simp only[sj]at hes;subst hes;obtain⟨ents,clock,hw,he,hbn⟩:=s.mapAt hx hl;exact main ents he (.inr ⟨_,_,rfl,hw⟩)
   |_=>simp at hes
  |_=>simp at hes
 |_=>simp at h
theorem qw2{α:Type} {v:α}:∀{l l':List α} {i:Nat},setL v l i=some l'->i < l.length/\l'=l.set i v
 |[],_,_,h=>by simp[setL]at h
 |x::r,l',0,h=>by simp only[setL,sj]at h;subst h;simp
 |x::r,l',i+1,h=>by obtain⟨r',hr,h⟩:=obs (show (setL v r i).bind (fun r'=>some (x::r'))=some l' from h);simp only[sj]at h;subst h;obtain⟨h1,h2⟩:=qw2 hr;subst h2;simp[h1]
theorem qsz(s:Sim ρ H w) {t:TypeId} {m k v:AV} {m' k' v':Value} (h:qiz P H t m k v=some H') (hm:VR ρ m m') (hk:VR ρ k k') (hv:VR ρ v v') :
  ∃w',(Instr.mapUpdate t m' k' v').run P w=.ok () w'/\Sim ρ H' w'/\Step ρ H w ρ H' w':=by
 replace h:=obs h;obtain⟨d,hd,h⟩:=h;cases d with
 |map key elem=>
  replace h:=obs h;obtain⟨kd,hkd,h⟩:=h;replace h:=obs h;obtain⟨⟨⟩,hok,h⟩:=h;cases hm with
  |map b l hl=>
   replace h:=obs h;obtain⟨x,hx,h⟩:=h;cases x with
   |map es=>
    replace h:=obs h;obtain⟨es',hes',h⟩:=h;obtain⟨ents,clock,hw,he,hbn⟩:=s.mapAt hx hl;obtain⟨p,hp,hes'⟩:=obs hes';obtain⟨hfind,hlt⟩:=qut (P:=P) hkd hk hok w hp he;have hck:=fun e=>qkh (P:=P) hok hkd hk e 9998 w;have hsz:ents.size=es.length:=(by simpa using he.1);cases p with
    |none=>
     simp only[sj]at hes';subst hes';simp only[yX]at hfind;obtain⟨h1,h2,h3⟩:=qhd (P:=P) (ents':=ents.push { key:=k',val:=v',born:=clock }) (clock':=clock+1) s hx hl hw h (by simp[hsz]) (fun i g1 g2=>by
      by_cases hi:i < es.length
      ·have:=he.2 i hi (by simpa[hsz]using hi);rw[j6 hi,Array.getElem_push_lt (by omega)];exact this
      ·have:i=es.length:=(by simp at g1;omega);subst this;rw[jv (jc _)];simp only[yN,j5];have:(ents.push { key:=k',val:=v',born:=clock })[es.length]'g2={ key:=k',val:=v',born:=clock }:=(by simp[<- hsz]);rw[this];exact⟨hk,hv⟩) (zje hbn)
     exact⟨_,by simp[Instr.mapUpdate,run_underlying hd,yk hw,hck,hfind,h1],h2,h3⟩
    |some i=>
     obtain⟨e,hge,hes'⟩:=obs hes';split at hes'
     ·rename_i hek;have hek:=of_decide_eq_true hek;obtain⟨hi,rfl⟩:=qfb hge;obtain⟨_,rfl⟩:=qw2 hes';have hi':i < ents.toList.length:=hlt i rfl;have hia:i < ents.size:=(by simpa using hi');have hg:ents.toList[i]? = some ents.toList[i]:=List.getElem?_eq_getElem hi';simp only[jb,hg,jZ]at hfind;have hold:VR ρ k ents[i].key:=(by have:=(he.2 i hi hi').1;rw[hek]at this;exact this);have fin:∀(key':Value) (w0:World),VR ρ k key'->Sim ρ H w0->w0.heap[l.cb]? = some (.map ents clock)->Step ρ H w ρ H w0 ->
        (Instr.keyThatStays ents[i].key k').run P w=.ok key' w0->∃w',(Instr.mapUpdate t (.map (some l.cb)) k' v').run P w=.ok () w'/\Sim ρ H' w'/\Step ρ H w ρ H' w':=fun key' w0 hkey s0 hw0 st0 hrun=>by
       obtain⟨h1,h2,h3⟩:=qhd (P:=P) (ents':=ents.modify i fun e=>{ e with key:=key',val:=v' }) (clock':=clock) s0 hx hl hw0 h (by simp[hsz]) (fun j g1 g2=>by
        simp only[List.length_set]at g1;by_cases hj:j=i
        ·subst hj;simp only[List.getElem_set_self,Array.getElem_modify_self];exact⟨hkey,hv⟩
        ·rw[List.getElem_set_ne (fun e=>hj e.symm),Array.getElem_modify_of_ne (fun e=>hj e.symm)];exact he.2 j g1 (by simpa[hsz]using g1)) (qzv hbn)
       refine⟨_,?_,h2,st0.trans h3⟩;have hgi:ents[i]? = some ents[i]:=Array.getElem?_eq_getElem hia;simp[Instr.mapUpdate,run_underlying hd,yk hw,hck,hfind,hgi,hrun,h1]
      have tri:(Instr.keyThatStays ents[i].key k').run P w=.ok k' w\/(Instr.keyThatStays ents[i].key k').run P w=.ok k' w.drew\/(Instr.keyThatStays ents[i].key k').run P w=.ok ents[i].key w.drew:=by
       unfold Instr.keyThatStays;by_cases hb:Instr.sameBits 10000 ents[i].key k'=true
       ·exact .inl (by simp[hb])
       ·right;simp only[hb,jC,if_false,jH];simp[Question.forced];exact(Classical.em _).elim (fun h=>Or.inl fun hn=>absurd h hn) (fun h=>Or.inr fun hp=>absurd hp h)
      rcases tri with tri|tri|tri
      ·exact fin k' w hk s hw (.refl _ _ _) tri
      ·exact fin k' w.drew hk s.drew hw (.drew _ _ _) tri
      ·exact fin ents[i].key w.drew hold s.drew hw (.drew _ _ _) tri
     ·simp at hes'
   |_=>simp at h
  |_=>simp at h
 |_=>simp at h
theorem zdy(s:Sim ρ H w) {ts:Array TypeId} {t ty:TypeId} (ht:ts[0]? = some t) {m k:AV} {m' k':Value} (h:qof P H t m k=some H') (hm:VR ρ m m') (hk:VR ρ k k') :
  Good ρ H w ((Builtin.delete_ ts ty #[m',k']).run P w) (.tup []) H':=by
 have unit:VR ρ (.tup []) (.tuple #[]):=.tup [] #[] rfl (fun i h=>absurd h (jk i));replace h:=obs h;obtain⟨d,hd,h⟩:=h;cases d with
 |map key elem=>
  replace h:=obs h;obtain⟨kd,hkd,h⟩:=h;replace h:=obs h;obtain⟨⟨⟩,hok,h⟩:=h;have hck:=fun e=>qkh (P:=P) hok hkd hk e 9998 w;cases hm with
  |nilM=>simp only[sj]at h;subst h;exact Good.pure s unit (by simp[Builtin.delete_,ht,run_underlying hd,hck])
  |map b l hl=>
   replace h:=obs h;obtain⟨x,hx,h⟩:=h;cases x with
   |map es=>
    replace h:=obs h;obtain⟨es',hes',h⟩:=h;obtain⟨ents,clock,hw,he,hbn⟩:=s.mapAt hx hl;obtain⟨p,hp,hes'⟩:=obs hes';obtain⟨hfind,hlt⟩:=qut (P:=P) hkd hk hok w hp he;have hsz:ents.size=es.length:=(by simpa using he.1);cases p with
    |none=>simp only[sj]at hes';subst hes';simp only[yX]at hfind;obtain⟨h1,h2,h3⟩:=qhd (P:=P) (vs:=[]) (ents':=ents) (clock':=clock) s hx hl hw h hsz (fun i g1 g2=>he.2 i g1 (by simpa using g2)) hbn;exact⟨_,ρ,_,by simp[Builtin.delete_,ht,run_underlying hd,yk hw,hck,hfind,h1],unit,h2,h3⟩
    |some i=>
     simp only[sj]at hes';subst hes';have hi':i < ents.toList.length:=hlt i rfl;have hia:i < ents.size:=(by simpa using hi');have hg:ents.toList[i]? = some ents.toList[i]:=List.getElem?_eq_getElem hi';simp only[jb,hg,jZ]at hfind;have hel:(ents.eraseIdxIfInBounds i).toList=ents.toList.eraseIdx i:=(by simp[Array.eraseIdxIfInBounds,hia]);obtain⟨h1,h2,h3⟩:=qhd (P:=P) (vs:=[]) (ents':=ents.eraseIdxIfInBounds i) (clock':=clock) s hx hl hw h
      (by have:=congrArg List.length hel;simp only[Array.length_toList]at this;rw[this,List.length_eraseIdx,List.length_eraseIdx];simp[hsz])
      (fun j g1 g2=>by
       have e:(ents.eraseIdxIfInBounds i)[j]=(ents.toList.eraseIdx i)[j]'(by rw[<- hel,Array.length_toList];exact g2):=(by simp only[<- hel];rfl);rw[e];simp only[List.getElem_eraseIdx];split
       ·exact he.2 j _ _
       ·exact he.2 (j+1) _ _) (ze6 hbn)
     exact⟨_,ρ,_,by simp[Builtin.delete_,ht,run_underlying hd,yk hw,hck,hfind,h1],unit,h2,h3⟩
   |_=>simp at h
  |_=>simp at h
 |_=>simp at h
theorem len_run(s:Sim ρ H w) {ts:Array TypeId} {t ty:TypeId} (ht:ts[0]? = some t) {x:AV} {n:Nat} {x':Value} (h:qer P H t x=some n) (hx:VR ρ x x') :
  (Builtin.len_ ts ty #[x']).run P w=.ok (.int .i64 n) w:=by
 replace h:=obs h;obtain⟨d,hd,h⟩:=h;split at h
 ·cases hx;simp only[sj]at h;subst h;simp[Builtin.len_,ht,run_underlying hd,goInt,qed]
 ·simp only[sj]at h;subst h;simp[Builtin.len_,ht,run_underlying hd,goInt]
 ·cases hx;simp only[sj]at h;subst h;simp[Builtin.len_,ht,run_underlying hd,goInt]
 ·cases hx;simp only[sj]at h;subst h;simp[Builtin.len_,ht,run_underlying hd,goInt]
 ·cases hx<;>simp only[sj]at h<;>subst h<;>simp[Builtin.len_,ht,run_underlying hd,goInt]
 ·cases hx<;>simp only[sj]at h<;>subst h<;>simp[Builtin.len_,ht,run_underlying hd,goInt]
 ·cases hx<;>simp only[sj]at h<;>subst h<;>simp[Builtin.len_,ht,run_underlying hd,goInt]
 ·cases hx;simp only[sj]at h;subst h;simp[Builtin.len_,ht,run_underlying hd,goInt]
 ·cases hx;rename_i l hl;obtain⟨k,hk,h⟩:=obs h;cases k with
  |map es=>simp only[sj]at h;subst h;obtain⟨ents,clock,hw,he,hbn⟩:=s.mapAt hk hl;have:ents.size=es.length:=(by simpa using he.1);simp[Builtin.len_,ht,run_underlying hd,yk hw,goInt,this]
  |_=>simp at h
 ·simp at h
theorem qpo{least:Bool}:∀{r:List AV} {x v:AV} {x':Value} {r':List Value},qwq least x r=some v->VR ρ x x'->VRs ρ r r'->∀w:World,
  ∃y,(r'.foldlM (if least=true then Builtin.min2 else Builtin.max2) x':Sem Value).run P w=.ok y w/\VR ρ v y
 |[],x,v,x',r',h,hx,hr,w=>by
  simp only[qwq,sj]at h;subst h;cases r' with
  |nil=>exact⟨x',rfl,hx⟩
  |cons _ _=>have:=hr.1;simp at this
 |y::r,x,v,x',r',h,hx,hr,w=>by
  cases r' with
  |nil=>have:=hr.1;simp at this
  |cons y' r'=>
   have hy:=hr.head;unfold qwq at h;split at h
   ·cases hx;cases hy;rename_i k a k' b;split at h
    ·rename_i hk;subst hk;cases least with
     |true=>obtain⟨z,h1,h2⟩:=qpo h (.int k (min a b)) hr.tail w;refine⟨z,?_,h2⟩;have e:(if b < a then b else a)=min a b:=(by omega);simp only[if_true]at h1 ⊢;simp only[List.foldlM_cons,jH,Builtin.min2,yq,j7,e,h1]
     |false=>obtain⟨z,h1,h2⟩:=qpo h (.int k (max a b)) hr.tail w;refine⟨z,?_,h2⟩;have e:(if b > a then b else a)=max a b:=(by omega);simp only[jC,if_false]at h1 ⊢;simp only[List.foldlM_cons,jH,Builtin.max2,yq,j7,e,h1]
    ·simp at h
   ·simp at h
