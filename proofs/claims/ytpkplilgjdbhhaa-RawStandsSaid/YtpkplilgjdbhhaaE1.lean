/- The abstract interpreter E: values, heap, operations, code. No condition: definitions alone. -/
import Derived.CallsIn
import Derived.RangeFuncIn
import Derived.Below
namespace Go.Proofs.Ytpkplilgjdbhhaa
set_option linter.unusedSimpArgs false
set_option linter.unusedVariables false
open Go

/-- What is known of a slice's capacity: just so many elements; or all that is left of its row (elements of sz cells). -/
inductive Cap where
  | ex (c : Nat)
  | rest (sz : Nat)
  deriving DecidableEq

/-- Abstract values. 'fptr', 'fslc' bear what they read as (memory that nobody writes); 'ptr', 'slc', 'map' name a block of the abstract heap. -/
inductive AV where
  | undef
  | bool (b : Bool)
  | int (k : IntKind) (n : Int)
  | float (k : FloatKind) (bits : Nat)
  | cplx (k : FloatKind) (re im : Nat)
  | str (s : List UInt8)
  | nilP
  | ptr (b o : Nat)
  | fptr (cs : List AV) (o : Nat)
  | nilS
  | eslc
  | zslc
  | slc (b o len : Nat) (cap : Cap)
  | fslc (sz : Nat) (es : List AV)
  | nilM
  | map (b : Nat)
  | nilF
  | func (fn : Fn) (first captured : List AV)
  | nilI
  | iface (t : TypeId) (v : AV)
  | agg (cs : List AV)
  | tup (cs : List AV)

inductive Blk where
  | cells (cs : List AV)
  | map (es : List (AV × AV))
  | loop (ready : Bool) (pend : Option Code) (ks : List Nat) (vs : List AV) (sz : Nat) (ps : List Nat) (assign body : Code)

structure Heap where
  n : Nat
  fs : List (List (Nat × Blk))

/-! ### The heap -/
def getF (b : Nat) : List (Nat × Blk) → Option Blk
  | [] => none
  | x :: r => match Nat.beq x.1 b with
    | true => some x.2
    | false => getF b r
def getFs (b : Nat) : List (List (Nat × Blk)) → Option Blk
  | [] => none
  | f :: r => match getF b f with
    | some x => some x
    | none => getFs b r
def Heap.get (H : Heap) (b : Nat) : Option Blk := getFs b H.fs
def setF (b : Nat) (k : Blk) : List (Nat × Blk) → Option (List (Nat × Blk))
  | [] => none
  | x :: r => match Nat.beq x.1 b with
    | true => some ((b, k) :: r)
    | false => (setF b k r).bind fun r' => some (x :: r')
def setFs (b : Nat) (k : Blk) : List (List (Nat × Blk)) → Option (List (List (Nat × Blk)))
  | [] => none
  | f :: r => match setF b k f with
    | some f' => some (f' :: r)
    | none => (setFs b k r).bind fun r' => some (f :: r')
def Heap.set (H : Heap) (b : Nat) (k : Blk) : Option Heap := (setFs b k H.fs).bind fun fs => some ⟨H.n, fs⟩
def killF (b : Nat) : List (Nat × Blk) → List (Nat × Blk)
  | [] => []
  | x :: r => match Nat.beq x.1 b with
    | true => r
    | false => x :: killF b r
/-- only of the top frame -/
def Heap.kill (H : Heap) (b : Nat) : Heap := match H.fs with
  | [] => H
  | f :: r => ⟨H.n, killF b f :: r⟩
def killFs (b : Nat) : List (List (Nat × Blk)) → List (List (Nat × Blk))
  | [] => []
  | f :: r => match getF b f with
    | some _ => killF b f :: r
    | none => f :: killFs b r
/-- of whatever frame -/
def Heap.drop (H : Heap) (b : Nat) : Heap := ⟨H.n, killFs b H.fs⟩
def pushF (x : Nat × Blk) : List (List (Nat × Blk)) → List (List (Nat × Blk))
  | [] => [[x]]
  | f :: r => (x :: f) :: r
/-- the new block is H.n -/
def Heap.new (H : Heap) (k : Blk) : Heap := ⟨Nat.succ H.n, pushF (H.n, k) H.fs⟩

def getL {α : Type} : List α → Nat → Option α
  | [], _ => none
  | x :: r, i => match i with
    | 0 => some x
    | Nat.succ j => getL r j
def setL {α : Type} (v : α) : List α → Nat → Option (List α)
  | [], _ => none
  | x :: r, i => match i with
    | 0 => some (v :: r)
    | Nat.succ j => (setL v r j).bind fun r' => some (x :: r')
/-- n cells from o on; all must be there -/
def takeL {α : Type} : Nat → List α → Option (List α)
  | 0, _ => some []
  | Nat.succ n, l => match l with
    | [] => none
    | x :: r => (takeL n r).bind fun r' => some (x :: r')
def subL {α : Type} (o n : Nat) (l : List α) : Option (List α) := takeL n (l.drop o)
/-- lay the values vs over l from place 0 on -/
def overL {α : Type} : List α → List α → Option (List α)
  | [], l => some l
  | v :: vs, l => match l with
    | [] => none
    | _ :: r => (overL vs r).bind fun r' => some (v :: r')
def layL {α : Type} (vs : List α) : Nat → List α → Option (List α)
  | 0, l => overL vs l
  | Nat.succ o, l => match l with
    | [] => none
    | x :: r => (layL vs o r).bind fun r' => some (x :: r')
def replL {α : Type} (z : List α) : Nat → List α
  | 0 => []
  | Nat.succ n => z ++ replL z n

def AV.cells : AV → List AV
  | .agg cs => cs
  | v => [v]
/-- may it stand in a cell? -/
def AV.single : AV → Bool
  | .undef | .agg _ | .tup _ => false
  | _ => true
def allSingle : List AV → Bool
  | [] => true
  | v :: r => match v.single with
    | true => allSingle r
    | false => false

/-! ### Constants, zero values -/
def ofV1 : Value → AV
  | .bool b => .bool b
  | .int k n => .int k n
  | .float k b => .float k b
  | .complex k a b => .cplx k a b
  | .string s => .str s.data.toList
  | .pointer none => .nilP
  | .slice none 0 0 => .nilS
  | .map none => .nilM
  | .nilFunc => .nilF
  | .nilIface => .nilI
  | _ => .undef
def ofV : Value → AV
  | .agg cs => .agg (cs.toList.map ofV1)
  | v => ofV1 v
def zeroOf (P : Program) (t : TypeId) : Option AV := (P.info? t).bind fun i => i.zero.bind fun z => some (ofV z)
def sizeT (P : Program) (t : TypeId) : Option Nat := (P.info? t).bind fun i => some i.size
def bytesT (P : Program) (t : TypeId) : Option Nat := (P.info? t).bind fun i => some i.bytes
def aggT (P : Program) (t : TypeId) : Option Bool := (P.underlying t).bind fun d => match d with
  | .struct _ | .array _ _ => some true
  | _ => some false

/-! ### The frame -/
structure St where
  ks : List Nat
  vs : List AV
  ts : List (Nat × AV)
  sz : Nat
  H : Heap

def look (t : Nat) : List (Nat × AV) → Option AV
  | [] => none
  | x :: r => match Nat.beq x.1 t with
    | true => some x.2
    | false => look t r
def lookK (t : Nat) : List Nat → List AV → Option AV
  | k :: ks, vs => match vs with
    | v :: r => match Nat.beq k t with
      | true => some v
      | false => lookK t ks r
    | [] => none
  | [], _ => none
def St.get (s : St) (t : Nat) : Option AV := match lookK t s.ks s.vs with
  | some v => some v
  | none => look t s.ts
def putK (t : Nat) (v : AV) : List Nat → List AV → Option (List AV)
  | k :: ks, vs => match vs with
    | x :: r => match Nat.beq k t with
      | true => some (v :: r)
      | false => (putK t v ks r).bind fun r' => some (x :: r')
    | [] => none
  | [], _ => none
/-- a kept slot is written in its place; any other is laid on top -/
def St.set (s : St) (t : Nat) (v : AV) : Option St := match Nat.blt t s.sz with
  | true => match putK t v s.ks s.vs with
    | some vs => some { s with vs := vs }
    | none => some { s with ts := (t, v) :: s.ts }
  | false => none
def St.put (s : St) (d : Option Tmp) (v : AV) : Option St := match d with
  | some t => s.set t v
  | none => some s

def opnd (s : St) : Operand → Option AV
  | .tmp t => s.get t
  | .const v => some (ofV v)
  | .func f => some (.func (.func f) [] [])
  | .global _ => none
def opnds (s : St) : List Operand → Option (List AV)
  | [] => some []
  | x :: r => (opnd s x).bind fun v => (opnds s r).bind fun vs => some (v :: vs)
def opndO (s : St) : Option Operand → Option (Option AV)
  | none => some none
  | some x => (opnd s x).bind fun v => some (some v)
def opndP (s : St) : List (Nat × Operand) → Option (List (Nat × AV))
  | [] => some []
  | x :: r => (opnd s x.2).bind fun v => (opndP s r).bind fun vs => some ((x.1, v) :: vs)

/-! ### What a returned value reaches -/
def refs : Nat → AV → List Nat
  | 0, _ => []
  | Nat.succ n, v => match v with
    | .ptr b _ => [b]
    | .slc b _ _ _ => [b]
    | .map b => [b]
    | .func _ a c => a.flatMap (refs n) ++ c.flatMap (refs n)
    | .iface _ v => refs n v
    | .agg cs => cs.flatMap (refs n)
    | .tup cs => cs.flatMap (refs n)
    | _ => []
def refsB : Blk → List Nat
  | .cells cs => cs.flatMap (refs 4)
  | .map es => es.flatMap fun e => refs 4 e.1 ++ refs 4 e.2
  | .loop .. => []
/-- the blocks of a frame that are reached, and the others -/
def reach : Nat → List Nat → List (Nat × Blk) → List (Nat × Blk) → List (Nat × Blk) × List (Nat × Blk)
  | 0, _, f, acc => (acc, f)
  | Nat.succ n, todo, f, acc => match todo with
    | [] => (acc, f)
    | b :: r => match f with
      | [] => (acc, f)
      | _ :: _ => match getF b f with
        | none => reach n r f acc
        | some k => reach n (refsB k ++ r) (killF b f) ((b, k) :: acc)
def refsF : List (Nat × Blk) → List Nat
  | [] => []
  | x :: r => refsB x.2 ++ refsF r
/-- what is reached from the roots moves down, out of the frames above b's own, to b's own -/
def promote (b : Nat) : List Nat → List (Nat × Blk) → List (List (Nat × Blk)) → List (List (Nat × Blk))
  | _, carry, [] => [carry]
  | roots, carry, f :: r => match getF b f with
    | some _ => (carry ++ f) :: r
    | none => match reach 100000 roots f [] with
      | (ex, rest) => rest :: promote b (refsF ex ++ roots) (ex ++ carry) r
/-- ahead of a write of vs into b -/
def Heap.ready (H : Heap) (b : Nat) (vs : List AV) : Heap := match vs.flatMap (refs 6) with
  | [] => H
  | r :: rs => ⟨H.n, promote b (r :: rs) [] H.fs⟩
def ontoF (l : List (Nat × Blk)) : List (List (Nat × Blk)) → List (List (Nat × Blk))
  | [] => [l]
  | f :: r => (l ++ f) :: r
/-- the top frame goes; what the value reaches of it comes into the next one -/
def popTo (v : AV) (H : Heap) : Heap := match H.fs with
  | [] => H
  | f :: r => match refs 6 v with
    | [] => ⟨H.n, r⟩
    | b :: bs => ⟨H.n, ontoF (reach 100000 (b :: bs) f []).1 r⟩

/-! ### Memory -/
def readCells (H : Heap) (b o n : Nat) : Option (List AV) := (H.get b).bind fun k => match k with
  | .cells cs => subL o n cs
  | _ => none
def readVar (P : Program) (H : Heap) (t : TypeId) (p : AV) : Option AV := (aggT P t).bind fun ag => (sizeT P t).bind fun n =>
  match ag with
  | true => match p with
    | .ptr b o => (readCells H b o n).bind fun cs => some (.agg cs)
    | .fptr cs o => (subL o n cs).bind fun cs => some (.agg cs)
    | _ => none
  | false => match p with
    | .ptr b o => (H.get b).bind fun k => match k with
      | .cells cs => getL cs o
      | _ => none
    | .fptr cs o => getL cs o
    | _ => none
def writeCells (H : Heap) (b o : Nat) (vs : List AV) : Option Heap := (H.get b).bind fun k => match k with
  | .cells cs => (layL vs o cs).bind fun cs' => (H.ready b vs).set b (.cells cs')
  | _ => none
def writeVar (P : Program) (H : Heap) (t : TypeId) (p v : AV) : Option Heap := (sizeT P t).bind fun n =>
  match Nat.beq v.cells.length n with
  | true => match allSingle v.cells with
    | true => match p with
      | .ptr b o => writeCells H b o v.cells
      | _ => none
    | false => none
  | false => none

/-! ### Arithmetic, comparisons -/
def fits64 (n : Int) : Bool := match n with
  | .ofNat m => Nat.ble m 9223372036854775807
  | .negSucc m => Nat.ble m 9223372036854775807
theorem fits64_iff {n : Int} : fits64 n = true ↔ -9223372036854775808 ≤ n ∧ n ≤ 9223372036854775807 := by
  cases n with
  | ofNat m =>
    show Nat.ble m 9223372036854775807 = true ↔ _
    rw [Nat.ble_eq, Int.ofNat_eq_natCast]
    omega
  | negSucc m =>
    show Nat.ble m 9223372036854775807 = true ↔ _
    rw [Nat.ble_eq, Int.negSucc_eq]
    omega
def wr (k : IntKind) (n : Int) : Option Int := match k with
  | .i64 => match fits64 n with
    | true => some n
    | false => none
  | k => some (k.wrap n)
def intOp (op : BinOp) (k : IntKind) (x y : Int) : Option AV := match op with
  | .add => (wr k (x + y)).bind fun n => some (.int k n)
  | .sub => (wr k (x - y)).bind fun n => some (.int k n)
  | .mul => (wr k (x * y)).bind fun n => some (.int k n)
  | .quo => if y = 0 then none else (wr k (x.tdiv y)).bind fun n => some (.int k n)
  | .rem => if y = 0 then none else some (.int k (x.tmod y))
  | .and => some (.int k (k.wrap (BitVec.ofInt k.bits x &&& BitVec.ofInt k.bits y).toNat))
  | .or => some (.int k (k.wrap (BitVec.ofInt k.bits x ||| BitVec.ofInt k.bits y).toNat))
  | .xor => some (.int k (k.wrap (BitVec.ofInt k.bits x ^^^ BitVec.ofInt k.bits y).toNat))
  | .andNot => some (.int k (k.wrap (BitVec.ofInt k.bits x &&& ~~~ BitVec.ofInt k.bits y).toNat))
  | .eql => some (.bool (x == y))
  | .neq => some (.bool (x != y))
  | .lss => some (.bool (x < y))
  | .leq => some (.bool (x ≤ y))
  | .gtr => some (.bool (x > y))
  | .geq => some (.bool (x ≥ y))
  | _ => none
def shiftOp (op : BinOp) (k : IntKind) (x y : Int) : Option AV := if y < 0 then none else match op with
  | .shl => (wr k (x * 2 ^ (min y.toNat k.bits))).bind fun n => some (.int k n)
  | .shr => some (.int k (x.fdiv (2 ^ (min y.toNat k.bits))))
  | _ => none
def eqB : List UInt8 → List UInt8 → Bool
  | [], l => match l with | [] => true | _ :: _ => false
  | a :: x, l => match l with
    | [] => false
    | b :: y => match Nat.beq a.toNat b.toNat with
      | true => eqB x y
      | false => false
def strOp (op : BinOp) (x y : List UInt8) : Option AV := match op with
  | .add => if x.length + y.length ≤ 1099511627776 then some (.str (x ++ y)) else none
  | .eql => some (.bool (eqB x y))
  | .neq => some (.bool (!eqB x y))
  | .lss => some (.bool (Op.bytesLess x y))
  | .leq => some (.bool (Op.bytesLess x y || eqB x y))
  | .gtr => some (.bool !(Op.bytesLess x y || eqB x y))
  | .geq => some (.bool !(Op.bytesLess x y))
  | _ => none
def floatOp (op : BinOp) (k : FloatKind) (x y : Nat) : Option AV := match op with
  | .add => (k.format.add x y).bind fun r => some (.float k r)
  | .sub => (k.format.sub x y).bind fun r => some (.float k r)
  | .mul => (k.format.mul x y).bind fun r => some (.float k r)
  | _ => none

/-- equality at types of plain data (their parts are bools, integers, strings); slices, maps, functions, pointers against nil -/
def eqPart (d : TypeDesc) (x y : AV) : Option Bool := match d, x, y with
  | .bool, .bool a, .bool b => some (a == b)
  | .int _, .int k a, .int k' b => if k = k' then some (a == b) else none
  | .string, .str a, .str b => some (eqB a b)
  | .slice _, .nilS, .nilS => some true
  | .slice _, .nilS, .slc .. => some false
  | .slice _, .nilS, .fslc _ (_ :: _) => some false
  | .slice _, .nilS, .eslc => some false
  | .slice _, .slc .., .nilS => some false
  | .slice _, .fslc _ (_ :: _), .nilS => some false
  | .slice _, .eslc, .nilS => some false
  | .pointer _, .nilP, .nilP => some true
  | .pointer _, .nilP, .ptr .. => some false
  | .pointer _, .nilP, .fptr .. => some false
  | .pointer _, .ptr .., .nilP => some false
  | .pointer _, .fptr .., .nilP => some false
  | .map _ _, .nilM, .nilM => some true
  | .map _ _, .nilM, .map _ => some false
  | .map _ _, .map _, .nilM => some false
  | .func _ _ _, .nilF, .nilF => some true
  | .func _ _ _, .nilF, .func .. => some false
  | .func _ _ _, .func .., .nilF => some false
  | _, _, _ => none
def plainT (d : TypeDesc) : Bool := match d with
  | .bool | .int _ | .string => true
  | _ => false
def eqFields (P : Program) : List Field → List AV → List AV → Option Bool
  | [], _, _ => some true
  | f :: fs, xs, ys => match f.name == "_" with
    | true => none
    | false => (P.underlying f.type).bind fun d => match plainT d with
      | false => none
      | true => (getL xs f.offset).bind fun x => (getL ys f.offset).bind fun y => (eqPart d x y).bind fun e => match e with
        | true => eqFields P fs xs ys
        | false => some false
def eqA (P : Program) (t : TypeId) (x y : AV) : Option Bool := (P.underlying t).bind fun d => match d, x, y with
  | .struct fs, .agg xs, .agg ys => match P.stoodInHeld t, P.eqGuardType P.depth t with
    | false, false => eqFields P fs.toList xs ys
    | _, _ => none
  | _, _, _ => eqPart d x y

def binA (P : Program) (op : BinOp) (t : TypeId) (x y : AV) : Option AV := match x, y with
  | .int k a, .int k' b => match op with
    | .shl => shiftOp .shl k a b
    | .shr => shiftOp .shr k a b
    | _ => if k = k' then intOp op k a b else none
  | .str a, .str b => strOp op a b
  | .float k a, .float k' b => if k = k' then floatOp op k a b else none
  | .cplx .., _ => none
  | _, _ => match op with
    | .eql => (eqA P t x y).bind fun e => some (.bool e)
    | .neq => (eqA P t x y).bind fun e => some (.bool !e)
    | _ => none
def unA (op : UnOp) (x : AV) : Option AV := match op, x with
  | .not, .bool b => some (.bool !b)
  | .neg, .int k n => (wr k (0 - n)).bind fun m => some (.int k m)
  | _, _ => none

/-! ### Aggregates -/
def fillA (place : Nat → Option (Nat × Nat)) : List (Nat × AV) → List AV → Option (List AV)
  | [], cs => some cs
  | x :: r, cs => (place x.1).bind fun p => match Nat.beq x.2.cells.length p.2 with
    | true => match allSingle x.2.cells with
      | true => (layL x.2.cells p.1 cs).bind fun cs' => fillA place r cs'
      | false => none
    | false => none
def fieldTbl (P : Program) : List Field → Option (List (Nat × Nat))
  | [] => some []
  | f :: r => (sizeT P f.type).bind fun n => (fieldTbl P r).bind fun t => some ((f.offset, n) :: t)
def buildA (P : Program) (t : TypeId) (parts : List (Nat × AV)) : Option AV := (zeroOf P t).bind fun z => (P.underlying t).bind fun d => match d with
  | .struct fs => (fieldTbl P fs.toList).bind fun tbl => (fillA (getL tbl) parts z.cells).bind fun cs => some (.agg cs)
  | .array _ elem => (sizeT P elem).bind fun n => (fillA (fun i => some (i * n, n)) parts z.cells).bind fun cs => some (.agg cs)
  | _ => none
def partA (P : Program) (t : TypeId) (cs : List AV) (off : Nat) : Option AV := (aggT P t).bind fun ag => match ag with
  | true => (sizeT P t).bind fun n => (subL off n cs).bind fun r => some (.agg r)
  | false => getL cs off
def fieldA (P : Program) (t : TypeId) (x : AV) (i : Nat) : Option AV := (P.underlying t).bind fun d => match d with
  | .struct fs => (getL fs.toList i).bind fun f => match x with
    | .agg cs => partA P f.type cs f.offset
    | _ => none
  | _ => none
def fieldAddrA (P : Program) (t : TypeId) (x : AV) (i : Nat) : Option AV := (P.underlying t).bind fun d => match d with
  | .struct fs => (getL fs.toList i).bind fun f => (sizeT P f.type).bind fun n => match n with
    | 0 => none
    | Nat.succ _ => match x with
      | .ptr b o => some (.ptr b (o + f.offset))
      | .fptr cs o => some (.fptr cs (o + f.offset))
      | _ => none
  | _ => none
def idx (i : Int) (n : Nat) : Option Nat := match i with
  | .ofNat j => match Nat.blt j n with
    | true => some j
    | false => none
  | .negSucc _ => none
def indexAddrA (P : Program) (t : TypeId) (x i : AV) : Option AV := match i with
  | .int _ i => (P.underlying t).bind fun d => match d with
    | .slice elem => match x with
      | .slc b o len _ => (idx i len).bind fun j => (sizeT P elem).bind fun n => some (.ptr b (o + j * n))
      | .fslc sz es => (idx i es.length).bind fun j => (sizeT P elem).bind fun n => match Nat.beq n sz with
        | true => (getL es j).bind fun e => some (.fptr e.cells 0)
        | false => none
      | _ => none
    | .array len elem => (idx i len).bind fun j => (sizeT P elem).bind fun n => match x with
      | .ptr b o => some (.ptr b (o + j * n))
      | .fptr cs o => some (.fptr cs (o + j * n))
      | _ => none
    | _ => none
  | _ => none
def indexA (P : Program) (t : TypeId) (x i : AV) : Option AV := match i with
  | .int _ i => (P.underlying t).bind fun d => match d with
    | .array len elem => match x with
      | .agg cs => (idx i len).bind fun j => (sizeT P elem).bind fun n => partA P elem cs (j * n)
      | _ => none
    | .string => match x with
      | .str s => (idx i s.length).bind fun j => (getL s j).bind fun c => some (.int .u8 c.toNat)
      | _ => none
    | _ => none
  | _ => none
/-! ### Slicing -/
def bound (x : Option AV) (dflt most : Nat) : Option Nat := match x with
  | none => some dflt
  | some v => match v with
    | .int _ i => idx i (Nat.succ most)
    | _ => none
def knownCells (H : Heap) (b : Nat) : Option Nat := (H.get b).bind fun k => match k with
  | .cells cs => some cs.length
  | _ => none
/-- a slice of a block: sz cells an element -/
def sliceBlk (H : Heap) (sz b o len : Nat) (cap : Cap) (lo hi mx : Option AV) : Option AV := (knownCells H b).bind fun kn => match cap with
  | .ex c => (bound mx c c).bind fun m => (bound hi len m).bind fun h => (bound lo 0 h).bind fun l =>
      some (.slc b (match Nat.beq m l with | true => o | false => o + l * sz) (h - l) (.ex (m - l)))
  | .rest sz' => match Nat.beq sz sz' with
    | false => none
    | true => match mx with
      | some v => (bound (some v) 0 ((kn - o) / sz)).bind fun m => (bound hi len m).bind fun h => (bound lo 0 h).bind fun l =>
        match Nat.beq m l with
        | true => some .eslc
        | false => some (.slc b (o + l * sz) (h - l) (.ex (m - l)))
      | none => (bound hi len ((kn - o) / sz)).bind fun h => (bound lo 0 h).bind fun l =>
        match Nat.ble (kn - o) (l * sz) with
        | true => match l with
          | 0 => some (.slc b o h (.rest sz))
          | Nat.succ _ => match Nat.beq h l with
            | true => some .eslc
            | false => none
        | false => some (.slc b (o + l * sz) (h - l) (.rest sz))
def hiOK (hi mx : Option AV) : Bool := match mx, hi with
  | some _, none => false
  | _, _ => true
def sliceA (P : Program) (H : Heap) (t : TypeId) (x : AV) (lo hi mx : Option AV) : Option AV := (match hiOK hi mx with | true => P.underlying t | false => none).bind fun d => match d with
  | .string => match x, mx with
    | .str s, none => (bound hi s.length s.length).bind fun h => (bound lo 0 h).bind fun l => some (.str ((s.take h).drop l))
    | _, _ => none
  | .slice elem => (sizeT P elem).bind fun sz => match x with
    | .slc b o len cap => sliceBlk H sz b o len cap lo hi mx
    | .fslc s es => match mx with
      | none => (match Nat.beq s sz with | true => some () | false => none).bind fun _ => (bound hi es.length es.length).bind fun h => (bound lo 0 h).bind fun l => some (.fslc s ((es.take h).drop l))
      | some _ => none
    | .nilS => (bound mx 0 0).bind fun _ => (bound hi 0 0).bind fun _ => (bound lo 0 0).bind fun _ => some .nilS
    | _ => none
  | .array n elem => (sizeT P elem).bind fun sz => match x with
    | .ptr b o => sliceBlk H sz b o n (.ex n) lo hi mx
    | _ => none
  | _ => none
def lenA (P : Program) (H : Heap) (t : TypeId) (x : AV) : Option Nat := (P.underlying t).bind fun d => match d, x with
  | .string, .str s => some s.length
  | .array n _, _ => some n
  | .slice _, .nilS => some 0
  | .slice _, .eslc => some 0
  | .slice _, .zslc => some 0
  | .slice _, .slc _ _ n _ => some n
  | .slice _, .fslc _ es => some es.length
  | .map _ _, .nilM => some 0
  | .map _ _, .map b => (H.get b).bind fun k => match k with
    | .map es => some es.length
    | _ => none
  | _, _ => none
/-- the cells of what is appended, or copied, at most n elements; strings: their bytes -/
def bytesAV : List UInt8 → List AV
  | [] => []
  | c :: r => .int .u8 c.toNat :: bytesAV r
def flatAV : List AV → List AV
  | [] => []
  | v :: r => v.cells ++ flatAV r
def srcLen (x : AV) : Option Nat := match x with
  | .nilS | .eslc | .zslc => some 0
  | .slc _ _ n _ => some n
  | .fslc _ es => some es.length
  | .str s => some s.length
  | _ => none
def srcCells (H : Heap) (sz n : Nat) (x : AV) : Option (List AV) := match x with
  | .nilS => some []
  | .zslc => match n with
    | 0 => some []
    | _ => none
  | .eslc => match n with
    | 0 => some []
    | _ => none
  | .slc b o _ _ => readCells H b o (n * sz)
  | .fslc s es => match Nat.beq s sz with
    | true => some (flatAV (es.take n))
    | false => none
  | .str s => some (bytesAV (s.take n))
  | _ => none
def roomOK (need bytes : Nat) : Bool := Nat.ble (need * bytes) 17592186044416
/-- append: in place where that is sure; a new block where that is sure; where Go leaves it open a new block, and the old one is known no longer -/
def appendA (P : Program) (H : Heap) (elem : TypeId) (s x : AV) : Option (AV × Heap) := (sizeT P elem).bind fun sz => (bytesT P elem).bind fun by_ => (zeroOf P elem).bind fun z => (srcLen x).bind fun n =>
  match Nat.beq sz 0 || !(Nat.beq z.cells.length sz && Nat.blt 0 by_) with
  | true => none
  | false => match s with
  | .nilS => match n with
    | 0 => some (.nilS, H)
    | Nat.succ _ => match roomOK n by_ with
      | true => (srcCells H sz n x).bind fun cs => match Nat.beq cs.length (n * sz) with
        | true => some (.slc H.n 0 n (.rest sz), H.new (.cells cs))
        | false => none
      | false => none
  | .slc b o len cap => (srcCells H sz n x).bind fun cs => match roomOK (len + n) by_ with
    | false => none
    | true => match allSingle cs with
      | false => none
      | true => match cap with
        | .ex c => match Nat.ble (len + n) c with
          | true => (writeCells H b (o + len * sz) cs).bind fun H' => some (.slc b o (len + n) (.ex c), H')
          | false => match Nat.beq cs.length (n * sz) with
            | true => (readCells H b o (len * sz)).bind fun old => some (.slc H.n 0 (len + n) (.rest sz), H.new (.cells (old ++ cs)))
            | false => none
        | .rest sz' => match Nat.beq sz sz' with
          | false => none
          | true => (knownCells H b).bind fun kn => match Nat.ble (o + (len + n) * sz) kn with
            | true => (writeCells H b (o + len * sz) cs).bind fun H' => some (.slc b o (len + n) (.rest sz), H')
            | false => match Nat.beq (o + len * sz) kn with
              | true => match Nat.beq cs.length (n * sz) with
                | true => (readCells H b o (len * sz)).bind fun old => some (.slc H.n 0 (len + n) (.rest sz), (H.drop b).new (.cells (old ++ cs)))
                | false => none
              | false => none
  | .zslc => match n with
    | 0 => some (.zslc, H)
    | Nat.succ _ => match roomOK n by_ with
      | true => (srcCells H sz n x).bind fun cs => match Nat.beq cs.length (n * sz) with
        | true => some (.slc H.n 0 n (.rest sz), H.new (.cells cs))
        | false => none
      | false => none
  | .eslc => match n with
    | 0 => some (.eslc, H)
    | Nat.succ _ => none
  | _ => none
def copyA (P : Program) (H : Heap) (elem : TypeId) (d x : AV) : Option (AV × Heap) := (sizeT P elem).bind fun sz => (srcLen x).bind fun n => match d with
  | .nilS | .eslc | .zslc => some (.int .i64 0, H)
  | .slc b o len _ => (srcCells H sz (Nat.min n len) x).bind fun cs => match allSingle cs with
    | true => (writeCells H b o cs).bind fun H' => some (.int .i64 (Nat.min n len : Nat), H')
    | false => none
  | _ => none
def clearA (P : Program) (H : Heap) (t : TypeId) (x : AV) : Option Heap := (P.underlying t).bind fun d => match d, x with
  | _, .nilS => some H
  | _, .eslc => some H
  | _, .zslc => some H
  | _, .nilM => some H
  | .map _ _, .map b => (H.get b).bind fun k => match k with
    | .map _ => H.set b (.map [])
    | _ => none
  | .slice elem, .slc b o len _ => (zeroOf P elem).bind fun z => (sizeT P elem).bind fun sz => match Nat.beq z.cells.length sz && allSingle z.cells with
    | true => writeCells H b o (replL z.cells len)
    | false => none
  | _, _ => none

/-! ### Equality of values -/
mutual
def AV.beq : AV → AV → Bool
  | .undef, .undef => true
  | .bool a, .bool b => a == b
  | .int k a, .int l b => decide (k = l) && decide (a = b)
  | .float k a, .float l b => decide (k = l) && decide (a = b)
  | .cplx k a c, .cplx l b d => decide (k = l) && decide (a = b) && decide (c = d)
  | .str a, .str b => decide (a = b)
  | .nilP, .nilP => true
  | .ptr a c, .ptr b d => decide (a = b) && decide (c = d)
  | .fptr a c, .fptr b d => AV.beqL a b && decide (c = d)
  | .nilS, .nilS => true
  | .eslc, .eslc => true
  | .zslc, .zslc => true
  | .slc a c n q, .slc b d m r => decide (a = b) && decide (c = d) && decide (n = m) && decide (q = r)
  | .fslc z a, .fslc y b => decide (z = y) && AV.beqL a b
  | .nilM, .nilM => true
  | .map a, .map b => decide (a = b)
  | .nilF, .nilF => true
  | .func f a c, .func g b d => decide (f = g) && AV.beqL a b && AV.beqL c d
  | .nilI, .nilI => true
  | .iface t a, .iface u b => decide (t = u) && AV.beq a b
  | .agg a, .agg b => AV.beqL a b
  | .tup a, .tup b => AV.beqL a b
  | _, _ => false
def AV.beqL : List AV → List AV → Bool
  | [], [] => true
  | a :: x, b :: y => AV.beq a b && AV.beqL x y
  | _, _ => false
end
mutual
theorem AV.eq_of_beq : ∀ (a b : AV), AV.beq a b = true → a = b := by
  intro a b h
  cases a <;> cases b <;> simp only [AV.beq, Bool.and_eq_true, decide_eq_true_eq, beq_iff_eq, Bool.false_eq_true] at h <;> try trivial
  all_goals first
    | (subst h; rfl)
    | (obtain ⟨rfl, rfl⟩ := h; rfl)
    | (obtain ⟨⟨rfl, rfl⟩, rfl⟩ := h; rfl)
    | (obtain ⟨⟨⟨rfl, rfl⟩, rfl⟩, rfl⟩ := h; rfl)
    | (obtain ⟨h, rfl⟩ := h; rw [AV.eqL_of_beq _ _ h])
    | (obtain ⟨rfl, h⟩ := h; first | rw [AV.eqL_of_beq _ _ h] | rw [AV.eq_of_beq _ _ h])
    | (obtain ⟨⟨rfl, h⟩, h'⟩ := h; rw [AV.eqL_of_beq _ _ h, AV.eqL_of_beq _ _ h'])
    | rw [AV.eqL_of_beq _ _ h]
theorem AV.eqL_of_beq : ∀ (a b : List AV), AV.beqL a b = true → a = b := by
  intro a b h
  cases a with
  | nil => cases b with
    | nil => rfl
    | cons _ _ => simp [AV.beqL] at h
  | cons x a => cases b with
    | nil => simp [AV.beqL] at h
    | cons y b =>
      simp only [AV.beqL, Bool.and_eq_true] at h
      rw [AV.eq_of_beq _ _ h.1, AV.eqL_of_beq _ _ h.2]
end
mutual
theorem AV.beq_self : ∀ (a : AV), AV.beq a a = true := by
  intro a
  cases a <;> simp only [AV.beq, AV.beqL_self, AV.beq_self, decide_true, Bool.and_self, beq_self_eq_true]
theorem AV.beqL_self : ∀ (a : List AV), AV.beqL a a = true := by
  intro a
  cases a with
  | nil => rfl
  | cons x a => simp only [AV.beqL, AV.beq_self x, AV.beqL_self a, Bool.and_self]
end
instance : DecidableEq AV := fun a b => match h : AV.beq a b with
  | true => isTrue (AV.eq_of_beq a b h)
  | false => isFalse fun e => by subst e; rw [AV.beq_self] at h; cases h

/-! ### Maps -/
def keyEq (P : Program) (t : TypeId) (d : TypeDesc) (a b : AV) : Option Bool := match plainT d with
  | true => eqPart d a b
  | false => match d with
    | .struct _ => eqA P t a b
    | _ => none
/-- the place of a key among the entries; none: it is not there -/
def posA (P : Program) (t : TypeId) (d : TypeDesc) (k : AV) : Nat → List (AV × AV) → Option (Option Nat)
  | _, [] => some none
  | i, e :: es => (keyEq P t d k e.1).bind fun q => match q with
    | true => some (some i)
    | false => posA P t d k (Nat.succ i) es
def findA (P : Program) (t : TypeId) (d : TypeDesc) (k : AV) (es : List (AV × AV)) : Option (Option AV) := (posA P t d k 0 es).bind fun r => match r with
  | none => some none
  | some i => (getL es i).bind fun e => some (some e.2)
def updA (P : Program) (t : TypeId) (d : TypeDesc) (k v : AV) (es : List (AV × AV)) : Option (List (AV × AV)) := (posA P t d k 0 es).bind fun r => match r with
  | none => some (es ++ [(k, v)])
  | some i => (getL es i).bind fun e => match decide (e.1 = k) with
    | true => setL (k, v) es i
    | false => none
def delA (P : Program) (t : TypeId) (d : TypeDesc) (k : AV) (es : List (AV × AV)) : Option (List (AV × AV)) := (posA P t d k 0 es).bind fun r => match r with
  | none => some es
  | some i => some (es.eraseIdx i)
/-- may it be a key of that kind? -/
def keyOK (P : Program) (t : TypeId) (d : TypeDesc) (k : AV) : Option Unit := (keyEq P t d k k).bind fun q => match q with
  | true => some ()
  | false => none
def lookupA (P : Program) (H : Heap) (t : TypeId) (m k : AV) (ok : Bool) : Option AV := (P.underlying t).bind fun d => match d with
  | .map key elem => (P.underlying key).bind fun kd => (keyOK P key kd k).bind fun _ => (match m with
      | .nilM => some []
      | .map b => (H.get b).bind fun x => match x with
        | .map es => some es
        | _ => none
      | _ => none).bind fun es => (findA P key kd k es).bind fun r => match r with
        | some v => some (match ok with | true => .tup [v, .bool true] | false => v)
        | none => (zeroOf P elem).bind fun z => some (match ok with | true => .tup [z, .bool false] | false => z)
  | _ => none
def mapUpdA (P : Program) (H : Heap) (t : TypeId) (m k v : AV) : Option Heap := (P.underlying t).bind fun d => match d with
  | .map key _ => (P.underlying key).bind fun kd => (keyOK P key kd k).bind fun _ => match m with
    | .map b => (H.get b).bind fun x => match x with
      | .map es => (updA P key kd k v es).bind fun es' => (H.ready b [k, v]).set b (.map es')
      | _ => none
    | _ => none
  | _ => none
def deleteA (P : Program) (H : Heap) (t : TypeId) (m k : AV) : Option Heap := (P.underlying t).bind fun d => match d with
  | .map key _ => (P.underlying key).bind fun kd => (keyOK P key kd k).bind fun _ => match m with
    | .nilM => some H
    | .map b => (H.get b).bind fun x => match x with
      | .map es => (delA P key kd k es).bind fun es' => H.set b (.map es')
      | _ => none
    | _ => none
  | _ => none

/-! ### Conversions -/
def byteOf1 : AV → Option UInt8
  | .int .u8 n => some (UInt8.ofNat n.toNat)
  | _ => none
def bytesOf : List AV → Option (List UInt8)
  | [] => some []
  | v :: r => (byteOf1 v).bind fun c => (bytesOf r).bind fun cs => some (c :: cs)
def convA (P : Program) (H : Heap) (src dst : TypeId) (x : AV) : Option (AV × Heap) := (P.underlying src).bind fun sd => (P.underlying dst).bind fun dd => match sd, dd, x with
  | _, .int k, .int _ n => some (.int k (k.wrap n), H)
  | _, .string, .str s => some (.str s, H)
  | .string, .slice e, .str s => (P.underlying e).bind fun ed => match ed with
    | .int .u8 => match roomOK s.length 1 with
      | true => some (.slc H.n 0 s.length (.rest 1), H.new (.cells (bytesAV s)))
      | false => none
    | _ => none
  | .slice e, .string, x => (P.underlying e).bind fun ed => match ed with
    | .int .u8 => (srcLen x).bind fun n => (srcCells H 1 n x).bind fun cs => (bytesOf cs).bind fun s => some (.str s, H)
    | _ => none
  | _, _, _ => none

/-! ### Builtins -/
def maxA (least : Bool) : AV → List AV → Option AV
  | v, [] => some v
  | v, w :: r => match v, w with
    | .int k a, .int k' b => if k = k' then maxA least (.int k (match least with | true => min a b | false => max a b)) r else none
    | _, _ => none
def builtinA (P : Program) (H : Heap) (b : Builtin) (ts : Array TypeId) (args : List AV) : Option (AV × Heap) := match b, args with
  | .len, [x] => (ts[0]?).bind fun t => (lenA P H t x).bind fun n => some (.int .i64 n, H)
  | .append, [s, x] => (ts[0]?).bind fun t => (P.underlying t).bind fun d => match d with
    | .slice elem => (match ts[1]? with
      | some u => (P.underlying u).bind fun ud => match ud with
        | .string => some ()
        | .slice _ => some ()
        | _ => none
      | none => none).bind fun _ => appendA P H elem s x
    | _ => none
  | .copy, [d, s] => (ts[0]?).bind fun t => (P.underlying t).bind fun dd => match dd with
    | .slice elem => copyA P H elem d s
    | _ => none
  | .clear, [x] => (ts[0]?).bind fun t => (clearA P H t x).bind fun H' => some (.tup [], H')
  | .delete, [m, k] => (ts[0]?).bind fun t => (deleteA P H t m k).bind fun H' => some (.tup [], H')
  | .max, v :: r => (maxA false v r).bind fun x => some (x, H)
  | .min, v :: r => (maxA true v r).bind fun x => some (x, H)
  | _, _ => none

/-! ### Calls -/
structure Ctx where
  P : Program
  keep : FuncId → List Nat
  summ : FuncId → Option (List AV → Heap → Option (AV × Heap))

abbrev CallE := FuncId → List AV → Heap → Option (AV × Heap)

def guardA (ops : Array Oper) (s : St) (o : Oper) : Option Bool := match o.guard with
  | none => some true
  | some (j, want) => (ops[j]?).bind fun p => p.dst.bind fun t => (s.get t).bind fun v => match v with
    | .bool b => some (b == want)
    | .tup [] => some false
    | _ => none

def sliceParts (P : Program) (t : TypeId) (len : Nat) (parts : List (Nat × AV)) : Option (List AV) := (P.underlying t).bind fun d => match d with
  | .slice elem => (sizeT P elem).bind fun sz => match Nat.ble (len * sz) 65536 with
    | false => none
    | true => (zeroOf P elem).bind fun z => match Nat.beq z.cells.length sz with
      | true => fillA (fun i => some (i * sz, sz)) parts (replL z.cells len)
      | false => none
  | _ => none

def makeSliceA (P : Program) (H : Heap) (t : TypeId) (l c : AV) : Option (AV × Heap) := (P.underlying t).bind fun d => match d with
  | .slice elem => (sizeT P elem).bind fun sz => (bytesT P elem).bind fun by_ => match c, l with
    | .int .i64 c, .int .i64 l => (idx c 17592186044416).bind fun c => (idx l (Nat.succ c)).bind fun l => match roomOK c by_ with
      | true => (zeroOf P elem).bind fun z => match Nat.beq z.cells.length sz with
        | true => some (.slc H.n 0 l (.ex c), H.new (.cells (replL z.cells c)))
        | false => none
      | false => none
    | _, _ => none
  | _ => none

/-- a new block, and the value that names it -/
def mkBlk (C : Ctx) (o : Oper) (s : St) : Option ((Nat → AV) × Blk) := match o.op with
  | .alloc t => (zeroOf C.P t).bind fun z => (sizeT C.P t).bind fun n => match Nat.beq z.cells.length n with
    | true => some (fun b => .ptr b 0, .cells z.cells)
    | false => none
  | .box _ x => (opnd s x).bind fun x => match allSingle x.cells with
    | true => some (fun b => .ptr b 0, .cells x.cells)
    | false => none
  | .buildSlice t len parts => (opndP s parts.toList).bind fun ps => (sliceParts C.P t len ps).bind fun cs =>
      some (fun b => .slc b 0 len (.ex len), .cells cs)
  | .makeMap t r => (match r with
      | none => some ()
      | some x => (opnd s x).bind fun x => (C.P.underlying t).bind fun d => match d, x with
        | .map _ _, .int .. => some ()
        | _, _ => none).bind fun _ => some (fun b => .map b, .map [])
  | _ => none
/-- a value, and the heap behind it -/
def evalVal (C : Ctx) (call : CallE) (o : Oper) (s : St) : Option (AV × Heap) :=
  let v (x : Option AV) : Option (AV × Heap) := x.bind fun x => some (x, s.H)
  match o.op with
  | .move x | .assign x => v (opnd s x)
  | .pick c a b => (opnd s c).bind fun c => match c with
    | .bool t => match t with
      | true => v (opnd s a)
      | false => v (opnd s b)
    | _ => none
  | .alloc .. | .box .. | .buildSlice .. | .makeMap .. => (mkBlk C o s).bind fun x => some (x.1 s.H.n, s.H.new x.2)
  | .build t parts => (opndP s parts.toList).bind fun ps => v (buildA C.P t ps)
  | .load t a => (opnd s a).bind fun a => v (readVar C.P s.H t a)
  | .store t a x => (opnd s a).bind fun a => (opnd s x).bind fun x => (writeVar C.P s.H t a x).bind fun H => some (.undef, H)
  | .nilCheck x => (opnd s x).bind fun x => match x with
    | .ptr b o => some (.ptr b o, s.H)
    | .fptr cs o => some (.fptr cs o, s.H)
    | .func (.func f) a b => some (.func (.func f) a b, s.H)
    | .func (.yield f) a b => some (.func (.yield f) a b, s.H)
    | _ => none
  | .binOp op t x y _ => (opnd s x).bind fun x => (opnd s y).bind fun y => v (binA C.P op t x y)
  | .unOp op _ x => (opnd s x).bind fun x => v (unA op x)
  | .convert a b x => (opnd s x).bind fun x => convA C.P s.H a b x
  | .makeFunc fn first cap => (opnds s first.toList).bind fun a => (opnds s cap.toList).bind fun b => some (.func fn a b, s.H)
  | .makeSlice t l c => (opnd s l).bind fun l => (opnd s c).bind fun c => makeSliceA C.P s.H t l c
  | .slice t x lo hi mx => (opnd s x).bind fun x => (opndO s lo).bind fun lo => (opndO s hi).bind fun hi => (opndO s mx).bind fun mx => v (sliceA C.P s.H t x lo hi mx)
  | .fieldAddr t x f => (opnd s x).bind fun x => v (fieldAddrA C.P t x f)
  | .field t x f => (opnd s x).bind fun x => v (fieldA C.P t x f)
  | .indexAddr t x i => (opnd s x).bind fun x => (opnd s i).bind fun i => v (indexAddrA C.P t x i)
  | .index t x i => (opnd s x).bind fun x => (opnd s i).bind fun i => v (indexA C.P t x i)
  | .lookup t m k ok => (opnd s m).bind fun m => (opnd s k).bind fun k => v (lookupA C.P s.H t m k ok)
  | .mapUpdate t m k x | .insert t m k x => (opnd s m).bind fun m => (opnd s k).bind fun k => (opnd s x).bind fun x => (mapUpdA C.P s.H t m k x).bind fun H => some (.undef, H)
  | .extract x i => (opnd s x).bind fun x => match x with
    | .tup vs => v (getL vs i)
    | _ => none
  | .call c => (opnds s c.args.toList).bind fun args => match c.callee with
    | .builtin b => builtinA C.P s.H b c.argTypes args
    | .value f => (opnd s f).bind fun f => match f with
      | .func (.func f) first cap => call f (first ++ args ++ cap) s.H
      | _ => none
    | .invoke _ _ => none
  | _ => none

/-- a slot that held a pointer to a block of its own is laid anew: the old block goes -/
def freshen (s : St) (o : Oper) : St := match o.op with
  | .alloc _ | .box _ _ => match o.dst with
    | some t => match s.get t with
      | some (.ptr b 0) => { s with H := s.H.kill b }
      | _ => s
    | none => s
  | _ => s

def evalOp (C : Ctx) (call : CallE) (ops : Array Oper) (o : Oper) (s : St) : Option St := (guardA ops s o).bind fun g => match g with
  | true => (evalVal C call o s).bind fun r => St.put { s with H := r.2 } o.dst r.1
  | false => s.put o.dst (.tup [])

def evalOps (C : Ctx) (call : CallE) (ops : Array Oper) : List Oper → St → Option St
  | [], s => some s
  | o :: r, s => (evalOp C call ops o (freshen s o)).bind fun s => evalOps C call ops r s

inductive Out where
  | normal
  | exit (id : Nat)
  | goto (l : Nat)
  | ret

def retVal (C : Ctx) (s : St) : List ResultVar → Option (List AV)
  | [] => some []
  | x :: r => (match x with
      | .tmp t => s.get t
      | .cell a t => (s.get a).bind fun p => readVar C.P s.H t p).bind fun v => (retVal C s r).bind fun vs => some (v :: vs)
def oneOr : List AV → AV
  | [v] => v
  | vs => .tup vs

/-! ### A region that draws its order -/
inductive Cls where
  | pure | reads | allocs | acts
def clsOf : Op → Cls
  | .move _ | .assign _ | .pick .. | .build .. | .nilCheck _ | .binOp .. | .unOp .. | .makeFunc .. | .fieldAddr .. | .field .. | .indexAddr .. | .index .. | .extract .. => .pure
  | .load .. | .lookup .. | .slice .. => .reads
  | .alloc .. | .box .. | .buildSlice .. | .makeMap .. => .allocs
  | .call c => match c.callee with
    | .builtin b => match b with
      | .len => .reads
      | .max | .min => .pure
      | _ => .acts
    | _ => .acts
  | _ => .acts
/-- i must come ahead of j -/
def ahead (bef : Array Nat) (i j : Nat) : Bool := (bef.getD j 0).testBit i
/-- Is every acting operation behind the one before it? -/
def chained (bef : Array Nat) : List Nat → Bool
  | [] => true
  | i :: r => match r with
    | [] => true
    | j :: _ => match ahead bef i j with
      | true => chained bef r
      | false => false
def acting : Nat → List Oper → List Nat
  | _, [] => []
  | i, o :: r => match clsOf o.op with
    | .acts => i :: acting (Nat.succ i) r
    | _ => acting (Nat.succ i) r
/-- whom an operation asks: the slots of its operands and of its guard -/
def slotsOf (ops : Array Oper) (o : Oper) : List Nat :=
  (o.op.operands.toList.filterMap fun x => match x with | .tmp t => some t | _ => none) ++
  (match o.guard with
    | none => []
    | some (j, _) => match (ops[j]?).bind (·.dst) with
      | some t => [t]
      | none => [])
def memN (n : Nat) : List Nat → Bool
  | [] => false
  | m :: r => match Nat.beq n m with
    | true => true
    | false => memN n r
def orderedAt (bef : Array Nat) (i j : Nat) : Bool := match Nat.beq i j with
  | true => true
  | false => ahead bef i j || ahead bef j i
def writersOK (bef : Array Nat) (i : Nat) (ts : List Nat) : Nat → List Oper → Bool
  | _, [] => true
  | j, p :: r => match p.dst with
    | none => writersOK bef i ts (Nat.succ j) r
    | some t => match memN t ts with
      | false => writersOK bef i ts (Nat.succ j) r
      | true => match (match Nat.beq i j with | true => true | false => match Nat.blt i j with | true => ahead bef i j | false => ahead bef j i) with
        | true => writersOK bef i ts (Nat.succ j) r
        | false => false
def tempsOK (bef : Array Nat) (ops : Array Oper) : Nat → List Oper → Bool
  | _, [] => true
  | i, o :: r => match writersOK bef i (o.dst.toList ++ slotsOf ops o) 0 ops.toList with
    | true => tempsOK bef ops (Nat.succ i) r
    | false => false
/-- each edge that binds comes from an operation ahead in the list -/
def edgesBack (i : Nat) : List Edge → Bool
  | [] => true
  | e :: r => match Region.binds .any e with
    | false => edgesBack i r
    | true => match Nat.blt e.on i with
      | true => edgesBack i r
      | false => false
def allBack : Nat → List Oper → Bool
  | _, [] => true
  | i, o :: r => match edgesBack i o.after.toList with
    | true => allBack (Nat.succ i) r
    | false => false
def drawOK (ops : Array Oper) : Bool := match chained (Region.before ops) (acting 0 ops.toList) with
  | true => match tempsOK (Region.before ops) ops 0 ops.toList with
    | true => allBack 0 ops.toList
    | false => false
  | false => false

/-- a reading operation as it was met: its place, itself, the state, the value -/
structure Rec where
  i : Nat
  o : Oper
  s : St
  v : AV
/-- a new block that no acting operation has wanted yet: its operation's place, its number, itself -/
structure Pend where
  i : Nat
  b : Nat
  k : Blk
/-- the state (the heap without the pending blocks); the pending blocks; the acting operations, the last one first, each with the heap behind it; the readings -/
structure DrawSt where
  s : St
  ps : List Pend
  hs : List (Nat × Heap)
  rs : List Rec
def wantedBy (bef : Array Nat) (i : Nat) : List Pend → List (Nat × Blk)
  | [] => []
  | p :: r => match ahead bef p.i i with
    | true => (p.b, p.k) :: wantedBy bef i r
    | false => wantedBy bef i r
def unwantedBy (bef : Array Nat) (i : Nat) : List Pend → List Pend
  | [] => []
  | p :: r => match ahead bef p.i i with
    | true => unwantedBy bef i r
    | false => p :: unwantedBy bef i r
def allPend : List Pend → List (Nat × Blk)
  | [] => []
  | p :: r => (p.b, p.k) :: allPend r
def Heap.lay (H : Heap) (l : List (Nat × Blk)) : Heap := match l with
  | [] => H
  | x :: r => ⟨H.n, ontoF (x :: r) H.fs⟩
def stepD (C : Ctx) (call : CallE) (ops : Array Oper) (bef : Array Nat) (base i : Nat) (o : Oper) (d : DrawSt) : Option DrawSt := (guardA ops d.s o).bind fun g => match g with
  | false => (d.s.put o.dst (.tup [])).bind fun s' => match clsOf o.op with
    | .acts => some { d with s := { s' with H := s'.H.lay (wantedBy bef i d.ps) }, ps := unwantedBy bef i d.ps, hs := (i, s'.H.lay (wantedBy bef i d.ps)) :: d.hs }
    | _ => some { d with s := s' }
  | true => match clsOf o.op with
    | .allocs => (mkBlk C o d.s).bind fun k => (d.s.put o.dst (k.1 (base + i))).bind fun s' => some { d with s := s', ps := { i := i, b := base + i, k := k.2 } :: d.ps }
    | .acts => (evalVal C call o { d.s with H := d.s.H.lay (wantedBy bef i d.ps) }).bind fun v => (St.put { d.s with H := v.2 } o.dst v.1).bind fun s' =>
        some { d with s := s', ps := unwantedBy bef i d.ps, hs := (i, s'.H) :: d.hs }
    | .reads => (evalVal C call o d.s).bind fun v => (d.s.put o.dst v.1).bind fun s' => some { d with s := s', rs := { i := i, o := o, s := d.s, v := v.1 } :: d.rs }
    | .pure => (evalVal C call o d.s).bind fun v => (d.s.put o.dst v.1).bind fun s' => some { d with s := s' }
def evalD (C : Ctx) (call : CallE) (ops : Array Oper) (bef : Array Nat) (base : Nat) : Nat → List Oper → DrawSt → Option DrawSt
  | _, [], d => some d
  | i, o :: r, d => (stepD C call ops bef base i o d).bind fun d => evalD C call ops bef base (Nat.succ i) r d
/-- the same value at a heap behind acting operation j, where the order allows it to be met there -/
def sameAt (C : Ctx) (call : CallE) (x : Rec) (H : Heap) : Bool := match evalVal C call x.o { x.s with H := H } with
  | some y => decide (y.1 = x.v)
  | none => false
/-- hs: the acting operations, the last one first, each with the heap behind it; H0: the heap ahead of all -/
def sameAll (C : Ctx) (call : CallE) (bef : Array Nat) (x : Rec) (H0 : Heap) : List (Nat × Heap) → Bool
  | [] => sameAt C call x H0
  | h :: r => match ahead bef x.i h.1 with
    | true => sameAll C call bef x H0 r
    | false => match sameAt C call x h.2 with
      | false => false
      | true => match ahead bef h.1 x.i with
        | true => true
        | false => sameAll C call bef x H0 r
def sameRecs (C : Ctx) (call : CallE) (bef : Array Nat) (H0 : Heap) (hs : List (Nat × Heap)) : List Rec → Bool
  | [] => true
  | x :: r => match sameAll C call bef x H0 hs with
    | true => sameRecs C call bef H0 hs r
    | false => false
def freshenAll : List Oper → St → St
  | [], s => s
  | o :: r, s => freshenAll r (freshen s o)
/-- numbers are set aside for the region's new blocks -/
def reserve (s : St) (n : Nat) : St := { s with H := ⟨s.H.n + n, s.H.fs⟩ }
def evalDraw (C : Ctx) (call : CallE) (ops : Array Oper) (s : St) : Option St := match drawOK ops with
  | false => none
  | true => (evalD C call ops (Region.before ops) s.H.n 0 ops.toList ⟨reserve (freshenAll ops.toList s) ops.size, [], [], []⟩).bind fun d =>
    match sameRecs C call (Region.before ops) (reserve (freshenAll ops.toList s) ops.size).H d.hs d.rs with
      | true => some { d.s with H := d.s.H.lay (allPend d.ps) }
      | false => none

/-! ### Code -/
abbrev CodeE := Code → St → Option (Out × St)
/-- a scope: a goto out of its body goes on behind the label within it -/
def evalScope (ih : CodeE) (body : Code) : Nat → Code → St → Option (Out × St)
  | 0, _, _ => none
  | Nat.succ n, c, s => (ih c s).bind fun r => match r.1 with
    | .goto l => match findLabel body l with
      | some rest => evalScope ih body n rest r.2
      | none => some r
    | _ => some r
def evalStep (C : Ctx) (call : CallE) (ih : CodeE) (c : Code) (s : St) : Option (Out × St) := match c with
  | .skip => some (.normal, s)
  | .label _ => some (.normal, s)
  | .region _ ops draw => match draw with
    | false => (evalOps C call ops ops.toList { s with ts := [] }).bind fun s => some (.normal, s)
    | true => (evalDraw C call ops { s with ts := [] }).bind fun s => some (.normal, s)
  | .seq a b => (ih a s).bind fun r => match r.1 with
    | .normal => ih b r.2
    | _ => some r
  | .cond c a b => (opnd s c).bind fun v => match v with
    | .bool t => match t with
      | true => ih a s
      | false => ih b s
    | _ => none
  | .block id b => (ih b s).bind fun r => match r.1 with
    | .exit k => match Nat.beq k id with
      | true => some (.normal, r.2)
      | false => some r
    | _ => some r
  | .loop b => (ih b s).bind fun r => match r.1 with
    | .normal => ih (.loop b) r.2
    | _ => some r
  | .exit id => some (.exit id, s)
  | .scope b => evalScope ih b 1000000 b s
  | .goto l => some (.goto l, s)
  | .ret => some (.ret, s)
  | .rangeFunc .. => none
  | .refuse _ => none
def undefs : List Nat → List AV
  | [] => []
  | _ :: r => .undef :: undefs r
def putArgs (s : St) : Nat → List AV → Option St
  | _, [] => some s
  | i, v :: r => (s.set i v).bind fun s => putArgs s (Nat.succ i) r
def enterF (C : Ctx) (f : FuncId) (fn : Func) (args : List AV) (H : Heap) : Option St :=
  putArgs { ks := C.keep f, vs := undefs (C.keep f), ts := [], sz := args.length + (fn.ntmps - args.length), H := ⟨H.n, [] :: H.fs⟩ } 0 args
def evalFn (C : Ctx) (ih : CodeE) : CallE := fun f args H => match C.summ f with
  | some g => g args H
  | none => (C.P.funcs[f]?).bind fun fn => match fn.name == "runtime.NumGoroutine" with
    | true => none
    | false => fn.body.bind fun body => (enterF C f fn args H).bind fun s => (ih body s).bind fun r => match r.1 with
      | .normal => (retVal C r.2 fn.results.toList).bind fun vs => some (oneOr vs, popTo (oneOr vs) r.2.H)
      | .ret => (retVal C r.2 fn.results.toList).bind fun vs => some (oneOr vs, popTo (oneOr vs) r.2.H)
      | _ => none
def evalN (C : Ctx) : Nat → CodeE
  | 0 => fun _ _ => none
  | Nat.succ n => fun c s => evalStep C (evalFn C (evalN C n)) (evalN C n) c s
def callN (C : Ctx) (n : Nat) : CallE := evalFn C (evalN C n)
end Go.Proofs.Ytpkplilgjdbhhaa
