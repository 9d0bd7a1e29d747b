/- E's operations as equations without binders. No condition. -/
import Derived.Test.YtpkplilgjdbhhaaE24
namespace Go.Proofs.Ytpkplilgjdbhhaa
set_option linter.unusedSimpArgs false
set_option linter.unusedVariables false
open Go Go.RowKit

def vH (H : Heap) : Option AV → Option (AV × Heap)
  | some v => some (v, H)
  | none => none
def b2 {α : Type} (f : AV → AV → Option α) : Option AV → Option AV → Option α
  | some x, some y => f x y
  | _, _ => none
def b3 {α : Type} (f : AV → AV → AV → Option α) : Option AV → Option AV → Option AV → Option α
  | some x, some y, some z => f x y z
  | _, _, _ => none
def b1 {α : Type} (f : AV → Option α) : Option AV → Option α
  | some x => f x
  | none => none
def stV : Option Heap → Option (AV × Heap)
  | some H => some (.undef, H)
  | none => none
def clrV : Option Heap → Option (AV × Heap)
  | some H => some (.tup [], H)
  | none => none
def pickV (H : Heap) : Option AV → Option AV → Option AV → Option (AV × Heap)
  | some (.bool true), a, _ => vH H a
  | some (.bool false), _, b => vH H b
  | _, _, _ => none
def mkF (fn : Go.Fn) (H : Heap) : Option (List AV) → Option (List AV) → Option (AV × Heap)
  | some a, some b => some (.func fn a b, H)
  | _, _ => none
def slV (P : Program) (H : Heap) (t : TypeId) : Option AV → Option (Option AV) → Option (Option AV) → Option (Option AV) → Option AV
  | some x, some lo, some hi, some mx => sliceA P H t x lo hi mx
  | _, _, _, _ => none
def faV (P : Program) (t : TypeId) (i : Nat) : Option AV → Option AV
  | some x => fieldAddrA P t x i
  | none => none
def fdV (P : Program) (t : TypeId) (i : Nat) : Option AV → Option AV
  | some x => fieldA P t x i
  | none => none
def luV (P : Program) (H : Heap) (t : TypeId) (ok : Bool) : Option AV → Option AV → Option AV
  | some m, some k => lookupA P H t m k ok
  | _, _ => none
def exV (i : Nat) : Option AV → Option AV
  | some (.tup vs) => getL vs i
  | _ => none
def ncV (H : Heap) : Option AV → Option (AV × Heap)
  | some (.ptr b o) => some (.ptr b o, H)
  | some (.fptr cs o) => some (.fptr cs o, H)
  | some (.func (.func f) a b) => some (.func (.func f) a b, H)
  | some (.func (.yield f) a b) => some (.func (.yield f) a b, H)
  | _ => none
def bltV (P : Program) (H : Heap) (b : Builtin) (ts : Array TypeId) : Option (List AV) → Option (AV × Heap)
  | some args => builtinA P H b ts args
  | none => none
def clV (call : CallE) (H : Heap) : Option AV → Option (List AV) → Option (AV × Heap)
  | some (.func (.func f) first cap), some args => call f (first ++ args ++ cap) H
  | _, _ => none
def alV (P : Program) (H : Heap) (t : TypeId) : Option (AV × Heap) := (zeroOf P t).bind fun z => (sizeT P t).bind fun n => match Nat.beq z.cells.length n with
    | true => some (.ptr H.n 0, H.new (.cells z.cells))
    | false => none
def boxV (H : Heap) : Option AV → Option (AV × Heap)
  | some x => match allSingle x.cells with
    | true => some (.ptr H.n 0, H.new (.cells x.cells))
    | false => none
  | none => none
def bsW (H : Heap) (len : Nat) : Option (List AV) → Option (AV × Heap)
  | some cs => some (.slc H.n 0 len (.ex len), H.new (.cells cs))
  | none => none
def bsV (P : Program) (H : Heap) (t : TypeId) (len : Nat) : Option (List (Nat × AV)) → Option (AV × Heap)
  | some ps => bsW H len (sliceParts P t len ps)
  | none => none
def bldV (P : Program) (t : TypeId) : Option (List (Nat × AV)) → Option AV
  | some ps => buildA P t ps
  | none => none
def consO {α : Type} : Option α → Option (List α) → Option (List α)
  | some x, some r => some (x :: r)
  | _, _ => none
def consP (i : Nat) : Option AV → Option (List (Nat × AV)) → Option (List (Nat × AV))
  | some x, some r => some ((i, x) :: r)
  | _, _ => none
def putV (s : St) (d : Option Tmp) : Option (AV × Heap) → Option St
  | some (v, H) => St.put { s with H := H } d v
  | none => none
def gd2 (w : Bool) : Option AV → Option Bool
  | some (.bool b) => some (b == w)
  | some (.tup []) => some false
  | _ => none
def gd1 (s : St) (w : Bool) : Option Oper → Option Bool
  | some p => match p.dst with
    | some t => gd2 w (s.get t)
    | none => none
  | none => none
def gateV (C : Ctx) (call : CallE) (s : St) (o : Oper) : Option Bool → Option St
  | some true => putV s o.dst (evalVal C call o s)
  | some false => s.put o.dst (.tup [])
  | none => none
def thenOps (C : Ctx) (call : CallE) (ops : Array Oper) : Option St → List Oper → Option St
  | some s, l => evalOps C call ops l s
  | none, _ => none
def lnV (H : Heap) : Option Nat → Option (AV × Heap)
  | some n => some (.int .i64 n, H)
  | none => none
def apV (P : Program) (H : Heap) (s x : AV) : Option TypeDesc → Option TypeDesc → Option (AV × Heap)
  | some (.slice e), some (.slice _) => appendA P H e s x
  | some (.slice e), some .string => appendA P H e s x
  | _, _ => none
def cpV (P : Program) (H : Heap) (s x : AV) : Option TypeDesc → Option (AV × Heap)
  | some (.slice e) => copyA P H e s x
  | _ => none
def frV (s : St) : Option AV → St
  | some (.ptr b 0) => { s with H := s.H.kill b }
  | _ => s
section
variable {C : Ctx} {call : CallE} {ops : Array Oper} {s : St} {P : Program} {H H' : Heap} {d : Option Tmp} {ty : TypeId} {pos : String} {af : Array Edge} {g : Option (Nat × Bool)} {t u : TypeId} {a b c x y z v w : AV} {f fo l m k : Operand} {n i j : Nat}
@[simp] theorem vH_some : vH H (some v) = some (v, H) := rfl
@[simp] theorem b1_some {α : Type} {f : AV → Option α} : b1 f (some x) = f x := rfl
@[simp] theorem b2_some {α : Type} {f : AV → AV → Option α} : b2 f (some x) (some y) = f x y := rfl
@[simp] theorem b3_some {α : Type} {f : AV → AV → AV → Option α} : b3 f (some x) (some y) (some z) = f x y z := rfl
@[simp] theorem stV_some : stV (some H) = some (.undef, H) := rfl
@[simp] theorem clrV_some : clrV (some H) = some (.tup [], H) := rfl
@[simp] theorem pickV_t {p q : Option AV} : pickV H (some (.bool true)) p q = vH H p := rfl
@[simp] theorem pickV_f {p q : Option AV} : pickV H (some (.bool false)) p q = vH H q := rfl
@[simp] theorem mkF_some {fn : Go.Fn} {p q : List AV} : mkF fn H (some p) (some q) = some (.func fn p q, H) := rfl
@[simp] theorem slV_some {lo hi mx : Option AV} : slV P H t (some x) (some lo) (some hi) (some mx) = sliceA P H t x lo hi mx := rfl
@[simp] theorem faV_some : faV P t i (some x) = fieldAddrA P t x i := rfl
@[simp] theorem fdV_some : fdV P t i (some x) = fieldA P t x i := rfl
@[simp] theorem luV_some {ok : Bool} : luV P H t ok (some x) (some y) = lookupA P H t x y ok := rfl
@[simp] theorem exV_some {vs : List AV} : exV i (some (.tup vs)) = getL vs i := rfl
@[simp] theorem ncV_ptr {o : Nat} : ncV H (some (.ptr n o)) = some (.ptr n o, H) := rfl
@[simp] theorem ncV_fptr {cs : List AV} {o : Nat} : ncV H (some (.fptr cs o)) = some (.fptr cs o, H) := rfl
@[simp] theorem ncV_func {f : FuncId} {p q : List AV} : ncV H (some (.func (.func f) p q)) = some (.func (.func f) p q, H) := rfl
@[simp] theorem bltV_some {bu : Builtin} {ts : Array TypeId} {args : List AV} : bltV P H bu ts (some args) = builtinA P H bu ts args := rfl
@[simp] theorem clV_some {f : FuncId} {first cap args : List AV} : clV call H (some (.func (.func f) first cap)) (some args) = call f (first ++ args ++ cap) H := rfl
@[simp] theorem boxV_some : boxV H (some x) = match allSingle x.cells with
    | true => some (.ptr H.n 0, H.new (.cells x.cells))
    | false => none := rfl
@[simp] theorem bsW_some {cs : List AV} : bsW H n (some cs) = some (.slc H.n 0 n (.ex n), H.new (.cells cs)) := rfl
@[simp] theorem bsV_some {ps : List (Nat × AV)} : bsV P H t n (some ps) = bsW H n (sliceParts P t n ps) := rfl
@[simp] theorem bldV_some {ps : List (Nat × AV)} : bldV P t (some ps) = buildA P t ps := rfl
@[simp] theorem consO_some {α : Type} {x : α} {r : List α} : consO (some x) (some r) = some (x :: r) := rfl
@[simp] theorem consP_some {r : List (Nat × AV)} : consP i (some x) (some r) = some ((i, x) :: r) := rfl
@[simp] theorem putV_some : putV s d (some (v, H)) = St.put { s with H := H } d v := rfl
@[simp] theorem gd2_bool {w p : Bool} : gd2 w (some (.bool p)) = some (p == w) := rfl
@[simp] theorem gd2_tup {w : Bool} : gd2 w (some (.tup [])) = some false := rfl
@[simp] theorem gd1_some {w : Bool} {op : Op} : gd1 s w (some ⟨some t, op, ty, pos, af, g⟩) = gd2 w (s.get t) := rfl
@[simp] theorem gate_t {o : Oper} : gateV C call s o (some true) = putV s o.dst (evalVal C call o s) := rfl
@[simp] theorem gate_f {o : Oper} : gateV C call s o (some false) = s.put o.dst (.tup []) := rfl
@[simp] theorem thenOps_some {l : List Oper} : thenOps C call ops (some s) l = evalOps C call ops l s := rfl
@[simp] theorem lnV_some : lnV H (some n) = some (.int .i64 n, H) := rfl
@[simp] theorem apV_ss {e e' : TypeId} : apV P H x y (some (.slice e)) (some (.slice e')) = appendA P H e x y := rfl
@[simp] theorem apV_st {e : TypeId} : apV P H x y (some (.slice e)) (some .string) = appendA P H e x y := rfl
@[simp] theorem cpV_s {e : TypeId} : cpV P H x y (some (.slice e)) = copyA P H e x y := rfl
@[simp] theorem frV_ptr : frV s (some (.ptr n 0)) = { s with H := s.H.kill n } := rfl
@[simp] theorem frV_undef : frV s (some .undef) = s := rfl
@[simp] theorem frV_none : frV s none = s := rfl

@[simp] theorem opnds_c {r : List Operand} : opnds s (l :: r) = consO (opnd s l) (opnds s r) := by
  rw [opnds_cons]; cases opnd s l <;> cases opnds s r <;> rfl
@[simp] theorem opndP_n : opndP s [] = some [] := rfl
@[simp] theorem opndP_c {r : List (Nat × Operand)} : opndP s ((i, l) :: r) = consP i (opnd s l) (opndP s r) := by
  show ((opnd s l).bind fun v => (opndP s r).bind fun vs => some ((i, v) :: vs)) = _
  cases opnd s l with
  | none => rfl
  | some v => cases opndP s r <;> rfl
@[simp] theorem opndO_n : opndO s none = some none := rfl
theorem opndO_s : opndO s (some l) = (opnd s l).map some := by
  show ((opnd s l).bind fun v => some (some v)) = _
  cases opnd s l <;> rfl
@[simp] theorem ops_n : evalOps C call ops [] s = some s := rfl
@[simp] theorem ops_c {o : Oper} {r : List Oper} : evalOps C call ops (o :: r) s = thenOps C call ops (evalOp C call ops o (freshen s o)) r := by
  rw [evalOps_cons]; cases evalOp C call ops o (freshen s o) <;> rfl
@[simp] theorem evo_n {op : Op} : evalOp C call ops ⟨d, op, ty, pos, af, none⟩ s = putV s d (evalVal C call ⟨d, op, ty, pos, af, none⟩ s) := by
  unfold evalOp guardA
  simp only [Option.bind_some]
  cases evalVal C call ⟨d, op, ty, pos, af, none⟩ s <;> rfl
@[simp] theorem evo_g {op : Op} {wt : Bool} : evalOp C call ops ⟨d, op, ty, pos, af, some (j, wt)⟩ s = gateV C call s ⟨d, op, ty, pos, af, some (j, wt)⟩ (gd1 s wt ops[j]?) := by
  unfold evalOp guardA
  simp only
  cases ops[j]? with
  | none => rfl
  | some p =>
    simp only [Option.bind_some, gd1]
    cases p.dst with
    | none => rfl
    | some t =>
      simp only [Option.bind_some]
      cases s.get t with
      | none => rfl
      | some v =>
        have key : ∀ gg : Option Bool, (gg.bind fun g => match g with
          | true => (evalVal C call ⟨d, op, ty, pos, af, some (j, wt)⟩ s).bind fun r => St.put { s with H := r.2 } d r.1
          | false => s.put d (.tup [])) = gateV C call s ⟨d, op, ty, pos, af, some (j, wt)⟩ gg := fun gg => by
          cases gg with
          | none => rfl
          | some q =>
            cases q with
            | false => rfl
            | true =>
              simp only [Option.bind_some, gate_t]
              cases evalVal C call ⟨d, op, ty, pos, af, some (j, wt)⟩ s <;> rfl
        simp only [Option.bind_some]
        rw [← key (gd2 wt (some v))]
        cases v <;> try rfl
        rename_i l
        cases l <;> rfl
@[simp] theorem fr_move : freshen s ⟨d, .move l, ty, pos, af, g⟩ = s := rfl
@[simp] theorem fr_assign : freshen s ⟨d, .assign l, ty, pos, af, g⟩ = s := rfl
@[simp] theorem fr_pick : freshen s ⟨d, .pick l m k, ty, pos, af, g⟩ = s := rfl
@[simp] theorem fr_buildSlice {ps : Array (Nat × Operand)} : freshen s ⟨d, .buildSlice t n ps, ty, pos, af, g⟩ = s := rfl
@[simp] theorem fr_makeMap {ro : Option Operand} : freshen s ⟨d, .makeMap t ro, ty, pos, af, g⟩ = s := rfl
@[simp] theorem fr_build {ps : Array (Nat × Operand)} : freshen s ⟨d, .build t ps, ty, pos, af, g⟩ = s := rfl
@[simp] theorem fr_load : freshen s ⟨d, .load t l, ty, pos, af, g⟩ = s := rfl
@[simp] theorem fr_store : freshen s ⟨d, .store t l m, ty, pos, af, g⟩ = s := rfl
@[simp] theorem fr_nilCheck : freshen s ⟨d, .nilCheck l, ty, pos, af, g⟩ = s := rfl
@[simp] theorem fr_binOp {bo : BinOp} : freshen s ⟨d, .binOp bo t l m u, ty, pos, af, g⟩ = s := rfl
@[simp] theorem fr_unOp {uo : UnOp} : freshen s ⟨d, .unOp uo t l, ty, pos, af, g⟩ = s := rfl
@[simp] theorem fr_convert : freshen s ⟨d, .convert t u l, ty, pos, af, g⟩ = s := rfl
@[simp] theorem fr_makeFunc {fn : Go.Fn} {p q : Array Operand} : freshen s ⟨d, .makeFunc fn p q, ty, pos, af, g⟩ = s := rfl
@[simp] theorem fr_makeSlice : freshen s ⟨d, .makeSlice t l m, ty, pos, af, g⟩ = s := rfl
@[simp] theorem fr_slice {lo hi mx : Option Operand} : freshen s ⟨d, .slice t l lo hi mx, ty, pos, af, g⟩ = s := rfl
@[simp] theorem fr_fieldAddr : freshen s ⟨d, .fieldAddr t l i, ty, pos, af, g⟩ = s := rfl
@[simp] theorem fr_field : freshen s ⟨d, .field t l i, ty, pos, af, g⟩ = s := rfl
@[simp] theorem fr_indexAddr : freshen s ⟨d, .indexAddr t l m, ty, pos, af, g⟩ = s := rfl
@[simp] theorem fr_index : freshen s ⟨d, .index t l m, ty, pos, af, g⟩ = s := rfl
@[simp] theorem fr_lookup {ok : Bool} : freshen s ⟨d, .lookup t l m ok, ty, pos, af, g⟩ = s := rfl
@[simp] theorem fr_mapUpdate : freshen s ⟨d, .mapUpdate t l m k, ty, pos, af, g⟩ = s := rfl
@[simp] theorem fr_insert : freshen s ⟨d, .insert t l m k, ty, pos, af, g⟩ = s := rfl
@[simp] theorem fr_extract : freshen s ⟨d, .extract l i, ty, pos, af, g⟩ = s := rfl
@[simp] theorem fr_call {cc : Call} : freshen s ⟨d, .call cc, ty, pos, af, g⟩ = s := rfl
@[simp] theorem fr_alloc : freshen s ⟨some n, .alloc t, ty, pos, af, g⟩ = frV s (s.get n) := by
  unfold freshen; simp only
  cases s.get n with
  | none => rfl
  | some v => cases v <;> rfl
@[simp] theorem fr_box : freshen s ⟨some n, .box t l, ty, pos, af, g⟩ = frV s (s.get n) := by
  unfold freshen; simp only
  cases s.get n with
  | none => rfl
  | some v => cases v <;> rfl
@[simp] theorem ev_move : evalVal C call ⟨d, .move l, ty, pos, af, g⟩ s = vH s.H (opnd s l) := by unfold evalVal; simp only; cases opnd s l <;> rfl
@[simp] theorem ev_assign : evalVal C call ⟨d, .assign l, ty, pos, af, g⟩ s = vH s.H (opnd s l) := by unfold evalVal; simp only; cases opnd s l <;> rfl
@[simp] theorem ev_pick : evalVal C call ⟨d, .pick l m k, ty, pos, af, g⟩ s = pickV s.H (opnd s l) (opnd s m) (opnd s k) := by
  unfold evalVal; simp only
  cases opnd s l with
  | none => rfl
  | some v =>
    cases v <;> try rfl
    rename_i q
    cases q
    · cases opnd s k <;> rfl
    · cases opnd s m <;> rfl
@[simp] theorem ev_alloc : evalVal C call ⟨d, .alloc t, ty, pos, af, g⟩ s = alV C.P s.H t := by
  unfold evalVal mkBlk alV; simp only
  cases zeroOf C.P t with
  | none => rfl
  | some z => cases sizeT C.P t with
    | none => rfl
    | some n => simp only [Option.bind_some]; cases Nat.beq z.cells.length n <;> rfl
@[simp] theorem ev_box : evalVal C call ⟨d, .box t l, ty, pos, af, g⟩ s = boxV s.H (opnd s l) := by
  unfold evalVal mkBlk boxV; simp only
  cases opnd s l with
  | none => rfl
  | some v => simp only [Option.bind_some]; cases allSingle v.cells <;> rfl
@[simp] theorem ev_bs {ps : Array (Nat × Operand)} : evalVal C call ⟨d, .buildSlice t n ps, ty, pos, af, g⟩ s = bsV C.P s.H t n (opndP s ps.toList) := by
  unfold evalVal mkBlk; simp only
  cases opndP s ps.toList with
  | none => rfl
  | some q => simp only [Option.bind_some, bsV_some]; cases sliceParts C.P t n q <;> rfl
@[simp] theorem ev_mm : evalVal C call ⟨d, .makeMap t none, ty, pos, af, g⟩ s = some (.map s.H.n, s.H.new (.map [])) := rfl
@[simp] theorem ev_bld {ps : Array (Nat × Operand)} : evalVal C call ⟨d, .build t ps, ty, pos, af, g⟩ s = vH s.H (bldV C.P t (opndP s ps.toList)) := by
  unfold evalVal; simp only
  cases opndP s ps.toList with
  | none => rfl
  | some q => simp only [Option.bind_some, bldV_some]; cases buildA C.P t q <;> rfl
@[simp] theorem ev_load : evalVal C call ⟨d, .load t l, ty, pos, af, g⟩ s = vH s.H (b1 (readVar C.P s.H t) (opnd s l)) := by
  unfold evalVal; simp only
  cases opnd s l with
  | none => rfl
  | some v => simp only [Option.bind_some, b1_some]; cases readVar C.P s.H t v <;> rfl
@[simp] theorem ev_store : evalVal C call ⟨d, .store t l m, ty, pos, af, g⟩ s = stV (b2 (writeVar C.P s.H t) (opnd s l) (opnd s m)) := by
  unfold evalVal; simp only
  cases opnd s l with
  | none => rfl
  | some v => cases opnd s m with
    | none => rfl
    | some v2 => simp only [Option.bind_some, b2_some]; cases writeVar C.P s.H t v v2 <;> rfl
@[simp] theorem ev_nc : evalVal C call ⟨d, .nilCheck l, ty, pos, af, g⟩ s = ncV s.H (opnd s l) := by
  unfold evalVal; simp only
  cases opnd s l with
  | none => rfl
  | some v => cases v <;> try rfl
              rename_i fn _ _
              cases fn <;> rfl
@[simp] theorem ev_bin {op : BinOp} {e : TypeId} : evalVal C call ⟨d, .binOp op t l m e, ty, pos, af, g⟩ s = vH s.H (b2 (binA C.P op t) (opnd s l) (opnd s m)) := by
  unfold evalVal; simp only
  cases opnd s l with
  | none => rfl
  | some v => cases opnd s m with
    | none => rfl
    | some v2 => simp only [Option.bind_some, b2_some]; cases binA C.P op t v v2 <;> rfl
@[simp] theorem ev_un {op : UnOp} : evalVal C call ⟨d, .unOp op t l, ty, pos, af, g⟩ s = vH s.H (b1 (unA op) (opnd s l)) := by
  unfold evalVal; simp only
  cases opnd s l with
  | none => rfl
  | some v => simp only [Option.bind_some, b1_some]; cases unA op v <;> rfl
@[simp] theorem ev_conv : evalVal C call ⟨d, .convert t u l, ty, pos, af, g⟩ s = b1 (convA C.P s.H t u) (opnd s l) := by
  unfold evalVal; simp only
  cases opnd s l <;> rfl
@[simp] theorem ev_mf {fn : Go.Fn} {p q : Array Operand} : evalVal C call ⟨d, .makeFunc fn p q, ty, pos, af, g⟩ s = mkF fn s.H (opnds s p.toList) (opnds s q.toList) := by
  unfold evalVal; simp only
  cases opnds s p.toList <;> cases opnds s q.toList <;> rfl
@[simp] theorem ev_ms : evalVal C call ⟨d, .makeSlice t l m, ty, pos, af, g⟩ s = b2 (makeSliceA C.P s.H t) (opnd s l) (opnd s m) := by
  unfold evalVal; simp only
  cases opnd s l <;> cases opnd s m <;> rfl
@[simp] theorem ev_slice {lo hi mx : Option Operand} : evalVal C call ⟨d, .slice t l lo hi mx, ty, pos, af, g⟩ s = vH s.H (slV C.P s.H t (opnd s l) (opndO s lo) (opndO s hi) (opndO s mx)) := by
  unfold evalVal; simp only
  cases opnd s l with
  | none => rfl
  | some v => cases opndO s lo with
    | none => rfl
    | some p => cases opndO s hi with
      | none => rfl
      | some q => cases opndO s mx with
        | none => rfl
        | some r => simp only [Option.bind_some, slV_some]; cases sliceA C.P s.H t v p q r <;> rfl
@[simp] theorem ev_fa : evalVal C call ⟨d, .fieldAddr t l i, ty, pos, af, g⟩ s = vH s.H (faV C.P t i (opnd s l)) := by
  unfold evalVal; simp only
  cases opnd s l with
  | none => rfl
  | some v => simp only [Option.bind_some, faV_some]; cases fieldAddrA C.P t v i <;> rfl
@[simp] theorem ev_fd : evalVal C call ⟨d, .field t l i, ty, pos, af, g⟩ s = vH s.H (fdV C.P t i (opnd s l)) := by
  unfold evalVal; simp only
  cases opnd s l with
  | none => rfl
  | some v => simp only [Option.bind_some, fdV_some]; cases fieldA C.P t v i <;> rfl
@[simp] theorem ev_ia : evalVal C call ⟨d, .indexAddr t l m, ty, pos, af, g⟩ s = vH s.H (b2 (indexAddrA C.P t) (opnd s l) (opnd s m)) := by
  unfold evalVal; simp only
  cases opnd s l with
  | none => rfl
  | some v => cases opnd s m with
    | none => rfl
    | some v2 => simp only [Option.bind_some, b2_some]; cases indexAddrA C.P t v v2 <;> rfl
@[simp] theorem ev_ix : evalVal C call ⟨d, .index t l m, ty, pos, af, g⟩ s = vH s.H (b2 (indexA C.P t) (opnd s l) (opnd s m)) := by
  unfold evalVal; simp only
  cases opnd s l with
  | none => rfl
  | some v => cases opnd s m with
    | none => rfl
    | some v2 => simp only [Option.bind_some, b2_some]; cases indexA C.P t v v2 <;> rfl
@[simp] theorem ev_lu {ok : Bool} : evalVal C call ⟨d, .lookup t l m ok, ty, pos, af, g⟩ s = vH s.H (luV C.P s.H t ok (opnd s l) (opnd s m)) := by
  unfold evalVal; simp only
  cases opnd s l with
  | none => rfl
  | some v => cases opnd s m with
    | none => rfl
    | some v2 => simp only [Option.bind_some, luV_some]; cases lookupA C.P s.H t v v2 ok <;> rfl
@[simp] theorem ev_mu : evalVal C call ⟨d, .mapUpdate t l m k, ty, pos, af, g⟩ s = stV (b3 (mapUpdA C.P s.H t) (opnd s l) (opnd s m) (opnd s k)) := by
  unfold evalVal; simp only
  cases opnd s l with
  | none => rfl
  | some v => cases opnd s m with
    | none => rfl
    | some v2 => cases opnd s k with
      | none => rfl
      | some v3 => simp only [Option.bind_some, b3_some]; cases mapUpdA C.P s.H t v v2 v3 <;> rfl
@[simp] theorem ev_in : evalVal C call ⟨d, .insert t l m k, ty, pos, af, g⟩ s = stV (b3 (mapUpdA C.P s.H t) (opnd s l) (opnd s m) (opnd s k)) := by
  unfold evalVal; simp only
  cases opnd s l with
  | none => rfl
  | some v => cases opnd s m with
    | none => rfl
    | some v2 => cases opnd s k with
      | none => rfl
      | some v3 => simp only [Option.bind_some, b3_some]; cases mapUpdA C.P s.H t v v2 v3 <;> rfl
@[simp] theorem ev_ex : evalVal C call ⟨d, .extract l i, ty, pos, af, g⟩ s = vH s.H (exV i (opnd s l)) := by
  unfold evalVal; simp only
  cases opnd s l with
  | none => rfl
  | some v => cases v <;> try rfl
              rename_i vs
              simp only [Option.bind_some, exV_some]; cases getL vs i <;> rfl
@[simp] theorem ev_blt {bu : Builtin} {args : Array Operand} {ts : Array TypeId} : evalVal C call ⟨d, .call ⟨.builtin bu, args, ts⟩, ty, pos, af, g⟩ s = bltV C.P s.H bu ts (opnds s args.toList) := by
  unfold evalVal; simp only
  cases opnds s args.toList <;> rfl
@[simp] theorem ev_cl {args : Array Operand} {ts : Array TypeId} : evalVal C call ⟨d, .call ⟨.value fo, args, ts⟩, ty, pos, af, g⟩ s = clV call s.H (opnd s fo) (opnds s args.toList) := by
  unfold evalVal; simp only
  cases opnds s args.toList with
  | none => cases opnd s fo with
    | none => rfl
    | some v => cases v <;> try rfl
                rename_i fn _ _
                cases fn <;> rfl
  | some q => cases opnd s fo with
    | none => rfl
    | some v => cases v <;> try rfl
                rename_i fn _ _
                cases fn <;> rfl
@[simp] theorem blt_len : builtinA P H .len #[t] [x] = lnV H (lenA P H t x) := by
  simp only [builtinA, List.getElem?_toArray, List.getElem?_cons_zero, Option.bind_some]
  cases lenA P H t x <;> rfl
@[simp] theorem blt_append : builtinA P H .append #[t, u] [x, y] = apV P H x y (P.underlying t) (P.underlying u) := by
  simp only [builtinA, List.getElem?_toArray, List.getElem?_cons_zero, List.getElem?_cons_succ, Option.bind_some]
  cases P.underlying t with
  | none => rfl
  | some dd =>
    cases dd <;> try (cases P.underlying u <;> rfl)
    simp only [Option.bind_some]
    cases P.underlying u with
    | none => rfl
    | some ud => cases ud <;> rfl
@[simp] theorem blt_copy : builtinA P H .copy #[t, u] [x, y] = cpV P H x y (P.underlying t) := by
  simp only [builtinA, List.getElem?_toArray, List.getElem?_cons_zero, Option.bind_some]
  cases P.underlying t with
  | none => rfl
  | some dd => cases dd <;> rfl
@[simp] theorem blt_clear : builtinA P H .clear #[t] [x] = clrV (clearA P H t x) := by
  simp only [builtinA, List.getElem?_toArray, List.getElem?_cons_zero, Option.bind_some]
  cases clearA P H t x <;> rfl
@[simp] theorem blt_delete : builtinA P H .delete #[t, u] [x, y] = clrV (deleteA P H t x y) := by
  simp only [builtinA, List.getElem?_toArray, List.getElem?_cons_zero, Option.bind_some]
  cases deleteA P H t x y <;> rfl
@[simp] theorem blt_max {ts : Array TypeId} {r : List AV} : builtinA P H .max ts (x :: r) = vH H (maxA false x r) := by
  show (maxA false x r).bind _ = _
  cases maxA false x r <;> rfl
@[simp] theorem blt_min {ts : Array TypeId} {r : List AV} : builtinA P H .min ts (x :: r) = vH H (maxA true x r) := by
  show (maxA true x r).bind _ = _
  cases maxA true x r <;> rfl
end
end Go.Proofs.Ytpkplilgjdbhhaa
