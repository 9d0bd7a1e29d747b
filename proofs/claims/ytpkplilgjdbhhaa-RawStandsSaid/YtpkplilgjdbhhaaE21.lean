/- E without fuel: its limit, and the equation that it obeys. No condition. -/
import Derived.Test.YtpkplilgjdbhhaaE20
namespace Go.Proofs.Ytpkplilgjdbhhaa
set_option linter.unusedSimpArgs false
set_option linter.unusedVariables false
open Go Go.RowKit

/-- what lim says, the chain says from some place on -/
def Lim (ch : Nat → CodeE) (lim : CodeE) : Prop := ∀ c s r, lim c s = some r → ∃ n, ∀ m, n ≤ m → ch m c s = some r
def Cont {α : Type} (F : CodeE → Option α) : Prop := ∀ ch lim, Lim ch lim → ∀ r, F lim = some r → ∃ n, ∀ m, n ≤ m → F (ch m) = some r
section
variable {α β : Type}
theorem Cont.of_eq {F G : CodeE → Option α} (h : Cont F) (e : ∀ ih, F ih = G ih) : Cont G := (funext e : F = G) ▸ h
theorem Cont.const (x : Option α) : Cont fun _ => x := fun _ _ _ _ h => ⟨0, fun _ _ => h⟩
theorem Cont.app (c : Code) (s : St) : Cont fun ih => ih c s := fun _ _ h r hr => h c s r hr
theorem Cont.bind {F : CodeE → Option α} {G : CodeE → α → Option β} (hF : Cont F) (hG : ∀ x, Cont fun ih => G ih x) : Cont fun ih => (F ih).bind (G ih) := by
  intro ch lim hl r hr
  obtain ⟨x, hx, hr⟩ := Option.bind_eq_some_iff.1 hr
  obtain ⟨n1, h1⟩ := hF ch lim hl x hx
  obtain ⟨n2, h2⟩ := hG x ch lim hl r hr
  refine ⟨n1 + n2, fun m hm => ?_⟩
  simp only [h1 m (by omega), Option.bind_some]
  exact h2 m (by omega)
end
/-- calls that hang on the codes' runs -/
def ContC (call : CodeE → CallE) : Prop := ∀ f args H, Cont fun ih => call ih f args H

section
variable {C : Ctx} {call : CodeE → CallE}
theorem cont_val (hc : ContC call) (o : Oper) (s : St) : Cont fun ih => evalVal C (call ih) o s := by
  unfold evalVal
  cases hop : o.op
  case call c =>
    simp only
    refine (Cont.const _).bind fun args => ?_
    cases c.callee with
    | builtin b => exact Cont.const _
    | value f =>
      refine (Cont.const _).bind fun fv => ?_
      split
      · exact hc _ _ _
      · exact Cont.const _
    | invoke x m => exact Cont.const _
  all_goals exact Cont.const _
theorem cont_op (hc : ContC call) (ops : Array Oper) (o : Oper) (s : St) : Cont fun ih => evalOp C (call ih) ops o s := by
  unfold evalOp
  refine (Cont.const _).bind fun g => ?_
  cases g with
  | false => exact Cont.const _
  | true => exact (cont_val hc o s).bind fun r => Cont.const _
theorem cont_ops (hc : ContC call) (ops : Array Oper) : ∀ (l : List Oper) (s : St), Cont fun ih => evalOps C (call ih) ops l s
  | [], s => Cont.const _
  | o :: r, s => (cont_op hc ops o _).bind fun s => cont_ops hc ops r s
theorem cont_stepD (hc : ContC call) (ops : Array Oper) (bef : Array Nat) (base i : Nat) (o : Oper) (d : DrawSt) : Cont fun ih => stepD C (call ih) ops bef base i o d := by
  unfold stepD
  refine (Cont.const _).bind fun g => ?_
  cases g with
  | false => exact Cont.const _
  | true =>
    cases clsOf o.op with
    | allocs => exact Cont.const _
    | acts => exact (cont_val hc o _).bind fun v => Cont.const _
    | reads => exact (cont_val hc o _).bind fun v => Cont.const _
    | pure => exact (cont_val hc o _).bind fun v => Cont.const _
theorem cont_evalD (hc : ContC call) (ops : Array Oper) (bef : Array Nat) (base : Nat) : ∀ (l : List Oper) (i : Nat) (d : DrawSt), Cont fun ih => evalD C (call ih) ops bef base i l d
  | [], i, d => Cont.const _
  | o :: r, i, d => (cont_stepD hc ops bef base i o d).bind fun d => cont_evalD hc ops bef base r _ d
/-- a test, as a value that is there or not -/
def okB (b : Bool) : Option Unit := match b with
  | true => some ()
  | false => none
theorem cont_sameAt (hc : ContC call) (x : Rec) (H : Heap) : Cont fun ih => okB (sameAt C (call ih) x H) := by
  have e : (fun ih => okB (sameAt C (call ih) x H)) = fun ih => (evalVal C (call ih) x.o { x.s with H := H }).bind fun y => okB (decide (y.1 = x.v)) := by
    funext ih
    unfold sameAt
    cases evalVal C (call ih) x.o { x.s with H := H } with
    | none => rfl
    | some y => rfl
  rw [e]
  exact (cont_val hc x.o _).bind fun y => Cont.const _
theorem cont_and {F G : CodeE → Bool} (hF : Cont fun ih => okB (F ih)) (hG : Cont fun ih => okB (G ih)) : Cont fun ih => okB (match F ih with | true => G ih | false => false) := by
  have e : (fun ih => okB (match F ih with | true => G ih | false => false)) = fun ih => (okB (F ih)).bind fun _ => okB (G ih) := by
    funext ih
    cases F ih <;> rfl
  rw [e]
  exact hF.bind fun _ => hG
theorem cont_sameAll (hc : ContC call) (bef : Array Nat) (x : Rec) (H0 : Heap) : ∀ (hs : List (Nat × Heap)), Cont fun ih => okB (sameAll C (call ih) bef x H0 hs)
  | [] => cont_sameAt hc x H0
  | h :: r => by
    unfold sameAll
    cases ahead bef x.i h.1 with
    | true => exact cont_sameAll hc bef x H0 r
    | false =>
      have hG : Cont fun ih => okB (match ahead bef h.1 x.i with | true => true | false => sameAll C (call ih) bef x H0 r) := by
        cases ahead bef h.1 x.i with
        | true => exact Cont.const _
        | false => exact cont_sameAll hc bef x H0 r
      have := cont_and (cont_sameAt (C := C) hc x h.2) hG
      refine this.of_eq fun ih => ?_
      cases sameAt C (call ih) x h.2 <;> rfl
theorem cont_sameRecs (hc : ContC call) (bef : Array Nat) (H0 : Heap) (hs : List (Nat × Heap)) : ∀ (rs : List Rec), Cont fun ih => okB (sameRecs C (call ih) bef H0 hs rs)
  | [] => Cont.const _
  | x :: r => cont_and (cont_sameAll hc bef x H0 hs) (cont_sameRecs hc bef H0 hs r)
theorem cont_draw (hc : ContC call) (ops : Array Oper) (s : St) : Cont fun ih => evalDraw C (call ih) ops s := by
  unfold evalDraw
  cases drawOK ops with
  | false => exact Cont.const _
  | true =>
    refine (cont_evalD hc ops _ _ _ _ _).bind fun d => ?_
    have := (cont_sameRecs (C := C) hc (Region.before ops) (reserve (freshenAll ops.toList s) ops.size).H d.hs d.rs).bind (G := fun _ _ => some { d.s with H := d.s.H.lay (allPend d.ps) }) fun _ => Cont.const _
    refine this.of_eq fun ih => ?_
    cases sameRecs C (call ih) (Region.before ops) (reserve (freshenAll ops.toList s) ops.size).H d.hs d.rs <;> rfl
theorem cont_scope (body : Code) : ∀ (n : Nat) (c : Code) (s : St), Cont fun ih => evalScope ih body n c s
  | 0, c, s => Cont.const _
  | n + 1, c, s => by
    refine (Cont.app c s).bind fun r => ?_
    obtain ⟨y, s1⟩ := r
    cases y with
    | goto l =>
      simp only
      cases findLabel body l with
      | some rest => exact cont_scope body n rest s1
      | none => exact Cont.const _
    | _ => exact Cont.const _
theorem cont_step (hc : ContC call) (c : Code) (s : St) : Cont fun ih => evalStep C (call ih) ih c s := by
  cases c with
  | region id ops draw =>
    cases draw with
    | false => exact (cont_ops hc ops _ _).bind fun _ => Cont.const _
    | true => exact (cont_draw hc ops _).bind fun _ => Cont.const _
  | seq a b =>
    refine (Cont.app a s).bind fun r => ?_
    obtain ⟨y, s1⟩ := r
    cases y with
    | normal => exact Cont.app b s1
    | _ => exact Cont.const _
  | cond c a b =>
    refine (Cont.const _).bind fun v => ?_
    cases v with
    | bool t => cases t with
      | true => exact Cont.app a s
      | false => exact Cont.app b s
    | _ => exact Cont.const _
  | block id b =>
    exact (Cont.app b s).bind fun r => Cont.const _
  | loop b =>
    refine (Cont.app b s).bind fun r => ?_
    obtain ⟨y, s1⟩ := r
    cases y with
    | normal => exact Cont.app (.loop b) s1
    | _ => exact Cont.const _
  | scope b => exact cont_scope b _ b s
  | _ => exact Cont.const _
theorem cont_fn (f : FuncId) (args : List AV) (H : Heap) : Cont fun ih => evalFn C ih f args H := by
  unfold evalFn
  cases C.summ f with
  | some g => exact Cont.const _
  | none =>
    refine (Cont.const _).bind fun fn => ?_
    cases (fn.name == "runtime.NumGoroutine") with
    | true => exact Cont.const _
    | false =>
      refine (Cont.const _).bind fun body => (Cont.const _).bind fun s => (Cont.app body s).bind fun r => Cont.const _
end

theorem evalN_mono (C : Ctx) : ∀ n c s r, evalN C n c s = some r → evalN C (n + 1) c s = some r
  | 0, c, s, r, h => by simp [evalN] at h
  | n + 1, c, s, r, h => by
    have h' : evalStep C (evalFn C (evalN C n)) (evalN C n) c s = some r := h
    obtain ⟨m, hm⟩ := cont_step (C := C) (call := evalFn C) (fun f args H => cont_fn f args H) c s (fun _ => evalN C (n + 1)) (evalN C n)
      (fun c s r hr => ⟨0, fun _ _ => evalN_mono C n c s r hr⟩) r h'
    exact hm m (Nat.le_refl _)
theorem evalN_le (C : Ctx) {n m : Nat} (h : n ≤ m) {c : Code} {s : St} {r : Out × St} (hr : evalN C n c s = some r) : evalN C m c s = some r := by
  obtain ⟨d, rfl⟩ : ∃ d, m = n + d := ⟨m - n, by omega⟩
  clear h
  induction d with
  | zero => exact hr
  | succ d ih => exact evalN_mono C (n + d) c s r ih
open Classical in
/-- E, whatever fuel it takes -/
noncomputable def evalL (C : Ctx) : CodeE := fun c s => if h : ∃ r, ∃ n, evalN C n c s = some r then some h.choose else none
noncomputable def callL (C : Ctx) : CallE := evalFn C (evalL C)
theorem evalL_of {C : Ctx} {n : Nat} {c : Code} {s : St} {r : Out × St} (h : evalN C n c s = some r) : evalL C c s = some r := by
  unfold evalL
  have hx : ∃ r, ∃ n, evalN C n c s = some r := ⟨r, n, h⟩
  rw [dif_pos hx]
  obtain ⟨m, hm⟩ := hx.choose_spec
  have h1 := evalN_le C (Nat.le_add_right n m) h
  have h2 := evalN_le C (Nat.le_add_left m n) hm
  rw [h1] at h2
  exact h2.symm
theorem evalL_fuel {C : Ctx} {c : Code} {s : St} {r : Out × St} (h : evalL C c s = some r) : ∃ n, evalN C n c s = some r := by
  unfold evalL at h
  split at h
  · rename_i hx
    simp only [Option.some.injEq] at h
    rw [← h]; exact hx.choose_spec
  · cases h
theorem lim_evalL (C : Ctx) : Lim (evalN C) (evalL C) := fun _ _ _ h => by
  obtain ⟨n, hn⟩ := evalL_fuel h
  exact ⟨n, fun m hm => evalN_le C hm hn⟩
theorem evalL_eq (C : Ctx) (c : Code) (s : St) : evalL C c s = evalStep C (callL C) (evalL C) c s := by
  have up : ∀ r, evalStep C (callL C) (evalL C) c s = some r → evalL C c s = some r := fun r h => by
    obtain ⟨n, hn⟩ := cont_step (C := C) (call := evalFn C) (fun f args H => cont_fn f args H) c s (evalN C) (evalL C) (lim_evalL C) r h
    exact evalL_of (n := n + 1) (hn n (Nat.le_refl _))
  cases h : evalStep C (callL C) (evalL C) c s with
  | some r => exact up r h
  | none =>
    cases h2 : evalL C c s with
    | none => rfl
    | some r =>
      obtain ⟨n, hn⟩ := evalL_fuel h2
      cases n with
      | zero => simp [evalN] at hn
      | succ n =>
        obtain ⟨m, hm⟩ := cont_step (C := C) (call := evalFn C) (fun f args H => cont_fn f args H) c s (fun _ => evalL C) (evalN C n)
          (fun c s r hr => ⟨0, fun _ _ => evalL_of hr⟩) r hn
        have := hm m (Nat.le_refl _)
        simp only at this
        have h' : evalStep C (evalFn C (evalL C)) (evalL C) c s = none := h
        rw [h'] at this; cases this
theorem callL_of {C : Ctx} {n : Nat} {f : FuncId} {args : List AV} {H : Heap} {r : AV × Heap} (h : callN C n f args H = some r) : callL C f args H = some r := by
  obtain ⟨m, hm⟩ := cont_fn (C := C) f args H (fun _ => evalL C) (evalN C n) (fun c s r hr => ⟨0, fun _ _ => evalL_of hr⟩) r h
  exact hm m (Nat.le_refl _)
theorem callL_fuel {C : Ctx} {f : FuncId} {args : List AV} {H : Heap} {r : AV × Heap} (h : callL C f args H = some r) : ∃ n, callN C n f args H = some r := by
  obtain ⟨n, hn⟩ := cont_fn (C := C) f args H (evalN C) (evalL C) (lim_evalL C) r h
  exact ⟨n, hn n (Nat.le_refl _)⟩
theorem callL_ok {C : Ctx} (hm : C.P.follows .mixedOrders = true) (hS : SummOK C) : CallOK C (callL C) := fun f args H v H' h => by
  obtain ⟨n, hn⟩ := callL_fuel h
  exact call_ok hm hS n f args H v H' hn
end Go.Proofs.Ytpkplilgjdbhhaa
