/- E on terms: what a piece of code comes to, step by step. No condition. -/
import Derived.Test.YtpkplilgjdbhhaaE23
namespace Go.Proofs.Ytpkplilgjdbhhaa
set_option linter.unusedSimpArgs false
set_option linter.unusedVariables false
open Go Go.RowKit

/-! ### The frame -/
@[simp] theorem lookK_hit {t : Nat} {ks : List Nat} {v : AV} {vs : List AV} : lookK t (t :: ks) (v :: vs) = some v := by simp [lookK]
@[simp] theorem lookK_miss {t k : Nat} (h : k ≠ t) {ks : List Nat} {v : AV} {vs : List AV} : lookK t (k :: ks) (v :: vs) = lookK t ks vs := by simp [lookK, beqN_ne h]
@[simp] theorem lookK_nil {t : Nat} {vs : List AV} : lookK t [] vs = none := rfl
@[simp] theorem look_hit {t : Nat} {v : AV} {r : List (Nat × AV)} : look t ((t, v) :: r) = some v := by simp [look]
@[simp] theorem look_miss {t k : Nat} (h : k ≠ t) {v : AV} {r : List (Nat × AV)} : look t ((k, v) :: r) = look t r := by simp [look, beqN_ne h]
@[simp] theorem look_nil {t : Nat} : look t [] = none := rfl
@[simp] theorem putK_hit {t : Nat} {ks : List Nat} {x v : AV} {vs : List AV} : putK t v (t :: ks) (x :: vs) = some (v :: vs) := by simp [putK]
@[simp] theorem putK_miss {t k : Nat} (h : k ≠ t) {ks : List Nat} {x v : AV} {vs : List AV} : putK t v (k :: ks) (x :: vs) = (putK t v ks vs).bind fun r => some (x :: r) := by simp [putK, beqN_ne h]
@[simp] theorem putK_nil {t : Nat} {v : AV} {vs : List AV} : putK t v [] vs = none := rfl
@[simp] theorem St_get_mk {ks : List Nat} {vs : List AV} {ts : List (Nat × AV)} {sz t : Nat} {H : Heap} : St.get ⟨ks, vs, ts, sz, H⟩ t = match lookK t ks vs with
    | some v => some v
    | none => look t ts := rfl
@[simp] theorem St_set_mk {ks : List Nat} {vs : List AV} {ts : List (Nat × AV)} {sz t : Nat} {H : Heap} {v : AV} (h : t < sz) : St.set ⟨ks, vs, ts, sz, H⟩ t v = match putK t v ks vs with
    | some vs => some ⟨ks, vs, ts, sz, H⟩
    | none => some ⟨ks, vs, (t, v) :: ts, sz, H⟩ := by
  have : Nat.blt t sz = true := by simpa using h
  unfold St.set
  simp only [this]
  cases putK t v ks vs <;> rfl
@[simp] theorem St_put_some {s : St} {t : Nat} {v : AV} : s.put (some t) v = s.set t v := rfl
@[simp] theorem St_put_none {s : St} {v : AV} : s.put none v = some s := rfl
@[simp] theorem opnd_tmp {s : St} {t : Nat} : opnd s (.tmp t) = s.get t := rfl
@[simp] theorem opnd_const {s : St} {v : Value} : opnd s (.const v) = some (ofV v) := rfl
@[simp] theorem opnd_func {s : St} {f : FuncId} : opnd s (.func f) = some (.func (.func f) [] []) := rfl
@[simp] theorem opnds_nil {s : St} : opnds s [] = some [] := rfl
theorem opnds_cons {s : St} {x : Operand} {r : List Operand} : opnds s (x :: r) = (opnd s x).bind fun v => (opnds s r).bind fun vs => some (v :: vs) := rfl

/-! ### Codes -/
section
variable {C : Ctx} {s : St}
@[simp] theorem evalL_skip : evalL C .skip s = some (.normal, s) := by rw [evalL_eq]; rfl
@[simp] theorem evalL_label {l : Nat} : evalL C (.label l) s = some (.normal, s) := by rw [evalL_eq]; rfl
@[simp] theorem evalL_exit {id : Nat} : evalL C (.exit id) s = some (.exit id, s) := by rw [evalL_eq]; rfl
@[simp] theorem evalL_goto {l : Nat} : evalL C (.goto l) s = some (.goto l, s) := by rw [evalL_eq]; rfl
@[simp] theorem evalL_ret : evalL C .ret s = some (.ret, s) := by rw [evalL_eq]; rfl
@[simp] theorem evalL_seq {a b : Code} : evalL C (.seq a b) s = (evalL C a s).bind fun r => match r.1 with
    | .normal => evalL C b r.2
    | _ => some r := by rw [evalL_eq]; rfl
@[simp] theorem evalL_region {id : Nat} {ops : Array Oper} : evalL C (.region id ops false) s = (evalOps C (callL C) ops ops.toList { s with ts := [] }).bind fun s => some (.normal, s) := by
  rw [evalL_eq]; rfl
@[simp] theorem evalL_draw {id : Nat} {ops : Array Oper} : evalL C (.region id ops true) s = (evalDraw C (callL C) ops { s with ts := [] }).bind fun s => some (.normal, s) := by
  rw [evalL_eq]; rfl
@[simp] theorem evalL_cond {c : Operand} {a b : Code} : evalL C (.cond c a b) s = (opnd s c).bind fun v => match v with
    | .bool t => match t with
      | true => evalL C a s
      | false => evalL C b s
    | _ => none := by rw [evalL_eq]; rfl
@[simp] theorem evalL_block {id : Nat} {b : Code} : evalL C (.block id b) s = (evalL C b s).bind fun r => match r.1 with
    | .exit k => match Nat.beq k id with
      | true => some (.normal, r.2)
      | false => some r
    | _ => some r := by rw [evalL_eq]; rfl
theorem evalL_loop {b : Code} : evalL C (.loop b) s = (evalL C b s).bind fun r => match r.1 with
    | .normal => evalL C (.loop b) r.2
    | _ => some r := by rw [evalL_eq]; rfl
@[simp] theorem evalOps_nil {call : CallE} {ops : Array Oper} : evalOps C call ops [] s = some s := rfl
theorem evalOps_cons {call : CallE} {ops : Array Oper} {o : Oper} {r : List Oper} : evalOps C call ops (o :: r) s = (evalOp C call ops o (freshen s o)).bind fun s => evalOps C call ops r s := rfl
end

/-! ### Goals -/
/-- code c, from s, comes to an end at which Q holds -/
def Wp (C : Ctx) (c : Code) (s : St) (Q : Out → St → Prop) : Prop := ∃ x s', evalL C c s = some (x, s') ∧ Q x s'
def Rg (C : Ctx) (ops : Array Oper) (l : List Oper) (s : St) (Q : St → Prop) : Prop := ∃ s', evalOps C (callL C) ops l s = some s' ∧ Q s'
/-- function f answers -/
def Fn (C : Ctx) (f : FuncId) (args : List AV) (H : Heap) (Q : AV → Heap → Prop) : Prop := ∃ v H', callL C f args H = some (v, H') ∧ Q v H'
/-- as Q, but where the first code ends as usual: then K -/
def thenQ (K : St → Prop) (Q : Out → St → Prop) : Out → St → Prop
  | .normal, s => K s
  | x, s => Q x s
def blockQ (id : Nat) (Q : Out → St → Prop) : Out → St → Prop
  | .exit k, s => if k = id then Q .normal s else Q (.exit k) s
  | x, s => Q x s
section
variable {C : Ctx} {s : St} {Q : Out → St → Prop}
@[simp] theorem thenQ_normal {K : St → Prop} {s : St} : thenQ K Q .normal s = K s := rfl
@[simp] theorem thenQ_exit {K : St → Prop} {s : St} {k : Nat} : thenQ K Q (.exit k) s = Q (.exit k) s := rfl
@[simp] theorem thenQ_goto {K : St → Prop} {s : St} {k : Nat} : thenQ K Q (.goto k) s = Q (.goto k) s := rfl
@[simp] theorem thenQ_ret {K : St → Prop} {s : St} : thenQ K Q .ret s = Q .ret s := rfl
@[simp] theorem blockQ_normal {id : Nat} {s : St} : blockQ id Q .normal s = Q .normal s := rfl
@[simp] theorem blockQ_exit {id k : Nat} {s : St} : blockQ id Q (.exit k) s = if k = id then Q .normal s else Q (.exit k) s := rfl
@[simp] theorem blockQ_goto {id k : Nat} {s : St} : blockQ id Q (.goto k) s = Q (.goto k) s := rfl
@[simp] theorem blockQ_ret {id : Nat} {s : St} : blockQ id Q .ret s = Q .ret s := rfl
theorem wp_skip (h : Q .normal s) : Wp C .skip s Q := ⟨_, _, evalL_skip, h⟩
theorem wp_exit {id : Nat} (h : Q (.exit id) s) : Wp C (.exit id) s Q := ⟨_, _, evalL_exit, h⟩
theorem wp_ret (h : Q .ret s) : Wp C .ret s Q := ⟨_, _, evalL_ret, h⟩
theorem wp_seq {a b : Code} (h : Wp C a s (thenQ (fun s => Wp C b s Q) Q)) : Wp C (.seq a b) s Q := by
  obtain ⟨x, s1, h1, h2⟩ := h
  cases x with
  | normal =>
    obtain ⟨y, s2, h3, h4⟩ := h2
    exact ⟨y, s2, by simp [h1, h3], h4⟩
  | exit k => exact ⟨_, s1, by simp [h1], h2⟩
  | goto k => exact ⟨_, s1, by simp [h1], h2⟩
  | ret => exact ⟨_, s1, by simp [h1], h2⟩
theorem wp_region {id : Nat} {ops : Array Oper} (h : Rg C ops ops.toList { s with ts := [] } fun s => Q .normal s) : Wp C (.region id ops false) s Q := by
  obtain ⟨s1, h1, h2⟩ := h
  exact ⟨_, s1, by simp [h1], h2⟩
theorem wp_draw {id : Nat} {ops : Array Oper} {s' : St} (h : evalDraw C (callL C) ops { s with ts := [] } = some s') (h2 : Q .normal s') : Wp C (.region id ops true) s Q :=
  ⟨_, s', by simp [h], h2⟩
theorem wp_drawn {id : Nat} {ops : Array Oper} (hd : drawOK ops = true) (h : ∃ d, evalD C (callL C) ops (Region.before ops) s.H.n 0 ops.toList ⟨reserve (freshenAll ops.toList { s with ts := [] }) ops.size, [], [], []⟩ = some d ∧
    sameRecs C (callL C) (Region.before ops) (reserve (freshenAll ops.toList { s with ts := [] }) ops.size).H d.hs d.rs = true ∧ Q .normal { d.s with H := d.s.H.lay (allPend d.ps) }) : Wp C (.region id ops true) s Q := by
  obtain ⟨d, h1, h2, h3⟩ := h
  refine wp_draw (s' := { d.s with H := d.s.H.lay (allPend d.ps) }) ?_ h3
  unfold evalDraw
  simp only [hd, h1, Option.bind_some, h2]
theorem wp_cond {c : Operand} {a b : Code} {t : Bool} (hc : opnd s c = some (.bool t)) (h : if t = true then Wp C a s Q else Wp C b s Q) : Wp C (.cond c a b) s Q := by
  cases t with
  | true =>
    obtain ⟨y, s2, h3, h4⟩ := h
    exact ⟨y, s2, by simp [hc, h3], h4⟩
  | false =>
    obtain ⟨y, s2, h3, h4⟩ := h
    exact ⟨y, s2, by simp [hc, h3], h4⟩
theorem wp_block {id : Nat} {b : Code} (h : Wp C b s (blockQ id Q)) : Wp C (.block id b) s Q := by
  obtain ⟨x, s1, h1, h2⟩ := h
  cases x with
  | exit k =>
    by_cases hk : k = id
    · subst hk
      rw [blockQ_exit, if_pos rfl] at h2
      exact ⟨.normal, s1, by simp [h1], h2⟩
    · rw [blockQ_exit, if_neg hk] at h2
      exact ⟨.exit k, s1, by simp [h1, beqN_ne hk], h2⟩
  | normal => exact ⟨_, s1, by simp [h1], h2⟩
  | goto k => exact ⟨_, s1, by simp [h1], h2⟩
  | ret => exact ⟨_, s1, by simp [h1], h2⟩
theorem wp_loop {b : Code} (h : Wp C b s (thenQ (fun s => Wp C (.loop b) s Q) Q)) : Wp C (.loop b) s Q := by
  obtain ⟨x, s1, h1, h2⟩ := h
  cases x with
  | normal =>
    obtain ⟨y, s2, h3, h4⟩ := h2
    exact ⟨y, s2, by rw [evalL_loop]; simp [h1, h3], h4⟩
  | exit k => exact ⟨_, s1, by rw [evalL_loop]; simp [h1], h2⟩
  | goto k => exact ⟨_, s1, by rw [evalL_loop]; simp [h1], h2⟩
  | ret => exact ⟨_, s1, by rw [evalL_loop]; simp [h1], h2⟩
theorem wp_loop_inv {b : Code} (Inv : Nat → St → Prop) (step : ∀ k s, Inv k s → Wp C b s (thenQ (fun s' => ∃ k', k' < k ∧ Inv k' s') Q)) : ∀ k s, Inv k s → Wp C (.loop b) s Q := by
  intro k
  induction k using Nat.strongRecOn with
  | _ k ih =>
    intro s h
    refine wp_loop ?_
    obtain ⟨x, s1, h1, h2⟩ := step k s h
    refine ⟨x, s1, h1, ?_⟩
    cases x with
    | normal => obtain ⟨k', hk, hi⟩ := h2; exact ih k' hk s1 hi
    | exit k => exact h2
    | goto k => exact h2
    | ret => exact h2
theorem Wp.mono {c : Code} {Q' : Out → St → Prop} (h : Wp C c s Q) (hq : ∀ x s, Q x s → Q' x s) : Wp C c s Q' := let ⟨x, s1, h1, h2⟩ := h; ⟨x, s1, h1, hq _ _ h2⟩
theorem Fn.mono {f : FuncId} {args : List AV} {H : Heap} {Q Q' : AV → Heap → Prop} (h : Fn C f args H Q) (hq : ∀ x s, Q x s → Q' x s) : Fn C f args H Q' := let ⟨x, s1, h1, h2⟩ := h; ⟨x, s1, h1, hq _ _ h2⟩
theorem rg_nil {ops : Array Oper} {Q : St → Prop} (h : Q s) : Rg C ops [] s Q := ⟨s, rfl, h⟩
/-- an operation whose value is known -/
theorem rg_val {ops : Array Oper} {o : Oper} {l : List Oper} {Q : St → Prop} {v : AV} {H' : Heap} {s' : St} (hf : freshen s o = s) (hg : guardA ops s o = some true) (hv : evalVal C (callL C) o s = some (v, H'))
    (hp : St.put { s with H := H' } o.dst v = some s') (h : Rg C ops l s' Q) : Rg C ops (o :: l) s Q := by
  obtain ⟨s2, h1, h2⟩ := h
  refine ⟨s2, ?_, h2⟩
  have : evalOp C (callL C) ops o s = some s' := by
    unfold evalOp
    rw [hg]
    simp only [Option.bind_some, hv]
    exact hp
  rw [evalOps_cons, hf, this]
  exact h1
/-- a call of a function, by what it answers -/
theorem rg_call {ops : Array Oper} {o : Oper} {l : List Oper} {Q : St → Prop} {c : Call} {fv : Operand} {f : FuncId} {first cap args : List AV} {R : AV → Heap → Prop} (hf : freshen s o = s) (hg : guardA ops s o = some true)
    (ho : o.op = .call c) (hc : c.callee = .value fv) (hargs : opnds s c.args.toList = some args) (hfv : opnd s fv = some (.func (.func f) first cap)) (hR : Fn C f (first ++ args ++ cap) s.H R)
    (h : ∀ v H', R v H' → ∃ s', St.put { s with H := H' } o.dst v = some s' ∧ Rg C ops l s' Q) : Rg C ops (o :: l) s Q := by
  obtain ⟨v, H', h1, h2⟩ := hR
  obtain ⟨s', h3, h4⟩ := h v H' h2
  refine rg_val hf hg ?_ h3 h4
  unfold evalVal
  simp only [ho, hc, hargs, hfv, Option.bind_some]
  exact h1
/-- a function, by its body -/
theorem fn_body {f : FuncId} {fn : Func} {body : Code} {args : List AV} {H : Heap} {Q : AV → Heap → Prop} {s0 : St} (hs : C.summ f = none) (hf : C.P.funcs[f]? = some fn) (hn : (fn.name == "runtime.NumGoroutine") = false)
    (hb : fn.body = some body) (he : enterF C f fn args H = some s0)
    (h : Wp C body s0 fun x s => (x = .normal ∨ x = .ret) ∧ ∃ vs, retVal C s fn.results.toList = some vs ∧ Q (oneOr vs) (popTo (oneOr vs) s.H)) : Fn C f args H Q := by
  obtain ⟨x, s1, h1, hx, vs, h2, h3⟩ := h
  refine ⟨_, _, ?_, h3⟩
  unfold callL evalFn
  simp only [hs, hf, hn, hb, he, Option.bind_some, h1]
  rcases hx with rfl | rfl <;> simp [h2]
end
end Go.Proofs.Ytpkplilgjdbhhaa
