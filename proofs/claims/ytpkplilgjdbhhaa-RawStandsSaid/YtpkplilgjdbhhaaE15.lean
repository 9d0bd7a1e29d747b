/- A region that draws its order: whatever the order, E's values are the model's. No condition. -/
import Derived.Test.YtpkplilgjdbhhaaE14
namespace Go.Proofs.Ytpkplilgjdbhhaa
set_option linter.unusedSimpArgs false
set_option linter.unusedVariables false
open Go Go.RowKit

/-! ### What an operation asks of the frame -/
theorem opnd_congr {s s' : St} {x : Operand} (h : ∀ t, x = .tmp t → s.get t = s'.get t) : opnd s x = opnd s' x := by
  cases x with
  | tmp t => exact h t rfl
  | _ => rfl
theorem opnds_congr {s s' : St} : ∀ {xs : List Operand}, (∀ t, Operand.tmp t ∈ xs → s.get t = s'.get t) → opnds s xs = opnds s' xs
  | [], _ => rfl
  | x :: r, h => by
    simp only [opnds]
    rw [opnd_congr (s := s) (s' := s') (x := x) (fun t e => h t (by simp [e])), opnds_congr (fun t ht => h t (List.mem_cons_of_mem _ ht))]
theorem opndP_congr {s s' : St} : ∀ {xs : List (Nat × Operand)}, (∀ t, Operand.tmp t ∈ xs.map (·.2) → s.get t = s'.get t) → opndP s xs = opndP s' xs
  | [], _ => rfl
  | x :: r, h => by
    simp only [opndP]
    rw [opnd_congr (s := s) (s' := s') (x := x.2) (fun t e => h t (by simp [e])), opndP_congr (fun t ht => h t (by simp at ht ⊢; exact .inr ht))]
theorem opndO_congr {s s' : St} {x : Option Operand} (h : ∀ t, x = some (.tmp t) → s.get t = s'.get t) : opndO s x = opndO s' x := by
  cases x with
  | none => rfl
  | some x => simp only [opndO]; rw [opnd_congr (s := s) (s' := s') (x := x) (fun t e => h t (by rw [e]))]
/-- the slots of an operation's operands -/
def Asks (o : Op) (t : Nat) : Prop := Operand.tmp t ∈ o.operands.toList
theorem mkBlk_congr {C : Ctx} {o : Oper} {s s' : St} (h : ∀ t, Asks o.op t → s.get t = s'.get t) : mkBlk C o s = mkBlk C o s' := by
  unfold mkBlk
  unfold Asks at h
  split <;> rename_i hop <;> simp only [hop, Op.operands] at h
  · rfl
  · rename_i t x
    rw [opnd_congr (s := s) (s' := s') (x := x) (fun t e => h t (by simp [e]))]
  · rename_i t l parts
    rw [opndP_congr (s := s) (s' := s') (fun t ht => h t (by simpa using ht))]
  · rename_i t r
    cases r with
    | none => rfl
    | some x => simp only; rw [opnd_congr (s := s) (s' := s') (x := x) (fun t e => h t (by simp [e]))]
  · rfl
theorem evalVal_congr {C : Ctx} {call : CallE} {o : Oper} {s s' : St} (hH : s.H = s'.H) (h : ∀ t, Asks o.op t → s.get t = s'.get t) : evalVal C call o s = evalVal C call o s' := by
  have hm := mkBlk_congr (C := C) h
  have one : ∀ x, x ∈ o.op.operands.toList → opnd s x = opnd s' x := fun x hx => opnd_congr fun t e => h t (by unfold Asks; rw [← e]; exact hx)
  have many : ∀ xs : List Operand, (∀ x, x ∈ xs → x ∈ o.op.operands.toList) → opnds s xs = opnds s' xs := fun xs hx => opnds_congr fun t ht => h t (hx _ ht)
  have opt : ∀ x : Option Operand, (∀ y, x = some y → y ∈ o.op.operands.toList) → opndO s x = opndO s' x := fun x hx => opndO_congr fun t ht => h t (hx _ ht)
  cases hop : o.op with
  | move x => simp only [evalVal, hop, hH, one x (by simp [hop, Op.operands])]
  | assign x => simp only [evalVal, hop, hH, one x (by simp [hop, Op.operands])]
  | pick c x y => simp only [evalVal, hop, hH, one c (by simp [hop, Op.operands]), one x (by simp [hop, Op.operands]), one y (by simp [hop, Op.operands])]
  | alloc t => simp only [evalVal, hop, hH, hm]
  | box t x => simp only [evalVal, hop, hH, hm]
  | buildSlice t n ps => simp only [evalVal, hop, hH, hm]
  | makeMap t r => simp only [evalVal, hop, hH, hm]
  | build t ps =>
    have : opndP s ps.toList = opndP s' ps.toList := opndP_congr fun t ht => h t (by simpa [Asks, hop, Op.operands] using ht)
    simp only [evalVal, hop, hH, this]
  | load t x => simp only [evalVal, hop, hH, one x (by simp [hop, Op.operands])]
  | store t x y => simp only [evalVal, hop, hH, one x (by simp [hop, Op.operands]), one y (by simp [hop, Op.operands])]
  | nilCheck x => simp only [evalVal, hop, hH, one x (by simp [hop, Op.operands])]
  | binOp op t x y ty => simp only [evalVal, hop, hH, one x (by simp [hop, Op.operands]), one y (by simp [hop, Op.operands])]
  | unOp op t x => simp only [evalVal, hop, hH, one x (by simp [hop, Op.operands])]
  | convert t u x => simp only [evalVal, hop, hH, one x (by simp [hop, Op.operands])]
  | makeFunc f x y => simp only [evalVal, hop, hH, many x.toList (fun z hz => by simp [hop, Op.operands] at hz ⊢; exact .inl hz), many y.toList (fun z hz => by simp [hop, Op.operands] at hz ⊢; exact .inr hz)]
  | makeSlice t x y => simp only [evalVal, hop, hH, one x (by simp [hop, Op.operands]), one y (by simp [hop, Op.operands])]
  | slice t x a b c =>
    simp only [evalVal, hop, hH, one x (by simp [hop, Op.operands]), opt a (fun y e => by simp [hop, Op.operands, e]), opt b (fun y e => by simp [hop, Op.operands, e]), opt c (fun y e => by simp [hop, Op.operands, e])]
  | fieldAddr t x f => simp only [evalVal, hop, hH, one x (by simp [hop, Op.operands])]
  | field t x f => simp only [evalVal, hop, hH, one x (by simp [hop, Op.operands])]
  | indexAddr t x y => simp only [evalVal, hop, hH, one x (by simp [hop, Op.operands]), one y (by simp [hop, Op.operands])]
  | index t x y => simp only [evalVal, hop, hH, one x (by simp [hop, Op.operands]), one y (by simp [hop, Op.operands])]
  | lookup t x y ok => simp only [evalVal, hop, hH, one x (by simp [hop, Op.operands]), one y (by simp [hop, Op.operands])]
  | mapUpdate t x y z => simp only [evalVal, hop, hH, one x (by simp [hop, Op.operands]), one y (by simp [hop, Op.operands]), one z (by simp [hop, Op.operands])]
  | insert t x y z => simp only [evalVal, hop, hH, one x (by simp [hop, Op.operands]), one y (by simp [hop, Op.operands]), one z (by simp [hop, Op.operands])]
  | extract x i => simp only [evalVal, hop, hH, one x (by simp [hop, Op.operands])]
  | call c =>
    have h1 := many c.args.toList (fun z hz => by simp [hop, Op.operands, Call.operands] at hz ⊢; exact .inr hz)
    cases hc : c.callee with
    | builtin b => simp only [evalVal, hop, hH, h1, hc]
    | value f => simp only [evalVal, hop, hH, h1, hc, one f (by simp [hop, Op.operands, Call.operands, hc])]
    | invoke x m => simp only [evalVal, hop, hH, h1, hc]
  | _ => simp only [evalVal, hop]

theorem builtin_most {P : Program} {H H' : Heap} {b : Builtin} {ts : Array TypeId} {args : List AV} {v : AV} (hb : b = .max ∨ b = .min) (h : builtinA P H b ts args = some (v, H')) :
    H' = H ∧ ∀ H2, builtinA P H2 b ts args = some (v, H2) := by
  cases args with
  | nil => rcases hb with rfl | rfl <;> simp [builtinA] at h
  | cons x r =>
    have e : ∀ H2, builtinA P H2 b ts (x :: r) = (maxA (decide (b = .min)) x r).bind fun x => some (x, H2) := fun H2 => by rcases hb with rfl | rfl <;> rfl
    rw [e] at h
    obtain ⟨y, hy, h⟩ := Option.bind_eq_some_iff.1 h
    simp only [Option.some.injEq, Prod.mk.injEq] at h
    obtain ⟨rfl, rfl⟩ := h
    exact ⟨rfl, fun H2 => by rw [e, hy]; rfl⟩
theorem builtin_len {P : Program} {H H' : Heap} {ts : Array TypeId} {args : List AV} {v : AV} (h : builtinA P H .len ts args = some (v, H')) : H' = H := by
  cases args with
  | nil => simp [builtinA] at h
  | cons x r =>
    cases r with
    | cons _ _ => simp [builtinA] at h
    | nil =>
      have e : builtinA P H .len ts [x] = (ts[0]?).bind fun t => (lenA P H t x).bind fun n => some (.int .i64 n, H) := rfl
      rw [e] at h
      obtain ⟨t, _, h⟩ := Option.bind_eq_some_iff.1 h
      obtain ⟨n, _, h⟩ := Option.bind_eq_some_iff.1 h
      simp only [Option.some.injEq, Prod.mk.injEq] at h
      exact h.2.symm
/-- pure operations look at no heap; reading ones leave it -/
theorem evalVal_pure {C : Ctx} {call : CallE} {o : Oper} {s : St} {v : AV} {H' : Heap} (hc : clsOf o.op = .pure) (h : evalVal C call o s = some (v, H')) : H' = s.H ∧ ∀ H, evalVal C call o { s with H := H } = some (v, H) := by
  have put : ∀ {x : Option AV}, (x.bind fun x => some (x, s.H)) = some (v, H') → x = some v ∧ H' = s.H := fun {x} hx => by
    obtain ⟨y, hy, hx⟩ := Option.bind_eq_some_iff.1 hx
    simp only [Option.some.injEq, Prod.mk.injEq] at hx
    exact ⟨by rw [hy, hx.1], hx.2.symm⟩
  have hop : ∀ (H : Heap) x, opnd { s with H := H } x = opnd s x := fun H x => opnd_congr fun _ _ => rfl
  have hops : ∀ (H : Heap) x, opnds { s with H := H } x = opnds s x := fun H x => opnds_congr fun _ _ => rfl
  have hopP : ∀ (H : Heap) x, opndP { s with H := H } x = opndP s x := fun H x => opndP_congr fun _ _ => rfl
  cases ho : o.op with
  | move x | assign x =>
    simp only [evalVal, ho, hop] at h ⊢
    obtain ⟨h1, h2⟩ := put h
    exact ⟨h2, fun H => by simp [h1]⟩
  | pick c x y =>
    simp only [evalVal, ho, hop] at h ⊢
    obtain ⟨cv, hcv, h⟩ := Option.bind_eq_some_iff.1 h
    simp only [hcv, Option.bind_some]
    split at h
    · split at h
      · obtain ⟨h1, h2⟩ := put h; exact ⟨h2, fun H => by simp [h1]⟩
      · obtain ⟨h1, h2⟩ := put h; exact ⟨h2, fun H => by simp [h1]⟩
    · simp at h
  | build t ps =>
    simp only [evalVal, ho, hopP] at h ⊢
    obtain ⟨p, hp, h⟩ := Option.bind_eq_some_iff.1 h
    obtain ⟨h1, h2⟩ := put h
    exact ⟨h2, fun H => by simp [hp, h1]⟩
  | nilCheck x =>
    simp only [evalVal, ho, hop] at h ⊢
    obtain ⟨p, hp, h⟩ := Option.bind_eq_some_iff.1 h
    simp only [hp, Option.bind_some]
    split at h <;> simp only [Option.some.injEq, Prod.mk.injEq, reduceCtorEq] at h <;> (obtain ⟨rfl, rfl⟩ := h; exact ⟨rfl, fun H => rfl⟩)
  | binOp op t x y ty =>
    simp only [evalVal, ho, hop] at h ⊢
    obtain ⟨p, hp, h⟩ := Option.bind_eq_some_iff.1 h
    obtain ⟨q, hq, h⟩ := Option.bind_eq_some_iff.1 h
    obtain ⟨h1, h2⟩ := put h
    exact ⟨h2, fun H => by simp [hp, hq, h1]⟩
  | unOp op t x =>
    simp only [evalVal, ho, hop] at h ⊢
    obtain ⟨p, hp, h⟩ := Option.bind_eq_some_iff.1 h
    obtain ⟨h1, h2⟩ := put h
    exact ⟨h2, fun H => by simp [hp, h1]⟩
  | makeFunc f x y =>
    simp only [evalVal, ho, hops] at h ⊢
    obtain ⟨p, hp, h⟩ := Option.bind_eq_some_iff.1 h
    obtain ⟨q, hq, h⟩ := Option.bind_eq_some_iff.1 h
    simp only [Option.some.injEq, Prod.mk.injEq] at h
    obtain ⟨rfl, rfl⟩ := h
    exact ⟨rfl, fun H => by simp [hp, hq]⟩
  | fieldAddr t x f | field t x f =>
    simp only [evalVal, ho, hop] at h ⊢
    obtain ⟨p, hp, h⟩ := Option.bind_eq_some_iff.1 h
    obtain ⟨h1, h2⟩ := put h
    exact ⟨h2, fun H => by simp [hp, h1]⟩
  | indexAddr t x y | index t x y =>
    simp only [evalVal, ho, hop] at h ⊢
    obtain ⟨p, hp, h⟩ := Option.bind_eq_some_iff.1 h
    obtain ⟨q, hq, h⟩ := Option.bind_eq_some_iff.1 h
    obtain ⟨h1, h2⟩ := put h
    exact ⟨h2, fun H => by simp [hp, hq, h1]⟩
  | extract x i =>
    simp only [evalVal, ho, hop] at h ⊢
    obtain ⟨p, hp, h⟩ := Option.bind_eq_some_iff.1 h
    simp only [hp, Option.bind_some]
    split at h
    · obtain ⟨h1, h2⟩ := put h; exact ⟨h2, fun H => by simp [h1]⟩
    · simp at h
  | call c =>
    simp only [clsOf, ho] at hc
    simp only [evalVal, ho, hops, hop] at h ⊢
    obtain ⟨args, ha, h⟩ := Option.bind_eq_some_iff.1 h
    simp only [ha, Option.bind_some]
    split at hc <;> (try simp at hc)
    rename_i b hb
    rw [hb] at h ⊢
    split at hc <;> (try simp at hc; done)
    · obtain ⟨h1, h2⟩ := builtin_most (.inl rfl) h; exact ⟨h1, h2⟩
    · obtain ⟨h1, h2⟩ := builtin_most (.inr rfl) h; exact ⟨h1, h2⟩
  | _ => simp [clsOf, ho] at hc
theorem evalVal_reads {C : Ctx} {call : CallE} {o : Oper} {s : St} {v : AV} {H' : Heap} (hc : clsOf o.op = .reads) (h : evalVal C call o s = some (v, H')) : H' = s.H := by
  have put : ∀ {x : Option AV}, (x.bind fun x => some (x, s.H)) = some (v, H') → H' = s.H := fun {x} hx => by
    obtain ⟨y, hy, hx⟩ := Option.bind_eq_some_iff.1 hx
    simp only [Option.some.injEq, Prod.mk.injEq] at hx
    exact hx.2.symm
  cases ho : o.op with
  | load t x =>
    simp only [evalVal, ho] at h
    obtain ⟨p, hp, h⟩ := Option.bind_eq_some_iff.1 h
    exact put h
  | lookup t x y ok =>
    simp only [evalVal, ho] at h
    obtain ⟨p, hp, h⟩ := Option.bind_eq_some_iff.1 h
    obtain ⟨q, hq, h⟩ := Option.bind_eq_some_iff.1 h
    exact put h
  | slice t x a b c =>
    simp only [evalVal, ho] at h
    obtain ⟨p, hp, h⟩ := Option.bind_eq_some_iff.1 h
    obtain ⟨q, hq, h⟩ := Option.bind_eq_some_iff.1 h
    obtain ⟨q2, hq2, h⟩ := Option.bind_eq_some_iff.1 h
    obtain ⟨q3, hq3, h⟩ := Option.bind_eq_some_iff.1 h
    exact put h
  | call c =>
    simp only [clsOf, ho] at hc
    simp only [evalVal, ho] at h
    obtain ⟨args, ha, h⟩ := Option.bind_eq_some_iff.1 h
    split at hc <;> (try simp at hc)
    rename_i b hb
    rw [hb] at h
    split at hc <;> (try simp at hc; done)
    exact builtin_len h
  | _ => simp [clsOf, ho] at hc
end Go.Proofs.Ytpkplilgjdbhhaa
