/- How E's frames, regions and calls meet the model's. No condition. -/
import Derived.Test.YtpkplilgjdbhhaaE13
import Derived.OrdersIn
import Derived.RangeFuncCalls
namespace Go.Proofs.Ytpkplilgjdbhhaa
set_option linter.unusedSimpArgs false
set_option linter.unusedVariables false
open Go Go.RowKit

/-- no fence; of a round, or of an activation -/
def fen : Option Nat → Fence
  | none => Fence.wide
  | some l => Fence.wide.inRound l
theorem fen_fn (r : Option Nat) (f : FuncId) : (fen r).fn f := by cases r <;> trivial
theorem fen_depth (r : Option Nat) : (fen r).depth.isSome = false := by cases r <;> rfl
theorem fen_calls {r : Option Nat} {n : Nat} {P : Program} {f : FuncId} {args : Array Value} {w : World} {R : Ending → World → Prop} (h : CallsIn Fence.wide n P f args w R) : CallsIn (fen r) n P f args w R := by
  cases r with
  | none => exact h
  | some l => exact h.inRound l

section
variable {ρ : Place} {w : World}

/-- what a call leaves -/
def After (ρ : Place) (H : Heap) (w : World) (v : AV) (H' : Heap) : Ending → World → Prop :=
  fun e w' => ∃ x ρ', e = .returned x ∧ VR ρ' v x ∧ Sim ρ' H' w' ∧ Step ρ H w ρ' H' w'
/-- a call's answer is the model's: at once, or by entering a function -/
def CallAt (C : Ctx) (f : FuncId) (args : List AV) (H : Heap) (v : AV) (H' : Heap) : Prop :=
  ∀ ρ w xs, Sim ρ H w → VRs ρ args xs →
    (∃ x ρ' w', (callFunc f xs.toArray).run C.P w = .ok (.value x) w' ∧ VR ρ' v x ∧ Sim ρ' H' w' ∧ Step ρ H w ρ' H' w') ∨
    (∃ g ys, (callFunc f xs.toArray).run C.P w = .ok (.enter g ys) w ∧ CallsIn Fence.wide 0 C.P g ys w (After ρ H w v H'))
def CallOK (C : Ctx) (call : CallE) : Prop := ∀ f args H v H', call f args H = some (v, H') → CallAt C f args H v H'

theorem guard_run {ops : Array Oper} {s : St} {a : Act} {o : Oper} {g : Bool} (e : EnvR ρ s a) (h : guardA ops s o = some g) : Region.wanted o (yielded ops a.tmps) = g := by
  unfold guardA at h
  unfold Region.wanted
  split at h
  · rename_i hg
    simp only [Option.some.injEq] at h
    subst h
    simp [hg]
  · rename_i j want hg
    replace h := Option.bind_eq_some_iff.1 h; obtain ⟨p, hp, h⟩ := h
    replace h := Option.bind_eq_some_iff.1 h; obtain ⟨t, ht, h⟩ := h
    replace h := Option.bind_eq_some_iff.1 h; obtain ⟨v, hv, h⟩ := h
    have hvr := e.val t v hv
    simp only [hg, yielded, hp, ht, Option.bind_some]
    rw [Array.getD_eq_getD_getElem?] at hvr
    split at h
    · rename_i b
      simp only [Option.some.injEq] at h
      subst h
      cases hx : a.tmps[t]? with
      | none => rw [hx] at hvr; cases hvr
      | some x =>
        rw [hx] at hvr
        simp only [Option.getD_some] at hvr
        cases hvr
        simp
    · simp only [Option.some.injEq] at h
      subst h
      cases hx : a.tmps[t]? with
      | none => simp
      | some x =>
        rw [hx] at hvr
        simp only [Option.getD_some] at hvr
        cases hvr
        simp
    · simp at h

theorem semAt_exec {C : Ctx} {call : CallE} {o : Oper} {s : St} {r : AV × Heap} (h : evalVal C call o s = some r) (ro : Option Nat) (f : Operand → Value) : o.semAt ro f = execOp f o := by
  unfold Oper.semAt
  split
  · rename_i l c hop
    unfold evalVal at h
    simp [hop] at h
  · rfl
theorem fen_round (r : Option Nat) : (fen r).round = r := by cases r <;> rfl

theorem op_core {C : Ctx} {call : CallE} (hC : CallOK C call) {o : Oper} {s : St} {a : Act} {r : Option Nat} {next : Act → World → Prop} {Q : Exit → Act → World → Prop} {v : AV} {H' : Heap}
    (hv : evalVal C call o s = some (v, H')) (sm : Sim ρ s.H w) (e : EnvR ρ s a)
    (fin : ∀ x ρ' w', VR ρ' v x → Sim ρ' H' w' → Step ρ s.H w ρ' H' w' → next (a.put o.dst x) w') : o.wpIn (fen r) 0 C.P a w next Q := by
  refine ⟨fun f _ => fen_fn r f, ?_⟩
  rw [semAt_exec hv]
  by_cases hq : quietOp o.op
  · obtain ⟨x, ρ', w', h1, h2, h3, h4⟩ := val_run sm e hv hq
    rcases h4 with h4 | ⟨h4, rfl⟩
    · rw [h4]; exact fin x ρ' w' h1 h2 h3
    · rw [h4]; exact fin undef ρ' w' h1 h2 h3
  · -- a call of a Go function
    have : ∃ c f, o.op = .call c ∧ c.callee = .value f := by
      by_cases hc : ∃ c, o.op = .call c
      · obtain ⟨c, hc⟩ := hc
        cases hcc : c.callee with
        | value f => exact ⟨c, f, hc, hcc⟩
        | builtin b => exact absurd (fun c' hc' => by rw [hc] at hc'; cases hc'; exact ⟨b, hcc⟩) hq
        | invoke x m =>
          unfold evalVal at hv
          simp [hc, hcc] at hv
      · exact absurd (fun c hc' => absurd ⟨c, hc'⟩ hc) hq
    obtain ⟨c, f, hop, hcc⟩ := this
    have hv2 : ((opnds s c.args.toList).bind fun args => (opnd s f).bind fun f => match f with
      | .func (.func f) first cap => call f (first ++ args ++ cap) s.H
      | _ => none) = some (v, H') := by
      unfold evalVal at hv
      simp only [hop, hcc] at hv
      exact hv
    obtain ⟨args, ha, hv2⟩ := Option.bind_eq_some_iff.1 hv2
    obtain ⟨fv, hf, hv2⟩ := Option.bind_eq_some_iff.1 hv2
    split at hv2
    · rename_i g first cap
      obtain ⟨first', cap', hfe, hfi, hca⟩ := (opnd_run e hf).args
      have hall : VRs ρ (first ++ args ++ cap) (first'.toList ++ (c.args.map a.eval).toList ++ cap'.toList) := (hfi.append (opnds_arr e ha)).append hca
      have hrun : (execOp a.eval o).run C.P w = (callFunc g (first'.toList ++ (c.args.map a.eval).toList ++ cap'.toList).toArray).run C.P w := by
        have e1 : (first'.toList ++ (c.args.map a.eval).toList ++ cap'.toList).toArray = first' ++ c.args.map a.eval ++ cap' := by apply Array.ext'; simp
        rw [e1]
        simp [execOp, hop, hcc, resolve, Deferred.ofValue, hfe, invoke]
      rw [hrun]
      rcases hC g _ s.H v H' hv2 ρ w _ sm hall with ⟨x, ρ', w', h1, h2, h3, h4⟩ | ⟨g', ys, h1, h2⟩
      · rw [h1]; exact fin x ρ' w' h2 h3 h4
      · rw [h1]
        refine ⟨fun hd => (by rw [fen_depth] at hd; cases hd), ?_⟩
        refine CallsIn.mono (fen_calls h2) ?_
        rintro e' w' ⟨x, ρ', rfl, h3, h4, h5⟩
        exact fin x ρ' w' h3 h4 h5
    · simp at hv2
theorem op_wp {C : Ctx} {call : CallE} (hC : CallOK C call) {ops : Array Oper} {i : Nat} {o : Oper} (ho : ops[i]? = some o) {s s' : St} {a : Act} {r : Option Nat} {next : Act → World → Prop} {Q : Exit → Act → World → Prop}
    (h : evalOp C call ops o s = some s') (sm : Sim ρ s.H w) (e : EnvR ρ s a)
    (hk : ∀ a' w' ρ', Sim ρ' s'.H w' → Step ρ s.H w ρ' s'.H w' → EnvR ρ' s' a' → a'.defers = a.defers → next a' w') : wpOpIn (fen r) 0 C.P ops Q i next a w := by
  unfold wpOpIn
  simp only [ho]
  have defers : ∀ (d : Option Tmp) (x : Value), (a.put d x).defers = a.defers := fun d x => by cases d <;> rfl
  replace h := Option.bind_eq_some_iff.1 h; obtain ⟨g, hg, h⟩ := h
  rw [guard_run e hg]
  split at h
  · simp only [if_true]
    replace h := Option.bind_eq_some_iff.1 h; obtain ⟨⟨v, H'⟩, hv, hput⟩ := h
    have hput : St.put { s with H := H' } o.dst v = some s' := hput
    have hH : s'.H = H' := St.put_heap hput
    exact op_core hC hv sm e fun x ρ' w' h1 h2 h3 => hk _ w' ρ' (hH ▸ h2) (hH ▸ h3) (((e.mono h3.le).heap H').put hput h1) (defers _ _)
  · simp only [Bool.false_eq_true, if_false]
    refine ⟨fun f _ => fen_fn r f, ?_⟩
    have hH : s'.H = s.H := St.put_heap h
    exact hk _ w ρ (hH ▸ sm) (hH ▸ .refl _ _ _) (e.put h (.tup [] #[] rfl (fun i h => absurd h (Nat.not_lt_zero i)))) (defers _ _)

theorem freshen_run {s : St} {a : Act} (sm : Sim ρ s.H w) (e : EnvR ρ s a) (o : Oper) :
    Sim ρ (freshen s o).H w ∧ Step ρ s.H w ρ (freshen s o).H w ∧ EnvR ρ (freshen s o) a := by
  unfold freshen
  have kill : ∀ b, Sim ρ ({ s with H := s.H.kill b } : St).H w ∧ Step ρ s.H w ρ ({ s with H := s.H.kill b } : St).H w ∧ EnvR ρ { s with H := s.H.kill b } a := fun b =>
    ⟨(sm.killed b).1, (sm.killed b).2, e.heap _⟩
  repeat' split
  all_goals first | exact kill _ | exact ⟨sm, .refl _ _ _, e⟩

theorem ops_wp {C : Ctx} {call : CallE} (hC : CallOK C call) {ops : Array Oper} {r : Option Nat} {Q : Exit → Act → World → Prop} : ∀ {l : List Oper} {i : Nat} {s s' : St} {a : Act} {ρ : Place} {w : World},
    (∀ j, l[j]? = ops[i + j]?) → evalOps C call ops l s = some s' → Sim ρ s.H w → EnvR ρ s a →
    (∀ a' w' ρ', Sim ρ' s'.H w' → Step ρ s.H w ρ' s'.H w' → EnvR ρ' s' a' → a'.defers = a.defers → Q .normal a' w') → wpOpsIn (fen r) 0 C.P ops Q (List.range' i l.length) a w
  | [], i, s, s', a, ρ, w, _, h, sm, e, hk => by
    simp only [evalOps, Option.some.injEq] at h
    subst h
    exact hk a w ρ sm (.refl _ _ _) e rfl
  | o :: l, i, s, s', a, ρ, w, hl, h, sm, e, hk => by
    obtain ⟨s1, h1, h2⟩ := Option.bind_eq_some_iff.1 h
    obtain ⟨g1, g2, g3⟩ := freshen_run sm e o
    rw [List.length_cons, List.range'_succ, wpOpsIn_cons]
    refine op_wp hC (by simpa using (hl 0).symm) h1 g1 g3 fun a' w' ρ' k1 k2 k3 k4 => ?_
    refine ops_wp hC (fun j => by have := hl (j + 1); simpa [Nat.add_assoc, Nat.add_comm 1 j] using this) h2 k1 k3 fun a2 w2 ρ2 m1 m2 m3 m4 => ?_
    exact hk a2 w2 ρ2 m1 ((g2.trans k2).trans m2) m3 (m4.trans k4)
theorem EnvR.fresh {s : St} {a : Act} (e : EnvR ρ s a) : EnvR ρ { s with ts := [] } a := by
  refine ⟨e.size, fun t v h => e.val t v ?_⟩
  simp only [St.get] at h ⊢
  split at h
  · rename_i x hx; simp only [Option.some.injEq] at h; subst h; simp [hx]
  · simp [look] at h
end
end Go.Proofs.Ytpkplilgjdbhhaa
