/- How E's single operations meet the model's: arithmetic, equality, conversions, memory that grows. No condition. -/
import Derived.Test.YtpkplilgjdbhhaaE7
import Derived.IntWalk
namespace Go.Proofs.Ytpkplilgjdbhhaa
set_option linter.unusedSimpArgs false
set_option linter.unusedVariables false
open Go Go.RowKit

theorem bytes_beq (x y : List UInt8) : ((⟨x.toArray⟩ : ByteArray) == ⟨y.toArray⟩) = eqB x y := by
  rw [beq_toListBytes, bytes_toList, bytes_toList, eqB_eq]
  by_cases h : x = y
  · subst h; simp
  · simp [h]

section
variable {P : Program} {ρ : Place} {H H' : Heap} {w : World}

theorem wr_spec {k : IntKind} {n m : Int} (h : wr k n = some m) : k.wrap n = m := by
  unfold wr at h
  split at h
  · split at h
    · rename_i hb
      simp only [Option.some.injEq] at h
      rw [IntWalk.i64_in n (fits64_iff.1 hb), h]
    · simp at h
  · simpa using h

theorem intOp_run {op : BinOp} {k : IntKind} {a b : Int} {v : AV} (h : intOp op k a b = some v) (hs : op ≠ .shl) (hr : op ≠ .shr) (t : TypeId) (w : World) :
    ∃ u, (Go.binOp op t (.int k a) (.int k b)).run P w = .ok u w ∧ VR ρ v u := by
  cases op <;> simp only [intOp, ne_eq, not_true_eq_false, reduceCtorEq] at h hs hr
  case add | sub | mul =>
    replace h := Option.bind_eq_some_iff.1 h; obtain ⟨n, hn, h⟩ := h
    simp only [Option.some.injEq] at h
    subst h
    exact ⟨_, by simp [Go.binOp, Op.intArith, wr_spec hn], .int _ _⟩
  case quo =>
    split at h
    · simp at h
    · rename_i hb
      replace h := Option.bind_eq_some_iff.1 h; obtain ⟨n, hn, h⟩ := h
      simp only [Option.some.injEq] at h
      subst h
      exact ⟨_, by simp [Go.binOp, Op.intDiv, hb, wr_spec hn], .int _ _⟩
  case rem =>
    split at h
    · simp at h
    · rename_i hb
      simp only [Option.some.injEq] at h
      subst h
      exact ⟨_, by simp [Go.binOp, Op.intDiv, hb], .int _ _⟩
  case and | or | xor | andNot =>
    simp only [Option.some.injEq] at h
    subst h
    exact ⟨_, by simp [Go.binOp, Op.intBits], .int _ _⟩
  all_goals
    simp only [Option.some.injEq] at h
    subst h
    exact ⟨_, by simp only [Go.binOp, Op.intCmp, ne_eq, not_true_eq_false, if_false, Sem.run_pure], .bool _⟩
theorem shiftOp_run {op : BinOp} {k k' : IntKind} {a b : Int} {v : AV} (h : shiftOp op k a b = some v) (t : TypeId) (w : World) :
    ∃ u, (Go.binOp op t (.int k a) (.int k' b)).run P w = .ok u w ∧ VR ρ v u := by
  unfold shiftOp at h
  split at h
  · simp at h
  · rename_i hb
    split at h
    · replace h := Option.bind_eq_some_iff.1 h; obtain ⟨n, hn, h⟩ := h
      simp only [Option.some.injEq] at h
      subst h
      exact ⟨_, by simp [Go.binOp, Op.shift, hb, wr_spec hn], .int _ _⟩
    · simp only [Option.some.injEq] at h
      subst h
      exact ⟨_, by simp [Go.binOp, Op.shift, hb], .int _ _⟩
    · simp at h
theorem strOp_run {op : BinOp} {a b : List UInt8} {v : AV} (h : strOp op a b = some v) (t : TypeId) (w : World) :
    ∃ u, (Go.binOp op t (.string ⟨a.toArray⟩) (.string ⟨b.toArray⟩)).run P w = .ok u w ∧ VR ρ v u := by
  have he : (a == b) = eqB a b := by
    rw [eqB_eq]
    by_cases h : a = b
    · subst h; simp
    · simp [h]
  cases op <;> simp only [strOp, reduceCtorEq] at h
  case add =>
    split at h
    · rename_i hb
      simp only [Option.some.injEq] at h
      subst h
      refine ⟨_, ?_, .str _⟩
      have : ¬ a.length + b.length > 9223372036854775807 := by omega
      simp only [Go.binOp]
      rw [run_string_add_if, bytes_size, bytes_size, if_neg this, bytes_append]
    · simp at h
  all_goals
    simp only [Option.some.injEq] at h
    subst h
    exact ⟨_, by simp only [Go.binOp, Op.stringOp, bytes_toList, he]; rfl, .bool _⟩
theorem floatOp_run {op : BinOp} {k : FloatKind} {a b : Nat} {v : AV} (h : floatOp op k a b = some v) (t : TypeId) (w : World) :
    ∃ u, (Go.binOp op t (.float k a) (.float k b)).run P w = .ok u w ∧ VR ρ v u := by
  cases op <;> simp only [floatOp, reduceCtorEq] at h
  all_goals
    replace h := Option.bind_eq_some_iff.1 h; obtain ⟨r, hr, h⟩ := h
    simp only [Option.some.injEq] at h
    subst h
    exact ⟨_, by simp [Go.binOp, Op.floatArith, hr], .float _ _⟩

/-! ### Equality -/
theorem eqPart_run {d : TypeDesc} {x y : AV} {b : Bool} {x' y' : Value} (h : eqPart d x y = some b) (hx : VR ρ x x') (hy : VR ρ y y') {t : TypeId} (hd : P.underlying t = some d)
    (n : Nat) (w : World) : (Op.equalIn (n + 1) t x' y').run P w = .ok b w := by
  unfold eqPart at h
  rw [Op.equalIn]
  simp only [Sem.run_bind, run_underlying hd, Result.andThen_ok]
  split at h <;> cases hx <;> cases hy
  case h_2.int.int =>
    split at h
    · rename_i hk
      simp only [Option.some.injEq] at h
      subst h; subst hk
      simp only [if_true]
      rfl
    · simp at h
  case h_3.str.str =>
    simp only [Option.some.injEq] at h
    subst h
    rw [← bytes_beq]
    rfl
  all_goals first
    | (simp only [Option.some.injEq] at h; subst h; rfl)
    | simp at h
theorem eqFields_run {xs ys : List AV} {xs' ys' : Array Value} (hx : VRs ρ xs xs'.toList) (hy : VRs ρ ys ys'.toList) (n : Nat) (w : World) :
    ∀ {fs : List Field} {b : Bool}, eqFields P fs xs ys = some b → (Op.eqFields (n + 1) xs' ys' fs).run P w = .ok b w
  | [], b, h => by simp only [eqFields, Option.some.injEq] at h; subst h; rfl
  | f :: fs, b, h => by
    unfold eqFields at h
    split at h
    · simp at h
    · rename_i hne
      have hne : f.name ≠ "_" := by simpa using hne
      replace h := Option.bind_eq_some_iff.1 h; obtain ⟨d, hd, h⟩ := h
      split at h
      · simp at h
      · rename_i hpl
        replace h := Option.bind_eq_some_iff.1 h; obtain ⟨x, hxx, h⟩ := h
        replace h := Option.bind_eq_some_iff.1 h; obtain ⟨y, hyy, h⟩ := h
        replace h := Option.bind_eq_some_iff.1 h; obtain ⟨e, he, h⟩ := h
        have hag : aggT P f.type = some false := by
          unfold aggT
          rw [hd]
          cases d <;> first | rfl | simp [plainT] at hpl
        obtain ⟨x', hx1, hx2⟩ := part_run (P := P) (t := f.type) (off := f.offset) (v := x) (by simp [partA, hag, hxx]) hx w
        obtain ⟨y', hy1, hy2⟩ := part_run (P := P) (t := f.type) (off := f.offset) (v := y) (by simp [partA, hag, hyy]) hy w
        have heq := eqPart_run he hx2 hy2 hd n w
        have ih := fun b' (hb : eqFields P fs xs ys = some b') => eqFields_run hx hy n w hb
        simp only [Op.eqFields, hne, ne_eq, not_false_eq_true, if_true, Sem.run_bind, hx1, hy1, heq, Result.andThen_ok]
        cases e with
        | true => simpa using ih b h
        | false => simp only [Option.some.injEq] at h; subst h; simp
theorem eqGuard_plain {op : BinOp} {t : TypeId} {ox oy : Operand} {a b : Value} (w : World) (h1 : a ≠ .nilIface) (h2 : ∀ c, a ≠ .agg c) : (eqGuard op t ox oy a b).run P w = .ok () w := by
  unfold eqGuard
  cases op <;> first | rfl | (cases a <;> first | (cases b <;> rfl) | exact absurd rfl h1 | exact absurd rfl (h2 _))
theorem eqA_run {t : TypeId} {x y : AV} {b : Bool} {x' y' : Value} (h : eqA P t x y = some b) (hx : VR ρ x x') (hy : VR ρ y y') (w : World) :
    (Op.equal t x' y').run P w = .ok b w ∧ ∀ op ox oy, (eqGuard op t ox oy x' y').run P w = .ok () w := by
  replace h := Option.bind_eq_some_iff.1 h; obtain ⟨d, hd, h⟩ := h
  have fin : eqPart d x y = some b → (Op.equal t x' y').run P w = .ok b w ∧ ∀ op ox oy, (eqGuard op t ox oy x' y').run P w = .ok () w := fun h => by
    refine ⟨eqPart_run h hx hy hd 9999 w, fun op ox oy => ?_⟩
    unfold eqPart at h
    split at h <;> first | contradiction | (cases hx <;> exact eqGuard_plain w (by simp) (by simp))
  split at h
  · rename_i d' fs xs ys
    cases hx with
    | agg _ xs' hl hv =>
      cases hy with
      | agg _ ys' hl' hv' =>
        split at h
        · rename_i hst hg
          have ht : P.underlying t = some (.struct (P.fieldsOf t)) := by simp [Program.fieldsOf, hd]
          have hf : (P.fieldsOf t).toList = fs.toList := by simp [Program.fieldsOf, hd]
          refine ⟨?_, fun op ox oy => run_eqGuard_agg w op t ox oy xs' ys' hg⟩
          have := run_equalIn_struct (P := P) w 9999 t xs' ys' ht hst
          simp only [Op.equal, Op.maxDepth]
          rw [this, hf]
          exact eqFields_run (agg_vrs hl hv) (agg_vrs hl' hv') 9998 w h
        · simp at h
  · exact fin h

theorem binA_run {op : BinOp} {t : TypeId} {x y v : AV} {x' y' : Value} (h : binA P op t x y = some v) (hx : VR ρ x x') (hy : VR ρ y y') (ox oy : Operand) (w : World) :
    ∃ u, (do eqGuard op t ox oy x' y'; Go.binOp op t x' y' : Sem Value).run P w = .ok u w ∧ VR ρ v u := by
  have eqs : (op = .eql ∨ op = .neq) → ∀ e, eqA P t x y = some e → v = .bool (if op = .eql then e else !e) → (Go.binOp op t x' y').run P w = ((Op.equal t x' y').run P w).andThen (fun b w' => .ok (.bool (if op = .eql then b else !b)) w') →
      ∃ u, (do eqGuard op t ox oy x' y'; Go.binOp op t x' y' : Sem Value).run P w = .ok u w ∧ VR ρ v u := fun _ e he hv hb => by
    obtain ⟨h1, h2⟩ := eqA_run he hx hy w
    subst hv
    exact ⟨_, by simp only [Sem.run_bind, h2 op ox oy, Result.andThen_ok, hb, h1], .bool _⟩
  unfold binA at h
  split at h
  · cases hx
    cases hy
    rename_i k a k' b
    simp only [Sem.run_bind, eqGuard_plain w (show Value.int k a ≠ .nilIface by simp) (show ∀ c, Value.int k a ≠ .agg c by simp), Result.andThen_ok]
    split at h
    · exact shiftOp_run h t w
    · exact shiftOp_run h t w
    · rename_i h1 h2
      split at h
      · rename_i hk
        subst hk
        exact intOp_run h h1 h2 t w
      · simp at h
  · cases hx
    cases hy
    simp only [Sem.run_bind, eqGuard_plain w (show Value.string _ ≠ .nilIface by simp) (show ∀ c, Value.string _ ≠ .agg c by simp), Result.andThen_ok]
    exact strOp_run h t w
  · cases hx
    cases hy
    rename_i k a k' b
    simp only [Sem.run_bind, eqGuard_plain w (show Value.float k a ≠ .nilIface by simp) (show ∀ c, Value.float k a ≠ .agg c by simp), Result.andThen_ok]
    split at h
    · rename_i hk; subst hk
      exact floatOp_run h t w
    · simp at h
  · simp at h
  · rename_i hn1 hn2 hn3 hn4
    have key : ∀ e, eqA P t x y = some e → (Go.binOp .eql t x' y').run P w = ((Op.equal t x' y').run P w).andThen (fun b w' => .ok (.bool b) w') ∧ (Go.binOp .neq t x' y').run P w = ((Op.equal t x' y').run P w).andThen (fun b w' => .ok (.bool !b) w') := fun e he => by
      obtain ⟨d, hd, he⟩ := Option.bind_eq_some_iff.1 he
      split at he
      · cases hx; cases hy; exact ⟨by simp [Go.binOp], by simp [Go.binOp]⟩
      · unfold eqPart at he
        split at he <;> first | contradiction | (cases hx <;> cases hy <;> first | exact (hn2 _ _ _ _ rfl rfl).elim | exact (hn3 _ _ rfl rfl).elim | exact (hn4 _ _ _ _ rfl rfl).elim | exact ⟨by simp [Go.binOp], by simp [Go.binOp]⟩)
    split at h
    · replace h := Option.bind_eq_some_iff.1 h; obtain ⟨e, he, h⟩ := h
      simp only [Option.some.injEq] at h
      exact eqs (.inl rfl) e he (by simp [← h]) (by simpa using (key e he).1)
    · replace h := Option.bind_eq_some_iff.1 h; obtain ⟨e, he, h⟩ := h
      simp only [Option.some.injEq] at h
      exact eqs (.inr rfl) e he (by simp [← h]) (by simpa using (key e he).2)
    · simp at h
theorem unA_run {op : UnOp} {x v : AV} {x' : Value} (h : unA op x = some v) (hx : VR ρ x x') (w : World) : ∃ u, (Op.unary op x').run P w = .ok u w ∧ VR ρ v u := by
  unfold unA at h
  split at h
  · cases hx
    simp only [Option.some.injEq] at h
    subst h
    exact ⟨_, by simp [Op.unary], .bool _⟩
  · cases hx
    replace h := Option.bind_eq_some_iff.1 h; obtain ⟨n, hn, h⟩ := h
    simp only [Option.some.injEq] at h
    subst h
    have hn' := wr_spec hn
    rw [Int.zero_sub] at hn'
    exact ⟨_, by simp [Op.unary, Op.intArith, hn'], .int _ _⟩
  · simp at h
end
end Go.Proofs.Ytpkplilgjdbhhaa
