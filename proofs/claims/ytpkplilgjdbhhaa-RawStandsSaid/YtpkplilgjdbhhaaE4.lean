/- How E's operations that call nobody meet the model's. No condition. -/
import Derived.Test.YtpkplilgjdbhhaaE3
import Derived.Laws.Tables
import Derived.ChangeKeysEq
namespace Go.Proofs.Ytpkplilgjdbhhaa
set_option linter.unusedSimpArgs false
set_option linter.unusedVariables false
open Go Go.RowKit

theorem beqN_ne {a b : Nat} (h : a ≠ b) : Nat.beq a b = false := by
  cases hb : Nat.beq a b
  · rfl
  · exact absurd (Nat.eq_of_beq_eq_true hb) h

section
variable {P : Program} {ρ : Place}

/-! ### Constants, types -/
theorem VR.const1 (v : Value) : VR ρ (ofV1 v) v := by
  unfold ofV1
  split <;> first | exact .undef _ | (rename_i s; exact .str s.data.toList) | constructor
theorem VR.const (v : Value) : VR ρ (ofV v) v := by
  unfold ofV
  split
  · rename_i cs
    exact .agg _ _ (by simp) fun i h h' => by simpa using VR.const1 _
  · exact VR.const1 _
theorem VRs.const (v : Value) : VRs ρ (ofV v).cells v.cells.toList := by
  unfold ofV
  split
  · rename_i cs
    exact ⟨by simp [AV.cells, Value.cells], fun i h h' => by simpa [AV.cells, Value.cells] using VR.const1 _⟩
  · rename_i hx
    have hc : v.cells = #[v] := by cases v <;> first | rfl | exact absurd rfl (hx _)
    have hc' : (ofV1 v).cells = [ofV1 v] := by
      unfold ofV1
      split <;> rfl
    rw [hc, hc']
    exact .cons (VR.const1 v) .nil
theorem ofV1_cells (v : Value) : (ofV1 v).cells = [ofV1 v] := by
  unfold ofV1
  split <;> rfl

theorem zeroOf_run {t : TypeId} {z : AV} (h : zeroOf P t = some z) : ∃ v, z = ofV v ∧ (∀ w, (zeroValue t).run P w = .ok v w) ∧ ∃ i, P.info? t = some i ∧ i.zero = some v := by
  obtain ⟨i, hi, h⟩ := Option.bind_eq_some_iff.1 h
  obtain ⟨v, hv, h⟩ := Option.bind_eq_some_iff.1 h
  simp only [Option.some.injEq] at h
  exact ⟨v, h.symm, fun w => by simp [zeroValue, typeInfo, hi, hv], i, hi, hv⟩
theorem sizeT_info {t : TypeId} {n : Nat} (h : sizeT P t = some n) : ∃ i, P.info? t = some i ∧ i.size = n := by
  obtain ⟨i, hi, h⟩ := Option.bind_eq_some_iff.1 h
  simp only [Option.some.injEq] at h
  exact ⟨i, hi, h⟩
theorem sizeT_run {t : TypeId} {n : Nat} (h : sizeT P t = some n) (w : World) : (sizeOf t).run P w = .ok n w := by
  obtain ⟨i, hi, rfl⟩ := sizeT_info h
  simp [sizeOf, typeInfo, hi]
theorem bytesT_run {t : TypeId} {n : Nat} (h : bytesT P t = some n) : ∃ i, (∀ w, (typeInfo t).run P w = .ok i w) ∧ i.bytes = n := by
  obtain ⟨i, hi, h⟩ := Option.bind_eq_some_iff.1 h
  simp only [Option.some.injEq] at h
  exact ⟨i, fun w => by simp [typeInfo, hi], h⟩
theorem aggT_run {t : TypeId} {b : Bool} (h : aggT P t = some b) (w : World) : (isAgg t).run P w = .ok b w := by
  obtain ⟨d, hd, h⟩ := Option.bind_eq_some_iff.1 h
  simp only [isAgg, Sem.run_bind, run_underlying hd, Result.andThen_ok]
  cases d <;> simp at h <;> subst h <;> rfl

/-! ### Frames -/
structure EnvR (ρ : Place) (s : St) (a : Act) : Prop where
  size : s.sz = a.tmps.size
  val : ∀ t v, s.get t = some v → VR ρ v (a.tmps.getD t undef)
theorem EnvR.mono {ρ' : Place} (h : ρ.le ρ') {s : St} {a : Act} (e : EnvR ρ s a) : EnvR ρ' s a := ⟨e.size, fun t v g => (e.val t v g).mono h⟩
theorem EnvR.heap {s : St} {a : Act} (e : EnvR ρ s a) (H : Heap) : EnvR ρ { s with H := H } a := ⟨e.size, e.val⟩

theorem putK_get {t : Nat} {v : AV} : ∀ {ks : List Nat} {vs vs' : List AV}, putK t v ks vs = some vs' → ∀ u, lookK u ks vs' = if u = t then some v else lookK u ks vs
  | [], _, _, h, _ => by simp [putK] at h
  | k :: ks, vs, vs', h, u => by
    unfold putK at h
    cases vs with
    | nil => simp at h
    | cons x r =>
      simp only at h
      split at h
      · rename_i hk
        have hk' := Nat.eq_of_beq_eq_true hk
        simp only [Option.some.injEq] at h
        subst h
        unfold lookK
        by_cases hu : u = t
        · subst hu; simp [hk]
        · have : Nat.beq k u = false := beqN_ne (by rw [hk']; exact fun e => hu e.symm)
          simp [this, hu]
      · rename_i hk
        obtain ⟨r', hr, hv⟩ := Option.bind_eq_some_iff.1 h
        simp only [Option.some.injEq] at hv
        subst hv
        have ih := putK_get hr u
        unfold lookK
        by_cases hu : u = t
        · subst hu; simp only [hk]; rw [ih]; simp
        · cases hku : Nat.beq k u with
          | true => simp [hu]
          | false => simp only; rw [ih]
theorem putK_none {t : Nat} {v : AV} : ∀ {ks : List Nat} {vs : List AV}, putK t v ks vs = none → lookK t ks vs = none
  | [], _, _ => by simp [lookK]
  | k :: ks, vs, h => by
    unfold putK at h
    unfold lookK
    cases vs with
    | nil => rfl
    | cons x r =>
      simp only at h
      split at h
      · simp at h
      · rename_i hk
        simp only
        refine putK_none (v := v) ?_
        cases hp : putK t v ks r with
        | none => rfl
        | some r' => rw [hp] at h; simp at h
theorem St.set_get {s s' : St} {t : Nat} {v : AV} (h : s.set t v = some s') : t < s.sz ∧ s'.sz = s.sz ∧ s'.H = s.H ∧ s'.ks = s.ks ∧ ∀ u, s'.get u = if u = t then some v else s.get u := by
  unfold St.set at h
  split at h
  · rename_i hlt
    have hlt' : t < s.sz := Nat.le_of_ble_eq_true hlt
    split at h
    · rename_i vs hp
      simp only [Option.some.injEq] at h
      subst h
      refine ⟨hlt', rfl, rfl, rfl, fun u => ?_⟩
      simp only [St.get]
      rw [putK_get hp u]
      by_cases hu : u = t
      · simp [hu]
      · simp [hu]
    · rename_i hp
      simp only [Option.some.injEq] at h
      subst h
      refine ⟨hlt', rfl, rfl, rfl, fun u => ?_⟩
      simp only [St.get]
      by_cases hu : u = t
      · subst hu
        rw [putK_none hp]
        simp [look]
      · have : Nat.beq t u = false := beqN_ne fun e => hu e.symm
        simp [hu, look, this]
  · simp at h
theorem EnvR.set {s s' : St} {a : Act} {t : Nat} {v : AV} {x : Value} (e : EnvR ρ s a) (h : s.set t v = some s') (hv : VR ρ v x) : EnvR ρ s' { a with tmps := a.tmps.setIfInBounds t x } := by
  obtain ⟨h1, h2, _, _, h5⟩ := St.set_get h
  refine ⟨by simp [h2, e.size], fun u y hu => ?_⟩
  rw [h5] at hu
  simp only [Array.getD_eq_getD_getElem?, Array.getElem?_setIfInBounds]
  by_cases hut : u = t
  · subst hut
    simp only [if_true, Option.some.injEq] at hu
    subst hu
    have : u < a.tmps.size := by rw [← e.size]; exact h1
    simp [this, hv]
  · simp only [hut, if_false] at hu
    have := e.val u y hu
    rw [if_neg (fun e => hut e.symm)]
    simpa [Array.getD_eq_getD_getElem?] using this
theorem EnvR.put {s s' : St} {a : Act} {d : Option Tmp} {v : AV} {x : Value} (e : EnvR ρ s a) (h : s.put d v = some s') (hv : VR ρ v x) : EnvR ρ s' (a.put d x) := by
  cases d with
  | none => simp only [St.put, Option.some.injEq] at h; subst h; exact e
  | some t => exact e.set h hv
theorem St.put_heap {s s' : St} {d : Option Tmp} {v : AV} (h : s.put d v = some s') : s'.H = s.H := by
  cases d with
  | none => simp only [St.put, Option.some.injEq] at h; subst h; rfl
  | some t => exact (St.set_get h).2.2.1

theorem opnd_run {s : St} {a : Act} (e : EnvR ρ s a) {x : Operand} {v : AV} (h : opnd s x = some v) : VR ρ v (a.eval x) := by
  cases x with
  | tmp t => exact e.val t v h
  | const c => simp only [opnd, Option.some.injEq] at h; subst h; exact VR.const c
  | global g => simp [opnd] at h
  | func f => simp only [opnd, Option.some.injEq] at h; subst h; exact .func _ _ _ _ _ rfl rfl (fun i h => absurd h (Nat.not_lt_zero i)) (fun i h => absurd h (Nat.not_lt_zero i))
theorem opnds_run {s : St} {a : Act} (e : EnvR ρ s a) : ∀ {xs : List Operand} {vs : List AV}, opnds s xs = some vs → VRs ρ vs (xs.map a.eval)
  | [], vs, h => by simp only [opnds, Option.some.injEq] at h; subst h; exact .nil
  | x :: r, vs, h => by
    obtain ⟨v, hv, h⟩ := Option.bind_eq_some_iff.1 h
    obtain ⟨us, hu, h⟩ := Option.bind_eq_some_iff.1 h
    simp only [Option.some.injEq] at h
    subst h
    exact .cons (opnd_run e hv) (opnds_run e hu)
theorem opndP_run {s : St} {a : Act} (e : EnvR ρ s a) : ∀ {xs : List (Nat × Operand)} {vs : List (Nat × AV)}, opndP s xs = some vs →
    vs.map (·.1) = xs.map (·.1) ∧ VRs ρ (vs.map (·.2)) (xs.map fun p => a.eval p.2)
  | [], vs, h => by simp only [opndP, Option.some.injEq] at h; subst h; exact ⟨rfl, .nil⟩
  | x :: r, vs, h => by
    obtain ⟨v, hv, h⟩ := Option.bind_eq_some_iff.1 h
    obtain ⟨us, hu, h⟩ := Option.bind_eq_some_iff.1 h
    simp only [Option.some.injEq] at h
    subst h
    obtain ⟨h1, h2⟩ := opndP_run e hu
    exact ⟨by simp [h1], .cons (opnd_run e hv) h2⟩

/-! ### What an operation leaves -/
/-- a value (or nothing), and the heap behind it -/
def Good (ρ : Place) (H : Heap) (w : World) (r : Result Value) (v : AV) (H' : Heap) : Prop :=
  ∃ x ρ' w', r = .ok x w' ∧ VR ρ' v x ∧ Sim ρ' H' w' ∧ Step ρ H w ρ' H' w'
theorem Good.pure {H : Heap} {w : World} {v : AV} {x : Value} {r : Result Value} (s : Sim ρ H w) (hv : VR ρ v x) (hr : r = .ok x w) : Good ρ H w r v H :=
  ⟨x, ρ, w, hr, hv, s, .refl _ _ _⟩

/-- a new row of cells -/
theorem blk_new {w : World} {cs : List AV} {c : Array Value} {t : TypeId} {fr : Nat × Nat} {n : Nat} (hn : cs.length ≤ c.size) (hv : ∀ i (h : i < cs.length) (h' : i < c.size), VR (ρ.upd n ⟨w.heap.size, 0, c.size⟩) cs[i] c[i])
    (hf : ∀ i, i < c.size → (decide (fr.1 ≤ i) && decide (i < fr.2)) = false) :
    BlkR (ρ.upd n ⟨w.heap.size, 0, c.size⟩) (w.alloc (.cells c t fr)) ⟨w.heap.size, 0, c.size⟩ (.cells cs) := by
  have hh : (w.alloc (.cells c t fr)).heap[w.heap.size]? = some (.cells c t fr) := by
    show (w.heap.push _)[w.heap.size]? = _
    simp
  refine ⟨by simpa using hn, fun i hi => ⟨?_, ?_⟩, fun i hi => ⟨c[i]'(by omega), ?_, hv i hi (by omega)⟩⟩
  · have : i < c.size := hi
    simp only [World.cell?, hh]
    simp [this]
  · simp only [World.frozen?, hh]; exact hf i hi
  · have : i < c.size := by omega
    simp only [World.cell?, hh]
    simp [this]
theorem good_new {H : Heap} {w : World} (s : Sim ρ H w) {cs : List AV} {c : Array Value} {t : TypeId} (hv : VRs ρ cs c.toList) (v : AV) (x : Value)
    (hx : VR (ρ.upd H.n ⟨w.heap.size, 0, c.size⟩) v x) : Good ρ H w (.ok x (w.alloc (.cells c t))) v (H.new (.cells cs)) := by
  have hle : ρ.le (ρ.upd H.n ⟨w.heap.size, 0, c.size⟩) := Place.le_upd (s.dom _ (Nat.le_refl _))
  obtain ⟨h1, h2⟩ := s.new (.cells c t) c.size (.cells cs) (blk_new (by rw [← hv.1]; simp) (fun i h h' => (hv.2 i h (by simpa using h')).mono hle) (fun i _ => by simp))
  exact ⟨x, _, _, rfl, hx, h1, h2⟩
end
end Go.Proofs.Ytpkplilgjdbhhaa
