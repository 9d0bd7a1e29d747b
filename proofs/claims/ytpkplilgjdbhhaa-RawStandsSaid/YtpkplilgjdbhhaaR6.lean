/- A scope by its labels; what begins a script. No condition. -/
import Derived.Test.YtpkplilgjdbhhaaR5
namespace Go.Proofs.Ytpkplilgjdbhhaa
set_option linter.unusedSimpArgs false
set_option linter.unusedVariables false
open Go Go.RowKit
set_option maxRecDepth 100000

section
variable {C : Ctx} {n : Nat} {Q : Out → St → Prop}
/-- a jump within a scope goes on where B holds -/
def gotoB (body : Code) (B : Nat → St → Prop) (Q : Out → St → Prop) : Out → St → Prop
  | .goto l, s => (findLabel body l).isSome = true ∧ B l s
  | x, s => Q x s
theorem wps_scopeL {ι : Type} (inv : ι → St) (φ : ι → Prop) (m : ι → Nat) (M : Nat) (lab : ι → Nat) {body : Code} {s : St}
    (first : ∀ B : Nat → St → Prop, (∀ s' y, m y < M → φ y → (∃ σ Φ, Fit n σ Φ s' (inv y)) → B (lab y) s') → WpS C n body s (gotoB body B Q))
    (step : ∀ x rest, φ x → findLabel body (lab x) = some rest → ∀ B : Nat → St → Prop, (∀ s' y, m y < m x → φ y → (∃ σ Φ, Fit n σ Φ s' (inv y)) → B (lab y) s') → WpS C n rest (inv x) (gotoB body B Q)) :
    WpS C n (.scope body) s Q := by
  have key : ∀ (k : Nat) (R : Code → St → Prop), (∀ s' y rest, m y < k → φ y → findLabel body (lab y) = some rest → (∃ σ Φ, Fit n σ Φ s' (inv y)) → R rest s') →
      ∀ o s', gotoB body (fun l s' => ∃ y, lab y = l ∧ m y < k ∧ φ y ∧ ∃ σ Φ, Fit n σ Φ s' (inv y)) Q o s' → gotoQ body R Q o s' := by
    intro k R hR o s' h
    cases o with
    | goto l =>
      obtain ⟨h1, y, rfl, h2, h3, h4⟩ := h
      simp only [gotoQ]
      cases hf : findLabel body (lab y) with
      | none => rw [hf] at h1; cases h1
      | some rest => exact hR s' y rest h2 h3 hf h4
    | normal => exact h
    | exit k => exact h
    | ret => exact h
  repeat refine wps_seq ?_
  refine wps_scope (fun x : Option ι => match x with | none => body | some y => (findLabel body (lab y)).getD .skip) (fun x => match x with | none => s | some y => inv y)
    (fun x => match x with | none => True | some y => φ y ∧ ∃ rest, findLabel body (lab y) = some rest) (fun x => match x with | none => M | some y => m y) none trivial rfl ?_
  intro x hx B hB
  cases x with
  | none =>
    refine (first _ fun s' y h1 h2 h3 => ⟨y, rfl, h1, h2, h3⟩).mono (key M B fun s' y rest h1 h2 h3 h4 => ?_)
    have := hB s' (some y) h1 ⟨h2, rest, h3⟩ h4
    simpa only [h3, Option.getD_some] using this
  | some x =>
    obtain ⟨h1, rest, h2⟩ := hx
    show WpS C n ((findLabel body (lab x)).getD .skip) (inv x) _
    rw [h2]
    refine (step x rest h1 h2 _ fun s' y h1 h2 h3 => ⟨y, rfl, h1, h2, h3⟩).mono (key (m x) B fun s' y rest h1 h2 h3 h4 => ?_)
    have := hB s' (some y) h1 ⟨h2, rest, h3⟩ h4
    simpa only [h3, Option.getD_some] using this
@[simp] theorem gotoB_normal {body : Code} {B : Nat → St → Prop} {s : St} : gotoB body B Q .normal s = Q .normal s := rfl
@[simp] theorem gotoB_ret {body : Code} {B : Nat → St → Prop} {s : St} : gotoB body B Q .ret s = Q .ret s := rfl
@[simp] theorem gotoB_exit {body : Code} {B : Nat → St → Prop} {s : St} {k : Nat} : gotoB body B Q (.exit k) s = Q (.exit k) s := rfl
end

/-- a script begins within a script -/
def opensB (s : Str) : Bool := if s.length ≤ 7 then false else if foldB (s.take 7) [60, 115, 99, 114, 105, 112, 116] = false then false else tl (s.getD 7 0)
theorem c47 {T : List (Entry Try.prog)} (h70 : findE 70 T = some e70.g) (h71 : findE 71 T = some e71.g) (s : Str) : CallAt (ctx T) 47 [.str s] ⟨0, []⟩ (.bool (opensB s)) ⟨0, []⟩ := by
  refine callAt_body (fn := Try.f47) (s0 := ⟨[0, 2, 3], [.str s, .undef, .undef], [], 25, ⟨0, [[]]⟩⟩) Try.func47 rfl rfl rfl ?_
  repeat refine wps_seq ?_
  refine wps_region callOK ?_
  simp [ofV, ofV1, mkC_P, writeVar, writeCells, readCells, allSingle, AV.single, getFs, getF, setFs, setF, Heap.get, Heap.set, Heap.new, Heap.kill, killF, pushF, Heap.ready, refs, sliceParts, fillA, replL]
  by_cases e2 : s.length ≤ 7
  · have e2' : (s.length : Int) ≤ 7 := by omega
    repeat refine wps_seq ?_
    refine wps_region callOK ?_
    simp [ofV, ofV1, mkC_P, writeVar, writeCells, readCells, allSingle, AV.single, getFs, getF, setFs, setF, Heap.get, Heap.set, Heap.new, Heap.kill, killF, pushF, Heap.ready, refs, sliceParts, fillA, replL, e2']
    repeat refine wps_seq ?_
    refine wps_cond (t := true) rfl (fun _ => ?_) fun h => by cases h
    repeat refine wps_seq ?_
    refine wps_region callOK ?_
    simp [ofV, ofV1, mkC_P, writeVar, writeCells, readCells, allSingle, AV.single, getFs, getF, setFs, setF, Heap.get, Heap.set, Heap.new, Heap.kill, killF, pushF, Heap.ready, refs, sliceParts, fillA, replL]
    repeat refine wps_seq ?_
    refine wps_ret ?_
    simp [retVal, Try.f47, oneOr]
    exact ends_pure rfl (by simp [opensB, e2])
  have e2' : ¬ (s.length : Int) ≤ 7 := by omega
  have hs : sliceA Try.prog ⟨0, [[]]⟩ 9 (.str s) none (some (.int .i64 7)) none = some (.str (s.take 7)) := slStrTo (j := 7) (by omega)
  have hl : (s.take 7).length ≤ 1000000 := by simp; omega
  by_cases e4 : foldB (s.take 7) [60, 115, 99, 114, 105, 112, 116] = false
  · repeat refine wps_seq ?_
    refine wps_region callOK ?_
    simp [ofV, ofV1, mkC_P, writeVar, writeCells, readCells, allSingle, AV.single, getFs, getF, setFs, setF, Heap.get, Heap.set, Heap.new, Heap.kill, killF, pushF, Heap.ready, refs, sliceParts, fillA, replL, e2', hs, k70 h70 hl, e4]
    repeat refine wps_seq ?_
    refine wps_cond (t := true) rfl (fun _ => ?_) fun h => by cases h
    repeat refine wps_seq ?_
    refine wps_region callOK ?_
    simp [ofV, ofV1, mkC_P, writeVar, writeCells, readCells, allSingle, AV.single, getFs, getF, setFs, setF, Heap.get, Heap.set, Heap.new, Heap.kill, killF, pushF, Heap.ready, refs, sliceParts, fillA, replL]
    repeat refine wps_seq ?_
    refine wps_ret ?_
    simp [retVal, Try.f47, oneOr]
    exact ends_pure rfl (by simp [opensB, e2, e4])
  simp only [Bool.not_eq_false] at e4
  repeat refine wps_seq ?_
  refine wps_region callOK ?_
  simp [ofV, ofV1, mkC_P, writeVar, writeCells, readCells, allSingle, AV.single, getFs, getF, setFs, setF, Heap.get, Heap.set, Heap.new, Heap.kill, killF, pushF, Heap.ready, refs, sliceParts, fillA, replL, e2', hs, k70 h70 hl, e4]
  repeat refine wps_seq ?_
  refine wps_cond (t := false) rfl (fun h => by cases h) fun _ => ?_
  repeat refine wps_seq ?_
  refine wps_skip ?_
  simp
  have hlt : 7 < s.length := by omega
  have i7 : indexA Try.prog 9 (.str s) (.int .i64 7) = some (.int .u8 s[7].toNat) := ixStr (i := 7) hlt
  have hv : opensB s = tl s[7] := by
    simp [opensB, e2, e4, List.getD_eq_getElem?_getD, hlt]
  repeat refine wps_seq ?_
  refine wps_region callOK ?_
  simp [ofV, ofV1, mkC_P, writeVar, writeCells, readCells, allSingle, AV.single, getFs, getF, setFs, setF, Heap.get, Heap.set, Heap.new, Heap.kill, killF, pushF, Heap.ready, refs, sliceParts, fillA, replL, i7]
  by_cases f1 : sp s[7] = true
  · repeat refine wps_seq ?_
    refine wps_region callOK ?_
    simp [ofV, ofV1, mkC_P, writeVar, writeCells, readCells, allSingle, AV.single, getFs, getF, setFs, setF, Heap.get, Heap.set, Heap.new, Heap.kill, killF, pushF, Heap.ready, refs, sliceParts, fillA, replL, k71 h71, f1]
    repeat refine wps_seq ?_
    refine wps_ret ?_
    simp [retVal, Try.f47, oneOr]
    exact ends_pure rfl (by simp [hv, tl, f1])
  · simp only [Bool.not_eq_true] at f1
    by_cases f2 : (s[7].toNat : Int) = 47
    · have f3 := decide_eq_true f2
      repeat refine wps_seq ?_
      refine wps_region callOK ?_
      simp [ofV, ofV1, mkC_P, writeVar, writeCells, readCells, allSingle, AV.single, getFs, getF, setFs, setF, Heap.get, Heap.set, Heap.new, Heap.kill, killF, pushF, Heap.ready, refs, sliceParts, fillA, replL, k71 h71, f1, f3]
      repeat refine wps_seq ?_
      refine wps_ret ?_
      simp [retVal, Try.f47, oneOr]
      exact ends_pure rfl (by simp [hv, tl, f1, f2])
    · repeat refine wps_seq ?_
      refine wps_region callOK ?_
      simp [ofV, ofV1, mkC_P, writeVar, writeCells, readCells, allSingle, AV.single, getFs, getF, setFs, setF, Heap.get, Heap.set, Heap.new, Heap.kill, killF, pushF, Heap.ready, refs, sliceParts, fillA, replL, k71 h71, f1, f2]
      repeat refine wps_seq ?_
      refine wps_ret ?_
      simp [retVal, Try.f47, oneOr]
      exact ends_pure rfl (by simp [hv, tl, f1, f2])
theorem lw_60 : ∀ n : Fin 256, lw (UInt8.ofNat n.val) = 60 ↔ (n.val : Int) = 60 := by decide +kernel
theorem fold_cons {s : Str} (h : 0 < s.length) {t : Str} (ht : lower t = t) : foldB s (60 :: t) = (decide ((s[0].toNat : Int) = 60) && foldB (s.drop 1) t) := by
  match s, h with
  | c :: r, _ =>
    have := lw_60 ⟨c.toNat, c.toNat_lt⟩
    simp only [UInt8.ofNat_toNat] at this
    have g : decide ((c.toNat : Int) = 60) = decide (lw c = 60) := decide_eq_decide.2 this.symm
    have e60 : lw 60 = 60 := by decide
    simp only [List.getElem_cons_zero, List.drop_succ_cons, List.drop_zero, g, foldB, lower, List.map_cons, List.cons.injEq, e60]
    by_cases q : lw c = 60 <;> simp [q]
theorem c49 {T : List (Entry Try.prog)} (h28 : findE 28 T = some e28.g) (h29 : findE 29 T = some e29.g) (s : Str) : CallAt (ctx T) 49 [.str s] ⟨0, []⟩ (.bool (opensB s)) ⟨0, []⟩ := by
  refine callAt_body (fn := Try.f49) (s0 := ⟨[0, 2], [.str s, .undef], [], 31, ⟨0, [[]]⟩⟩) Try.func49 rfl rfl rfl ?_
  repeat refine wps_seq ?_
  refine wps_region callOK ?_
  simp [ofV, ofV1, mkC_P, writeVar, writeCells, readCells, allSingle, AV.single, getFs, getF, setFs, setF, Heap.get, Heap.set, Heap.new, Heap.kill, killF, pushF, Heap.ready, refs, sliceParts, fillA, replL]
  by_cases e2 : s.length ≤ 7
  · have e2' : ¬ (7 : Int) < s.length := by omega
    repeat refine wps_seq ?_
    refine wps_region callOK ?_
    simp [ofV, ofV1, mkC_P, writeVar, writeCells, readCells, allSingle, AV.single, getFs, getF, setFs, setF, Heap.get, Heap.set, Heap.new, Heap.kill, killF, pushF, Heap.ready, refs, sliceParts, fillA, replL, e2']
    repeat refine wps_seq ?_
    refine wps_ret ?_
    simp [retVal, Try.f49, oneOr]
    exact ends_pure rfl (by simp [opensB, e2])
  have e2' : (7 : Int) < s.length := by omega
  have hlt : 7 < s.length := by omega
  have i0 : indexA Try.prog 9 (.str s) (.int .i64 0) = some (.int .u8 (s[0]'(by omega)).toNat) := ixStr (i := 0) (by omega)
  have i7 : indexA Try.prog 9 (.str s) (.int .i64 7) = some (.int .u8 s[7].toNat) := ixStr (i := 7) hlt
  have hs : sliceA Try.prog ⟨0, [[]]⟩ 9 (.str s) (some (.int .i64 1)) (some (.int .i64 7)) none = some (.str ((s.take 7).drop 1)) := slStrOf (i := 1) (j := 7) (by omega) (by omega)
  have hl : ((s.take 7).drop 1).length ≤ 1000000 := by simp; omega
  have hf : foldB (s.take 7) [60, 115, 99, 114, 105, 112, 116] = (decide (((s[0]'(by omega)).toNat : Int) = 60) && foldB ((s.take 7).drop 1) [115, 99, 114, 105, 112, 116]) := by
    have := fold_cons (s := s.take 7) (by simp; omega) (t := [115, 99, 114, 105, 112, 116]) (by decide)
    simpa only [List.getElem_take] using this
  obtain ⟨u, hu⟩ : ∃ u, u = (s.take 7).drop 1 := ⟨_, rfl⟩
  rw [← hu] at hs hl hf
  by_cases q0 : ((s[0]'(by omega)).toNat : Int) = 60
  rotate_left
  · repeat refine wps_seq ?_
    refine wps_region callOK ?_
    simp [ofV, ofV1, mkC_P, writeVar, writeCells, readCells, allSingle, AV.single, getFs, getF, setFs, setF, Heap.get, Heap.set, Heap.new, Heap.kill, killF, pushF, Heap.ready, refs, sliceParts, fillA, replL, e2', i0, q0]
    repeat refine wps_seq ?_
    refine wps_ret ?_
    simp [retVal, Try.f49, oneOr]
    exact ends_pure rfl (by simp [opensB, e2, hf, q0])
  by_cases e4 : foldB u [115, 99, 114, 105, 112, 116] = false
  · repeat refine wps_seq ?_
    refine wps_region callOK ?_
    simp [ofV, ofV1, mkC_P, writeVar, writeCells, readCells, allSingle, AV.single, getFs, getF, setFs, setF, Heap.get, Heap.set, Heap.new, Heap.kill, killF, pushF, Heap.ready, refs, sliceParts, fillA, replL, e2', i0, q0, hs, k28 h28 hl, e4]
    repeat refine wps_seq ?_
    refine wps_ret ?_
    simp [retVal, Try.f49, oneOr]
    exact ends_pure rfl (by simp [opensB, e2, hf, q0, e4])
  simp only [Bool.not_eq_false] at e4
  have hv : opensB s = tl s[7] := by
    simp [opensB, e2, hf, q0, e4, List.getD_eq_getElem?_getD, hlt]
  by_cases f1 : (s[7].toNat : Int) = 47
  · repeat refine wps_seq ?_
    refine wps_region callOK ?_
    simp [ofV, ofV1, mkC_P, writeVar, writeCells, readCells, allSingle, AV.single, getFs, getF, setFs, setF, Heap.get, Heap.set, Heap.new, Heap.kill, killF, pushF, Heap.ready, refs, sliceParts, fillA, replL, e2', i0, q0, hs, k28 h28 hl, e4, i7, f1]
    repeat refine wps_seq ?_
    refine wps_ret ?_
    simp [retVal, Try.f49, oneOr]
    exact ends_pure rfl (by simp [hv, tl, f1])
  · by_cases f2 : (s[7].toNat : Int) = 62
    · repeat refine wps_seq ?_
      refine wps_region callOK ?_
      simp [ofV, ofV1, mkC_P, writeVar, writeCells, readCells, allSingle, AV.single, getFs, getF, setFs, setF, Heap.get, Heap.set, Heap.new, Heap.kill, killF, pushF, Heap.ready, refs, sliceParts, fillA, replL, e2', i0, q0, hs, k28 h28 hl, e4, i7, f1, f2]
      repeat refine wps_seq ?_
      refine wps_ret ?_
      simp [retVal, Try.f49, oneOr]
      exact ends_pure rfl (by simp [hv, tl, f2])
    · repeat refine wps_seq ?_
      refine wps_region callOK ?_
      simp [ofV, ofV1, mkC_P, writeVar, writeCells, readCells, allSingle, AV.single, getFs, getF, setFs, setF, Heap.get, Heap.set, Heap.new, Heap.kill, killF, pushF, Heap.ready, refs, sliceParts, fillA, replL, e2', i0, q0, hs, k28 h28 hl, e4, i7, f1, f2, k29 h29]
      repeat refine wps_seq ?_
      refine wps_ret ?_
      simp [retVal, Try.f49, oneOr]
      exact ends_pure rfl (by simp [hv, tl, f1, f2])
theorem inj_str1 (x y : Str) (h : [AV.str x] = [AV.str y]) : x = y := by simpa using h
noncomputable def e47 : Entry Try.prog := mkE 47 [[]] (fun x : Str => [.str x]) (fun x => True) (fun x => .bool (opensB x)) fun x _ => c47 (T := [e70, e71]) rfl rfl x
theorem k47 {T : List (Entry Try.prog)} (hT : findE 47 T = some e47.g) (s : Str) (H : Heap) : callL (ctx T) 47 [.str s] H = some (.bool (opensB s), H) :=
  mkE_scalar hT inj_str1 s trivial rfl (by simp)
noncomputable def e49 : Entry Try.prog := mkE 49 [[]] (fun x : Str => [.str x]) (fun x => True) (fun x => .bool (opensB x)) fun x _ => c49 (T := [e28, e29]) rfl rfl x
theorem k49 {T : List (Entry Try.prog)} (hT : findE 49 T = some e49.g) (s : Str) (H : Heap) : callL (ctx T) 49 [.str s] H = some (.bool (opensB s), H) :=
  mkE_scalar hT inj_str1 s trivial rfl (by simp)
noncomputable def e25 : Entry Try.prog := mkE 25 [[], []] (fun x : Str × Str => [.str x.1, .str x.2]) (fun x => x.1.length ≤ 1000000 ∧ x.2.length ≤ 1000000) (fun x => .int .i64 (clo x.2 x.1 0)) fun x h => c25 (T := [e41, e45]) rfl rfl x.1 x.2 h.1 h.2
theorem k25 {T : List (Entry Try.prog)} (hT : findE 25 T = some e25.g) {s t : Str} (h1 : s.length ≤ 1000000) (h2 : t.length ≤ 1000000) (H : Heap) : callL (ctx T) 25 [.str s, .str t] H = some (.int .i64 (clo t s 0), H) :=
  mkE_scalar hT inj_str2 (s, t) ⟨h1, h2⟩ rfl (by simp)
end Go.Proofs.Ytpkplilgjdbhhaa
