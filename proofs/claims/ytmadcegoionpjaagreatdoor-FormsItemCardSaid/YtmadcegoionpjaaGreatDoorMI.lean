/- Closed runs that answer a value written out. No condition. -/
import Derived.Test.YtmadcegoionpjaaGreatDoorMH
import Derived.Test.YtmadcegoionpjaaGreatDoorME
namespace Go.Proofs.YtmadcegoionpjaaGreatDoor
set_option linter.unusedSimpArgs false
set_option linter.unusedVariables false
open Go Go.RowKit
set_option maxRecDepth 100000

theorem c30 {T : List (Entry Tryz.prog)} (L : List Int) (x : Int) (hl : L.length ≤ 1000000) : CallAt (ctx T) 30 [aInts L, .int .i64 x] ⟨0, []⟩ (.int .i64 (idxFrom (fun y => decide (x = y)) L 0)) ⟨0, []⟩ := by
  refine callAt_body (fn := Tryz.f30) (s0 := ⟨[0, 1, 4, 5, 7, 8], [aInts L, .int .i64 x, .undef, .undef, .undef, .undef], [], 19, ⟨0, [[]]⟩⟩) Tryz.func30 rfl rfl rfl ?_
  repeat refine wps_seq ?_
  refine wps_region callOK ?_
  simp [ofV, ofV1, mkC_P, writeVar, writeCells, readCells, allSingle, AV.single, getFs, getF, setFs, setF, Heap.get, Heap.set, Heap.new, Heap.kill, killF, pushF, Heap.ready, refs, sliceParts, fillA, replL]
  repeat refine wps_seq ?_
  refine wps_region callOK ?_
  simp [ofV, ofV1, mkC_P, writeVar, writeCells, readCells, allSingle, AV.single, getFs, getF, setFs, setF, Heap.get, Heap.set, Heap.new, Heap.kill, killF, pushF, Heap.ready, refs, sliceParts, fillA, replL, lenI]
  repeat refine wps_seq ?_
  refine wps_block (wps_loop' (fun i : Nat => (⟨[0, 1, 4, 5, 7, 8], [aInts L, .int .i64 x, .undef, .undef, .int .i64 (L.length : Nat), .int .i64 i], [], 19, ⟨0, [[]]⟩⟩ : St))
    (fun i => i ≤ L.length ∧ idxFrom (fun y => decide (x = y)) L 0 = idxFrom (fun y => decide (x = y)) (L.drop i) i) (fun i => L.length - i) [] [] 0 ⟨Nat.zero_le _, rfl⟩ ⟨rfl, rfl, rfl, by simp [fitL, fitV, pureV, pureL, aInts], FitH.nothing⟩ ?_)
  rintro i ⟨hi, hx⟩ B hB
  repeat refine wps_seq ?_
  refine wps_region callOK ?_
  simp [ofV, ofV1, mkC_P, writeVar, writeCells, readCells, allSingle, AV.single, getFs, getF, setFs, setF, Heap.get, Heap.set, Heap.new, Heap.kill, killF, pushF, Heap.ready, refs, sliceParts, fillA, replL]
  repeat refine wps_seq ?_
  refine wps_cond rfl (fun h => ?_) fun h => ?_
  · simp at h
    rw [idxFrom_at h] at hx
    repeat refine wps_seq ?_
    refine wps_skip ?_
    simp
    repeat refine wps_seq ?_
    refine wps_block ?_
    repeat refine wps_seq ?_
    refine wps_region callOK ?_
    simp [ofV, ofV1, mkC_P, writeVar, writeCells, readCells, allSingle, AV.single, getFs, getF, setFs, setF, Heap.get, Heap.set, Heap.new, Heap.kill, killF, pushF, Heap.ready, refs, sliceParts, fillA, replL]
    by_cases h2 : L[i] = x
    · repeat refine wps_seq ?_
      refine wps_region callOK ?_
      simp [ofV, ofV1, mkC_P, writeVar, writeCells, readCells, allSingle, AV.single, getFs, getF, setFs, setF, Heap.get, Heap.set, Heap.new, Heap.kill, killF, pushF, Heap.ready, refs, sliceParts, fillA, replL, atI h, h2]
      repeat refine wps_seq ?_
      refine wps_cond (t := true) rfl (fun _ => ?_) fun h => by cases h
      repeat refine wps_seq ?_
      refine wps_region callOK ?_
      simp [ofV, ofV1, mkC_P, writeVar, writeCells, readCells, allSingle, AV.single, getFs, getF, setFs, setF, Heap.get, Heap.set, Heap.new, Heap.kill, killF, pushF, Heap.ready, refs, sliceParts, fillA, replL]
      repeat refine wps_seq ?_
      refine wps_ret ?_
      simp [retVal, Tryz.f30, oneOr, thenQ, blockQ]
      exact ends_pure rfl (by rw [hx, if_pos (by simp [h2])])
    · have h2' : ¬ x = L[i] := fun e => h2 e.symm
      repeat refine wps_seq ?_
      refine wps_region callOK ?_
      simp [ofV, ofV1, mkC_P, writeVar, writeCells, readCells, allSingle, AV.single, getFs, getF, setFs, setF, Heap.get, Heap.set, Heap.new, Heap.kill, killF, pushF, Heap.ready, refs, sliceParts, fillA, replL, atI h, h2']
      repeat refine wps_seq ?_
      refine wps_cond (t := false) rfl (fun h => by cases h) fun _ => ?_
      repeat refine wps_seq ?_
      refine wps_skip ?_
      simp
      repeat refine wps_seq ?_
      refine wps_region callOK ?_
      simp [ofV, ofV1, mkC_P, writeVar, writeCells, readCells, allSingle, AV.single, getFs, getF, setFs, setF, Heap.get, Heap.set, Heap.new, Heap.kill, killF, pushF, Heap.ready, refs, sliceParts, fillA, replL, add_one (show i ≤ 1000000000 by omega)]
      exact hB _ (i + 1) (by omega) ⟨by omega, by rw [hx, if_neg (by simp [h2'])]⟩ ⟨[], [], ⟨rfl, rfl, rfl, by simp [fitL, fitV, pureV, pureL, aInts], FitH.nothing⟩⟩
  · simp at h
    repeat refine wps_seq ?_
    refine wps_exit ?_
    simp
    repeat refine wps_seq ?_
    refine wps_region callOK ?_
    simp [ofV, ofV1, mkC_P, writeVar, writeCells, readCells, allSingle, AV.single, getFs, getF, setFs, setF, Heap.get, Heap.set, Heap.new, Heap.kill, killF, pushF, Heap.ready, refs, sliceParts, fillA, replL]
    repeat refine wps_seq ?_
    refine wps_ret ?_
    simp [retVal, Tryz.f30, oneOr, thenQ, blockQ]
    exact ends_pure rfl (by rw [hx, List.drop_eq_nil_of_le h]; rfl)
noncomputable def e30 : Entry Tryz.prog := mkE 30 [[1], []] (fun x : List Int × Int => [aInts x.1, .int .i64 x.2]) (fun x => x.1.length ≤ 1000000) (fun x => .int .i64 (idxFrom (fun y => decide (x.2 = y)) x.1 0)) fun x hx => c30 (T := []) x.1 x.2 hx
theorem k30 {T : List (Entry Tryz.prog)} (hT : findE 30 T = some e30.g) {L : List Int} (x : Int) (hl : L.length ≤ 1000000) (H : Heap) : callL (ctx T) (.fn 30) [aInts L, .int .i64 x] H = some (.int .i64 (idxFrom (fun y => decide (x = y)) L 0), H) :=
  mkE_scalar hT injLI (L, x) hl rfl (by simp [aInts])
theorem idxI_mem {x : Int} : ∀ (L : List Int) (k : Nat), (0 ≤ idxFrom (fun y => decide (x = y)) L k) ↔ x ∈ L
  | [], k => by simp [idxFrom]
  | y :: r, k => by
    unfold idxFrom
    by_cases h : x = y
    · simp [h]
    · simp only [h, decide_false, Bool.false_eq_true, if_false, List.mem_cons, false_or]
      exact idxI_mem r (k + 1)
theorem c11 {T : List (Entry Tryz.prog)} (hI : findE 30 T = some e30.g) (L : List Int) (x : Int) (hl : L.length ≤ 1000000) : CallAt (ctx T) 11 [aInts L, .int .i64 x] ⟨0, []⟩ (.bool (decide (x ∈ L))) ⟨0, []⟩ := by
  have hk := fun H => k30 hI x hl H
  have hm := idxI_mem (x := x) L 0
  generalize idxFrom (fun y => decide (x = y)) L 0 = v at *
  simp only [aInts] at hk
  refine callAt_body (fn := Tryz.f11) (s0 := ⟨[0, 1, 4], [aInts L, .int .i64 x, .undef], [], 9, ⟨0, [[]]⟩⟩) Tryz.func11 rfl rfl rfl ?_
  (repeat (first
    | (refine wps_seq ?_)
    | (refine wps_block ?_)
    | (refine wps_label ?_; simp only [thenQ, blockQ])
    | ((refine wps_region callOK ?_); simp [ofV, ofV1, mkC_P, writeVar, writeCells, readCells, allSingle, AV.single, getFs, getF, setFs, setF, Heap.get, Heap.set, Heap.new, Heap.kill, killF, pushF, Heap.ready, refs, sliceParts, fillA, replL, aInts, hk])
    | (refine wps_cond (t := true) rfl (fun _ => ?_) (fun h => by cases h))
    | (refine wps_cond (t := false) rfl (fun h => by cases h) (fun _ => ?_))
    | ((refine wps_skip ?_); simp only [thenQ, blockQ])
    | ((refine wps_exit ?_); simp [thenQ, blockQ])))
  repeat refine wps_seq ?_
  refine wps_ret ?_
  simp [retVal, Tryz.f11, oneOr, thenQ, blockQ]
  exact ends_pure rfl (by simp [hm])
noncomputable def e11 : Entry Tryz.prog := mkE 11 [[1], []] (fun x : List Int × Int => [aInts x.1, .int .i64 x.2]) (fun x => x.1.length ≤ 1000000) (fun x => .bool (decide (x.2 ∈ x.1))) fun x hx => c11 (T := [e30]) rfl x.1 x.2 hx
theorem k11 {T : List (Entry Tryz.prog)} (hT : findE 11 T = some e11.g) {L : List Int} (x : Int) (hl : L.length ≤ 1000000) (H : Heap) : callL (ctx T) (.fn 11) [aInts L, .int .i64 x] H = some (.bool (decide (x ∈ L)), H) :=
  mkE_scalar hT injLI (L, x) hl rfl (by simp [aInts])
theorem c8 {T : List (Entry Tryz.prog)} (L : List Int) : CallAt (ctx T) 8 [aInts L] ⟨0, []⟩ (.bool (decide ((L.length : Int) ≤ 40))) ⟨0, []⟩ := by
  refine callAt_body (fn := Tryz.f8) (s0 := ⟨[0, 2], [aInts L, .undef], [], 6, ⟨0, [[]]⟩⟩) Tryz.func8 rfl rfl rfl ?_
  repeat refine wps_seq ?_
  refine wps_region callOK ?_
  simp [ofV, ofV1, mkC_P, writeVar, writeCells, readCells, allSingle, AV.single, getFs, getF, setFs, setF, Heap.get, Heap.set, Heap.new, Heap.kill, killF, pushF, Heap.ready, refs, sliceParts, fillA, replL]
  repeat refine wps_seq ?_
  refine wps_region callOK ?_
  simp [ofV, ofV1, mkC_P, writeVar, writeCells, readCells, allSingle, AV.single, getFs, getF, setFs, setF, Heap.get, Heap.set, Heap.new, Heap.kill, killF, pushF, Heap.ready, refs, sliceParts, fillA, replL, lenI]
  repeat refine wps_seq ?_
  refine wps_ret ?_
  simp [retVal, Tryz.f8, oneOr, thenQ, blockQ]
  exact ends_pure rfl (by rfl)
noncomputable def e8 : Entry Tryz.prog := mkE 8 [[1]] (fun x : List Int => [aInts x]) (fun _ => True) (fun x => .bool (decide ((x.length : Int) ≤ 40))) fun x _ => c8 (T := []) x
theorem injL (x y : List Int) (h : [aInts x] = [aInts y]) : x = y := by simp only [List.cons.injEq] at h; exact inj_aInts h.1
theorem k8 {T : List (Entry Tryz.prog)} (hT : findE 8 T = some e8.g) (L : List Int) (H : Heap) : callL (ctx T) (.fn 8) [aInts L] H = some (.bool (decide ((L.length : Int) ≤ 40)), H) :=
  mkE_scalar hT injL L trivial rfl (by simp [aInts])
/-! ### A number's digits -/
def itoaS (n : Nat) : Str := if n < 10 then [UInt8.ofNat (48 + n)] else [UInt8.ofNat (48 + n / 10), UInt8.ofNat (48 + n % 10)]
def isStrS (s : Str) : Option (AV × Heap) → Bool
  | some (.str x, _) => decide (x = s)
  | _ => false
theorem closedStr {T : List (Entry Tryz.prog)} {f : FuncId} {args : List AV} {s : Str} (h : isStrS s (callN (ctx T) 100000 (.fn f) args ⟨0, []⟩) = true) : CallAt (ctx T) f args ⟨0, []⟩ (.str s) ⟨0, []⟩ := by
  revert h
  cases hr : callN (ctx T) 100000 (.fn f) args ⟨0, []⟩ with
  | none => intro h; cases h
  | some r =>
    obtain ⟨v, H'⟩ := r
    intro h
    cases v <;> simp only [isStrS] at h <;> first | (cases h; done) | skip
    simp only [decide_eq_true_eq] at h
    subst h
    exact ((call_ok mixed (mkC_ok _ _ _) 100000).fn f args ⟨0, []⟩ _ _ hr).freeze (Φ := []) (by simp [fitV, pureV]) FitH.empty
theorem itoa_all : ((List.range 40).all fun n : Nat => isStrS (itoaS n) (callN (ctx []) 100000 (.fn 28) [.int .i64 (n : Int)] ⟨0, []⟩)) = true := by decide +kernel
theorem CallAt.base {T : List (Entry Tryz.prog)} {f : FuncId} {args : List AV} {v : AV} (h : CallAt (ctx []) f args ⟨0, []⟩ v ⟨0, []⟩) : CallAt (ctx T) f args ⟨0, []⟩ v ⟨0, []⟩ := h
theorem c28 {T : List (Entry Tryz.prog)} {n : Nat} (hn : n < 40) : CallAt (ctx T) 28 [.int .i64 (n : Int)] ⟨0, []⟩ (.str (itoaS n)) ⟨0, []⟩ :=
  CallAt.base (closedStr (List.all_eq_true.1 itoa_all n (List.mem_range.2 hn)))
noncomputable def e28 : Entry Tryz.prog := mkE 28 [[]] (fun n : Nat => [.int .i64 (n : Int)]) (fun n => n < 40) (fun n => .str (itoaS n)) fun n hn => c28 (T := []) hn
theorem injNat (x y : Nat) (h : [AV.int .i64 (x : Int)] = [AV.int .i64 (y : Int)]) : x = y := by simp at h; omega
theorem k28 {T : List (Entry Tryz.prog)} (hT : findE 28 T = some e28.g) {n : Nat} (hn : n < 40) (H : Heap) : callL (ctx T) (.fn 28) [.int .i64 (n : Int)] H = some (.str (itoaS n), H) :=
  mkE_scalar hT injNat n hn rfl (by simp)
theorem k27 {T : List (Entry Tryz.prog)} (hT : findE 27 T = some e27.g) {s : Str} (hl : s.length ≤ 1000000) (H : Heap) : callL (ctx T) (.fn 27) [.str s] H = some (atoiA s, H) :=
  mkE_pure hT inj_str1 s hl (by simp [pureL, pureV]) (by simp [thawL, thawA, okV, pureV]) H
/-! ### forms.called -/
def calledB (t : Tr) (i : Int) (x : Str) : Bool := if i < 0 ∨ (t.length : Int) ≤ i ∨ x = [] then false else decide ((nodeAt t i).kind = 1) && (decide (valOf (nodeAt t i) wId = x) || decide (valOf (nodeAt t i) wName = x))
theorem c29 {T : List (Entry Tryz.prog)} (hG : findE 53 T = some e53.g) (t : Tr) (ht : okTr t) (i : Int) (x : Str) : CallAt (ctx T) 29 [aTree t, .int .i64 i, .str x] ⟨0, []⟩ (.bool (calledB t i x)) ⟨0, []⟩ := by
  refine callAt_body (fn := Tryz.f29) (s0 := ⟨[0, 1, 2, 3, 6, 7, 8, 10], [aTree t, .int .i64 i, .str x, .undef, .undef, .undef, .undef, .undef], [], 55, ⟨0, [[]]⟩⟩) Tryz.func29 rfl rfl rfl ?_
  repeat refine wps_seq ?_
  refine wps_region callOK ?_
  simp [ofV, ofV1, mkC_P, writeVar, writeCells, readCells, allSingle, AV.single, getFs, getF, setFs, setF, Heap.get, Heap.set, Heap.new, Heap.kill, killF, pushF, Heap.ready, refs, sliceParts, fillA, replL, aTree]
  by_cases c1 : i < 0
  · repeat refine wps_seq ?_
    refine wps_region callOK ?_
    simp [ofV, ofV1, mkC_P, writeVar, writeCells, readCells, allSingle, AV.single, getFs, getF, setFs, setF, Heap.get, Heap.set, Heap.new, Heap.kill, killF, pushF, Heap.ready, refs, sliceParts, fillA, replL, lenN, c1]
    repeat refine wps_seq ?_
    refine wps_cond (t := true) rfl (fun _ => ?_) fun h => by cases h
    repeat refine wps_seq ?_
    refine wps_region callOK ?_
    simp [ofV, ofV1, mkC_P, writeVar, writeCells, readCells, allSingle, AV.single, getFs, getF, setFs, setF, Heap.get, Heap.set, Heap.new, Heap.kill, killF, pushF, Heap.ready, refs, sliceParts, fillA, replL]
    repeat refine wps_seq ?_
    refine wps_ret ?_
    simp [retVal, Tryz.f29, oneOr, thenQ, blockQ]
    exact ends_pure rfl (by simp [calledB, c1])
  · by_cases c2 : (t.length : Int) ≤ i
    · repeat refine wps_seq ?_
      refine wps_region callOK ?_
      simp [ofV, ofV1, mkC_P, writeVar, writeCells, readCells, allSingle, AV.single, getFs, getF, setFs, setF, Heap.get, Heap.set, Heap.new, Heap.kill, killF, pushF, Heap.ready, refs, sliceParts, fillA, replL, lenN, c1, c2]
      repeat refine wps_seq ?_
      refine wps_cond (t := true) rfl (fun _ => ?_) fun h => by cases h
      repeat refine wps_seq ?_
      refine wps_region callOK ?_
      simp [ofV, ofV1, mkC_P, writeVar, writeCells, readCells, allSingle, AV.single, getFs, getF, setFs, setF, Heap.get, Heap.set, Heap.new, Heap.kill, killF, pushF, Heap.ready, refs, sliceParts, fillA, replL]
      repeat refine wps_seq ?_
      refine wps_ret ?_
      simp [retVal, Tryz.f29, oneOr, thenQ, blockQ]
      exact ends_pure rfl (by simp [calledB, c1, c2])
    · by_cases c3 : x = []
      · repeat refine wps_seq ?_
        refine wps_region callOK ?_
        simp [ofV, ofV1, mkC_P, writeVar, writeCells, readCells, allSingle, AV.single, getFs, getF, setFs, setF, Heap.get, Heap.set, Heap.new, Heap.kill, killF, pushF, Heap.ready, refs, sliceParts, fillA, replL, lenN, c1, c2, c3]
        repeat refine wps_seq ?_
        refine wps_cond (t := true) rfl (fun _ => ?_) fun h => by cases h
        repeat refine wps_seq ?_
        refine wps_region callOK ?_
        simp [ofV, ofV1, mkC_P, writeVar, writeCells, readCells, allSingle, AV.single, getFs, getF, setFs, setF, Heap.get, Heap.set, Heap.new, Heap.kill, killF, pushF, Heap.ready, refs, sliceParts, fillA, replL]
        repeat refine wps_seq ?_
        refine wps_ret ?_
        simp [retVal, Tryz.f29, oneOr, thenQ, blockQ]
        exact ends_pure rfl (by simp [calledB, c1, c2, c3])
      · have hl := (ht.2 _ (nodeAt_mem (t := t) (i := i) (by omega) (by omega))).2
        have ka := fun nm H => k53 hG nm hl (th_aAttrs H _)
        repeat refine wps_seq ?_
        refine wps_region callOK ?_
        simp [ofV, ofV1, mkC_P, writeVar, writeCells, readCells, allSingle, AV.single, getFs, getF, setFs, setF, Heap.get, Heap.set, Heap.new, Heap.kill, killF, pushF, Heap.ready, refs, sliceParts, fillA, replL, lenN, c1, c2, c3]
        repeat refine wps_seq ?_
        refine wps_cond (t := false) rfl (fun h => by cases h) fun _ => ?_
        repeat refine wps_seq ?_
        refine wps_skip ?_
        simp
        refine wps_seq ?_
        repeat refine wps_seq ?_
        refine wps_region callOK ?_
        simp [ofV, ofV1, mkC_P, writeVar, writeCells, readCells, allSingle, AV.single, getFs, getF, setFs, setF, Heap.get, Heap.set, Heap.new, Heap.kill, killF, pushF, sliceParts, fillA, replL, atX (t := t) (i := i) (by omega) (by omega)]
        repeat refine wps_seq ?_
        refine wps_region callOK ?_
        simp [ofV, ofV1, mkC_P, writeVar, writeCells, readCells, allSingle, AV.single, getFs, getF, setFs, setF, Heap.get, Heap.set, Heap.new, Heap.kill, killF, pushF, Heap.ready, refs, sliceParts, fillA, replL, ka, gotA]
        repeat refine wps_seq ?_
        refine wps_region callOK ?_
        simp [ofV, ofV1, mkC_P, writeVar, writeCells, readCells, allSingle, AV.single, getFs, getF, setFs, setF, Heap.get, Heap.set, Heap.new, Heap.kill, killF, pushF, Heap.ready, refs, sliceParts, fillA, replL, ka, gotA]
        by_cases d1 : (nodeAt t i).kind = 1
        · by_cases d2 : (getAt wId (nodeAt t i).attrs).getD [] = x
          · repeat refine wps_seq ?_
            refine wps_region callOK ?_
            simp [ofV, ofV1, mkC_P, writeVar, writeCells, readCells, allSingle, AV.single, getFs, getF, setFs, setF, Heap.get, Heap.set, Heap.new, Heap.kill, killF, pushF, Heap.ready, refs, sliceParts, fillA, replL, d1, d2]
            repeat refine wps_seq ?_
            refine wps_ret ?_
            simp [retVal, Tryz.f29, oneOr, thenQ, blockQ]
            exact ends_pure rfl (by simp [calledB, valOf, c1, c2, c3, d1, d2])
          · by_cases d3 : (getAt wName (nodeAt t i).attrs).getD [] = x
            · repeat refine wps_seq ?_
              refine wps_region callOK ?_
              simp [ofV, ofV1, mkC_P, writeVar, writeCells, readCells, allSingle, AV.single, getFs, getF, setFs, setF, Heap.get, Heap.set, Heap.new, Heap.kill, killF, pushF, Heap.ready, refs, sliceParts, fillA, replL, d1, d2, d3]
              repeat refine wps_seq ?_
              refine wps_ret ?_
              simp [retVal, Tryz.f29, oneOr, thenQ, blockQ]
              exact ends_pure rfl (by simp [calledB, valOf, c1, c2, c3, d1, d2, d3])
            · repeat refine wps_seq ?_
              refine wps_region callOK ?_
              simp [ofV, ofV1, mkC_P, writeVar, writeCells, readCells, allSingle, AV.single, getFs, getF, setFs, setF, Heap.get, Heap.set, Heap.new, Heap.kill, killF, pushF, Heap.ready, refs, sliceParts, fillA, replL, d1, d2, d3]
              repeat refine wps_seq ?_
              refine wps_ret ?_
              simp [retVal, Tryz.f29, oneOr, thenQ, blockQ]
              exact ends_pure rfl (by simp [calledB, valOf, c1, c2, c3, d1, d2, d3])
        · repeat refine wps_seq ?_
          refine wps_region callOK ?_
          simp [ofV, ofV1, mkC_P, writeVar, writeCells, readCells, allSingle, AV.single, getFs, getF, setFs, setF, Heap.get, Heap.set, Heap.new, Heap.kill, killF, pushF, Heap.ready, refs, sliceParts, fillA, replL, d1]
          repeat refine wps_seq ?_
          refine wps_ret ?_
          simp [retVal, Tryz.f29, oneOr, thenQ, blockQ]
          exact ends_pure rfl (by simp [calledB, c1, c2, c3, d1])
theorem injTIS2 (x y : Tr × Int × Str) (h : [aTree x.1, .int .i64 x.2.1, .str x.2.2] = [aTree y.1, .int .i64 y.2.1, .str y.2.2]) : x = y := injTIS x y h
noncomputable def e29 : Entry Tryz.prog := mkE 29 [[], [], []] (fun x : Tr × Int × Str => [aTree x.1, .int .i64 x.2.1, .str x.2.2]) (fun x => okTr x.1) (fun x => .bool (calledB x.1 x.2.1 x.2.2)) fun x hx => c29 (T := [e53]) rfl x.1 hx x.2.1 x.2.2
theorem k29 {T : List (Entry Tryz.prog)} (hT : findE 29 T = some e29.g) {t : Tr} (ht : okTr t) (i : Int) (x : Str) (H : Heap) : callL (ctx T) (.fn 29) [aTree t, .int .i64 i, .str x] H = some (.bool (calledB t i x), H) :=
  mkE_scalar hT injTIS2 (t, i, x) ht rfl (by simp [th_aTree])
/-! ### forms.Item -/
def numI (l : List Int) (x : Str) : Option Nat := match Lib.atoiAll x with
  | .ok v => if 0 ≤ v ∧ v < (l.length : Int) ∧ itoaS v.toNat = x then some v.toNat else none
  | _ => none
def findI (t : Tr) (x : Str) : List Int → List Int
  | [] => []
  | i :: r => if calledB t i x = true then [i] else findI t x r
def itemL (t : Tr) (l : List Int) (x : Str) : List Int := match numI l x with
  | some n => [l.getD n 0]
  | none => findI t x l
theorem findI_or (t : Tr) (x : Str) : ∀ l, findI t x l = [] ∨ ∃ y, y ∈ l ∧ findI t x l = [y]
  | [] => .inl rfl
  | i :: r => by
    unfold findI
    split
    · exact .inr ⟨i, by simp, rfl⟩
    · rcases findI_or t x r with h | ⟨y, h1, h2⟩
      · exact .inl h
      · exact .inr ⟨y, by simp [h1], h2⟩
theorem item_or (t : Tr) (l : List Int) (x : Str) : itemL t l x = [] ∨ ∃ y, y ∈ l ∧ itemL t l x = [y] := by
  unfold itemL
  cases hn : numI l x with
  | none => exact findI_or t x l
  | some n =>
    right
    unfold numI at hn
    split at hn
    · split at hn
      · rename_i v _ h
        simp only [Option.some.injEq] at hn
        have hl : n < l.length := by omega
        exact ⟨l[n], List.getElem_mem _, by simp [List.getD_eq_getElem?_getD, hl]⟩
      · cases hn
    · cases hn
end Go.Proofs.YtmadcegoionpjaaGreatDoor
namespace Go.Proofs.YtmadcegoionpjaaGreatDoor
set_option linter.unusedSimpArgs false
set_option linter.unusedVariables false
open Go Go.RowKit
set_option maxRecDepth 100000

@[simp] theorem if_err {e : Bool} : ifA Tryz.prog .eql 53 e = some (.bool e) := by kernel_rfl
theorem ends_one {H : Heap} {b : Nat} {x : Int} {cap : Cap} (h : H.get b = some (.cells [.int .i64 x])) : ∃ σ Φ, fitV σ Φ (.slc b 0 1 cap) (aInts [x]) ∧ FitH 0 σ Φ H ⟨0, []⟩ := by
  refine ⟨[], [(b, ints [x])], fit_ints (by simp [lookC]) rfl, .froze (by simp) fun y hy => ?_⟩
  rw [List.mem_singleton] at hy
  subst hy
  exact ⟨_, h, fitL_pure (by simp [pureL, pureV]), pure_ints [x]⟩
theorem ends_nilI {H : Heap} : ∃ σ Φ, fitV σ Φ .nilS (aInts []) ∧ FitH 0 σ Φ H ⟨0, []⟩ := ⟨[], [], by simp [aInts, fitV], FitH.empty⟩
theorem c10 {T : List (Entry Tryz.prog)} (hA : findE 27 T = some e27.g) (hI : findE 28 T = some e28.g) (hC : findE 29 T = some e29.g) (t : Tr) (ht : okTr t) (l : List Int) (hl : l.length ≤ 40) (x : Str) (hx : x.length ≤ 1000000) :
    CallAt (ctx T) 10 [aTree t, aInts l, .str x] ⟨0, []⟩ (aInts (itemL t l x)) ⟨0, []⟩ := by
  have ka := fun H => k27 hA hx H
  have kc := fun i H => k29 hC ht i x H
  simp only [aTree] at kc
  have rest : ∀ (s : St) (Q : Out → St → Prop), True := fun _ _ => trivial
  refine callAt_body (fn := Tryz.f10) (s0 := ⟨[0, 1, 2, 3, 6, 7, 8, 10, 39, 40, 41], [aTree t, aInts l, .str x, .undef, .undef, .undef, .undef, .undef, .undef, .undef, .undef], [], 52, ⟨0, [[]]⟩⟩) Tryz.func10 rfl rfl rfl ?_
  repeat refine wps_seq ?_
  refine wps_region callOK ?_
  simp [ofV, ofV1, mkC_P, writeVar, writeCells, readCells, allSingle, AV.single, getFs, getF, setFs, setF, Heap.get, Heap.set, Heap.new, Heap.kill, killF, pushF, Heap.ready, refs, sliceParts, fillA, replL, aTree]
  have key : ∀ (v : Int) (e : AV), atoiA x = .tup [.int .i64 v, e] → (e = .nilI ∨ e = .iface 105 .undef) → (numI l x = if e = .nilI ∧ 0 ≤ v ∧ v < (l.length : Int) ∧ itoaS v.toNat = x then some v.toNat else none) := by
    intro v e h1 h2
    unfold atoiA at h1
    unfold numI
    cases hq : Lib.atoiAll x <;> (rw [hq] at h1; simp only [AV.tup.injEq, List.cons.injEq, AV.int.injEq, true_and, and_true] at h1; obtain ⟨rfl, rfl⟩ := h1; simp)
  have g0 : ∀ (m : Nat) (f : List (Nat × Blk)), getF 0 f = some (.cells [aNodes t]) → FitH 0 [(0, 0)] [] ⟨m, [f]⟩ ⟨1, [[(0, .cells [aNodes t])]]⟩ := fun m f hf => .id1 (g := [(0, .cells [aNodes t])]) (by simp) (by simp) (by simp [Heap.get, getFs, hf, pureL])
  obtain ⟨v, e, hve, hor⟩ : ∃ v e, atoiA x = .tup [.int .i64 v, e] ∧ (e = .nilI ∨ e = .iface 105 .undef) := by
    rcases atoiA_or x with ⟨v, h⟩ | ⟨v, h⟩
    · exact ⟨v, _, h, .inl rfl⟩
    · exact ⟨v, _, h, .inr rfl⟩
  have hnum := key v e hve hor
  rw [hve] at ka
  -- whether it is a number of the list
  refine wps_join (numI l x = none) ((⟨[0, 1, 2, 3, 6, 7, 8, 10, 39, 40, 41], [.agg [aNodes t], aInts l, .str x, .ptr 0 0, .nilS, .int .i64 v, e, .undef, .undef, .undef, .undef], [], 52, ⟨1, [[(0, .cells [aNodes t])]]⟩⟩ : St)) (fun hno => ?_) fun hj => ?_
  rotate_left
  · have no : ∀ (P : Prop), ¬ (e = .nilI ∧ 0 ≤ v ∧ v < (l.length : Int) ∧ itoaS v.toNat = x) → numI l x = none := fun _ h => by rw [hnum, if_neg h]
    rcases hor with rfl | rfl
    · repeat refine wps_seq ?_
      refine wps_region callOK ?_
      simp [ofV, ofV1, mkC_P, writeVar, writeCells, readCells, allSingle, AV.single, getFs, getF, setFs, setF, Heap.get, Heap.set, Heap.new, Heap.kill, killF, pushF, Heap.ready, refs, sliceParts, fillA, replL, ka]
      by_cases c1 : 0 ≤ v
      · by_cases c2 : v < (l.length : Int)
        · obtain ⟨n, rfl⟩ : ∃ n : Nat, v = n := ⟨v.toNat, by omega⟩
          have hn : n < l.length := by omega
          have ki := fun H => k28 hI (n := n) (by omega) H
          by_cases c3 : itoaS n = x
          · have hsome : numI l x = some n := by rw [hnum, if_pos (by simp [c2, c3])]; simp
            repeat refine wps_seq ?_
            refine wps_region callOK ?_
            simp [ofV, ofV1, mkC_P, writeVar, writeCells, readCells, allSingle, AV.single, getFs, getF, setFs, setF, Heap.get, Heap.set, Heap.new, Heap.kill, killF, pushF, Heap.ready, refs, sliceParts, fillA, replL, lenI, c1, c2, hn, ki, c3]
            repeat refine wps_seq ?_
            refine wps_cond (t := true) rfl (fun _ => ?_) fun h => by cases h
            repeat refine wps_seq ?_
            refine wps_region callOK ?_
            simp [ofV, ofV1, mkC_P, writeVar, writeCells, readCells, allSingle, AV.single, getFs, getF, setFs, setF, Heap.get, Heap.set, Heap.new, Heap.kill, killF, pushF, Heap.ready, refs, sliceParts, fillA, replL, atI hn]
            repeat refine wps_seq ?_
            refine wps_ret ?_
            simp [retVal, Tryz.f10, oneOr, itemL, hsome, List.getD_eq_getElem?_getD, hn]
            exact ends_one (by simp [Heap.get, getFs, getF])
          · repeat refine wps_seq ?_
            refine wps_region callOK ?_
            simp [ofV, ofV1, mkC_P, writeVar, writeCells, readCells, allSingle, AV.single, getFs, getF, setFs, setF, Heap.get, Heap.set, Heap.new, Heap.kill, killF, pushF, Heap.ready, refs, sliceParts, fillA, replL, lenI, c1, c2, hn, ki, c3]
            repeat refine wps_seq ?_
            refine wps_cond (t := false) rfl (fun h => by cases h) fun _ => ?_
            repeat refine wps_seq ?_
            refine wps_skip ?_
            simp
            exact hj _ (no True (by simp [c3])) rfl
        · repeat refine wps_seq ?_
          refine wps_region callOK ?_
          simp [ofV, ofV1, mkC_P, writeVar, writeCells, readCells, allSingle, AV.single, getFs, getF, setFs, setF, Heap.get, Heap.set, Heap.new, Heap.kill, killF, pushF, Heap.ready, refs, sliceParts, fillA, replL, lenI, c1, c2]
          repeat refine wps_seq ?_
          refine wps_cond (t := false) rfl (fun h => by cases h) fun _ => ?_
          repeat refine wps_seq ?_
          refine wps_skip ?_
          simp
          exact hj _ (no True (by omega)) rfl
      · repeat refine wps_seq ?_
        refine wps_region callOK ?_
        simp [ofV, ofV1, mkC_P, writeVar, writeCells, readCells, allSingle, AV.single, getFs, getF, setFs, setF, Heap.get, Heap.set, Heap.new, Heap.kill, killF, pushF, Heap.ready, refs, sliceParts, fillA, replL, lenI, c1]
        repeat refine wps_seq ?_
        refine wps_cond (t := false) rfl (fun h => by cases h) fun _ => ?_
        repeat refine wps_seq ?_
        refine wps_skip ?_
        simp
        exact hj _ (no True (by omega)) rfl
    · repeat refine wps_seq ?_
      refine wps_region callOK ?_
      simp [ofV, ofV1, mkC_P, writeVar, writeCells, readCells, allSingle, AV.single, getFs, getF, setFs, setF, Heap.get, Heap.set, Heap.new, Heap.kill, killF, pushF, Heap.ready, refs, sliceParts, fillA, replL, ka]
      repeat refine wps_seq ?_
      refine wps_region callOK ?_
      simp [ofV, ofV1, mkC_P, writeVar, writeCells, readCells, allSingle, AV.single, getFs, getF, setFs, setF, Heap.get, Heap.set, Heap.new, Heap.kill, killF, pushF, Heap.ready, refs, sliceParts, fillA, replL]
      repeat refine wps_seq ?_
      refine wps_cond (t := false) rfl (fun h => by cases h) fun _ => ?_
      repeat refine wps_seq ?_
      refine wps_skip ?_
      simp
      exact hj _ (no True (by simp)) rfl
  have hit : itemL t l x = findI t x l := by simp only [itemL, hno]
  rw [hit]
  repeat refine wps_seq ?_
  refine wps_region callOK ?_
  simp [ofV, ofV1, mkC_P, writeVar, writeCells, readCells, allSingle, AV.single, getFs, getF, setFs, setF, Heap.get, Heap.set, Heap.new, Heap.kill, killF, pushF, Heap.ready, refs, sliceParts, fillA, replL, lenI]
  repeat refine wps_seq ?_
  refine wps_block (wps_loop' (fun i : Nat => (⟨[0, 1, 2, 3, 6, 7, 8, 10, 39, 40, 41], [.undef, .undef, .str x, .ptr 0 0, .undef, .undef, .undef, .undef, aInts l, .int .i64 (l.length : Nat), .int .i64 i], [], 52, ⟨1, [[(0, .cells [aNodes t])]]⟩⟩ : St))
    (fun i => i ≤ l.length ∧ findI t x l = findI t x (l.drop i)) (fun i => l.length - i) [(0, 0)] [] 0 ⟨Nat.zero_le _, by simp⟩ ⟨rfl, rfl, rfl, by simp [fitL, fitV, lookN, pureV, aInts], g0 _ _ rfl⟩ ?_)
  rintro i ⟨hi, hd⟩ B hB
  repeat refine wps_seq ?_
  refine wps_region callOK ?_
  simp [ofV, ofV1, mkC_P, writeVar, writeCells, readCells, allSingle, AV.single, getFs, getF, setFs, setF, Heap.get, Heap.set, Heap.new, Heap.kill, killF, pushF, Heap.ready, refs, sliceParts, fillA, replL]
  repeat refine wps_seq ?_
  refine wps_cond rfl (fun h => ?_) fun h => ?_
  · simp at h
    rw [List.drop_eq_getElem_cons h, findI] at hd
    repeat refine wps_seq ?_
    refine wps_skip ?_
    simp
    repeat refine wps_seq ?_
    refine wps_block ?_
    repeat refine wps_seq ?_
    refine wps_region callOK ?_
    simp [ofV, ofV1, mkC_P, writeVar, writeCells, readCells, allSingle, AV.single, getFs, getF, setFs, setF, Heap.get, Heap.set, Heap.new, Heap.kill, killF, pushF, Heap.ready, refs, sliceParts, fillA, replL, atI h]
    cases hc : calledB t l[i] x with
    | true =>
      rw [if_pos hc] at hd
      repeat refine wps_seq ?_
      refine wps_region callOK ?_
      simp [ofV, ofV1, mkC_P, writeVar, writeCells, readCells, allSingle, AV.single, getFs, getF, setFs, setF, Heap.get, Heap.set, Heap.new, Heap.kill, killF, pushF, Heap.ready, refs, sliceParts, fillA, replL, kc, hc]
      repeat refine wps_seq ?_
      refine wps_cond (t := true) rfl (fun _ => ?_) fun h => by cases h
      repeat refine wps_seq ?_
      refine wps_region callOK ?_
      simp [ofV, ofV1, mkC_P, writeVar, writeCells, readCells, allSingle, AV.single, getFs, getF, setFs, setF, Heap.get, Heap.set, Heap.new, Heap.kill, killF, pushF, Heap.ready, refs, sliceParts, fillA, replL]
      repeat refine wps_seq ?_
      refine wps_ret ?_
      simp [retVal, Tryz.f10, oneOr]
      rw [hd]
      exact ends_one (by simp [Heap.get, getFs, getF])
    | false =>
      rw [if_neg (by simp [hc])] at hd
      repeat refine wps_seq ?_
      refine wps_region callOK ?_
      simp [ofV, ofV1, mkC_P, writeVar, writeCells, readCells, allSingle, AV.single, getFs, getF, setFs, setF, Heap.get, Heap.set, Heap.new, Heap.kill, killF, pushF, Heap.ready, refs, sliceParts, fillA, replL, kc, hc]
      repeat refine wps_seq ?_
      refine wps_cond (t := false) rfl (fun h => by cases h) fun _ => ?_
      repeat refine wps_seq ?_
      refine wps_skip ?_
      simp
      repeat refine wps_seq ?_
      refine wps_region callOK ?_
      simp [ofV, ofV1, mkC_P, writeVar, writeCells, readCells, allSingle, AV.single, getFs, getF, setFs, setF, Heap.get, Heap.set, Heap.new, Heap.kill, killF, pushF, Heap.ready, refs, sliceParts, fillA, replL, add_one (show i ≤ 1000000000 by omega)]
      exact hB _ (i + 1) (by omega) ⟨by omega, hd⟩ ⟨[(0, 0)], [], rfl, rfl, rfl, by simp [fitL, fitV, lookN, pureV, aInts], g0 _ _ rfl⟩
  · simp at h
    rw [List.drop_eq_nil_of_le h] at hd
    repeat refine wps_seq ?_
    refine wps_exit ?_
    simp
    repeat refine wps_seq ?_
    refine wps_region callOK ?_
    simp [ofV, ofV1, mkC_P, writeVar, writeCells, readCells, allSingle, AV.single, getFs, getF, setFs, setF, Heap.get, Heap.set, Heap.new, Heap.kill, killF, pushF, Heap.ready, refs, sliceParts, fillA, replL]
    repeat refine wps_seq ?_
    refine wps_ret ?_
    simp [retVal, Tryz.f10, oneOr]
    rw [hd]
    exact ends_nilI
theorem injTLS (x y : Tr × List Int × Str) (h : [aTree x.1, aInts x.2.1, .str x.2.2] = [aTree y.1, aInts y.2.1, .str y.2.2]) : x = y := by
  simp only [List.cons.injEq] at h
  obtain ⟨h1, h2, h3, _⟩ := h
  simp at h3
  exact Prod.ext (inj_aTree h1) (Prod.ext (inj_aInts h2) h3)
noncomputable def e10 : Entry Tryz.prog := mkE 10 [[], [1], []] (fun x : Tr × List Int × Str => [aTree x.1, aInts x.2.1, .str x.2.2]) (fun x => okTr x.1 ∧ x.2.1.length ≤ 40 ∧ x.2.2.length ≤ 1000000) (fun x => aInts (itemL x.1 x.2.1 x.2.2)) fun x hx => c10 (T := [e27, e28, e29]) rfl rfl rfl x.1 hx.1 x.2.1 hx.2.1 x.2.2 hx.2.2
theorem k10 {T : List (Entry Tryz.prog)} (hT : findE 10 T = some e10.g) {t : Tr} (ht : okTr t) {l : List Int} (hl : l.length ≤ 40) {x : Str} (hx : x.length ≤ 1000000) (H : Heap) : callL (ctx T) (.fn 10) [aTree t, aInts l, .str x] H = some (aInts (itemL t l x), H) :=
  mkE_pure hT injTLS (t, l, x) ⟨ht, hl, hx⟩ (by simp [pureL, pureV, aTree, aNodes, aInts]) (by simp [th_aTree, aInts]) H
end Go.Proofs.YtmadcegoionpjaaGreatDoor
namespace Go.Proofs.YtmadcegoionpjaaGreatDoor
set_option linter.unusedSimpArgs false
set_option linter.unusedVariables false
open Go Go.RowKit
set_option maxRecDepth 100000

noncomputable def r27 : Entry Tryz.prog := ⟨27, fun args H => match args with
  | [.str s] => match Nat.ble s.length 1000 with
    | true => some (atoiA s, H)
    | false => none
  | _ => none, fun args H v H' h => by
    split at h
    · rename_i s
      split at h
      · rename_i hl
        simp only [Option.some.injEq, Prod.mk.injEq] at h
        obtain ⟨rfl, rfl⟩ := h
        exact (c27 (T := []) s (by have := Nat.le_of_ble_eq_true hl; omega)).lift (by simp [pureL, pureV]) H
      · cases h
    · cases h⟩
noncomputable def r127 : Entry Tryz.prog := ⟨127, fun args H => match args with
  | [.str s, .str t] => match Nat.ble s.length 1000 with
    | true => some (.int .i64 (Lib.index s t), H)
    | false => none
  | _ => none, fun args H v H' h => by
    split at h
    · rename_i s t
      split at h
      · rename_i hl
        simp only [Option.some.injEq, Prod.mk.injEq] at h
        obtain ⟨rfl, rfl⟩ := h
        exact (c127 (T := []) s t (by have := Nat.le_of_ble_eq_true hl; omega)).lift (by simp [pureL, pureV]) H
      · cases h
    · cases h⟩
noncomputable def TF : List (Entry Tryz.prog) := [r64, r27, r127]
theorem closedCall {T : List (Entry Tryz.prog)} {f : FuncId} (h : isTrueE (callN (ctx T) 100000 (.fn f) [] ⟨0, []⟩) = true) : CallAt (ctx T) f [] ⟨0, []⟩ (.bool true) ⟨0, []⟩ := by
  revert h
  cases hr : callN (ctx T) 100000 (.fn f) [] ⟨0, []⟩ with
  | none => intro h; cases h
  | some r =>
    obtain ⟨v, H'⟩ := r
    intro h
    cases v <;> simp only [isTrueE] at h <;> first | (cases h; done) | skip
    subst h
    exact ((call_ok mixed (mkC_ok _ _ _) 100000).fn f [] ⟨0, []⟩ _ _ hr).freeze (Φ := []) (by simp [fitV, pureV]) FitH.empty
end Go.Proofs.YtmadcegoionpjaaGreatDoor
namespace Go.Proofs.YtmadcegoionpjaaGreatDoor
set_option linter.unusedSimpArgs false
set_option linter.unusedVariables false
open Go Go.RowKit
set_option maxRecDepth 100000

def noneL : List AV → Bool
  | [] => true
  | _ :: _ => false
mutual
def fitVb (Φ : List (Nat × List AV)) : AV → AV → Bool
  | .slc b o len cap, v' => match v' with
    | .undef => true
    | .fslc sz es => (match lookC b Φ with
      | some cs => (match subL o (len * sz) cs with
        | some x => AV.beqL x (flatAV es) && Nat.beq es.length len && allSize sz es
        | none => false)
      | none => false) || (Nat.beq len 0 && noneL es)
    | _ => false
  | .ptr b o, v' => match v' with
    | .undef => true
    | .fptr cs o' => (match lookC b Φ with
      | some c => AV.beqL c cs
      | none => false) && Nat.beq o' o
    | _ => false
  | .nilS, v' => match v' with
    | .undef => true
    | .nilS => true
    | .fslc _ es => noneL es
    | _ => false
  | .agg cs, v' => match v' with
    | .undef => true
    | .agg cs' => fitLb Φ cs cs'
    | _ => false
  | .tup cs, v' => match v' with
    | .undef => true
    | .tup cs' => fitLb Φ cs cs'
    | _ => false
  | .int k n, v' => match v' with
    | .undef => true
    | .int k' n' => decide (k' = k) && decide (n' = n)
    | _ => false
  | .str s, v' => match v' with
    | .undef => true
    | .str s' => eqN s' s
    | _ => false
  | .bool s, v' => match v' with
    | .undef => true
    | .bool s' => s' == s
    | _ => false
  | _, v' => match v' with
    | .undef => true
    | _ => false
def fitLb (Φ : List (Nat × List AV)) : List AV → List AV → Bool
  | [], l' => noneL l'
  | a :: r, l' => match l' with
    | [] => false
    | a' :: r' => fitVb Φ a a' && fitLb Φ r r'
end
theorem noneL_eq {l : List AV} (h : noneL l = true) : l = [] := by cases l <;> first | rfl | cases h
mutual
theorem fitVb_ok {Φ : List (Nat × List AV)} : ∀ {v v' : AV}, fitVb Φ v v' = true → fitV [] Φ v v' := by
  intro v v' h
  cases v with
  | slc b o len cap =>
    unfold fitVb at h
    unfold fitV
    cases v' <;> simp only [Bool.false_eq_true] at h ⊢
    rename_i sz es
    simp only [Bool.or_eq_true, Bool.and_eq_true] at h
    rcases h with h | h
    · left
      cases hl : lookC b Φ with
      | none => rw [hl] at h; cases h
      | some cs =>
        rw [hl] at h
        simp only at h
        cases hs : subL o (len * sz) cs with
        | none => rw [hs] at h; cases h
        | some x =>
          rw [hs] at h
          simp only [Bool.and_eq_true] at h
          exact ⟨cs, rfl, by rw [hs, AV.eqL_of_beq _ _ h.1.1], Nat.eq_of_beq_eq_true h.1.2, h.2⟩
    · exact .inr ⟨Nat.eq_of_beq_eq_true h.1, noneL_eq h.2⟩
  | ptr b o =>
    unfold fitVb at h
    unfold fitV
    cases v' <;> simp only [Bool.false_eq_true] at h ⊢
    simp only [Bool.and_eq_true] at h
    cases hl : lookC b Φ with
    | none => rw [hl] at h; cases h.1
    | some cs =>
      rw [hl] at h
      exact ⟨by rw [AV.eqL_of_beq _ _ h.1], Nat.eq_of_beq_eq_true h.2⟩
  | nilS =>
    unfold fitVb at h
    unfold fitV
    cases v' <;> simp only [Bool.false_eq_true] at h ⊢
    exact noneL_eq h
  | agg cs =>
    unfold fitVb at h
    unfold fitV
    cases v' <;> simp only [Bool.false_eq_true] at h ⊢
    exact .inl (fitLb_ok h)
  | tup cs =>
    unfold fitVb at h
    unfold fitV
    cases v' <;> simp only [Bool.false_eq_true] at h ⊢
    exact .inl (fitLb_ok h)
  | int k n =>
    unfold fitVb at h
    unfold fitV
    cases v' <;> simp only [Bool.false_eq_true] at h ⊢
    · simp
    · simp only [Bool.and_eq_true, decide_eq_true_eq] at h
      obtain ⟨rfl, rfl⟩ := h
      exact .inr ⟨rfl, rfl⟩
  | str s =>
    unfold fitVb at h
    unfold fitV
    cases v' <;> simp only [Bool.false_eq_true] at h ⊢
    · simp
    · rw [eqN_eq, decide_eq_true_eq] at h
      subst h
      exact .inr ⟨rfl, rfl⟩
  | bool s =>
    unfold fitVb at h
    unfold fitV
    cases v' <;> simp only [Bool.false_eq_true] at h ⊢
    · simp
    · simp only [beq_iff_eq] at h
      subst h
      exact .inr ⟨rfl, rfl⟩
  | _ =>
    unfold fitVb at h
    cases v' <;> simp only [Bool.false_eq_true] at h
    simp [fitV]
theorem fitLb_ok {Φ : List (Nat × List AV)} : ∀ {l l' : List AV}, fitLb Φ l l' = true → fitL [] Φ l l' := by
  intro l l' h
  cases l with
  | nil =>
    unfold fitLb at h
    unfold fitL
    exact noneL_eq h
  | cons a r =>
    unfold fitLb at h
    unfold fitL
    cases l' with
    | nil => cases h
    | cons a' r' =>
      simp only [Bool.and_eq_true] at h
      exact ⟨fitVb_ok h.1, fitLb_ok h.2⟩
end
def undefL : Nat → List AV → List AV
  | 0, _ => []
  | _ + 1, [] => []
  | n + 1, _ :: r => .undef :: undefL n r
def undefA : List AV → List AV
  | [] => []
  | _ :: r => .undef :: undefA r
def pairsL : List AV → List AV → List (AV × AV) → List (AV × AV)
  | a :: r, b :: s, acc => (a, b) :: pairsL r s acc
  | _, _, acc => acc
/-- which blocks are to be frozen, as what -/
def coll (H : Heap) : Nat → List (AV × AV) → List (Nat × List AV) → Option (List (Nat × List AV))
  | 0, _, _ => none
  | n + 1, todo, Φ => match todo with
    | [] => some Φ
    | x :: r => match x.1, x.2 with
      | .agg xs, .agg ys => coll H n (pairsL xs ys r) Φ
      | .tup xs, .tup ys => coll H n (pairsL xs ys r) Φ
      | .slc b o len _, .fslc sz es => match len with
        | 0 => coll H n r Φ
        | Nat.succ _ => match lookC b Φ with
          | some _ => coll H n r Φ
          | none => match H.get b with
            | some (.cells cs) => coll H n (pairsL (cs.drop o) (flatAV es) r) ((b, undefL o cs ++ flatAV es ++ undefA (cs.drop (o + len * sz))) :: Φ)
            | _ => none
      | .ptr b _, .fptr ys _ => match lookC b Φ with
        | some _ => coll H n r Φ
        | none => match H.get b with
          | some (.cells cs) => coll H n (pairsL cs ys r) ((b, ys) :: Φ)
          | _ => none
      | _, _ => coll H n r Φ
def nodupB : List Nat → Bool
  | [] => true
  | x :: r => match memT x r with
    | true => false
    | false => nodupB r
theorem memT_mem {n : Nat} : ∀ {l : List Nat}, memT n l = false → n ∉ l
  | [], _ => by simp
  | m :: r, h => by
    unfold memT at h
    split at h
    · cases h
    · rename_i hb
      have : n ≠ m := fun e => by rw [e, Nat.beq_refl] at hb; cases hb
      simp [this, memT_mem h]
theorem nodupB_ok : ∀ {l : List Nat}, nodupB l = true → l.Nodup
  | [], _ => List.nodup_nil
  | x :: r, h => by
    unfold nodupB at h
    split at h
    · cases h
    · rename_i hm
      exact List.nodup_cons.2 ⟨memT_mem hm, nodupB_ok h⟩
def frzOK (H : Heap) (Φ : List (Nat × List AV)) : List (Nat × List AV) → Bool
  | [] => true
  | x :: r => (match H.get x.1 with
    | some (.cells cs) => fitLb Φ cs x.2 && pureL x.2
    | _ => false) && frzOK H Φ r
theorem frzOK_ok {H : Heap} {Φ : List (Nat × List AV)} : ∀ {l : List (Nat × List AV)}, frzOK H Φ l = true → ∀ x, x ∈ l → ∃ cs, H.get x.1 = some (.cells cs) ∧ fitL [] Φ cs x.2 ∧ pureL x.2 = true
  | [], _, x, hx => by cases hx
  | y :: r, h, x, hx => by
    unfold frzOK at h
    simp only [Bool.and_eq_true] at h
    rcases List.mem_cons.1 hx with rfl | hx
    · have h1 := h.1
      split at h1
      · rename_i cs hg
        simp only [Bool.and_eq_true] at h1
        exact ⟨cs, hg, fitLb_ok h1.1, h1.2⟩
      · cases h1
    · exact frzOK_ok h.2 x hx
/-- does a run answer what is written out? -/
def litOK (lit : AV) : Option (AV × Heap) → Bool
  | some (v, H) => match coll H 100000 [(v, lit)] [] with
    | some Φ => nodupB (Φ.map (·.1)) && frzOK H Φ Φ && fitVb Φ v lit
    | none => false
  | none => false
theorem closedLit {T : List (Entry Tryz.prog)} {f : FuncId} {args : List AV} {lit : AV} (h : litOK lit (callN (ctx T) 100000 (.fn f) args ⟨0, []⟩) = true) : CallAt (ctx T) f args ⟨0, []⟩ lit ⟨0, []⟩ := by
  revert h
  cases hr : callN (ctx T) 100000 (.fn f) args ⟨0, []⟩ with
  | none => intro h; cases h
  | some r =>
    obtain ⟨v, H'⟩ := r
    intro h
    unfold litOK at h
    simp only at h
    cases hc : coll H' 100000 [(v, lit)] [] with
    | none => rw [hc] at h; cases h
    | some Φ =>
      rw [hc] at h
      simp only [Bool.and_eq_true] at h
      exact ((call_ok mixed (mkC_ok _ _ _) 100000).fn f args ⟨0, []⟩ _ _ hr).freeze (fitVb_ok h.2) (FitH.froze (nodupB_ok h.1.1) (frzOK_ok h.1.2))
/-- answers written out, at arguments written out -/
def litsG : List (List AV × AV) → List AV → Option AV
  | [], _ => none
  | x :: r, args => match AV.beqL args x.1 with
    | true => some x.2
    | false => litsG r args
theorem litsG_mem : ∀ {l : List (List AV × AV)} {args : List AV} {v : AV}, litsG l args = some v → (args, v) ∈ l
  | [], args, v, h => by cases h
  | x :: r, args, v, h => by
    unfold litsG at h
    split at h
    · rename_i hb
      simp only [Option.some.injEq] at h
      subst h
      rw [AV.eqL_of_beq _ _ hb]
      exact List.mem_cons_self
    · exact List.mem_cons_of_mem _ (litsG_mem h)
noncomputable def litsE (f : FuncId) (l : List (List AV × AV)) (h : ∀ x, x ∈ l → pureL x.1 = true ∧ CallAt ⟨Tryz.prog, fun _ => [], fun _ => none⟩ f x.1 ⟨0, []⟩ x.2 ⟨0, []⟩) : Entry Tryz.prog := ⟨f, fun args H => match litsG l args with
  | some v => some (v, H)
  | none => none, fun args H v H' hr => by
    split at hr
    · rename_i w hw
      simp only [Option.some.injEq, Prod.mk.injEq] at hr
      obtain ⟨rfl, rfl⟩ := hr
      obtain ⟨h1, h2⟩ := h _ (litsG_mem hw)
      exact h2.lift h1 H
    · cases hr⟩
end Go.Proofs.YtmadcegoionpjaaGreatDoor
