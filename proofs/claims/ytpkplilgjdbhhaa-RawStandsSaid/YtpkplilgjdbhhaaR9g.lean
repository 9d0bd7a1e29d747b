/- Find, by the program and by the reference; the laws' bodies. No condition. -/
import Derived.Test.YtpkplilgjdbhhaaR8
namespace Go.Proofs.Ytpkplilgjdbhhaa
set_option linter.unusedSimpArgs false
set_option linter.unusedVariables false
open Go Go.RowKit
set_option maxRecDepth 100000

noncomputable def e26 : Entry Try.prog := mkE 26 [[], []] (fun x : Str × Str => [.str x.1, .str x.2]) (fun x => x.1.length ≤ 1000000 ∧ x.2.length ≤ 1000000) (fun x => .int .i64 (scr x.2 x.1)) fun x h => c26 (T := [e45, e46, e47]) rfl rfl rfl x.1 x.2 h.1 h.2
theorem k26 {T : List (Entry Try.prog)} (hT : findE 26 T = some e26.g) {s t : Str} (h1 : s.length ≤ 1000000) (h2 : t.length ≤ 1000000) (H : Heap) : callL (ctx T) 26 [.str s, .str t] H = some (.int .i64 (scr t s), H) :=
  mkE_scalar hT inj_str2 (s, t) ⟨h1, h2⟩ rfl (by simp)
noncomputable def e27 : Entry Try.prog := mkE 27 [[], []] (fun x : Str × Str => [.str x.1, .str x.2]) (fun x => x.1.length ≤ 1000000 ∧ x.2.length ≤ 1000000) (fun x => .int .i64 (scr x.2 x.1)) fun x h => c27 (T := [e11, e48, e49]) rfl rfl rfl x.1 x.2 h.1 h.2
theorem k27 {T : List (Entry Try.prog)} (hT : findE 27 T = some e27.g) {s t : Str} (h1 : s.length ≤ 1000000) (h2 : t.length ≤ 1000000) (H : Heap) : callL (ctx T) 27 [.str s, .str t] H = some (.int .i64 (scr t s), H) :=
  mkE_scalar hT inj_str2 (s, t) ⟨h1, h2⟩ rfl (by simp)
def findS (s nm : Str) (st : Int) : Nat := if st = 0 then 0 else if st = 1 then clo nm s 0 else if st = 2 then clo nm s 0 else if st = 3 then scr nm s else s.length
theorem c9 {T : List (Entry Try.prog)} (h25 : findE 25 T = some e25.g) (h26 : findE 26 T = some e26.g) (s nm : Str) (st : Int) (h1 : s.length ≤ 1000000) (h2 : nm.length ≤ 1000000) : CallAt (ctx T) 9 [.str s, .str nm, .int .i64 st] ⟨0, []⟩ (.int .i64 (findS s nm st)) ⟨0, []⟩ := by
  refine callAt_body (fn := Try.f9) (s0 := ⟨[0, 1, 2, 6, 7, 10], [.str s, .str nm, .int .i64 st, .undef, .undef, .undef], [], 23, ⟨0, [[]]⟩⟩) Try.func9 rfl rfl rfl ?_
  by_cases q0 : st = 0
  · (repeat (first
          | (refine wps_seq ?_)
          | (refine wps_block ?_)
          | (refine wps_label ?_; simp only [thenQ, blockQ])
          | ((refine wps_region callOK ?_); simp [ofV, ofV1, mkC_P, writeVar, writeCells, readCells, allSingle, AV.single, getFs, getF, setFs, setF, Heap.get, Heap.set, Heap.new, Heap.kill, killF, pushF, Heap.ready, refs, sliceParts, fillA, replL, q0])
          | (refine wps_cond (t := true) rfl (fun _ => ?_) (fun h => by cases h))
          | (refine wps_cond (t := false) rfl (fun h => by cases h) (fun _ => ?_))
          | ((refine wps_skip ?_); simp only [thenQ, blockQ])
          | ((refine wps_exit ?_); simp [thenQ, blockQ])))
    repeat refine wps_seq ?_
    refine wps_ret ?_
    simp [retVal, Try.f9, oneOr, thenQ, blockQ, gotoB]
    exact ends_pure rfl (by simp [findS, q0])
  by_cases q1 : st = 1
  · (repeat (first
          | (refine wps_seq ?_)
          | (refine wps_block ?_)
          | (refine wps_label ?_; simp only [thenQ, blockQ])
          | ((refine wps_region callOK ?_); simp [ofV, ofV1, mkC_P, writeVar, writeCells, readCells, allSingle, AV.single, getFs, getF, setFs, setF, Heap.get, Heap.set, Heap.new, Heap.kill, killF, pushF, Heap.ready, refs, sliceParts, fillA, replL, q1, k25 h25 h1 h2])
          | (refine wps_cond (t := true) rfl (fun _ => ?_) (fun h => by cases h))
          | (refine wps_cond (t := false) rfl (fun h => by cases h) (fun _ => ?_))
          | ((refine wps_skip ?_); simp only [thenQ, blockQ])
          | ((refine wps_exit ?_); simp [thenQ, blockQ])))
    repeat refine wps_seq ?_
    refine wps_ret ?_
    simp [retVal, Try.f9, oneOr, thenQ, blockQ, gotoB]
    exact ends_pure rfl (by simp [findS, q1])
  by_cases q2 : st = 2
  · (repeat (first
          | (refine wps_seq ?_)
          | (refine wps_block ?_)
          | (refine wps_label ?_; simp only [thenQ, blockQ])
          | ((refine wps_region callOK ?_); simp [ofV, ofV1, mkC_P, writeVar, writeCells, readCells, allSingle, AV.single, getFs, getF, setFs, setF, Heap.get, Heap.set, Heap.new, Heap.kill, killF, pushF, Heap.ready, refs, sliceParts, fillA, replL, q2, k25 h25 h1 h2])
          | (refine wps_cond (t := true) rfl (fun _ => ?_) (fun h => by cases h))
          | (refine wps_cond (t := false) rfl (fun h => by cases h) (fun _ => ?_))
          | ((refine wps_skip ?_); simp only [thenQ, blockQ])
          | ((refine wps_exit ?_); simp [thenQ, blockQ])))
    repeat refine wps_seq ?_
    refine wps_ret ?_
    simp [retVal, Try.f9, oneOr, thenQ, blockQ, gotoB]
    exact ends_pure rfl (by simp [findS, q2])
  by_cases q3 : st = 3
  · (repeat (first
          | (refine wps_seq ?_)
          | (refine wps_block ?_)
          | (refine wps_label ?_; simp only [thenQ, blockQ])
          | ((refine wps_region callOK ?_); simp [ofV, ofV1, mkC_P, writeVar, writeCells, readCells, allSingle, AV.single, getFs, getF, setFs, setF, Heap.get, Heap.set, Heap.new, Heap.kill, killF, pushF, Heap.ready, refs, sliceParts, fillA, replL, q3, k26 h26 h1 h2])
          | (refine wps_cond (t := true) rfl (fun _ => ?_) (fun h => by cases h))
          | (refine wps_cond (t := false) rfl (fun h => by cases h) (fun _ => ?_))
          | ((refine wps_skip ?_); simp only [thenQ, blockQ])
          | ((refine wps_exit ?_); simp [thenQ, blockQ])))
    repeat refine wps_seq ?_
    refine wps_ret ?_
    simp [retVal, Try.f9, oneOr, thenQ, blockQ, gotoB]
    exact ends_pure rfl (by simp [findS, q3])
  (repeat (first
        | (refine wps_seq ?_)
        | (refine wps_block ?_)
        | (refine wps_label ?_; simp only [thenQ, blockQ])
        | ((refine wps_region callOK ?_); simp [ofV, ofV1, mkC_P, writeVar, writeCells, readCells, allSingle, AV.single, getFs, getF, setFs, setF, Heap.get, Heap.set, Heap.new, Heap.kill, killF, pushF, Heap.ready, refs, sliceParts, fillA, replL, q0, q1, q2, q3])
        | (refine wps_cond (t := true) rfl (fun _ => ?_) (fun h => by cases h))
        | (refine wps_cond (t := false) rfl (fun h => by cases h) (fun _ => ?_))
        | ((refine wps_skip ?_); simp only [thenQ, blockQ])
        | ((refine wps_exit ?_); simp [thenQ, blockQ])))
  repeat refine wps_seq ?_
  refine wps_ret ?_
  simp [retVal, Try.f9, oneOr, thenQ, blockQ, gotoB]
  exact ends_pure rfl (by simp [findS, q0, q1, q2, q3])
theorem c10 {T : List (Entry Try.prog)} (h11 : findE 11 T = some e11.g) (h27 : findE 27 T = some e27.g) (s nm : Str) (st : Int) (h1 : s.length ≤ 1000000) (h2 : nm.length ≤ 1000000) : CallAt (ctx T) 10 [.str s, .str nm, .int .i64 st] ⟨0, []⟩ (.int .i64 (findS s nm st)) ⟨0, []⟩ := by
  refine callAt_body (fn := Try.f10) (s0 := ⟨[0, 1, 2, 6, 7], [.str s, .str nm, .int .i64 st, .undef, .undef], [], 37, ⟨0, [[]]⟩⟩) Try.func10 rfl rfl rfl ?_
  by_cases q0 : st = 0
  · (repeat (first
          | (refine wps_seq ?_)
          | (refine wps_block ?_)
          | (refine wps_label ?_; simp only [thenQ, blockQ])
          | ((refine wps_region callOK ?_); simp [ofV, ofV1, mkC_P, writeVar, writeCells, readCells, allSingle, AV.single, getFs, getF, setFs, setF, Heap.get, Heap.set, Heap.new, Heap.kill, killF, pushF, Heap.ready, refs, sliceParts, fillA, replL, q0])
          | (refine wps_cond (t := true) rfl (fun _ => ?_) (fun h => by cases h))
          | (refine wps_cond (t := false) rfl (fun h => by cases h) (fun _ => ?_))
          | ((refine wps_skip ?_); simp only [thenQ, blockQ])
          | ((refine wps_exit ?_); simp [thenQ, blockQ])))
    repeat refine wps_seq ?_
    refine wps_ret ?_
    simp [retVal, Try.f10, oneOr, thenQ, blockQ, gotoB]
    exact ends_pure rfl (by simp [findS, q0])
  by_cases q3 : st = 3
  · (repeat (first
          | (refine wps_seq ?_)
          | (refine wps_block ?_)
          | (refine wps_label ?_; simp only [thenQ, blockQ])
          | ((refine wps_region callOK ?_); simp [ofV, ofV1, mkC_P, writeVar, writeCells, readCells, allSingle, AV.single, getFs, getF, setFs, setF, Heap.get, Heap.set, Heap.new, Heap.kill, killF, pushF, Heap.ready, refs, sliceParts, fillA, replL, q3, k27 h27 h1 h2])
          | (refine wps_cond (t := true) rfl (fun _ => ?_) (fun h => by cases h))
          | (refine wps_cond (t := false) rfl (fun h => by cases h) (fun _ => ?_))
          | ((refine wps_skip ?_); simp only [thenQ, blockQ])
          | ((refine wps_exit ?_); simp [thenQ, blockQ])))
    repeat refine wps_seq ?_
    refine wps_ret ?_
    simp [retVal, Try.f10, oneOr, thenQ, blockQ, gotoB]
    exact ends_pure rfl (by simp [findS, q3])
  by_cases q12 : st = 1 ∨ st = 2
  rotate_left
  · have q1 : ¬ st = 1 := fun h => q12 (.inl h)
    have q2 : ¬ st = 2 := fun h => q12 (.inr h)
    (repeat (first
          | (refine wps_seq ?_)
          | (refine wps_block ?_)
          | (refine wps_label ?_; simp only [thenQ, blockQ])
          | ((refine wps_region callOK ?_); simp [ofV, ofV1, mkC_P, writeVar, writeCells, readCells, allSingle, AV.single, getFs, getF, setFs, setF, Heap.get, Heap.set, Heap.new, Heap.kill, killF, pushF, Heap.ready, refs, sliceParts, fillA, replL, q0, q1, q2, q3])
          | (refine wps_cond (t := true) rfl (fun _ => ?_) (fun h => by cases h))
          | (refine wps_cond (t := false) rfl (fun h => by cases h) (fun _ => ?_))
          | ((refine wps_skip ?_); simp only [thenQ, blockQ])
          | ((refine wps_exit ?_); simp [thenQ, blockQ])))
    repeat refine wps_seq ?_
    refine wps_ret ?_
    simp [retVal, Try.f10, oneOr, thenQ, blockQ, gotoB]
    exact ends_pure rfl (by simp [findS, q0, q1, q2, q3])
  have hv : findS s nm st = clo nm s 0 := by rcases q12 with h | h <;> simp [findS, h]
  rw [hv]
  repeat refine wps_seq ?_
  refine wps_region callOK ?_
  simp [ofV, ofV1, mkC_P, writeVar, writeCells, readCells, allSingle, AV.single, getFs, getF, setFs, setF, Heap.get, Heap.set, Heap.new, Heap.kill, killF, pushF, Heap.ready, refs, sliceParts, fillA, replL]
  repeat refine wps_seq ?_
  refine wps_region callOK ?_
  simp [ofV, ofV1, mkC_P, writeVar, writeCells, readCells, allSingle, AV.single, getFs, getF, setFs, setF, Heap.get, Heap.set, Heap.new, Heap.kill, killF, pushF, Heap.ready, refs, sliceParts, fillA, replL, q0]
  repeat refine wps_seq ?_
  refine wps_cond (t := false) rfl (fun h => by cases h) fun _ => ?_
  repeat refine wps_seq ?_
  refine wps_skip ?_
  simp
  repeat refine wps_seq ?_
  refine wps_region callOK ?_
  simp [ofV, ofV1, mkC_P, writeVar, writeCells, readCells, allSingle, AV.single, getFs, getF, setFs, setF, Heap.get, Heap.set, Heap.new, Heap.kill, killF, pushF, Heap.ready, refs, sliceParts, fillA, replL, q3]
  repeat refine wps_seq ?_
  refine wps_cond (t := false) rfl (fun h => by cases h) fun _ => ?_
  repeat refine wps_seq ?_
  refine wps_skip ?_
  simp
  by_cases q1 : st = 1
  · repeat refine wps_seq ?_
    refine wps_region callOK ?_
    simp [ofV, ofV1, mkC_P, writeVar, writeCells, readCells, allSingle, AV.single, getFs, getF, setFs, setF, Heap.get, Heap.set, Heap.new, Heap.kill, killF, pushF, Heap.ready, refs, sliceParts, fillA, replL, q1]
    repeat refine wps_seq ?_
    refine wps_cond (t := false) rfl (fun h => by cases h) fun _ => ?_
    repeat refine wps_seq ?_
    refine wps_skip ?_
    simp
    repeat refine wps_seq ?_
    refine wps_region callOK ?_
    simp [ofV, ofV1, mkC_P, writeVar, writeCells, readCells, allSingle, AV.single, getFs, getF, setFs, setF, Heap.get, Heap.set, Heap.new, Heap.kill, killF, pushF, Heap.ready, refs, sliceParts, fillA, replL]
    repeat refine wps_seq ?_
    refine wps_block (wps_loop' (fun i : Nat => (⟨[0, 1, 2, 6, 7], [.str s, .str nm, .undef, .undef, .int .i64 i], [], 37, ⟨0, [[]]⟩⟩ : St))
      (fun i => i ≤ s.length ∧ clo nm s 0 = clo nm (s.drop i) i) (fun i => s.length - i) [] [] 0 ⟨Nat.zero_le _, rfl⟩ ⟨rfl, rfl, rfl, by simp [fitL, fitV, pureV, pureL], FitH.nothing⟩ ?_)
    rintro i ⟨hi, hx⟩ B hB
    by_cases hlt : i < s.length
    rotate_left
    · have hge : ¬ (i : Int) < (s.length : Int) := by omega
      (repeat (first
            | (refine wps_seq ?_)
            | (refine wps_block ?_)
            | (refine wps_label ?_; simp only [thenQ, blockQ])
            | ((refine wps_region callOK ?_); simp [ofV, ofV1, mkC_P, writeVar, writeCells, readCells, allSingle, AV.single, getFs, getF, setFs, setF, Heap.get, Heap.set, Heap.new, Heap.kill, killF, pushF, Heap.ready, refs, sliceParts, fillA, replL, hge])
            | (refine wps_cond (t := true) rfl (fun _ => ?_) (fun h => by cases h))
            | (refine wps_cond (t := false) rfl (fun h => by cases h) (fun _ => ?_))
            | ((refine wps_skip ?_); simp only [thenQ, blockQ])
            | ((refine wps_exit ?_); simp [thenQ, blockQ])))
      repeat refine wps_seq ?_
      refine wps_ret ?_
      simp [retVal, Try.f10, oneOr, thenQ, blockQ, gotoB]
      exact ends_pure rfl (by rw [hx, show i = s.length by omega, clo_end])
    have hlt' : (i : Int) < (s.length : Int) := by omega
    have hd : (s.drop i).length ≤ 1000000 := by simp; omega
    have a1 : wr .i64 ((i : Int) + 1) = some ((i + 1 : Nat) : Int) := add_one (by omega)
    rw [clo_at hlt] at hx
    cases hc : closesB (s.drop i) nm with
    | true =>
      (repeat (first
            | (refine wps_seq ?_)
            | (refine wps_block ?_)
            | (refine wps_label ?_; simp only [thenQ, blockQ])
            | ((refine wps_region callOK ?_); simp [ofV, ofV1, mkC_P, writeVar, writeCells, readCells, allSingle, AV.single, getFs, getF, setFs, setF, Heap.get, Heap.set, Heap.new, Heap.kill, killF, pushF, Heap.ready, refs, sliceParts, fillA, replL, hlt', slStr hi, k11 h11 hd h2, hc])
            | (refine wps_cond (t := true) rfl (fun _ => ?_) (fun h => by cases h))
            | (refine wps_cond (t := false) rfl (fun h => by cases h) (fun _ => ?_))
            | ((refine wps_skip ?_); simp only [thenQ, blockQ])
            | ((refine wps_exit ?_); simp [thenQ, blockQ])))
      repeat refine wps_seq ?_
      refine wps_ret ?_
      simp [retVal, Try.f10, oneOr, thenQ, blockQ, gotoB]
      exact ends_pure rfl (by simp [hx, hc])
    | false =>
      (repeat (first
            | (refine wps_seq ?_)
            | (refine wps_block ?_)
            | (refine wps_label ?_; simp only [thenQ, blockQ])
            | ((refine wps_region callOK ?_); simp [ofV, ofV1, mkC_P, writeVar, writeCells, readCells, allSingle, AV.single, getFs, getF, setFs, setF, Heap.get, Heap.set, Heap.new, Heap.kill, killF, pushF, Heap.ready, refs, sliceParts, fillA, replL, hlt', slStr hi, k11 h11 hd h2, hc, a1])
            | (refine wps_cond (t := true) rfl (fun _ => ?_) (fun h => by cases h))
            | (refine wps_cond (t := false) rfl (fun h => by cases h) (fun _ => ?_))
            | ((refine wps_skip ?_); simp only [thenQ, blockQ])
            | ((refine wps_exit ?_); simp [thenQ, blockQ])))
      exact hB _ (i + 1) (by omega) ⟨by omega, by simp [hx, hc]⟩ ⟨[], [], ⟨rfl, rfl, rfl, by simp [fitL, fitV, pureV, pureL], FitH.nothing⟩⟩
  · have q2 : st = 2 := q12.resolve_left q1
    repeat refine wps_seq ?_
    refine wps_region callOK ?_
    simp [ofV, ofV1, mkC_P, writeVar, writeCells, readCells, allSingle, AV.single, getFs, getF, setFs, setF, Heap.get, Heap.set, Heap.new, Heap.kill, killF, pushF, Heap.ready, refs, sliceParts, fillA, replL, q2]
    repeat refine wps_seq ?_
    refine wps_cond (t := false) rfl (fun h => by cases h) fun _ => ?_
    repeat refine wps_seq ?_
    refine wps_skip ?_
    simp
    repeat refine wps_seq ?_
    refine wps_region callOK ?_
    simp [ofV, ofV1, mkC_P, writeVar, writeCells, readCells, allSingle, AV.single, getFs, getF, setFs, setF, Heap.get, Heap.set, Heap.new, Heap.kill, killF, pushF, Heap.ready, refs, sliceParts, fillA, replL]
    repeat refine wps_seq ?_
    refine wps_block (wps_loop' (fun i : Nat => (⟨[0, 1, 2, 6, 7], [.str s, .str nm, .undef, .undef, .int .i64 i], [], 37, ⟨0, [[]]⟩⟩ : St))
      (fun i => i ≤ s.length ∧ clo nm s 0 = clo nm (s.drop i) i) (fun i => s.length - i) [] [] 0 ⟨Nat.zero_le _, rfl⟩ ⟨rfl, rfl, rfl, by simp [fitL, fitV, pureV, pureL], FitH.nothing⟩ ?_)
    rintro i ⟨hi, hx⟩ B hB
    by_cases hlt : i < s.length
    rotate_left
    · have hge : ¬ (i : Int) < (s.length : Int) := by omega
      (repeat (first
            | (refine wps_seq ?_)
            | (refine wps_block ?_)
            | (refine wps_label ?_; simp only [thenQ, blockQ])
            | ((refine wps_region callOK ?_); simp [ofV, ofV1, mkC_P, writeVar, writeCells, readCells, allSingle, AV.single, getFs, getF, setFs, setF, Heap.get, Heap.set, Heap.new, Heap.kill, killF, pushF, Heap.ready, refs, sliceParts, fillA, replL, hge])
            | (refine wps_cond (t := true) rfl (fun _ => ?_) (fun h => by cases h))
            | (refine wps_cond (t := false) rfl (fun h => by cases h) (fun _ => ?_))
            | ((refine wps_skip ?_); simp only [thenQ, blockQ])
            | ((refine wps_exit ?_); simp [thenQ, blockQ])))
      repeat refine wps_seq ?_
      refine wps_ret ?_
      simp [retVal, Try.f10, oneOr, thenQ, blockQ, gotoB]
      exact ends_pure rfl (by rw [hx, show i = s.length by omega, clo_end])
    have hlt' : (i : Int) < (s.length : Int) := by omega
    have hd : (s.drop i).length ≤ 1000000 := by simp; omega
    have a1 : wr .i64 ((i : Int) + 1) = some ((i + 1 : Nat) : Int) := add_one (by omega)
    rw [clo_at hlt] at hx
    cases hc : closesB (s.drop i) nm with
    | true =>
      (repeat (first
            | (refine wps_seq ?_)
            | (refine wps_block ?_)
            | (refine wps_label ?_; simp only [thenQ, blockQ])
            | ((refine wps_region callOK ?_); simp [ofV, ofV1, mkC_P, writeVar, writeCells, readCells, allSingle, AV.single, getFs, getF, setFs, setF, Heap.get, Heap.set, Heap.new, Heap.kill, killF, pushF, Heap.ready, refs, sliceParts, fillA, replL, hlt', slStr hi, k11 h11 hd h2, hc])
            | (refine wps_cond (t := true) rfl (fun _ => ?_) (fun h => by cases h))
            | (refine wps_cond (t := false) rfl (fun h => by cases h) (fun _ => ?_))
            | ((refine wps_skip ?_); simp only [thenQ, blockQ])
            | ((refine wps_exit ?_); simp [thenQ, blockQ])))
      repeat refine wps_seq ?_
      refine wps_ret ?_
      simp [retVal, Try.f10, oneOr, thenQ, blockQ, gotoB]
      exact ends_pure rfl (by simp [hx, hc])
    | false =>
      (repeat (first
            | (refine wps_seq ?_)
            | (refine wps_block ?_)
            | (refine wps_label ?_; simp only [thenQ, blockQ])
            | ((refine wps_region callOK ?_); simp [ofV, ofV1, mkC_P, writeVar, writeCells, readCells, allSingle, AV.single, getFs, getF, setFs, setF, Heap.get, Heap.set, Heap.new, Heap.kill, killF, pushF, Heap.ready, refs, sliceParts, fillA, replL, hlt', slStr hi, k11 h11 hd h2, hc, a1])
            | (refine wps_cond (t := true) rfl (fun _ => ?_) (fun h => by cases h))
            | (refine wps_cond (t := false) rfl (fun h => by cases h) (fun _ => ?_))
            | ((refine wps_skip ?_); simp only [thenQ, blockQ])
            | ((refine wps_exit ?_); simp [thenQ, blockQ])))
      exact hB _ (i + 1) (by omega) ⟨by omega, by simp [hx, hc]⟩ ⟨[], [], ⟨rfl, rfl, rfl, by simp [fitL, fitV, pureV, pureL], FitH.nothing⟩⟩
end Go.Proofs.Ytpkplilgjdbhhaa
