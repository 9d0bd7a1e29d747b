/- Where a script ends, by the program and by the reference. No condition. -/
import Derived.Test.YtpkplilgjdbhhaaR6
namespace Go.Proofs.Ytpkplilgjdbhhaa
set_option linter.unusedSimpArgs false
set_option linter.unusedVariables false
open Go Go.RowKit
set_option maxRecDepth 100000

abbrev opn : Str := [60, 33, 45, 45]
abbrev end_ : Str := [45, 45, 62]
abbrev scrW : Str := [115, 99, 114, 105, 112, 116]
def nxt (md : Nat) (r : Str) : Nat := if md = 1 ∧ opensB r = true then 2 else if md = 2 ∧ closesB r scrW = true then 1 else if 0 < md ∧ preB r end_ = true then 0 else md
/-- where a script ends: fuel, mode, place -/
def sc (nm s : Str) : Nat → Nat → Nat → Nat
  | 0, _, _ => s.length
  | f + 1, md, i => if s.length ≤ i then s.length else if md < 2 ∧ closesB (s.drop i) nm = true then i else if md = 0 ∧ preB (s.drop i) opn = true then sc nm s f 1 (i + 2) else sc nm s f (nxt md (s.drop i)) (i + 1)
def scr (nm s : Str) : Nat := sc nm s (s.length + 1) 0 0
theorem sc_end {nm s : Str} {f md i : Nat} (h : s.length ≤ i) : sc nm s f md i = s.length := by
  cases f with
  | zero => rfl
  | succ f => simp [sc, h]
theorem sc_at {nm s : Str} {f md i : Nat} (h : i < s.length) : sc nm s (f + 1) md i = if md < 2 ∧ closesB (s.drop i) nm = true then i else if md = 0 ∧ preB (s.drop i) opn = true then sc nm s f 1 (i + 2) else sc nm s f (nxt md (s.drop i)) (i + 1) := by
  simp [sc, Nat.not_le.2 h]
theorem pre_room {s t : Str} (h : preB s t = true) : t.length ≤ s.length := by
  simp only [preB, Bool.and_eq_true, decide_eq_true_eq] at h; exact h.1
theorem c27 {T : List (Entry Try.prog)} (h11 : findE 11 T = some e11.g) (h48 : findE 48 T = some e48.g) (h49 : findE 49 T = some e49.g) (s nm : Str) (h1 : s.length ≤ 1000000) (h2 : nm.length ≤ 1000000) : CallAt (ctx T) 27 [.str s, .str nm] ⟨0, []⟩ (.int .i64 (scr nm s)) ⟨0, []⟩ := by
  refine callAt_body (fn := Try.f27) (s0 := ⟨[0, 1, 4, 5, 6, 7], [.str s, .str nm, .undef, .undef, .undef, .undef], [], 53, ⟨0, [[]]⟩⟩) Try.func27 rfl rfl rfl ?_
  repeat refine wps_seq ?_
  refine wps_region callOK ?_
  simp [ofV, ofV1, mkC_P, writeVar, writeCells, readCells, allSingle, AV.single, getFs, getF, setFs, setF, Heap.get, Heap.set, Heap.new, Heap.kill, killF, pushF, Heap.ready, refs, sliceParts, fillA, replL]
  repeat refine wps_seq ?_
  refine wps_region callOK ?_
  simp [ofV, ofV1, mkC_P, writeVar, writeCells, readCells, allSingle, AV.single, getFs, getF, setFs, setF, Heap.get, Heap.set, Heap.new, Heap.kill, killF, pushF, Heap.ready, refs, sliceParts, fillA, replL]
  repeat refine wps_seq ?_
  refine wps_region callOK ?_
  simp [ofV, ofV1, mkC_P, writeVar, writeCells, readCells, allSingle, AV.single, getFs, getF, setFs, setF, Heap.get, Heap.set, Heap.new, Heap.kill, killF, pushF, Heap.ready, refs, sliceParts, fillA, replL]
  repeat refine wps_seq ?_
  refine wps_block (wps_loop' (fun x : Nat × Nat × Nat => (⟨[0, 1, 4, 5, 6, 7], [.str s, .str nm, .undef, .int .i64 x.1, .int .i64 x.2.1, .undef], [], 53, ⟨0, [[]]⟩⟩ : St))
    (fun x => x.1 ≤ 2 ∧ x.2.1 ≤ s.length ∧ s.length - x.2.1 < x.2.2 ∧ scr nm s = sc nm s x.2.2 x.1 x.2.1) (fun x => s.length - x.2.1) [] [] (0, 0, s.length + 1) ⟨by simp, Nat.zero_le _, by simp, rfl⟩ ⟨rfl, rfl, rfl, by simp [fitL, fitV, pureV, pureL], FitH.nothing⟩ ?_)
  rintro ⟨md, i, f⟩ ⟨hmd, hi, hf, hx⟩ B hB
  simp only at hmd hi hf hx hB ⊢
  have hw : scrW.length ≤ 1000000 := by decide
  by_cases hlt : i < s.length
  rotate_left
  · have hge : ¬ (i : Int) < (s.length : Int) := by omega
    (repeat (first
          | (refine wps_seq ?_)
          | (refine wps_block ?_)
          | (refine wps_label ?_; simp only [thenQ, blockQ])
          | ((refine wps_region callOK ?_); simp [ofV, ofV1, mkC_P, writeVar, writeCells, readCells, allSingle, AV.single, getFs, getF, setFs, setF, Heap.get, Heap.set, Heap.new, Heap.kill, killF, pushF, Heap.ready, refs, sliceParts, fillA, replL, hge])
          | (refine wps_cond (t := true) rfl (fun _ => ?_) (fun h => by cases h))
          | (refine wps_cond (t := false) rfl (fun h => by cases h) (fun _ => ?_))
          | ((refine wps_skip ?_); simp only [thenQ, blockQ])
          | ((refine wps_exit ?_); simp [thenQ, blockQ])))
    repeat refine wps_seq ?_
    refine wps_ret ?_
    simp [retVal, Try.f27, oneOr, thenQ, blockQ, gotoB]
    exact ends_pure rfl (by rw [hx, sc_end (by omega)])
  have hlt' : (i : Int) < (s.length : Int) := by omega
  have hd : (s.drop i).length ≤ 1000000 := by simp; omega
  obtain ⟨g, rfl⟩ : ∃ g, f = g + 1 := ⟨f - 1, by omega⟩
  rw [sc_at hlt] at hx
  obtain ⟨r, hr⟩ : ∃ r, r = s.drop i := ⟨_, rfl⟩
  have hsl := slStr (H := ⟨0, [[]]⟩) hi
  rw [← hr] at hx hd hsl
  have a1 : wr .i64 ((i : Int) + 1) = some ((i + 1 : Nat) : Int) := add_one (by omega)
  have a2 : wr .i64 ((i : Int) + 2) = some ((i + 2 : Nat) : Int) := add_nat (k := 2) (by omega)
  rcases (by omega : md = 0 ∨ md = 1 ∨ md = 2) with rfl | rfl | rfl
  · cases hc : closesB r nm with
    | true =>
      (repeat (first
            | (refine wps_seq ?_)
            | (refine wps_block ?_)
            | (refine wps_label ?_; simp only [thenQ, blockQ])
            | ((refine wps_region callOK ?_); simp [ofV, ofV1, mkC_P, writeVar, writeCells, readCells, allSingle, AV.single, getFs, getF, setFs, setF, Heap.get, Heap.set, Heap.new, Heap.kill, killF, pushF, Heap.ready, refs, sliceParts, fillA, replL, hlt', hsl, k11 h11 hd h2, k11 h11 hd hw, k48 h48, k49 h49, a1, a2, hc])
            | (refine wps_cond (t := true) rfl (fun _ => ?_) (fun h => by cases h))
            | (refine wps_cond (t := false) rfl (fun h => by cases h) (fun _ => ?_))
            | ((refine wps_skip ?_); simp only [thenQ, blockQ])
            | ((refine wps_exit ?_); simp [thenQ, blockQ])))
      repeat refine wps_seq ?_
      refine wps_ret ?_
      simp [retVal, Try.f27, oneOr, thenQ, blockQ, gotoB]
      exact ends_pure rfl (by simp [hx, hc])
    | false =>
      cases hp : preB r opn with
      | true =>
        have hroom := pre_room hp
        rw [hr] at hroom
        simp at hroom
        (repeat (first
              | (refine wps_seq ?_)
              | (refine wps_block ?_)
              | (refine wps_label ?_; simp only [thenQ, blockQ])
              | ((refine wps_region callOK ?_); simp [ofV, ofV1, mkC_P, writeVar, writeCells, readCells, allSingle, AV.single, getFs, getF, setFs, setF, Heap.get, Heap.set, Heap.new, Heap.kill, killF, pushF, Heap.ready, refs, sliceParts, fillA, replL, hlt', hsl, k11 h11 hd h2, k11 h11 hd hw, k48 h48, k49 h49, a1, a2, hc, hp])
              | (refine wps_cond (t := true) rfl (fun _ => ?_) (fun h => by cases h))
              | (refine wps_cond (t := false) rfl (fun h => by cases h) (fun _ => ?_))
              | ((refine wps_skip ?_); simp only [thenQ, blockQ])
              | ((refine wps_exit ?_); simp [thenQ, blockQ])))
        exact hB _ (1, i + 2, g) (by simp; omega) ⟨by simp, by simp; omega, by simp; omega, by simp [hx, hc, hp]⟩ ⟨[], [], ⟨rfl, rfl, rfl, by simp [fitL, fitV, pureV, pureL], FitH.nothing⟩⟩
      | false =>
        (repeat (first
              | (refine wps_seq ?_)
              | (refine wps_block ?_)
              | (refine wps_label ?_; simp only [thenQ, blockQ])
              | ((refine wps_region callOK ?_); simp [ofV, ofV1, mkC_P, writeVar, writeCells, readCells, allSingle, AV.single, getFs, getF, setFs, setF, Heap.get, Heap.set, Heap.new, Heap.kill, killF, pushF, Heap.ready, refs, sliceParts, fillA, replL, hlt', hsl, k11 h11 hd h2, k11 h11 hd hw, k48 h48, k49 h49, a1, a2, hc, hp])
              | (refine wps_cond (t := true) rfl (fun _ => ?_) (fun h => by cases h))
              | (refine wps_cond (t := false) rfl (fun h => by cases h) (fun _ => ?_))
              | ((refine wps_skip ?_); simp only [thenQ, blockQ])
              | ((refine wps_exit ?_); simp [thenQ, blockQ])))
        exact hB _ (0, i + 1, g) (by simp; omega) ⟨by simp, by simp; omega, by simp; omega, by simp [hx, hc, hp, nxt]⟩ ⟨[], [], ⟨rfl, rfl, rfl, by simp [fitL, fitV, pureV, pureL], FitH.nothing⟩⟩
  · cases hc : closesB r nm with
    | true =>
      (repeat (first
            | (refine wps_seq ?_)
            | (refine wps_block ?_)
            | (refine wps_label ?_; simp only [thenQ, blockQ])
            | ((refine wps_region callOK ?_); simp [ofV, ofV1, mkC_P, writeVar, writeCells, readCells, allSingle, AV.single, getFs, getF, setFs, setF, Heap.get, Heap.set, Heap.new, Heap.kill, killF, pushF, Heap.ready, refs, sliceParts, fillA, replL, hlt', hsl, k11 h11 hd h2, k11 h11 hd hw, k48 h48, k49 h49, a1, a2, hc])
            | (refine wps_cond (t := true) rfl (fun _ => ?_) (fun h => by cases h))
            | (refine wps_cond (t := false) rfl (fun h => by cases h) (fun _ => ?_))
            | ((refine wps_skip ?_); simp only [thenQ, blockQ])
            | ((refine wps_exit ?_); simp [thenQ, blockQ])))
      repeat refine wps_seq ?_
      refine wps_ret ?_
      simp [retVal, Try.f27, oneOr, thenQ, blockQ, gotoB]
      exact ends_pure rfl (by simp [hx, hc])
    | false =>
      cases ho : opensB r with
      | true =>
        (repeat (first
              | (refine wps_seq ?_)
              | (refine wps_block ?_)
              | (refine wps_label ?_; simp only [thenQ, blockQ])
              | ((refine wps_region callOK ?_); simp [ofV, ofV1, mkC_P, writeVar, writeCells, readCells, allSingle, AV.single, getFs, getF, setFs, setF, Heap.get, Heap.set, Heap.new, Heap.kill, killF, pushF, Heap.ready, refs, sliceParts, fillA, replL, hlt', hsl, k11 h11 hd h2, k11 h11 hd hw, k48 h48, k49 h49, a1, a2, hc, ho])
              | (refine wps_cond (t := true) rfl (fun _ => ?_) (fun h => by cases h))
              | (refine wps_cond (t := false) rfl (fun h => by cases h) (fun _ => ?_))
              | ((refine wps_skip ?_); simp only [thenQ, blockQ])
              | ((refine wps_exit ?_); simp [thenQ, blockQ])))
        exact hB _ (2, i + 1, g) (by simp; omega) ⟨by simp, by simp; omega, by simp; omega, by simp [hx, hc, ho, nxt]⟩ ⟨[], [], ⟨rfl, rfl, rfl, by simp [fitL, fitV, pureV, pureL], FitH.nothing⟩⟩
      | false =>
        cases hp : preB r end_ with
        | true =>
          (repeat (first
                | (refine wps_seq ?_)
                | (refine wps_block ?_)
                | (refine wps_label ?_; simp only [thenQ, blockQ])
                | ((refine wps_region callOK ?_); simp [ofV, ofV1, mkC_P, writeVar, writeCells, readCells, allSingle, AV.single, getFs, getF, setFs, setF, Heap.get, Heap.set, Heap.new, Heap.kill, killF, pushF, Heap.ready, refs, sliceParts, fillA, replL, hlt', hsl, k11 h11 hd h2, k11 h11 hd hw, k48 h48, k49 h49, a1, a2, hc, ho, hp])
                | (refine wps_cond (t := true) rfl (fun _ => ?_) (fun h => by cases h))
                | (refine wps_cond (t := false) rfl (fun h => by cases h) (fun _ => ?_))
                | ((refine wps_skip ?_); simp only [thenQ, blockQ])
                | ((refine wps_exit ?_); simp [thenQ, blockQ])))
          exact hB _ (0, i + 1, g) (by simp; omega) ⟨by simp, by simp; omega, by simp; omega, by simp [hx, hc, ho, hp, nxt]⟩ ⟨[], [], ⟨rfl, rfl, rfl, by simp [fitL, fitV, pureV, pureL], FitH.nothing⟩⟩
        | false =>
          (repeat (first
                | (refine wps_seq ?_)
                | (refine wps_block ?_)
                | (refine wps_label ?_; simp only [thenQ, blockQ])
                | ((refine wps_region callOK ?_); simp [ofV, ofV1, mkC_P, writeVar, writeCells, readCells, allSingle, AV.single, getFs, getF, setFs, setF, Heap.get, Heap.set, Heap.new, Heap.kill, killF, pushF, Heap.ready, refs, sliceParts, fillA, replL, hlt', hsl, k11 h11 hd h2, k11 h11 hd hw, k48 h48, k49 h49, a1, a2, hc, ho, hp])
                | (refine wps_cond (t := true) rfl (fun _ => ?_) (fun h => by cases h))
                | (refine wps_cond (t := false) rfl (fun h => by cases h) (fun _ => ?_))
                | ((refine wps_skip ?_); simp only [thenQ, blockQ])
                | ((refine wps_exit ?_); simp [thenQ, blockQ])))
          exact hB _ (1, i + 1, g) (by simp; omega) ⟨by simp, by simp; omega, by simp; omega, by simp [hx, hc, ho, hp, nxt]⟩ ⟨[], [], ⟨rfl, rfl, rfl, by simp [fitL, fitV, pureV, pureL], FitH.nothing⟩⟩
  · cases hc : closesB r scrW with
    | true =>
      (repeat (first
            | (refine wps_seq ?_)
            | (refine wps_block ?_)
            | (refine wps_label ?_; simp only [thenQ, blockQ])
            | ((refine wps_region callOK ?_); simp [ofV, ofV1, mkC_P, writeVar, writeCells, readCells, allSingle, AV.single, getFs, getF, setFs, setF, Heap.get, Heap.set, Heap.new, Heap.kill, killF, pushF, Heap.ready, refs, sliceParts, fillA, replL, hlt', hsl, k11 h11 hd h2, k11 h11 hd hw, k48 h48, k49 h49, a1, a2, hc])
            | (refine wps_cond (t := true) rfl (fun _ => ?_) (fun h => by cases h))
            | (refine wps_cond (t := false) rfl (fun h => by cases h) (fun _ => ?_))
            | ((refine wps_skip ?_); simp only [thenQ, blockQ])
            | ((refine wps_exit ?_); simp [thenQ, blockQ])))
      exact hB _ (1, i + 1, g) (by simp; omega) ⟨by simp, by simp; omega, by simp; omega, by simp [hx, hc, nxt]⟩ ⟨[], [], ⟨rfl, rfl, rfl, by simp [fitL, fitV, pureV, pureL], FitH.nothing⟩⟩
    | false =>
      cases hp : preB r end_ with
      | true =>
        (repeat (first
              | (refine wps_seq ?_)
              | (refine wps_block ?_)
              | (refine wps_label ?_; simp only [thenQ, blockQ])
              | ((refine wps_region callOK ?_); simp [ofV, ofV1, mkC_P, writeVar, writeCells, readCells, allSingle, AV.single, getFs, getF, setFs, setF, Heap.get, Heap.set, Heap.new, Heap.kill, killF, pushF, Heap.ready, refs, sliceParts, fillA, replL, hlt', hsl, k11 h11 hd h2, k11 h11 hd hw, k48 h48, k49 h49, a1, a2, hc, hp])
              | (refine wps_cond (t := true) rfl (fun _ => ?_) (fun h => by cases h))
              | (refine wps_cond (t := false) rfl (fun h => by cases h) (fun _ => ?_))
              | ((refine wps_skip ?_); simp only [thenQ, blockQ])
              | ((refine wps_exit ?_); simp [thenQ, blockQ])))
        exact hB _ (0, i + 1, g) (by simp; omega) ⟨by simp, by simp; omega, by simp; omega, by simp [hx, hc, hp, nxt]⟩ ⟨[], [], ⟨rfl, rfl, rfl, by simp [fitL, fitV, pureV, pureL], FitH.nothing⟩⟩
      | false =>
        (repeat (first
              | (refine wps_seq ?_)
              | (refine wps_block ?_)
              | (refine wps_label ?_; simp only [thenQ, blockQ])
              | ((refine wps_region callOK ?_); simp [ofV, ofV1, mkC_P, writeVar, writeCells, readCells, allSingle, AV.single, getFs, getF, setFs, setF, Heap.get, Heap.set, Heap.new, Heap.kill, killF, pushF, Heap.ready, refs, sliceParts, fillA, replL, hlt', hsl, k11 h11 hd h2, k11 h11 hd hw, k48 h48, k49 h49, a1, a2, hc, hp])
              | (refine wps_cond (t := true) rfl (fun _ => ?_) (fun h => by cases h))
              | (refine wps_cond (t := false) rfl (fun h => by cases h) (fun _ => ?_))
              | ((refine wps_skip ?_); simp only [thenQ, blockQ])
              | ((refine wps_exit ?_); simp [thenQ, blockQ])))
        exact hB _ (2, i + 1, g) (by simp; omega) ⟨by simp, by simp; omega, by simp; omega, by simp [hx, hc, hp, nxt]⟩ ⟨[], [], ⟨rfl, rfl, rfl, by simp [fitL, fitV, pureV, pureL], FitH.nothing⟩⟩
end Go.Proofs.Ytpkplilgjdbhhaa
