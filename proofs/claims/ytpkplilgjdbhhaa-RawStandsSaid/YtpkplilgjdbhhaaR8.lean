/- Where a script ends, by the program. No condition. -/
import Derived.Test.YtpkplilgjdbhhaaR7
namespace Go.Proofs.Ytpkplilgjdbhhaa
set_option linter.unusedSimpArgs false
set_option linter.unusedVariables false
open Go Go.RowKit
set_option maxRecDepth 100000

theorem c26 {T : List (Entry Try.prog)} (h45 : findE 45 T = some e45.g) (h46 : findE 46 T = some e46.g) (h47 : findE 47 T = some e47.g) (s nm : Str) (h1 : s.length ≤ 1000000) (h2 : nm.length ≤ 1000000) : CallAt (ctx T) 26 [.str s, .str nm] ⟨0, []⟩ (.int .i64 (scr nm s)) ⟨0, []⟩ := by
  refine callAt_body (fn := Try.f26) (s0 := ⟨[0, 1, 4, 5], [.str s, .str nm, .undef, .undef], [], 77, ⟨0, [[]]⟩⟩) Try.func26 rfl rfl rfl ?_
  repeat refine wps_seq ?_
  refine wps_region callOK ?_
  simp [ofV, ofV1, mkC_P, writeVar, writeCells, readCells, allSingle, AV.single, getFs, getF, setFs, setF, Heap.get, Heap.set, Heap.new, Heap.kill, killF, pushF, Heap.ready, refs, sliceParts, fillA, replL]
  have hw : scrW.length ≤ 1000000 := by decide
  repeat refine wps_seq ?_
  refine wps_scopeL (fun x : Nat × Nat × Nat => (⟨[0, 1, 4, 5], [.str s, .str nm, .undef, .int .i64 x.2.1], [], 77, ⟨0, [[]]⟩⟩ : St))
    (fun x => x.1 ≤ 2 ∧ x.2.1 ≤ s.length ∧ s.length - x.2.1 < x.2.2 ∧ scr nm s = sc nm s x.2.2 x.1 x.2.1) (fun x => s.length - x.2.1) (s.length + 1) (fun x => x.1) (fun B hB => ?_) (fun x rest hx hfind B hB => ?_)
  · refine wps_seq ?_
    repeat refine wps_seq ?_
    refine wps_region callOK ?_
    simp [ofV, ofV1, mkC_P, writeVar, writeCells, readCells, allSingle, AV.single, getFs, getF, setFs, setF, Heap.get, Heap.set, Heap.new, Heap.kill, killF, pushF, Heap.ready, refs, sliceParts, fillA, replL]
    obtain ⟨i, hi0⟩ : ∃ i : Nat, i = 0 := ⟨0, rfl⟩
    repeat refine wps_seq ?_
    refine .fit (s' := (⟨[0, 1, 4, 5], [.str s, .str nm, .undef, .int .i64 (i : Int)], [], 77, ⟨0, [[]]⟩⟩ : St)) [] [] (by subst hi0; exact ⟨rfl, rfl, rfl, by simp [fitL, fitV, pureV, pureL], FitH.nothing⟩) ?_
    have hi : i ≤ s.length := by omega
    have hx : scr nm s = sc nm s (s.length + 1) 0 i := by rw [hi0]; rfl
    obtain ⟨f, hfe⟩ : ∃ f, f = s.length + 1 := ⟨_, rfl⟩
    rw [← hfe] at hx
    have hf : s.length - i < f := by omega
    have hB' : ∀ s' (y : Nat × Nat × Nat), i < y.2.1 → y.2.1 ≤ s.length → y.1 ≤ 2 → s.length - y.2.1 < y.2.2 → scr nm s = sc nm s y.2.2 y.1 y.2.1 → (∃ σ Φ, Fit 0 σ Φ s' ((⟨[0, 1, 4, 5], [.str s, .str nm, .undef, .int .i64 y.2.1], [], 77, ⟨0, [[]]⟩⟩ : St))) → B y.1 s' := fun s' y q1 q2 q3 q4 q5 q6 => hB s' y (by omega) ⟨q3, q2, q4, q5⟩ q6
    by_cases hlt : i < s.length
    rotate_left
    · have hge : (s.length : Int) ≤ (i : Int) := by omega
      (repeat (first
            | (refine wps_seq ?_)
            | (refine wps_block ?_)
            | (refine wps_label ?_; simp only [thenQ, blockQ])
            | ((refine wps_region callOK ?_); simp [ofV, ofV1, mkC_P, writeVar, writeCells, readCells, allSingle, AV.single, getFs, getF, setFs, setF, Heap.get, Heap.set, Heap.new, Heap.kill, killF, pushF, Heap.ready, refs, sliceParts, fillA, replL, hge])
            | (refine wps_cond (t := true) rfl (fun _ => ?_) (fun h => by cases h))
            | (refine wps_cond (t := false) rfl (fun h => by cases h) (fun _ => ?_))
            | ((refine wps_skip ?_); simp only [thenQ, blockQ])
            | ((refine wps_exit ?_); simp [thenQ, blockQ])))
      repeat refine wps_seq ?_
      refine wps_ret ?_
      simp [retVal, Try.f26, oneOr, thenQ, blockQ, gotoB]
      exact ends_pure rfl (by rw [hx, sc_end (by omega), show i = s.length by omega])
    have hlt' : ¬ (s.length : Int) ≤ (i : Int) := by omega
    have hd : (s.drop i).length ≤ 1000000 := by simp; omega
    obtain ⟨g, rfl⟩ : ∃ g, f = g + 1 := ⟨f - 1, by omega⟩
    rw [sc_at hlt] at hx
    obtain ⟨r, hr⟩ : ∃ r, r = s.drop i := ⟨_, rfl⟩
    have hsl := slStr (H := ⟨0, [[]]⟩) hi
    rw [← hr] at hx hd hsl
    have a1 : wr .i64 ((i : Int) + 1) = some ((i + 1 : Nat) : Int) := add_one (by omega)
    have a2 : wr .i64 ((i : Int) + 2) = some ((i + 2 : Nat) : Int) := add_nat (k := 2) (by omega)
    cases hc : closesB r nm with
    | true =>
      (repeat (first
            | (refine wps_seq ?_)
            | (refine wps_block ?_)
            | (refine wps_label ?_; simp only [thenQ, blockQ])
            | ((refine wps_region callOK ?_); simp [ofV, ofV1, mkC_P, writeVar, writeCells, readCells, allSingle, AV.single, getFs, getF, setFs, setF, Heap.get, Heap.set, Heap.new, Heap.kill, killF, pushF, Heap.ready, refs, sliceParts, fillA, replL, hlt', hsl, k45 h45 hd h2, k45 h45 hd hw, k46 h46, k47 h47, a1, a2, hc])
            | (refine wps_cond (t := true) rfl (fun _ => ?_) (fun h => by cases h))
            | (refine wps_cond (t := false) rfl (fun h => by cases h) (fun _ => ?_))
            | ((refine wps_skip ?_); simp only [thenQ, blockQ])
            | ((refine wps_exit ?_); simp [thenQ, blockQ])))
      repeat refine wps_seq ?_
      refine wps_ret ?_
      simp [retVal, Try.f26, oneOr, thenQ, blockQ, gotoB]
      exact ends_pure rfl (by simp [hx, hc])
    | false =>
      cases hp : preB r opn with
      | true =>
        have hroom := pre_room hp
        rw [hr] at hroom
        simp at hroom
        (repeat (first
              | (refine wps_seq ?_)
              | (refine wps_block ?_)
              | (refine wps_label ?_; simp only [thenQ, blockQ])
              | ((refine wps_region callOK ?_); simp [ofV, ofV1, mkC_P, writeVar, writeCells, readCells, allSingle, AV.single, getFs, getF, setFs, setF, Heap.get, Heap.set, Heap.new, Heap.kill, killF, pushF, Heap.ready, refs, sliceParts, fillA, replL, hlt', hsl, k45 h45 hd h2, k45 h45 hd hw, k46 h46, k47 h47, a1, a2, hc, hp])
              | (refine wps_cond (t := true) rfl (fun _ => ?_) (fun h => by cases h))
              | (refine wps_cond (t := false) rfl (fun h => by cases h) (fun _ => ?_))
              | ((refine wps_skip ?_); simp only [thenQ, blockQ])
              | ((refine wps_exit ?_); simp [thenQ, blockQ])))
        repeat refine wps_seq ?_
        refine wps_goto ?_
        exact (show (findLabel _ _).isSome = true ∧ _ from ⟨rfl, hB' _ (1, i + 2, g) (by simp) (by simp; omega) (by simp) (by simp; omega) (by simp [hx, hc, hp]) ⟨[], [], ⟨rfl, rfl, rfl, by simp [fitL, fitV, pureV, pureL], FitH.nothing⟩⟩⟩)
      | false =>
        (repeat (first
              | (refine wps_seq ?_)
              | (refine wps_block ?_)
              | (refine wps_label ?_; simp only [thenQ, blockQ])
              | ((refine wps_region callOK ?_); simp [ofV, ofV1, mkC_P, writeVar, writeCells, readCells, allSingle, AV.single, getFs, getF, setFs, setF, Heap.get, Heap.set, Heap.new, Heap.kill, killF, pushF, Heap.ready, refs, sliceParts, fillA, replL, hlt', hsl, k45 h45 hd h2, k45 h45 hd hw, k46 h46, k47 h47, a1, a2, hc, hp])
              | (refine wps_cond (t := true) rfl (fun _ => ?_) (fun h => by cases h))
              | (refine wps_cond (t := false) rfl (fun h => by cases h) (fun _ => ?_))
              | ((refine wps_skip ?_); simp only [thenQ, blockQ])
              | ((refine wps_exit ?_); simp [thenQ, blockQ])))
        repeat refine wps_seq ?_
        refine wps_goto ?_
        exact (show (findLabel _ _).isSome = true ∧ _ from ⟨rfl, hB' _ (0, i + 1, g) (by simp) (by simp; omega) (by simp) (by simp; omega) (by simp [hx, hc, hp, nxt]) ⟨[], [], ⟨rfl, rfl, rfl, by simp [fitL, fitV, pureV, pureL], FitH.nothing⟩⟩⟩)
  · obtain ⟨md, i, f⟩ := x
    obtain ⟨hmd, hi, hf, hx⟩ := hx
    simp only at hmd hi hf hx hfind hB ⊢
    have hB' : ∀ s' (y : Nat × Nat × Nat), i < y.2.1 → y.2.1 ≤ s.length → y.1 ≤ 2 → s.length - y.2.1 < y.2.2 → scr nm s = sc nm s y.2.2 y.1 y.2.1 → (∃ σ Φ, Fit 0 σ Φ s' ((⟨[0, 1, 4, 5], [.str s, .str nm, .undef, .int .i64 y.2.1], [], 77, ⟨0, [[]]⟩⟩ : St))) → B y.1 s' := fun s' y q1 q2 q3 q4 q5 q6 => hB s' y (by omega) ⟨q3, q2, q4, q5⟩ q6
    rcases (by omega : md = 0 ∨ md = 1 ∨ md = 2) with rfl | rfl | rfl
    · obtain rfl := Option.some.inj hfind
      by_cases hlt : i < s.length
      rotate_left
      · have hge : (s.length : Int) ≤ (i : Int) := by omega
        (repeat (first
              | (refine wps_seq ?_)
              | (refine wps_block ?_)
              | (refine wps_label ?_; simp only [thenQ, blockQ])
              | ((refine wps_region callOK ?_); simp [ofV, ofV1, mkC_P, writeVar, writeCells, readCells, allSingle, AV.single, getFs, getF, setFs, setF, Heap.get, Heap.set, Heap.new, Heap.kill, killF, pushF, Heap.ready, refs, sliceParts, fillA, replL, hge])
              | (refine wps_cond (t := true) rfl (fun _ => ?_) (fun h => by cases h))
              | (refine wps_cond (t := false) rfl (fun h => by cases h) (fun _ => ?_))
              | ((refine wps_skip ?_); simp only [thenQ, blockQ])
              | ((refine wps_exit ?_); simp [thenQ, blockQ])))
        repeat refine wps_seq ?_
        refine wps_ret ?_
        simp [retVal, Try.f26, oneOr, thenQ, blockQ, gotoB]
        exact ends_pure rfl (by rw [hx, sc_end (by omega), show i = s.length by omega])
      have hlt' : ¬ (s.length : Int) ≤ (i : Int) := by omega
      have hd : (s.drop i).length ≤ 1000000 := by simp; omega
      obtain ⟨g, rfl⟩ : ∃ g, f = g + 1 := ⟨f - 1, by omega⟩
      rw [sc_at hlt] at hx
      obtain ⟨r, hr⟩ : ∃ r, r = s.drop i := ⟨_, rfl⟩
      have hsl := slStr (H := ⟨0, [[]]⟩) hi
      rw [← hr] at hx hd hsl
      have a1 : wr .i64 ((i : Int) + 1) = some ((i + 1 : Nat) : Int) := add_one (by omega)
      have a2 : wr .i64 ((i : Int) + 2) = some ((i + 2 : Nat) : Int) := add_nat (k := 2) (by omega)
      cases hc : closesB r nm with
      | true =>
        (repeat (first
              | (refine wps_seq ?_)
              | (refine wps_block ?_)
              | (refine wps_label ?_; simp only [thenQ, blockQ])
              | ((refine wps_region callOK ?_); simp [ofV, ofV1, mkC_P, writeVar, writeCells, readCells, allSingle, AV.single, getFs, getF, setFs, setF, Heap.get, Heap.set, Heap.new, Heap.kill, killF, pushF, Heap.ready, refs, sliceParts, fillA, replL, hlt', hsl, k45 h45 hd h2, k45 h45 hd hw, k46 h46, k47 h47, a1, a2, hc])
              | (refine wps_cond (t := true) rfl (fun _ => ?_) (fun h => by cases h))
              | (refine wps_cond (t := false) rfl (fun h => by cases h) (fun _ => ?_))
              | ((refine wps_skip ?_); simp only [thenQ, blockQ])
              | ((refine wps_exit ?_); simp [thenQ, blockQ])))
        repeat refine wps_seq ?_
        refine wps_ret ?_
        simp [retVal, Try.f26, oneOr, thenQ, blockQ, gotoB]
        exact ends_pure rfl (by simp [hx, hc])
      | false =>
        cases hp : preB r opn with
        | true =>
          have hroom := pre_room hp
          rw [hr] at hroom
          simp at hroom
          (repeat (first
                | (refine wps_seq ?_)
                | (refine wps_block ?_)
                | (refine wps_label ?_; simp only [thenQ, blockQ])
                | ((refine wps_region callOK ?_); simp [ofV, ofV1, mkC_P, writeVar, writeCells, readCells, allSingle, AV.single, getFs, getF, setFs, setF, Heap.get, Heap.set, Heap.new, Heap.kill, killF, pushF, Heap.ready, refs, sliceParts, fillA, replL, hlt', hsl, k45 h45 hd h2, k45 h45 hd hw, k46 h46, k47 h47, a1, a2, hc, hp])
                | (refine wps_cond (t := true) rfl (fun _ => ?_) (fun h => by cases h))
                | (refine wps_cond (t := false) rfl (fun h => by cases h) (fun _ => ?_))
                | ((refine wps_skip ?_); simp only [thenQ, blockQ])
                | ((refine wps_exit ?_); simp [thenQ, blockQ])))
          repeat refine wps_seq ?_
          refine wps_goto ?_
          exact (show (findLabel _ _).isSome = true ∧ _ from ⟨rfl, hB' _ (1, i + 2, g) (by simp) (by simp; omega) (by simp) (by simp; omega) (by simp [hx, hc, hp]) ⟨[], [], ⟨rfl, rfl, rfl, by simp [fitL, fitV, pureV, pureL], FitH.nothing⟩⟩⟩)
        | false =>
          (repeat (first
                | (refine wps_seq ?_)
                | (refine wps_block ?_)
                | (refine wps_label ?_; simp only [thenQ, blockQ])
                | ((refine wps_region callOK ?_); simp [ofV, ofV1, mkC_P, writeVar, writeCells, readCells, allSingle, AV.single, getFs, getF, setFs, setF, Heap.get, Heap.set, Heap.new, Heap.kill, killF, pushF, Heap.ready, refs, sliceParts, fillA, replL, hlt', hsl, k45 h45 hd h2, k45 h45 hd hw, k46 h46, k47 h47, a1, a2, hc, hp])
                | (refine wps_cond (t := true) rfl (fun _ => ?_) (fun h => by cases h))
                | (refine wps_cond (t := false) rfl (fun h => by cases h) (fun _ => ?_))
                | ((refine wps_skip ?_); simp only [thenQ, blockQ])
                | ((refine wps_exit ?_); simp [thenQ, blockQ])))
          repeat refine wps_seq ?_
          refine wps_goto ?_
          exact (show (findLabel _ _).isSome = true ∧ _ from ⟨rfl, hB' _ (0, i + 1, g) (by simp) (by simp; omega) (by simp) (by simp; omega) (by simp [hx, hc, hp, nxt]) ⟨[], [], ⟨rfl, rfl, rfl, by simp [fitL, fitV, pureV, pureL], FitH.nothing⟩⟩⟩)
    · obtain rfl := Option.some.inj hfind
      by_cases hlt : i < s.length
      rotate_left
      · have hge : (s.length : Int) ≤ (i : Int) := by omega
        (repeat (first
              | (refine wps_seq ?_)
              | (refine wps_block ?_)
              | (refine wps_label ?_; simp only [thenQ, blockQ])
              | ((refine wps_region callOK ?_); simp [ofV, ofV1, mkC_P, writeVar, writeCells, readCells, allSingle, AV.single, getFs, getF, setFs, setF, Heap.get, Heap.set, Heap.new, Heap.kill, killF, pushF, Heap.ready, refs, sliceParts, fillA, replL, hge])
              | (refine wps_cond (t := true) rfl (fun _ => ?_) (fun h => by cases h))
              | (refine wps_cond (t := false) rfl (fun h => by cases h) (fun _ => ?_))
              | ((refine wps_skip ?_); simp only [thenQ, blockQ])
              | ((refine wps_exit ?_); simp [thenQ, blockQ])))
        repeat refine wps_seq ?_
        refine wps_ret ?_
        simp [retVal, Try.f26, oneOr, thenQ, blockQ, gotoB]
        exact ends_pure rfl (by rw [hx, sc_end (by omega), show i = s.length by omega])
      have hlt' : ¬ (s.length : Int) ≤ (i : Int) := by omega
      have hd : (s.drop i).length ≤ 1000000 := by simp; omega
      obtain ⟨g, rfl⟩ : ∃ g, f = g + 1 := ⟨f - 1, by omega⟩
      rw [sc_at hlt] at hx
      obtain ⟨r, hr⟩ : ∃ r, r = s.drop i := ⟨_, rfl⟩
      have hsl := slStr (H := ⟨0, [[]]⟩) hi
      rw [← hr] at hx hd hsl
      have a1 : wr .i64 ((i : Int) + 1) = some ((i + 1 : Nat) : Int) := add_one (by omega)
      have a2 : wr .i64 ((i : Int) + 2) = some ((i + 2 : Nat) : Int) := add_nat (k := 2) (by omega)
      cases hc : closesB r nm with
      | true =>
        (repeat (first
              | (refine wps_seq ?_)
              | (refine wps_block ?_)
              | (refine wps_label ?_; simp only [thenQ, blockQ])
              | ((refine wps_region callOK ?_); simp [ofV, ofV1, mkC_P, writeVar, writeCells, readCells, allSingle, AV.single, getFs, getF, setFs, setF, Heap.get, Heap.set, Heap.new, Heap.kill, killF, pushF, Heap.ready, refs, sliceParts, fillA, replL, hlt', hsl, k45 h45 hd h2, k45 h45 hd hw, k46 h46, k47 h47, a1, a2, hc])
              | (refine wps_cond (t := true) rfl (fun _ => ?_) (fun h => by cases h))
              | (refine wps_cond (t := false) rfl (fun h => by cases h) (fun _ => ?_))
              | ((refine wps_skip ?_); simp only [thenQ, blockQ])
              | ((refine wps_exit ?_); simp [thenQ, blockQ])))
        repeat refine wps_seq ?_
        refine wps_ret ?_
        simp [retVal, Try.f26, oneOr, thenQ, blockQ, gotoB]
        exact ends_pure rfl (by simp [hx, hc])
      | false =>
        cases ho : opensB r with
        | true =>
          (repeat (first
                | (refine wps_seq ?_)
                | (refine wps_block ?_)
                | (refine wps_label ?_; simp only [thenQ, blockQ])
                | ((refine wps_region callOK ?_); simp [ofV, ofV1, mkC_P, writeVar, writeCells, readCells, allSingle, AV.single, getFs, getF, setFs, setF, Heap.get, Heap.set, Heap.new, Heap.kill, killF, pushF, Heap.ready, refs, sliceParts, fillA, replL, hlt', hsl, k45 h45 hd h2, k45 h45 hd hw, k46 h46, k47 h47, a1, a2, hc, ho])
                | (refine wps_cond (t := true) rfl (fun _ => ?_) (fun h => by cases h))
                | (refine wps_cond (t := false) rfl (fun h => by cases h) (fun _ => ?_))
                | ((refine wps_skip ?_); simp only [thenQ, blockQ])
                | ((refine wps_exit ?_); simp [thenQ, blockQ])))
          repeat refine wps_seq ?_
          refine wps_goto ?_
          exact (show (findLabel _ _).isSome = true ∧ _ from ⟨rfl, hB' _ (2, i + 1, g) (by simp) (by simp; omega) (by simp) (by simp; omega) (by simp [hx, hc, ho, nxt]) ⟨[], [], ⟨rfl, rfl, rfl, by simp [fitL, fitV, pureV, pureL], FitH.nothing⟩⟩⟩)
        | false =>
          cases hp : preB r end_ with
          | true =>
            (repeat (first
                  | (refine wps_seq ?_)
                  | (refine wps_block ?_)
                  | (refine wps_label ?_; simp only [thenQ, blockQ])
                  | ((refine wps_region callOK ?_); simp [ofV, ofV1, mkC_P, writeVar, writeCells, readCells, allSingle, AV.single, getFs, getF, setFs, setF, Heap.get, Heap.set, Heap.new, Heap.kill, killF, pushF, Heap.ready, refs, sliceParts, fillA, replL, hlt', hsl, k45 h45 hd h2, k45 h45 hd hw, k46 h46, k47 h47, a1, a2, hc, ho, hp])
                  | (refine wps_cond (t := true) rfl (fun _ => ?_) (fun h => by cases h))
                  | (refine wps_cond (t := false) rfl (fun h => by cases h) (fun _ => ?_))
                  | ((refine wps_skip ?_); simp only [thenQ, blockQ])
                  | ((refine wps_exit ?_); simp [thenQ, blockQ])))
            repeat refine wps_seq ?_
            refine wps_goto ?_
            exact (show (findLabel _ _).isSome = true ∧ _ from ⟨rfl, hB' _ (0, i + 1, g) (by simp) (by simp; omega) (by simp) (by simp; omega) (by simp [hx, hc, ho, hp, nxt]) ⟨[], [], ⟨rfl, rfl, rfl, by simp [fitL, fitV, pureV, pureL], FitH.nothing⟩⟩⟩)
          | false =>
            (repeat (first
                  | (refine wps_seq ?_)
                  | (refine wps_block ?_)
                  | (refine wps_label ?_; simp only [thenQ, blockQ])
                  | ((refine wps_region callOK ?_); simp [ofV, ofV1, mkC_P, writeVar, writeCells, readCells, allSingle, AV.single, getFs, getF, setFs, setF, Heap.get, Heap.set, Heap.new, Heap.kill, killF, pushF, Heap.ready, refs, sliceParts, fillA, replL, hlt', hsl, k45 h45 hd h2, k45 h45 hd hw, k46 h46, k47 h47, a1, a2, hc, ho, hp])
                  | (refine wps_cond (t := true) rfl (fun _ => ?_) (fun h => by cases h))
                  | (refine wps_cond (t := false) rfl (fun h => by cases h) (fun _ => ?_))
                  | ((refine wps_skip ?_); simp only [thenQ, blockQ])
                  | ((refine wps_exit ?_); simp [thenQ, blockQ])))
            repeat refine wps_seq ?_
            refine wps_goto ?_
            exact (show (findLabel _ _).isSome = true ∧ _ from ⟨rfl, hB' _ (1, i + 1, g) (by simp) (by simp; omega) (by simp) (by simp; omega) (by simp [hx, hc, ho, hp, nxt]) ⟨[], [], ⟨rfl, rfl, rfl, by simp [fitL, fitV, pureV, pureL], FitH.nothing⟩⟩⟩)
    · obtain rfl := Option.some.inj hfind
      by_cases hlt : i < s.length
      rotate_left
      · have hge : (s.length : Int) ≤ (i : Int) := by omega
        (repeat (first
              | (refine wps_seq ?_)
              | (refine wps_block ?_)
              | (refine wps_label ?_; simp only [thenQ, blockQ])
              | ((refine wps_region callOK ?_); simp [ofV, ofV1, mkC_P, writeVar, writeCells, readCells, allSingle, AV.single, getFs, getF, setFs, setF, Heap.get, Heap.set, Heap.new, Heap.kill, killF, pushF, Heap.ready, refs, sliceParts, fillA, replL, hge])
              | (refine wps_cond (t := true) rfl (fun _ => ?_) (fun h => by cases h))
              | (refine wps_cond (t := false) rfl (fun h => by cases h) (fun _ => ?_))
              | ((refine wps_skip ?_); simp only [thenQ, blockQ])
              | ((refine wps_exit ?_); simp [thenQ, blockQ])))
        repeat refine wps_seq ?_
        refine wps_ret ?_
        simp [retVal, Try.f26, oneOr, thenQ, blockQ, gotoB]
        exact ends_pure rfl (by rw [hx, sc_end (by omega), show i = s.length by omega])
      have hlt' : ¬ (s.length : Int) ≤ (i : Int) := by omega
      have hd : (s.drop i).length ≤ 1000000 := by simp; omega
      obtain ⟨g, rfl⟩ : ∃ g, f = g + 1 := ⟨f - 1, by omega⟩
      rw [sc_at hlt] at hx
      obtain ⟨r, hr⟩ : ∃ r, r = s.drop i := ⟨_, rfl⟩
      have hsl := slStr (H := ⟨0, [[]]⟩) hi
      rw [← hr] at hx hd hsl
      have a1 : wr .i64 ((i : Int) + 1) = some ((i + 1 : Nat) : Int) := add_one (by omega)
      have a2 : wr .i64 ((i : Int) + 2) = some ((i + 2 : Nat) : Int) := add_nat (k := 2) (by omega)
      cases hc : closesB r scrW with
      | true =>
        (repeat (first
              | (refine wps_seq ?_)
              | (refine wps_block ?_)
              | (refine wps_label ?_; simp only [thenQ, blockQ])
              | ((refine wps_region callOK ?_); simp [ofV, ofV1, mkC_P, writeVar, writeCells, readCells, allSingle, AV.single, getFs, getF, setFs, setF, Heap.get, Heap.set, Heap.new, Heap.kill, killF, pushF, Heap.ready, refs, sliceParts, fillA, replL, hlt', hsl, k45 h45 hd h2, k45 h45 hd hw, k46 h46, k47 h47, a1, a2, hc])
              | (refine wps_cond (t := true) rfl (fun _ => ?_) (fun h => by cases h))
              | (refine wps_cond (t := false) rfl (fun h => by cases h) (fun _ => ?_))
              | ((refine wps_skip ?_); simp only [thenQ, blockQ])
              | ((refine wps_exit ?_); simp [thenQ, blockQ])))
        repeat refine wps_seq ?_
        refine wps_goto ?_
        exact (show (findLabel _ _).isSome = true ∧ _ from ⟨rfl, hB' _ (1, i + 1, g) (by simp) (by simp; omega) (by simp) (by simp; omega) (by simp [hx, hc, nxt]) ⟨[], [], ⟨rfl, rfl, rfl, by simp [fitL, fitV, pureV, pureL], FitH.nothing⟩⟩⟩)
      | false =>
        cases hp : preB r end_ with
        | true =>
          (repeat (first
                | (refine wps_seq ?_)
                | (refine wps_block ?_)
                | (refine wps_label ?_; simp only [thenQ, blockQ])
                | ((refine wps_region callOK ?_); simp [ofV, ofV1, mkC_P, writeVar, writeCells, readCells, allSingle, AV.single, getFs, getF, setFs, setF, Heap.get, Heap.set, Heap.new, Heap.kill, killF, pushF, Heap.ready, refs, sliceParts, fillA, replL, hlt', hsl, k45 h45 hd h2, k45 h45 hd hw, k46 h46, k47 h47, a1, a2, hc, hp])
                | (refine wps_cond (t := true) rfl (fun _ => ?_) (fun h => by cases h))
                | (refine wps_cond (t := false) rfl (fun h => by cases h) (fun _ => ?_))
                | ((refine wps_skip ?_); simp only [thenQ, blockQ])
                | ((refine wps_exit ?_); simp [thenQ, blockQ])))
          repeat refine wps_seq ?_
          refine wps_goto ?_
          exact (show (findLabel _ _).isSome = true ∧ _ from ⟨rfl, hB' _ (0, i + 1, g) (by simp) (by simp; omega) (by simp) (by simp; omega) (by simp [hx, hc, hp, nxt]) ⟨[], [], ⟨rfl, rfl, rfl, by simp [fitL, fitV, pureV, pureL], FitH.nothing⟩⟩⟩)
        | false =>
          (repeat (first
                | (refine wps_seq ?_)
                | (refine wps_block ?_)
                | (refine wps_label ?_; simp only [thenQ, blockQ])
                | ((refine wps_region callOK ?_); simp [ofV, ofV1, mkC_P, writeVar, writeCells, readCells, allSingle, AV.single, getFs, getF, setFs, setF, Heap.get, Heap.set, Heap.new, Heap.kill, killF, pushF, Heap.ready, refs, sliceParts, fillA, replL, hlt', hsl, k45 h45 hd h2, k45 h45 hd hw, k46 h46, k47 h47, a1, a2, hc, hp])
                | (refine wps_cond (t := true) rfl (fun _ => ?_) (fun h => by cases h))
                | (refine wps_cond (t := false) rfl (fun h => by cases h) (fun _ => ?_))
                | ((refine wps_skip ?_); simp only [thenQ, blockQ])
                | ((refine wps_exit ?_); simp [thenQ, blockQ])))
          repeat refine wps_seq ?_
          refine wps_goto ?_
          exact (show (findLabel _ _).isSome = true ∧ _ from ⟨rfl, hB' _ (2, i + 1, g) (by simp) (by simp; omega) (by simp) (by simp; omega) (by simp [hx, hc, hp, nxt]) ⟨[], [], ⟨rfl, rfl, rfl, by simp [fitL, fitV, pureV, pureL], FitH.nothing⟩⟩⟩)
end Go.Proofs.Ytpkplilgjdbhhaa
