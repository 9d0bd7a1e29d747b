/- The laws' bodies. No condition. -/
import Derived.Test.YtpkplilgjdbhhaaR9g
namespace Go.Proofs.Ytpkplilgjdbhhaa
set_option linter.unusedSimpArgs false
set_option linter.unusedVariables false
open Go Go.RowKit
set_option maxRecDepth 100000

theorem inj_find (x y : Str × Str × Int) (h : [AV.str x.1, AV.str x.2.1, AV.int .i64 x.2.2] = [AV.str y.1, AV.str y.2.1, AV.int .i64 y.2.2]) : x = y := by
  simp at h; exact Prod.ext h.1 (Prod.ext h.2.1 h.2.2)
noncomputable def e9 : Entry Try.prog := mkE 9 [[], [], []] (fun x : Str × Str × Int => [.str x.1, .str x.2.1, .int .i64 x.2.2]) (fun x => x.1.length ≤ 1000000 ∧ x.2.1.length ≤ 1000000) (fun x => .int .i64 (findS x.1 x.2.1 x.2.2)) fun x h => c9 (T := [e25, e26]) rfl rfl x.1 x.2.1 x.2.2 h.1 h.2
theorem k9 {T : List (Entry Try.prog)} (hT : findE 9 T = some e9.g) {s t : Str} (h1 : s.length ≤ 1000000) (h2 : t.length ≤ 1000000) (st : Int) (H : Heap) : callL (ctx T) 9 [.str s, .str t, .int .i64 st] H = some (.int .i64 (findS s t st), H) :=
  mkE_scalar hT inj_find (s, t, st) ⟨h1, h2⟩ rfl (by simp)
noncomputable def e10 : Entry Try.prog := mkE 10 [[], [], []] (fun x : Str × Str × Int => [.str x.1, .str x.2.1, .int .i64 x.2.2]) (fun x => x.1.length ≤ 1000000 ∧ x.2.1.length ≤ 1000000) (fun x => .int .i64 (findS x.1 x.2.1 x.2.2)) fun x h => c10 (T := [e11, e27]) rfl rfl x.1 x.2.1 x.2.2 h.1 h.2
theorem k10 {T : List (Entry Try.prog)} (hT : findE 10 T = some e10.g) {s t : Str} (h1 : s.length ≤ 1000000) (h2 : t.length ≤ 1000000) (st : Int) (H : Heap) : callL (ctx T) 10 [.str s, .str t, .int .i64 st] H = some (.int .i64 (findS s t st), H) :=
  mkE_scalar hT inj_find (s, t, st) ⟨h1, h2⟩ rfl (by simp)
theorem c8 {T : List (Entry Try.prog)} (h9 : findE 9 T = some e9.g) : CallAt (ctx T) 8 [] ⟨0, []⟩ (.bool true) ⟨0, []⟩ := by
  refine callAt_body (fn := Try.f8) (s0 := ⟨[0], [.undef], [], 15, ⟨0, [[]]⟩⟩) Try.func8 rfl rfl rfl ?_
  have w1 := k9 h9 (s := [97, 60, 47, 98, 60, 47, 112, 62]) (t := [112]) (by decide) (by decide) 1 ⟨0, [[]]⟩
  have w2 := k9 h9 (s := [60, 33, 45, 45, 60, 115, 99, 114, 105, 112, 116, 62, 60, 47, 115, 99, 114, 105, 112, 116, 62, 45, 45, 62, 60, 47, 115, 99, 114, 105, 112, 116, 62]) (t := [115, 99, 114, 105, 112, 116]) (by decide) (by decide) 3 ⟨0, [[]]⟩
  have w3 := k9 h9 (s := [97]) (t := [112]) (by decide) (by decide) 4 ⟨0, [[]]⟩
  have w4 := k9 h9 (s := [97]) (t := [112]) (by decide) (by decide) 0 ⟨0, [[]]⟩
  have v1 : findS [97, 60, 47, 98, 60, 47, 112, 62] [112] 1 = 4 := by decide +kernel
  have v2 : findS [60, 33, 45, 45, 60, 115, 99, 114, 105, 112, 116, 62, 60, 47, 115, 99, 114, 105, 112, 116, 62, 45, 45, 62, 60, 47, 115, 99, 114, 105, 112, 116, 62] [115, 99, 114, 105, 112, 116] 3 = 24 := by decide +kernel
  have v3 : findS [97] [112] 4 = 1 := by decide +kernel
  have v4 : findS [97] [112] 0 = 0 := by decide +kernel
  rw [v1] at w1
  rw [v2] at w2
  rw [v3] at w3
  rw [v4] at w4
  (repeat (first
        | (refine wps_seq ?_)
        | (refine wps_block ?_)
        | (refine wps_label ?_; simp only [thenQ, blockQ])
        | ((refine wps_region callOK ?_); simp [ofV, ofV1, mkC_P, writeVar, writeCells, readCells, allSingle, AV.single, getFs, getF, setFs, setF, Heap.get, Heap.set, Heap.new, Heap.kill, killF, pushF, Heap.ready, refs, sliceParts, fillA, replL, w1, w2, w3, w4])
        | (refine wps_cond (t := true) rfl (fun _ => ?_) (fun h => by cases h))
        | (refine wps_cond (t := false) rfl (fun h => by cases h) (fun _ => ?_))
        | ((refine wps_skip ?_); simp only [thenQ, blockQ])
        | ((refine wps_exit ?_); simp [thenQ, blockQ])))
  repeat refine wps_seq ?_
  refine wps_ret ?_
  simp [retVal, Try.f8, oneOr, thenQ, blockQ, gotoB]
  exact ends_pure rfl (by rfl)
theorem inj_unit (x y : Unit) (h : ([] : List AV) = []) : x = y := rfl
noncomputable def e8 : Entry Try.prog := mkE 8 [] (fun _ : Unit => []) (fun _ => True) (fun _ => .bool true) fun _ _ => c8 (T := [e9]) rfl
theorem k8 {T : List (Entry Try.prog)} (hT : findE 8 T = some e8.g) (H : Heap) : callL (ctx T) 8 [] H = some (.bool true, H) :=
  mkE_scalar hT inj_unit () trivial rfl (by simp)
theorem c3 {T : List (Entry Try.prog)} (h8 : findE 8 T = some e8.g) (h9 : findE 9 T = some e9.g) (h10 : findE 10 T = some e10.g) (s nm : Str) (st : Int) : CallAt (ctx T) 3 [.str s, .str nm, .int .i64 st] ⟨0, []⟩ (.bool true) ⟨0, []⟩ := by
  refine callAt_body (fn := Try.f3) (s0 := ⟨[0, 1, 2, 6], [.str s, .str nm, .int .i64 st, .undef], [], 35, ⟨0, [[]]⟩⟩) Try.func3 rfl rfl rfl ?_
  by_cases q1 : (400 : Int) < s.length
  · (repeat (first
          | (refine wps_seq ?_)
          | (refine wps_block ?_)
          | (refine wps_label ?_; simp only [thenQ, blockQ])
          | ((refine wps_region callOK ?_); simp [ofV, ofV1, mkC_P, writeVar, writeCells, readCells, allSingle, AV.single, getFs, getF, setFs, setF, Heap.get, Heap.set, Heap.new, Heap.kill, killF, pushF, Heap.ready, refs, sliceParts, fillA, replL, q1, k8 h8])
          | (refine wps_cond (t := true) rfl (fun _ => ?_) (fun h => by cases h))
          | (refine wps_cond (t := false) rfl (fun h => by cases h) (fun _ => ?_))
          | ((refine wps_skip ?_); simp only [thenQ, blockQ])
          | ((refine wps_exit ?_); simp [thenQ, blockQ])))
    repeat refine wps_seq ?_
    refine wps_ret ?_
    simp [retVal, Try.f3, oneOr, thenQ, blockQ, gotoB]
    exact ends_pure rfl (by rfl)
  by_cases q2 : (40 : Int) < nm.length
  · (repeat (first
          | (refine wps_seq ?_)
          | (refine wps_block ?_)
          | (refine wps_label ?_; simp only [thenQ, blockQ])
          | ((refine wps_region callOK ?_); simp [ofV, ofV1, mkC_P, writeVar, writeCells, readCells, allSingle, AV.single, getFs, getF, setFs, setF, Heap.get, Heap.set, Heap.new, Heap.kill, killF, pushF, Heap.ready, refs, sliceParts, fillA, replL, q1, q2, k8 h8])
          | (refine wps_cond (t := true) rfl (fun _ => ?_) (fun h => by cases h))
          | (refine wps_cond (t := false) rfl (fun h => by cases h) (fun _ => ?_))
          | ((refine wps_skip ?_); simp only [thenQ, blockQ])
          | ((refine wps_exit ?_); simp [thenQ, blockQ])))
    repeat refine wps_seq ?_
    refine wps_ret ?_
    simp [retVal, Try.f3, oneOr, thenQ, blockQ, gotoB]
    exact ends_pure rfl (by rfl)
  have l1 : s.length ≤ 1000000 := by omega
  have l2 : nm.length ≤ 1000000 := by omega
  have l3 : scrW.length ≤ 1000000 := by decide
  (repeat (first
        | (refine wps_seq ?_)
        | (refine wps_block ?_)
        | (refine wps_label ?_; simp only [thenQ, blockQ])
        | ((refine wps_region callOK ?_); simp [ofV, ofV1, mkC_P, writeVar, writeCells, readCells, allSingle, AV.single, getFs, getF, setFs, setF, Heap.get, Heap.set, Heap.new, Heap.kill, killF, pushF, Heap.ready, refs, sliceParts, fillA, replL, q1, q2, k9 h9 l1 l2, k10 h10 l1 l2, k9 h9 l1 l3, k10 h10 l1 l3, k8 h8])
        | (refine wps_cond (t := true) rfl (fun _ => ?_) (fun h => by cases h))
        | (refine wps_cond (t := false) rfl (fun h => by cases h) (fun _ => ?_))
        | ((refine wps_skip ?_); simp only [thenQ, blockQ])
        | ((refine wps_exit ?_); simp [thenQ, blockQ])))
  repeat refine wps_seq ?_
  refine wps_ret ?_
  simp [retVal, Try.f3, oneOr, thenQ, blockQ, gotoB]
  exact ends_pure rfl (by rfl)
theorem clo_stands {nm s : Str} : ∀ (d i : Nat), i + d = s.length → clo nm (s.drop i) i ≤ s.length ∧ (clo nm (s.drop i) i = s.length ∨ closesB (s.drop (clo nm (s.drop i) i)) nm = true)
  | 0, i, h => by
    have : i = s.length := by omega
    subst this
    rw [clo_end]; exact ⟨Nat.le_refl _, .inl rfl⟩
  | d + 1, i, h => by
    rw [clo_at (by omega)]
    split
    · rename_i hc
      exact ⟨by omega, .inr hc⟩
    · exact clo_stands d (i + 1) (by omega)
theorem sc_stands {nm s : Str} : ∀ (f md i : Nat), i ≤ s.length → sc nm s f md i ≤ s.length ∧ (sc nm s f md i = s.length ∨ closesB (s.drop (sc nm s f md i)) nm = true)
  | 0, md, i, h => ⟨Nat.le_refl _, .inl rfl⟩
  | f + 1, md, i, h => by
    by_cases hlt : i < s.length
    · rw [sc_at hlt]
      split
      · rename_i hc
        exact ⟨by omega, .inr hc.2⟩
      · split
        · rename_i hp
          have := pre_room hp.2
          simp at this
          exact sc_stands f 1 (i + 2) (by omega)
        · exact sc_stands f _ (i + 1) (by omega)
    · rw [sc_end (by omega)]; exact ⟨Nat.le_refl _, .inl rfl⟩
theorem find_stands (s nm : Str) (st : Int) (h : st ≠ 0) : findS s nm st ≤ s.length ∧ (findS s nm st = s.length ∨ closesB (s.drop (findS s nm st)) nm = true) := by
  have a := clo_stands (nm := nm) (s := s) s.length 0 (by omega)
  rw [List.drop_zero] at a
  unfold findS
  rw [if_neg h]
  split
  · exact a
  · split
    · exact a
    · split
      · exact sc_stands _ _ _ (Nat.zero_le _)
      · exact ⟨Nat.le_refl _, .inl rfl⟩
theorem c4 {T : List (Entry Try.prog)} (h8 : findE 8 T = some e8.g) (h9 : findE 9 T = some e9.g) (h11 : findE 11 T = some e11.g) (s nm : Str) (st : Int) : CallAt (ctx T) 4 [.str s, .str nm, .int .i64 st] ⟨0, []⟩ (.bool true) ⟨0, []⟩ := by
  refine callAt_body (fn := Try.f4) (s0 := ⟨[0, 1, 2, 6, 7], [.str s, .str nm, .int .i64 st, .undef, .undef], [], 53, ⟨0, [[]]⟩⟩) Try.func4 rfl rfl rfl ?_
  by_cases q1 : (400 : Int) < s.length
  · (repeat (first
          | (refine wps_seq ?_)
          | (refine wps_block ?_)
          | (refine wps_label ?_; simp only [thenQ, blockQ])
          | ((refine wps_region callOK ?_); simp [ofV, ofV1, mkC_P, writeVar, writeCells, readCells, allSingle, AV.single, getFs, getF, setFs, setF, Heap.get, Heap.set, Heap.new, Heap.kill, killF, pushF, Heap.ready, refs, sliceParts, fillA, replL, q1, k8 h8])
          | (refine wps_cond (t := true) rfl (fun _ => ?_) (fun h => by cases h))
          | (refine wps_cond (t := false) rfl (fun h => by cases h) (fun _ => ?_))
          | ((refine wps_skip ?_); simp only [thenQ, blockQ])
          | ((refine wps_exit ?_); simp [thenQ, blockQ])))
    repeat refine wps_seq ?_
    refine wps_ret ?_
    simp [retVal, Try.f4, oneOr, thenQ, blockQ, gotoB]
    exact ends_pure rfl (by rfl)
  by_cases q2 : (40 : Int) < nm.length
  · (repeat (first
          | (refine wps_seq ?_)
          | (refine wps_block ?_)
          | (refine wps_label ?_; simp only [thenQ, blockQ])
          | ((refine wps_region callOK ?_); simp [ofV, ofV1, mkC_P, writeVar, writeCells, readCells, allSingle, AV.single, getFs, getF, setFs, setF, Heap.get, Heap.set, Heap.new, Heap.kill, killF, pushF, Heap.ready, refs, sliceParts, fillA, replL, q1, q2, k8 h8])
          | (refine wps_cond (t := true) rfl (fun _ => ?_) (fun h => by cases h))
          | (refine wps_cond (t := false) rfl (fun h => by cases h) (fun _ => ?_))
          | ((refine wps_skip ?_); simp only [thenQ, blockQ])
          | ((refine wps_exit ?_); simp [thenQ, blockQ])))
    repeat refine wps_seq ?_
    refine wps_ret ?_
    simp [retVal, Try.f4, oneOr, thenQ, blockQ, gotoB]
    exact ends_pure rfl (by rfl)
  by_cases q3 : st < 1
  · (repeat (first
          | (refine wps_seq ?_)
          | (refine wps_block ?_)
          | (refine wps_label ?_; simp only [thenQ, blockQ])
          | ((refine wps_region callOK ?_); simp [ofV, ofV1, mkC_P, writeVar, writeCells, readCells, allSingle, AV.single, getFs, getF, setFs, setF, Heap.get, Heap.set, Heap.new, Heap.kill, killF, pushF, Heap.ready, refs, sliceParts, fillA, replL, q1, q2, q3, k8 h8])
          | (refine wps_cond (t := true) rfl (fun _ => ?_) (fun h => by cases h))
          | (refine wps_cond (t := false) rfl (fun h => by cases h) (fun _ => ?_))
          | ((refine wps_skip ?_); simp only [thenQ, blockQ])
          | ((refine wps_exit ?_); simp [thenQ, blockQ])))
    repeat refine wps_seq ?_
    refine wps_ret ?_
    simp [retVal, Try.f4, oneOr, thenQ, blockQ, gotoB]
    exact ends_pure rfl (by rfl)
  by_cases q4 : 4 < st
  · (repeat (first
          | (refine wps_seq ?_)
          | (refine wps_block ?_)
          | (refine wps_label ?_; simp only [thenQ, blockQ])
          | ((refine wps_region callOK ?_); simp [ofV, ofV1, mkC_P, writeVar, writeCells, readCells, allSingle, AV.single, getFs, getF, setFs, setF, Heap.get, Heap.set, Heap.new, Heap.kill, killF, pushF, Heap.ready, refs, sliceParts, fillA, replL, q1, q2, q3, q4, k8 h8])
          | (refine wps_cond (t := true) rfl (fun _ => ?_) (fun h => by cases h))
          | (refine wps_cond (t := false) rfl (fun h => by cases h) (fun _ => ?_))
          | ((refine wps_skip ?_); simp only [thenQ, blockQ])
          | ((refine wps_exit ?_); simp [thenQ, blockQ])))
    repeat refine wps_seq ?_
    refine wps_ret ?_
    simp [retVal, Try.f4, oneOr, thenQ, blockQ, gotoB]
    exact ends_pure rfl (by rfl)
  have l1 : s.length ≤ 1000000 := by omega
  have l2 : nm.length ≤ 1000000 := by omega
  obtain ⟨n, hn⟩ : ∃ n, n = findS s nm st := ⟨_, rfl⟩
  have w9 := k9 h9 l1 l2 st ⟨0, [[]]⟩
  obtain ⟨g1, g2⟩ := find_stands s nm st (by omega)
  rw [← hn] at w9 g1 g2
  have p0 : (0 : Int) ≤ (n : Int) := by omega
  have p1 : (n : Int) ≤ (s.length : Int) := by omega
  by_cases q5 : n = s.length
  · have p2 : (n : Int) = (s.length : Int) := by omega
    (repeat (first
          | (refine wps_seq ?_)
          | (refine wps_block ?_)
          | (refine wps_label ?_; simp only [thenQ, blockQ])
          | ((refine wps_region callOK ?_); simp [ofV, ofV1, mkC_P, writeVar, writeCells, readCells, allSingle, AV.single, getFs, getF, setFs, setF, Heap.get, Heap.set, Heap.new, Heap.kill, killF, pushF, Heap.ready, refs, sliceParts, fillA, replL, q1, q2, q3, q4, w9, p0, p1, p2, k8 h8])
          | (refine wps_cond (t := true) rfl (fun _ => ?_) (fun h => by cases h))
          | (refine wps_cond (t := false) rfl (fun h => by cases h) (fun _ => ?_))
          | ((refine wps_skip ?_); simp only [thenQ, blockQ])
          | ((refine wps_exit ?_); simp [thenQ, blockQ])))
    repeat refine wps_seq ?_
    refine wps_ret ?_
    simp [retVal, Try.f4, oneOr, thenQ, blockQ, gotoB]
    exact ends_pure rfl (by rfl)
  · have p2 : ¬ (n : Int) = (s.length : Int) := by omega
    have hc := g2.resolve_left q5
    have hd : (s.drop n).length ≤ 1000000 := by simp; omega
    (repeat (first
          | (refine wps_seq ?_)
          | (refine wps_block ?_)
          | (refine wps_label ?_; simp only [thenQ, blockQ])
          | ((refine wps_region callOK ?_); simp [ofV, ofV1, mkC_P, writeVar, writeCells, readCells, allSingle, AV.single, getFs, getF, setFs, setF, Heap.get, Heap.set, Heap.new, Heap.kill, killF, pushF, Heap.ready, refs, sliceParts, fillA, replL, q1, q2, q3, q4, w9, p0, p1, p2, q5, slStr g1, k11 h11 hd l2, hc, k8 h8])
          | (refine wps_cond (t := true) rfl (fun _ => ?_) (fun h => by cases h))
          | (refine wps_cond (t := false) rfl (fun h => by cases h) (fun _ => ?_))
          | ((refine wps_skip ?_); simp only [thenQ, blockQ])
          | ((refine wps_exit ?_); simp [thenQ, blockQ])))
    repeat refine wps_seq ?_
    refine wps_ret ?_
    simp [retVal, Try.f4, oneOr, thenQ, blockQ, gotoB]
    exact ends_pure rfl (by rfl)
end Go.Proofs.Ytpkplilgjdbhhaa
