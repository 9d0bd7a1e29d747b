/- Lower, by the program and by the reference. No condition. -/
import Derived.Test.YtpkplilgjdbhhaaR2
namespace Go.Proofs.Ytpkplilgjdbhhaa
set_option linter.unusedSimpArgs false
set_option linter.unusedVariables false
open Go Go.RowKit
set_option maxRecDepth 100000

theorem len52 {H : Heap} {b o n : Nat} {cap : Cap} : lenA Try.prog H 52 (.slc b o n cap) = some n := by simp [lenA]
/-- the block is what it was up to its name -/
theorem fitBytes {n : Nat} {s t : Str} (e : s = t) : FitH 0 [(0, 0)] [] (bytesH n s) (bytesH 1 t) := by
  subst e
  have hb : fitB [(0, 0)] [] (.cells (bytesAV s)) (.cells (bytesAV s)) := by
    show fitL _ _ _ _
    exact fitL_pure (pure_bytes s)
  refine ⟨by simp, by simp, by simp [bytesH, Heap.ents], by simp [bytesH], by simp, Nat.zero_le _, ?_, by simp⟩
  intro e he
  simp [bytesH, Heap.ents] at he
  subst he
  exact ⟨0, _, by simp, by simp [bytesH, Heap.get, getFs, getF], hb⟩
theorem fitSlc {len : Nat} {cap : Cap} : fitV [(0, 0)] [] (.slc 0 0 len cap) (.slc 0 0 len cap) := by simp [fitV, lookN]
theorem c50 {T : List (Entry Try.prog)} (s : Str) (hl : s.length ≤ 1000000) : CallAt (ctx T) 50 [.str s] ⟨0, []⟩ (.str (lower s)) ⟨0, []⟩ := by
  refine callAt_body (fn := Try.f50) (s0 := ⟨[0, 2, 3, 4], [.str s, .undef, .undef, .undef], [], 33, ⟨0, [[]]⟩⟩) Try.func50 rfl rfl rfl ?_
  repeat refine wps_seq ?_
  refine wps_region callOK ?_
  simp [ofV, ofV1, mkC_P, writeVar, writeCells, readCells, allSingle, AV.single, getFs, getF, setFs, setF, Heap.get, Heap.set, Heap.new, Heap.kill, killF, pushF, Heap.ready, refs, sliceParts, fillA, replL]
  repeat refine wps_seq ?_
  refine wps_region callOK ?_
  simp [ofV, ofV1, mkC_P, writeVar, writeCells, readCells, allSingle, AV.single, getFs, getF, setFs, setF, Heap.get, Heap.set, Heap.new, Heap.kill, killF, pushF, Heap.ready, refs, sliceParts, fillA, replL, conv1 hl]
  repeat refine wps_seq ?_
  refine wps_region callOK ?_
  simp [ofV, ofV1, mkC_P, writeVar, writeCells, readCells, allSingle, AV.single, getFs, getF, setFs, setF, Heap.get, Heap.set, Heap.new, Heap.kill, killF, pushF, Heap.ready, refs, sliceParts, fillA, replL]
  repeat refine wps_seq ?_
  refine wps_block (wps_loop' (fun i : Nat => (⟨[0, 2, 3, 4], [.undef, .undef, .slc 0 0 s.length (.rest 1), .int .i64 i], [], 33, bytesH 1 (midL s i)⟩ : St))
    (fun i => i ≤ s.length) (fun i => s.length - i) [(0, 0)] [] 0 (Nat.zero_le _) ⟨rfl, rfl, rfl, by simp [fitL, fitV, fitSlc, lookN, pureV], by simpa [midL] using fitBytes (n := 1) (s := s) rfl⟩ ?_)
  rintro i hi B hB
  repeat refine wps_seq ?_
  refine wps_region callOK ?_
  simp [ofV, ofV1, mkC_P, writeVar, writeCells, readCells, allSingle, AV.single, getFs, getF, setFs, setF, Heap.get, Heap.set, Heap.new, Heap.kill, killF, pushF, Heap.ready, refs, sliceParts, fillA, replL, len52]
  repeat refine wps_seq ?_
  refine wps_cond rfl (fun h => ?_) fun h => ?_
  · simp at h
    repeat refine wps_seq ?_
    refine wps_skip ?_
    simp
    repeat refine wps_seq ?_
    refine wps_block ?_
    have hm : i < (midL s i).length := by rw [midL_len]; exact h
    by_cases h1 : 65 ≤ s[i].toNat ∧ s[i].toNat ≤ 90
    · have e1 : (65 : Int) ≤ s[i].toNat := by omega
      have e2 : (s[i].toNat : Int) ≤ 90 := by omega
      repeat refine wps_seq ?_
      refine wps_region callOK ?_
      simp [ofV, ofV1, mkC_P, writeVar, writeCells, readCells, allSingle, AV.single, getFs, getF, setFs, setF, Heap.get, Heap.set, Heap.new, Heap.kill, killF, pushF, Heap.ready, refs, sliceParts, fillA, replL, bytesH, ix52 h, getL_bytes hm, midL_get h, e1, e2]
      repeat refine wps_seq ?_
      refine wps_cond (t := true) rfl (fun _ => ?_) fun h => by cases h
      repeat refine wps_seq ?_
      refine wps_region callOK ?_
      simp [ofV, ofV1, mkC_P, writeVar, writeCells, readCells, allSingle, AV.single, getFs, getF, setFs, setF, Heap.get, Heap.set, Heap.new, Heap.kill, killF, pushF, Heap.ready, refs, sliceParts, fillA, replL, bytesH, ix52 h, getL_bytes hm, midL_get h, add8 h1.1 h1.2, layL_bytes hm]
      repeat refine wps_seq ?_
      refine wps_region callOK ?_
      simp [ofV, ofV1, mkC_P, writeVar, writeCells, readCells, allSingle, AV.single, getFs, getF, setFs, setF, Heap.get, Heap.set, Heap.new, Heap.kill, killF, pushF, Heap.ready, refs, sliceParts, fillA, replL, add_one (show i ≤ 1000000000 by omega)]
      exact hB _ (i + 1) (by omega) (by omega) ⟨[(0, 0)], [], rfl, rfl, rfl, by simp [fitL, fitV, fitSlc, lookN, pureV], fitBytes (midL_step h)⟩
    · by_cases e1 : (65 : Int) ≤ s[i].toNat
      · have e2 : ¬ (s[i].toNat : Int) ≤ 90 := by omega
        repeat refine wps_seq ?_
        refine wps_region callOK ?_
        simp [ofV, ofV1, mkC_P, writeVar, writeCells, readCells, allSingle, AV.single, getFs, getF, setFs, setF, Heap.get, Heap.set, Heap.new, Heap.kill, killF, pushF, Heap.ready, refs, sliceParts, fillA, replL, bytesH, ix52 h, getL_bytes hm, midL_get h, e1, e2]
        repeat refine wps_seq ?_
        refine wps_cond (t := false) rfl (fun h => by cases h) fun _ => ?_
        repeat refine wps_seq ?_
        refine wps_skip ?_
        simp
        repeat refine wps_seq ?_
        refine wps_region callOK ?_
        simp [ofV, ofV1, mkC_P, writeVar, writeCells, readCells, allSingle, AV.single, getFs, getF, setFs, setF, Heap.get, Heap.set, Heap.new, Heap.kill, killF, pushF, Heap.ready, refs, sliceParts, fillA, replL, add_one (show i ≤ 1000000000 by omega)]
        exact hB _ (i + 1) (by omega) (by omega) ⟨[(0, 0)], [], rfl, rfl, rfl, by simp [fitL, fitV, fitSlc, lookN, pureV], fitBytes (midL_keep h (lw_same h1)).symm⟩
      · repeat refine wps_seq ?_
        refine wps_region callOK ?_
        simp [ofV, ofV1, mkC_P, writeVar, writeCells, readCells, allSingle, AV.single, getFs, getF, setFs, setF, Heap.get, Heap.set, Heap.new, Heap.kill, killF, pushF, Heap.ready, refs, sliceParts, fillA, replL, bytesH, ix52 h, getL_bytes hm, midL_get h, e1]
        repeat refine wps_seq ?_
        refine wps_cond (t := false) rfl (fun h => by cases h) fun _ => ?_
        repeat refine wps_seq ?_
        refine wps_skip ?_
        simp
        repeat refine wps_seq ?_
        refine wps_region callOK ?_
        simp [ofV, ofV1, mkC_P, writeVar, writeCells, readCells, allSingle, AV.single, getFs, getF, setFs, setF, Heap.get, Heap.set, Heap.new, Heap.kill, killF, pushF, Heap.ready, refs, sliceParts, fillA, replL, add_one (show i ≤ 1000000000 by omega)]
        exact hB _ (i + 1) (by omega) (by omega) ⟨[(0, 0)], [], rfl, rfl, rfl, by simp [fitL, fitV, fitSlc, lookN, pureV], fitBytes (midL_keep h (lw_same h1)).symm⟩
  · simp at h
    repeat refine wps_seq ?_
    refine wps_exit ?_
    simp
    repeat refine wps_seq ?_
    refine wps_region callOK ?_
    simp [ofV, ofV1, mkC_P, writeVar, writeCells, readCells, allSingle, AV.single, getFs, getF, setFs, setF, Heap.get, Heap.set, Heap.new, Heap.kill, killF, pushF, Heap.ready, refs, sliceParts, fillA, replL, conv2 (midL_len s i)]
    repeat refine wps_seq ?_
    refine wps_ret ?_
    simp [retVal, Try.f50, oneOr]
    exact ends_pure rfl (by rw [show i = s.length by omega, midL_all])
theorem c88 {T : List (Entry Try.prog)} (s : Str) (hl : s.length ≤ 1000000) : CallAt (ctx T) 88 [.str s] ⟨0, []⟩ (.str (lower s)) ⟨0, []⟩ := by
  refine callAt_body (fn := Try.f88) (s0 := ⟨[0, 2, 3, 4, 5, 8, 9, 10], [.str s, .undef, .undef, .undef, .undef, .undef, .undef, .undef], [], 29, ⟨0, [[]]⟩⟩) Try.func88 rfl rfl rfl ?_
  repeat refine wps_seq ?_
  refine wps_region callOK ?_
  simp [ofV, ofV1, mkC_P, writeVar, writeCells, readCells, allSingle, AV.single, getFs, getF, setFs, setF, Heap.get, Heap.set, Heap.new, Heap.kill, killF, pushF, Heap.ready, refs, sliceParts, fillA, replL]
  repeat refine wps_seq ?_
  refine wps_region callOK ?_
  simp [ofV, ofV1, mkC_P, writeVar, writeCells, readCells, allSingle, AV.single, getFs, getF, setFs, setF, Heap.get, Heap.set, Heap.new, Heap.kill, killF, pushF, Heap.ready, refs, sliceParts, fillA, replL, conv1 hl]
  repeat refine wps_seq ?_
  refine wps_region callOK ?_
  simp [ofV, ofV1, mkC_P, writeVar, writeCells, readCells, allSingle, AV.single, getFs, getF, setFs, setF, Heap.get, Heap.set, Heap.new, Heap.kill, killF, pushF, Heap.ready, refs, sliceParts, fillA, replL, len52]
  repeat refine wps_seq ?_
  refine wps_block (wps_loop' (fun i : Nat => (⟨[0, 2, 3, 4, 5, 8, 9, 10], [.undef, .undef, .slc 0 0 s.length (.rest 1), .undef, .undef, .slc 0 0 s.length (.rest 1), .int .i64 s.length, .int .i64 i], [], 29, bytesH 1 (midL s i)⟩ : St))
    (fun i => i ≤ s.length) (fun i => s.length - i) [(0, 0)] [] 0 (Nat.zero_le _) ⟨rfl, rfl, rfl, by simp [fitL, fitV, fitSlc, lookN, pureV], by simpa [midL] using fitBytes (n := 1) (s := s) rfl⟩ ?_)
  rintro i hi B hB
  repeat refine wps_seq ?_
  refine wps_region callOK ?_
  simp [ofV, ofV1, mkC_P, writeVar, writeCells, readCells, allSingle, AV.single, getFs, getF, setFs, setF, Heap.get, Heap.set, Heap.new, Heap.kill, killF, pushF, Heap.ready, refs, sliceParts, fillA, replL]
  repeat refine wps_seq ?_
  refine wps_cond rfl (fun h => ?_) fun h => ?_
  · simp at h
    repeat refine wps_seq ?_
    refine wps_skip ?_
    simp
    repeat refine wps_seq ?_
    refine wps_block ?_
    have hm : i < (midL s i).length := by rw [midL_len]; exact h
    repeat refine wps_seq ?_
    refine wps_region callOK ?_
    simp [ofV, ofV1, mkC_P, writeVar, writeCells, readCells, allSingle, AV.single, getFs, getF, setFs, setF, Heap.get, Heap.set, Heap.new, Heap.kill, killF, pushF, Heap.ready, refs, sliceParts, fillA, replL, bytesH, ix52 h, getL_bytes hm, midL_get h]
    by_cases h1 : 65 ≤ s[i].toNat ∧ s[i].toNat ≤ 90
    · have e1 : (65 : Int) ≤ s[i].toNat := by omega
      have e2 : (s[i].toNat : Int) ≤ 90 := by omega
      repeat refine wps_seq ?_
      refine wps_region callOK ?_
      simp [ofV, ofV1, mkC_P, writeVar, writeCells, readCells, allSingle, AV.single, getFs, getF, setFs, setF, Heap.get, Heap.set, Heap.new, Heap.kill, killF, pushF, Heap.ready, refs, sliceParts, fillA, replL, bytesH, ix52 h, getL_bytes hm, midL_get h, e1, e2]
      repeat refine wps_seq ?_
      refine wps_cond (t := true) rfl (fun _ => ?_) fun h => by cases h
      repeat refine wps_seq ?_
      refine wps_region callOK ?_
      simp [ofV, ofV1, mkC_P, writeVar, writeCells, readCells, allSingle, AV.single, getFs, getF, setFs, setF, Heap.get, Heap.set, Heap.new, Heap.kill, killF, pushF, Heap.ready, refs, sliceParts, fillA, replL, bytesH, ix52 h, getL_bytes hm, midL_get h, or8 h1.1 h1.2, layL_bytes hm]
      repeat refine wps_seq ?_
      refine wps_region callOK ?_
      simp [ofV, ofV1, mkC_P, writeVar, writeCells, readCells, allSingle, AV.single, getFs, getF, setFs, setF, Heap.get, Heap.set, Heap.new, Heap.kill, killF, pushF, Heap.ready, refs, sliceParts, fillA, replL, add_one (show i ≤ 1000000000 by omega)]
      exact hB _ (i + 1) (by omega) (by omega) ⟨[(0, 0)], [], rfl, rfl, rfl, by simp [fitL, fitV, fitSlc, lookN, pureV], fitBytes (midL_step h)⟩
    · by_cases e1 : (65 : Int) ≤ s[i].toNat
      · have e2 : ¬ (s[i].toNat : Int) ≤ 90 := by omega
        repeat refine wps_seq ?_
        refine wps_region callOK ?_
        simp [ofV, ofV1, mkC_P, writeVar, writeCells, readCells, allSingle, AV.single, getFs, getF, setFs, setF, Heap.get, Heap.set, Heap.new, Heap.kill, killF, pushF, Heap.ready, refs, sliceParts, fillA, replL, bytesH, ix52 h, getL_bytes hm, midL_get h, e1, e2]
        repeat refine wps_seq ?_
        refine wps_cond (t := false) rfl (fun h => by cases h) fun _ => ?_
        repeat refine wps_seq ?_
        refine wps_skip ?_
        simp
        repeat refine wps_seq ?_
        refine wps_region callOK ?_
        simp [ofV, ofV1, mkC_P, writeVar, writeCells, readCells, allSingle, AV.single, getFs, getF, setFs, setF, Heap.get, Heap.set, Heap.new, Heap.kill, killF, pushF, Heap.ready, refs, sliceParts, fillA, replL, add_one (show i ≤ 1000000000 by omega)]
        exact hB _ (i + 1) (by omega) (by omega) ⟨[(0, 0)], [], rfl, rfl, rfl, by simp [fitL, fitV, fitSlc, lookN, pureV], fitBytes (midL_keep h (lw_same h1)).symm⟩
      · repeat refine wps_seq ?_
        refine wps_region callOK ?_
        simp [ofV, ofV1, mkC_P, writeVar, writeCells, readCells, allSingle, AV.single, getFs, getF, setFs, setF, Heap.get, Heap.set, Heap.new, Heap.kill, killF, pushF, Heap.ready, refs, sliceParts, fillA, replL, bytesH, ix52 h, getL_bytes hm, midL_get h, e1]
        repeat refine wps_seq ?_
        refine wps_cond (t := false) rfl (fun h => by cases h) fun _ => ?_
        repeat refine wps_seq ?_
        refine wps_skip ?_
        simp
        repeat refine wps_seq ?_
        refine wps_region callOK ?_
        simp [ofV, ofV1, mkC_P, writeVar, writeCells, readCells, allSingle, AV.single, getFs, getF, setFs, setF, Heap.get, Heap.set, Heap.new, Heap.kill, killF, pushF, Heap.ready, refs, sliceParts, fillA, replL, add_one (show i ≤ 1000000000 by omega)]
        exact hB _ (i + 1) (by omega) (by omega) ⟨[(0, 0)], [], rfl, rfl, rfl, by simp [fitL, fitV, fitSlc, lookN, pureV], fitBytes (midL_keep h (lw_same h1)).symm⟩
  · simp at h
    repeat refine wps_seq ?_
    refine wps_exit ?_
    simp
    repeat refine wps_seq ?_
    refine wps_region callOK ?_
    simp [ofV, ofV1, mkC_P, writeVar, writeCells, readCells, allSingle, AV.single, getFs, getF, setFs, setF, Heap.get, Heap.set, Heap.new, Heap.kill, killF, pushF, Heap.ready, refs, sliceParts, fillA, replL, conv2 (midL_len s i)]
    repeat refine wps_seq ?_
    refine wps_ret ?_
    simp [retVal, Try.f88, oneOr]
    exact ends_pure rfl (by rw [show i = s.length by omega, midL_all])
theorem inj_str (x y : Str) (h : [AV.str x] = [AV.str y]) : x = y := by simpa using h
noncomputable def e50 : Entry Try.prog := mkE 50 [[]] (fun x : Str => [.str x]) (fun x => x.length ≤ 1000000) (fun x => .str (lower x)) fun x hx => c50 (T := []) x hx
noncomputable def e88 : Entry Try.prog := mkE 88 [[]] (fun x : Str => [.str x]) (fun x => x.length ≤ 1000000) (fun x => .str (lower x)) fun x hx => c88 (T := []) x hx
theorem k50 {T : List (Entry Try.prog)} (hT : findE 50 T = some e50.g) {s : Str} (hl : s.length ≤ 1000000) (H : Heap) : callL (ctx T) 50 [.str s] H = some (.str (lower s), H) :=
  mkE_scalar hT inj_str s hl rfl (by simp)
theorem k88 {T : List (Entry Try.prog)} (hT : findE 88 T = some e88.g) {s : Str} (hl : s.length ≤ 1000000) (H : Heap) : callL (ctx T) 88 [.str s] H = some (.str (lower s), H) :=
  mkE_scalar hT inj_str s hl rfl (by simp)
noncomputable def e29 : Entry Try.prog := mkE 29 [[]] (fun x : UInt8 => [.int .u8 x.toNat]) (fun _ => True) (fun x => .bool (sp x)) fun x _ => c29 (T := []) x
noncomputable def e71 : Entry Try.prog := mkE 71 [[]] (fun x : UInt8 => [.int .u8 x.toNat]) (fun _ => True) (fun x => .bool (sp x)) fun x _ => c71 (T := []) x
theorem inj_u8 (x y : UInt8) (h : [AV.int .u8 (x.toNat : Int)] = [AV.int .u8 (y.toNat : Int)]) : x = y := by
  simp only [List.cons.injEq, AV.int.injEq, true_and, and_true] at h
  exact UInt8.toNat_inj.1 (by omega)
theorem k29 {T : List (Entry Try.prog)} (hT : findE 29 T = some e29.g) (c : UInt8) (H : Heap) : callL (ctx T) 29 [.int .u8 c.toNat] H = some (.bool (sp c), H) :=
  mkE_scalar hT inj_u8 c trivial rfl (by simp)
theorem k71 {T : List (Entry Try.prog)} (hT : findE 71 T = some e71.g) (c : UInt8) (H : Heap) : callL (ctx T) 71 [.int .u8 c.toNat] H = some (.bool (sp c), H) :=
  mkE_scalar hT inj_u8 c trivial rfl (by simp)
end Go.Proofs.Ytpkplilgjdbhhaa
