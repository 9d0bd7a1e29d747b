/- The laws' walks. No condition. -/
import Derived.Test.YtnfodgjohekdgaaF9
import Derived.Test.YtnfodgjohekdgaaG11
namespace Go.Proofs.Ytnfodgjohekdgaa
set_option linter.unusedSimpArgs false
set_option linter.unusedVariables false
open Go Go.RowKit
set_option maxRecDepth 100000

theorem c3 (L M : List At1) (a : At1) : CallAt (ctx TL) 3 [aAttrs L, aAttrs M, aAttr a] ⟨0, []⟩ (.bool true) ⟨0, []⟩ := by
  have h5L := fun H => k5 (T := TL) rfl (th_aAttrs H L)
  have h5M := fun H => k5 (T := TL) rfl (th_aAttrs H M)
  have h5a := k5 (T := TL) (L := [a]) rfl (H := ⟨2, [[(1, .cells [.str a.1, .str a.2]), (0, .cells [.str a.1, .str a.2])]]⟩) (l := .slc 1 0 1 (.ex 1)) (thawA_slc (es := [aAttr a]) (el_attr [a]) rfl)
  have h6 := k6 (T := TL) rfl
  refine callAt_body (fn := Try.f3) (s0 := ⟨[0, 1, 2, 5, 6, 7, 8, 9, 10, 11], [aAttrs L, aAttrs M, aAttr a, .undef, .undef, .undef, .undef, .undef, .undef, .undef], [], 100, ⟨0, [[]]⟩⟩) Try.func3 rfl rfl rfl ?_
  repeat refine wps_seq ?_
  refine wps_region callOK ?_
  simp [ofV, ofV1, mkC_P, writeVar, writeCells, readCells, allSingle, AV.single, getFs, getF, setFs, setF, Heap.get, Heap.set, Heap.new, Heap.kill, killF, pushF, Heap.ready, refs, sliceParts, fillA, replL]
  cases hL : plainL L with
  | false =>
    repeat refine wps_seq ?_
    refine wps_region callOK ?_
    simp [ofV, ofV1, mkC_P, writeVar, writeCells, readCells, allSingle, AV.single, getFs, getF, setFs, setF, Heap.get, Heap.set, Heap.new, Heap.kill, killF, pushF, Heap.ready, refs, sliceParts, fillA, replL, h5L, hL]
    repeat refine wps_seq ?_
    refine wps_cond rfl (fun h => ?_) fun h => ?_
    · repeat refine wps_seq ?_
      refine wps_region callOK ?_
      simp [ofV, ofV1, mkC_P, writeVar, writeCells, readCells, allSingle, AV.single, getFs, getF, setFs, setF, Heap.get, Heap.set, Heap.new, Heap.kill, killF, pushF, Heap.ready, refs, sliceParts, fillA, replL, h6]
      repeat refine wps_seq ?_
      refine wps_ret ?_
      simp [retVal, Try.f3, oneOr]
      exact ends_pure rfl rfl
    · cases h
  | true =>
  cases hM : plainL M with
  | false =>
    repeat refine wps_seq ?_
    refine wps_region callOK ?_
    simp [ofV, ofV1, mkC_P, writeVar, writeCells, readCells, allSingle, AV.single, getFs, getF, setFs, setF, Heap.get, Heap.set, Heap.new, Heap.kill, killF, pushF, Heap.ready, refs, sliceParts, fillA, replL, h5L, hL, h5M, hM]
    repeat refine wps_seq ?_
    refine wps_cond rfl (fun h => ?_) fun h => ?_
    · repeat refine wps_seq ?_
      refine wps_region callOK ?_
      simp [ofV, ofV1, mkC_P, writeVar, writeCells, readCells, allSingle, AV.single, getFs, getF, setFs, setF, Heap.get, Heap.set, Heap.new, Heap.kill, killF, pushF, Heap.ready, refs, sliceParts, fillA, replL, h6]
      repeat refine wps_seq ?_
      refine wps_ret ?_
      simp [retVal, Try.f3, oneOr]
      exact ends_pure rfl rfl
    · cases h
  | true =>
  cases ha : plainL [a] with
  | false =>
    repeat refine wps_seq ?_
    refine wps_region callOK ?_
    simp [ofV, ofV1, mkC_P, writeVar, writeCells, readCells, allSingle, AV.single, getFs, getF, setFs, setF, Heap.get, Heap.set, Heap.new, Heap.kill, killF, pushF, Heap.ready, refs, sliceParts, fillA, replL, h5L, hL, h5M, hM, h5a, ha]
    repeat refine wps_seq ?_
    refine wps_cond rfl (fun h => ?_) fun h => ?_
    · repeat refine wps_seq ?_
      refine wps_region callOK ?_
      simp [ofV, ofV1, mkC_P, writeVar, writeCells, readCells, allSingle, AV.single, getFs, getF, setFs, setF, Heap.get, Heap.set, Heap.new, Heap.kill, killF, pushF, Heap.ready, refs, sliceParts, fillA, replL, h6]
      repeat refine wps_seq ?_
      refine wps_ret ?_
      simp [retVal, Try.f3, oneOr]
      exact ends_pure rfl rfl
    · cases h
  | true =>
    have lL := plain_len hL
    have lM := plain_len hM
    have h7 := fun H => k7 (T := TL) rfl (L := L) a.1 (by omega) (th_aAttrs H L)
    have h8 := fun H => k8 (T := TL) rfl (L := L) a.1 (by omega) (th_aAttrs H L)
    have h9 := fun H => k9 (T := TL) rfl (L := L) (M := M) (by omega) (th_aAttrs H L) (th_aAttrs H M)
    have h10 := fun H => k10 (T := TL) rfl (L := L) (M := M) (by omega) (th_aAttrs H L) (th_aAttrs H M)
    have h11 := fun H => q11 (T := TL) (L := L) (M := M) H rfl (by omega) (by omega)
    have h12 := fun H => k12 (T := TL) rfl (L := L) (M := M) (by omega) (by omega) (th_aAttrs H L) (th_aAttrs H M)
    repeat refine wps_seq ?_
    refine wps_region callOK ?_
    simp [ofV, ofV1, mkC_P, writeVar, writeCells, readCells, allSingle, AV.single, getFs, getF, setFs, setF, Heap.get, Heap.set, Heap.new, Heap.kill, killF, pushF, Heap.ready, refs, sliceParts, fillA, replL, h5L, hL, h5M, hM, h5a, ha]
    repeat refine wps_seq ?_
    refine wps_cond rfl (fun h => ?_) fun h => ?_
    · cases h
    repeat refine wps_seq ?_
    refine wps_skip ?_
    simp
    repeat refine wps_seq ?_
    refine wps_region callOK ?_
    simp [ofV, ofV1, mkC_P, writeVar, writeCells, readCells, allSingle, AV.single, getFs, getF, setFs, setF, Heap.get, Heap.set, Heap.new, Heap.kill, killF, pushF, Heap.ready, refs, sliceParts, fillA, replL, h7, gotA]
    repeat refine wps_seq ?_
    refine wps_region callOK ?_
    simp [ofV, ofV1, mkC_P, writeVar, writeCells, readCells, allSingle, AV.single, getFs, getF, setFs, setF, Heap.get, Heap.set, Heap.new, Heap.kill, killF, pushF, Heap.ready, refs, sliceParts, fillA, replL, h8, gotA]
    repeat refine wps_seq ?_
    refine wps_region callOK ?_
    simp [ofV, ofV1, mkC_P, writeVar, writeCells, readCells, allSingle, AV.single, getFs, getF, setFs, setF, Heap.get, Heap.set, Heap.new, Heap.kill, killF, pushF, Heap.ready, refs, sliceParts, fillA, replL, h9, h10, h11, h12]
    have h13 := fun H => q13 (T := TL) (L := L) (a := a) H rfl (by omega)
    have h14 := fun H => q14 (T := TL) (L := L) (a := a) H rfl (by omega)
    have h15 := fun H => q15 (T := TL) (L := L) (a := a) H rfl (by omega)
    have h16 := fun H => q16 (T := TL) (L := L) (a := a) H rfl (by omega)
    have h17 := fun H => q17 (T := TL) (L := L) a.1 H rfl (by omega)
    have h18 := fun H => q18 (T := TL) (L := L) a.1 H rfl (by omega)
    have l13 := addL_len L a
    have l15 := set_len L a
    have l17 := drop_len L a.1
    have g10 := fun H => k10 (T := TL) rfl (L := addL L a) (M := radd L a) (by omega) (th_aAttrs H _) (th_aAttrs H _)
    have g10' := fun H => k10 (T := TL) rfl (L := setL1 L a) (M := rset a L) (by omega) (th_aAttrs H _) (th_aAttrs H _)
    have g10'' := fun H => k10 (T := TL) rfl (L := dropL a.1 L) (M := dropL a.1 L) (by omega) (th_aAttrs H _) (th_aAttrs H _)
    simp only [add_eq, set_eq, decide_true] at g10 g10' g10'' h13 h15
    repeat refine wps_seq ?_
    refine wps_drawK mixed callOK (by decide +kernel) (by decide +kernel) ?_
    simp [ofV, ofV1, mkC_P, writeVar, writeCells, readCells, allSingle, AV.single, getFs, getF, setFs, setF, Heap.get, Heap.set, Heap.new, Heap.kill, killF, pushF, Heap.ready, refs, sliceParts, fillA, replL, evalK_c, evalK_nil, thenK_some, h13, h14, h15, h16, h17, h18, g10, g10', g10'', h6, fold_at]
    repeat refine wps_seq ?_
    refine wps_ret ?_
    simp [retVal, Try.f3, oneOr]
    exact ends_pure rfl rfl

theorem c4 (L M : List At1) (a : At1) : CallAt (ctx TL) 4 [aAttrs L, aAttrs M, aAttr a] ⟨0, []⟩ (.bool true) ⟨0, []⟩ := by
  have h5L := fun H => k5 (T := TL) rfl (th_aAttrs H L)
  have h5M := fun H => k5 (T := TL) rfl (th_aAttrs H M)
  have h5a := k5 (T := TL) (L := [a]) rfl (H := ⟨2, [[(1, .cells [.str a.1, .str a.2]), (0, .cells [.str a.1, .str a.2])]]⟩) (l := .slc 1 0 1 (.ex 1)) (thawA_slc (es := [aAttr a]) (el_attr [a]) rfl)
  have h6 := k6 (T := TL) rfl
  refine callAt_body (fn := Try.f4) (s0 := ⟨[0, 1, 2, 5, 6, 7, 8, 10], [aAttrs L, aAttrs M, aAttr a, .undef, .undef, .undef, .undef, .undef], [], 79, ⟨0, [[]]⟩⟩) Try.func4 rfl rfl rfl ?_
  repeat refine wps_seq ?_
  refine wps_region callOK ?_
  simp [ofV, ofV1, mkC_P, writeVar, writeCells, readCells, allSingle, AV.single, getFs, getF, setFs, setF, Heap.get, Heap.set, Heap.new, Heap.kill, killF, pushF, Heap.ready, refs, sliceParts, fillA, replL]
  cases hL : plainL L with
  | false =>
    repeat refine wps_seq ?_
    refine wps_region callOK ?_
    simp [ofV, ofV1, mkC_P, writeVar, writeCells, readCells, allSingle, AV.single, getFs, getF, setFs, setF, Heap.get, Heap.set, Heap.new, Heap.kill, killF, pushF, Heap.ready, refs, sliceParts, fillA, replL, h5L, hL]
    repeat refine wps_seq ?_
    refine wps_cond rfl (fun h => ?_) fun h => ?_
    · repeat refine wps_seq ?_
      refine wps_region callOK ?_
      simp [ofV, ofV1, mkC_P, writeVar, writeCells, readCells, allSingle, AV.single, getFs, getF, setFs, setF, Heap.get, Heap.set, Heap.new, Heap.kill, killF, pushF, Heap.ready, refs, sliceParts, fillA, replL, h6]
      repeat refine wps_seq ?_
      refine wps_ret ?_
      simp [retVal, Try.f4, oneOr]
      exact ends_pure rfl rfl
    · cases h
  | true =>
  cases hM : plainL M with
  | false =>
    repeat refine wps_seq ?_
    refine wps_region callOK ?_
    simp [ofV, ofV1, mkC_P, writeVar, writeCells, readCells, allSingle, AV.single, getFs, getF, setFs, setF, Heap.get, Heap.set, Heap.new, Heap.kill, killF, pushF, Heap.ready, refs, sliceParts, fillA, replL, h5L, hL, h5M, hM]
    repeat refine wps_seq ?_
    refine wps_cond rfl (fun h => ?_) fun h => ?_
    · repeat refine wps_seq ?_
      refine wps_region callOK ?_
      simp [ofV, ofV1, mkC_P, writeVar, writeCells, readCells, allSingle, AV.single, getFs, getF, setFs, setF, Heap.get, Heap.set, Heap.new, Heap.kill, killF, pushF, Heap.ready, refs, sliceParts, fillA, replL, h6]
      repeat refine wps_seq ?_
      refine wps_ret ?_
      simp [retVal, Try.f4, oneOr]
      exact ends_pure rfl rfl
    · cases h
  | true =>
  cases ha : plainL [a] with
  | false =>
    repeat refine wps_seq ?_
    refine wps_region callOK ?_
    simp [ofV, ofV1, mkC_P, writeVar, writeCells, readCells, allSingle, AV.single, getFs, getF, setFs, setF, Heap.get, Heap.set, Heap.new, Heap.kill, killF, pushF, Heap.ready, refs, sliceParts, fillA, replL, h5L, hL, h5M, hM, h5a, ha]
    repeat refine wps_seq ?_
    refine wps_cond rfl (fun h => ?_) fun h => ?_
    · repeat refine wps_seq ?_
      refine wps_region callOK ?_
      simp [ofV, ofV1, mkC_P, writeVar, writeCells, readCells, allSingle, AV.single, getFs, getF, setFs, setF, Heap.get, Heap.set, Heap.new, Heap.kill, killF, pushF, Heap.ready, refs, sliceParts, fillA, replL, h6]
      repeat refine wps_seq ?_
      refine wps_ret ?_
      simp [retVal, Try.f4, oneOr]
      exact ends_pure rfl rfl
    · cases h
  | true =>
    have lL := plain_len hL
    have lM := plain_len hM
    have l15 := set_len L a
    have l17 := drop_len L a.1
    have h15 := fun H => q15 (T := TL) (L := L) (a := a) H rfl (by omega)
    have h17 := fun H => q17 (T := TL) (L := L) a.1 H rfl (by omega)
    have h7 := fun H => k7 (T := TL) rfl (L := setL1 L a) a.1 (by omega) (th_aAttrs H _)
    have h7' := fun H => k7 (T := TL) rfl (L := dropL a.1 L) a.1 (by omega) (th_aAttrs H _)
    have h9 := fun H => k9 (T := TL) rfl (L := L) (M := M) (by omega) (th_aAttrs H L) (th_aAttrs H M)
    have h11 := fun H => q11 (T := TL) (L := L) (M := M) H rfl (by omega) (by omega)
    have h11' := fun H => q11 (T := TL) (L := M) (M := L) H rfl (by omega) (by omega)
    simp only [get_set, get_drop] at h7 h7'
    repeat refine wps_seq ?_
    refine wps_region callOK ?_
    simp [ofV, ofV1, mkC_P, writeVar, writeCells, readCells, allSingle, AV.single, getFs, getF, setFs, setF, Heap.get, Heap.set, Heap.new, Heap.kill, killF, pushF, Heap.ready, refs, sliceParts, fillA, replL, h5L, hL, h5M, hM, h5a, ha]
    repeat refine wps_seq ?_
    refine wps_cond rfl (fun h => ?_) fun h => ?_
    · cases h
    repeat refine wps_seq ?_
    refine wps_skip ?_
    simp
    repeat refine wps_seq ?_
    refine wps_drawK mixed callOK (by decide +kernel) (by decide +kernel) ?_
    simp [ofV, ofV1, mkC_P, writeVar, writeCells, readCells, allSingle, AV.single, getFs, getF, setFs, setF, Heap.get, Heap.set, Heap.new, Heap.kill, killF, pushF, Heap.ready, refs, sliceParts, fillA, replL, evalK_c, evalK_nil, thenK_some, h15, h7, gotA, fold_at]
    repeat refine wps_seq ?_
    refine wps_drawK mixed callOK (by decide +kernel) (by decide +kernel) ?_
    simp [ofV, ofV1, mkC_P, writeVar, writeCells, readCells, allSingle, AV.single, getFs, getF, setFs, setF, Heap.get, Heap.set, Heap.new, Heap.kill, killF, pushF, Heap.ready, refs, sliceParts, fillA, replL, evalK_c, evalK_nil, thenK_some, h17, h7', gotA, fold_at]
    rw [alike_symm M L] at h11'
    by_cases he : L = M
    · have e1 : decide (L = M) = true := by simp [he]
      have e2 : alikeL L M = true := by rw [← he]; exact alike_self L
      rw [e1] at h9
      rw [e2] at h11 h11'
      repeat refine wps_seq ?_
      refine wps_region callOK ?_
      simp [ofV, ofV1, mkC_P, writeVar, writeCells, readCells, allSingle, AV.single, getFs, getF, setFs, setF, Heap.get, Heap.set, Heap.new, Heap.kill, killF, pushF, Heap.ready, refs, sliceParts, fillA, replL, h9, h11, h11', h6]
      repeat refine wps_seq ?_
      refine wps_ret ?_
      simp [retVal, Try.f4, oneOr]
      exact ends_pure rfl rfl
    · have e1 : decide (L = M) = false := by simp [he]
      simp only [e1] at h9
      repeat refine wps_seq ?_
      refine wps_region callOK ?_
      simp [ofV, ofV1, mkC_P, writeVar, writeCells, readCells, allSingle, AV.single, getFs, getF, setFs, setF, Heap.get, Heap.set, Heap.new, Heap.kill, killF, pushF, Heap.ready, refs, sliceParts, fillA, replL, h9, h11, h11', h6]
      repeat refine wps_seq ?_
      refine wps_ret ?_
      simp [retVal, Try.f4, oneOr]
      exact ends_pure rfl rfl
end Go.Proofs.Ytnfodgjohekdgaa
