/- Attributes that are made: Clone, Add. No condition. -/
import Derived.Test.YtnfodgjohekdgaaF6
import Derived.Test.YtnfodgjohekdgaaG4
namespace Go.Proofs.Ytnfodgjohekdgaa
set_option linter.unusedSimpArgs false
set_option linter.unusedVariables false
open Go Go.RowKit
set_option maxRecDepth 100000

theorem el_attr (L : List At1) : Elems 2 (L.map aAttr) := .map (f := aAttr) (by omega) (fun x => ⟨rfl, rfl, fun h => (by omega), fun _ => ⟨[.str x.1, .str x.2], rfl⟩⟩) L
theorem single_attr : ∀ (L : List At1), allSingle (flatAV (L.map aAttr)) = true
  | [] => rfl
  | a :: r => by simp only [List.map_cons, flatAV, allSingle_append, single_attr r]; rfl
theorem c22 {T : List (Entry Try.prog)} (L : List At1) (hl : L.length ≤ 1000) : CallAt (ctx T) 22 [aAttrs L] ⟨0, []⟩ (ownV 0 2 (L.map aAttr)) ⟨1, [ownF 0 (L.map aAttr)]⟩ := by
  refine callAt_body (fn := Try.f22) (s0 := ⟨[0, 2], [aAttrs L, .undef], [], 8, ⟨0, [[]]⟩⟩) Try.func22 rfl rfl rfl ?_
  cases L with
  | nil =>
    refine wps_empty (pre := []) ?_ ?_
    · repeat refine wps_seq ?_
      refine wps_region callOK ?_
      simp [ofV, ofV1, mkC_P, writeVar, writeCells, readCells, allSingle, AV.single, getFs, getF, setFs, setF, Heap.get, Heap.set, Heap.new, Heap.kill, killF, pushF, Heap.ready, refs, sliceParts, fillA, replL]
      repeat refine wps_seq ?_
      refine wps_region callOK ?_
      simp [ofV, ofV1, mkC_P, writeVar, writeCells, readCells, allSingle, AV.single, getFs, getF, setFs, setF, Heap.get, Heap.set, Heap.new, Heap.kill, killF, pushF, Heap.ready, refs, sliceParts, fillA, replL]
      repeat refine wps_seq ?_
      refine wps_cond rfl (fun h => ?_) fun h => ?_
      · repeat refine wps_seq ?_
        refine wps_region callOK ?_
        simp [ofV, ofV1, mkC_P, writeVar, writeCells, readCells, allSingle, AV.single, getFs, getF, setFs, setF, Heap.get, Heap.set, Heap.new, Heap.kill, killF, pushF, Heap.ready, refs, sliceParts, fillA, replL]
        repeat refine wps_seq ?_
        refine wps_ret ?_
        simp [retVal, Try.f22, oneOr]
        exact ends_none (.inl rfl)
      · cases h
    · repeat refine wps_seq ?_
      refine wps_region callOK ?_
      simp [ofV, ofV1, mkC_P, writeVar, writeCells, readCells, allSingle, AV.single, getFs, getF, setFs, setF, Heap.get, Heap.set, Heap.new, Heap.kill, killF, pushF, Heap.ready, refs, sliceParts, fillA, replL]
      repeat refine wps_seq ?_
      refine wps_region callOK ?_
      simp [ofV, ofV1, mkC_P, writeVar, writeCells, readCells, allSingle, AV.single, getFs, getF, setFs, setF, Heap.get, Heap.set, Heap.new, Heap.kill, killF, pushF, Heap.ready, refs, sliceParts, fillA, replL]
      repeat refine wps_seq ?_
      refine wps_cond rfl (fun h => ?_) fun h => ?_
      · cases h
      · repeat refine wps_seq ?_
        refine wps_skip ?_
        simp
        have happ : appendA Try.prog ⟨1, [[(0, .cells [])]]⟩ 24 (.slc 0 0 0 (.ex 0)) .eslc = some (.slc 0 0 0 (.ex 0), ⟨1, [[(0, .cells [])]]⟩) := rfl
        repeat refine wps_seq ?_
        refine wps_region callOK ?_
        simp [ofV, ofV1, mkC_P, writeVar, writeCells, readCells, allSingle, AV.single, getFs, getF, setFs, setF, Heap.get, Heap.set, Heap.new, Heap.kill, killF, pushF, Heap.ready, refs, sliceParts, fillA, replL, happ]
        repeat refine wps_seq ?_
        refine wps_ret ?_
        simp [retVal, Try.f22, oneOr]
        exact ends_none (.inr (.inr ⟨_, rfl⟩))
  | cons a r =>
    have happ := app_lit (P := Try.prog) (H := ⟨1, [[(0, .cells [])]]⟩) (b := 0) (x := aAttrs (a :: r)) (n := r.length) szT24 byT24 zeT24 rfl (by omega) (by omega) (src_fslc (H := ⟨0, []⟩) (by simp)).1 (cs := flatAV ((a :: r).map aAttr))
      (src_fslc (by simp)).2 (by rw [(el_attr _).len]; simp) (single_attr _) (by simp at hl ⊢; omega) rfl
    repeat refine wps_seq ?_
    refine wps_region callOK ?_
    simp [ofV, ofV1, mkC_P, writeVar, writeCells, readCells, allSingle, AV.single, getFs, getF, setFs, setF, Heap.get, Heap.set, Heap.new, Heap.kill, killF, pushF, Heap.ready, refs, sliceParts, fillA, replL]
    repeat refine wps_seq ?_
    refine wps_region callOK ?_
    simp [ofV, ofV1, mkC_P, writeVar, writeCells, readCells, allSingle, AV.single, getFs, getF, setFs, setF, Heap.get, Heap.set, Heap.new, Heap.kill, killF, pushF, Heap.ready, refs, sliceParts, fillA, replL, aAttrs]
    repeat refine wps_seq ?_
    refine wps_cond rfl (fun h => ?_) fun h => ?_
    · cases h
    · repeat refine wps_seq ?_
      refine wps_skip ?_
      simp
      simp only [aAttrs, List.map_cons] at happ
      repeat refine wps_seq ?_
      refine wps_region callOK ?_
      simp [ofV, ofV1, mkC_P, writeVar, writeCells, readCells, allSingle, AV.single, getFs, getF, setFs, setF, Heap.get, Heap.set, Heap.new, Heap.kill, killF, pushF, Heap.ready, refs, sliceParts, fillA, replL, happ]
      repeat refine wps_seq ?_
      refine wps_ret ?_
      simp [retVal, Try.f22, oneOr]
      exact ends_own (b := 1) (es := (a :: r).map aAttr) (el_attr _) (by simp) (by simp) (by simp [Heap.get, getFs, getF, Heap.new, pushF])
noncomputable def e22 : Entry Try.prog := mkOwn 22 [[2]] (fun L : List At1 => [aAttrs L]) (fun L => L.length ≤ 1000) 2 (fun L => L.map aAttr) el_attr fun L hl => c22 (T := []) L hl
theorem k22 {T : List (Entry Try.prog)} (hT : findE 22 T = some e22.g) {L : List At1} (hl : L.length ≤ 1000) (H : Heap) : callL (ctx T) 22 [aAttrs L] H = some (ownV H.n 2 (L.map aAttr), ownH H (L.map aAttr)) :=
  mkOwn_eq hT (fun x y h => by simp at h; exact inj_aAttrs h) L hl (by simp [pureL]) (by simp [thawA_ok]) H
def addL (L : List At1) (a : At1) : List At1 := if placeL L a.1 < 0 then L ++ [a] else L
theorem c13 {T : List (Entry Try.prog)} (h19 : findE 19 T = some e19.g) (h22 : findE 22 T = some e22.g) (L : List At1) (a : At1) (hl : L.length ≤ 900) : CallAt (ctx T) 13 [aAttrs L, aAttr a] ⟨0, []⟩ (ownV 0 2 ((addL L a).map aAttr)) ⟨1, [ownF 0 ((addL L a).map aAttr)]⟩ := by
  refine callAt_body (fn := Try.f13) (s0 := ⟨[0, 1, 3, 4, 5], [aAttrs L, aAttr a, .undef, .undef, .undef], [], 18, ⟨0, [[]]⟩⟩) Try.func13 rfl rfl rfl ?_
  repeat refine wps_seq ?_
  refine wps_region callOK ?_
  simp [ofV, ofV1, mkC_P, writeVar, writeCells, readCells, allSingle, AV.single, getFs, getF, setFs, setF, Heap.get, Heap.set, Heap.new, Heap.kill, killF, pushF, Heap.ready, refs, sliceParts, fillA, replL]
  repeat refine wps_seq ?_
  refine wps_region callOK ?_
  simp [ofV, ofV1, mkC_P, writeVar, writeCells, readCells, allSingle, AV.single, getFs, getF, setFs, setF, Heap.get, Heap.set, Heap.new, Heap.kill, killF, pushF, Heap.ready, refs, sliceParts, fillA, replL, k22 h22 (show L.length ≤ 1000 by omega)]
  -- the state behind Clone
  repeat refine wps_seq ?_
  refine .fit (s' := (⟨[0, 1, 3, 4, 5], [aAttrs L, .undef, .ptr 0 0, .undef, ownV 1 2 (L.map aAttr)], [], 18, ⟨2, [ownF 1 (L.map aAttr) ++ [(0, Blk.cells [.str a.1, .str a.2])]]⟩⟩ : St)) [(1, 1), (0, 0)] [] ⟨rfl, rfl, rfl, ?_, .canon (b := 1) (g := [(0, .cells [.str a.1, .str a.2])]) (el_attr L) (by simp [fitB, fitL, fitV, pureV]) (by simp)⟩ ?_
  · simp [fitL, fitV, lookN, fitV_own]
  · have hp := k19 h19 (L := L) a.1 (show L.length ≤ 1000 by omega) (H := ⟨2, [ownF 1 (L.map aAttr) ++ [(0, .cells [.str a.1, .str a.2])]]⟩) (th_aAttrs _ L)
    have hg : getF 0 (ownF 1 (L.map aAttr) ++ [(0, .cells [.str a.1, .str a.2])]) = some (.cells [.str a.1, .str a.2]) := by cases L <;> rfl
    repeat refine wps_seq ?_
    refine wps_region callOK ?_
    simp [ofV, ofV1, mkC_P, writeVar, writeCells, readCells, allSingle, AV.single, getFs, getF, setFs, setF, Heap.get, Heap.set, Heap.new, Heap.kill, killF, pushF, Heap.ready, refs, sliceParts, fillA, replL, hp, hg]
    repeat refine wps_seq ?_
    refine wps_cond rfl (fun h => ?_) fun h => ?_
    · simp at h
      have happ := own_app1 (P := Try.prog) (elem := 24) (b := 1) (t := 2) (m := 3) (es := L.map aAttr) (cs := [.str a.1, .str a.2]) (g := [(0, .cells [.str a.1, .str a.2])]) (fs := []) szT24 byT24 zeT24 rfl (by omega) (by omega) rfl rfl (el_attr L) (by simp; omega) (by omega) (by simp) (by simp)
      repeat refine wps_seq ?_
      refine wps_region callOK ?_
      simp [ofV, ofV1, mkC_P, writeVar, writeCells, readCells, allSingle, AV.single, getFs, getF, setFs, setF, Heap.get, Heap.set, Heap.new, Heap.kill, killF, pushF, Heap.ready, refs, sliceParts, fillA, replL, hg, happ]
      repeat refine wps_seq ?_
      refine wps_region callOK ?_
      simp [ofV, ofV1, mkC_P, writeVar, writeCells, readCells, allSingle, AV.single, getFs, getF, setFs, setF, Heap.get, Heap.set, Heap.new, Heap.kill, killF, pushF, Heap.ready, refs, sliceParts, fillA, replL]
      repeat refine wps_seq ?_
      refine wps_ret ?_
      simp [retVal, Try.f13, oneOr]
      have e : addL L a = L ++ [a] := if_pos h
      have e2 : (addL L a).map aAttr = L.map aAttr ++ [aAttr a] := by rw [e]; simp
      exact ends_own (b := 3) (es := (addL L a).map aAttr) (el_attr _) (by rw [e2]; simp) (by rw [e2]; simp) (by rw [e2, flat_append]; simp [Heap.get, getFs, getF, flatAV, Heap.new, pushF])
    · simp at h
      repeat refine wps_seq ?_
      refine wps_skip ?_
      simp
      repeat refine wps_seq ?_
      refine wps_region callOK ?_
      simp [ofV, ofV1, mkC_P, writeVar, writeCells, readCells, allSingle, AV.single, getFs, getF, setFs, setF, Heap.get, Heap.set, Heap.new, Heap.kill, killF, pushF, Heap.ready, refs, sliceParts, fillA, replL]
      repeat refine wps_seq ?_
      refine wps_ret ?_
      simp [retVal, Try.f13, oneOr]
      have e : addL L a = L := if_neg (by omega)
      rw [e]
      cases L with
      | nil => exact ends_none (.inr (.inl rfl))
      | cons b r => exact ends_own (b := 1) (es := (b :: r).map aAttr) (el_attr _) (by simp) rfl (by simp [Heap.get, getFs, getF, ownF])
end Go.Proofs.Ytnfodgjohekdgaa
