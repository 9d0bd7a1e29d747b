/- Attributes with one that is set, by the program and by the reference. No condition. -/
import Derived.Test.YtnfodgjohekdgaaG5
namespace Go.Proofs.Ytnfodgjohekdgaa
set_option linter.unusedSimpArgs false
set_option linter.unusedVariables false
open Go Go.RowKit
set_option maxRecDepth 100000

theorem addL_ne (L : List At1) (a : At1) : addL L a ≠ [] := by
  unfold addL
  split
  · simp
  · rename_i h
    cases L with
    | nil => simp [placeL, idxFrom] at h
    | cons _ _ => simp
theorem addL_len (L : List At1) (a : At1) : (addL L a).length ≤ L.length + 1 := by
  unfold addL; split <;> simp
noncomputable def e13 : Entry Try.prog := mkOwn 13 [[2], []] (fun x : List At1 × At1 => [aAttrs x.1, aAttr x.2]) (fun x => x.1.length ≤ 900) 2 (fun x => (addL x.1 x.2).map aAttr) (fun _ => el_attr _) fun x hl => c13 (T := [e19, e22]) rfl rfl x.1 x.2 hl
theorem injA (x y : List At1 × At1) (h : [aAttrs x.1, aAttr x.2] = [aAttrs y.1, aAttr y.2]) : x = y := by
  simp at h; exact Prod.ext (inj_aAttrs h.1) (inj_aAttr h.2)
theorem k13 {T : List (Entry Try.prog)} (hT : findE 13 T = some e13.g) {L : List At1} {a : At1} (hl : L.length ≤ 900) (H : Heap) : callL (ctx T) 13 [aAttrs L, aAttr a] H = some (ownV H.n 2 ((addL L a).map aAttr), ownH H ((addL L a).map aAttr)) :=
  mkOwn_eq hT injA (L, a) hl (by simp [pureL]) (by simp [thawA_ok]) H
/-- the place of the first one -/
theorem place_spec (L : List At1) (nm : Str) : (placeL L nm = -1 ∧ ∀ a, a ∈ L → a.1 ≠ nm) ∨ ∃ i, ∃ h : i < L.length, placeL L nm = (i : Int) ∧ L[i].1 = nm ∧ ∀ j (hj : j < i), (L[j]'(by omega)).1 ≠ nm := by
  have key : ∀ (L : List At1) (k : Nat), (idxFrom (fun a => decide (a.1 = nm)) L k = -1 ∧ ∀ a, a ∈ L → a.1 ≠ nm) ∨ ∃ i, ∃ h : i < L.length, idxFrom (fun a => decide (a.1 = nm)) L k = (k + i : Nat) ∧ L[i].1 = nm ∧ ∀ j (hj : j < i), (L[j]'(by omega)).1 ≠ nm := by
    intro L
    induction L with
    | nil => intro k; exact .inl ⟨rfl, fun a h => by cases h⟩
    | cons a r ih =>
      intro k
      by_cases hq : a.1 = nm
      · exact .inr ⟨0, by simp, by simp [idxFrom, hq], hq, fun j hj => absurd hj (Nat.not_lt_zero j)⟩
      · rcases ih (k + 1) with ⟨h1, h2⟩ | ⟨i, h, h1, h2, h3⟩
        · refine .inl ⟨by simp [idxFrom, hq, h1], fun b hb => ?_⟩
          rcases List.mem_cons.1 hb with rfl | hb
          · exact hq
          · exact h2 b hb
        · refine .inr ⟨i + 1, by simpa using h, by simp [idxFrom, hq, h1]; omega, h2, fun j hj => ?_⟩
          cases j with
          | zero => exact hq
          | succ j => exact h3 j (by omega)
  have := key L 0
  simp only [Nat.zero_add] at this
  exact this
theorem place_add (L : List At1) (a : At1) : ∃ i, ∃ h : i < (addL L a).length, placeL (addL L a) a.1 = (i : Int) ∧ (addL L a)[i].1 = a.1 ∧ ∀ j (hj : j < i), ((addL L a)[j]'(by omega)).1 ≠ a.1 := by
  rcases place_spec (addL L a) a.1 with ⟨_, h2⟩ | h
  · exfalso
    unfold addL at h2
    split at h2
    · exact h2 a (by simp) rfl
    · rename_i hp
      rcases place_spec L a.1 with ⟨h3, _⟩ | ⟨i, hi, _, h4, _⟩
      · omega
      · exact h2 _ (List.getElem_mem hi) h4
  · exact h
def setL1 (L : List At1) (a : At1) : List At1 := (addL L a).set (placeL (addL L a) a.1).toNat a
theorem fold_at (a : At1) : AV.agg [.str a.1, .str a.2] = aAttr a := rfl
theorem ix22 {b o len i : Nat} {cap : Cap} (h : i < len) : indexAddrA Try.prog 22 (.slc b o len cap) (.int .i64 (i : Int)) = some (.ptr b (o + i * 2)) := by simp [indexAddrA, idx_nat h]
theorem c15 {T : List (Entry Try.prog)} (h19 : findE 19 T = some e19.g) (h13 : findE 13 T = some e13.g) (L : List At1) (a : At1) (hl : L.length ≤ 900) : CallAt (ctx T) 15 [aAttrs L, aAttr a] ⟨0, []⟩ (.fslc 2 ((setL1 L a).map aAttr)) ⟨0, []⟩ := by
  refine callAt_body (fn := Try.f15) (s0 := ⟨[0, 1, 3, 4, 5], [aAttrs L, aAttr a, .undef, .undef, .undef], [], 19, ⟨0, [[]]⟩⟩) Try.func15 rfl rfl rfl ?_
  have hne : (addL L a).map aAttr ≠ [] := by simpa using addL_ne L a
  have hlen := addL_len L a
  obtain ⟨i, hi, h1, h2, h3⟩ := place_add L a
  have hH : ownH ⟨1, [[(0, .cells [.str a.1, .str a.2])]]⟩ ((addL L a).map aAttr) = ⟨2, [[(1, .cells (flatAV ((addL L a).map aAttr))), (0, .cells [.str a.1, .str a.2])]]⟩ := by
    cases he : (addL L a).map aAttr with
    | nil => exact absurd he hne
    | cons x r => rfl
  have hc := k13 h13 hl (a := a) ⟨1, [[(0, .cells [.str a.1, .str a.2])]]⟩
  rw [ownV_ne hne, hH] at hc
  have ht : thawA ⟨12, [[(1, .cells (flatAV ((addL L a).map aAttr))), (0, .cells [.str a.1, .str a.2])]]⟩ [2] (.slc 1 0 (addL L a).length (.rest 2)) = some (aAttrs (addL L a)) := by
    have := thawA_slc (H := ⟨12, [[(1, .cells (flatAV ((addL L a).map aAttr))), (0, .cells [.str a.1, .str a.2])]]⟩) (r := []) (b := 1) (cap := .rest 2) (el_attr (addL L a)) rfl
    simpa [aAttrs] using this
  have hp := k19 h19 a.1 (show (addL L a).length ≤ 1000 by omega) ht
  have hs : (setL1 L a).map aAttr = ((addL L a).map aAttr).set i (aAttr a) := by simp [setL1, h1, List.map_set]
  have hw : layL [.str a.2] (i * 2 + 1) (flatAV ((addL L a).map aAttr)) = some (flatAV ((setL1 L a).map aAttr)) := by
    have := lay_cell (el_attr (addL L a)) (i := i) (by simpa using hi) (p := [.str a.1]) (x := .str (addL L a)[i].2) (q := []) (v := .str a.2) (by simp [h2])
    rw [hs]; exact this
  repeat refine wps_seq ?_
  refine wps_region callOK ?_
  simp [ofV, ofV1, mkC_P, writeVar, writeCells, readCells, allSingle, AV.single, getFs, getF, setFs, setF, Heap.get, Heap.set, Heap.new, Heap.kill, killF, pushF, Heap.ready, refs, sliceParts, fillA, replL]
  repeat refine wps_seq ?_
  refine wps_region callOK ?_
  simp [ofV, ofV1, mkC_P, writeVar, writeCells, readCells, allSingle, AV.single, getFs, getF, setFs, setF, Heap.get, Heap.set, Heap.new, Heap.kill, killF, pushF, Heap.ready, refs, sliceParts, fillA, replL, hc, fold_at]
  repeat refine wps_seq ?_
  refine wps_drawn mixed callOK (by decide +kernel) fun B_ hB_ => ?_
  have d_3_4 : ahead B_ 3 4 = true := by rw [hB_]; decide +kernel
  have d_3_9 : ahead B_ 3 9 = true := by rw [hB_]; decide +kernel
  have d_4_3 : ahead B_ 4 3 = false := by rw [hB_]; decide +kernel
  have d_4_6 : ahead B_ 4 6 = false := by rw [hB_]; decide +kernel
  have d_6_4 : ahead B_ 6 4 = false := by rw [hB_]; decide +kernel
  have d_6_9 : ahead B_ 6 9 = true := by rw [hB_]; decide +kernel
  have d_9_3 : ahead B_ 9 3 = false := by rw [hB_]; decide +kernel
  have d_9_6 : ahead B_ 9 6 = false := by rw [hB_]; decide +kernel
  simp [ofV, ofV1, mkC_P, writeVar, writeCells, readCells, allSingle, AV.single, getFs, getF, setFs, setF, Heap.get, Heap.set, Heap.new, Heap.kill, killF, pushF, Heap.ready, refs, sliceParts, fillA, replL, mkBlk, guardA, evalD, stepD, clsOf, reserve, freshenAll, sameRecs, sameAll, sameAt, allPend, Heap.lay, ontoF, wantedBy, unwantedBy, d_3_4, d_3_9, d_4_3, d_4_6, d_6_4, d_6_9, d_9_3, d_9_6, hp, h1, ix22 hi, hw]
  repeat refine wps_seq ?_
  refine wps_region callOK ?_
  simp [ofV, ofV1, mkC_P, writeVar, writeCells, readCells, allSingle, AV.single, getFs, getF, setFs, setF, Heap.get, Heap.set, Heap.new, Heap.kill, killF, pushF, Heap.ready, refs, sliceParts, fillA, replL]
  repeat refine wps_seq ?_
  refine wps_ret ?_
  simp [retVal, Try.f15, oneOr]
  have hsl : ((setL1 L a).map aAttr).length = (addL L a).length := by rw [hs]; simp
  refine ends_front (b := 1) (es := (setL1 L a).map aAttr) (el_attr _) (by simp [Heap.get, getFs, getF]) (by omega) (by rw [← hsl, List.take_length])
end Go.Proofs.Ytnfodgjohekdgaa
