/- DeleteFunc, Drop. No condition. -/
import Derived.Test.YtnfodgjohekdgaaG8
namespace Go.Proofs.Ytnfodgjohekdgaa
set_option linter.unusedSimpArgs false
set_option linter.unusedVariables false
open Go Go.RowKit
set_option maxRecDepth 100000

theorem c24 {T : List (Entry Try.prog)} (a : At1) (nm : Str) : CallAt (ctx T) 24 [aAttr a, .fptr [.str nm] 0] ⟨0, []⟩ (.bool (decide (a.1 = nm))) ⟨0, []⟩ := by
  refine callAt_body (fn := Try.f24) (s0 := ⟨[0, 1, 2, 3], [aAttr a, .fptr [.str nm] 0, .undef, .undef], [], 8, ⟨0, [[]]⟩⟩) Try.func24 rfl rfl rfl ?_
  repeat refine wps_seq ?_
  refine wps_region callOK ?_
  simp [ofV, ofV1, mkC_P, writeVar, writeCells, readCells, allSingle, AV.single, getFs, getF, setFs, setF, Heap.get, Heap.set, Heap.new, Heap.kill, killF, pushF, Heap.ready, refs, sliceParts, fillA, replL, aAttr]
  repeat refine wps_seq ?_
  refine wps_region callOK ?_
  simp [ofV, ofV1, mkC_P, writeVar, writeCells, readCells, allSingle, AV.single, getFs, getF, setFs, setF, Heap.get, Heap.set, Heap.new, Heap.kill, killF, pushF, Heap.ready, refs, sliceParts, fillA, replL]
  repeat refine wps_seq ?_
  refine wps_ret ?_
  simp [retVal, Try.f24, oneOr]
  exact ends_pure rfl rfl
noncomputable def e24 : Entry Try.prog := mkE 24 [[], []] (fun x : At1 × Str => [aAttr x.1, .fptr [.str x.2] 0]) (fun _ => True) (fun x => .bool (decide (x.1.1 = x.2))) fun x _ => c24 (T := []) x.1 x.2
theorem k24 {T : List (Entry Try.prog)} (hT : findE 24 T = some e24.g) (a : At1) {nm : Str} {b : Nat} {H : Heap} (h : H.get b = some (.cells [.str nm])) : callL (ctx T) 24 [aAttr a, .ptr b 0] H = some (.bool (decide (a.1 = nm)), H) :=
  mkE_scalar hT (fun x y h => by simp at h; exact Prod.ext (inj_aAttr h.1) h.2) (a, nm) trivial rfl (by simp [thawA_ok, thawA_ptr (o := 0) (ss := []) h rfl])
/-- no memory: nothing to delete -/
theorem c23z {T : List (Entry Try.prog)} (nm : Str) : CallAt (ctx T) 23 [.zslc, .func (.func 24) [] [.ptr 0 0]] ⟨1, [[(0, .cells [.str nm])]]⟩ .zslc ⟨1, [[(0, .cells [.str nm])]]⟩ := by
  refine callAt_body (fn := Try.f23) (s0 := ⟨[0, 1, 4, 5, 6, 7], [.zslc, .func (.func 24) [] [.ptr 0 0], .undef, .undef, .undef, .undef], [], 42, ⟨1, [] :: [[(0, .cells [.str nm])]]⟩⟩) Try.func23 rfl rfl rfl ?_
  repeat refine wps_seq ?_
  refine wps_region callOK ?_
  simp [ofV, ofV1, mkC_P, writeVar, writeCells, readCells, allSingle, AV.single, getFs, getF, setFs, setF, Heap.get, Heap.set, Heap.new, Heap.kill, killF, pushF, Heap.ready, refs, sliceParts, fillA, replL]
  repeat refine wps_seq ?_
  refine wps_region (callOKF [⟨25, [.zslc, .func (.func 24) [] [.ptr 0 0]], ⟨1, [[], [(0, .cells [.str nm])]]⟩, .int .i64 (idxFrom (fun a : At1 => decide (a.1 = nm)) [] 0), _,
    CallAt.thaw (c25 [] (by simp) 24 [.fptr [.str nm] 0] rfl (fun a => decide (a.1 = nm)) fun a => c24 a nm) rfl [[2]] (by simp [thawA_zslc, aAttrs, thawA_clo (H := ⟨1, [[], [(0, .cells [.str nm])]]⟩) (b := 0) (cs := [.str nm]) rfl rfl])⟩]) ?_
  simp [ofV, ofV1, mkC_P, writeVar, writeCells, readCells, allSingle, AV.single, getFs, getF, setFs, setF, Heap.get, Heap.set, Heap.new, Heap.kill, killF, pushF, Heap.ready, refs, sliceParts, fillA, replL, callF, idxFrom]
  repeat refine wps_seq ?_
  refine wps_region callOK ?_
  simp [ofV, ofV1, mkC_P, writeVar, writeCells, readCells, allSingle, AV.single, getFs, getF, setFs, setF, Heap.get, Heap.set, Heap.new, Heap.kill, killF, pushF, Heap.ready, refs, sliceParts, fillA, replL]
  repeat refine wps_seq ?_
  refine wps_cond rfl (fun h => ?_) fun h => ?_
  · repeat refine wps_seq ?_
    refine wps_region callOK ?_
    simp [ofV, ofV1, mkC_P, writeVar, writeCells, readCells, allSingle, AV.single, getFs, getF, setFs, setF, Heap.get, Heap.set, Heap.new, Heap.kill, killF, pushF, Heap.ready, refs, sliceParts, fillA, replL]
    repeat refine wps_seq ?_
    refine wps_ret ?_
    simp [retVal, Try.f23, oneOr]
    refine ⟨[(0, 0)], [], by simp [fitV], .same (by simp) (by simp) (by simp) (by simp) (by simp [Heap.ents]) ?_⟩
    simp [Heap.ents, Heap.get, getFs, getF, fitB, fitL, fitV, pureV]
  · simp at h

theorem clear_own {n i : Nat} {L : List At1} {f g : List (Nat × Blk)} {m : Nat} (hi : i ≤ L.length) (hn : n = L.length - i) (hf : getF 1 f = none) (hg : ∀ e, e ∈ g → True) : clearA Try.prog ⟨m, [f, (1, .cells (flatAV (L.map aAttr))) :: g]⟩ 22 (.slc 1 (i * 2) n (.rest 2)) =
    some ⟨m, [f, (1, .cells (flatAV ((L.take i ++ List.replicate (L.length - i) (([], []) : At1)).map aAttr))) :: g]⟩ := by
  subst hn
  have e1 : ∀ k, replL [AV.str [], AV.str []] k = flatAV ((List.replicate k (([], []) : At1)).map aAttr) := fun k => by
    induction k with
    | zero => rfl
    | succ k ih => simp only [replL, ih, List.replicate_succ, List.map_cons, flatAV, cells_aAttr]
  have hl := lay_end (el_attr L) (i := i) (by simpa using hi) (l := replL [AV.str [], AV.str []] (L.length - i)) (by rw [replL_len]; simp)
  have hr : ∀ k, (List.flatMap (refs 6) (replL [AV.str [], AV.str []] k)) = [] := fun k => by
    induction k with
    | zero => rfl
    | succ k ih => simp only [replL, List.flatMap_append, ih]; rfl
  have hsg := replL_single (z := [AV.str [], AV.str []]) rfl (L.length - i)
  unfold clearA
  simp only [Try.underlying22, Option.bind_some, zeT24, szT24, cells_agg]
  have h2 : (Nat.beq [AV.str [], AV.str []].length 2 && allSingle [AV.str [], AV.str []]) = true := rfl
  simp only [h2, writeCells, Heap.get, getFs, hf, getF, Nat.beq_refl, Option.bind_some, hl, Heap.ready, hr, Heap.set, setFs]
  have hs : setF 1 (.cells (flatAV ((L.map aAttr).take i) ++ replL [AV.str [], AV.str []] (L.length - i))) f = none := by
    clear h2 hsg hr hl e1 hg
    induction f with
    | nil => rfl
    | cons e r ih =>
      unfold getF at hf
      unfold setF
      cases hb : Nat.beq e.1 1 with
      | true => simp [hb] at hf
      | false =>
        simp only [hb] at hf ⊢
        rw [ih hf]; rfl
  rw [e1] at hs ⊢
  simp only [hs, setF, Nat.beq_refl, Option.bind_some]
  rw [List.map_append, flat_append, List.map_take]
theorem c23 {T : List (Entry Try.prog)} (h24 : findE 24 T = some e24.g) (L : List At1) (nm : Str) (hne : L ≠ []) (hl : L.length ≤ 900) : ∃ M : List At1, M.length = L.length ∧ M.take (dropL nm L).length = dropL nm L ∧
    CallAt (ctx T) 23 [.slc 1 0 L.length (.rest 2), .func (.func 24) [] [.ptr 0 0]] ⟨2, [[(1, .cells (flatAV (L.map aAttr))), (0, .cells [.str nm])]]⟩ (.slc 1 0 (dropL nm L).length (.rest 2)) ⟨2, [[(1, .cells (flatAV (M.map aAttr))), (0, .cells [.str nm])]]⟩ := by
  have hth : ∀ H : Heap, H.get 1 = some (.cells (flatAV (L.map aAttr))) → thawA H [2] (.slc 1 0 L.length (.rest 2)) = some (aAttrs L) := fun H h => by
    have := thawA_slc (H := H) (r := []) (b := 1) (cap := .rest 2) (el_attr L) h
    simpa [aAttrs] using this
  have hth1 := hth ⟨2, [[], [(1, .cells (flatAV (L.map aAttr))), (0, .cells [.str nm])]]⟩ rfl
  rcases place_spec L nm with ⟨h1, h2⟩ | ⟨i0, hi0, h1, h2, h3⟩
  · -- no one is deleted
    have hd : dropL nm L = L := List.filter_eq_self.2 fun a ha => by simp [h2 a ha]
    refine ⟨L, rfl, by rw [hd, List.take_length], ?_⟩
    rw [hd]
    refine callAt_body (fn := Try.f23) (s0 := ⟨[0, 1, 4, 5, 6, 7], [.slc 1 0 L.length (.rest 2), .func (.func 24) [] [.ptr 0 0], .undef, .undef, .undef, .undef], [], 42, ⟨2, [] :: [[(1, .cells (flatAV (L.map aAttr))), (0, .cells [.str nm])]]⟩⟩) Try.func23 rfl rfl rfl ?_
    repeat refine wps_seq ?_
    refine wps_region callOK ?_
    simp [ofV, ofV1, mkC_P, writeVar, writeCells, readCells, allSingle, AV.single, getFs, getF, setFs, setF, Heap.get, Heap.set, Heap.new, Heap.kill, killF, pushF, Heap.ready, refs, sliceParts, fillA, replL]
    repeat refine wps_seq ?_
    refine wps_region (callOKF [⟨25, [.slc 1 0 L.length (.rest 2), .func (.func 24) [] [.ptr 0 0]], ⟨2, [[], [(1, .cells (flatAV (L.map aAttr))), (0, .cells [.str nm])]]⟩, .int .i64 (placeL L nm), _,
      CallAt.thaw (c25 L (by omega) 24 [.fptr [.str nm] 0] rfl (fun a => decide (a.1 = nm)) fun a => c24 a nm) rfl [[2]] (by simp [hth1, thawA_clo (H := ⟨2, [[], [(1, .cells (flatAV (L.map aAttr))), (0, .cells [.str nm])]]⟩) (b := 0) (cs := [.str nm]) rfl rfl])⟩]) ?_
    simp [ofV, ofV1, mkC_P, writeVar, writeCells, readCells, allSingle, AV.single, getFs, getF, setFs, setF, Heap.get, Heap.set, Heap.new, Heap.kill, killF, pushF, Heap.ready, refs, sliceParts, fillA, replL, callF, h1]
    repeat refine wps_seq ?_
    refine wps_region callOK ?_
    simp [ofV, ofV1, mkC_P, writeVar, writeCells, readCells, allSingle, AV.single, getFs, getF, setFs, setF, Heap.get, Heap.set, Heap.new, Heap.kill, killF, pushF, Heap.ready, refs, sliceParts, fillA, replL]
    repeat refine wps_seq ?_
    refine wps_cond rfl (fun h => ?_) fun h => ?_
    · repeat refine wps_seq ?_
      refine wps_region callOK ?_
      simp [ofV, ofV1, mkC_P, writeVar, writeCells, readCells, allSingle, AV.single, getFs, getF, setFs, setF, Heap.get, Heap.set, Heap.new, Heap.kill, killF, pushF, Heap.ready, refs, sliceParts, fillA, replL]
      repeat refine wps_seq ?_
      refine wps_ret ?_
      simp [retVal, Try.f23, oneOr]
      refine ⟨[(1, 1), (0, 0)], [], by simp [fitV, lookN], .same (by simp) (by simp) (by simp) (by simp) (by simp [Heap.ents]) ?_⟩
      simp only [Heap.ents, List.flatten_cons, List.flatten_nil, List.append_nil, List.nil_append]
      intro e he
      rcases List.mem_cons.1 he with rfl | he
      · exact ⟨by simp, by simp [Heap.get, getFs, getF], fitL_pure (el_attr L).pure⟩
      · simp at he; subst he; exact ⟨by simp, by simp [Heap.get, getFs, getF], by simp [fitB, fitL, fitV, pureV]⟩
    · simp at h
  · have hd0 : dropL nm (L.take i0) = L.take i0 := List.filter_eq_self.2 fun a ha => by
      obtain ⟨j, hj, rfl⟩ := List.getElem_of_mem ha
      have hj' : j < i0 := by simp at hj; omega
      have := h3 j hj'
      simpa using this
    have hds : ∀ j (h : j < L.length), dropL nm (L.take (j + 1)) = dropL nm (L.take j) ++ (if L[j].1 = nm then [] else [L[j]]) := fun j h => by
      rw [take_succ' h]
      simp only [dropL, List.filter_append]
      congr 1
      by_cases e : L[j].1 = nm <;> simp [e]
    -- the inner state
    suffices hmain : ∃ M : List At1, M.length = L.length ∧ M.take (dropL nm L).length = dropL nm L ∧
        CallAt (ctx T) 23 [.slc 1 0 L.length (.rest 2), .func (.func 24) [] [.ptr 0 0]] ⟨2, [[(1, .cells (flatAV (L.map aAttr))), (0, .cells [.str nm])]]⟩ (.slc 1 0 (dropL nm L).length (.rest 2)) ⟨2, [[(1, .cells (flatAV (M.map aAttr))), (0, .cells [.str nm])]]⟩ from hmain
    refine ⟨dropL nm L ++ List.replicate (L.length - (dropL nm L).length) ([], []), ?_, by simp, ?_⟩
    · have := List.length_filter_le (fun a : At1 => !decide (a.1 = nm)) L
      simp only [dropL]
      simp at this ⊢
      omega
    refine callAt_body (fn := Try.f23) (s0 := ⟨[0, 1, 4, 5, 6, 7], [.slc 1 0 L.length (.rest 2), .func (.func 24) [] [.ptr 0 0], .undef, .undef, .undef, .undef], [], 42, ⟨2, [] :: [[(1, .cells (flatAV (L.map aAttr))), (0, .cells [.str nm])]]⟩⟩) Try.func23 rfl rfl rfl ?_
    repeat refine wps_seq ?_
    refine wps_region callOK ?_
    simp [ofV, ofV1, mkC_P, writeVar, writeCells, readCells, allSingle, AV.single, getFs, getF, setFs, setF, Heap.get, Heap.set, Heap.new, Heap.kill, killF, pushF, Heap.ready, refs, sliceParts, fillA, replL]
    repeat refine wps_seq ?_
    refine wps_region (callOKF [⟨25, [.slc 1 0 L.length (.rest 2), .func (.func 24) [] [.ptr 0 0]], ⟨2, [[], [(1, .cells (flatAV (L.map aAttr))), (0, .cells [.str nm])]]⟩, .int .i64 (placeL L nm), _,
      CallAt.thaw (c25 L (by omega) 24 [.fptr [.str nm] 0] rfl (fun a => decide (a.1 = nm)) fun a => c24 a nm) rfl [[2]] (by simp [hth1, thawA_clo (H := ⟨2, [[], [(1, .cells (flatAV (L.map aAttr))), (0, .cells [.str nm])]]⟩) (b := 0) (cs := [.str nm]) rfl rfl])⟩]) ?_
    simp [ofV, ofV1, mkC_P, writeVar, writeCells, readCells, allSingle, AV.single, getFs, getF, setFs, setF, Heap.get, Heap.set, Heap.new, Heap.kill, killF, pushF, Heap.ready, refs, sliceParts, fillA, replL, callF, h1]
    repeat refine wps_seq ?_
    refine wps_region callOK ?_
    simp [ofV, ofV1, mkC_P, writeVar, writeCells, readCells, allSingle, AV.single, getFs, getF, setFs, setF, Heap.get, Heap.set, Heap.new, Heap.kill, killF, pushF, Heap.ready, refs, sliceParts, fillA, replL]
    repeat refine wps_seq ?_
    refine wps_cond rfl (fun h => ?_) fun h => ?_
    · simp at h
    · repeat refine wps_seq ?_
      refine wps_skip ?_
      simp
      repeat refine wps_seq ?_
      refine wps_region callOK ?_
      simp [ofV, ofV1, mkC_P, writeVar, writeCells, readCells, allSingle, AV.single, getFs, getF, setFs, setF, Heap.get, Heap.set, Heap.new, Heap.kill, killF, pushF, Heap.ready, refs, sliceParts, fillA, replL, add_one (show i0 ≤ 1000000000 by omega)]
      repeat refine wps_seq ?_
      refine wps_block (wps_loop' (fun x : Nat × Nat × List At1 => (⟨[0, 1, 4, 5, 6, 7], [.slc 1 0 L.length (.rest 2), .func (.func 24) [] [.ptr 0 0], .undef, .int .i64 x.1, .int .i64 x.2.1, .undef], [], 42, ⟨2, [[], [(1, .cells (flatAV (x.2.2.map aAttr))), (0, .cells [.str nm])]]⟩⟩ : St))
        (fun x => x.2.1 ≤ L.length ∧ x.1 < x.2.1 ∧ x.2.2.length = L.length ∧ x.2.2.take x.1 = dropL nm (L.take x.2.1) ∧ x.2.2.drop x.2.1 = L.drop x.2.1) (fun x => L.length - x.2.1) [(1, 1), (0, 0)] [] (i0, i0 + 1, L)
        ⟨by simp; omega, by simp, rfl, by rw [hds i0 hi0, hd0]; simp [h2], rfl⟩
        ⟨rfl, rfl, rfl, by simp [fitL, fitV, lookN, pureV], .same (by simp) (by simp) (by simp) (by simp) (by simp [Heap.ents]) ?_⟩ ?_)
      · simp only [Heap.ents, List.flatten_cons, List.flatten_nil, List.append_nil, List.nil_append]
        intro e he
        rcases List.mem_cons.1 he with rfl | he
        · exact ⟨by simp, by simp [Heap.get, getFs, getF], fitL_pure (el_attr L).pure⟩
        · simp at he; subst he; exact ⟨by simp, by simp [Heap.get, getFs, getF], by simp [fitB, fitL, fitV, pureV]⟩
      rintro ⟨i, j, M⟩ ⟨hj, hij, hM, hx, hy⟩ B hB
      simp only at hj hij hM hx hy
      have fith : ∀ (m : Nat) (f : List (Nat × Blk)) (M' : List At1), getF 1 f = none → getF 0 f = none → FitH 2 [(1, 1), (0, 0)] [] ⟨m, [f, [(1, .cells (flatAV (M'.map aAttr))), (0, .cells [.str nm])]]⟩ ⟨2, [[], [(1, .cells (flatAV (M'.map aAttr))), (0, .cells [.str nm])]]⟩ := fun m f M' f1 f0 => by
        refine .same (by simp) (by simp) (by simp) (by simp) (by simp [Heap.ents]) ?_
        simp only [Heap.ents, List.flatten_cons, List.flatten_nil, List.append_nil, List.nil_append]
        intro e he
        rcases List.mem_cons.1 he with rfl | he
        · exact ⟨by simp, by simp [Heap.get, getFs, getF, f1], fitL_pure (el_attr M').pure⟩
        · simp at he; subst he; exact ⟨by simp, by simp [Heap.get, getFs, getF, f0], by simp [fitB, fitL, fitV, pureV]⟩
      repeat refine wps_seq ?_
      refine wps_region callOK ?_
      simp [ofV, ofV1, mkC_P, writeVar, writeCells, readCells, allSingle, AV.single, getFs, getF, setFs, setF, Heap.get, Heap.set, Heap.new, Heap.kill, killF, pushF, Heap.ready, refs, sliceParts, fillA, replL, lenA]
      repeat refine wps_seq ?_
      refine wps_cond rfl (fun h => ?_) fun h => ?_
      · simp at h
        have hMj : M[j]'(by omega) = L[j] := by
          have e1 := List.drop_eq_getElem_cons (l := M) (i := j) (by omega)
          have e2 := List.drop_eq_getElem_cons h
          rw [e1, e2, List.cons.injEq] at hy
          exact hy.1
        have hy2 : M.drop (j + 1) = L.drop (j + 1) := by
          have e1 := List.drop_eq_getElem_cons (l := M) (i := j) (by omega)
          have e2 := List.drop_eq_getElem_cons h
          rw [e1, e2, List.cons.injEq] at hy
          exact hy.2
        have hsub : subL (j * 2) 2 (flatAV (M.map aAttr)) = some [.str L[j].1, .str L[j].2] := by
          have := sub_at (el_attr M) (i := j) (by simp; omega)
          rw [this]
          simp [hMj]
        repeat refine wps_seq ?_
        refine wps_skip ?_
        simp
        repeat refine wps_seq ?_
        refine wps_block ?_
        repeat refine wps_seq ?_
        refine wps_region callOK ?_
        simp [ofV, ofV1, mkC_P, writeVar, writeCells, readCells, allSingle, AV.single, getFs, getF, setFs, setF, Heap.get, Heap.set, Heap.new, Heap.kill, killF, pushF, Heap.ready, refs, sliceParts, fillA, replL, ix22 h, hsub]
        have hk := k24 h24 L[j] (nm := nm) (b := 0) (H := ⟨3, [[(2, .cells [.str L[j].1, .str L[j].2])], [(1, .cells (flatAV (M.map aAttr))), (0, .cells [.str nm])]]⟩) (by simp [Heap.get, getFs, getF])
        repeat refine wps_seq ?_
        refine wps_region callOK ?_
        simp [ofV, ofV1, mkC_P, writeVar, writeCells, readCells, allSingle, AV.single, getFs, getF, setFs, setF, Heap.get, Heap.set, Heap.new, Heap.kill, killF, pushF, Heap.ready, refs, sliceParts, fillA, replL, fold_at, hk]
        repeat refine wps_seq ?_
        refine wps_cond rfl (fun h4 => ?_) fun h4 => ?_
        · simp at h4
          obtain ⟨M2, hM2⟩ : ∃ M2, M2 = M.set i L[j] := ⟨_, rfl⟩
          have hlay : layL [.str L[j].1, .str L[j].2] (i * 2) (flatAV (M.map aAttr)) = some (flatAV (M2.map aAttr)) := by
            have := lay_at (el_attr M) (i := i) (by simp; omega) (e := aAttr L[j]) rfl
            rw [hM2, List.map_set]; exact this
          repeat refine wps_seq ?_
          refine wps_region callOK ?_
          simp [ofV, ofV1, mkC_P, writeVar, writeCells, readCells, allSingle, AV.single, getFs, getF, setFs, setF, Heap.get, Heap.set, Heap.new, Heap.kill, killF, pushF, Heap.ready, refs, sliceParts, fillA, replL, ix22 (show i < L.length by omega), hlay]
          repeat refine wps_seq ?_
          refine wps_region callOK ?_
          simp [ofV, ofV1, mkC_P, writeVar, writeCells, readCells, allSingle, AV.single, getFs, getF, setFs, setF, Heap.get, Heap.set, Heap.new, Heap.kill, killF, pushF, Heap.ready, refs, sliceParts, fillA, replL, add_one (show i ≤ 1000000000 by omega)]
          repeat refine wps_seq ?_
          refine wps_region callOK ?_
          simp [ofV, ofV1, mkC_P, writeVar, writeCells, readCells, allSingle, AV.single, getFs, getF, setFs, setF, Heap.get, Heap.set, Heap.new, Heap.kill, killF, pushF, Heap.ready, refs, sliceParts, fillA, replL, add_one (show j ≤ 1000000000 by omega)]
          refine hB _ (i + 1, j + 1, M2) (by simp; omega) ⟨by simp; omega, by simp; omega, by simp [hM2, hM], ?_, ?_⟩ ⟨[(1, 1), (0, 0)], [], rfl, rfl, rfl, by simp [fitL, fitV, lookN, pureV], fith _ [(2, .cells [.str L[j].1, .str L[j].2])] _ rfl rfl⟩
          · rw [hds j h, if_neg h4, ← hx]
            simp only [hM2]
            rw [List.take_succ_eq_append_getElem (by simp; omega)]
            have e : (M.set i L[j]).take i = M.take i := List.take_set_of_le (Nat.le_refl _)
            rw [e]; simp
          · simp only [hM2]
            rw [List.drop_set_of_lt (by omega)]
            exact hy2
        · simp at h4
          repeat refine wps_seq ?_
          refine wps_skip ?_
          simp
          repeat refine wps_seq ?_
          refine wps_region callOK ?_
          simp [ofV, ofV1, mkC_P, writeVar, writeCells, readCells, allSingle, AV.single, getFs, getF, setFs, setF, Heap.get, Heap.set, Heap.new, Heap.kill, killF, pushF, Heap.ready, refs, sliceParts, fillA, replL, add_one (show j ≤ 1000000000 by omega)]
          refine hB _ (i, j + 1, M) (by simp; omega) ⟨by simp; omega, by simp; omega, hM, ?_, hy2⟩ ⟨[(1, 1), (0, 0)], [], rfl, rfl, rfl, by simp [fitL, fitV, lookN, pureV], fith _ [(2, .cells [.str L[j].1, .str L[j].2])] _ rfl rfl⟩
          rw [hds j h, if_pos h4, List.append_nil]; exact hx
      · simp at h
        have hjl : j = L.length := by omega
        subst hjl
        rw [List.take_length] at hx
        have hil : (dropL nm L).length = i := by rw [← hx, List.length_take]; omega
        repeat refine wps_seq ?_
        refine wps_exit ?_
        simp
        have hcl := clear_own (n := L.length - i) (i := i) (L := M) (f := []) (g := [(0, .cells [.str nm])]) (m := 2) (by omega) (by omega) rfl (fun _ _ => trivial)
        obtain ⟨N, hN⟩ : ∃ N, N = M.take i ++ List.replicate (M.length - i) (([], []) : At1) := ⟨_, rfl⟩
        rw [← hN] at hcl
        have hNl : N.length = L.length := by rw [hN]; simp; omega
        have hs1 := slice_from (P := Try.prog) (H := ⟨2, [[], [(1, .cells (flatAV (M.map aAttr))), (0, .cells [.str nm])]]⟩) (t := 22) (b := 1) (len := L.length) (i := i) Try.underlying22 szT24 (by omega) rfl (by rw [(el_attr M).len]; simp [hM]) (by omega)
        have hs2 := slice_to (P := Try.prog) (H := ⟨2, [[], [(1, .cells (flatAV (N.map aAttr))), (0, .cells [.str nm])]]⟩) (t := 22) (b := 1) (len := L.length) (i := i) Try.underlying22 szT24 (by omega) rfl (by rw [(el_attr N).len]; simp [hNl]) (by omega) (by omega)
        repeat refine wps_seq ?_
        refine wps_region callOK ?_
        simp [ofV, ofV1, mkC_P, writeVar, writeCells, readCells, allSingle, AV.single, getFs, getF, setFs, setF, Heap.get, Heap.set, Heap.new, Heap.kill, killF, pushF, Heap.ready, refs, sliceParts, fillA, replL, opndO, hs1, hcl]
        repeat refine wps_seq ?_
        refine wps_region callOK ?_
        simp [ofV, ofV1, mkC_P, writeVar, writeCells, readCells, allSingle, AV.single, getFs, getF, setFs, setF, Heap.get, Heap.set, Heap.new, Heap.kill, killF, pushF, Heap.ready, refs, sliceParts, fillA, replL, opndO, hs2]
        repeat refine wps_seq ?_
        refine wps_ret ?_
        simp [retVal, Try.f23, oneOr]
        have hN2 : dropL nm L ++ List.replicate (L.length - (dropL nm L).length) (([], []) : At1) = N := by rw [hN, hx, hM, hil]
        rw [← List.map_replicate, ← List.map_append, hN2, hil]
        refine ⟨[(1, 1), (0, 0)], [], by simp [fitV, lookN], .same (by simp) (by simp) (by simp) (by simp) (by simp [Heap.ents]) ?_⟩
        simp only [Heap.ents, List.flatten_cons, List.flatten_nil, List.append_nil, List.nil_append]
        intro e he
        rcases List.mem_cons.1 he with rfl | he
        · exact ⟨by simp, by simp [Heap.get, getFs, getF, List.map_append], fitL_pure (el_attr _).pure⟩
        · simp at he; subst he; exact ⟨by simp, by simp [Heap.get, getFs, getF], by simp [fitB, fitL, fitV, pureV]⟩

theorem c17 {T : List (Entry Try.prog)} (h22 : findE 22 T = some e22.g) (h24 : findE 24 T = some e24.g) (L : List At1) (nm : Str) (hl : L.length ≤ 900) : CallAt (ctx T) 17 [aAttrs L, .str nm] ⟨0, []⟩ (.fslc 2 ((dropL nm L).map aAttr)) ⟨0, []⟩ := by
  have hk := k22 h22 (L := L) (by omega) ⟨1, [[(0, .cells [.str nm])]]⟩
  refine callAt_body (fn := Try.f17) (s0 := ⟨[0, 1, 3, 4], [aAttrs L, .str nm, .undef, .undef], [], 9, ⟨0, [[]]⟩⟩) Try.func17 rfl rfl rfl ?_
  repeat refine wps_seq ?_
  refine wps_region callOK ?_
  simp [ofV, ofV1, mkC_P, writeVar, writeCells, readCells, allSingle, AV.single, getFs, getF, setFs, setF, Heap.get, Heap.set, Heap.new, Heap.kill, killF, pushF, Heap.ready, refs, sliceParts, fillA, replL]
  cases L with
  | nil =>
    repeat refine wps_seq ?_
    refine wps_region (callOKF [⟨23, [.zslc, .func (.func 24) [] [.ptr 0 0]], ⟨1, [[(0, .cells [.str nm])]]⟩, .zslc, ⟨1, [[(0, .cells [.str nm])]]⟩, c23z nm⟩]) ?_
    simp only [List.map_nil, ownV, ownH] at hk
    simp [ofV, ofV1, mkC_P, writeVar, writeCells, readCells, allSingle, AV.single, getFs, getF, setFs, setF, Heap.get, Heap.set, Heap.new, Heap.kill, killF, pushF, Heap.ready, refs, sliceParts, fillA, replL, callF, hk]
    repeat refine wps_seq ?_
    refine wps_ret ?_
    simp [retVal, Try.f17, oneOr]
    exact ends_zslc rfl
  | cons a r =>
    obtain ⟨M, h1, h2, h3⟩ := c23 (T := T) h24 (a :: r) nm (by simp) hl
    have hH : ownH ⟨1, [[(0, .cells [.str nm])]]⟩ ((a :: r).map aAttr) = ⟨2, [[(1, .cells (flatAV ((a :: r).map aAttr))), (0, .cells [.str nm])]]⟩ := rfl
    rw [ownV_ne (by simp), hH] at hk
    obtain ⟨N, hN⟩ : ∃ N, N = a :: r := ⟨_, rfl⟩
    rw [← hN] at hk h3 h1 h2 hl ⊢
    simp only [List.length_map] at hk
    repeat refine wps_seq ?_
    refine wps_region (callOKF [⟨23, [.slc 1 0 N.length (.rest 2), .func (.func 24) [] [.ptr 0 0]], ⟨2, [[(1, .cells (flatAV (N.map aAttr))), (0, .cells [.str nm])]]⟩, _, _, h3⟩]) ?_
    simp [ofV, ofV1, mkC_P, writeVar, writeCells, readCells, allSingle, AV.single, getFs, getF, setFs, setF, Heap.get, Heap.set, Heap.new, Heap.kill, killF, pushF, Heap.ready, refs, sliceParts, fillA, replL, callF, hk]
    repeat refine wps_seq ?_
    refine wps_ret ?_
    simp [retVal, Try.f17, oneOr]
    refine ends_front (b := 1) (es := M.map aAttr) (el_attr _) (by simp [Heap.get, getFs, getF]) ?_ ?_
    · have := List.length_filter_le (fun a : At1 => !decide (a.1 = nm)) N
      simp only [dropL]
      simp at this ⊢
      omega
    · rw [← List.map_take, h2]
end Go.Proofs.Ytnfodgjohekdgaa
