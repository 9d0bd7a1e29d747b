/- What the reference makes; what the program drops. No condition. -/
import Derived.Test.YtnfodgjohekdgaaG6
namespace Go.Proofs.Ytnfodgjohekdgaa
set_option linter.unusedSimpArgs false
set_option linter.unusedVariables false
open Go Go.RowKit
set_option maxRecDepth 100000

def radd (L : List At1) (a : At1) : List At1 := if (getAt a.1 L).isSome = true then L else L ++ [a]
theorem c14 {T : List (Entry Try.prog)} (h8 : findE 8 T = some e8.g) (L : List At1) (a : At1) (hl : L.length ≤ 900) : CallAt (ctx T) 14 [aAttrs L, aAttr a] ⟨0, []⟩ (.fslc 2 ((radd L a).map aAttr)) ⟨0, []⟩ := by
  refine callAt_body (fn := Try.f14) (s0 := ⟨[0, 1, 3, 4, 5, 7], [aAttrs L, aAttr a, .undef, .undef, .undef, .undef], [], 25, ⟨0, [[]]⟩⟩) Try.func14 rfl rfl rfl ?_
  have happ := app_lits (P := Try.prog) (elem := 24) (b := 1) (m := 2) (es := L.map aAttr) (g := [(0, .cells [.str a.1, .str a.2])]) (fs := []) szT24 byT24 zeT24 rfl (by omega) (by omega) (el_attr L) (single_attr L) (by simp; omega)
  repeat refine wps_seq ?_
  refine wps_region callOK ?_
  simp [ofV, ofV1, mkC_P, writeVar, writeCells, readCells, allSingle, AV.single, getFs, getF, setFs, setF, Heap.get, Heap.set, Heap.new, Heap.kill, killF, pushF, Heap.ready, refs, sliceParts, fillA, replL]
  repeat refine wps_seq ?_
  refine wps_region callOK ?_
  simp [ofV, ofV1, mkC_P, writeVar, writeCells, readCells, allSingle, AV.single, getFs, getF, setFs, setF, Heap.get, Heap.set, Heap.new, Heap.kill, killF, pushF, Heap.ready, refs, sliceParts, fillA, replL, aAttrs, happ]
  repeat refine wps_seq ?_
  refine .fit (s' := (⟨[0, 1, 3, 4, 5, 7], [aAttrs L, .undef, .ptr 0 0, .undef, ownV 2 2 (L.map aAttr), .undef], [], 25, ⟨3, [ownF 2 (L.map aAttr) ++ [(0, Blk.cells [.str a.1, .str a.2])]]⟩⟩ : St)) [(2, 2), (0, 0)] [] ⟨rfl, rfl, rfl, ?_, .canonS (b := 2) (g := [(0, .cells [.str a.1, .str a.2])]) (g0 := [(1, .cells []), (0, .cells [.str a.1, .str a.2])]) (el_attr L) (by simp) (by simp) (by simp [fitB, fitL, fitV, pureV]) (by simp)⟩ ?_
  · simp [fitL, fitV, lookN, fitV_lit, aAttrs, pureV]
  · have hp := k8 h8 (L := L) a.1 (show L.length ≤ 1000 by omega) (H := ⟨3, [ownF 2 (L.map aAttr) ++ [(0, .cells [.str a.1, .str a.2])]]⟩) (th_aAttrs _ L)
    have hg : getF 0 (ownF 2 (L.map aAttr) ++ [(0, .cells [.str a.1, .str a.2])]) = some (.cells [.str a.1, .str a.2]) := by cases L <;> rfl
    repeat refine wps_seq ?_
    refine wps_region callOK ?_
    simp [ofV, ofV1, mkC_P, writeVar, writeCells, readCells, allSingle, AV.single, getFs, getF, setFs, setF, Heap.get, Heap.set, Heap.new, Heap.kill, killF, pushF, Heap.ready, refs, sliceParts, fillA, replL, hp, hg, gotA]
    repeat refine wps_seq ?_
    refine wps_region callOK ?_
    simp [ofV, ofV1, mkC_P, writeVar, writeCells, readCells, allSingle, AV.single, getFs, getF, setFs, setF, Heap.get, Heap.set, Heap.new, Heap.kill, killF, pushF, Heap.ready, refs, sliceParts, fillA, replL]
    repeat refine wps_seq ?_
    refine wps_cond rfl (fun h => ?_) fun h => ?_
    · simp at h
      have happ := own_app1 (P := Try.prog) (elem := 24) (b := 2) (t := 3) (m := 4) (es := L.map aAttr) (cs := [.str a.1, .str a.2]) (g := [(0, .cells [.str a.1, .str a.2])]) (fs := []) szT24 byT24 zeT24 rfl (by omega) (by omega) rfl rfl (el_attr L) (by simp; omega) (by omega) (by simp) (by simp)
      repeat refine wps_seq ?_
      refine wps_region callOK ?_
      simp [ofV, ofV1, mkC_P, writeVar, writeCells, readCells, allSingle, AV.single, getFs, getF, setFs, setF, Heap.get, Heap.set, Heap.new, Heap.kill, killF, pushF, Heap.ready, refs, sliceParts, fillA, replL, hg, happ]
      repeat refine wps_seq ?_
      refine wps_region callOK ?_
      simp [ofV, ofV1, mkC_P, writeVar, writeCells, readCells, allSingle, AV.single, getFs, getF, setFs, setF, Heap.get, Heap.set, Heap.new, Heap.kill, killF, pushF, Heap.ready, refs, sliceParts, fillA, replL]
      repeat refine wps_seq ?_
      refine wps_ret ?_
      simp [retVal, Try.f14, oneOr]
      have e2 : (radd L a).map aAttr = L.map aAttr ++ [aAttr a] := by simp [radd, h]
      refine ends_front (b := 4) (es := (radd L a).map aAttr) (el_attr _) ?_ ?_ ?_
      · rw [e2, flat_append]; simp [Heap.get, getFs, getF, flatAV]
      · rw [e2]; simp
      · rw [e2, List.take_of_length_le (by simp)]
    · simp at h
      repeat refine wps_seq ?_
      refine wps_skip ?_
      simp
      repeat refine wps_seq ?_
      refine wps_region callOK ?_
      simp [ofV, ofV1, mkC_P, writeVar, writeCells, readCells, allSingle, AV.single, getFs, getF, setFs, setF, Heap.get, Heap.set, Heap.new, Heap.kill, killF, pushF, Heap.ready, refs, sliceParts, fillA, replL]
      repeat refine wps_seq ?_
      refine wps_ret ?_
      simp [retVal, Try.f14, oneOr]
      have e : radd L a = L := by simp [radd, h]
      rw [e]
      refine ends_ownV (b := 2) (el_attr L) fun hne => ?_
      rw [ownF_ne hne]; simp [Heap.get, getFs, getF]

theorem len_own22 {H : Heap} {b sz : Nat} {es : List AV} : lenA Try.prog H 22 (ownV b sz es) = some es.length := by cases es <;> simp [lenA, ownV]
theorem ix_own22 {b sz i : Nat} {es : List AV} (h : i < es.length) : indexAddrA Try.prog 22 (ownV b sz es) (.int .i64 (i : Int)) = some (.ptr b (i * 2)) := by
  rw [ownV_ne (fun e => by subst e; simp at h), ix22 h]; simp
theorem fl0 {L : List At1} {i : Nat} (h : i < L.length) : getL (flatAV (L.map aAttr)) (i * 2) = some (.str L[i].1) := by
  have := flat_getL (el_attr L) (i := i) (j := 0) (by simpa using h) (by simp)
  simpa using this
theorem fl1 {L : List At1} {i : Nat} (h : i < L.length) : getL (flatAV (L.map aAttr)) (i * 2 + 1) = some (.str L[i].2) := by
  have := flat_getL (el_attr L) (i := i) (j := 1) (by simpa using h) (by simp)
  simpa using this
/-- what the reference sets -/
def rset (a : At1) : List At1 → List At1
  | [] => [a]
  | b :: r => if b.1 = a.1 then (b.1, a.2) :: r else b :: rset a r
theorem rset_found {a : At1} : ∀ {L : List At1} {i : Nat} (h : i < L.length), (∀ j (hj : j < i), (L[j]'(by omega)).1 ≠ a.1) → L[i].1 = a.1 → rset a L = L.set i (L[i].1, a.2)
  | b :: r, 0, _, _, he => by simp [rset] at he ⊢; simp [he]
  | b :: r, i + 1, h, hn, he => by
    have h0 := hn 0 (by omega)
    simp only [List.getElem_cons_zero] at h0
    have := rset_found (a := a) (L := r) (i := i) (by simpa using h) (fun j hj => hn (j + 1) (by omega)) he
    simp [rset, h0, this]
theorem rset_none {a : At1} : ∀ {L : List At1}, (∀ b, b ∈ L → b.1 ≠ a.1) → rset a L = L ++ [a]
  | [], _ => rfl
  | b :: r, h => by
    have h0 := h b (by simp)
    simp [rset, h0, rset_none (L := r) fun c hc => h c (by simp [hc])]
theorem c16 {T : List (Entry Try.prog)} (L : List At1) (a : At1) (hl : L.length ≤ 900) : CallAt (ctx T) 16 [aAttrs L, aAttr a] ⟨0, []⟩ (.fslc 2 ((rset a L).map aAttr)) ⟨0, []⟩ := by
  refine callAt_body (fn := Try.f16) (s0 := ⟨[0, 1, 3, 4, 5, 6], [aAttrs L, aAttr a, .undef, .undef, .undef, .undef], [], 35, ⟨0, [[]]⟩⟩) Try.func16 rfl rfl rfl ?_
  have happ := app_lits (P := Try.prog) (elem := 24) (b := 1) (m := 2) (es := L.map aAttr) (g := [(0, .cells [.str a.1, .str a.2])]) (fs := []) szT24 byT24 zeT24 rfl (by omega) (by omega) (el_attr L) (single_attr L) (by simp; omega)
  repeat refine wps_seq ?_
  refine wps_region callOK ?_
  simp [ofV, ofV1, mkC_P, writeVar, writeCells, readCells, allSingle, AV.single, getFs, getF, setFs, setF, Heap.get, Heap.set, Heap.new, Heap.kill, killF, pushF, Heap.ready, refs, sliceParts, fillA, replL]
  repeat refine wps_seq ?_
  refine wps_region callOK ?_
  simp [ofV, ofV1, mkC_P, writeVar, writeCells, readCells, allSingle, AV.single, getFs, getF, setFs, setF, Heap.get, Heap.set, Heap.new, Heap.kill, killF, pushF, Heap.ready, refs, sliceParts, fillA, replL, aAttrs, happ]
  repeat refine wps_seq ?_
  refine wps_region callOK ?_
  simp [ofV, ofV1, mkC_P, writeVar, writeCells, readCells, allSingle, AV.single, getFs, getF, setFs, setF, Heap.get, Heap.set, Heap.new, Heap.kill, killF, pushF, Heap.ready, refs, sliceParts, fillA, replL]
  repeat refine wps_seq ?_
  refine wps_block (wps_loop' (fun i : Nat => (⟨[0, 1, 3, 4, 5, 6], [aAttrs L, .undef, .ptr 0 0, .undef, ownV 2 2 (L.map aAttr), .int .i64 i], [], 35, ⟨3, [ownF 2 (L.map aAttr) ++ [(0, Blk.cells [.str a.1, .str a.2])]]⟩⟩ : St))
    (fun i => i ≤ L.length ∧ ∀ j (hj : j < L.length), j < i → L[j].1 ≠ a.1) (fun i => L.length - i) [(2, 2), (0, 0)] [] 0 ⟨Nat.zero_le _, fun j _ h => absurd h (Nat.not_lt_zero j)⟩
    ⟨rfl, rfl, rfl, by simp [fitL, fitV, lookN, fitV_lit, aAttrs, pureV], .canonS (b := 2) (g := [(0, .cells [.str a.1, .str a.2])]) (g0 := [(1, .cells []), (0, .cells [.str a.1, .str a.2])]) (el_attr L) (by simp) (by simp) (by simp [fitB, fitL, fitV, pureV]) (by simp)⟩ ?_)
  rintro i ⟨hi, hx⟩ B hB
  have hg : getF 0 (ownF 2 (L.map aAttr) ++ [(0, .cells [.str a.1, .str a.2])]) = some (.cells [.str a.1, .str a.2]) := by rw [own_skip (by omega)]; rfl
  repeat refine wps_seq ?_
  refine wps_region callOK ?_
  simp [ofV, ofV1, mkC_P, writeVar, writeCells, readCells, allSingle, AV.single, getFs, getF, setFs, setF, Heap.get, Heap.set, Heap.new, Heap.kill, killF, pushF, Heap.ready, refs, sliceParts, fillA, replL, len_own22]
  repeat refine wps_seq ?_
  refine wps_cond rfl (fun h => ?_) fun h => ?_
  · simp at h
    have hne : L.map aAttr ≠ [] := by intro e; simp at e; subst e; simp at h
    have hw : layL [.str a.2] (i * 2 + 1) (flatAV (L.map aAttr)) = some (flatAV ((L.set i (L[i].1, a.2)).map aAttr)) := by
      have := lay_cell (el_attr L) (i := i) (by simpa using h) (p := [.str L[i].1]) (x := .str L[i].2) (q := []) (v := .str a.2) (by simp)
      rw [List.map_set]; exact this
    repeat refine wps_seq ?_
    refine wps_skip ?_
    simp
    repeat refine wps_seq ?_
    refine wps_block ?_
    have hix := ix_own22 (b := 2) (sz := 2) (i := i) (es := L.map aAttr) (by simpa using h)
    have hgo := own_get (b := 2) (g := [(0, .cells [.str a.1, .str a.2])]) hne
    repeat refine wps_seq ?_
    refine wps_drawn mixed callOK (by decide +kernel) fun B_ hB_ => ?_
    simp [ofV, ofV1, mkC_P, writeVar, writeCells, readCells, allSingle, AV.single, getFs, getF, setFs, setF, Heap.get, Heap.set, Heap.new, Heap.kill, killF, pushF, Heap.ready, refs, sliceParts, fillA, replL, mkBlk, guardA, evalD, stepD, clsOf, reserve, freshenAll, sameRecs, sameAll, sameAt, allPend, Heap.lay, ontoF, wantedBy, unwantedBy, hg, hix, hgo, fl0 h]
    repeat refine wps_seq ?_
    refine wps_cond rfl (fun h2 => ?_) fun h2 => ?_
    · simp at h2
      rw [ownV_ne hne, ownF_ne hne]
      simp only [List.length_map]
      repeat refine wps_seq ?_
      refine wps_region callOK ?_
      simp [ofV, ofV1, mkC_P, writeVar, writeCells, readCells, allSingle, AV.single, getFs, getF, setFs, setF, Heap.get, Heap.set, Heap.new, Heap.kill, killF, pushF, Heap.ready, refs, sliceParts, fillA, replL, ix22 h, hw]
      repeat refine wps_seq ?_
      refine wps_region callOK ?_
      simp [ofV, ofV1, mkC_P, writeVar, writeCells, readCells, allSingle, AV.single, getFs, getF, setFs, setF, Heap.get, Heap.set, Heap.new, Heap.kill, killF, pushF, Heap.ready, refs, sliceParts, fillA, replL]
      repeat refine wps_seq ?_
      refine wps_ret ?_
      simp [retVal, Try.f16, oneOr]
      rw [rset_found h (fun j hj => hx j (by omega) hj) h2]
      exact ends_front (b := 2) (es := (L.set i (L[i].1, a.2)).map aAttr) (el_attr _) (by simp [Heap.get, getFs, getF]) (by simp) (by rw [List.take_of_length_le (by simp)])
    · simp at h2
      repeat refine wps_seq ?_
      refine wps_skip ?_
      simp
      repeat refine wps_seq ?_
      refine wps_region callOK ?_
      simp [ofV, ofV1, mkC_P, writeVar, writeCells, readCells, allSingle, AV.single, getFs, getF, setFs, setF, Heap.get, Heap.set, Heap.new, Heap.kill, killF, pushF, Heap.ready, refs, sliceParts, fillA, replL, add_one (show i ≤ 1000000000 by omega)]
      refine hB _ (i + 1) (by omega) ⟨by omega, fun j hj hji => ?_⟩ ⟨[(2, 2), (0, 0)], [], rfl, rfl, rfl, by simp [fitL, fitV, lookN, fitV_own, pureV], .same (by simp) (by simp) (by simp) (by simp) ?_ ?_⟩
      · by_cases e : j = i
        · subst e; exact h2
        · exact hx j hj (by omega)
      · simp [Heap.ents, ownF_ne hne]
      · rw [ownF_ne hne]
        simp only [Heap.ents, List.flatten_cons, List.flatten_nil, List.append_nil, List.cons_append, List.nil_append]
        intro e he
        rcases List.mem_cons.1 he with rfl | he
        · exact ⟨by simp, by simp [Heap.get, getFs, getF], fitL_pure (el_attr L).pure⟩
        · simp at he; subst he; exact ⟨by simp, by simp [Heap.get, getFs, getF], by simp [fitB, fitL, fitV, pureV]⟩
  · simp at h
    repeat refine wps_seq ?_
    refine wps_exit ?_
    simp
    have happ := own_app1 (P := Try.prog) (elem := 24) (b := 2) (t := 3) (m := 4) (es := L.map aAttr) (cs := [.str a.1, .str a.2]) (g := [(0, .cells [.str a.1, .str a.2])]) (fs := []) szT24 byT24 zeT24 rfl (by omega) (by omega) rfl rfl (el_attr L) (by simp; omega) (by omega) (by simp) (by simp)
    repeat refine wps_seq ?_
    refine wps_region callOK ?_
    simp [ofV, ofV1, mkC_P, writeVar, writeCells, readCells, allSingle, AV.single, getFs, getF, setFs, setF, Heap.get, Heap.set, Heap.new, Heap.kill, killF, pushF, Heap.ready, refs, sliceParts, fillA, replL, hg, happ]
    repeat refine wps_seq ?_
    refine wps_ret ?_
    simp [retVal, Try.f16, oneOr]
    have e2 : (rset a L).map aAttr = L.map aAttr ++ [aAttr a] := by
      rw [rset_none fun b hb => ?_]
      · simp
      · obtain ⟨j, hj, rfl⟩ := List.getElem_of_mem hb
        exact hx j hj (by omega)
    refine ends_front (b := 4) (es := (rset a L).map aAttr) (el_attr _) ?_ ?_ ?_
    · rw [e2, flat_append]; simp [Heap.get, getFs, getF, flatAV]
    · rw [e2]; simp
    · rw [e2, List.take_of_length_le (by simp)]
end Go.Proofs.Ytnfodgjohekdgaa
