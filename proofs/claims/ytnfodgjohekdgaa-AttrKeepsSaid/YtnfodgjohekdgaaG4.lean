/- Alike. No condition. -/
import Derived.Test.YtnfodgjohekdgaaG3
namespace Go.Proofs.Ytnfodgjohekdgaa
set_option linter.unusedSimpArgs false
set_option linter.unusedVariables false
open Go Go.RowKit
set_option maxRecDepth 100000

theorem mem_at {L : List At1} {i : Nat} {a : At1} (h : i < L.length) : a ∈ L.drop i ↔ a = L[i] ∨ a ∈ L.drop (i + 1) := by
  rw [List.drop_eq_getElem_cons h, List.mem_cons]
theorem all_at {L : List At1} {i : Nat} {p : At1 → Bool} (h : i < L.length) : (L.drop i).all p = (p L[i] && (L.drop (i + 1)).all p) := by
  rw [List.drop_eq_getElem_cons h, List.all_cons]
/-- is each of L one of M? -/
def amongL (L M : List At1) : Bool := L.all fun a => M.contains a
theorem c21 {T : List (Entry Try.prog)} (L M : List At1) (hl : L.length ≤ 1000) (hm : M.length ≤ 1000) : CallAt (ctx T) 21 [aAttrs L, aAttrs M] ⟨0, []⟩ (.bool (amongL L M)) ⟨0, []⟩ := by
  refine callAt_body (fn := Try.f21) (s0 := ⟨[0, 1, 4, 5, 6, 7], [aAttrs L, aAttrs M, .undef, .undef, .undef, .undef], [], 34, ⟨0, [[]]⟩⟩) Try.func21 rfl rfl rfl ?_
  repeat refine wps_seq ?_
  refine wps_region callOK ?_
  simp [ofV, ofV1, mkC_P, writeVar, writeCells, readCells, allSingle, AV.single, getFs, getF, setFs, setF, Heap.get, Heap.set, Heap.new, Heap.kill, killF, pushF, Heap.ready, refs, sliceParts, fillA, replL]
  repeat refine wps_seq ?_
  refine wps_region callOK ?_
  simp [ofV, ofV1, mkC_P, writeVar, writeCells, readCells, allSingle, AV.single, getFs, getF, setFs, setF, Heap.get, Heap.set, Heap.new, Heap.kill, killF, pushF, Heap.ready, refs, sliceParts, fillA, replL]
  repeat refine wps_seq ?_
  refine wps_block (wps_loop' (fun i : Nat => (⟨[0, 1, 4, 5, 6, 7], [aAttrs L, aAttrs M, .undef, .int .i64 i, .undef, .undef], [], 34, ⟨0, [[]]⟩⟩ : St))
    (fun i => i ≤ L.length ∧ amongL L M = (L.drop i).all fun a => M.contains a) (fun i => L.length - i) [] [] 0 ⟨Nat.zero_le _, rfl⟩ ⟨rfl, rfl, rfl, by simp [fitL, fitV, pureV, pureL], FitH.nothing⟩ ?_)
  rintro i ⟨hi, hx⟩ B hB
  repeat refine wps_seq ?_
  refine wps_region callOK ?_
  simp [ofV, ofV1, mkC_P, writeVar, writeCells, readCells, allSingle, AV.single, getFs, getF, setFs, setF, Heap.get, Heap.set, Heap.new, Heap.kill, killF, pushF, Heap.ready, refs, sliceParts, fillA, replL, len22]
  repeat refine wps_seq ?_
  refine wps_cond rfl (fun h => ?_) fun h => ?_
  · simp at h
    repeat refine wps_seq ?_
    refine wps_skip ?_
    simp
    repeat refine wps_seq ?_
    refine wps_block ?_
    repeat refine wps_seq ?_
    refine wps_region callOK ?_
    simp [ofV, ofV1, mkC_P, writeVar, writeCells, readCells, allSingle, AV.single, getFs, getF, setFs, setF, Heap.get, Heap.set, Heap.new, Heap.kill, killF, pushF, Heap.ready, refs, sliceParts, fillA, replL]
    repeat refine wps_seq ?_
    refine wps_region callOK ?_
    simp [ofV, ofV1, mkC_P, writeVar, writeCells, readCells, allSingle, AV.single, getFs, getF, setFs, setF, Heap.get, Heap.set, Heap.new, Heap.kill, killF, pushF, Heap.ready, refs, sliceParts, fillA, replL]
    repeat refine wps_seq ?_
    refine wps_block (wps_loop' (fun x : Nat × Bool => (⟨[0, 1, 4, 5, 6, 7], [aAttrs L, aAttrs M, .undef, .int .i64 i, .bool x.2, .int .i64 x.1], [], 34, ⟨0, [[]]⟩⟩ : St))
      (fun x => x.1 ≤ M.length ∧ M.contains L[i] = (x.2 || (M.drop x.1).contains L[i])) (fun x => M.length - x.1) [] [] (0, false) ⟨Nat.zero_le _, by simp⟩ ⟨rfl, rfl, rfl, by simp [fitL, fitV, pureV, pureL], FitH.nothing⟩ ?_)
    rintro ⟨k, b⟩ ⟨hk, hy⟩ B2 hB2
    simp only at hk hy
    repeat refine wps_seq ?_
    refine wps_region callOK ?_
    simp [ofV, ofV1, mkC_P, writeVar, writeCells, readCells, allSingle, AV.single, getFs, getF, setFs, setF, Heap.get, Heap.set, Heap.new, Heap.kill, killF, pushF, Heap.ready, refs, sliceParts, fillA, replL, len22]
    repeat refine wps_seq ?_
    refine wps_cond rfl (fun h3 => ?_) fun h3 => ?_
    · simp at h3
      repeat refine wps_seq ?_
      refine wps_skip ?_
      simp
      repeat refine wps_seq ?_
      refine wps_block ?_
      have hd : (M.drop k).contains L[i] = (decide (L[i] = M[k]) || (M.drop (k + 1)).contains L[i]) := by
        have e : (L[i] == M[k]) = decide (L[i] = M[k]) := by by_cases e : L[i] = M[k] <;> simp [e]
        rw [List.drop_eq_getElem_cons h3, List.contains_cons, e]
      cases b with
      | true =>
        repeat refine wps_seq ?_
        refine wps_drawn mixed callOK (by decide +kernel) fun B_ hB_ => ?_
        simp [ofV, ofV1, mkC_P, writeVar, writeCells, readCells, allSingle, AV.single, getFs, getF, setFs, setF, Heap.get, Heap.set, Heap.new, Heap.kill, killF, pushF, Heap.ready, refs, sliceParts, fillA, replL, mkBlk, guardA, evalD, stepD, clsOf, reserve, freshenAll, sameRecs, sameAll, sameAt, allPend, Heap.lay, ontoF, wantedBy, unwantedBy]
        repeat refine wps_seq ?_
        refine wps_region callOK ?_
        simp [ofV, ofV1, mkC_P, writeVar, writeCells, readCells, allSingle, AV.single, getFs, getF, setFs, setF, Heap.get, Heap.set, Heap.new, Heap.kill, killF, pushF, Heap.ready, refs, sliceParts, fillA, replL, add_one (show k ≤ 1000000000 by omega)]
        exact hB2 _ (k + 1, true) (by simp; omega) ⟨by simp; omega, by simpa using hy⟩ ⟨[], [], ⟨rfl, rfl, rfl, by simp [fitL, fitV, pureV, pureL], FitH.nothing⟩⟩
      | false =>
        repeat refine wps_seq ?_
        refine wps_drawn mixed callOK (by decide +kernel) fun B_ hB_ => ?_
        simp [ofV, ofV1, mkC_P, writeVar, writeCells, readCells, allSingle, AV.single, getFs, getF, setFs, setF, Heap.get, Heap.set, Heap.new, Heap.kill, killF, pushF, Heap.ready, refs, sliceParts, fillA, replL, mkBlk, guardA, evalD, stepD, clsOf, reserve, freshenAll, sameRecs, sameAll, sameAt, allPend, Heap.lay, ontoF, wantedBy, unwantedBy, at22 h, at22 h3, rd24, eql24]
        repeat refine wps_seq ?_
        refine wps_region callOK ?_
        simp [ofV, ofV1, mkC_P, writeVar, writeCells, readCells, allSingle, AV.single, getFs, getF, setFs, setF, Heap.get, Heap.set, Heap.new, Heap.kill, killF, pushF, Heap.ready, refs, sliceParts, fillA, replL, add_one (show k ≤ 1000000000 by omega)]
        exact hB2 _ (k + 1, decide (L[i] = M[k])) (by simp; omega) ⟨by simp; omega, by rw [hy, hd]; simp⟩ ⟨[], [], ⟨rfl, rfl, rfl, by simp [fitL, fitV, pureV, pureL], FitH.nothing⟩⟩
    · simp at h3
      repeat refine wps_seq ?_
      refine wps_exit ?_
      simp
      rw [List.drop_eq_nil_of_le h3] at hy
      have hb : b = M.contains L[i] := by rw [hy]; simp
      repeat refine wps_seq ?_
      refine wps_region callOK ?_
      simp [ofV, ofV1, mkC_P, writeVar, writeCells, readCells, allSingle, AV.single, getFs, getF, setFs, setF, Heap.get, Heap.set, Heap.new, Heap.kill, killF, pushF, Heap.ready, refs, sliceParts, fillA, replL]
      repeat refine wps_seq ?_
      refine wps_cond rfl (fun h4 => ?_) fun h4 => ?_
      · repeat refine wps_seq ?_
        refine wps_region callOK ?_
        simp [ofV, ofV1, mkC_P, writeVar, writeCells, readCells, allSingle, AV.single, getFs, getF, setFs, setF, Heap.get, Heap.set, Heap.new, Heap.kill, killF, pushF, Heap.ready, refs, sliceParts, fillA, replL]
        repeat refine wps_seq ?_
        refine wps_ret ?_
        simp [retVal, Try.f21, oneOr]
        simp at h4
        refine ends_pure rfl ?_
        rw [hx, all_at h, ← hb, h4]; simp
      · repeat refine wps_seq ?_
        refine wps_skip ?_
        simp
        repeat refine wps_seq ?_
        refine wps_region callOK ?_
        simp [ofV, ofV1, mkC_P, writeVar, writeCells, readCells, allSingle, AV.single, getFs, getF, setFs, setF, Heap.get, Heap.set, Heap.new, Heap.kill, killF, pushF, Heap.ready, refs, sliceParts, fillA, replL, add_one (show i ≤ 1000000000 by omega)]
        simp at h4
        exact hB _ (i + 1) (by omega) ⟨by omega, by rw [hx, all_at h, ← hb, h4]; simp⟩ ⟨[], [], ⟨rfl, rfl, rfl, by simp [fitL, fitV, pureV, pureL], FitH.nothing⟩⟩
  · simp at h
    repeat refine wps_seq ?_
    refine wps_exit ?_
    simp
    repeat refine wps_seq ?_
    refine wps_region callOK ?_
    simp [ofV, ofV1, mkC_P, writeVar, writeCells, readCells, allSingle, AV.single, getFs, getF, setFs, setF, Heap.get, Heap.set, Heap.new, Heap.kill, killF, pushF, Heap.ready, refs, sliceParts, fillA, replL]
    repeat refine wps_seq ?_
    refine wps_ret ?_
    simp [retVal, Try.f21, oneOr]
    exact ends_pure rfl (by rw [hx, List.drop_eq_nil_of_le h]; rfl)
noncomputable def e21 : Entry Try.prog := mkE 21 [[2], [2]] (fun x : List At1 × List At1 => [aAttrs x.1, aAttrs x.2]) (fun x => x.1.length ≤ 1000 ∧ x.2.length ≤ 1000) (fun x => .bool (amongL x.1 x.2)) fun x hx => c21 (T := []) x.1 x.2 hx.1 hx.2
theorem k21 {T : List (Entry Try.prog)} (hT : findE 21 T = some e21.g) {L M : List At1} (hl : L.length ≤ 1000) (hm : M.length ≤ 1000) {H : Heap} {l m : AV} (h1 : thawA H [2] l = some (aAttrs L)) (h2 : thawA H [2] m = some (aAttrs M)) : callL (ctx T) 21 [l, m] H = some (.bool (amongL L M), H) :=
  mkE_scalar hT inj2 (L, M) ⟨hl, hm⟩ rfl (by simp [h1, h2])
def alikeL (L M : List At1) : Bool := decide (L.length = M.length) && amongL L M && amongL M L
theorem c12 {T : List (Entry Try.prog)} (hT : findE 21 T = some e21.g) (L M : List At1) (hl : L.length ≤ 1000) (hm : M.length ≤ 1000) : CallAt (ctx T) 12 [aAttrs L, aAttrs M] ⟨0, []⟩ (.bool (alikeL L M)) ⟨0, []⟩ := by
  refine callAt_body (fn := Try.f12) (s0 := ⟨[0, 1, 4], [aAttrs L, aAttrs M, .undef], [], 20, ⟨0, [[]]⟩⟩) Try.func12 rfl rfl rfl ?_
  repeat refine wps_seq ?_
  refine wps_region callOK ?_
  simp [ofV, ofV1, mkC_P, writeVar, writeCells, readCells, allSingle, AV.single, getFs, getF, setFs, setF, Heap.get, Heap.set, Heap.new, Heap.kill, killF, pushF, Heap.ready, refs, sliceParts, fillA, replL]
  have h1 := fun H => k21 hT hl hm (th_aAttrs H L) (th_aAttrs H M)
  have h2 := fun H => k21 hT hm hl (th_aAttrs H M) (th_aAttrs H L)
  by_cases h : L.length = M.length
  · cases h3 : amongL L M with
    | true =>
      repeat refine wps_seq ?_
      refine wps_region callOK ?_
      simp [ofV, ofV1, mkC_P, writeVar, writeCells, readCells, allSingle, AV.single, getFs, getF, setFs, setF, Heap.get, Heap.set, Heap.new, Heap.kill, killF, pushF, Heap.ready, refs, sliceParts, fillA, replL, len22, h, h1, h2, h3]
      repeat refine wps_seq ?_
      refine wps_ret ?_
      simp [retVal, Try.f12, oneOr]
      exact ends_pure rfl (by simp [alikeL, h, h3])
    | false =>
      repeat refine wps_seq ?_
      refine wps_region callOK ?_
      simp [ofV, ofV1, mkC_P, writeVar, writeCells, readCells, allSingle, AV.single, getFs, getF, setFs, setF, Heap.get, Heap.set, Heap.new, Heap.kill, killF, pushF, Heap.ready, refs, sliceParts, fillA, replL, len22, h, h1, h2, h3]
      repeat refine wps_seq ?_
      refine wps_ret ?_
      simp [retVal, Try.f12, oneOr]
      exact ends_pure rfl (by simp [alikeL, h, h3])
  · have h' : ¬ (L.length : Int) = M.length := by omega
    repeat refine wps_seq ?_
    refine wps_region callOK ?_
    simp [ofV, ofV1, mkC_P, writeVar, writeCells, readCells, allSingle, AV.single, getFs, getF, setFs, setF, Heap.get, Heap.set, Heap.new, Heap.kill, killF, pushF, Heap.ready, refs, sliceParts, fillA, replL, len22, h', h1, h2]
    repeat refine wps_seq ?_
    refine wps_ret ?_
    simp [retVal, Try.f12, oneOr]
    exact ends_pure rfl (by simp [alikeL, h])
def smallA (a : At1) : Bool := decide (a.1.length ≤ 40) && decide (a.2.length ≤ 150)
def plainL (L : List At1) : Bool := decide (L.length ≤ 14) && L.all smallA
theorem c5 {T : List (Entry Try.prog)} (L : List At1) : CallAt (ctx T) 5 [aAttrs L] ⟨0, []⟩ (.bool (plainL L)) ⟨0, []⟩ := by
  refine callAt_body (fn := Try.f5) (s0 := ⟨[0, 2, 4, 8, 9, 10], [aAttrs L, .undef, .undef, .undef, .undef, .undef], [], 25, ⟨0, [[]]⟩⟩) Try.func5 rfl rfl rfl ?_
  repeat refine wps_seq ?_
  refine wps_region callOK ?_
  simp [ofV, ofV1, mkC_P, writeVar, writeCells, readCells, allSingle, AV.single, getFs, getF, setFs, setF, Heap.get, Heap.set, Heap.new, Heap.kill, killF, pushF, Heap.ready, refs, sliceParts, fillA, replL]
  repeat refine wps_seq ?_
  refine wps_region callOK ?_
  simp [ofV, ofV1, mkC_P, writeVar, writeCells, readCells, allSingle, AV.single, getFs, getF, setFs, setF, Heap.get, Heap.set, Heap.new, Heap.kill, killF, pushF, Heap.ready, refs, sliceParts, fillA, replL, len22]
  repeat refine wps_seq ?_
  refine wps_cond rfl (fun h => ?_) fun h => ?_
  · simp at h
    repeat refine wps_seq ?_
    refine wps_region callOK ?_
    simp [ofV, ofV1, mkC_P, writeVar, writeCells, readCells, allSingle, AV.single, getFs, getF, setFs, setF, Heap.get, Heap.set, Heap.new, Heap.kill, killF, pushF, Heap.ready, refs, sliceParts, fillA, replL]
    repeat refine wps_seq ?_
    refine wps_ret ?_
    simp [retVal, Try.f5, oneOr]
    exact ends_pure rfl (by simp [plainL]; omega)
  · simp at h
    repeat refine wps_seq ?_
    refine wps_skip ?_
    simp
    repeat refine wps_seq ?_
    refine wps_region callOK ?_
    simp [ofV, ofV1, mkC_P, writeVar, writeCells, readCells, allSingle, AV.single, getFs, getF, setFs, setF, Heap.get, Heap.set, Heap.new, Heap.kill, killF, pushF, Heap.ready, refs, sliceParts, fillA, replL, len22]
    repeat refine wps_seq ?_
    refine wps_block (wps_loop' (fun i : Nat => (⟨[0, 2, 4, 8, 9, 10], [aAttrs L, .undef, .undef, aAttrs L, .int .i64 L.length, .int .i64 i], [], 25, ⟨0, [[]]⟩⟩ : St))
      (fun i => i ≤ L.length ∧ plainL L = (L.drop i).all smallA) (fun i => L.length - i) [] [] 0 ⟨Nat.zero_le _, by simp [plainL]; omega⟩ ⟨rfl, rfl, rfl, by simp [fitL, fitV, pureV, pureL], FitH.nothing⟩ ?_)
    rintro i ⟨hi, hx⟩ B hB
    repeat refine wps_seq ?_
    refine wps_region callOK ?_
    simp [ofV, ofV1, mkC_P, writeVar, writeCells, readCells, allSingle, AV.single, getFs, getF, setFs, setF, Heap.get, Heap.set, Heap.new, Heap.kill, killF, pushF, Heap.ready, refs, sliceParts, fillA, replL]
    repeat refine wps_seq ?_
    refine wps_cond rfl (fun h2 => ?_) fun h2 => ?_
    · simp at h2
      repeat refine wps_seq ?_
      refine wps_skip ?_
      simp
      repeat refine wps_seq ?_
      refine wps_block ?_
      repeat refine wps_seq ?_
      refine wps_region callOK ?_
      simp [ofV, ofV1, mkC_P, writeVar, writeCells, readCells, allSingle, AV.single, getFs, getF, setFs, setF, Heap.get, Heap.set, Heap.new, Heap.kill, killF, pushF, Heap.ready, refs, sliceParts, fillA, replL, at22 h2, rd24]
      have hs : smallA L[i] = (decide (L[i].1.length ≤ 40) && decide (L[i].2.length ≤ 150)) := rfl
      by_cases h3 : L[i].1.length ≤ 40
      · have h3' : ¬ (40 : Int) < L[i].1.length := by omega
        repeat refine wps_seq ?_
        refine wps_region callOK ?_
        simp [ofV, ofV1, mkC_P, writeVar, writeCells, readCells, allSingle, AV.single, getFs, getF, setFs, setF, Heap.get, Heap.set, Heap.new, Heap.kill, killF, pushF, Heap.ready, refs, sliceParts, fillA, replL, lenA, h3']
        repeat refine wps_seq ?_
        refine wps_cond rfl (fun h4 => ?_) fun h4 => ?_
        · repeat refine wps_seq ?_
          refine wps_region callOK ?_
          simp [ofV, ofV1, mkC_P, writeVar, writeCells, readCells, allSingle, AV.single, getFs, getF, setFs, setF, Heap.get, Heap.set, Heap.new, Heap.kill, killF, pushF, Heap.ready, refs, sliceParts, fillA, replL]
          repeat refine wps_seq ?_
          refine wps_ret ?_
          simp [retVal, Try.f5, oneOr]
          simp at h4
          exact ends_pure rfl (by rw [hx, all_at h2, hs]; simp; omega)
        · repeat refine wps_seq ?_
          refine wps_skip ?_
          simp
          repeat refine wps_seq ?_
          refine wps_region callOK ?_
          simp [ofV, ofV1, mkC_P, writeVar, writeCells, readCells, allSingle, AV.single, getFs, getF, setFs, setF, Heap.get, Heap.set, Heap.new, Heap.kill, killF, pushF, Heap.ready, refs, sliceParts, fillA, replL, add_one (show i ≤ 1000000000 by omega)]
          simp at h4
          refine hB _ (i + 1) (by omega) ⟨by omega, by rw [hx, all_at h2, hs]; simp [h3]; omega⟩ ⟨[], [], ⟨rfl, rfl, rfl, by simp [fitL, fitV, pureV, pureL], FitH.nothing⟩⟩
      · have h3' : (40 : Int) < L[i].1.length := by omega
        repeat refine wps_seq ?_
        refine wps_region callOK ?_
        simp [ofV, ofV1, mkC_P, writeVar, writeCells, readCells, allSingle, AV.single, getFs, getF, setFs, setF, Heap.get, Heap.set, Heap.new, Heap.kill, killF, pushF, Heap.ready, refs, sliceParts, fillA, replL, lenA, h3']
        repeat refine wps_seq ?_
        refine wps_cond rfl (fun h4 => ?_) fun h4 => ?_
        · repeat refine wps_seq ?_
          refine wps_region callOK ?_
          simp [ofV, ofV1, mkC_P, writeVar, writeCells, readCells, allSingle, AV.single, getFs, getF, setFs, setF, Heap.get, Heap.set, Heap.new, Heap.kill, killF, pushF, Heap.ready, refs, sliceParts, fillA, replL]
          repeat refine wps_seq ?_
          refine wps_ret ?_
          simp [retVal, Try.f5, oneOr]
          exact ends_pure rfl (by rw [hx, all_at h2, hs]; simp [h3])
        · cases h4
    · simp at h2
      repeat refine wps_seq ?_
      refine wps_exit ?_
      simp
      repeat refine wps_seq ?_
      refine wps_region callOK ?_
      simp [ofV, ofV1, mkC_P, writeVar, writeCells, readCells, allSingle, AV.single, getFs, getF, setFs, setF, Heap.get, Heap.set, Heap.new, Heap.kill, killF, pushF, Heap.ready, refs, sliceParts, fillA, replL]
      repeat refine wps_seq ?_
      refine wps_ret ?_
      simp [retVal, Try.f5, oneOr]
      exact ends_pure rfl (by rw [hx, List.drop_eq_nil_of_le h2]; rfl)
noncomputable def e5 : Entry Try.prog := mkE 5 [[2]] (fun x : List At1 => [aAttrs x]) (fun _ => True) (fun x => .bool (plainL x)) fun x _ => c5 (T := []) x
theorem k5 {T : List (Entry Try.prog)} (hT : findE 5 T = some e5.g) {L : List At1} {H : Heap} {l : AV} (h : thawA H [2] l = some (aAttrs L)) : callL (ctx T) 5 [l] H = some (.bool (plainL L), H) :=
  mkE_scalar hT (fun x y h => by simp at h; exact inj_aAttrs h) L trivial rfl (by simp [h])
noncomputable def e12 : Entry Try.prog := mkE 12 [[2], [2]] (fun x : List At1 × List At1 => [aAttrs x.1, aAttrs x.2]) (fun x => x.1.length ≤ 1000 ∧ x.2.length ≤ 1000) (fun x => .bool (alikeL x.1 x.2)) fun x hx => c12 (T := [e21]) rfl x.1 x.2 hx.1 hx.2
theorem k12 {T : List (Entry Try.prog)} (hT : findE 12 T = some e12.g) {L M : List At1} (hl : L.length ≤ 1000) (hm : M.length ≤ 1000) {H : Heap} {l m : AV} (h1 : thawA H [2] l = some (aAttrs L)) (h2 : thawA H [2] m = some (aAttrs M)) : callL (ctx T) 12 [l, m] H = some (.bool (alikeL L M), H) :=
  mkE_scalar hT inj2 (L, M) ⟨hl, hm⟩ rfl (by simp [h1, h2])
end Go.Proofs.Ytnfodgjohekdgaa
