/- The ways to ask of attributes. No condition. -/
import Derived.Test.YtnfodgjohekdgaaG2
namespace Go.Proofs.Ytnfodgjohekdgaa
set_option linter.unusedSimpArgs false
set_option linter.unusedVariables false
open Go Go.RowKit
set_option maxRecDepth 100000

theorem getAt_at {nm : Str} {L : List At1} {i : Nat} (h : i < L.length) : getAt nm (L.drop i) = if L[i].1 = nm then some L[i].2 else getAt nm (L.drop (i + 1)) := by
  rw [List.drop_eq_getElem_cons h]; rfl
theorem c8 {T : List (Entry Try.prog)} (L : List At1) (nm : Str) (hl : L.length ≤ 1000) : CallAt (ctx T) 8 [aAttrs L, .str nm] ⟨0, []⟩ (gotA (getAt nm L)) ⟨0, []⟩ := by
  refine callAt_body (fn := Try.f8) (s0 := ⟨[0, 1, 4, 5, 6], [aAttrs L, .str nm, .undef, .undef, .undef], [], 25, ⟨0, [[]]⟩⟩) Try.func8 rfl rfl rfl ?_
  repeat refine wps_seq ?_
  refine wps_region callOK ?_
  simp [ofV, ofV1, mkC_P, writeVar, writeCells, readCells, allSingle, AV.single, getFs, getF, setFs, setF, Heap.get, Heap.set, Heap.new, Heap.kill, killF, pushF, Heap.ready, refs, sliceParts, fillA, replL]
  repeat refine wps_seq ?_
  refine wps_region callOK ?_
  simp [ofV, ofV1, mkC_P, writeVar, writeCells, readCells, allSingle, AV.single, getFs, getF, setFs, setF, Heap.get, Heap.set, Heap.new, Heap.kill, killF, pushF, Heap.ready, refs, sliceParts, fillA, replL]
  repeat refine wps_seq ?_
  refine wps_block (wps_loop' (fun i : Nat => (⟨[0, 1, 4, 5, 6], [aAttrs L, .str nm, .str [], .bool false, .int .i64 i], [], 25, ⟨0, [[]]⟩⟩ : St))
    (fun i => i ≤ L.length ∧ getAt nm L = getAt nm (L.drop i)) (fun i => L.length - i) [] [] 0 ⟨Nat.zero_le _, rfl⟩ ⟨rfl, rfl, rfl, by simp [fitL, fitV, pureV, pureL], FitH.nothing⟩ ?_)
  rintro i ⟨hi, hx⟩ B hB
  repeat refine wps_seq ?_
  refine wps_region callOK ?_
  simp [ofV, ofV1, mkC_P, writeVar, writeCells, readCells, allSingle, AV.single, getFs, getF, setFs, setF, Heap.get, Heap.set, Heap.new, Heap.kill, killF, pushF, Heap.ready, refs, sliceParts, fillA, replL, len22]
  repeat refine wps_seq ?_
  refine wps_cond rfl (fun h => ?_) fun h => ?_
  · simp at h
    repeat refine wps_seq ?_
    refine wps_skip ?_
    simp
    repeat refine wps_seq ?_
    refine wps_block ?_
    repeat refine wps_seq ?_
    refine wps_region callOK ?_
    simp [ofV, ofV1, mkC_P, writeVar, writeCells, readCells, allSingle, AV.single, getFs, getF, setFs, setF, Heap.get, Heap.set, Heap.new, Heap.kill, killF, pushF, Heap.ready, refs, sliceParts, fillA, replL, at22 h]
    repeat refine wps_seq ?_
    refine wps_cond rfl (fun h2 => ?_) fun h2 => ?_
    · repeat refine wps_seq ?_
      refine wps_region callOK ?_
      simp [ofV, ofV1, mkC_P, writeVar, writeCells, readCells, allSingle, AV.single, getFs, getF, setFs, setF, Heap.get, Heap.set, Heap.new, Heap.kill, killF, pushF, Heap.ready, refs, sliceParts, fillA, replL, at22 h]
      repeat refine wps_seq ?_
      refine wps_ret ?_
      simp [retVal, Try.f8, oneOr]
      simp at h2
      exact ends_pure rfl (by simp [gotA, hx, getAt_at h, h2])
    · repeat refine wps_seq ?_
      refine wps_skip ?_
      simp
      repeat refine wps_seq ?_
      refine wps_region callOK ?_
      simp [ofV, ofV1, mkC_P, writeVar, writeCells, readCells, allSingle, AV.single, getFs, getF, setFs, setF, Heap.get, Heap.set, Heap.new, Heap.kill, killF, pushF, Heap.ready, refs, sliceParts, fillA, replL, add_one (show i ≤ 1000000000 by omega)]
      simp at h2
      exact hB _ (i + 1) (by omega) ⟨by omega, by rw [hx, getAt_at h]; simp [h2]⟩ ⟨[], [], ⟨rfl, rfl, rfl, by simp [fitL, fitV, pureV, pureL], FitH.nothing⟩⟩
  · simp at h
    repeat refine wps_seq ?_
    refine wps_exit ?_
    simp
    repeat refine wps_seq ?_
    refine wps_region callOK ?_
    simp [ofV, ofV1, mkC_P, writeVar, writeCells, readCells, allSingle, AV.single, getFs, getF, setFs, setF, Heap.get, Heap.set, Heap.new, Heap.kill, killF, pushF, Heap.ready, refs, sliceParts, fillA, replL]
    repeat refine wps_seq ?_
    refine wps_ret ?_
    simp [retVal, Try.f8, oneOr]
    exact ends_pure rfl (by simp [gotA, hx, List.drop_eq_nil_of_le h, getAt])

theorem eq24 (a b : At1) : eqA Try.prog 24 (aAttr a) (aAttr b) = some (decide (a = b)) := by
  have h1 : Try.prog.stoodInHeld 24 = false := by decide +kernel
  have h2 : Try.prog.eqGuardType Try.prog.depth 24 = false := by decide +kernel
  have h3 : decide (a = b) = (eqB a.1 b.1 && eqB a.2 b.2) := by rw [eqB_eq, eqB_eq]; simp [Prod.ext_iff]
  rw [h3]
  unfold eqA
  simp only [Try.underlying24, Option.bind_some, aAttr, h1, h2]
  simp [eqFields, plainT, getL, eqPart]
  cases eqB a.1 b.1 <;> simp
  cases eqB a.2 b.2 <;> simp
theorem neq24 (a b : At1) : binA Try.prog .neq 24 (aAttr a) (aAttr b) = some (.bool !(decide (a = b))) := by
  have : binA Try.prog .neq 24 (aAttr a) (aAttr b) = (eqA Try.prog 24 (aAttr a) (aAttr b)).bind fun e => some (.bool !e) := rfl
  rw [this, eq24]; rfl
theorem eql24 (a b : At1) : binA Try.prog .eql 24 (aAttr a) (aAttr b) = some (.bool (decide (a = b))) := by
  have : binA Try.prog .eql 24 (aAttr a) (aAttr b) = (eqA Try.prog 24 (aAttr a) (aAttr b)).bind fun e => some (.bool e) := rfl
  rw [this, eq24]; rfl
theorem eq_at {α : Type} [DecidableEq α] {L M : List α} (hlm : L.length = M.length) {i : Nat} (h : i < L.length) : (L.drop i = M.drop i) ↔ (L[i] = M[i]'(by omega) ∧ L.drop (i + 1) = M.drop (i + 1)) := by
  rw [List.drop_eq_getElem_cons h, List.drop_eq_getElem_cons (show i < M.length by omega), List.cons.injEq]
theorem c10 {T : List (Entry Try.prog)} (L M : List At1) (hl : L.length ≤ 1000) : CallAt (ctx T) 10 [aAttrs L, aAttrs M] ⟨0, []⟩ (.bool (decide (L = M))) ⟨0, []⟩ := by
  refine callAt_body (fn := Try.f10) (s0 := ⟨[0, 1, 4, 5], [aAttrs L, aAttrs M, .undef, .undef], [], 26, ⟨0, [[]]⟩⟩) Try.func10 rfl rfl rfl ?_
  repeat refine wps_seq ?_
  refine wps_region callOK ?_
  simp [ofV, ofV1, mkC_P, writeVar, writeCells, readCells, allSingle, AV.single, getFs, getF, setFs, setF, Heap.get, Heap.set, Heap.new, Heap.kill, killF, pushF, Heap.ready, refs, sliceParts, fillA, replL]
  repeat refine wps_seq ?_
  refine wps_region callOK ?_
  simp [ofV, ofV1, mkC_P, writeVar, writeCells, readCells, allSingle, AV.single, getFs, getF, setFs, setF, Heap.get, Heap.set, Heap.new, Heap.kill, killF, pushF, Heap.ready, refs, sliceParts, fillA, replL, len22]
  repeat refine wps_seq ?_
  refine wps_cond rfl (fun h => ?_) fun h => ?_
  · repeat refine wps_seq ?_
    refine wps_region callOK ?_
    simp [ofV, ofV1, mkC_P, writeVar, writeCells, readCells, allSingle, AV.single, getFs, getF, setFs, setF, Heap.get, Heap.set, Heap.new, Heap.kill, killF, pushF, Heap.ready, refs, sliceParts, fillA, replL]
    repeat refine wps_seq ?_
    refine wps_ret ?_
    simp [retVal, Try.f10, oneOr]
    have hne : L ≠ M := fun e => by subst e; simp at h
    exact ends_pure rfl (by simp [hne])
  · have hlm : L.length = M.length := by simp at h; exact_mod_cast h
    repeat refine wps_seq ?_
    refine wps_skip ?_
    simp
    repeat refine wps_seq ?_
    refine wps_region callOK ?_
    simp [ofV, ofV1, mkC_P, writeVar, writeCells, readCells, allSingle, AV.single, getFs, getF, setFs, setF, Heap.get, Heap.set, Heap.new, Heap.kill, killF, pushF, Heap.ready, refs, sliceParts, fillA, replL]
    repeat refine wps_seq ?_
    refine wps_block (wps_loop' (fun i : Nat => (⟨[0, 1, 4, 5], [aAttrs L, aAttrs M, .undef, .int .i64 i], [], 26, ⟨0, [[]]⟩⟩ : St))
      (fun i => i ≤ L.length ∧ ((L = M) ↔ (L.drop i = M.drop i))) (fun i => L.length - i) [] [] 0 ⟨Nat.zero_le _, Iff.rfl⟩ ⟨rfl, rfl, rfl, by simp [fitL, fitV, pureV, pureL], FitH.nothing⟩ ?_)
    rintro i ⟨hi, hx⟩ B hB
    repeat refine wps_seq ?_
    refine wps_region callOK ?_
    simp [ofV, ofV1, mkC_P, writeVar, writeCells, readCells, allSingle, AV.single, getFs, getF, setFs, setF, Heap.get, Heap.set, Heap.new, Heap.kill, killF, pushF, Heap.ready, refs, sliceParts, fillA, replL, len22]
    repeat refine wps_seq ?_
    refine wps_cond rfl (fun h => ?_) fun h => ?_
    · simp at h
      repeat refine wps_seq ?_
      refine wps_skip ?_
      simp
      repeat refine wps_seq ?_
      refine wps_block ?_
      have h' : i < M.length := by omega
      repeat refine wps_seq ?_
      refine wps_drawn mixed callOK (by decide +kernel) fun B_ hB_ => ?_
      simp [ofV, ofV1, mkC_P, writeVar, writeCells, readCells, allSingle, AV.single, getFs, getF, setFs, setF, Heap.get, Heap.set, Heap.new, Heap.kill, killF, pushF, Heap.ready, refs, sliceParts, fillA, replL, mkBlk, guardA, evalD, stepD, clsOf, reserve, freshenAll, sameRecs, sameAll, sameAt, allPend, Heap.lay, ontoF, wantedBy, unwantedBy, at22 h, at22 h', rd24, neq24]
      repeat refine wps_seq ?_
      refine wps_cond rfl (fun h2 => ?_) fun h2 => ?_
      · repeat refine wps_seq ?_
        refine wps_region callOK ?_
        simp [ofV, ofV1, mkC_P, writeVar, writeCells, readCells, allSingle, AV.single, getFs, getF, setFs, setF, Heap.get, Heap.set, Heap.new, Heap.kill, killF, pushF, Heap.ready, refs, sliceParts, fillA, replL]
        repeat refine wps_seq ?_
        refine wps_ret ?_
        simp [retVal, Try.f10, oneOr]
        refine ends_pure rfl ?_
        have hne : L[i] ≠ M[i] := by simpa using h2
        simp [hx, eq_at hlm h, hne]
      · repeat refine wps_seq ?_
        refine wps_skip ?_
        simp
        repeat refine wps_seq ?_
        refine wps_region callOK ?_
        simp [ofV, ofV1, mkC_P, writeVar, writeCells, readCells, allSingle, AV.single, getFs, getF, setFs, setF, Heap.get, Heap.set, Heap.new, Heap.kill, killF, pushF, Heap.ready, refs, sliceParts, fillA, replL, add_one (show i ≤ 1000000000 by omega)]
        have he : L[i] = M[i] := by simpa using h2
        exact hB _ (i + 1) (by omega) ⟨by omega, by rw [hx, eq_at hlm h]; simp [he]⟩ ⟨[], [], ⟨rfl, rfl, rfl, by simp [fitL, fitV, pureV, pureL], FitH.nothing⟩⟩
    · simp at h
      repeat refine wps_seq ?_
      refine wps_exit ?_
      simp
      repeat refine wps_seq ?_
      refine wps_region callOK ?_
      simp [ofV, ofV1, mkC_P, writeVar, writeCells, readCells, allSingle, AV.single, getFs, getF, setFs, setF, Heap.get, Heap.set, Heap.new, Heap.kill, killF, pushF, Heap.ready, refs, sliceParts, fillA, replL]
      repeat refine wps_seq ?_
      refine wps_ret ?_
      simp [retVal, Try.f10, oneOr]
      exact ends_pure rfl (by simp [hx, List.drop_eq_nil_of_le h, List.drop_eq_nil_of_le (show M.length ≤ i by omega)])
theorem c20 {T : List (Entry Try.prog)} (L M : List At1) (hl : L.length ≤ 1000) : CallAt (ctx T) 20 [aAttrs L, aAttrs M] ⟨0, []⟩ (.bool (decide (L = M))) ⟨0, []⟩ := by
  refine callAt_body (fn := Try.f20) (s0 := ⟨[0, 1, 4, 5, 12, 13], [aAttrs L, aAttrs M, .undef, .undef, .undef, .undef], [], 26, ⟨0, [[]]⟩⟩) Try.func20 rfl rfl rfl ?_
  repeat refine wps_seq ?_
  refine wps_region callOK ?_
  simp [ofV, ofV1, mkC_P, writeVar, writeCells, readCells, allSingle, AV.single, getFs, getF, setFs, setF, Heap.get, Heap.set, Heap.new, Heap.kill, killF, pushF, Heap.ready, refs, sliceParts, fillA, replL]
  repeat refine wps_seq ?_
  refine wps_region callOK ?_
  simp [ofV, ofV1, mkC_P, writeVar, writeCells, readCells, allSingle, AV.single, getFs, getF, setFs, setF, Heap.get, Heap.set, Heap.new, Heap.kill, killF, pushF, Heap.ready, refs, sliceParts, fillA, replL, len22]
  repeat refine wps_seq ?_
  refine wps_cond rfl (fun h => ?_) fun h => ?_
  · repeat refine wps_seq ?_
    refine wps_region callOK ?_
    simp [ofV, ofV1, mkC_P, writeVar, writeCells, readCells, allSingle, AV.single, getFs, getF, setFs, setF, Heap.get, Heap.set, Heap.new, Heap.kill, killF, pushF, Heap.ready, refs, sliceParts, fillA, replL]
    repeat refine wps_seq ?_
    refine wps_ret ?_
    simp [retVal, Try.f20, oneOr]
    have hne : L ≠ M := fun e => by subst e; simp at h
    exact ends_pure rfl (by simp [hne])
  · have hlm : L.length = M.length := by simp at h; exact_mod_cast h
    repeat refine wps_seq ?_
    refine wps_skip ?_
    simp
    repeat refine wps_seq ?_
    refine wps_region callOK ?_
    simp [ofV, ofV1, mkC_P, writeVar, writeCells, readCells, allSingle, AV.single, getFs, getF, setFs, setF, Heap.get, Heap.set, Heap.new, Heap.kill, killF, pushF, Heap.ready, refs, sliceParts, fillA, replL, len22]
    repeat refine wps_seq ?_
    refine wps_block (wps_loop' (fun i : Nat => (⟨[0, 1, 4, 5, 12, 13], [aAttrs L, aAttrs M, .undef, .undef, .int .i64 L.length, .int .i64 i], [], 26, ⟨0, [[]]⟩⟩ : St))
      (fun i => i ≤ L.length ∧ ((L = M) ↔ (L.drop i = M.drop i))) (fun i => L.length - i) [] [] 0 ⟨Nat.zero_le _, Iff.rfl⟩ ⟨rfl, rfl, rfl, by simp [fitL, fitV, pureV, pureL, hlm], FitH.nothing⟩ ?_)
    rintro i ⟨hi, hx⟩ B hB
    repeat refine wps_seq ?_
    refine wps_region callOK ?_
    simp [ofV, ofV1, mkC_P, writeVar, writeCells, readCells, allSingle, AV.single, getFs, getF, setFs, setF, Heap.get, Heap.set, Heap.new, Heap.kill, killF, pushF, Heap.ready, refs, sliceParts, fillA, replL]
    repeat refine wps_seq ?_
    refine wps_cond rfl (fun h => ?_) fun h => ?_
    · simp at h
      repeat refine wps_seq ?_
      refine wps_skip ?_
      simp
      repeat refine wps_seq ?_
      refine wps_block ?_
      repeat refine wps_seq ?_
      refine wps_region callOK ?_
      simp [ofV, ofV1, mkC_P, writeVar, writeCells, readCells, allSingle, AV.single, getFs, getF, setFs, setF, Heap.get, Heap.set, Heap.new, Heap.kill, killF, pushF, Heap.ready, refs, sliceParts, fillA, replL]
      have h' : i < M.length := by omega
      repeat refine wps_seq ?_
      refine wps_drawn mixed callOK (by decide +kernel) fun B_ hB_ => ?_
      simp [ofV, ofV1, mkC_P, writeVar, writeCells, readCells, allSingle, AV.single, getFs, getF, setFs, setF, Heap.get, Heap.set, Heap.new, Heap.kill, killF, pushF, Heap.ready, refs, sliceParts, fillA, replL, mkBlk, guardA, evalD, stepD, clsOf, reserve, freshenAll, sameRecs, sameAll, sameAt, allPend, Heap.lay, ontoF, wantedBy, unwantedBy, at22 h, at22 h', rd24, neq24]
      repeat refine wps_seq ?_
      refine wps_cond rfl (fun h2 => ?_) fun h2 => ?_
      · repeat refine wps_seq ?_
        refine wps_region callOK ?_
        simp [ofV, ofV1, mkC_P, writeVar, writeCells, readCells, allSingle, AV.single, getFs, getF, setFs, setF, Heap.get, Heap.set, Heap.new, Heap.kill, killF, pushF, Heap.ready, refs, sliceParts, fillA, replL]
        repeat refine wps_seq ?_
        refine wps_ret ?_
        simp [retVal, Try.f20, oneOr]
        refine ends_pure rfl ?_
        have hne : L[i] ≠ M[i] := by simpa using h2
        simp [hx, eq_at hlm h, hne]
      · repeat refine wps_seq ?_
        refine wps_skip ?_
        simp
        repeat refine wps_seq ?_
        refine wps_region callOK ?_
        simp [ofV, ofV1, mkC_P, writeVar, writeCells, readCells, allSingle, AV.single, getFs, getF, setFs, setF, Heap.get, Heap.set, Heap.new, Heap.kill, killF, pushF, Heap.ready, refs, sliceParts, fillA, replL, add_one (show i ≤ 1000000000 by omega)]
        have he : L[i] = M[i] := by simpa using h2
        exact hB _ (i + 1) (by omega) ⟨by omega, by rw [hx, eq_at hlm h]; simp [he]⟩ ⟨[], [], ⟨rfl, rfl, rfl, by simp [fitL, fitV, pureV, pureL], FitH.nothing⟩⟩
    · simp at h
      repeat refine wps_seq ?_
      refine wps_exit ?_
      simp
      repeat refine wps_seq ?_
      refine wps_region callOK ?_
      simp [ofV, ofV1, mkC_P, writeVar, writeCells, readCells, allSingle, AV.single, getFs, getF, setFs, setF, Heap.get, Heap.set, Heap.new, Heap.kill, killF, pushF, Heap.ready, refs, sliceParts, fillA, replL]
      repeat refine wps_seq ?_
      refine wps_ret ?_
      simp [retVal, Try.f20, oneOr]
      exact ends_pure rfl (by simp [hx, List.drop_eq_nil_of_le h, List.drop_eq_nil_of_le (show M.length ≤ i by omega)])
noncomputable def e20 : Entry Try.prog := mkE 20 [[2], [2]] (fun x : List At1 × List At1 => [aAttrs x.1, aAttrs x.2]) (fun x => x.1.length ≤ 1000) (fun x => .bool (decide (x.1 = x.2))) fun x hx => c20 (T := []) x.1 x.2 hx
theorem inj2 (x y : List At1 × List At1) (h : [aAttrs x.1, aAttrs x.2] = [aAttrs y.1, aAttrs y.2]) : x = y := by
  simp at h; exact Prod.ext (inj_aAttrs h.1) (inj_aAttrs h.2)
theorem k20 {T : List (Entry Try.prog)} (hT : findE 20 T = some e20.g) {L M : List At1} (hl : L.length ≤ 1000) {H : Heap} {l m : AV} (h1 : thawA H [2] l = some (aAttrs L)) (h2 : thawA H [2] m = some (aAttrs M)) : callL (ctx T) 20 [l, m] H = some (.bool (decide (L = M)), H) :=
  mkE_scalar hT inj2 (L, M) hl rfl (by simp [h1, h2])
noncomputable def e10 : Entry Try.prog := mkE 10 [[2], [2]] (fun x : List At1 × List At1 => [aAttrs x.1, aAttrs x.2]) (fun x => x.1.length ≤ 1000) (fun x => .bool (decide (x.1 = x.2))) fun x hx => c10 (T := []) x.1 x.2 hx
theorem k10 {T : List (Entry Try.prog)} (hT : findE 10 T = some e10.g) {L M : List At1} (hl : L.length ≤ 1000) {H : Heap} {l m : AV} (h1 : thawA H [2] l = some (aAttrs L)) (h2 : thawA H [2] m = some (aAttrs M)) : callL (ctx T) 10 [l, m] H = some (.bool (decide (L = M)), H) :=
  mkE_scalar hT inj2 (L, M) hl rfl (by simp [h1, h2])
noncomputable def e8 : Entry Try.prog := mkE 8 [[2], []] (fun x : List At1 × Str => [aAttrs x.1, .str x.2]) (fun x => x.1.length ≤ 1000) (fun x => gotA (getAt x.2 x.1)) fun x hx => c8 (T := []) x.1 x.2 hx
theorem k8 {T : List (Entry Try.prog)} (hT : findE 8 T = some e8.g) {L : List At1} (nm : Str) (hl : L.length ≤ 1000) {H : Heap} {l : AV} (h : thawA H [2] l = some (aAttrs L)) : callL (ctx T) 8 [l, .str nm] H = some (gotA (getAt nm L), H) :=
  mkE_scalar hT injS (L, nm) hl rfl (by simp [h])
theorem c9 {T : List (Entry Try.prog)} (hT : findE 20 T = some e20.g) (L M : List At1) (hl : L.length ≤ 1000) : CallAt (ctx T) 9 [aAttrs L, aAttrs M] ⟨0, []⟩ (.bool (decide (L = M))) ⟨0, []⟩ := by
  refine callAt_body (fn := Try.f9) (s0 := ⟨[0, 1, 4], [aAttrs L, aAttrs M, .undef], [], 8, ⟨0, [[]]⟩⟩) Try.func9 rfl rfl rfl ?_
  repeat refine wps_seq ?_
  refine wps_region callOK ?_
  simp [ofV, ofV1, mkC_P, writeVar, writeCells, readCells, allSingle, AV.single, getFs, getF, setFs, setF, Heap.get, Heap.set, Heap.new, Heap.kill, killF, pushF, Heap.ready, refs, sliceParts, fillA, replL]
  repeat refine wps_seq ?_
  refine wps_region callOK ?_
  simp [ofV, ofV1, mkC_P, writeVar, writeCells, readCells, allSingle, AV.single, getFs, getF, setFs, setF, Heap.get, Heap.set, Heap.new, Heap.kill, killF, pushF, Heap.ready, refs, sliceParts, fillA, replL, k20 hT hl (th_aAttrs _ L) (th_aAttrs _ M)]
  repeat refine wps_seq ?_
  refine wps_ret ?_
  simp [retVal, Try.f9, oneOr]
  exact ends_pure rfl rfl
noncomputable def e9 : Entry Try.prog := mkE 9 [[2], [2]] (fun x : List At1 × List At1 => [aAttrs x.1, aAttrs x.2]) (fun x => x.1.length ≤ 1000) (fun x => .bool (decide (x.1 = x.2))) fun x hx => c9 (T := [e20]) rfl x.1 x.2 hx
theorem k9 {T : List (Entry Try.prog)} (hT : findE 9 T = some e9.g) {L M : List At1} (hl : L.length ≤ 1000) {H : Heap} {l m : AV} (h1 : thawA H [2] l = some (aAttrs L)) (h2 : thawA H [2] m = some (aAttrs M)) : callL (ctx T) 9 [l, m] H = some (.bool (decide (L = M)), H) :=
  mkE_scalar hT inj2 (L, M) hl rfl (by simp [h1, h2])
end Go.Proofs.Ytnfodgjohekdgaa
