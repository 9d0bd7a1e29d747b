/- Alike, by a map. No condition. -/
import Derived.Test.YtnfodgjohekdgaaF7
import Derived.Test.YtnfodgjohekdgaaG9
namespace Go.Proofs.Ytnfodgjohekdgaa
set_option linter.unusedSimpArgs false
set_option linter.unusedVariables false
open Go Go.RowKit
set_option maxRecDepth 100000

def one_ (_ : Unit) : AV := .int .i64 1
def mapAt : MapT Try.prog 34 aAttr one_ where
  tk := 24
  te := 3
  kd := _
  hu := Try.underlying34
  hk := Try.underlying24
  eq := fun a b => by
    have h : ∀ fs, keyEq Try.prog 24 (.struct fs) (aAttr a) (aAttr b) = eqA Try.prog 24 (aAttr a) (aAttr b) := fun fs => rfl
    rw [h, eq24]
  pure := fun a v => rfl
/-- the map of the first n of M -/
def seen1 (M : List At1) : List (At1 × Unit) → List (At1 × Unit) := fun m => M.foldl (fun m a => setM a () m) m
def gone1 (M : List At1) : List (At1 × Unit) → List (At1 × Unit) := fun m => M.foldl (fun m a => delM a m) m
theorem seen_get {c : At1} : ∀ (M : List At1) (m : List (At1 × Unit)), (getM c (seen1 M m)).isSome = (M.contains c || (getM c m).isSome)
  | [], m => by simp [seen1]
  | a :: r, m => by
    have := seen_get (c := c) r (setM a () m)
    simp only [seen1, List.foldl_cons] at this ⊢
    rw [this, getM_set]
    by_cases h : a = c
    · subst h; simp
    · have h' : ¬ c = a := fun e => h e.symm
      simp [h, h']
theorem seen_keys : ∀ (M : List At1) (m : List (At1 × Unit)), (m.map (·.1)).Nodup → ((seen1 M m).map (·.1)).Nodup
  | [], m, h => h
  | a :: r, m, h => seen_keys r (setM a () m) (setM_keys h)
theorem gone_get {c : At1} : ∀ (M : List At1) (m : List (At1 × Unit)), (m.map (·.1)).Nodup → (getM c (gone1 M m)).isSome = ((getM c m).isSome && !M.contains c)
  | [], m, _ => by simp [gone1]
  | a :: r, m, h => by
    have := gone_get (c := c) r (delM a m) (delM_keys h)
    simp only [gone1, List.foldl_cons] at this ⊢
    rw [this, getM_del h]
    by_cases h2 : a = c
    · subst h2; simp
    · have h' : ¬ c = a := fun e => h2 e.symm
      simp [h2, h']
theorem gone_empty (L M : List At1) : (gone1 L (seen1 M [])).length = 0 ↔ amongL M L = true := by
  have hk := seen_keys M [] List.nodup_nil
  constructor
  · intro h
    have h0 : gone1 L (seen1 M []) = [] := List.length_eq_zero_iff.1 h
    simp only [amongL, List.all_eq_true]
    intro c hc
    have := gone_get (c := c) L (seen1 M []) hk
    rw [h0, seen_get] at this
    have hm : M.contains c = true := by simpa using hc
    simp only [getM, Option.isSome_none, hm, Bool.true_or, Bool.true_and] at this
    simpa using this.symm
  · intro h
    rw [List.length_eq_zero_iff]
    cases hg : gone1 L (seen1 M []) with
    | nil => rfl
    | cons p r =>
      exfalso
      have h1 := gone_get (c := p.1) L (seen1 M []) hk
      rw [hg, seen_get] at h1
      simp only [getM, if_true, Option.isSome_some, Option.isSome_none, Bool.or_false] at h1
      simp only [amongL, List.all_eq_true] at h
      have hp : M.contains p.1 = true := by
        cases hc : M.contains p.1 with
        | true => rfl
        | false => rw [hc] at h1; simp at h1
      have := h p.1 (by simpa using hp)
      rw [this, hp] at h1
      cases h1
theorem c11 {T : List (Entry Try.prog)} (L M : List At1) (hl : L.length ≤ 900) (hm : M.length ≤ 900) : CallAt (ctx T) 11 [aAttrs L, aAttrs M] ⟨0, []⟩ (.bool (alikeL L M)) ⟨0, []⟩ := by
  have hget : ∀ (m : List (At1 × Unit)) (f : List (Nat × Blk)) (n : Nat), getF 0 f = none → Heap.get ⟨n, [f ++ [(0, .map (entsM aAttr one_ m))]]⟩ 0 = some (.map (entsM aAttr one_ m)) := fun m f n h => by
    show getFs 0 [f ++ _] = _
    have : getF 0 (f ++ [(0, .map (entsM aAttr one_ m))]) = some (.map (entsM aAttr one_ m)) := by
      induction f with
      | nil => rfl
      | cons e r ih =>
        unfold getF at h
        simp only [List.cons_append]
        unfold getF
        cases hb : Nat.beq e.1 0 with
        | true => simp [hb] at h
        | false => simp only [hb] at h ⊢; exact ih h
    simp only [getFs, this]
  have fith : ∀ (m : List (At1 × Unit)) (f : List (Nat × Blk)) (n : Nat), getF 0 f = none → FitH 0 [(0, 0)] [] ⟨n, [f ++ [(0, .map (entsM aAttr one_ m))]]⟩ ⟨1, [[(0, .map (entsM aAttr one_ m))]]⟩ := fun m f n h => by
    refine .same (by simp) (by simp) (by simp) (by simp) (by simp [Heap.ents]) ?_
    intro e he
    simp [Heap.ents] at he
    subst he
    refine ⟨by simp, hget m f n h, ?_, ?_⟩
    · apply fitL_pure
      apply pureL_of
      intro v hv
      simp only [entsM, List.map_map, List.mem_map, Function.comp] at hv
      obtain ⟨p, _, rfl⟩ := hv
      simp
    · apply fitL_pure
      apply pureL_of
      intro v hv
      simp only [entsM, List.map_map, List.mem_map, Function.comp] at hv
      obtain ⟨p, _, rfl⟩ := hv
      rfl
  refine callAt_body (fn := Try.f11) (s0 := ⟨[0, 1, 4, 5, 7, 9, 11, 18, 19, 20, 27, 28, 29, 38, 39, 40], [aAttrs L, aAttrs M, .undef, .undef, .undef, .undef, .undef, .undef, .undef, .undef, .undef, .undef, .undef, .undef, .undef, .undef], [], 50, ⟨0, [[]]⟩⟩) Try.func11 rfl rfl rfl ?_
  repeat refine wps_seq ?_
  refine wps_region callOK ?_
  simp [ofV, ofV1, mkC_P, writeVar, writeCells, readCells, allSingle, AV.single, getFs, getF, setFs, setF, Heap.get, Heap.set, Heap.new, Heap.kill, killF, pushF, Heap.ready, refs, sliceParts, fillA, replL]
  repeat refine wps_seq ?_
  refine wps_region callOK ?_
  simp [ofV, ofV1, mkC_P, writeVar, writeCells, readCells, allSingle, AV.single, getFs, getF, setFs, setF, Heap.get, Heap.set, Heap.new, Heap.kill, killF, pushF, Heap.ready, refs, sliceParts, fillA, replL, len22]
  repeat refine wps_seq ?_
  refine wps_cond rfl (fun h => ?_) fun h => ?_
  · repeat refine wps_seq ?_
    refine wps_region callOK ?_
    simp [ofV, ofV1, mkC_P, writeVar, writeCells, readCells, allSingle, AV.single, getFs, getF, setFs, setF, Heap.get, Heap.set, Heap.new, Heap.kill, killF, pushF, Heap.ready, refs, sliceParts, fillA, replL]
    repeat refine wps_seq ?_
    refine wps_ret ?_
    simp [retVal, Try.f11, oneOr]
    have hne : ¬ L.length = M.length := by simp at h; omega
    exact ends_pure rfl (by simp [alikeL, hne])
  have hlm : L.length = M.length := by simp at h; omega
  repeat refine wps_seq ?_
  refine wps_skip ?_
  simp
  repeat refine wps_seq ?_
  refine wps_region callOK ?_
  simp [ofV, ofV1, mkC_P, writeVar, writeCells, readCells, allSingle, AV.single, getFs, getF, setFs, setF, Heap.get, Heap.set, Heap.new, Heap.kill, killF, pushF, Heap.ready, refs, sliceParts, fillA, replL]
  repeat refine wps_seq ?_
  refine wps_region callOK ?_
  simp [ofV, ofV1, mkC_P, writeVar, writeCells, readCells, allSingle, AV.single, getFs, getF, setFs, setF, Heap.get, Heap.set, Heap.new, Heap.kill, killF, pushF, Heap.ready, refs, sliceParts, fillA, replL, len22]
  repeat refine wps_seq ?_
  refine wps_block (wps_loop' (fun i : Nat => (⟨[0, 1, 4, 5, 7, 9, 11, 18, 19, 20, 27, 28, 29, 38, 39, 40], [aAttrs L, aAttrs M, .undef, .map 0, .undef, .undef, .undef, aAttrs M, .int .i64 M.length, .int .i64 i, .undef, .undef, .undef, .undef, .undef, .undef], [], 50, ⟨1, [[(0, .map (entsM aAttr one_ (seen1 (M.take i) [])))]]⟩⟩ : St))
    (fun i => i ≤ M.length) (fun i => M.length - i) [(0, 0)] [] 0 (Nat.zero_le _) ⟨rfl, rfl, rfl, by simp [fitL, fitV, lookN, pureV], fith [] [] _ rfl⟩ ?_)
  rintro i hi B hB
  repeat refine wps_seq ?_
  refine wps_region callOK ?_
  simp [ofV, ofV1, mkC_P, writeVar, writeCells, readCells, allSingle, AV.single, getFs, getF, setFs, setF, Heap.get, Heap.set, Heap.new, Heap.kill, killF, pushF, Heap.ready, refs, sliceParts, fillA, replL]
  repeat refine wps_seq ?_
  refine wps_cond rfl (fun h => ?_) fun h => ?_
  · simp at h
    repeat refine wps_seq ?_
    refine wps_skip ?_
    simp
    repeat refine wps_seq ?_
    refine wps_block ?_
    repeat refine wps_seq ?_
    refine wps_region callOK ?_
    simp [ofV, ofV1, mkC_P, writeVar, writeCells, readCells, allSingle, AV.single, getFs, getF, setFs, setF, Heap.get, Heap.set, Heap.new, Heap.kill, killF, pushF, Heap.ready, refs, sliceParts, fillA, replL, at22 h, rd24]
    have hu := mapAt.update (H := ⟨2, [[(1, .cells [.str M[i].1, .str M[i].2]), (0, .map (entsM aAttr one_ (seen1 (M.take i) [])))]]⟩) (b := 0) (M := seen1 (M.take i) []) (by simp [Heap.get, getFs, getF]) M[i] ()
    simp only [one_] at hu
    repeat refine wps_seq ?_
    refine wps_region callOK ?_
    simp [ofV, ofV1, mkC_P, writeVar, writeCells, readCells, allSingle, AV.single, getFs, getF, setFs, setF, Heap.get, Heap.set, Heap.new, Heap.kill, killF, pushF, Heap.ready, refs, sliceParts, fillA, replL, fold_at, hu]
    repeat refine wps_seq ?_
    refine wps_region callOK ?_
    simp [ofV, ofV1, mkC_P, writeVar, writeCells, readCells, allSingle, AV.single, getFs, getF, setFs, setF, Heap.get, Heap.set, Heap.new, Heap.kill, killF, pushF, Heap.ready, refs, sliceParts, fillA, replL, add_one (show i ≤ 1000000000 by omega)]
    have hs : seen1 (M.take (i + 1)) [] = setM M[i] () (seen1 (M.take i) []) := by
      unfold seen1
      rw [take_succ' h, List.foldl_append]; rfl
    refine hB _ (i + 1) (by omega) (by omega) ⟨[(0, 0)], [], rfl, rfl, rfl, by simp [fitL, fitV, lookN, pureV], ?_⟩
    rw [hs]
    exact fith _ [(1, .cells [.str M[i].1, .str M[i].2])] _ rfl
  simp at h
  repeat refine wps_seq ?_
  refine wps_exit ?_
  simp
  rw [List.take_of_length_le h]
  repeat refine wps_seq ?_
  refine wps_region callOK ?_
  simp [ofV, ofV1, mkC_P, writeVar, writeCells, readCells, allSingle, AV.single, getFs, getF, setFs, setF, Heap.get, Heap.set, Heap.new, Heap.kill, killF, pushF, Heap.ready, refs, sliceParts, fillA, replL, len22]
  repeat refine wps_seq ?_
  refine wps_block (wps_loop' (fun i : Nat => (⟨[0, 1, 4, 5, 7, 9, 11, 18, 19, 20, 27, 28, 29, 38, 39, 40], [aAttrs L, aAttrs M, .undef, .map 0, .undef, .undef, .undef, .undef, .undef, .undef, aAttrs L, .int .i64 L.length, .int .i64 i, .undef, .undef, .undef], [], 50, ⟨1, [[(0, .map (entsM aAttr one_ (seen1 M [])))]]⟩⟩ : St))
    (fun i => i ≤ L.length ∧ (L.take i).all (fun a => M.contains a) = true) (fun i => L.length - i) [(0, 0)] [] 0 ⟨Nat.zero_le _, by simp⟩ ⟨rfl, rfl, rfl, by simp [fitL, fitV, lookN, pureV], fith _ [] _ rfl⟩ ?_)
  rintro i ⟨hi, hx⟩ B hB
  repeat refine wps_seq ?_
  refine wps_region callOK ?_
  simp [ofV, ofV1, mkC_P, writeVar, writeCells, readCells, allSingle, AV.single, getFs, getF, setFs, setF, Heap.get, Heap.set, Heap.new, Heap.kill, killF, pushF, Heap.ready, refs, sliceParts, fillA, replL]
  repeat refine wps_seq ?_
  refine wps_cond rfl (fun h => ?_) fun h => ?_
  · simp at h
    repeat refine wps_seq ?_
    refine wps_skip ?_
    simp
    repeat refine wps_seq ?_
    refine wps_block ?_
    repeat refine wps_seq ?_
    refine wps_region callOK ?_
    simp [ofV, ofV1, mkC_P, writeVar, writeCells, readCells, allSingle, AV.single, getFs, getF, setFs, setF, Heap.get, Heap.set, Heap.new, Heap.kill, killF, pushF, Heap.ready, refs, sliceParts, fillA, replL, at22 h, rd24]
    have hlook : lookupA Try.prog ⟨2, [[(1, .cells [.str L[i].1, .str L[i].2]), (0, .map (entsM aAttr one_ (seen1 M [])))]]⟩ 34 (.map 0) (aAttr L[i]) false = some (.int .i64 (if M.contains L[i] = true then 1 else 0)) := by
      rw [mapAt.look (M := seen1 M []) zeT3 (by simp [Heap.get, getFs, getF])]
      have hs := seen_get (c := L[i]) M []
      simp only [getM, Option.isSome_none, Bool.or_false] at hs
      rw [← hs]
      cases getM L[i] (seen1 M []) <;> rfl
    repeat refine wps_seq ?_
    refine wps_region callOK ?_
    simp [ofV, ofV1, mkC_P, writeVar, writeCells, readCells, allSingle, AV.single, getFs, getF, setFs, setF, Heap.get, Heap.set, Heap.new, Heap.kill, killF, pushF, Heap.ready, refs, sliceParts, fillA, replL, fold_at, hlook]
    repeat refine wps_seq ?_
    refine wps_cond rfl (fun h2 => ?_) fun h2 => ?_
    · repeat refine wps_seq ?_
      refine wps_region callOK ?_
      simp [ofV, ofV1, mkC_P, writeVar, writeCells, readCells, allSingle, AV.single, getFs, getF, setFs, setF, Heap.get, Heap.set, Heap.new, Heap.kill, killF, pushF, Heap.ready, refs, sliceParts, fillA, replL]
      repeat refine wps_seq ?_
      refine wps_ret ?_
      simp [retVal, Try.f11, oneOr]
      have hn : M.contains L[i] = false := by
        simp at h2
        simpa using h2
      have ha : amongL L M = false := by
        cases ha : amongL L M with
        | false => rfl
        | true =>
          simp only [amongL, List.all_eq_true] at ha
          rw [ha L[i] (List.getElem_mem h)] at hn; cases hn
      exact ends_pure rfl (by simp [alikeL, ha])
    · have hn : M.contains L[i] = true := by
        simp at h2
        simpa using h2
      repeat refine wps_seq ?_
      refine wps_skip ?_
      simp
      repeat refine wps_seq ?_
      refine wps_region callOK ?_
      simp [ofV, ofV1, mkC_P, writeVar, writeCells, readCells, allSingle, AV.single, getFs, getF, setFs, setF, Heap.get, Heap.set, Heap.new, Heap.kill, killF, pushF, Heap.ready, refs, sliceParts, fillA, replL, add_one (show i ≤ 1000000000 by omega)]
      refine hB _ (i + 1) (by omega) ⟨by omega, ?_⟩ ⟨[(0, 0)], [], rfl, rfl, rfl, by simp [fitL, fitV, lookN, pureV], fith _ [(1, .cells [.str L[i].1, .str L[i].2])] _ rfl⟩
      rw [take_succ' h, List.all_append, hx]
      simpa using hn
  simp at h
  rw [List.take_of_length_le h] at hx
  have ha : amongL L M = true := hx
  repeat refine wps_seq ?_
  refine wps_exit ?_
  simp
  repeat refine wps_seq ?_
  refine wps_region callOK ?_
  simp [ofV, ofV1, mkC_P, writeVar, writeCells, readCells, allSingle, AV.single, getFs, getF, setFs, setF, Heap.get, Heap.set, Heap.new, Heap.kill, killF, pushF, Heap.ready, refs, sliceParts, fillA, replL, len22]
  repeat refine wps_seq ?_
  refine wps_block (wps_loop' (fun i : Nat => (⟨[0, 1, 4, 5, 7, 9, 11, 18, 19, 20, 27, 28, 29, 38, 39, 40], [aAttrs L, aAttrs M, .undef, .map 0, .undef, .undef, .undef, .undef, .undef, .undef, .undef, .undef, .undef, aAttrs L, .int .i64 L.length, .int .i64 i], [], 50, ⟨1, [[(0, .map (entsM aAttr one_ (gone1 (L.take i) (seen1 M []))))]]⟩⟩ : St))
    (fun i => i ≤ L.length) (fun i => L.length - i) [(0, 0)] [] 0 (Nat.zero_le _) ⟨rfl, rfl, rfl, by simp [fitL, fitV, lookN, pureV], fith _ [] _ rfl⟩ ?_)
  rintro i hi B hB
  repeat refine wps_seq ?_
  refine wps_region callOK ?_
  simp [ofV, ofV1, mkC_P, writeVar, writeCells, readCells, allSingle, AV.single, getFs, getF, setFs, setF, Heap.get, Heap.set, Heap.new, Heap.kill, killF, pushF, Heap.ready, refs, sliceParts, fillA, replL]
  repeat refine wps_seq ?_
  refine wps_cond rfl (fun h => ?_) fun h => ?_
  · simp at h
    repeat refine wps_seq ?_
    refine wps_skip ?_
    simp
    repeat refine wps_seq ?_
    refine wps_block ?_
    repeat refine wps_seq ?_
    refine wps_region callOK ?_
    simp [ofV, ofV1, mkC_P, writeVar, writeCells, readCells, allSingle, AV.single, getFs, getF, setFs, setF, Heap.get, Heap.set, Heap.new, Heap.kill, killF, pushF, Heap.ready, refs, sliceParts, fillA, replL, at22 h, rd24]
    have hd := mapAt.delete (H := ⟨2, [[(1, .cells [.str L[i].1, .str L[i].2]), (0, .map (entsM aAttr one_ (gone1 (L.take i) (seen1 M []))))]]⟩) (b := 0) (M := gone1 (L.take i) (seen1 M [])) (by simp [Heap.get, getFs, getF]) L[i]
    repeat refine wps_seq ?_
    refine wps_region callOK ?_
    simp [ofV, ofV1, mkC_P, writeVar, writeCells, readCells, allSingle, AV.single, getFs, getF, setFs, setF, Heap.get, Heap.set, Heap.new, Heap.kill, killF, pushF, Heap.ready, refs, sliceParts, fillA, replL, fold_at, hd]
    repeat refine wps_seq ?_
    refine wps_region callOK ?_
    simp [ofV, ofV1, mkC_P, writeVar, writeCells, readCells, allSingle, AV.single, getFs, getF, setFs, setF, Heap.get, Heap.set, Heap.new, Heap.kill, killF, pushF, Heap.ready, refs, sliceParts, fillA, replL, add_one (show i ≤ 1000000000 by omega)]
    have hs : gone1 (L.take (i + 1)) (seen1 M []) = delM L[i] (gone1 (L.take i) (seen1 M [])) := by
      unfold gone1
      rw [take_succ' h, List.foldl_append]; rfl
    refine hB _ (i + 1) (by omega) (by omega) ⟨[(0, 0)], [], rfl, rfl, rfl, by simp [fitL, fitV, lookN, pureV], ?_⟩
    rw [hs]
    exact fith _ [(1, .cells [.str L[i].1, .str L[i].2])] _ rfl
  simp at h
  repeat refine wps_seq ?_
  refine wps_exit ?_
  simp
  rw [List.take_of_length_le h]
  have hlen := mapAt.len (H := ⟨1, [[(0, .map (entsM aAttr one_ (gone1 L (seen1 M []))))]]⟩) (b := 0) (M := gone1 L (seen1 M [])) (by simp [Heap.get, getFs, getF])
  repeat refine wps_seq ?_
  refine wps_region callOK ?_
  simp [ofV, ofV1, mkC_P, writeVar, writeCells, readCells, allSingle, AV.single, getFs, getF, setFs, setF, Heap.get, Heap.set, Heap.new, Heap.kill, killF, pushF, Heap.ready, refs, sliceParts, fillA, replL, hlen]
  repeat refine wps_seq ?_
  refine wps_ret ?_
  simp [retVal, Try.f11, oneOr]
  refine ends_pure rfl ?_
  have he := gone_empty L M
  cases hb : amongL M L with
  | true => simp [alikeL, hlm, ha, hb, List.length_eq_zero_iff.1 (he.2 hb)]
  | false =>
    have : gone1 L (seen1 M []) ≠ [] := fun e => by rw [he.1 (by rw [e]; rfl)] at hb; cases hb
    simp [alikeL, hlm, ha, hb, this]
end Go.Proofs.Ytnfodgjohekdgaa
