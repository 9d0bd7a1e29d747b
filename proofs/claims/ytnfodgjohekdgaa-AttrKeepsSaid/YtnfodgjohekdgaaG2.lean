/- The first one of which something holds; Get. No condition. -/
import Derived.Test.YtnfodgjohekdgaaG1
namespace Go.Proofs.Ytnfodgjohekdgaa
set_option linter.unusedSimpArgs false
set_option linter.unusedVariables false
open Go Go.RowKit
set_option maxRecDepth 100000

/-- the place of the first one, from k on -/
def idxFrom {α : Type} (p : α → Bool) : List α → Nat → Int
  | [], _ => -1
  | a :: r, k => if p a = true then k else idxFrom p r (k + 1)
theorem idxFrom_at {α : Type} {p : α → Bool} {L : List α} {i : Nat} (h : i < L.length) : idxFrom p (L.drop i) i = if p L[i] = true then (i : Int) else idxFrom p (L.drop (i + 1)) (i + 1) := by
  rw [List.drop_eq_getElem_cons h]; rfl
theorem at22 {L : List At1} {i : Nat} (h : i < L.length) : indexAddrA Try.prog 22 (aAttrs L) (.int .i64 (i : Int)) = some (.fptr [.str L[i].1, .str L[i].2] 0) := by
  simp [indexAddrA, aAttrs, idx_nat h, getL_map h, aAttr, AV.cells]
theorem len22 {H : Heap} {L : List At1} : lenA Try.prog H 22 (aAttrs L) = some L.length := by simp [lenA, aAttrs]

/-- an element that is read -/
theorem rd24 {H : Heap} (a : At1) : readVar Try.prog H 24 (.fptr [.str a.1, .str a.2] 0) = some (aAttr a) := by simp [readVar, subL, takeL, aAttr]
theorem c25 {T : List (Entry Try.prog)} (L : List At1) (hl : L.length ≤ 1000) (clo : FuncId) (cap : List AV) (hc : pureL cap = true) (p : At1 → Bool) (hp : ∀ a, CallAt (ctx T) clo (aAttr a :: cap) ⟨0, []⟩ (.bool (p a)) ⟨0, []⟩) :
    CallAt (ctx T) 25 [aAttrs L, .func (.func clo) [] cap] ⟨0, []⟩ (.int .i64 (idxFrom p L 0)) ⟨0, []⟩ := by
  refine callAt_body (fn := Try.f25) (s0 := ⟨[0, 1, 4, 5, 7, 8], [aAttrs L, .func (.func clo) [] cap, .undef, .undef, .undef, .undef], [], 19, ⟨0, [[]]⟩⟩) Try.func25 rfl rfl rfl ?_
  repeat refine wps_seq ?_
  refine wps_region callOK ?_
  simp [ofV, ofV1, mkC_P, writeVar, writeCells, readCells, allSingle, AV.single, getFs, getF, setFs, setF, Heap.get, Heap.set, Heap.new, Heap.kill, killF, pushF, Heap.ready, refs, sliceParts, fillA, replL]
  repeat refine wps_seq ?_
  refine wps_region callOK ?_
  simp [ofV, ofV1, mkC_P, writeVar, writeCells, readCells, allSingle, AV.single, getFs, getF, setFs, setF, Heap.get, Heap.set, Heap.new, Heap.kill, killF, pushF, Heap.ready, refs, sliceParts, fillA, replL, len22]
  repeat refine wps_seq ?_
  refine wps_block (wps_loop' (fun i : Nat => (⟨[0, 1, 4, 5, 7, 8], [aAttrs L, .func (.func clo) [] cap, .undef, .undef, .int .i64 L.length, .int .i64 i], [], 19, ⟨0, [[]]⟩⟩ : St))
    (fun i => i ≤ L.length ∧ idxFrom p L 0 = idxFrom p (L.drop i) i) (fun i => L.length - i) [] [] 0 ⟨Nat.zero_le _, rfl⟩ ⟨rfl, rfl, rfl, by simp [fitL, fitV, pureV, pureL, hc], FitH.nothing⟩ ?_)
  rintro i ⟨hi, hx⟩ B hB
  repeat refine wps_seq ?_
  refine wps_region callOK ?_
  simp [ofV, ofV1, mkC_P, writeVar, writeCells, readCells, allSingle, AV.single, getFs, getF, setFs, setF, Heap.get, Heap.set, Heap.new, Heap.kill, killF, pushF, Heap.ready, refs, sliceParts, fillA, replL]
  repeat refine wps_seq ?_
  refine wps_cond rfl (fun h => ?_) fun h => ?_
  · simp at h
    repeat refine wps_seq ?_
    refine wps_skip ?_
    simp
    repeat refine wps_seq ?_
    refine wps_block ?_
    repeat refine wps_seq ?_
    refine wps_region callOK ?_
    simp [ofV, ofV1, mkC_P, writeVar, writeCells, readCells, allSingle, AV.single, getFs, getF, setFs, setF, Heap.get, Heap.set, Heap.new, Heap.kill, killF, pushF, Heap.ready, refs, sliceParts, fillA, replL]
    repeat refine wps_seq ?_
    refine wps_region (callF_ok callOK [⟨clo, [aAttr L[i]] ++ cap, ⟨0, [[]]⟩, .bool (p L[i]), ⟨0, [[]]⟩, (hp L[i]).lift (by simp [pureL, hc]) _⟩]) ?_
    simp [ofV, ofV1, mkC_P, writeVar, writeCells, readCells, allSingle, AV.single, getFs, getF, setFs, setF, Heap.get, Heap.set, Heap.new, Heap.kill, killF, pushF, Heap.ready, refs, sliceParts, fillA, replL, at22 h, callF, rd24]
    repeat refine wps_seq ?_
    refine wps_cond rfl (fun h2 => ?_) fun h2 => ?_
    · repeat refine wps_seq ?_
      refine wps_region callOK ?_
      simp [ofV, ofV1, mkC_P, writeVar, writeCells, readCells, allSingle, AV.single, getFs, getF, setFs, setF, Heap.get, Heap.set, Heap.new, Heap.kill, killF, pushF, Heap.ready, refs, sliceParts, fillA, replL]
      repeat refine wps_seq ?_
      refine wps_ret ?_
      simp [retVal, Try.f25, oneOr]
      refine ⟨[], [], ?_, FitH.empty⟩
      rw [hx, idxFrom_at h, if_pos h2]
      exact fitV_pure rfl
    · repeat refine wps_seq ?_
      refine wps_skip ?_
      simp
      repeat refine wps_seq ?_
      refine wps_region callOK ?_
      simp [ofV, ofV1, mkC_P, writeVar, writeCells, readCells, allSingle, AV.single, getFs, getF, setFs, setF, Heap.get, Heap.set, Heap.new, Heap.kill, killF, pushF, Heap.ready, refs, sliceParts, fillA, replL, add_one (show i ≤ 1000000000 by omega)]
      refine hB _ (i + 1) (by omega) ⟨by omega, ?_⟩ ⟨[], [], ⟨rfl, rfl, rfl, by simp [fitL, fitV, pureV, pureL, hc], FitH.nothing⟩⟩
      rw [hx, idxFrom_at h, h2]
      simp
  · simp at h
    repeat refine wps_seq ?_
    refine wps_exit ?_
    simp
    repeat refine wps_seq ?_
    refine wps_region callOK ?_
    simp [ofV, ofV1, mkC_P, writeVar, writeCells, readCells, allSingle, AV.single, getFs, getF, setFs, setF, Heap.get, Heap.set, Heap.new, Heap.kill, killF, pushF, Heap.ready, refs, sliceParts, fillA, replL]
    repeat refine wps_seq ?_
    refine wps_ret ?_
    simp [retVal, Try.f25, oneOr]
    refine ⟨[], [], ?_, FitH.empty⟩
    rw [hx, List.drop_eq_nil_of_le (by omega)]
    exact fitV_pure rfl

/-- where an attribute of a name is -/
def placeL (L : List At1) (nm : Str) : Int := idxFrom (fun a => decide (a.1 = nm)) L 0
theorem c19 {T : List (Entry Try.prog)} (L : List At1) (nm : Str) (hl : L.length ≤ 1000) : CallAt (ctx T) 19 [aAttrs L, .str nm] ⟨0, []⟩ (.int .i64 (placeL L nm)) ⟨0, []⟩ := by
  refine callAt_body (fn := Try.f19) (s0 := ⟨[0, 1, 3, 4], [aAttrs L, .str nm, .undef, .undef], [], 8, ⟨0, [[]]⟩⟩) Try.func19 rfl rfl rfl ?_
  repeat refine wps_seq ?_
  refine wps_region callOK ?_
  simp [ofV, ofV1, mkC_P, writeVar, writeCells, readCells, allSingle, AV.single, getFs, getF, setFs, setF, Heap.get, Heap.set, Heap.new, Heap.kill, killF, pushF, Heap.ready, refs, sliceParts, fillA, replL]
  repeat refine wps_seq ?_
  refine wps_region (callOKF [⟨25, [aAttrs L, .func (.func 26) [] [.ptr 0 0]], ⟨1, [[(0, .cells [.str nm])]]⟩, .int .i64 (placeL L nm), _,
    CallAt.thaw (c25 L hl 26 [.fptr [.str nm] 0] rfl (fun a => decide (a.1 = nm)) fun a => c26 a nm) rfl [] (by simp [thawA_ok, thawA_clo (H := ⟨1, [[(0, .cells [.str nm])]]⟩) (b := 0) (cs := [.str nm]) rfl rfl])⟩]) ?_
  simp [ofV, ofV1, mkC_P, writeVar, writeCells, readCells, allSingle, AV.single, getFs, getF, setFs, setF, Heap.get, Heap.set, Heap.new, Heap.kill, killF, pushF, Heap.ready, refs, sliceParts, fillA, replL, callF]
  repeat refine wps_seq ?_
  refine wps_ret ?_
  simp [retVal, Try.f19, oneOr]
  exact ends_pure rfl rfl
noncomputable def e19 : Entry Try.prog := mkE 19 [[2], []] (fun x : List At1 × Str => [aAttrs x.1, .str x.2]) (fun x => x.1.length ≤ 1000) (fun x => .int .i64 (placeL x.1 x.2)) fun x hx => c19 (T := []) x.1 x.2 hx
theorem k19 {T : List (Entry Try.prog)} (hT : findE 19 T = some e19.g) {L : List At1} (nm : Str) (hl : L.length ≤ 1000) {H : Heap} {l : AV} (h : thawA H [2] l = some (aAttrs L)) : callL (ctx T) 19 [l, .str nm] H = some (.int .i64 (placeL L nm), H) :=
  mkE_scalar hT (fun x y h => by simp at h; exact Prod.ext (inj_aAttrs h.1) h.2) (L, nm) hl rfl (by simp [h])

/-- the value of a name -/
def getAt (nm : Str) : List At1 → Option Str
  | [] => none
  | a :: r => if a.1 = nm then some a.2 else getAt nm r
def gotA (x : Option Str) : AV := .tup [.str (x.getD []), .bool x.isSome]
theorem idxFrom_get {nm : Str} : ∀ (L : List At1) (k : Nat), (idxFrom (fun a => decide (a.1 = nm)) L k = -1 ∧ getAt nm L = none) ∨ ∃ i, ∃ h : i < L.length, idxFrom (fun a => decide (a.1 = nm)) L k = (k + i : Nat) ∧ getAt nm L = some L[i].2 ∧ L[i].1 = nm
  | [], k => .inl ⟨rfl, rfl⟩
  | a :: r, k => by
    by_cases hq : a.1 = nm
    · exact .inr ⟨0, by simp, by simp [idxFrom, hq], by simp [getAt, hq], hq⟩
    · rcases idxFrom_get (nm := nm) r (k + 1) with ⟨h1, h2⟩ | ⟨i, h, h1, h2, h3⟩
      · exact .inl ⟨by simp [idxFrom, hq, h1], by simp [getAt, hq, h2]⟩
      · exact .inr ⟨i + 1, by simpa using h, by simp [idxFrom, hq, h1]; omega, by simp [getAt, hq, h2], h3⟩
theorem c7 {T : List (Entry Try.prog)} (hT : findE 19 T = some e19.g) (L : List At1) (nm : Str) (hl : L.length ≤ 1000) : CallAt (ctx T) 7 [aAttrs L, .str nm] ⟨0, []⟩ (gotA (getAt nm L)) ⟨0, []⟩ := by
  refine callAt_body (fn := Try.f7) (s0 := ⟨[0, 1, 4, 5, 6], [aAttrs L, .str nm, .undef, .undef, .undef], [], 17, ⟨0, [[]]⟩⟩) Try.func7 rfl rfl rfl ?_
  repeat refine wps_seq ?_
  refine wps_region callOK ?_
  simp [ofV, ofV1, mkC_P, writeVar, writeCells, readCells, allSingle, AV.single, getFs, getF, setFs, setF, Heap.get, Heap.set, Heap.new, Heap.kill, killF, pushF, Heap.ready, refs, sliceParts, fillA, replL]
  repeat refine wps_seq ?_
  refine wps_region callOK ?_
  simp [ofV, ofV1, mkC_P, writeVar, writeCells, readCells, allSingle, AV.single, getFs, getF, setFs, setF, Heap.get, Heap.set, Heap.new, Heap.kill, killF, pushF, Heap.ready, refs, sliceParts, fillA, replL, k19 hT nm hl (th_aAttrs _ L)]
  repeat refine wps_seq ?_
  refine wps_region callOK ?_
  simp [ofV, ofV1, mkC_P, writeVar, writeCells, readCells, allSingle, AV.single, getFs, getF, setFs, setF, Heap.get, Heap.set, Heap.new, Heap.kill, killF, pushF, Heap.ready, refs, sliceParts, fillA, replL]
  repeat refine wps_seq ?_
  refine wps_cond rfl (fun h => ?_) fun h => ?_
  · rcases idxFrom_get (nm := nm) L 0 with ⟨h1, h2⟩ | ⟨i, hi, h1, h2, h3⟩
    · simp [placeL, h1] at h
    · have hp : placeL L nm = (i : Int) := by simp [placeL, h1]
      simp only [hp]
      repeat refine wps_seq ?_
      refine wps_region callOK ?_
      simp [ofV, ofV1, mkC_P, writeVar, writeCells, readCells, allSingle, AV.single, getFs, getF, setFs, setF, Heap.get, Heap.set, Heap.new, Heap.kill, killF, pushF, Heap.ready, refs, sliceParts, fillA, replL, at22 hi]
      repeat refine wps_seq ?_
      refine wps_ret ?_
      simp [retVal, Try.f7, oneOr]
      exact ends_pure rfl (by simp [gotA, h2])
  · rcases idxFrom_get (nm := nm) L 0 with ⟨h1, h2⟩ | ⟨i, hi, h1, h2, h3⟩
    · repeat refine wps_seq ?_
      refine wps_skip ?_
      simp
      repeat refine wps_seq ?_
      refine wps_region callOK ?_
      simp [ofV, ofV1, mkC_P, writeVar, writeCells, readCells, allSingle, AV.single, getFs, getF, setFs, setF, Heap.get, Heap.set, Heap.new, Heap.kill, killF, pushF, Heap.ready, refs, sliceParts, fillA, replL]
      repeat refine wps_seq ?_
      refine wps_ret ?_
      simp [retVal, Try.f7, oneOr]
      exact ends_pure rfl (by simp [gotA, h2])
    · simp [placeL, h1] at h
noncomputable def e7 : Entry Try.prog := mkE 7 [[2], []] (fun x : List At1 × Str => [aAttrs x.1, .str x.2]) (fun x => x.1.length ≤ 1000) (fun x => gotA (getAt x.2 x.1)) fun x hx => c7 (T := [e19]) rfl x.1 x.2 hx
theorem injS (x y : List At1 × Str) (h : [aAttrs x.1, .str x.2] = [aAttrs y.1, .str y.2]) : x = y := by
  simp at h; exact Prod.ext (inj_aAttrs h.1) h.2
theorem k7 {T : List (Entry Try.prog)} (hT : findE 7 T = some e7.g) {L : List At1} (nm : Str) (hl : L.length ≤ 1000) {H : Heap} {l : AV} (h : thawA H [2] l = some (aAttrs L)) : callL (ctx T) 7 [l, .str nm] H = some (gotA (getAt nm L), H) :=
  mkE_scalar hT injS (L, nm) hl rfl (by simp [h])
end Go.Proofs.Ytnfodgjohekdgaa
