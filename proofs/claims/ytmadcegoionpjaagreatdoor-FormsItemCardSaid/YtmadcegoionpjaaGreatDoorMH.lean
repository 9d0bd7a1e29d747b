/- strconv.Atoi, strconv.Itoa: what they answer. MADE by mkP1.py. No condition. -/
import Derived.Test.YtmadcegoionpjaaGreatDoorMG
import Derived.Test.YtmadcegoionpjaaGreatDoorME
import Derived.Shelf.Strings.Search3
import Derived.Lib.IndexMore
import Derived.Test.YtmadcegoionpjaaGreatDoorProg
import Derived.Shelf.Strconv.AtoiAll
namespace Go.Proofs.YtmadcegoionpjaaGreatDoor
set_option linter.unusedSimpArgs false
set_option linter.unusedVariables false
open Go Go.RowKit
set_option maxRecDepth 100000

theorem FitH.id1 {m' : Nat} {H : Heap} {g : List (Nat × Blk)} (nd : (g.map (·.1)).Nodup) (lt : ∀ e, e ∈ g → e.1 < m') (src : ∀ e, e ∈ g → ∃ cs, H.get e.1 = some (.cells cs) ∧ e.2 = .cells cs ∧ pureL cs = true) : FitH 0 (g.map fun e => (e.1, e.1)) [] H ⟨m', [g]⟩ := by
  refine .rows (by simpa [Function.comp_def] using nd) (by simpa [Function.comp_def] using nd) (by simpa [Heap.ents] using nd) ?_ (by simp) (Nat.zero_le _) ?_
  · intro x hx
    obtain ⟨e, he, rfl⟩ := List.mem_map.1 hx
    exact lt e he
  · intro e he
    have he : e ∈ g := by simpa [Heap.ents] using he
    obtain ⟨cs, h1, h2, h3⟩ := src e he
    exact ⟨e.1, cs, List.mem_map.2 ⟨e, he, rfl⟩, h1, h2, h3⟩
section
variable (n : Nd)
@[simp] theorem gcs0 : getL n.cs 0 = some (.int .i64 n.kind) := rfl
@[simp] theorem gcs1 : getL n.cs 1 = some (.int .i64 n.space) := rfl
@[simp] theorem gcs2 : getL n.cs 2 = some (.str n.name) := rfl
@[simp] theorem gcs3 : getL n.cs 3 = some (aAttrs n.attrs) := rfl
@[simp] theorem gcs4 : getL n.cs 4 = some (.str n.data) := rfl
@[simp] theorem gcs5 : getL n.cs 5 = some (.int .i64 n.up) := rfl
@[simp] theorem gcs6 : getL n.cs 6 = some (aInts n.kids) := rfl
@[simp] theorem pure_cs : pureL n.cs = true := by simp [Nd.cs, pureL, aInt, pureV]
end
theorem atX' {L : List Int} {i : Nat} (h : i < L.length) : indexAddrA Tryz.prog 25 (aInts L) (.int .i64 (i : Int)) = some (.fptr [.int .i64 L[i]] 0) := atI h
def timesB (L : List Int) (n : Int) : Nat := L.countP fun x => decide (x = n)
theorem c54 {T : List (Entry Tryz.prog)} (L : List Int) (n : Int) (hl : L.length ≤ 1000000) : CallAt (ctx T) 54 [aInts L, .int .i64 n] ⟨0, []⟩ (.int .i64 (timesB L n : Nat)) ⟨0, []⟩ := by
  refine callAt_body (fn := Tryz.f54) (s0 := ⟨[0, 1, 4, 5, 6], [aInts L, .int .i64 n, .undef, .undef, .undef], [], 22, ⟨0, [[]]⟩⟩) Tryz.func54 rfl rfl rfl ?_
  repeat refine wps_seq ?_
  refine wps_region callOK ?_
  simp [ofV, ofV1, mkC_P, writeVar, writeCells, readCells, allSingle, AV.single, getFs, getF, setFs, setF, Heap.get, Heap.set, Heap.new, Heap.kill, killF, pushF, Heap.ready, refs, sliceParts, fillA, replL]
  repeat refine wps_seq ?_
  refine wps_region callOK ?_
  simp [ofV, ofV1, mkC_P, writeVar, writeCells, readCells, allSingle, AV.single, getFs, getF, setFs, setF, Heap.get, Heap.set, Heap.new, Heap.kill, killF, pushF, Heap.ready, refs, sliceParts, fillA, replL]
  repeat refine wps_seq ?_
  refine wps_region callOK ?_
  simp [ofV, ofV1, mkC_P, writeVar, writeCells, readCells, allSingle, AV.single, getFs, getF, setFs, setF, Heap.get, Heap.set, Heap.new, Heap.kill, killF, pushF, Heap.ready, refs, sliceParts, fillA, replL]
  repeat refine wps_seq ?_
  refine wps_block (wps_loop' (fun i : Nat => (⟨[0, 1, 4, 5, 6], [aInts L, .int .i64 n, .undef, .int .i64 (timesB (L.take i) n : Nat), .int .i64 i], [], 22, ⟨0, [[]]⟩⟩ : St))
    (fun i => i ≤ L.length) (fun i => L.length - i) [] [] 0 (Nat.zero_le _) ⟨rfl, rfl, rfl, by simp [fitL, fitV, pureV, pureL, aInts, timesB], FitH.nothing⟩ ?_)
  rintro i hi B hB
  have hc : timesB (L.take i) n ≤ i := Nat.le_trans List.countP_le_length (by simp; omega)
  repeat refine wps_seq ?_
  refine wps_region callOK ?_
  simp [ofV, ofV1, mkC_P, writeVar, writeCells, readCells, allSingle, AV.single, getFs, getF, setFs, setF, Heap.get, Heap.set, Heap.new, Heap.kill, killF, pushF, Heap.ready, refs, sliceParts, fillA, replL, lenI]
  repeat refine wps_seq ?_
  refine wps_cond rfl (fun h => ?_) fun h => ?_
  · simp at h
    repeat refine wps_seq ?_
    refine wps_skip ?_
    simp
    repeat refine wps_seq ?_
    refine wps_block ?_
    by_cases hv : L[i] = n
    · have hn : timesB (L.take (i + 1)) n = timesB (L.take i) n + 1 := by rw [List.take_succ_eq_append_getElem h]; simp [timesB, hv]
      repeat refine wps_seq ?_
      refine wps_region callOK ?_
      simp [ofV, ofV1, mkC_P, writeVar, writeCells, readCells, allSingle, AV.single, getFs, getF, setFs, setF, Heap.get, Heap.set, Heap.new, Heap.kill, killF, pushF, Heap.ready, refs, sliceParts, fillA, replL, atI h, hv]
      repeat refine wps_seq ?_
      refine wps_cond (t := true) rfl (fun _ => ?_) fun h => by cases h
      repeat refine wps_seq ?_
      refine wps_region callOK ?_
      simp [ofV, ofV1, mkC_P, writeVar, writeCells, readCells, allSingle, AV.single, getFs, getF, setFs, setF, Heap.get, Heap.set, Heap.new, Heap.kill, killF, pushF, Heap.ready, refs, sliceParts, fillA, replL, add_one (show timesB (L.take i) n ≤ 1000000000 by omega)]
      repeat refine wps_seq ?_
      refine wps_region callOK ?_
      simp [ofV, ofV1, mkC_P, writeVar, writeCells, readCells, allSingle, AV.single, getFs, getF, setFs, setF, Heap.get, Heap.set, Heap.new, Heap.kill, killF, pushF, Heap.ready, refs, sliceParts, fillA, replL, add_one (show i ≤ 1000000000 by omega)]
      exact hB _ (i + 1) (by omega) (by omega) ⟨[], [], ⟨rfl, rfl, rfl, by simp [fitL, fitV, pureV, pureL, aInts, hn], FitH.nothing⟩⟩
    · have hn : timesB (L.take (i + 1)) n = timesB (L.take i) n := by rw [List.take_succ_eq_append_getElem h]; simp only [timesB, List.countP_append, List.countP_cons, List.countP_nil]; simp [hv]
      repeat refine wps_seq ?_
      refine wps_region callOK ?_
      simp [ofV, ofV1, mkC_P, writeVar, writeCells, readCells, allSingle, AV.single, getFs, getF, setFs, setF, Heap.get, Heap.set, Heap.new, Heap.kill, killF, pushF, Heap.ready, refs, sliceParts, fillA, replL, atI h, hv]
      repeat refine wps_seq ?_
      refine wps_cond (t := false) rfl (fun h => by cases h) fun _ => ?_
      repeat refine wps_seq ?_
      refine wps_skip ?_
      simp
      repeat refine wps_seq ?_
      refine wps_region callOK ?_
      simp [ofV, ofV1, mkC_P, writeVar, writeCells, readCells, allSingle, AV.single, getFs, getF, setFs, setF, Heap.get, Heap.set, Heap.new, Heap.kill, killF, pushF, Heap.ready, refs, sliceParts, fillA, replL, add_one (show i ≤ 1000000000 by omega)]
      exact hB _ (i + 1) (by omega) (by omega) ⟨[], [], ⟨rfl, rfl, rfl, by simp [fitL, fitV, pureV, pureL, aInts, hn], FitH.nothing⟩⟩
  · simp at h
    repeat refine wps_seq ?_
    refine wps_exit ?_
    simp
    repeat refine wps_seq ?_
    refine wps_region callOK ?_
    simp [ofV, ofV1, mkC_P, writeVar, writeCells, readCells, allSingle, AV.single, getFs, getF, setFs, setF, Heap.get, Heap.set, Heap.new, Heap.kill, killF, pushF, Heap.ready, refs, sliceParts, fillA, replL]
    repeat refine wps_seq ?_
    refine wps_ret ?_
    simp [retVal, Tryz.f54, oneOr, thenQ, blockQ]
    exact ends_pure rfl (by rw [List.take_of_length_le h])
theorem injLI (x y : List Int × Int) (h : [aInts x.1, .int .i64 x.2] = [aInts y.1, .int .i64 y.2]) : x = y := by
  simp only [List.cons.injEq] at h
  obtain ⟨h1, h2, _⟩ := h
  simp at h2
  exact Prod.ext (inj_aInts h1) h2
noncomputable def e54 : Entry Tryz.prog := mkE 54 [[1], []] (fun x : List Int × Int => [aInts x.1, .int .i64 x.2]) (fun x => x.1.length ≤ 1000000) (fun x => .int .i64 (timesB x.1 x.2 : Nat)) fun x hx => c54 (T := []) x.1 x.2 hx
theorem k54 {T : List (Entry Tryz.prog)} (hT : findE 54 T = some e54.g) {L : List Int} (n : Int) (hl : L.length ≤ 1000000) (H : Heap) : callL (ctx T) (.fn 54) [aInts L, .int .i64 n] H = some (.int .i64 (timesB L n : Nat), H) :=
  mkE_scalar hT injLI (L, n) hl rfl (by simp [aInts])
/-- does it come up to a node without Up, in so many steps -/
def heldF (t : Tr) : Nat → Int → Bool
  | 0, _ => false
  | f + 1, i => if (nodeAt t i).up = -1 then true else heldF t f (nodeAt t i).up
def upsOK (t : Tr) : Prop := ∀ x, x ∈ t → x.up = -1 ∨ (0 ≤ x.up ∧ x.up < (t.length : Int))
theorem c55 {T : List (Entry Tryz.prog)} (t : Tr) (hl : t.length ≤ 1000000) (hu : upsOK t) (i0 : Int) (h0 : 0 ≤ i0) (h1 : i0 < (t.length : Int)) : CallAt (ctx T) 55 [aTree t, .int .i64 i0] ⟨0, []⟩ (.bool (heldF t (t.length + 1) i0)) ⟨0, []⟩ := by
  refine callAt_body (fn := Tryz.f55) (s0 := ⟨[0, 1, 2, 4, 5], [aTree t, .int .i64 i0, .undef, .undef, .undef], [], 26, ⟨0, [[]]⟩⟩) Tryz.func55 rfl rfl rfl ?_
  repeat refine wps_seq ?_
  refine wps_region callOK ?_
  simp [ofV, ofV1, mkC_P, writeVar, writeCells, readCells, allSingle, AV.single, getFs, getF, setFs, setF, Heap.get, Heap.set, Heap.new, Heap.kill, killF, pushF, Heap.ready, refs, sliceParts, fillA, replL, aTree]
  repeat refine wps_seq ?_
  refine wps_region callOK ?_
  simp [ofV, ofV1, mkC_P, writeVar, writeCells, readCells, allSingle, AV.single, getFs, getF, setFs, setF, Heap.get, Heap.set, Heap.new, Heap.kill, killF, pushF, Heap.ready, refs, sliceParts, fillA, replL]
  repeat refine wps_seq ?_
  refine wps_block (wps_loop' (fun x : Nat × Int => (⟨[0, 1, 2, 4, 5], [.undef, .int .i64 x.2, .ptr 0 0, .undef, .int .i64 x.1], [], 26, ⟨1, [[(0, .cells [aNodes t])]]⟩⟩ : St))
    (fun x => x.1 ≤ t.length + 1 ∧ 0 ≤ x.2 ∧ x.2 < (t.length : Int) ∧ heldF t (t.length + 1) i0 = heldF t (t.length + 1 - x.1) x.2) (fun x => t.length + 1 - x.1) [(0, 0)] [] (0, i0) ⟨Nat.zero_le _, h0, h1, rfl⟩
    ⟨rfl, rfl, rfl, by simp [fitL, fitV, lookN, pureV], .id1 (g := [(0, .cells [aNodes t])]) (by simp) (by simp) (by simp [Heap.get, getFs, getF, pureL])⟩ ?_)
  rintro ⟨k, i⟩ ⟨hk, j0, j1, he⟩ B hB
  simp only at hk j0 j1 he
  repeat refine wps_seq ?_
  refine wps_region callOK ?_
  simp [ofV, ofV1, mkC_P, writeVar, writeCells, readCells, allSingle, AV.single, getFs, getF, setFs, setF, Heap.get, Heap.set, Heap.new, Heap.kill, killF, pushF, Heap.ready, refs, sliceParts, fillA, replL, lenN]
  repeat refine wps_seq ?_
  refine wps_cond rfl (fun h => ?_) fun h => ?_
  · simp at h
    repeat refine wps_seq ?_
    refine wps_skip ?_
    simp
    repeat refine wps_seq ?_
    refine wps_block ?_
    rw [show t.length + 1 - k = (t.length - k) + 1 by omega, show heldF t (t.length - k + 1) i = if (nodeAt t i).up = -1 then true else heldF t (t.length - k) (nodeAt t i).up from rfl] at he
    by_cases hv : (nodeAt t i).up = -1
    · rw [if_pos hv] at he
      repeat refine wps_seq ?_
      refine wps_region callOK ?_
      simp [ofV, ofV1, mkC_P, writeVar, writeCells, readCells, allSingle, AV.single, getFs, getF, setFs, setF, Heap.get, Heap.set, Heap.new, Heap.kill, killF, pushF, Heap.ready, refs, sliceParts, fillA, replL, atX j0 j1, hv]
      repeat refine wps_seq ?_
      refine wps_cond (t := true) rfl (fun _ => ?_) fun h => by cases h
      repeat refine wps_seq ?_
      refine wps_region callOK ?_
      simp [ofV, ofV1, mkC_P, writeVar, writeCells, readCells, allSingle, AV.single, getFs, getF, setFs, setF, Heap.get, Heap.set, Heap.new, Heap.kill, killF, pushF, Heap.ready, refs, sliceParts, fillA, replL]
      repeat refine wps_seq ?_
      refine wps_ret ?_
      simp [retVal, Tryz.f55, oneOr, thenQ, blockQ]
      exact ends_pure rfl (by rw [he])
    · rw [if_neg hv] at he
      repeat refine wps_seq ?_
      refine wps_region callOK ?_
      simp [ofV, ofV1, mkC_P, writeVar, writeCells, readCells, allSingle, AV.single, getFs, getF, setFs, setF, Heap.get, Heap.set, Heap.new, Heap.kill, killF, pushF, Heap.ready, refs, sliceParts, fillA, replL, atX j0 j1, hv]
      repeat refine wps_seq ?_
      refine wps_cond (t := false) rfl (fun h => by cases h) fun _ => ?_
      repeat refine wps_seq ?_
      refine wps_skip ?_
      simp
      repeat refine wps_seq ?_
      refine wps_region callOK ?_
      simp [ofV, ofV1, mkC_P, writeVar, writeCells, readCells, allSingle, AV.single, getFs, getF, setFs, setF, Heap.get, Heap.set, Heap.new, Heap.kill, killF, pushF, Heap.ready, refs, sliceParts, fillA, replL, atX j0 j1]
      repeat refine wps_seq ?_
      refine wps_region callOK ?_
      simp [ofV, ofV1, mkC_P, writeVar, writeCells, readCells, allSingle, AV.single, getFs, getF, setFs, setF, Heap.get, Heap.set, Heap.new, Heap.kill, killF, pushF, Heap.ready, refs, sliceParts, fillA, replL, add_one (show k ≤ 1000000000 by omega)]
      have hup := (hu _ (nodeAt_mem j0 j1)).resolve_left hv
      exact hB _ (k + 1, (nodeAt t i).up) (by simp; omega) ⟨by simp; omega, hup.1, hup.2, by simp only; rw [he]; congr 1; omega⟩ ⟨[(0, 0)], [], rfl, rfl, rfl, by simp [fitL, fitV, lookN, pureV], .id1 (g := [(0, .cells [aNodes t])]) (by simp) (by simp) (by simp [Heap.get, getFs, getF, pureL])⟩
  · simp at h
    repeat refine wps_seq ?_
    refine wps_exit ?_
    simp
    repeat refine wps_seq ?_
    refine wps_region callOK ?_
    simp [ofV, ofV1, mkC_P, writeVar, writeCells, readCells, allSingle, AV.single, getFs, getF, setFs, setF, Heap.get, Heap.set, Heap.new, Heap.kill, killF, pushF, Heap.ready, refs, sliceParts, fillA, replL]
    repeat refine wps_seq ?_
    refine wps_ret ?_
    simp [retVal, Tryz.f55, oneOr, thenQ, blockQ]
    exact ends_pure rfl (by rw [he, show t.length + 1 - k = 0 by omega]; rfl)
noncomputable def e55 : Entry Tryz.prog := mkE 55 [[], []] (fun x : Tr × Int => [aTree x.1, .int .i64 x.2]) (fun x => x.1.length ≤ 1000000 ∧ upsOK x.1 ∧ 0 ≤ x.2 ∧ x.2 < (x.1.length : Int)) (fun x => .bool (heldF x.1 (x.1.length + 1) x.2)) fun x hx => c55 (T := []) x.1 hx.1 hx.2.1 x.2 hx.2.2.1 hx.2.2.2
theorem k55 {T : List (Entry Tryz.prog)} (hT : findE 55 T = some e55.g) {t : Tr} (hl : t.length ≤ 1000000) (hu : upsOK t) {i : Int} (h0 : 0 ≤ i) (h1 : i < (t.length : Int)) (H : Heap) : callL (ctx T) (.fn 55) [aTree t, .int .i64 i] H = some (.bool (heldF t (t.length + 1) i), H) :=
  mkE_scalar hT injTI (t, i) ⟨hl, hu, h0, h1⟩ rfl (by simp [th_aTree])
/-- a statement that ends in one state but for its passing slots: the rest is shown once -/
theorem wps_join {C : Ctx} {n : Nat} {r : Option Nat} {c d : Code} {s : St} {Q : Out → St → Prop} (φ : Prop) (s0 : St) (h1 : φ → WpSr C n r d s0 Q) (h2 : (∀ s', φ → s'.wT = s0 → WpSr C n r d s' Q) → WpSr C n r c s (thenQ (fun s => WpSr C n r d s Q) Q)) : WpSr C n r (.seq c d) s Q :=
  wps_seq (h2 fun s' hφ e b a w hb ha K hK => h1 hφ b a w hb (by have := ha.fresh; rw [← e]; exact this) K hK)
end Go.Proofs.YtmadcegoionpjaaGreatDoor
namespace Go.Proofs.YtmadcegoionpjaaGreatDoor
set_option linter.unusedSimpArgs false
set_option linter.unusedVariables false
open Go Go.RowKit
set_option maxRecDepth 100000

def badA (t : Tr) (i : Nat) : Bool := decide (0 < i) && (decide ((nodeAt t i).kind < 1) || (decide (4 < (nodeAt t i).kind) || (decide ((nodeAt t i).up < -1) || decide ((t.length : Int) ≤ (nodeAt t i).up))))
def badB (t : Tr) (i : Nat) : Bool := decide (0 ≤ (nodeAt t i).up) && (decide (1 < (nodeAt t (nodeAt t i).up).kind) || decide ((timesB (nodeAt t (nodeAt t i).up).kids i : Int) ≠ 1))
def badC (t : Tr) (i : Nat) (k : Int) : Bool := decide (k < 0) || (decide ((t.length : Int) ≤ k) || decide ((nodeAt t k).up ≠ (i : Int)))
def okNd (t : Tr) (i : Nat) : Bool := !badA t i && (!badB t i && !(nodeAt t i).kids.any (badC t i))
def rightB (t : Tr) : Bool := decide (t ≠ []) && (decide ((nodeAt t 0).kind = 0) && (decide ((nodeAt t 0).up = -1) && ((List.range t.length).all (okNd t) && (List.range t.length).all fun i => heldF t (t.length + 1) (i : Int))))
theorem rightB_no {t : Tr} {i : Nat} (h : i < t.length) (hb : okNd t i = false) : rightB t = false := by
  have : (List.range t.length).all (okNd t) = false := List.all_eq_false.2 ⟨i, by simpa using h, by simp [hb]⟩
  simp [rightB, this]
theorem rightB_not {t : Tr} {i : Nat} (h : i < t.length) (hb : heldF t (t.length + 1) (i : Int) = false) : rightB t = false := by
  have : ((List.range t.length).all fun i => heldF t (t.length + 1) (i : Int)) = false := List.all_eq_false.2 ⟨i, by simpa using h, by simp [hb]⟩
  simp [rightB, this]
theorem rightB_yes {t : Tr} (h : t ≠ []) (h0 : (nodeAt t 0).kind = 0) (h1 : (nodeAt t 0).up = -1) (h2 : ∀ j, j < t.length → okNd t j = true) (h3 : ∀ j, j < t.length → heldF t (t.length + 1) (j : Int) = true) : rightB t = true := by
  have e1 : (List.range t.length).all (okNd t) = true := List.all_eq_true.2 fun j hj => h2 j (by simpa using hj)
  have e2 : ((List.range t.length).all fun i => heldF t (t.length + 1) (i : Int)) = true := List.all_eq_true.2 fun j hj => h3 j (by simpa using hj)
  simp [rightB, h, h0, h1, e1, e2]
theorem ups_of {t : Tr} (h1 : (nodeAt t 0).up = -1) (h2 : ∀ j, j < t.length → okNd t j = true) : upsOK t := by
  intro x hx
  obtain ⟨j, hj, rfl⟩ := List.getElem_of_mem hx
  have := h2 j hj
  rw [← nodeAt_get hj]
  by_cases hz : j = 0
  · subst hz
    exact .inl h1
  · simp only [okNd, badA, Bool.and_eq_true, Bool.not_eq_true', Bool.and_eq_false_iff, Bool.or_eq_false_iff, decide_eq_false_iff_not] at this
    rcases this.1 with h | h
    · omega
    · omega
theorem c31 {T : List (Entry Tryz.prog)} (hT : findE 54 T = some e54.g) (hH : findE 55 T = some e55.g) (t : Tr) (ht : okTr t) :
    CallAt (ctx T) 31 [aTree t] ⟨0, []⟩ (.bool (rightB t)) ⟨0, []⟩ := by
  have htl := ht.1
  have g0 : ∀ (m : Nat), FitH 0 [(0, 0)] [] ⟨m, [[(0, .cells [aNodes t])]]⟩ ⟨1, [[(0, .cells [aNodes t])]]⟩ := fun m => .id1 (g := [(0, .cells [aNodes t])]) (by simp) (by simp) (by simp [Heap.get, getFs, getF, pureL])
  refine callAt_body (fn := Tryz.f31) (s0 := ⟨[0, 1, 2, 3, 4, 5, 6], [aTree t, .undef, .undef, .undef, .undef, .undef, .undef], [], 138, ⟨0, [[]]⟩⟩) Tryz.func31 rfl rfl rfl ?_
  repeat refine wps_seq ?_
  refine wps_region callOK ?_
  simp [ofV, ofV1, mkC_P, writeVar, writeCells, readCells, allSingle, AV.single, getFs, getF, setFs, setF, Heap.get, Heap.set, Heap.new, Heap.kill, killF, pushF, Heap.ready, refs, sliceParts, fillA, replL, aTree]
  by_cases z0 : t = []
  · repeat refine wps_seq ?_
    refine wps_region callOK ?_
    simp [ofV, ofV1, mkC_P, writeVar, writeCells, readCells, allSingle, AV.single, getFs, getF, setFs, setF, Heap.get, Heap.set, Heap.new, Heap.kill, killF, pushF, Heap.ready, refs, sliceParts, fillA, replL, lenN, z0]
    repeat refine wps_seq ?_
    refine wps_cond (t := true) rfl (fun _ => ?_) fun h => by cases h
    repeat refine wps_seq ?_
    refine wps_region callOK ?_
    simp [ofV, ofV1, mkC_P, writeVar, writeCells, readCells, allSingle, AV.single, getFs, getF, setFs, setF, Heap.get, Heap.set, Heap.new, Heap.kill, killF, pushF, Heap.ready, refs, sliceParts, fillA, replL]
    repeat refine wps_seq ?_
    refine wps_ret ?_
    simp [retVal, Tryz.f31, oneOr, thenQ, blockQ]
    exact ends_pure rfl (by simp [rightB, z0])
  have zl : 0 < t.length := List.length_pos_iff.2 z0
  have a0 := atX (t := t) (i := 0) (by omega) (by omega)
  by_cases z1 : (nodeAt t 0).kind = 0
  case neg =>
    repeat refine wps_seq ?_
    refine wps_region callOK ?_
    simp [ofV, ofV1, mkC_P, writeVar, writeCells, readCells, allSingle, AV.single, getFs, getF, setFs, setF, Heap.get, Heap.set, Heap.new, Heap.kill, killF, pushF, Heap.ready, refs, sliceParts, fillA, replL, lenN, z0, a0, z1]
    repeat refine wps_seq ?_
    refine wps_cond (t := true) rfl (fun _ => ?_) fun h => by cases h
    repeat refine wps_seq ?_
    refine wps_region callOK ?_
    simp [ofV, ofV1, mkC_P, writeVar, writeCells, readCells, allSingle, AV.single, getFs, getF, setFs, setF, Heap.get, Heap.set, Heap.new, Heap.kill, killF, pushF, Heap.ready, refs, sliceParts, fillA, replL]
    repeat refine wps_seq ?_
    refine wps_ret ?_
    simp [retVal, Tryz.f31, oneOr, thenQ, blockQ]
    exact ends_pure rfl (by simp [rightB, z1])
  by_cases z2 : (nodeAt t 0).up = -1
  case neg =>
    repeat refine wps_seq ?_
    refine wps_region callOK ?_
    simp [ofV, ofV1, mkC_P, writeVar, writeCells, readCells, allSingle, AV.single, getFs, getF, setFs, setF, Heap.get, Heap.set, Heap.new, Heap.kill, killF, pushF, Heap.ready, refs, sliceParts, fillA, replL, lenN, z0, a0, z1, z2]
    repeat refine wps_seq ?_
    refine wps_cond (t := true) rfl (fun _ => ?_) fun h => by cases h
    repeat refine wps_seq ?_
    refine wps_region callOK ?_
    simp [ofV, ofV1, mkC_P, writeVar, writeCells, readCells, allSingle, AV.single, getFs, getF, setFs, setF, Heap.get, Heap.set, Heap.new, Heap.kill, killF, pushF, Heap.ready, refs, sliceParts, fillA, replL]
    repeat refine wps_seq ?_
    refine wps_ret ?_
    simp [retVal, Tryz.f31, oneOr, thenQ, blockQ]
    exact ends_pure rfl (by simp [rightB, z2])
  repeat refine wps_seq ?_
  refine wps_region callOK ?_
  simp [ofV, ofV1, mkC_P, writeVar, writeCells, readCells, allSingle, AV.single, getFs, getF, setFs, setF, Heap.get, Heap.set, Heap.new, Heap.kill, killF, pushF, Heap.ready, refs, sliceParts, fillA, replL, lenN, z0, a0, z1, z2]
  repeat refine wps_seq ?_
  refine wps_cond (t := false) rfl (fun h => by cases h) fun _ => ?_
  repeat refine wps_seq ?_
  refine wps_skip ?_
  simp
  repeat refine wps_seq ?_
  refine wps_region callOK ?_
  simp [ofV, ofV1, mkC_P, writeVar, writeCells, readCells, allSingle, AV.single, getFs, getF, setFs, setF, Heap.get, Heap.set, Heap.new, Heap.kill, killF, pushF, Heap.ready, refs, sliceParts, fillA, replL]
  repeat refine wps_seq ?_
  refine wps_block (wps_loop' (fun i : Nat => (⟨[0, 1, 2, 3, 4, 5, 6], [.undef, .ptr 0 0, .undef, .int .i64 i, .undef, .undef, .undef], [], 138, ⟨1, [[(0, .cells [aNodes t])]]⟩⟩ : St))
    (fun i => i ≤ t.length ∧ ∀ j, j < i → okNd t j = true) (fun i => t.length - i) [(0, 0)] [] 0 ⟨Nat.zero_le _, fun j hj => absurd hj (Nat.not_lt_zero j)⟩ ⟨rfl, rfl, rfl, by simp [fitL, fitV, lookN, pureV], g0 1⟩ ?_)
  rintro i ⟨hi, hall⟩ B hB
  repeat refine wps_seq ?_
  refine wps_region callOK ?_
  simp [ofV, ofV1, mkC_P, writeVar, writeCells, readCells, allSingle, AV.single, getFs, getF, setFs, setF, Heap.get, Heap.set, Heap.new, Heap.kill, killF, pushF, Heap.ready, refs, sliceParts, fillA, replL, lenN]
  repeat refine wps_seq ?_
  refine wps_cond rfl (fun h => ?_) fun h => ?_
  · simp at h
    repeat refine wps_seq ?_
    refine wps_skip ?_
    simp
    repeat refine wps_seq ?_
    refine wps_block ?_
    refine wps_seq ?_
    have hkd := (ht.2 _ (nodeAt_mem (t := t) (i := (i : Int)) (by omega) (by omega))).1
    obtain ⟨n, hn⟩ : ∃ n, n = nodeAt t i := ⟨_, rfl⟩
    repeat refine wps_seq ?_
    refine wps_region callOK ?_
    simp [ofV, ofV1, mkC_P, writeVar, writeCells, readCells, allSingle, AV.single, getFs, getF, setFs, setF, Heap.get, Heap.set, Heap.new, Heap.kill, killF, pushF, sliceParts, fillA, replL, atX (t := t) (i := (i : Int)) (by omega) (by omega)]
    rw [← hn] at hkd ⊢
    refine wps_join (badA t i = false) ((⟨[0, 1, 2, 3, 4, 5, 6], [.undef, .ptr 0 0, .undef, .int .i64 i, .ptr 1 0, .undef, .undef], [], 138, ⟨2, [[(1, .cells n.cs), (0, .cells [aNodes t])]]⟩⟩ : St)) (fun hbA => ?_) fun hj => ?_
    rotate_left
    · by_cases c0 : 0 < i
      · by_cases c1 : n.kind < 1
        · repeat refine wps_seq ?_
          refine wps_region callOK ?_
          simp [ofV, ofV1, mkC_P, writeVar, writeCells, readCells, allSingle, AV.single, getFs, getF, setFs, setF, Heap.get, Heap.set, Heap.new, Heap.kill, killF, pushF, Heap.ready, refs, sliceParts, fillA, replL, lenN, c0, c1]
          repeat refine wps_seq ?_
          refine wps_cond (t := true) rfl (fun _ => ?_) fun h => by cases h
          repeat refine wps_seq ?_
          refine wps_region callOK ?_
          simp [ofV, ofV1, mkC_P, writeVar, writeCells, readCells, allSingle, AV.single, getFs, getF, setFs, setF, Heap.get, Heap.set, Heap.new, Heap.kill, killF, pushF, Heap.ready, refs, sliceParts, fillA, replL]
          repeat refine wps_seq ?_
          refine wps_ret ?_
          simp [retVal, Tryz.f31, oneOr, thenQ, blockQ]
          exact ends_pure rfl (by rw [rightB_no h (by simp [okNd, badA, c0, ← hn, c1])])
        · by_cases c2 : 4 < n.kind
          · repeat refine wps_seq ?_
            refine wps_region callOK ?_
            simp [ofV, ofV1, mkC_P, writeVar, writeCells, readCells, allSingle, AV.single, getFs, getF, setFs, setF, Heap.get, Heap.set, Heap.new, Heap.kill, killF, pushF, Heap.ready, refs, sliceParts, fillA, replL, lenN, c0, c1, c2]
            repeat refine wps_seq ?_
            refine wps_cond (t := true) rfl (fun _ => ?_) fun h => by cases h
            repeat refine wps_seq ?_
            refine wps_region callOK ?_
            simp [ofV, ofV1, mkC_P, writeVar, writeCells, readCells, allSingle, AV.single, getFs, getF, setFs, setF, Heap.get, Heap.set, Heap.new, Heap.kill, killF, pushF, Heap.ready, refs, sliceParts, fillA, replL]
            repeat refine wps_seq ?_
            refine wps_ret ?_
            simp [retVal, Tryz.f31, oneOr, thenQ, blockQ]
            exact ends_pure rfl (by rw [rightB_no h (by simp [okNd, badA, c0, ← hn, c1, c2])])
          · by_cases c3 : n.up < -1
            · repeat refine wps_seq ?_
              refine wps_region callOK ?_
              simp [ofV, ofV1, mkC_P, writeVar, writeCells, readCells, allSingle, AV.single, getFs, getF, setFs, setF, Heap.get, Heap.set, Heap.new, Heap.kill, killF, pushF, Heap.ready, refs, sliceParts, fillA, replL, lenN, c0, c1, c2, c3]
              repeat refine wps_seq ?_
              refine wps_cond (t := true) rfl (fun _ => ?_) fun h => by cases h
              repeat refine wps_seq ?_
              refine wps_region callOK ?_
              simp [ofV, ofV1, mkC_P, writeVar, writeCells, readCells, allSingle, AV.single, getFs, getF, setFs, setF, Heap.get, Heap.set, Heap.new, Heap.kill, killF, pushF, Heap.ready, refs, sliceParts, fillA, replL]
              repeat refine wps_seq ?_
              refine wps_ret ?_
              simp [retVal, Tryz.f31, oneOr, thenQ, blockQ]
              exact ends_pure rfl (by rw [rightB_no h (by simp [okNd, badA, c0, ← hn, c1, c2, c3])])
            · by_cases c4 : (t.length : Int) ≤ n.up
              · repeat refine wps_seq ?_
                refine wps_region callOK ?_
                simp [ofV, ofV1, mkC_P, writeVar, writeCells, readCells, allSingle, AV.single, getFs, getF, setFs, setF, Heap.get, Heap.set, Heap.new, Heap.kill, killF, pushF, Heap.ready, refs, sliceParts, fillA, replL, lenN, c0, c1, c2, c3, c4]
                repeat refine wps_seq ?_
                refine wps_cond (t := true) rfl (fun _ => ?_) fun h => by cases h
                repeat refine wps_seq ?_
                refine wps_region callOK ?_
                simp [ofV, ofV1, mkC_P, writeVar, writeCells, readCells, allSingle, AV.single, getFs, getF, setFs, setF, Heap.get, Heap.set, Heap.new, Heap.kill, killF, pushF, Heap.ready, refs, sliceParts, fillA, replL]
                repeat refine wps_seq ?_
                refine wps_ret ?_
                simp [retVal, Tryz.f31, oneOr, thenQ, blockQ]
                exact ends_pure rfl (by rw [rightB_no h (by simp [okNd, badA, c0, ← hn, c1, c2, c3, c4])])
              · repeat refine wps_seq ?_
                refine wps_region callOK ?_
                simp [ofV, ofV1, mkC_P, writeVar, writeCells, readCells, allSingle, AV.single, getFs, getF, setFs, setF, Heap.get, Heap.set, Heap.new, Heap.kill, killF, pushF, Heap.ready, refs, sliceParts, fillA, replL, lenN, c0, c1, c2, c3, c4]
                repeat refine wps_seq ?_
                refine wps_cond (t := false) rfl (fun h => by cases h) fun _ => ?_
                repeat refine wps_seq ?_
                refine wps_skip ?_
                simp
                exact hj _ (by simp [badA, ← hn, c1, c2, c3, c4]) rfl
      · repeat refine wps_seq ?_
        refine wps_region callOK ?_
        simp [ofV, ofV1, mkC_P, writeVar, writeCells, readCells, allSingle, AV.single, getFs, getF, setFs, setF, Heap.get, Heap.set, Heap.new, Heap.kill, killF, pushF, Heap.ready, refs, sliceParts, fillA, replL, lenN, c0]
        repeat refine wps_seq ?_
        refine wps_cond (t := false) rfl (fun h => by cases h) fun _ => ?_
        repeat refine wps_seq ?_
        refine wps_skip ?_
        simp
        exact hj _ (by simp [badA, c0]) rfl
    have hup : n.up < (t.length : Int) := by
      by_cases hz : i = 0
      · subst hz; rw [hn]; simp only [Int.natCast_zero, z2]; omega
      · simp only [badA, ← hn, Bool.and_eq_false_iff, Bool.or_eq_false_iff, decide_eq_false_iff_not] at hbA
        omega
    refine wps_join (badB t i = false) ((⟨[0, 1, 2, 3, 4, 5, 6], [.undef, .ptr 0 0, .undef, .int .i64 i, .ptr 1 0, .undef, .undef], [], 138, ⟨2, [[(1, .cells n.cs), (0, .cells [aNodes t])]]⟩⟩ : St)) (fun hbB => ?_) fun hj => ?_
    rotate_left
    · by_cases c5 : 0 ≤ n.up
      · have hkt := k54 hT (L := (nodeAt t n.up).kids) (i : Int) (by have := (ht.2 _ (nodeAt_mem c5 hup)).1; omega)
        generalize hv : timesB (nodeAt t n.up).kids (i : Int) = v at hkt
        by_cases c6 : 1 < (nodeAt t n.up).kind
        · repeat refine wps_seq ?_
          refine wps_region callOK ?_
          simp [ofV, ofV1, mkC_P, writeVar, writeCells, readCells, allSingle, AV.single, getFs, getF, setFs, setF, Heap.get, Heap.set, Heap.new, Heap.kill, killF, pushF, Heap.ready, refs, sliceParts, fillA, replL, c5, atX c5 hup, hkt, c6]
          repeat refine wps_seq ?_
          refine wps_cond (t := true) rfl (fun _ => ?_) fun h => by cases h
          repeat refine wps_seq ?_
          refine wps_region callOK ?_
          simp [ofV, ofV1, mkC_P, writeVar, writeCells, readCells, allSingle, AV.single, getFs, getF, setFs, setF, Heap.get, Heap.set, Heap.new, Heap.kill, killF, pushF, Heap.ready, refs, sliceParts, fillA, replL]
          repeat refine wps_seq ?_
          refine wps_ret ?_
          simp [retVal, Tryz.f31, oneOr, thenQ, blockQ]
          exact ends_pure rfl (by rw [rightB_no h (by simp [okNd, badB, ← hn, hv, c5, c6]; try (intro _ ; omega))])
        · by_cases c7 : ¬ (v : Int) = 1
          · repeat refine wps_seq ?_
            refine wps_region callOK ?_
            simp [ofV, ofV1, mkC_P, writeVar, writeCells, readCells, allSingle, AV.single, getFs, getF, setFs, setF, Heap.get, Heap.set, Heap.new, Heap.kill, killF, pushF, Heap.ready, refs, sliceParts, fillA, replL, c5, atX c5 hup, hkt, c6, c7]
            repeat refine wps_seq ?_
            refine wps_cond (t := true) rfl (fun _ => ?_) fun h => by cases h
            repeat refine wps_seq ?_
            refine wps_region callOK ?_
            simp [ofV, ofV1, mkC_P, writeVar, writeCells, readCells, allSingle, AV.single, getFs, getF, setFs, setF, Heap.get, Heap.set, Heap.new, Heap.kill, killF, pushF, Heap.ready, refs, sliceParts, fillA, replL]
            repeat refine wps_seq ?_
            refine wps_ret ?_
            simp [retVal, Tryz.f31, oneOr, thenQ, blockQ]
            exact ends_pure rfl (by rw [rightB_no h (by simp [okNd, badB, ← hn, hv, c5, c6, c7]; try (intro _ ; omega))])
          · have c7 := Decidable.not_not.1 c7
            repeat refine wps_seq ?_
            refine wps_region callOK ?_
            simp [ofV, ofV1, mkC_P, writeVar, writeCells, readCells, allSingle, AV.single, getFs, getF, setFs, setF, Heap.get, Heap.set, Heap.new, Heap.kill, killF, pushF, Heap.ready, refs, sliceParts, fillA, replL, c5, atX c5 hup, hkt, c6, c7]
            repeat refine wps_seq ?_
            refine wps_cond (t := false) rfl (fun h => by cases h) fun _ => ?_
            repeat refine wps_seq ?_
            refine wps_skip ?_
            simp
            exact hj _ (by simp [badB, ← hn, hv, c6, c7]; try omega) rfl
      · repeat refine wps_seq ?_
        refine wps_region callOK ?_
        simp [ofV, ofV1, mkC_P, writeVar, writeCells, readCells, allSingle, AV.single, getFs, getF, setFs, setF, Heap.get, Heap.set, Heap.new, Heap.kill, killF, pushF, Heap.ready, refs, sliceParts, fillA, replL, c5]
        repeat refine wps_seq ?_
        refine wps_cond (t := false) rfl (fun h => by cases h) fun _ => ?_
        repeat refine wps_seq ?_
        refine wps_skip ?_
        simp
        exact hj _ (by simp [badB, ← hn, c5]) rfl
    repeat refine wps_seq ?_
    refine wps_region callOK ?_
    simp [ofV, ofV1, mkC_P, writeVar, writeCells, readCells, allSingle, AV.single, getFs, getF, setFs, setF, Heap.get, Heap.set, Heap.new, Heap.kill, killF, pushF, Heap.ready, refs, sliceParts, fillA, replL]
    have g1 : ∀ (m : Nat), FitH 0 [(1, 1), (0, 0)] [] ⟨m, [[(1, .cells n.cs), (0, .cells [aNodes t])]]⟩ ⟨2, [[(1, .cells n.cs), (0, .cells [aNodes t])]]⟩ := fun m => .id1 (g := [(1, .cells n.cs), (0, .cells [aNodes t])]) (by simp) (by simp) (by simp [Heap.get, getFs, getF, pureL])
    repeat refine wps_seq ?_
    refine wps_block (wps_loop' (fun k : Nat => (⟨[0, 1, 2, 3, 4, 5, 6], [.undef, .ptr 0 0, .undef, .int .i64 i, .ptr 1 0, .int .i64 k, .undef], [], 138, ⟨2, [[(1, .cells n.cs), (0, .cells [aNodes t])]]⟩⟩ : St))
      (fun k => k ≤ n.kids.length ∧ n.kids.any (badC t i) = (n.kids.drop k).any (badC t i)) (fun k => n.kids.length - k) [(1, 1), (0, 0)] [] 0 ⟨Nat.zero_le _, rfl⟩ ⟨rfl, rfl, rfl, by simp [fitL, fitV, lookN, pureV], g1 2⟩ ?_)
    rintro k ⟨hk, hany⟩ B2 hB2
    repeat refine wps_seq ?_
    refine wps_region callOK ?_
    simp [ofV, ofV1, mkC_P, writeVar, writeCells, readCells, allSingle, AV.single, getFs, getF, setFs, setF, Heap.get, Heap.set, Heap.new, Heap.kill, killF, pushF, Heap.ready, refs, sliceParts, fillA, replL, lenI]
    repeat refine wps_seq ?_
    refine wps_cond rfl (fun h2 => ?_) fun h2 => ?_
    · simp at h2
      rw [List.drop_eq_getElem_cons h2, List.any_cons] at hany
      repeat refine wps_seq ?_
      refine wps_skip ?_
      simp
      repeat refine wps_seq ?_
      refine wps_block ?_
      by_cases d1 : n.kids[k] < 0
      · repeat refine wps_seq ?_
        refine wps_drawK mixed callOK (by decide +kernel) (by decide +kernel) ?_
        simp [ofV, ofV1, mkC_P, writeVar, writeCells, readCells, allSingle, AV.single, getFs, getF, setFs, setF, Heap.get, Heap.set, Heap.new, Heap.kill, killF, pushF, Heap.ready, refs, sliceParts, fillA, replL, evalK_c, evalK_nil, thenK_some, atI h2, d1]
        repeat refine wps_seq ?_
        refine wps_cond (t := true) rfl (fun _ => ?_) fun h => by cases h
        repeat refine wps_seq ?_
        refine wps_region callOK ?_
        simp [ofV, ofV1, mkC_P, writeVar, writeCells, readCells, allSingle, AV.single, getFs, getF, setFs, setF, Heap.get, Heap.set, Heap.new, Heap.kill, killF, pushF, Heap.ready, refs, sliceParts, fillA, replL]
        repeat refine wps_seq ?_
        refine wps_ret ?_
        simp [retVal, Tryz.f31, oneOr, thenQ, blockQ]
        exact ends_pure rfl (by rw [rightB_no h (by simp only [okNd, ← hn, hany]; simp [badC, d1])])
      · by_cases d2 : (t.length : Int) ≤ n.kids[k]
        · repeat refine wps_seq ?_
          refine wps_drawK mixed callOK (by decide +kernel) (by decide +kernel) ?_
          simp [ofV, ofV1, mkC_P, writeVar, writeCells, readCells, allSingle, AV.single, getFs, getF, setFs, setF, Heap.get, Heap.set, Heap.new, Heap.kill, killF, pushF, Heap.ready, refs, sliceParts, fillA, replL, evalK_c, evalK_nil, thenK_some, atI h2, lenN, d1, d2]
          repeat refine wps_seq ?_
          refine wps_cond (t := true) rfl (fun _ => ?_) fun h => by cases h
          repeat refine wps_seq ?_
          refine wps_region callOK ?_
          simp [ofV, ofV1, mkC_P, writeVar, writeCells, readCells, allSingle, AV.single, getFs, getF, setFs, setF, Heap.get, Heap.set, Heap.new, Heap.kill, killF, pushF, Heap.ready, refs, sliceParts, fillA, replL]
          repeat refine wps_seq ?_
          refine wps_ret ?_
          simp [retVal, Tryz.f31, oneOr, thenQ, blockQ]
          exact ends_pure rfl (by rw [rightB_no h (by simp only [okNd, ← hn, hany]; simp [badC, d1, d2])])
        · have ak := atX (t := t) (i := n.kids[k]) (by omega) (by omega)
          by_cases d3 : (nodeAt t n.kids[k]).up = (i : Int)
          · repeat refine wps_seq ?_
            refine wps_drawK mixed callOK (by decide +kernel) (by decide +kernel) ?_
            simp [ofV, ofV1, mkC_P, writeVar, writeCells, readCells, allSingle, AV.single, getFs, getF, setFs, setF, Heap.get, Heap.set, Heap.new, Heap.kill, killF, pushF, Heap.ready, refs, sliceParts, fillA, replL, evalK_c, evalK_nil, thenK_some, atI h2, lenN, ak, d1, d2, d3]
            repeat refine wps_seq ?_
            refine wps_cond (t := false) rfl (fun h => by cases h) fun _ => ?_
            repeat refine wps_seq ?_
            refine wps_skip ?_
            simp
            repeat refine wps_seq ?_
            refine wps_region callOK ?_
            simp [ofV, ofV1, mkC_P, writeVar, writeCells, readCells, allSingle, AV.single, getFs, getF, setFs, setF, Heap.get, Heap.set, Heap.new, Heap.kill, killF, pushF, Heap.ready, refs, sliceParts, fillA, replL, add_one (show k ≤ 1000000000 by omega)]
            refine hB2 _ (k + 1) (by omega) ⟨by omega, ?_⟩ ⟨[(1, 1), (0, 0)], [], rfl, rfl, rfl, by simp [fitL, fitV, lookN, pureV], g1 _⟩
            rw [hany]
            simp [badC, d1, d2, d3]
          · repeat refine wps_seq ?_
            refine wps_drawK mixed callOK (by decide +kernel) (by decide +kernel) ?_
            simp [ofV, ofV1, mkC_P, writeVar, writeCells, readCells, allSingle, AV.single, getFs, getF, setFs, setF, Heap.get, Heap.set, Heap.new, Heap.kill, killF, pushF, Heap.ready, refs, sliceParts, fillA, replL, evalK_c, evalK_nil, thenK_some, atI h2, lenN, ak, d1, d2, d3]
            repeat refine wps_seq ?_
            refine wps_cond (t := true) rfl (fun _ => ?_) fun h => by cases h
            repeat refine wps_seq ?_
            refine wps_region callOK ?_
            simp [ofV, ofV1, mkC_P, writeVar, writeCells, readCells, allSingle, AV.single, getFs, getF, setFs, setF, Heap.get, Heap.set, Heap.new, Heap.kill, killF, pushF, Heap.ready, refs, sliceParts, fillA, replL]
            repeat refine wps_seq ?_
            refine wps_ret ?_
            simp [retVal, Tryz.f31, oneOr, thenQ, blockQ]
            exact ends_pure rfl (by rw [rightB_no h (by simp only [okNd, ← hn, hany]; simp [badC, d1, d2, d3])])
    · simp at h2
      rw [List.drop_eq_nil_of_le h2] at hany
      repeat refine wps_seq ?_
      refine wps_exit ?_
      simp
      repeat refine wps_seq ?_
      refine wps_region callOK ?_
      simp [ofV, ofV1, mkC_P, writeVar, writeCells, readCells, allSingle, AV.single, getFs, getF, setFs, setF, Heap.get, Heap.set, Heap.new, Heap.kill, killF, pushF, Heap.ready, refs, sliceParts, fillA, replL, add_one (show i ≤ 1000000000 by omega)]
      refine hB _ (i + 1) (by omega) ⟨by omega, fun j hj => ?_⟩ ⟨[(0, 0)], [], rfl, rfl, rfl, by simp [fitL, fitV, lookN, pureV], .id1 (g := [(0, .cells [aNodes t])]) (by simp) (by simp) (by simp [Heap.get, getFs, getF, pureL])⟩
      by_cases hji : j = i
      · subst hji
        simp [okNd, hbA, hbB, ← hn, hany]
      · exact hall j (by omega)
  · simp at h
    have hin : i = t.length := by omega
    subst hin
    have hups := ups_of z2 hall
    repeat refine wps_seq ?_
    refine wps_exit ?_
    simp
    repeat refine wps_seq ?_
    refine wps_region callOK ?_
    simp [ofV, ofV1, mkC_P, writeVar, writeCells, readCells, allSingle, AV.single, getFs, getF, setFs, setF, Heap.get, Heap.set, Heap.new, Heap.kill, killF, pushF, Heap.ready, refs, sliceParts, fillA, replL]
    repeat refine wps_seq ?_
    refine wps_block (wps_loop' (fun i : Nat => (⟨[0, 1, 2, 3, 4, 5, 6], [.undef, .ptr 0 0, .undef, .undef, .undef, .undef, .int .i64 i], [], 138, ⟨1, [[(0, .cells [aNodes t])]]⟩⟩ : St))
      (fun i => i ≤ t.length ∧ ∀ j, j < i → heldF t (t.length + 1) (j : Int) = true) (fun i => t.length - i) [(0, 0)] [] 0 ⟨Nat.zero_le _, fun j hj => absurd hj (Nat.not_lt_zero j)⟩ ⟨rfl, rfl, rfl, by simp [fitL, fitV, lookN, pureV], g0 1⟩ ?_)
    rintro i ⟨hi, hh⟩ B hB
    repeat refine wps_seq ?_
    refine wps_region callOK ?_
    simp [ofV, ofV1, mkC_P, writeVar, writeCells, readCells, allSingle, AV.single, getFs, getF, setFs, setF, Heap.get, Heap.set, Heap.new, Heap.kill, killF, pushF, Heap.ready, refs, sliceParts, fillA, replL, lenN]
    repeat refine wps_seq ?_
    refine wps_cond rfl (fun h => ?_) fun h => ?_
    · simp at h
      repeat refine wps_seq ?_
      refine wps_skip ?_
      simp
      repeat refine wps_seq ?_
      refine wps_block ?_
      have kh := fun H => k55 hH (t := t) (by have := ht.1; omega) hups (i := (i : Int)) (by omega) (by omega) H
      simp only [aTree] at kh
      cases hv : heldF t (t.length + 1) (i : Int) with
      | false =>
        rw [hv] at kh
        repeat refine wps_seq ?_
        refine wps_region callOK ?_
        simp [ofV, ofV1, mkC_P, writeVar, writeCells, readCells, allSingle, AV.single, getFs, getF, setFs, setF, Heap.get, Heap.set, Heap.new, Heap.kill, killF, pushF, Heap.ready, refs, sliceParts, fillA, replL, kh]
        repeat refine wps_seq ?_
        refine wps_cond (t := true) rfl (fun _ => ?_) fun h => by cases h
        repeat refine wps_seq ?_
        refine wps_region callOK ?_
        simp [ofV, ofV1, mkC_P, writeVar, writeCells, readCells, allSingle, AV.single, getFs, getF, setFs, setF, Heap.get, Heap.set, Heap.new, Heap.kill, killF, pushF, Heap.ready, refs, sliceParts, fillA, replL]
        repeat refine wps_seq ?_
        refine wps_ret ?_
        simp [retVal, Tryz.f31, oneOr, thenQ, blockQ]
        exact ends_pure rfl (by rw [rightB_not h hv])
      | true =>
        rw [hv] at kh
        repeat refine wps_seq ?_
        refine wps_region callOK ?_
        simp [ofV, ofV1, mkC_P, writeVar, writeCells, readCells, allSingle, AV.single, getFs, getF, setFs, setF, Heap.get, Heap.set, Heap.new, Heap.kill, killF, pushF, Heap.ready, refs, sliceParts, fillA, replL, kh]
        repeat refine wps_seq ?_
        refine wps_cond (t := false) rfl (fun h => by cases h) fun _ => ?_
        repeat refine wps_seq ?_
        refine wps_skip ?_
        simp
        repeat refine wps_seq ?_
        refine wps_region callOK ?_
        simp [ofV, ofV1, mkC_P, writeVar, writeCells, readCells, allSingle, AV.single, getFs, getF, setFs, setF, Heap.get, Heap.set, Heap.new, Heap.kill, killF, pushF, Heap.ready, refs, sliceParts, fillA, replL, add_one (show i ≤ 1000000000 by omega)]
        refine hB _ (i + 1) (by omega) ⟨by omega, fun j hj => ?_⟩ ⟨[(0, 0)], [], rfl, rfl, rfl, by simp [fitL, fitV, lookN, pureV], g0 _⟩
        by_cases hji : j = i
        · subst hji; exact hv
        · exact hh j (by omega)
    · simp at h
      have hin : i = t.length := by omega
      subst hin
      repeat refine wps_seq ?_
      refine wps_exit ?_
      simp
      repeat refine wps_seq ?_
      refine wps_region callOK ?_
      simp [ofV, ofV1, mkC_P, writeVar, writeCells, readCells, allSingle, AV.single, getFs, getF, setFs, setF, Heap.get, Heap.set, Heap.new, Heap.kill, killF, pushF, Heap.ready, refs, sliceParts, fillA, replL]
      repeat refine wps_seq ?_
      refine wps_ret ?_
      simp [retVal, Tryz.f31, oneOr, thenQ, blockQ]
      exact ends_pure rfl (by rw [rightB_yes z0 z1 z2 hall hh])
noncomputable def e31 : Entry Tryz.prog := mkE 31 [[]] (fun t : Tr => [aTree t]) okTr (fun t => .bool (rightB t)) fun t ht => c31 (T := [e54, e55]) rfl rfl t ht
theorem k31 {T : List (Entry Tryz.prog)} (hT : findE 31 T = some e31.g) {t : Tr} (ht : okTr t) (H : Heap) : callL (ctx T) (.fn 31) [aTree t] H = some (.bool (rightB t), H) :=
  mkE_scalar hT injT t ht rfl (by simp [th_aTree])
def mayTr (t : Tr) (m : Int) : Bool := fewTr t m && rightB t
theorem c12 {T : List (Entry Tryz.prog)} (hF : findE 7 T = some e7.g) (hR : findE 31 T = some e31.g) (t : Tr) (m : Int) (hm : m ≤ 50) : CallAt (ctx T) 12 [aTree t, .int .i64 m] ⟨0, []⟩ (.bool (mayTr t m)) ⟨0, []⟩ := by
  have kf := fun H => k7 hF t (m := m) (by omega) H
  simp only [aTree] at kf
  cases hf : fewTr t m with
  | false =>
    rw [hf] at kf
    refine callAt_body (fn := Tryz.f12) (s0 := ⟨[0, 1, 2, 4], [aTree t, .int .i64 m, .undef, .undef], [], 12, ⟨0, [[]]⟩⟩) Tryz.func12 rfl rfl rfl ?_
    (repeat (first
      | (refine wps_seq ?_)
      | (refine wps_block ?_)
      | (refine wps_label ?_; simp only [thenQ, blockQ])
      | ((refine wps_region callOK ?_); simp [ofV, ofV1, mkC_P, writeVar, writeCells, readCells, allSingle, AV.single, getFs, getF, setFs, setF, Heap.get, Heap.set, Heap.new, Heap.kill, killF, pushF, Heap.ready, refs, sliceParts, fillA, replL, aTree, kf])
      | (refine wps_cond (t := true) rfl (fun _ => ?_) (fun h => by cases h))
      | (refine wps_cond (t := false) rfl (fun h => by cases h) (fun _ => ?_))
      | ((refine wps_skip ?_); simp only [thenQ, blockQ])
      | ((refine wps_exit ?_); simp [thenQ, blockQ])))
    repeat refine wps_seq ?_
    refine wps_ret ?_
    simp [retVal, Tryz.f12, oneOr, thenQ, blockQ]
    exact ends_pure rfl (by simp [mayTr, hf])
  | true =>
    have kr := fun H => k31 hR (few_small hm hf).2 H
    simp only [aTree] at kr
    rw [hf] at kf
    refine callAt_body (fn := Tryz.f12) (s0 := ⟨[0, 1, 2, 4], [aTree t, .int .i64 m, .undef, .undef], [], 12, ⟨0, [[]]⟩⟩) Tryz.func12 rfl rfl rfl ?_
    (repeat (first
      | (refine wps_seq ?_)
      | (refine wps_block ?_)
      | (refine wps_label ?_; simp only [thenQ, blockQ])
      | ((refine wps_region callOK ?_); simp [ofV, ofV1, mkC_P, writeVar, writeCells, readCells, allSingle, AV.single, getFs, getF, setFs, setF, Heap.get, Heap.set, Heap.new, Heap.kill, killF, pushF, Heap.ready, refs, sliceParts, fillA, replL, aTree, kf, kr])
      | (refine wps_cond (t := true) rfl (fun _ => ?_) (fun h => by cases h))
      | (refine wps_cond (t := false) rfl (fun h => by cases h) (fun _ => ?_))
      | ((refine wps_skip ?_); simp only [thenQ, blockQ])
      | ((refine wps_exit ?_); simp [thenQ, blockQ])))
    repeat refine wps_seq ?_
    refine wps_ret ?_
    simp [retVal, Tryz.f12, oneOr, thenQ, blockQ]
    exact ends_pure rfl (by simp [mayTr, hf])
noncomputable def e12 : Entry Tryz.prog := mkE 12 [[], []] (fun x : Tr × Int => [aTree x.1, .int .i64 x.2]) (fun x => x.2 ≤ 50) (fun x => .bool (mayTr x.1 x.2)) fun x hx => c12 (T := [e7, e31]) rfl rfl x.1 x.2 hx
theorem k12 {T : List (Entry Tryz.prog)} (hT : findE 12 T = some e12.g) (t : Tr) {m : Int} (hm : m ≤ 50) (H : Heap) : callL (ctx T) (.fn 12) [aTree t, .int .i64 m] H = some (.bool (mayTr t m), H) :=
  mkE_scalar hT injTI (t, m) hm rfl (by simp [th_aTree])
end Go.Proofs.YtmadcegoionpjaaGreatDoor
namespace Go.Proofs.YtmadcegoionpjaaGreatDoor
set_option linter.unusedSimpArgs false
set_option linter.unusedVariables false
open Go Go.RowKit
set_option maxRecDepth 100000

def valueB (t : Tr) (i : Int) (nm : Str) : Str := if i < 0 ∨ (t.length : Int) ≤ i then [] else valOf (nodeAt t i) nm
theorem c121 {T : List (Entry Tryz.prog)} (hG : findE 56 T = some e56.g) (t : Tr) (ht : okTr t) (i : Int) (nm : Str) : CallAt (ctx T) 121 [aTree t, .int .i64 i, .str nm] ⟨0, []⟩ (.str (valueB t i nm)) ⟨0, []⟩ := by
  refine callAt_body (fn := Tryz.f121) (s0 := ⟨[0, 1, 2, 3, 6, 7], [aTree t, .int .i64 i, .str nm, .undef, .undef, .undef], [], 30, ⟨0, [[]]⟩⟩) Tryz.func121 rfl rfl rfl ?_
  repeat refine wps_seq ?_
  refine wps_region callOK ?_
  simp [ofV, ofV1, mkC_P, writeVar, writeCells, readCells, allSingle, AV.single, getFs, getF, setFs, setF, Heap.get, Heap.set, Heap.new, Heap.kill, killF, pushF, Heap.ready, refs, sliceParts, fillA, replL, aTree]
  by_cases c1 : i < 0
  · repeat refine wps_seq ?_
    refine wps_region callOK ?_
    simp [ofV, ofV1, mkC_P, writeVar, writeCells, readCells, allSingle, AV.single, getFs, getF, setFs, setF, Heap.get, Heap.set, Heap.new, Heap.kill, killF, pushF, Heap.ready, refs, sliceParts, fillA, replL, lenN, c1]
    repeat refine wps_seq ?_
    refine wps_cond (t := true) rfl (fun _ => ?_) fun h => by cases h
    repeat refine wps_seq ?_
    refine wps_region callOK ?_
    simp [ofV, ofV1, mkC_P, writeVar, writeCells, readCells, allSingle, AV.single, getFs, getF, setFs, setF, Heap.get, Heap.set, Heap.new, Heap.kill, killF, pushF, Heap.ready, refs, sliceParts, fillA, replL]
    repeat refine wps_seq ?_
    refine wps_ret ?_
    simp [retVal, Tryz.f121, oneOr, thenQ, blockQ]
    exact ends_pure rfl (by simp [valueB, c1])
  · by_cases c2 : (t.length : Int) ≤ i
    · repeat refine wps_seq ?_
      refine wps_region callOK ?_
      simp [ofV, ofV1, mkC_P, writeVar, writeCells, readCells, allSingle, AV.single, getFs, getF, setFs, setF, Heap.get, Heap.set, Heap.new, Heap.kill, killF, pushF, Heap.ready, refs, sliceParts, fillA, replL, lenN, c1, c2]
      repeat refine wps_seq ?_
      refine wps_cond (t := true) rfl (fun _ => ?_) fun h => by cases h
      repeat refine wps_seq ?_
      refine wps_region callOK ?_
      simp [ofV, ofV1, mkC_P, writeVar, writeCells, readCells, allSingle, AV.single, getFs, getF, setFs, setF, Heap.get, Heap.set, Heap.new, Heap.kill, killF, pushF, Heap.ready, refs, sliceParts, fillA, replL]
      repeat refine wps_seq ?_
      refine wps_ret ?_
      simp [retVal, Tryz.f121, oneOr, thenQ, blockQ]
      exact ends_pure rfl (by simp [valueB, c1, c2])
    · have hl := (ht.2 _ (nodeAt_mem (t := t) (i := i) (by omega) (by omega))).2
      have hk := fun H => k56 hG nm hl (th_aAttrs H _)
      repeat refine wps_seq ?_
      refine wps_region callOK ?_
      simp [ofV, ofV1, mkC_P, writeVar, writeCells, readCells, allSingle, AV.single, getFs, getF, setFs, setF, Heap.get, Heap.set, Heap.new, Heap.kill, killF, pushF, Heap.ready, refs, sliceParts, fillA, replL, lenN, c1, c2]
      repeat refine wps_seq ?_
      refine wps_cond (t := false) rfl (fun h => by cases h) fun _ => ?_
      repeat refine wps_seq ?_
      refine wps_skip ?_
      simp
      repeat refine wps_seq ?_
      refine wps_region callOK ?_
      simp [ofV, ofV1, mkC_P, writeVar, writeCells, readCells, allSingle, AV.single, getFs, getF, setFs, setF, Heap.get, Heap.set, Heap.new, Heap.kill, killF, pushF, Heap.ready, refs, sliceParts, fillA, replL, atX (t := t) (i := i) (by omega) (by omega), hk, gotA]
      repeat refine wps_seq ?_
      refine wps_region callOK ?_
      simp [ofV, ofV1, mkC_P, writeVar, writeCells, readCells, allSingle, AV.single, getFs, getF, setFs, setF, Heap.get, Heap.set, Heap.new, Heap.kill, killF, pushF, Heap.ready, refs, sliceParts, fillA, replL]
      repeat refine wps_seq ?_
      refine wps_ret ?_
      simp [retVal, Tryz.f121, oneOr, thenQ, blockQ]
      exact ends_pure rfl (by simp [valueB, valOf, c1, c2])
theorem injTIS (x y : Tr × Int × Str) (h : [aTree x.1, .int .i64 x.2.1, .str x.2.2] = [aTree y.1, .int .i64 y.2.1, .str y.2.2]) : x = y := by
  simp at h; exact Prod.ext (inj_aTree h.1) (Prod.ext h.2.1 h.2.2)
noncomputable def e121 : Entry Tryz.prog := mkE 121 [[], [], []] (fun x : Tr × Int × Str => [aTree x.1, .int .i64 x.2.1, .str x.2.2]) (fun x => okTr x.1) (fun x => .str (valueB x.1 x.2.1 x.2.2)) fun x hx => c121 (T := [e56]) rfl x.1 hx x.2.1 x.2.2
theorem k121 {T : List (Entry Tryz.prog)} (hT : findE 121 T = some e121.g) {t : Tr} (ht : okTr t) (i : Int) (nm : Str) (H : Heap) : callL (ctx T) (.fn 121) [aTree t, .int .i64 i, .str nm] H = some (.str (valueB t i nm), H) :=
  mkE_scalar hT injTIS (t, i, nm) ht rfl (by simp [th_aTree])
theorem told_kind {n : Nd} {x : Str} (h : toldB n x = true) : n.kind = 1 ∧ (valOf n wId = x ∨ valOf n wName = x) := by
  unfold toldB at h
  split at h
  · rename_i hk
    refine ⟨hk.1, ?_⟩
    split at h
    · simp at h; exact .inr h
    · split at h
      · simp at h; exact h.symm
      · split at h
        · simp at h
          rcases h with h | h
          · exact .inr h
          · exact .inl h.2
        · cases h
  · cases h
theorem named_told {t : Tr} {x : Str} {y : Int} (h : y ∈ namedL t x) : 0 ≤ y ∧ y < (t.length : Int) ∧ toldB (nodeAt t y) x = true := by
  unfold namedL at h
  split at h
  · simp at h
  · rw [List.mem_filter] at h
    obtain ⟨h1, h2⟩ := order_mem h.1
    exact ⟨h1, h2, h.2⟩
theorem named_len {t : Tr} {x : Str} : (namedL t x).length ≤ t.length := by
  unfold namedL
  split
  · simp
  · exact Nat.le_trans (List.length_filter_le _ _) order_len
theorem right_root {t : Tr} (h : rightB t = true) : (nodeAt t 0).kind = 0 ∧ t ≠ [] := by
  simp only [rightB, Bool.and_eq_true, decide_eq_true_eq] at h
  exact ⟨h.2.1, h.1⟩
end Go.Proofs.YtmadcegoionpjaaGreatDoor
namespace Go.Proofs.YtmadcegoionpjaaGreatDoor
set_option linter.unusedSimpArgs false
set_option linter.unusedVariables false
open Go Go.RowKit
set_option maxRecDepth 100000

/-- x stands in s at p, with blanks, or nothing, at both sides -/
structure WordAt (s x : Str) (p : Nat) : Prop where
  room : p + x.length ≤ s.length
  occ : (s.drop p).take x.length = x
  pre : ∀ c, 0 < p → s[p - 1]? = some c → sp c = true
  post : ∀ c, s[p + x.length]? = some c → sp c = true
structure WInv (s : Str) (i : Nat) (st : List Str × Str) : Prop where
  le : i ≤ s.length
  words : ∀ w, w ∈ st.1 → ∃ p, WordAt s w p
  len : st.2.length ≤ i
  cur : (s.take i).drop (i - st.2.length) = st.2
  pre : ∀ c, 0 < i - st.2.length → s[i - st.2.length - 1]? = some c → sp c = true
theorem winv {s : Str} : ∀ (i : Nat), i ≤ s.length → WInv s i (wst (s.take i))
  | 0, _ => by
    have e : wst (s.take 0) = ([], []) := by simp [wst]
    rw [e]
    exact ⟨Nat.zero_le _, fun w h => (by cases h), Nat.le_refl _, rfl, fun c h => absurd h (Nat.lt_irrefl 0)⟩
  | i + 1, hi => by
    have ih := winv (s := s) i (by omega)
    have hlt : i < s.length := by omega
    rw [wst_at hlt]
    generalize wst (s.take i) = st at ih
    obtain ⟨W, c⟩ := st
    have ihl := ih.len
    have ihc := ih.cur
    have ihp := ih.pre
    simp only at ihl ihc ihp
    unfold wstep
    by_cases hs : sp s[i] = true
    · rw [if_pos hs]
      refine ⟨hi, ?_, Nat.zero_le _, ?_, ?_⟩
      · intro w hw
        simp only at hw
        by_cases hc : c = []
        · rw [if_pos hc] at hw
          exact ih.words w hw
        · rw [if_neg hc] at hw
          rcases List.mem_append.1 hw with hw | hw
          · exact ih.words w hw
          · rw [List.mem_singleton] at hw
            subst hw
            refine ⟨i - w.length, by omega, ?_, fun d h1 h2 => ihp d h1 h2, fun d h => ?_⟩
            · rw [List.drop_take, show i - (i - w.length) = w.length by omega] at ihc
              exact ihc
            · rw [show i - w.length + w.length = i by omega, List.getElem?_eq_getElem hlt, Option.some.injEq] at h
              rw [← h]; exact hs
      · simp
      · intro d _ h
        simp only [List.length_nil, Nat.sub_zero, Nat.add_sub_cancel] at h
        rw [List.getElem?_eq_getElem hlt, Option.some.injEq] at h
        rw [← h]; exact hs
    · rw [if_neg hs]
      refine ⟨hi, ih.words, by simp; omega, ?_, ?_⟩
      · simp only [List.length_append, List.length_singleton]
        rw [show i + 1 - (c.length + 1) = i - c.length by omega, List.take_succ_eq_append_getElem hlt, List.drop_append_of_le_length (by simp; omega), ihc]
      · simp only [List.length_append, List.length_singleton]
        rw [show i + 1 - (c.length + 1) = i - c.length by omega]
        exact ihp
theorem word_at {s x : Str} (h : x ∈ wsplit s) : ∃ p, WordAt s x p := by
  have inv := winv (s := s) s.length (Nat.le_refl _)
  rw [List.take_of_length_le (Nat.le_refl _)] at inv
  unfold wsplit wfin at h
  generalize wst s = st at *
  obtain ⟨W, c⟩ := st
  have il := inv.len
  have ic := inv.cur
  have ip := inv.pre
  simp only at il ic ip h
  by_cases hc : c = []
  · rw [if_pos hc] at h
    exact inv.words x h
  · rw [if_neg hc] at h
    rcases List.mem_append.1 h with h | h
    · exact inv.words x h
    · rw [List.mem_singleton] at h
      subst h
      refine ⟨s.length - x.length, by omega, ?_, ip, fun d h => ?_⟩
      · rw [List.take_of_length_le (Nat.le_refl _)] at ic
        rw [ic, List.take_of_length_le (Nat.le_refl _)]
      · rw [show s.length - x.length + x.length = s.length by omega, List.getElem?_eq_none (Nat.le_refl _)] at h
        cases h
theorem word_ne {s x : Str} (h : x ∈ wsplit s) : x ≠ [] := by
  have key : ∀ (l : Str) (st : List Str × Str), (∀ w, w ∈ st.1 → w ≠ []) → ∀ w, w ∈ (l.foldl wstep st).1 → w ≠ [] := by
    intro l
    induction l with
    | nil => intro st h; exact h
    | cons c r ih =>
      intro st h
      rw [List.foldl_cons]
      refine ih _ ?_
      intro w hw
      unfold wstep at hw
      split at hw
      · simp only at hw
        split at hw
        · exact h w hw
        · rename_i hn
          rcases List.mem_append.1 hw with hw | hw
          · exact h w hw
          · rw [List.mem_singleton] at hw; rw [hw]; exact hn
      · exact h w hw
  unfold wsplit wfin at h
  split at h
  · exact key s ([], []) (fun w h => by cases h) x h
  · rename_i hn
    rcases List.mem_append.1 h with h | h
    · exact key s ([], []) (fun w h => by cases h) x h
    · rw [List.mem_singleton] at h; rw [h]; exact hn
end Go.Proofs.YtmadcegoionpjaaGreatDoor
namespace Go.Proofs.YtmadcegoionpjaaGreatDoor
set_option linter.unusedSimpArgs false
set_option linter.unusedVariables false
open Go Go.RowKit
set_option maxRecDepth 100000

def lays143_ren : Go.Shelf.Ren := ⟨fun | 143 => 127 | 219 => 181 | 217 => 250 | 225 => 251 | 224 => 252 | 267 => 253 | 266 => 286 | 314 => 287 | n => n, fun | 9 => 9 | 3 => 3 | 4 => 4 | 5 => 5 | 46 => 138 | 146 => 242 | 51 => 183 | n => n, fun | 1 => 3 | n => n⟩
theorem lays143 : Go.Proofs.Lays.n143 Tryz.prog lays143_ren where
  mixed := by kernel_rfl
  f143 := Tryz.func127.trans (congrArg some (by kernel_rfl))
  f217 := Tryz.func250.trans (congrArg some (by kernel_rfl))
  f219 := Tryz.func181.trans (congrArg some (by kernel_rfl))
  f224 := Tryz.func252.trans (congrArg some (by kernel_rfl))
  f225 := Tryz.func251.trans (congrArg some (by kernel_rfl))
  f266 := Tryz.func286.trans (congrArg some (by kernel_rfl))
  f267 := Tryz.func253.trans (congrArg some (by kernel_rfl))
  f314 := Tryz.func287.trans (congrArg some (by kernel_rfl))
  t3 := Tryz.underlying3
  a3 := Tryz.isAgg3
  z3 := Tryz.sizeOf3
  v3 := Tryz.zeroValue3
  t4 := Tryz.underlying4
  a4 := Tryz.isAgg4
  z4 := Tryz.sizeOf4
  v4 := Tryz.zeroValue4
  t5 := Tryz.underlying5
  a5 := Tryz.isAgg5
  z5 := Tryz.sizeOf5
  v5 := Tryz.zeroValue5
  t9 := Tryz.underlying9
  a9 := Tryz.isAgg9
  z9 := Tryz.sizeOf9
  v9 := Tryz.zeroValue9
  t46 := Tryz.underlying138
  a46 := Tryz.isAgg138
  z46 := Tryz.sizeOf138
  v46 := Tryz.zeroValue138
  t51 := Tryz.underlying183
  a51 := Tryz.isAgg183
  z51 := Tryz.sizeOf183
  v51 := Tryz.zeroValue183
  t146 := Tryz.underlying242
  a146 := Tryz.isAgg242
  z146 := Tryz.sizeOf242
  v146 := Tryz.zeroValue242
  g1 := by kernel_rfl
theorem index_at (s sub : ByteArray) (m : Int) (w : World) (hs : s.size < 4294967281) (hm : w.cell? ⟨3, 0, none⟩ = some (.int .i64 m)) :
    Calls Tryz.prog 127 #[.string s, .string sub] w fun e w' => e = .returned (.int .i64 (Lib.index s.data.toList sub.data.toList)) ∧ w' = w := Any.strings_Index lays143 s sub m w hs hm
theorem c127 {T : List (Entry Tryz.prog)} (s t : Str) (hl : s.length ≤ 1000000) : CallAt (ctx T) 127 [.str s, .str t] ⟨0, []⟩ (.int .i64 (Lib.index s t)) ⟨0, []⟩ := by
  intro ρ w xs sm hx
  match xs, hx with
  | [x, y], hx =>
    have h0 := hx.2 0 (by simp) (by simp)
    have h1 := hx.2 1 (by simp) (by simp)
    simp only [List.getElem_cons_zero, List.getElem_cons_succ] at h0 h1
    cases h0; cases h1
    obtain ⟨hB, m, hm⟩ := ρ.gl 3 (by simp [globs])
    have hc : w.cell? ⟨3, 0, none⟩ = some (.int .i64 m) := by rw [World.cell?, sm.below 3 hB]; exact hm
    have hrun : (callFunc 127 #[.string ⟨s.toArray⟩, .string ⟨t.toArray⟩]).run (ctx T).P w = .ok (.enter 127 #[.string ⟨s.toArray⟩, .string ⟨t.toArray⟩]) w := by
      have hf : (ctx T).P.funcs[127]? = some Tryz.f127 := Tryz.func127
      have hn : ¬ Tryz.f127.name = "runtime.NumGoroutine" := by decide +kernel
      simp [callFunc, hf, hn, Tryz.f127]
    refine .inr ⟨127, _, hrun, callsIn_wide.2 ((index_at ⟨s.toArray⟩ ⟨t.toArray⟩ m w ?_ hc).mono ?_)⟩
    · show s.toArray.size < _
      simp; omega
    · rintro e w' ⟨rfl, rfl⟩
      exact ⟨_, ρ, rfl, .int _ _, sm, Step.refl _ _ _⟩
noncomputable def e127 : Entry Tryz.prog := mkE 127 [[], []] (fun x : Str × Str => [.str x.1, .str x.2]) (fun x => x.1.length ≤ 1000000) (fun x => .int .i64 (Lib.index x.1 x.2)) fun x h => c127 (T := []) x.1 x.2 h
theorem k127 {T : List (Entry Tryz.prog)} (hT : findE 127 T = some e127.g) {s t : Str} (h1 : s.length ≤ 1000000) (H : Heap) : callL (ctx T) (.fn 127) [.str s, .str t] H = some (.int .i64 (Lib.index s t), H) :=
  mkE_scalar hT inj_str2 (s, t) h1 rfl (by simp)
theorem c128 {T : List (Entry Tryz.prog)} (c : UInt8) : CallAt (ctx T) 128 [.int .u8 c.toNat] ⟨0, []⟩ (.bool (sp c)) ⟨0, []⟩ := by
  refine callAt_body (fn := Tryz.f128) (s0 := ⟨[0, 2, 3, 4], [.int .u8 c.toNat, .undef, .undef, .undef], [], 10, ⟨0, [[]]⟩⟩) Tryz.func128 rfl rfl rfl ?_
  repeat refine wps_seq ?_
  refine wps_region callOK ?_
  simp [ofV, ofV1, mkC_P, writeVar, writeCells, readCells, allSingle, AV.single, getFs, getF, setFs, setF, Heap.get, Heap.set, Heap.new, Heap.kill, killF, pushF, Heap.ready, refs, sliceParts, fillA, replL]
  repeat refine wps_seq ?_
  refine wps_region callOK ?_
  simp [ofV, ofV1, mkC_P, writeVar, writeCells, readCells, allSingle, AV.single, getFs, getF, setFs, setF, Heap.get, Heap.set, Heap.new, Heap.kill, killF, pushF, Heap.ready, refs, sliceParts, fillA, replL]
  repeat refine wps_seq ?_
  refine wps_block ?_
  by_cases h1 : (c.toNat : Int) = 9
  · (repeat (first
      | (refine wps_seq ?_)
      | (refine wps_block ?_)
      | (refine wps_label ?_; simp only [thenQ, blockQ])
      | ((refine wps_region callOK ?_); simp [ofV, ofV1, mkC_P, writeVar, writeCells, readCells, allSingle, AV.single, getFs, getF, setFs, setF, Heap.get, Heap.set, Heap.new, Heap.kill, killF, pushF, Heap.ready, refs, sliceParts, fillA, replL, h1])
      | (refine wps_cond (t := true) rfl (fun _ => ?_) (fun h => by cases h))
      | (refine wps_cond (t := false) rfl (fun h => by cases h) (fun _ => ?_))
      | ((refine wps_skip ?_); simp only [thenQ, blockQ])
      | ((refine wps_exit ?_); simp [thenQ, blockQ])))
    repeat refine wps_seq ?_
    refine wps_ret ?_
    simp [retVal, Tryz.f128, oneOr, thenQ, blockQ]
    exact ends_pure rfl (by simp [sp, h1])
  by_cases h2 : (c.toNat : Int) = 10
  · (repeat (first
      | (refine wps_seq ?_)
      | (refine wps_block ?_)
      | (refine wps_label ?_; simp only [thenQ, blockQ])
      | ((refine wps_region callOK ?_); simp [ofV, ofV1, mkC_P, writeVar, writeCells, readCells, allSingle, AV.single, getFs, getF, setFs, setF, Heap.get, Heap.set, Heap.new, Heap.kill, killF, pushF, Heap.ready, refs, sliceParts, fillA, replL, h1, h2])
      | (refine wps_cond (t := true) rfl (fun _ => ?_) (fun h => by cases h))
      | (refine wps_cond (t := false) rfl (fun h => by cases h) (fun _ => ?_))
      | ((refine wps_skip ?_); simp only [thenQ, blockQ])
      | ((refine wps_exit ?_); simp [thenQ, blockQ])))
    repeat refine wps_seq ?_
    refine wps_ret ?_
    simp [retVal, Tryz.f128, oneOr, thenQ, blockQ]
    exact ends_pure rfl (by simp [sp, h2])
  by_cases h3 : (c.toNat : Int) = 12
  · (repeat (first
      | (refine wps_seq ?_)
      | (refine wps_block ?_)
      | (refine wps_label ?_; simp only [thenQ, blockQ])
      | ((refine wps_region callOK ?_); simp [ofV, ofV1, mkC_P, writeVar, writeCells, readCells, allSingle, AV.single, getFs, getF, setFs, setF, Heap.get, Heap.set, Heap.new, Heap.kill, killF, pushF, Heap.ready, refs, sliceParts, fillA, replL, h1, h2, h3])
      | (refine wps_cond (t := true) rfl (fun _ => ?_) (fun h => by cases h))
      | (refine wps_cond (t := false) rfl (fun h => by cases h) (fun _ => ?_))
      | ((refine wps_skip ?_); simp only [thenQ, blockQ])
      | ((refine wps_exit ?_); simp [thenQ, blockQ])))
    repeat refine wps_seq ?_
    refine wps_ret ?_
    simp [retVal, Tryz.f128, oneOr, thenQ, blockQ]
    exact ends_pure rfl (by simp [sp, h3])
  by_cases h4 : (c.toNat : Int) = 13
  · (repeat (first
      | (refine wps_seq ?_)
      | (refine wps_block ?_)
      | (refine wps_label ?_; simp only [thenQ, blockQ])
      | ((refine wps_region callOK ?_); simp [ofV, ofV1, mkC_P, writeVar, writeCells, readCells, allSingle, AV.single, getFs, getF, setFs, setF, Heap.get, Heap.set, Heap.new, Heap.kill, killF, pushF, Heap.ready, refs, sliceParts, fillA, replL, h1, h2, h3, h4])
      | (refine wps_cond (t := true) rfl (fun _ => ?_) (fun h => by cases h))
      | (refine wps_cond (t := false) rfl (fun h => by cases h) (fun _ => ?_))
      | ((refine wps_skip ?_); simp only [thenQ, blockQ])
      | ((refine wps_exit ?_); simp [thenQ, blockQ])))
    repeat refine wps_seq ?_
    refine wps_ret ?_
    simp [retVal, Tryz.f128, oneOr, thenQ, blockQ]
    exact ends_pure rfl (by simp [sp, h4])
  by_cases h5 : (c.toNat : Int) = 32
  · (repeat (first
      | (refine wps_seq ?_)
      | (refine wps_block ?_)
      | (refine wps_label ?_; simp only [thenQ, blockQ])
      | ((refine wps_region callOK ?_); simp [ofV, ofV1, mkC_P, writeVar, writeCells, readCells, allSingle, AV.single, getFs, getF, setFs, setF, Heap.get, Heap.set, Heap.new, Heap.kill, killF, pushF, Heap.ready, refs, sliceParts, fillA, replL, h1, h2, h3, h4, h5])
      | (refine wps_cond (t := true) rfl (fun _ => ?_) (fun h => by cases h))
      | (refine wps_cond (t := false) rfl (fun h => by cases h) (fun _ => ?_))
      | ((refine wps_skip ?_); simp only [thenQ, blockQ])
      | ((refine wps_exit ?_); simp [thenQ, blockQ])))
    repeat refine wps_seq ?_
    refine wps_ret ?_
    simp [retVal, Tryz.f128, oneOr, thenQ, blockQ]
    exact ends_pure rfl (by simp [sp, h5])
  · (repeat (first
      | (refine wps_seq ?_)
      | (refine wps_block ?_)
      | (refine wps_label ?_; simp only [thenQ, blockQ])
      | ((refine wps_region callOK ?_); simp [ofV, ofV1, mkC_P, writeVar, writeCells, readCells, allSingle, AV.single, getFs, getF, setFs, setF, Heap.get, Heap.set, Heap.new, Heap.kill, killF, pushF, Heap.ready, refs, sliceParts, fillA, replL, h1, h2, h3, h4, h5])
      | (refine wps_cond (t := true) rfl (fun _ => ?_) (fun h => by cases h))
      | (refine wps_cond (t := false) rfl (fun h => by cases h) (fun _ => ?_))
      | ((refine wps_skip ?_); simp only [thenQ, blockQ])
      | ((refine wps_exit ?_); simp [thenQ, blockQ])))
    repeat refine wps_seq ?_
    refine wps_ret ?_
    simp [retVal, Tryz.f128, oneOr, thenQ, blockQ]
    exact ends_pure rfl (by simp [sp, h1, h2, h3, h4, h5])
noncomputable def e128 : Entry Tryz.prog := mkE 128 [[]] (fun x : UInt8 => [.int .u8 x.toNat]) (fun _ => True) (fun x => .bool (sp x)) fun x _ => c128 (T := []) x
theorem k128 {T : List (Entry Tryz.prog)} (hT : findE 128 T = some e128.g) (c : UInt8) (H : Heap) : callL (ctx T) (.fn 128) [.int .u8 c.toNat] H = some (.bool (sp c), H) :=
  mkE_scalar hT inj_u8 c trivial rfl (by simp)
end Go.Proofs.YtmadcegoionpjaaGreatDoor
namespace Go.Proofs.YtmadcegoionpjaaGreatDoor
set_option linter.unusedSimpArgs false
set_option linter.unusedVariables false
open Go Go.RowKit
set_option maxRecDepth 100000

def lays172_ren : Go.Shelf.Ren := ⟨fun | 129 => 176 | 171 => 28 | 172 => 27 | 205 => 114 | 243 => 52 | 244 => 50 | 245 => 51 | 246 => 84 | 247 => 79 | 279 => 80 | 280 => 81 | 281 => 82 | 282 => 83 | 283 => 115 | 284 => 116 | 285 => 117 | 286 => 118 | 287 => 112 | 316 => 113 | 317 => 175 | 318 => 177 | 319 => 178 | 320 => 179 | 321 => 173 | 322 => 174 | 337 => 247 | 338 => 248 | n => n, fun | 0 => 0 | 2 => 2 | 3 => 3 | 4 => 4 | 5 => 5 | 9 => 9 | 20 => 20 | 21 => 21 | 37 => 102 | 46 => 138 | 51 => 183 | 53 => 135 | 75 => 53 | 76 => 54 | 80 => 201 | 85 => 103 | 127 => 176 | 143 => 177 | 145 => 179 | 167 => 101 | 168 => 105 | 171 => 142 | 173 => 145 | 175 => 136 | 210 => 140 | 212 => 182 | 213 => 184 | 232 => 240 | 233 => 241 | n => n, fun | 15 => 0 | 16 => 1 | 17 => 2 | 18 => 4 | 19 => 5 | n => n⟩
theorem lays172 : Go.Proofs.LaysC.n172 Tryz.prog lays172_ren where
  mixed := by kernel_rfl
  f129 := Tryz.func176.trans (congrArg some (by kernel_rfl))
  f171 := Tryz.func28.trans (congrArg some (by kernel_rfl))
  f172 := Tryz.func27.trans (congrArg some (by kernel_rfl))
  f205 := Tryz.func114.trans (congrArg some (by kernel_rfl))
  f243 := Tryz.func52.trans (congrArg some (by kernel_rfl))
  f244 := Tryz.func50.trans (congrArg some (by kernel_rfl))
  f245 := Tryz.func51.trans (congrArg some (by kernel_rfl))
  f246 := Tryz.func84.trans (congrArg some (by kernel_rfl))
  f247 := Tryz.func79.trans (congrArg some (by kernel_rfl))
  f279 := Tryz.func80.trans (congrArg some (by kernel_rfl))
  f280 := Tryz.func81.trans (congrArg some (by kernel_rfl))
  f281 := Tryz.func82.trans (congrArg some (by kernel_rfl))
  f282 := Tryz.func83.trans (congrArg some (by kernel_rfl))
  f283 := Tryz.func115.trans (congrArg some (by kernel_rfl))
  f284 := Tryz.func116.trans (congrArg some (by kernel_rfl))
  f285 := Tryz.func117.trans (congrArg some (by kernel_rfl))
  f286 := Tryz.func118.trans (congrArg some (by kernel_rfl))
  f287 := Tryz.func112.trans (congrArg some (by kernel_rfl))
  f316 := Tryz.func113.trans (congrArg some (by kernel_rfl))
  f317 := Tryz.func175.trans (congrArg some (by kernel_rfl))
  f318 := Tryz.func177.trans (congrArg some (by kernel_rfl))
  f319 := Tryz.func178.trans (congrArg some (by kernel_rfl))
  f320 := Tryz.func179.trans (congrArg some (by kernel_rfl))
  f321 := Tryz.func173.trans (congrArg some (by kernel_rfl))
  f322 := Tryz.func174.trans (congrArg some (by kernel_rfl))
  f337 := Tryz.func247.trans (congrArg some (by kernel_rfl))
  f338 := Tryz.func248.trans (congrArg some (by kernel_rfl))
  t0 := Tryz.underlying0
  a0 := Tryz.isAgg0
  z0 := Tryz.sizeOf0
  v0 := Tryz.zeroValue0
  t2 := Tryz.underlying2
  a2 := Tryz.isAgg2
  z2 := Tryz.sizeOf2
  v2 := Tryz.zeroValue2
  t3 := Tryz.underlying3
  a3 := Tryz.isAgg3
  z3 := Tryz.sizeOf3
  v3 := Tryz.zeroValue3
  t4 := Tryz.underlying4
  a4 := Tryz.isAgg4
  z4 := Tryz.sizeOf4
  v4 := Tryz.zeroValue4
  t5 := Tryz.underlying5
  a5 := Tryz.isAgg5
  z5 := Tryz.sizeOf5
  v5 := Tryz.zeroValue5
  t9 := Tryz.underlying9
  a9 := Tryz.isAgg9
  z9 := Tryz.sizeOf9
  v9 := Tryz.zeroValue9
  t20 := Tryz.underlying20
  a20 := Tryz.isAgg20
  z20 := Tryz.sizeOf20
  v20 := Tryz.zeroValue20
  t21 := Tryz.underlying21
  a21 := Tryz.isAgg21
  z21 := Tryz.sizeOf21
  v21 := Tryz.zeroValue21
  t37 := Tryz.underlying102
  a37 := Tryz.isAgg102
  z37 := Tryz.sizeOf102
  v37 := Tryz.zeroValue102
  t46 := Tryz.underlying138
  a46 := Tryz.isAgg138
  z46 := Tryz.sizeOf138
  v46 := Tryz.zeroValue138
  t51 := Tryz.underlying183
  a51 := Tryz.isAgg183
  z51 := Tryz.sizeOf183
  v51 := Tryz.zeroValue183
  t53 := Tryz.underlying135
  a53 := Tryz.isAgg135
  z53 := Tryz.sizeOf135
  v53 := Tryz.zeroValue135
  t75 := Tryz.underlying53
  a75 := Tryz.isAgg53
  z75 := Tryz.sizeOf53
  v75 := Tryz.zeroValue53
  t76 := Tryz.underlying54
  a76 := Tryz.isAgg54
  z76 := Tryz.sizeOf54
  v76 := Tryz.zeroValue54
  t85 := Tryz.underlying103
  a85 := Tryz.isAgg103
  z85 := Tryz.sizeOf103
  v85 := Tryz.zeroValue103
  t127 := Tryz.underlying176
  a127 := Tryz.isAgg176
  z127 := Tryz.sizeOf176
  v127 := Tryz.zeroValue176
  t143 := Tryz.underlying177
  a143 := Tryz.isAgg177
  z143 := Tryz.sizeOf177
  v143 := Tryz.zeroValue177
  t145 := Tryz.underlying179
  a145 := Tryz.isAgg179
  z145 := Tryz.sizeOf179
  v145 := Tryz.zeroValue179
  t167 := Tryz.underlying101
  a167 := Tryz.isAgg101
  z167 := Tryz.sizeOf101
  v167 := Tryz.zeroValue101
  t168 := Tryz.underlying105
  a168 := Tryz.isAgg105
  z168 := Tryz.sizeOf105
  v168 := Tryz.zeroValue105
  t171 := Tryz.underlying142
  a171 := Tryz.isAgg142
  z171 := Tryz.sizeOf142
  v171 := Tryz.zeroValue142
  t173 := Tryz.underlying145
  a173 := Tryz.isAgg145
  z173 := Tryz.sizeOf145
  v173 := Tryz.zeroValue145
  t175 := Tryz.underlying136
  a175 := Tryz.isAgg136
  z175 := Tryz.sizeOf136
  v175 := Tryz.zeroValue136
  t210 := Tryz.underlying140
  a210 := Tryz.isAgg140
  z210 := Tryz.sizeOf140
  v210 := Tryz.zeroValue140
  t212 := Tryz.underlying182
  a212 := Tryz.isAgg182
  z212 := Tryz.sizeOf182
  v212 := Tryz.zeroValue182
  t213 := Tryz.underlying184
  a213 := Tryz.isAgg184
  z213 := Tryz.sizeOf184
  t232 := Tryz.underlying240
  a232 := Tryz.isAgg240
  z232 := Tryz.sizeOf240
  v232 := Tryz.zeroValue240
  t233 := Tryz.underlying241
  a233 := Tryz.isAgg241
  z233 := Tryz.sizeOf241
  v233 := Tryz.zeroValue241
  g15 := by kernel_rfl
  g16 := by kernel_rfl
  g17 := by kernel_rfl
  g18 := by kernel_rfl
  g19 := by kernel_rfl
  t80 := Tryz.underlying201
  a80 := Tryz.isAgg201
  z80 := Tryz.sizeOf201
  v80 := Tryz.zeroValue201
  i0 := by kernel_rfl
  i2 := by kernel_rfl
  i3 := by kernel_rfl
  i4 := by kernel_rfl
  i5 := by kernel_rfl
  i9 := by kernel_rfl
  i20 := by kernel_rfl
  i21 := by kernel_rfl
  i37 := by kernel_rfl
  i46 := by kernel_rfl
  i51 := by kernel_rfl
  i53 := by kernel_rfl
  i75 := by kernel_rfl
  i76 := by kernel_rfl
  i80 := by kernel_rfl
  i85 := by kernel_rfl
  i127 := by kernel_rfl
  i143 := by kernel_rfl
  i145 := by kernel_rfl
  i167 := by kernel_rfl
  i168 := by kernel_rfl
  i171 := by kernel_rfl
  i173 := by kernel_rfl
  i175 := by kernel_rfl
  i210 := by kernel_rfl
  i212 := by kernel_rfl
  i232 := by kernel_rfl
  i233 := by kernel_rfl
  m15 := by kernel_rfl
  m16 := by kernel_rfl
  m17 := by kernel_rfl
  m18 := by kernel_rfl
  m19 := by kernel_rfl
  c0 := by kernel_rfl
  c2 := by kernel_rfl
  c3 := by kernel_rfl
  c4 := by kernel_rfl
  c5 := by kernel_rfl
  c9 := by kernel_rfl
  c20 := by kernel_rfl
  c21 := by kernel_rfl
  c37 := by kernel_rfl
  c46 := by kernel_rfl
  c51 := by kernel_rfl
  c53 := by kernel_rfl
  c75 := by kernel_rfl
  c76 := by kernel_rfl
  c80 := by kernel_rfl
  c85 := by kernel_rfl
  c127 := by kernel_rfl
  c143 := by kernel_rfl
  c145 := by kernel_rfl
  c167 := by kernel_rfl
  c168 := by kernel_rfl
  c171 := by kernel_rfl
  c173 := by kernel_rfl
  c175 := by kernel_rfl
  c210 := by kernel_rfl
  c212 := by kernel_rfl
  c213 := by kernel_rfl
  c232 := by kernel_rfl
  c233 := by kernel_rfl
theorem sim_below {ρ : Place} {w w' : World} (sm : Sim ρ ⟨0, []⟩ w) (h : Below w.heap.size w w') : Sim ρ ⟨0, []⟩ w' where
  base := fun k hk => Nat.lt_of_lt_of_le (sm.base k hk) h.size
  below := fun k hk => (h.block k (sm.base k hk)).trans (sm.below k hk)
  os := h.os.trans sm.os
  tape := h.tape.trans sm.tape
  output := h.output.trans sm.output
  dom := sm.dom
  nodup := sm.nodup
  live := fun e he => by simp [Heap.ents] at he
  inj := fun e e' he => by simp [Heap.ents] at he
theorem step_below {ρ : Place} {w w' : World} (h : Below w.heap.size w w') : Step ρ ⟨0, []⟩ w ρ ⟨0, []⟩ w' where
  le := Place.le_refl ρ
  size := h.size
  keeps := fun k hk _ => h.block k hk
  rows := fun e' he' => by simp [Heap.ents] at he'
  num := Nat.le_refl _
  low := fun _ _ => rfl
  cold := fun k hk => .inl hk
/-- what Atoi answers -/
def atoiA (s : Str) : AV := match Lib.atoiAll s with
  | .ok v => .tup [.int .i64 v, .nilI]
  | .range => .tup [.int .i64 (Lib.atoiSat s), .iface 105 .undef]
  | _ => .tup [.int .i64 0, .iface 105 .undef]
theorem vr_pair {ρ : Place} {a b : AV} {x y : Value} (h1 : VR ρ a x) (h2 : VR ρ b y) : VR ρ (.tup [a, b]) (.tuple #[x, y]) := by
  refine .tup _ _ rfl fun i h h' => ?_
  match i, h with
  | 0, _ => exact h1
  | 1, _ => exact h2
theorem c27 {T : List (Entry Tryz.prog)} (s : Str) (hl : s.length ≤ 1000000) : CallAt (ctx T) 27 [.str s] ⟨0, []⟩ (atoiA s) ⟨0, []⟩ := by
  intro ρ w xs sm hx
  match xs, hx with
  | [x], hx =>
    have h0 := hx.2 0 (by simp) (by simp)
    simp only [List.getElem_cons_zero] at h0
    cases h0
    have hrun : (callFunc 27 #[.string ⟨s.toArray⟩]).run (ctx T).P w = .ok (.enter 27 #[.string ⟨s.toArray⟩]) w := by
      have hf : (ctx T).P.funcs[27]? = some Tryz.f27 := Tryz.func27
      have hn : ¬ Tryz.f27.name = "runtime.NumGoroutine" := by decide +kernel
      simp [callFunc, hf, hn, Tryz.f27]
    refine .inr ⟨27, _, hrun, callsIn_wide.2 ?_⟩
    have cell : ∀ g, g ∈ ivars → ∃ v, w.cell? ⟨g, 0, none⟩ = some v ∧ isIf v := fun g hg => by
      obtain ⟨hB, v, hv, hi⟩ := ρ.gi g hg
      exact ⟨v, by rw [World.cell?, sm.below g hB]; exact hv, hi⟩
    have hsz : (⟨s.toArray⟩ : ByteArray).size = s.length := by show s.toArray.size = _; simp
    have hd : (⟨s.toArray⟩ : ByteArray).data.toList = s := by simp
    unfold atoiA
    cases hv : Lib.atoiAll s
    case ok v =>
      have := Go.Proofs.Any.strconv_Atoi_ok lays172 ⟨s.toArray⟩ (by rw [hsz]; omega) v (by rw [hd]; exact hv) w
      refine this.mono ?_
      rintro e w' ⟨rfl, hw⟩
      have hb : Below w.heap.size w w' := by
        rcases hw with rfl | ⟨t, rfl⟩
        · exact Below.refl _ _
        · exact Lib.bytesWorld_below _ _ _
      exact ⟨_, ρ, rfl, vr_pair (.int _ _) .nilI, sim_below sm hb, step_below hb⟩
    case range =>
      obtain ⟨ev, h1, h2⟩ := cell 1 (by simp [ivars])
      have := Go.Proofs.Any.strconv_Atoi_range lays172 ⟨s.toArray⟩ (by rw [hsz]; omega) (by rw [hd]; exact hv) ev w h1 h2
      refine this.mono ?_
      rintro e w' ⟨N, rfl, _, _, hb⟩
      rw [hd]
      exact ⟨_, ρ, rfl, vr_pair (.int _ _) (.iface _ _ _ (.undef _)), sim_below sm hb, step_below hb⟩
    · obtain ⟨ev, h1, h2⟩ := cell 0 (by simp [ivars])
      have := Go.Proofs.Any.strconv_Atoi_syntax lays172 ⟨s.toArray⟩ (by rw [hsz]; omega) (by rw [hd]; exact hv) ev w h1 h2
      refine this.mono ?_
      rintro e w' ⟨N, rfl, _, _, hb⟩
      exact ⟨_, ρ, rfl, vr_pair (.int _ _) (.iface _ _ _ (.undef _)), sim_below sm hb, step_below hb⟩
theorem atoiA_or (s : Str) : (∃ v, atoiA s = .tup [.int .i64 v, .nilI]) ∨ ∃ v, atoiA s = .tup [.int .i64 v, .iface 105 .undef] := by
  unfold atoiA
  split
  · exact .inl ⟨_, rfl⟩
  · exact .inr ⟨_, rfl⟩
  · exact .inr ⟨_, rfl⟩
theorem inj_str1 (x y : Str) (h : [AV.str x] = [AV.str y]) : x = y := by simpa using h
noncomputable def e27 : Entry Tryz.prog := mkE 27 [[]] (fun x : Str => [.str x]) (fun x => x.length ≤ 1000000) atoiA fun x h => c27 (T := []) x h
end Go.Proofs.YtmadcegoionpjaaGreatDoor
