/- HasPrefix, Fold, Closes, by the program and by the reference. No condition. -/
import Derived.Test.YtpkplilgjdbhhaaR3
namespace Go.Proofs.Ytpkplilgjdbhhaa
set_option linter.unusedSimpArgs false
set_option linter.unusedVariables false
open Go Go.RowKit
set_option maxRecDepth 100000

/-- a text begins so -/
def preB (s t : Str) : Bool := decide (t.length ≤ s.length) && decide (s.take t.length = t)
theorem c72 {T : List (Entry Try.prog)} (s t : Str) : CallAt (ctx T) 72 [.str s, .str t] ⟨0, []⟩ (.bool (preB s t)) ⟨0, []⟩ := by
  refine callAt_body (fn := Try.f72) (s0 := ⟨[0, 1, 4], [.str s, .str t, .undef], [], 18, ⟨0, [[]]⟩⟩) Try.func72 rfl rfl rfl ?_
  repeat refine wps_seq ?_
  refine wps_region callOK ?_
  simp [ofV, ofV1, mkC_P, writeVar, writeCells, readCells, allSingle, AV.single, getFs, getF, setFs, setF, Heap.get, Heap.set, Heap.new, Heap.kill, killF, pushF, Heap.ready, refs, sliceParts, fillA, replL]
  by_cases h : t.length ≤ s.length
  · repeat refine wps_seq ?_
    refine wps_region callOK ?_
    simp [ofV, ofV1, mkC_P, writeVar, writeCells, readCells, allSingle, AV.single, getFs, getF, setFs, setF, Heap.get, Heap.set, Heap.new, Heap.kill, killF, pushF, Heap.ready, refs, sliceParts, fillA, replL, h, slStrTo h]
    repeat refine wps_seq ?_
    refine wps_ret ?_
    simp [retVal, Try.f72, oneOr]
    exact ends_pure rfl (by simp [preB, h])
  · repeat refine wps_seq ?_
    refine wps_region callOK ?_
    simp [ofV, ofV1, mkC_P, writeVar, writeCells, readCells, allSingle, AV.single, getFs, getF, setFs, setF, Heap.get, Heap.set, Heap.new, Heap.kill, killF, pushF, Heap.ready, refs, sliceParts, fillA, replL, h]
    repeat refine wps_seq ?_
    refine wps_ret ?_
    simp [retVal, Try.f72, oneOr]
    exact ends_pure rfl (by simp [preB, h])
theorem inj_str2 (x y : Str × Str) (h : [AV.str x.1, AV.str x.2] = [AV.str y.1, AV.str y.2]) : x = y := by
  simp at h; exact Prod.ext h.1 h.2
noncomputable def e72 : Entry Try.prog := mkE 72 [[], []] (fun x : Str × Str => [.str x.1, .str x.2]) (fun _ => True) (fun x => .bool (preB x.1 x.2)) fun x _ => c72 (T := []) x.1 x.2
theorem k72 {T : List (Entry Try.prog)} (hT : findE 72 T = some e72.g) (s t : Str) (H : Heap) : callL (ctx T) 72 [.str s, .str t] H = some (.bool (preB s t), H) :=
  mkE_scalar hT inj_str2 (s, t) trivial rfl (by simp)
theorem c46 {T : List (Entry Try.prog)} (hT : findE 72 T = some e72.g) (s t : Str) : CallAt (ctx T) 46 [.str s, .str t] ⟨0, []⟩ (.bool (preB s t)) ⟨0, []⟩ := by
  refine callAt_body (fn := Try.f46) (s0 := ⟨[0, 1, 4], [.str s, .str t, .undef], [], 8, ⟨0, [[]]⟩⟩) Try.func46 rfl rfl rfl ?_
  repeat refine wps_seq ?_
  refine wps_region callOK ?_
  simp [ofV, ofV1, mkC_P, writeVar, writeCells, readCells, allSingle, AV.single, getFs, getF, setFs, setF, Heap.get, Heap.set, Heap.new, Heap.kill, killF, pushF, Heap.ready, refs, sliceParts, fillA, replL]
  repeat refine wps_seq ?_
  refine wps_region callOK ?_
  simp [ofV, ofV1, mkC_P, writeVar, writeCells, readCells, allSingle, AV.single, getFs, getF, setFs, setF, Heap.get, Heap.set, Heap.new, Heap.kill, killF, pushF, Heap.ready, refs, sliceParts, fillA, replL, k72 hT]
  repeat refine wps_seq ?_
  refine wps_ret ?_
  simp [retVal, Try.f46, oneOr]
  exact ends_pure rfl rfl
noncomputable def e46 : Entry Try.prog := mkE 46 [[], []] (fun x : Str × Str => [.str x.1, .str x.2]) (fun _ => True) (fun x => .bool (preB x.1 x.2)) fun x _ => c46 (T := [e72]) rfl x.1 x.2
theorem k46 {T : List (Entry Try.prog)} (hT : findE 46 T = some e46.g) (s t : Str) (H : Heap) : callL (ctx T) 46 [.str s, .str t] H = some (.bool (preB s t), H) :=
  mkE_scalar hT inj_str2 (s, t) trivial rfl (by simp)
theorem c48 {T : List (Entry Try.prog)} (s t : Str) : CallAt (ctx T) 48 [.str s, .str t] ⟨0, []⟩ (.bool (preB s t)) ⟨0, []⟩ := by
  refine callAt_body (fn := Try.f48) (s0 := ⟨[0, 1, 4], [.str s, .str t, .undef], [], 18, ⟨0, [[]]⟩⟩) Try.func48 rfl rfl rfl ?_
  repeat refine wps_seq ?_
  refine wps_region callOK ?_
  simp [ofV, ofV1, mkC_P, writeVar, writeCells, readCells, allSingle, AV.single, getFs, getF, setFs, setF, Heap.get, Heap.set, Heap.new, Heap.kill, killF, pushF, Heap.ready, refs, sliceParts, fillA, replL]
  by_cases h : t.length ≤ s.length
  · repeat refine wps_seq ?_
    refine wps_region callOK ?_
    simp [ofV, ofV1, mkC_P, writeVar, writeCells, readCells, allSingle, AV.single, getFs, getF, setFs, setF, Heap.get, Heap.set, Heap.new, Heap.kill, killF, pushF, Heap.ready, refs, sliceParts, fillA, replL, h, slStrTo h]
    repeat refine wps_seq ?_
    refine wps_ret ?_
    simp [retVal, Try.f48, oneOr]
    exact ends_pure rfl (by simp [preB, h])
  · repeat refine wps_seq ?_
    refine wps_region callOK ?_
    simp [ofV, ofV1, mkC_P, writeVar, writeCells, readCells, allSingle, AV.single, getFs, getF, setFs, setF, Heap.get, Heap.set, Heap.new, Heap.kill, killF, pushF, Heap.ready, refs, sliceParts, fillA, replL, h]
    repeat refine wps_seq ?_
    refine wps_ret ?_
    simp [retVal, Try.f48, oneOr]
    exact ends_pure rfl (by simp [preB, h])
noncomputable def e48 : Entry Try.prog := mkE 48 [[], []] (fun x : Str × Str => [.str x.1, .str x.2]) (fun _ => True) (fun x => .bool (preB x.1 x.2)) fun x _ => c48 (T := []) x.1 x.2
theorem k48 {T : List (Entry Try.prog)} (hT : findE 48 T = some e48.g) (s t : Str) (H : Heap) : callL (ctx T) 48 [.str s, .str t] H = some (.bool (preB s t), H) :=
  mkE_scalar hT inj_str2 (s, t) trivial rfl (by simp)

/-- the same but for capitals -/
def foldB (s t : Str) : Bool := decide (lower s = lower t)
theorem c28 {T : List (Entry Try.prog)} (hT : findE 50 T = some e50.g) (s t : Str) (h1 : s.length ≤ 1000000) (h2 : t.length ≤ 1000000) : CallAt (ctx T) 28 [.str s, .str t] ⟨0, []⟩ (.bool (foldB s t)) ⟨0, []⟩ := by
  refine callAt_body (fn := Try.f28) (s0 := ⟨[0, 1, 4], [.str s, .str t, .undef], [], 10, ⟨0, [[]]⟩⟩) Try.func28 rfl rfl rfl ?_
  repeat refine wps_seq ?_
  refine wps_region callOK ?_
  simp [ofV, ofV1, mkC_P, writeVar, writeCells, readCells, allSingle, AV.single, getFs, getF, setFs, setF, Heap.get, Heap.set, Heap.new, Heap.kill, killF, pushF, Heap.ready, refs, sliceParts, fillA, replL]
  repeat refine wps_seq ?_
  refine wps_region callOK ?_
  simp [ofV, ofV1, mkC_P, writeVar, writeCells, readCells, allSingle, AV.single, getFs, getF, setFs, setF, Heap.get, Heap.set, Heap.new, Heap.kill, killF, pushF, Heap.ready, refs, sliceParts, fillA, replL, k50 hT h1, k50 hT h2]
  repeat refine wps_seq ?_
  refine wps_ret ?_
  simp [retVal, Try.f28, oneOr]
  exact ends_pure rfl rfl
theorem c70 {T : List (Entry Try.prog)} (hT : findE 88 T = some e88.g) (s t : Str) (h1 : s.length ≤ 1000000) (h2 : t.length ≤ 1000000) : CallAt (ctx T) 70 [.str s, .str t] ⟨0, []⟩ (.bool (foldB s t)) ⟨0, []⟩ := by
  refine callAt_body (fn := Try.f70) (s0 := ⟨[0, 1, 4], [.str s, .str t, .undef], [], 17, ⟨0, [[]]⟩⟩) Try.func70 rfl rfl rfl ?_
  repeat refine wps_seq ?_
  refine wps_region callOK ?_
  simp [ofV, ofV1, mkC_P, writeVar, writeCells, readCells, allSingle, AV.single, getFs, getF, setFs, setF, Heap.get, Heap.set, Heap.new, Heap.kill, killF, pushF, Heap.ready, refs, sliceParts, fillA, replL]
  by_cases h : (s.length : Int) = t.length
  · repeat refine wps_seq ?_
    refine wps_region callOK ?_
    simp [ofV, ofV1, mkC_P, writeVar, writeCells, readCells, allSingle, AV.single, getFs, getF, setFs, setF, Heap.get, Heap.set, Heap.new, Heap.kill, killF, pushF, Heap.ready, refs, sliceParts, fillA, replL, h, k88 hT h1, k88 hT h2]
    repeat refine wps_seq ?_
    refine wps_ret ?_
    simp [retVal, Try.f70, oneOr]
    exact ends_pure rfl rfl
  · repeat refine wps_seq ?_
    refine wps_region callOK ?_
    simp [ofV, ofV1, mkC_P, writeVar, writeCells, readCells, allSingle, AV.single, getFs, getF, setFs, setF, Heap.get, Heap.set, Heap.new, Heap.kill, killF, pushF, Heap.ready, refs, sliceParts, fillA, replL, h]
    repeat refine wps_seq ?_
    refine wps_ret ?_
    simp [retVal, Try.f70, oneOr]
    refine ends_pure rfl ?_
    have : ¬ lower s = lower t := fun e => h (by have := congrArg List.length e; simp [lower] at this; omega)
    simp [foldB, this]
noncomputable def e28 : Entry Try.prog := mkE 28 [[], []] (fun x : Str × Str => [.str x.1, .str x.2]) (fun x => x.1.length ≤ 1000000 ∧ x.2.length ≤ 1000000) (fun x => .bool (foldB x.1 x.2)) fun x h => c28 (T := [e50]) rfl x.1 x.2 h.1 h.2
theorem k28 {T : List (Entry Try.prog)} (hT : findE 28 T = some e28.g) {s t : Str} (h1 : s.length ≤ 1000000) (h2 : t.length ≤ 1000000) (H : Heap) : callL (ctx T) 28 [.str s, .str t] H = some (.bool (foldB s t), H) :=
  mkE_scalar hT inj_str2 (s, t) ⟨h1, h2⟩ rfl (by simp)
noncomputable def e70 : Entry Try.prog := mkE 70 [[], []] (fun x : Str × Str => [.str x.1, .str x.2]) (fun x => x.1.length ≤ 1000000 ∧ x.2.length ≤ 1000000) (fun x => .bool (foldB x.1 x.2)) fun x h => c70 (T := [e88]) rfl x.1 x.2 h.1 h.2
theorem k70 {T : List (Entry Try.prog)} (hT : findE 70 T = some e70.g) {s t : Str} (h1 : s.length ≤ 1000000) (h2 : t.length ≤ 1000000) (H : Heap) : callL (ctx T) 70 [.str s, .str t] H = some (.bool (foldB s t), H) :=
  mkE_scalar hT inj_str2 (s, t) ⟨h1, h2⟩ rfl (by simp)

/-- what may stand behind a tag's name -/
def tl (c : UInt8) : Bool := sp c || (decide ((c.toNat : Int) = 47) || decide ((c.toNat : Int) = 62))
/-- an element's end tag stands there -/
def closesB (s nm : Str) : Bool := if nm = [] then false else if s.length ≤ nm.length + 2 then false else if preB s [60, 47] = false then false else if foldB ((s.take (nm.length + 2)).drop 2) nm = false then false else tl (s.getD (nm.length + 2) 0)
theorem c45 {T : List (Entry Try.prog)} (h46 : findE 46 T = some e46.g) (h70 : findE 70 T = some e70.g) (h71 : findE 71 T = some e71.g) (s nm : Str) (h1 : s.length ≤ 1000000) (h2 : nm.length ≤ 1000000) : CallAt (ctx T) 45 [.str s, .str nm] ⟨0, []⟩ (.bool (closesB s nm)) ⟨0, []⟩ := by
  refine callAt_body (fn := Try.f45) (s0 := ⟨[0, 1, 4, 5], [.str s, .str nm, .undef, .undef], [], 46, ⟨0, [[]]⟩⟩) Try.func45 rfl rfl rfl ?_
  obtain ⟨m, hm⟩ : ∃ m, m = nm.length + 2 := ⟨_, rfl⟩
  have a2 : wr .i64 ((nm.length : Int) + 2) = some (m : Int) := by rw [wr_small (by omega) (by omega)]; simp [hm]
  repeat refine wps_seq ?_
  refine wps_region callOK ?_
  simp [ofV, ofV1, mkC_P, writeVar, writeCells, readCells, allSingle, AV.single, getFs, getF, setFs, setF, Heap.get, Heap.set, Heap.new, Heap.kill, killF, pushF, Heap.ready, refs, sliceParts, fillA, replL]
  repeat refine wps_seq ?_
  refine wps_region callOK ?_
  simp [ofV, ofV1, mkC_P, writeVar, writeCells, readCells, allSingle, AV.single, getFs, getF, setFs, setF, Heap.get, Heap.set, Heap.new, Heap.kill, killF, pushF, Heap.ready, refs, sliceParts, fillA, replL, a2]
  by_cases e1 : nm = []
  · repeat refine wps_seq ?_
    refine wps_region callOK ?_
    simp [ofV, ofV1, mkC_P, writeVar, writeCells, readCells, allSingle, AV.single, getFs, getF, setFs, setF, Heap.get, Heap.set, Heap.new, Heap.kill, killF, pushF, Heap.ready, refs, sliceParts, fillA, replL, e1]
    repeat refine wps_seq ?_
    refine wps_cond (t := true) rfl (fun _ => ?_) fun h => by cases h
    repeat refine wps_seq ?_
    refine wps_region callOK ?_
    simp [ofV, ofV1, mkC_P, writeVar, writeCells, readCells, allSingle, AV.single, getFs, getF, setFs, setF, Heap.get, Heap.set, Heap.new, Heap.kill, killF, pushF, Heap.ready, refs, sliceParts, fillA, replL]
    repeat refine wps_seq ?_
    refine wps_ret ?_
    simp [retVal, Try.f45, oneOr]
    exact ends_pure rfl (by simp [closesB, e1])
  by_cases e2 : s.length ≤ m
  · repeat refine wps_seq ?_
    refine wps_region callOK ?_
    simp [ofV, ofV1, mkC_P, writeVar, writeCells, readCells, allSingle, AV.single, getFs, getF, setFs, setF, Heap.get, Heap.set, Heap.new, Heap.kill, killF, pushF, Heap.ready, refs, sliceParts, fillA, replL, e1, e2]
    repeat refine wps_seq ?_
    refine wps_cond (t := true) rfl (fun _ => ?_) fun h => by cases h
    repeat refine wps_seq ?_
    refine wps_region callOK ?_
    simp [ofV, ofV1, mkC_P, writeVar, writeCells, readCells, allSingle, AV.single, getFs, getF, setFs, setF, Heap.get, Heap.set, Heap.new, Heap.kill, killF, pushF, Heap.ready, refs, sliceParts, fillA, replL]
    repeat refine wps_seq ?_
    refine wps_ret ?_
    simp [retVal, Try.f45, oneOr]
    exact ends_pure rfl (by rw [hm] at e2; simp [closesB, e1, e2])
  by_cases e3 : preB s [60, 47] = false
  · repeat refine wps_seq ?_
    refine wps_region callOK ?_
    simp [ofV, ofV1, mkC_P, writeVar, writeCells, readCells, allSingle, AV.single, getFs, getF, setFs, setF, Heap.get, Heap.set, Heap.new, Heap.kill, killF, pushF, Heap.ready, refs, sliceParts, fillA, replL, e1, e2, k46 h46, e3]
    repeat refine wps_seq ?_
    refine wps_cond (t := true) rfl (fun _ => ?_) fun h => by cases h
    repeat refine wps_seq ?_
    refine wps_region callOK ?_
    simp [ofV, ofV1, mkC_P, writeVar, writeCells, readCells, allSingle, AV.single, getFs, getF, setFs, setF, Heap.get, Heap.set, Heap.new, Heap.kill, killF, pushF, Heap.ready, refs, sliceParts, fillA, replL]
    repeat refine wps_seq ?_
    refine wps_ret ?_
    simp [retVal, Try.f45, oneOr]
    exact ends_pure rfl (by rw [hm] at e2; simp [closesB, e1, e2, e3])
  simp only [Bool.not_eq_false] at e3
  have hs : sliceA Try.prog ⟨0, [[]]⟩ 9 (.str s) (some (.int .i64 2)) (some (.int .i64 (m : Int))) none = some (.str ((s.take m).drop 2)) := slStrOf (i := 2) (by omega) (by omega)
  have hl : ((s.take m).drop 2).length ≤ 1000000 := by simp; omega
  by_cases e4 : foldB ((s.take m).drop 2) nm = false
  · repeat refine wps_seq ?_
    refine wps_region callOK ?_
    simp [ofV, ofV1, mkC_P, writeVar, writeCells, readCells, allSingle, AV.single, getFs, getF, setFs, setF, Heap.get, Heap.set, Heap.new, Heap.kill, killF, pushF, Heap.ready, refs, sliceParts, fillA, replL, e1, e2, k46 h46, e3, hs, k70 h70 hl h2, e4]
    repeat refine wps_seq ?_
    refine wps_cond (t := true) rfl (fun _ => ?_) fun h => by cases h
    repeat refine wps_seq ?_
    refine wps_region callOK ?_
    simp [ofV, ofV1, mkC_P, writeVar, writeCells, readCells, allSingle, AV.single, getFs, getF, setFs, setF, Heap.get, Heap.set, Heap.new, Heap.kill, killF, pushF, Heap.ready, refs, sliceParts, fillA, replL]
    repeat refine wps_seq ?_
    refine wps_ret ?_
    simp [retVal, Try.f45, oneOr]
    exact ends_pure rfl (by rw [hm] at e2 e4; simp [closesB, e1, e2, e3, e4])
  simp only [Bool.not_eq_false] at e4
  repeat refine wps_seq ?_
  refine wps_region callOK ?_
  simp [ofV, ofV1, mkC_P, writeVar, writeCells, readCells, allSingle, AV.single, getFs, getF, setFs, setF, Heap.get, Heap.set, Heap.new, Heap.kill, killF, pushF, Heap.ready, refs, sliceParts, fillA, replL, e1, e2, k46 h46, e3, hs, k70 h70 hl h2, e4]
  repeat refine wps_seq ?_
  refine wps_cond (t := false) rfl (fun h => by cases h) fun _ => ?_
  repeat refine wps_seq ?_
  refine wps_skip ?_
  simp
  have hlt : m < s.length := by omega
  have hv : closesB s nm = tl s[m] := by
    subst hm
    simp [closesB, e1, e2, e3, e4, List.getD_eq_getElem?_getD, hlt]
  by_cases f1 : sp s[m] = true
  · repeat refine wps_seq ?_
    refine wps_region callOK ?_
    simp [ofV, ofV1, mkC_P, writeVar, writeCells, readCells, allSingle, AV.single, getFs, getF, setFs, setF, Heap.get, Heap.set, Heap.new, Heap.kill, killF, pushF, Heap.ready, refs, sliceParts, fillA, replL, ixStr hlt, k71 h71, f1]
    repeat refine wps_seq ?_
    refine wps_ret ?_
    simp [retVal, Try.f45, oneOr]
    exact ends_pure rfl (by simp [hv, tl, f1])
  · simp only [Bool.not_eq_true] at f1
    by_cases f2 : (s[m].toNat : Int) = 47
    · have f3 := decide_eq_true f2
      repeat refine wps_seq ?_
      refine wps_region callOK ?_
      simp [ofV, ofV1, mkC_P, writeVar, writeCells, readCells, allSingle, AV.single, getFs, getF, setFs, setF, Heap.get, Heap.set, Heap.new, Heap.kill, killF, pushF, Heap.ready, refs, sliceParts, fillA, replL, ixStr hlt, k71 h71, f1, f3]
      repeat refine wps_seq ?_
      refine wps_ret ?_
      simp [retVal, Try.f45, oneOr]
      exact ends_pure rfl (by simp [hv, tl, f1, f2])
    · repeat refine wps_seq ?_
      refine wps_region callOK ?_
      simp [ofV, ofV1, mkC_P, writeVar, writeCells, readCells, allSingle, AV.single, getFs, getF, setFs, setF, Heap.get, Heap.set, Heap.new, Heap.kill, killF, pushF, Heap.ready, refs, sliceParts, fillA, replL, ixStr hlt, k71 h71, f1, f2]
      repeat refine wps_seq ?_
      refine wps_ret ?_
      simp [retVal, Try.f45, oneOr]
      exact ends_pure rfl (by simp [hv, tl, f1, f2])
theorem pre2 {s : Str} (h : 2 < s.length) : preB s [60, 47] = (decide ((s[0].toNat : Int) = 60) && decide ((s[1].toNat : Int) = 47)) := by
  match s, h with
  | a :: b :: r, _ =>
    have e : ∀ (x : UInt8) (k : Nat) (hk : k < 256), ((x.toNat : Int) = (k : Int)) ↔ x = UInt8.ofNat k := fun x k hk => by
      constructor
      · intro h; apply UInt8.toNat_inj.1; rw [UInt8.toNat_ofNat', Nat.mod_eq_of_lt hk]; omega
      · intro h; rw [h, UInt8.toNat_ofNat', Nat.mod_eq_of_lt hk]
    have e1 := e a 60 (by omega)
    have e2 := e b 47 (by omega)
    simp only [preB, List.getElem_cons_zero, List.getElem_cons_succ]
    have g1 : decide ((a.toNat : Int) = 60) = decide (a = 60) := decide_eq_decide.2 e1
    have g2 : decide ((b.toNat : Int) = 47) = decide (b = 47) := decide_eq_decide.2 e2
    rw [g1, g2]
    by_cases q1 : a = 60 <;> by_cases q2 : b = 47 <;> simp [q1, q2]
theorem c11 {T : List (Entry Try.prog)} (h28 : findE 28 T = some e28.g) (h29 : findE 29 T = some e29.g) (s nm : Str) (h1 : s.length ≤ 1000000) (h2 : nm.length ≤ 1000000) : CallAt (ctx T) 11 [.str s, .str nm] ⟨0, []⟩ (.bool (closesB s nm)) ⟨0, []⟩ := by
  refine callAt_body (fn := Try.f11) (s0 := ⟨[0, 1, 4, 5], [.str s, .str nm, .undef, .undef], [], 51, ⟨0, [[]]⟩⟩) Try.func11 rfl rfl rfl ?_
  obtain ⟨m, hm⟩ : ∃ m, m = nm.length + 2 := ⟨_, rfl⟩
  have a2 : wr .i64 ((nm.length : Int) + 2) = some (m : Int) := by rw [wr_small (by omega) (by omega)]; simp [hm]
  repeat refine wps_seq ?_
  refine wps_region callOK ?_
  simp [ofV, ofV1, mkC_P, writeVar, writeCells, readCells, allSingle, AV.single, getFs, getF, setFs, setF, Heap.get, Heap.set, Heap.new, Heap.kill, killF, pushF, Heap.ready, refs, sliceParts, fillA, replL]
  repeat refine wps_seq ?_
  refine wps_region callOK ?_
  simp [ofV, ofV1, mkC_P, writeVar, writeCells, readCells, allSingle, AV.single, getFs, getF, setFs, setF, Heap.get, Heap.set, Heap.new, Heap.kill, killF, pushF, Heap.ready, refs, sliceParts, fillA, replL, a2]
  by_cases e1 : nm = []
  · repeat refine wps_seq ?_
    refine wps_region callOK ?_
    simp [ofV, ofV1, mkC_P, writeVar, writeCells, readCells, allSingle, AV.single, getFs, getF, setFs, setF, Heap.get, Heap.set, Heap.new, Heap.kill, killF, pushF, Heap.ready, refs, sliceParts, fillA, replL, e1]
    repeat refine wps_seq ?_
    refine wps_cond (t := true) rfl (fun _ => ?_) fun h => by cases h
    repeat refine wps_seq ?_
    refine wps_region callOK ?_
    simp [ofV, ofV1, mkC_P, writeVar, writeCells, readCells, allSingle, AV.single, getFs, getF, setFs, setF, Heap.get, Heap.set, Heap.new, Heap.kill, killF, pushF, Heap.ready, refs, sliceParts, fillA, replL]
    repeat refine wps_seq ?_
    refine wps_ret ?_
    simp [retVal, Try.f11, oneOr]
    exact ends_pure rfl (by simp [closesB, e1])
  by_cases e2 : s.length ≤ m
  · repeat refine wps_seq ?_
    refine wps_region callOK ?_
    simp [ofV, ofV1, mkC_P, writeVar, writeCells, readCells, allSingle, AV.single, getFs, getF, setFs, setF, Heap.get, Heap.set, Heap.new, Heap.kill, killF, pushF, Heap.ready, refs, sliceParts, fillA, replL, e1, e2]
    repeat refine wps_seq ?_
    refine wps_cond (t := true) rfl (fun _ => ?_) fun h => by cases h
    repeat refine wps_seq ?_
    refine wps_region callOK ?_
    simp [ofV, ofV1, mkC_P, writeVar, writeCells, readCells, allSingle, AV.single, getFs, getF, setFs, setF, Heap.get, Heap.set, Heap.new, Heap.kill, killF, pushF, Heap.ready, refs, sliceParts, fillA, replL]
    repeat refine wps_seq ?_
    refine wps_ret ?_
    simp [retVal, Try.f11, oneOr]
    exact ends_pure rfl (by rw [hm] at e2; simp [closesB, e1, e2])
  have hp := pre2 (s := s) (by omega)
  have i0 : indexA Try.prog 9 (.str s) (.int .i64 0) = some (.int .u8 (s[0]'(by omega)).toNat) := ixStr (i := 0) (by omega)
  have i1 : indexA Try.prog 9 (.str s) (.int .i64 1) = some (.int .u8 (s[1]'(by omega)).toNat) := ixStr (i := 1) (by omega)
  by_cases q1 : ((s[0]'(by omega)).toNat : Int) = 60
  rotate_left
  · repeat refine wps_seq ?_
    refine wps_region callOK ?_
    simp [ofV, ofV1, mkC_P, writeVar, writeCells, readCells, allSingle, AV.single, getFs, getF, setFs, setF, Heap.get, Heap.set, Heap.new, Heap.kill, killF, pushF, Heap.ready, refs, sliceParts, fillA, replL, e1, e2, i0, q1]
    repeat refine wps_seq ?_
    refine wps_cond (t := true) rfl (fun _ => ?_) fun h => by cases h
    repeat refine wps_seq ?_
    refine wps_region callOK ?_
    simp [ofV, ofV1, mkC_P, writeVar, writeCells, readCells, allSingle, AV.single, getFs, getF, setFs, setF, Heap.get, Heap.set, Heap.new, Heap.kill, killF, pushF, Heap.ready, refs, sliceParts, fillA, replL]
    repeat refine wps_seq ?_
    refine wps_ret ?_
    simp [retVal, Try.f11, oneOr]
    exact ends_pure rfl (by rw [hm] at e2; simp [closesB, e1, e2, hp, q1])
  by_cases q2 : ((s[1]'(by omega)).toNat : Int) = 47
  rotate_left
  · repeat refine wps_seq ?_
    refine wps_region callOK ?_
    simp [ofV, ofV1, mkC_P, writeVar, writeCells, readCells, allSingle, AV.single, getFs, getF, setFs, setF, Heap.get, Heap.set, Heap.new, Heap.kill, killF, pushF, Heap.ready, refs, sliceParts, fillA, replL, e1, e2, i0, q1, i1, q2]
    repeat refine wps_seq ?_
    refine wps_cond (t := true) rfl (fun _ => ?_) fun h => by cases h
    repeat refine wps_seq ?_
    refine wps_region callOK ?_
    simp [ofV, ofV1, mkC_P, writeVar, writeCells, readCells, allSingle, AV.single, getFs, getF, setFs, setF, Heap.get, Heap.set, Heap.new, Heap.kill, killF, pushF, Heap.ready, refs, sliceParts, fillA, replL]
    repeat refine wps_seq ?_
    refine wps_ret ?_
    simp [retVal, Try.f11, oneOr]
    exact ends_pure rfl (by rw [hm] at e2; simp [closesB, e1, e2, hp, q1, q2])
  have e3 : preB s [60, 47] = true := by rw [hp]; simp [q1, q2]
  have hs : sliceA Try.prog ⟨0, [[]]⟩ 9 (.str s) (some (.int .i64 2)) (some (.int .i64 (m : Int))) none = some (.str ((s.take m).drop 2)) := slStrOf (i := 2) (by omega) (by omega)
  have hl : ((s.take m).drop 2).length ≤ 1000000 := by simp; omega
  by_cases e4 : foldB ((s.take m).drop 2) nm = false
  · repeat refine wps_seq ?_
    refine wps_region callOK ?_
    simp [ofV, ofV1, mkC_P, writeVar, writeCells, readCells, allSingle, AV.single, getFs, getF, setFs, setF, Heap.get, Heap.set, Heap.new, Heap.kill, killF, pushF, Heap.ready, refs, sliceParts, fillA, replL, e1, e2, i0, q1, i1, q2, hs, k28 h28 hl h2, e4]
    repeat refine wps_seq ?_
    refine wps_cond (t := true) rfl (fun _ => ?_) fun h => by cases h
    repeat refine wps_seq ?_
    refine wps_region callOK ?_
    simp [ofV, ofV1, mkC_P, writeVar, writeCells, readCells, allSingle, AV.single, getFs, getF, setFs, setF, Heap.get, Heap.set, Heap.new, Heap.kill, killF, pushF, Heap.ready, refs, sliceParts, fillA, replL]
    repeat refine wps_seq ?_
    refine wps_ret ?_
    simp [retVal, Try.f11, oneOr]
    exact ends_pure rfl (by rw [hm] at e2 e4; simp [closesB, e1, e2, e3, e4])
  simp only [Bool.not_eq_false] at e4
  repeat refine wps_seq ?_
  refine wps_region callOK ?_
  simp [ofV, ofV1, mkC_P, writeVar, writeCells, readCells, allSingle, AV.single, getFs, getF, setFs, setF, Heap.get, Heap.set, Heap.new, Heap.kill, killF, pushF, Heap.ready, refs, sliceParts, fillA, replL, e1, e2, i0, q1, i1, q2, hs, k28 h28 hl h2, e4]
  repeat refine wps_seq ?_
  refine wps_cond (t := false) rfl (fun h => by cases h) fun _ => ?_
  repeat refine wps_seq ?_
  refine wps_skip ?_
  simp
  have hlt : m < s.length := by omega
  have hv : closesB s nm = tl s[m] := by
    subst hm
    simp [closesB, e1, e2, e3, e4, List.getD_eq_getElem?_getD, hlt]
  by_cases f1 : (s[m].toNat : Int) = 47
  · repeat refine wps_seq ?_
    refine wps_region callOK ?_
    simp [ofV, ofV1, mkC_P, writeVar, writeCells, readCells, allSingle, AV.single, getFs, getF, setFs, setF, Heap.get, Heap.set, Heap.new, Heap.kill, killF, pushF, Heap.ready, refs, sliceParts, fillA, replL, ixStr hlt, f1]
    repeat refine wps_seq ?_
    refine wps_ret ?_
    simp [retVal, Try.f11, oneOr]
    exact ends_pure rfl (by simp [hv, tl, f1])
  · by_cases f2 : (s[m].toNat : Int) = 62
    · repeat refine wps_seq ?_
      refine wps_region callOK ?_
      simp [ofV, ofV1, mkC_P, writeVar, writeCells, readCells, allSingle, AV.single, getFs, getF, setFs, setF, Heap.get, Heap.set, Heap.new, Heap.kill, killF, pushF, Heap.ready, refs, sliceParts, fillA, replL, ixStr hlt, f1, f2]
      repeat refine wps_seq ?_
      refine wps_ret ?_
      simp [retVal, Try.f11, oneOr]
      exact ends_pure rfl (by simp [hv, tl, f2])
    · repeat refine wps_seq ?_
      refine wps_region callOK ?_
      simp [ofV, ofV1, mkC_P, writeVar, writeCells, readCells, allSingle, AV.single, getFs, getF, setFs, setF, Heap.get, Heap.set, Heap.new, Heap.kill, killF, pushF, Heap.ready, refs, sliceParts, fillA, replL, ixStr hlt, k29 h29, f1, f2]
      repeat refine wps_seq ?_
      refine wps_ret ?_
      simp [retVal, Try.f11, oneOr]
      exact ends_pure rfl (by simp [hv, tl, f1, f2])
noncomputable def e45 : Entry Try.prog := mkE 45 [[], []] (fun x : Str × Str => [.str x.1, .str x.2]) (fun x => x.1.length ≤ 1000000 ∧ x.2.length ≤ 1000000) (fun x => .bool (closesB x.1 x.2)) fun x h => c45 (T := [e46, e70, e71]) rfl rfl rfl x.1 x.2 h.1 h.2
theorem k45 {T : List (Entry Try.prog)} (hT : findE 45 T = some e45.g) {s t : Str} (h1 : s.length ≤ 1000000) (h2 : t.length ≤ 1000000) (H : Heap) : callL (ctx T) 45 [.str s, .str t] H = some (.bool (closesB s t), H) :=
  mkE_scalar hT inj_str2 (s, t) ⟨h1, h2⟩ rfl (by simp)
noncomputable def e11 : Entry Try.prog := mkE 11 [[], []] (fun x : Str × Str => [.str x.1, .str x.2]) (fun x => x.1.length ≤ 1000000 ∧ x.2.length ≤ 1000000) (fun x => .bool (closesB x.1 x.2)) fun x h => c11 (T := [e28, e29]) rfl rfl x.1 x.2 h.1 h.2
theorem k11 {T : List (Entry Try.prog)} (hT : findE 11 T = some e11.g) {s t : Str} (h1 : s.length ≤ 1000000) (h2 : t.length ≤ 1000000) (H : Heap) : callL (ctx T) 11 [.str s, .str t] H = some (.bool (closesB s t), H) :=
  mkE_scalar hT inj_str2 (s, t) ⟨h1, h2⟩ rfl (by simp)
end Go.Proofs.Ytpkplilgjdbhhaa
