/- What begins a script; strings.Index; where an element is closed. No condition. -/
import Derived.Test.YtpkplilgjdbhhaaR4
import Derived.Shelf.Strings.Search3
import Derived.Lib.IndexMore
import Derived.Test.YtpkplilgjdbhhaaProg
namespace Go.Proofs.Ytpkplilgjdbhhaa
set_option linter.unusedSimpArgs false
set_option linter.unusedVariables false
open Go Go.RowKit
set_option maxRecDepth 100000

def lays143_ren : Go.Shelf.Ren := ⟨fun | 143 => 41 | 219 => 69 | 217 => 84 | 225 => 85 | 224 => 86 | 267 => 87 | 266 => 94 | 314 => 95 | n => n, fun | 9 => 9 | 3 => 3 | 4 => 4 | 5 => 5 | 46 => 96 | 146 => 98 | 51 => 97 | n => n, fun | 1 => 0 | n => n⟩
theorem lays143 : Go.Proofs.Lays.n143 Try.prog lays143_ren where
  mixed := by kernel_rfl
  f143 := Try.func41.trans (congrArg some (by kernel_rfl))
  f217 := Try.func84.trans (congrArg some (by kernel_rfl))
  f219 := Try.func69.trans (congrArg some (by kernel_rfl))
  f224 := Try.func86.trans (congrArg some (by kernel_rfl))
  f225 := Try.func85.trans (congrArg some (by kernel_rfl))
  f266 := Try.func94.trans (congrArg some (by kernel_rfl))
  f267 := Try.func87.trans (congrArg some (by kernel_rfl))
  f314 := Try.func95.trans (congrArg some (by kernel_rfl))
  t3 := Try.underlying3
  a3 := Try.isAgg3
  z3 := Try.sizeOf3
  v3 := Try.zeroValue3
  t4 := Try.underlying4
  a4 := Try.isAgg4
  z4 := Try.sizeOf4
  v4 := Try.zeroValue4
  t5 := Try.underlying5
  a5 := Try.isAgg5
  z5 := Try.sizeOf5
  v5 := Try.zeroValue5
  t9 := Try.underlying9
  a9 := Try.isAgg9
  z9 := Try.sizeOf9
  v9 := Try.zeroValue9
  t46 := Try.underlying96
  a46 := Try.isAgg96
  z46 := Try.sizeOf96
  v46 := Try.zeroValue96
  t51 := Try.underlying97
  a51 := Try.isAgg97
  z51 := Try.sizeOf97
  v51 := Try.zeroValue97
  t146 := Try.underlying98
  a146 := Try.isAgg98
  z146 := Try.sizeOf98
  v146 := Try.zeroValue98
  g1 := by kernel_rfl

theorem index_at (s sub : ByteArray) (m : Int) (w : World) (hs : s.size < 4294967281) (hm : w.cell? ⟨0, 0, none⟩ = some (.int .i64 m)) :
    Calls Try.prog 41 #[.string s, .string sub] w fun e w' => e = .returned (.int .i64 (Lib.index s.data.toList sub.data.toList)) ∧ w' = w := Any.strings_Index lays143 s sub m w hs hm
theorem c41 {T : List (Entry Try.prog)} (s t : Str) (hl : s.length ≤ 1000000) : CallAt (ctx T) 41 [.str s, .str t] ⟨0, []⟩ (.int .i64 (Lib.index s t)) ⟨0, []⟩ := by
  intro ρ w xs sm hx
  match xs, hx with
  | [x, y], hx =>
    have h0 := hx.2 0 (by simp) (by simp)
    have h1 := hx.2 1 (by simp) (by simp)
    simp only [List.getElem_cons_zero, List.getElem_cons_succ] at h0 h1
    cases h0; cases h1
    obtain ⟨hB, m, hm⟩ := ρ.gl 0 (by simp [globs])
    have hc : w.cell? ⟨0, 0, none⟩ = some (.int .i64 m) := by rw [World.cell?, sm.below 0 hB]; exact hm
    have hrun : (callFunc 41 #[.string ⟨s.toArray⟩, .string ⟨t.toArray⟩]).run (ctx T).P w = .ok (.enter 41 #[.string ⟨s.toArray⟩, .string ⟨t.toArray⟩]) w := by
      have hf : (ctx T).P.funcs[41]? = some Try.f41 := Try.func41
      have hn : ¬ Try.f41.name = "runtime.NumGoroutine" := by decide +kernel
      simp [callFunc, hf, hn, Try.f41]
    refine .inr ⟨41, _, hrun, callsIn_wide.2 ((index_at ⟨s.toArray⟩ ⟨t.toArray⟩ m w ?_ hc).mono ?_)⟩
    · show s.toArray.size < _
      simp; omega
    · rintro e w' ⟨rfl, rfl⟩
      exact ⟨_, ρ, rfl, .int _ _, sm, Step.refl _ _ _⟩
noncomputable def e41 : Entry Try.prog := mkE 41 [[], []] (fun x : Str × Str => [.str x.1, .str x.2]) (fun x => x.1.length ≤ 1000000) (fun x => .int .i64 (Lib.index x.1 x.2)) fun x h => c41 (T := []) x.1 x.2 h
theorem k41 {T : List (Entry Try.prog)} (hT : findE 41 T = some e41.g) {s t : Str} (h1 : s.length ≤ 1000000) (H : Heap) : callL (ctx T) 41 [.str s, .str t] H = some (.int .i64 (Lib.index s t), H) :=
  mkE_scalar hT inj_str2 (s, t) h1 rfl (by simp)

/-- where a text is first closed: the place, from k on -/
def clo (nm : Str) : Str → Nat → Nat
  | [], k => k
  | c :: r, k => if closesB (c :: r) nm = true then k else clo nm r (k + 1)
theorem clo_at {nm s : Str} {i : Nat} (h : i < s.length) : clo nm (s.drop i) i = if closesB (s.drop i) nm = true then i else clo nm (s.drop (i + 1)) (i + 1) := by
  rw [List.drop_eq_getElem_cons h]; rfl
theorem clo_end {nm s : Str} : clo nm (s.drop s.length) s.length = s.length := by rw [List.drop_length]; rfl
theorem clo_skip {nm s : Str} : ∀ (d i : Nat), i + d ≤ s.length → (∀ j, i ≤ j → j < i + d → closesB (s.drop j) nm = false) → clo nm (s.drop i) i = clo nm (s.drop (i + d)) (i + d)
  | 0, _, _, _ => rfl
  | d + 1, i, h, hj => by
    rw [clo_at (by omega), hj i (by omega) (by omega), if_neg (by simp), clo_skip d (i + 1) (by omega) fun j h1 h2 => hj j (by omega) (by omega)]
    rw [show i + 1 + d = i + (d + 1) by omega]
theorem closes_pre {s nm : Str} (h : closesB s nm = true) : [60, 47].isPrefixOf s = true := by
  by_cases hp : preB s [60, 47] = true
  · match s, hp with
    | [], hp => simp [preB] at hp
    | [a], hp => simp [preB] at hp
    | a :: b :: r, hp =>
      simp [preB] at hp
      simp [List.isPrefixOf, hp]
  · simp only [Bool.not_eq_true] at hp
    simp [closesB, hp] at h
theorem no_close {s nm : Str} (h : [60, 47].isPrefixOf s = false) : closesB s nm = false := by
  cases hc : closesB s nm with
  | false => rfl
  | true => rw [closes_pre hc] at h; cases h
theorem add_nat {i k : Nat} (h : i + k ≤ 1000000000) : wr .i64 ((i : Int) + (k : Int)) = some ((i + k : Nat) : Int) := by
  rw [wr_small (by omega) (by omega)]; simp
theorem c25 {T : List (Entry Try.prog)} (h41 : findE 41 T = some e41.g) (h45 : findE 45 T = some e45.g) (s nm : Str) (h1 : s.length ≤ 1000000) (h2 : nm.length ≤ 1000000) : CallAt (ctx T) 25 [.str s, .str nm] ⟨0, []⟩ (.int .i64 (clo nm s 0)) ⟨0, []⟩ := by
  refine callAt_body (fn := Try.f25) (s0 := ⟨[0, 1, 4, 5, 6], [.str s, .str nm, .undef, .undef, .undef], [], 26, ⟨0, [[]]⟩⟩) Try.func25 rfl rfl rfl ?_
  repeat refine wps_seq ?_
  refine wps_region callOK ?_
  simp [ofV, ofV1, mkC_P, writeVar, writeCells, readCells, allSingle, AV.single, getFs, getF, setFs, setF, Heap.get, Heap.set, Heap.new, Heap.kill, killF, pushF, Heap.ready, refs, sliceParts, fillA, replL]
  repeat refine wps_seq ?_
  refine wps_region callOK ?_
  simp [ofV, ofV1, mkC_P, writeVar, writeCells, readCells, allSingle, AV.single, getFs, getF, setFs, setF, Heap.get, Heap.set, Heap.new, Heap.kill, killF, pushF, Heap.ready, refs, sliceParts, fillA, replL]
  repeat refine wps_seq ?_
  refine wps_block (wps_loop' (fun i : Nat => (⟨[0, 1, 4, 5, 6], [.str s, .str nm, .undef, .int .i64 i, .undef], [], 26, ⟨0, [[]]⟩⟩ : St))
    (fun i => i ≤ s.length ∧ clo nm s 0 = clo nm (s.drop i) i) (fun i => s.length - i) [] [] 0 ⟨Nat.zero_le _, rfl⟩ ⟨rfl, rfl, rfl, by simp [fitL, fitV, pureV, pureL], FitH.nothing⟩ ?_)
  rintro i ⟨hi, hx⟩ B hB
  have hd : (s.drop i).length ≤ 1000000 := by simp; omega
  repeat refine wps_seq ?_
  refine wps_block ?_
  rcases Lib.index_spec (s.drop i) [60, 47] with ⟨h0, hn⟩ | ⟨k, h0, hk, ho, hno⟩
  · repeat refine wps_seq ?_
    refine wps_region callOK ?_
    simp [ofV, ofV1, mkC_P, writeVar, writeCells, readCells, allSingle, AV.single, getFs, getF, setFs, setF, Heap.get, Heap.set, Heap.new, Heap.kill, killF, pushF, Heap.ready, refs, sliceParts, fillA, replL, slStr hi, k41 h41 hd, h0]
    repeat refine wps_seq ?_
    refine wps_region callOK ?_
    simp [ofV, ofV1, mkC_P, writeVar, writeCells, readCells, allSingle, AV.single, getFs, getF, setFs, setF, Heap.get, Heap.set, Heap.new, Heap.kill, killF, pushF, Heap.ready, refs, sliceParts, fillA, replL]
    repeat refine wps_seq ?_
    refine wps_cond (t := true) rfl (fun _ => ?_) fun h => by cases h
    repeat refine wps_seq ?_
    refine wps_region callOK ?_
    simp [ofV, ofV1, mkC_P, writeVar, writeCells, readCells, allSingle, AV.single, getFs, getF, setFs, setF, Heap.get, Heap.set, Heap.new, Heap.kill, killF, pushF, Heap.ready, refs, sliceParts, fillA, replL]
    repeat refine wps_seq ?_
    refine wps_ret ?_
    simp [retVal, Try.f25, oneOr]
    refine ends_pure rfl ?_
    have := clo_skip (nm := nm) (s := s) (s.length - i) i (by omega) fun j h3 h4 => no_close (by
      have := hn (j - i) (by simp; omega)
      simp only [Lib.occAt, List.drop_drop] at this
      rwa [show i + (j - i) = j by omega] at this)
    rw [hx, this, show i + (s.length - i) = s.length by omega, clo_end]
  · have hk0 : ¬ (k : Int) < 0 := by omega
    obtain ⟨j, hj⟩ : ∃ j, j = i + k := ⟨_, rfl⟩
    have hroom := Lib.occAt_room ho
    simp at hroom
    have a1 : wr .i64 ((i : Int) + (k : Int)) = some (j : Int) := by rw [hj]; exact add_nat (by omega)
    have hjl : j ≤ s.length := by omega
    have hx2 : clo nm s 0 = clo nm (s.drop j) j := by
      rw [hx, hj]
      refine clo_skip k i (by omega) fun q h3 h4 => no_close ?_
      have := hno (q - i) (by omega)
      simp only [Lib.occAt, List.drop_drop] at this
      rwa [show i + (q - i) = q by omega] at this
    have hd2 : (s.drop j).length ≤ 1000000 := by simp; omega
    repeat refine wps_seq ?_
    refine wps_region callOK ?_
    simp [ofV, ofV1, mkC_P, writeVar, writeCells, readCells, allSingle, AV.single, getFs, getF, setFs, setF, Heap.get, Heap.set, Heap.new, Heap.kill, killF, pushF, Heap.ready, refs, sliceParts, fillA, replL, slStr hi, k41 h41 hd, h0]
    repeat refine wps_seq ?_
    refine wps_region callOK ?_
    simp [ofV, ofV1, mkC_P, writeVar, writeCells, readCells, allSingle, AV.single, getFs, getF, setFs, setF, Heap.get, Heap.set, Heap.new, Heap.kill, killF, pushF, Heap.ready, refs, sliceParts, fillA, replL, hk0]
    repeat refine wps_seq ?_
    refine wps_cond (t := false) rfl (fun h => by cases h) fun _ => ?_
    repeat refine wps_seq ?_
    refine wps_skip ?_
    simp
    repeat refine wps_seq ?_
    refine wps_region callOK ?_
    simp [ofV, ofV1, mkC_P, writeVar, writeCells, readCells, allSingle, AV.single, getFs, getF, setFs, setF, Heap.get, Heap.set, Heap.new, Heap.kill, killF, pushF, Heap.ready, refs, sliceParts, fillA, replL, a1]
    cases hc : closesB (s.drop j) nm with
    | true =>
      repeat refine wps_seq ?_
      refine wps_region callOK ?_
      simp [ofV, ofV1, mkC_P, writeVar, writeCells, readCells, allSingle, AV.single, getFs, getF, setFs, setF, Heap.get, Heap.set, Heap.new, Heap.kill, killF, pushF, Heap.ready, refs, sliceParts, fillA, replL, slStr hjl, k45 h45 hd2 h2, hc]
      repeat refine wps_seq ?_
      refine wps_cond (t := true) rfl (fun _ => ?_) fun h => by cases h
      repeat refine wps_seq ?_
      refine wps_region callOK ?_
      simp [ofV, ofV1, mkC_P, writeVar, writeCells, readCells, allSingle, AV.single, getFs, getF, setFs, setF, Heap.get, Heap.set, Heap.new, Heap.kill, killF, pushF, Heap.ready, refs, sliceParts, fillA, replL]
      repeat refine wps_seq ?_
      refine wps_ret ?_
      simp [retVal, Try.f25, oneOr]
      refine ends_pure rfl ?_
      rw [hx2, clo_at (by omega), if_pos hc]
    | false =>
      repeat refine wps_seq ?_
      refine wps_region callOK ?_
      simp [ofV, ofV1, mkC_P, writeVar, writeCells, readCells, allSingle, AV.single, getFs, getF, setFs, setF, Heap.get, Heap.set, Heap.new, Heap.kill, killF, pushF, Heap.ready, refs, sliceParts, fillA, replL, slStr hjl, k45 h45 hd2 h2, hc]
      repeat refine wps_seq ?_
      refine wps_cond (t := false) rfl (fun h => by cases h) fun _ => ?_
      repeat refine wps_seq ?_
      refine wps_skip ?_
      simp
      have a2 : wr .i64 ((j : Int) + 2) = some ((j + 2 : Nat) : Int) := add_nat (k := 2) (by omega)
      repeat refine wps_seq ?_
      refine wps_region callOK ?_
      simp [ofV, ofV1, mkC_P, writeVar, writeCells, readCells, allSingle, AV.single, getFs, getF, setFs, setF, Heap.get, Heap.set, Heap.new, Heap.kill, killF, pushF, Heap.ready, refs, sliceParts, fillA, replL, a2]
      have hx3 : clo nm s 0 = clo nm (s.drop (j + 2)) (j + 2) := by
        rw [hx2]
        refine clo_skip 2 j (by omega) fun q h3 h4 => ?_
        rcases (by omega : q = j ∨ q = j + 1) with rfl | rfl
        · exact hc
        · refine no_close ?_
          simp only [Lib.occAt, List.drop_drop, ← hj] at ho
          rw [List.drop_eq_getElem_cons (by omega : j < s.length), List.drop_eq_getElem_cons (by omega : j + 1 < s.length)] at ho
          simp [List.isPrefixOf] at ho
          rw [List.drop_eq_getElem_cons (by omega : j + 1 < s.length), ← ho.2]
          simp [List.isPrefixOf]
      exact hB _ (j + 2) (by omega) ⟨by omega, hx3⟩ ⟨[], [], ⟨rfl, rfl, rfl, by simp [fitL, fitV, pureV, pureL], FitH.nothing⟩⟩
end Go.Proofs.Ytpkplilgjdbhhaa
