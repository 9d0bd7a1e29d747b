/- A text's blanks at its beginning, by the reference; texts of blanks; the law. No condition. -/
import Derived.Test.YtdmgdkejbhoegaaGreatDoorMJ
namespace Go.Proofs.YtdmgdkejbhoegaaGreatDoor
set_option linter.unusedSimpArgs false
set_option linter.unusedVariables false
open Go Go.RowKit
set_option maxRecDepth 100000
theorem twl_at {s : Str} {i : Nat} (h : i < s.length) (hs : sp s[i] = true) : ((s.drop i).takeWhile sp).length = ((s.drop (i + 1)).takeWhile sp).length + 1 := by
  rw [List.drop_eq_getElem_cons h, List.takeWhile_cons, if_pos hs, List.length_cons]
theorem twl_no {s : Str} {i : Nat} (h : i < s.length) (hs : sp s[i] = false) : ((s.drop i).takeWhile sp).length = 0 := by
  rw [List.drop_eq_getElem_cons h, List.takeWhile_cons, if_neg (by simp [hs])]; rfl
theorem c6 {T : List (Entry Tryz.prog)} (hS : findE 13 T = some e13.g) (s : Str) (hl : s.length ≤ 1000000) : CallAt (ctx T) 6 [.str s] ⟨0, []⟩ (cutA s) ⟨0, []⟩ := by
  refine callAt_body (fn := Tryz.f6) (s0 := ⟨[0, 2, 3, 4], [.str s, .undef, .undef, .undef], [], 23, ⟨0, [[]]⟩⟩) Tryz.func6 rfl rfl rfl ?_
  repeat refine wps_seq ?_
  refine wps_region callOK ?_
  simp [zS]
  repeat refine wps_seq ?_
  refine wps_region callOK ?_
  simp [zS]
  refine wps_seq ?_
  repeat refine wps_seq ?_
  refine wps_block (wps_loop' (fun i : Nat => (⟨[0, 2, 3, 4], [.str s, .undef, .undef, .int .i64 i], [], 23, ⟨0, [[]]⟩⟩ : St))
    (fun i => i ≤ s.length ∧ (s.takeWhile sp).length = i + ((s.drop i).takeWhile sp).length) (fun i => s.length - i) [] [] 0 ⟨Nat.zero_le _, by simp⟩ ⟨rfl, rfl, rfl, by simp [fitL, fitV, pureV, pureL], FitH.nothing⟩ ?_)
  rintro i ⟨hi, hx⟩ B hB
  by_cases h : i < s.length
  · cases hsp : sp s[i] with
    | true =>
      repeat refine wps_seq ?_
      refine wps_region callOK ?_
      simp [zS, h, ixStr h, k13 hS, hsp]
      repeat refine wps_seq ?_
      refine wps_cond (t := true) rfl (fun _ => ?_) fun h => by cases h
      repeat refine wps_seq ?_
      refine wps_skip ?_
      simp
      repeat refine wps_seq ?_
      refine wps_block ?_
      repeat refine wps_seq ?_
      refine wps_region callOK ?_
      simp [zS, add_one (show i ≤ 1000000000 by omega)]
      exact hB _ (i + 1) (by omega) ⟨by omega, by rw [hx, twl_at h hsp]; omega⟩ ⟨[], [], ⟨rfl, rfl, rfl, by simp [fitL, fitV, pureV, pureL], FitH.nothing⟩⟩
    | false =>
      rw [twl_no h hsp, Nat.add_zero] at hx
      subst hx
      have h1 := fun H => slStrTo (H := H) (s := s) (j := (s.takeWhile sp).length) (by omega)
      have h2 := fun H => slStr (H := H) (s := s) (i := (s.takeWhile sp).length) (by omega)
      rw [tw_take] at h1
      rw [tw_drop] at h2
      repeat refine wps_seq ?_
      refine wps_region callOK ?_
      simp [zS, h, ixStr h, k13 hS, hsp]
      repeat refine wps_seq ?_
      refine wps_cond (t := false) rfl (fun h => by cases h) fun _ => ?_
      repeat refine wps_seq ?_
      refine wps_exit ?_
      simp
      repeat refine wps_seq ?_
      refine wps_drawK mixed callOK (by decide +kernel) (by decide +kernel) ?_
      simp [zS, evalK_c, evalK_nil, thenK_some, h1, h2]
      repeat refine wps_seq ?_
      refine wps_ret ?_
      simp [retVal, Tryz.f6, oneOr, thenQ, blockQ]
      exact ends_pure rfl (by rfl)
  · rw [List.drop_eq_nil_of_le (by omega)] at hx
    simp at hx
    subst hx
    have h1 := fun H => slStrTo (H := H) (s := s) (j := (s.takeWhile sp).length) (by omega)
    have h2 := fun H => slStr (H := H) (s := s) (i := (s.takeWhile sp).length) (by omega)
    rw [tw_take] at h1
    rw [tw_drop] at h2
    repeat refine wps_seq ?_
    refine wps_region callOK ?_
    simp [zS, h]
    repeat refine wps_seq ?_
    refine wps_cond (t := false) rfl (fun h => by cases h) fun _ => ?_
    repeat refine wps_seq ?_
    refine wps_exit ?_
    simp
    repeat refine wps_seq ?_
    refine wps_drawK mixed callOK (by decide +kernel) (by decide +kernel) ?_
    simp [zS, evalK_c, evalK_nil, thenK_some, h1, h2]
    repeat refine wps_seq ?_
    refine wps_ret ?_
    simp [retVal, Tryz.f6, oneOr, thenQ, blockQ]
    exact ends_pure rfl (by rfl)
theorem all_at {s : Str} {i : Nat} (h : i < s.length) : (s.drop i).all sp = (sp s[i] && (s.drop (i + 1)).all sp) := by
  rw [List.drop_eq_getElem_cons h, List.all_cons]
theorem c7 {T : List (Entry Tryz.prog)} (hS : findE 13 T = some e13.g) (s : Str) (hl : s.length ≤ 1000000) : CallAt (ctx T) 7 [.str s] ⟨0, []⟩ (.bool (s.all sp)) ⟨0, []⟩ := by
  refine callAt_body (fn := Tryz.f7) (s0 := ⟨[0, 2, 3], [.str s, .undef, .undef], [], 15, ⟨0, [[]]⟩⟩) Tryz.func7 rfl rfl rfl ?_
  repeat refine wps_seq ?_
  refine wps_region callOK ?_
  simp [zS]
  repeat refine wps_seq ?_
  refine wps_region callOK ?_
  simp [zS]
  repeat refine wps_seq ?_
  refine wps_block (wps_loop' (fun i : Nat => (⟨[0, 2, 3], [.str s, .undef, .int .i64 i], [], 15, ⟨0, [[]]⟩⟩ : St))
    (fun i => i ≤ s.length ∧ s.all sp = (s.drop i).all sp) (fun i => s.length - i) [] [] 0 ⟨Nat.zero_le _, by simp⟩ ⟨rfl, rfl, rfl, by simp [fitL, fitV, pureV, pureL], FitH.nothing⟩ ?_)
  rintro i ⟨hi, hx⟩ B hB
  repeat refine wps_seq ?_
  refine wps_region callOK ?_
  simp [zS]
  repeat refine wps_seq ?_
  refine wps_cond rfl (fun h => ?_) fun h => ?_
  · simp at h
    repeat refine wps_seq ?_
    refine wps_skip ?_
    simp
    repeat refine wps_seq ?_
    refine wps_block ?_
    cases hsp : sp s[i] with
    | true =>
      repeat refine wps_seq ?_
      refine wps_region callOK ?_
      simp [zS, ixStr h, k13 hS, hsp]
      repeat refine wps_seq ?_
      refine wps_cond (t := false) rfl (fun h => by cases h) fun _ => ?_
      repeat refine wps_seq ?_
      refine wps_skip ?_
      simp
      repeat refine wps_seq ?_
      refine wps_region callOK ?_
      simp [zS, add_one (show i ≤ 1000000000 by omega)]
      exact hB _ (i + 1) (by omega) ⟨by omega, by rw [hx, all_at h, hsp]; rfl⟩ ⟨[], [], ⟨rfl, rfl, rfl, by simp [fitL, fitV, pureV, pureL], FitH.nothing⟩⟩
    | false =>
      repeat refine wps_seq ?_
      refine wps_region callOK ?_
      simp [zS, ixStr h, k13 hS, hsp]
      repeat refine wps_seq ?_
      refine wps_cond (t := true) rfl (fun _ => ?_) fun h => by cases h
      repeat refine wps_seq ?_
      refine wps_region callOK ?_
      simp [zS]
      repeat refine wps_seq ?_
      refine wps_ret ?_
      simp [retVal, Tryz.f7, oneOr, thenQ, blockQ]
      exact ends_pure rfl (by rw [hx, all_at h, hsp]; rfl)
  · simp at h
    repeat refine wps_seq ?_
    refine wps_exit ?_
    simp
    repeat refine wps_seq ?_
    refine wps_region callOK ?_
    simp [zS]
    repeat refine wps_seq ?_
    refine wps_ret ?_
    simp [retVal, Tryz.f7, oneOr, thenQ, blockQ]
    exact ends_pure rfl (by rw [hx, List.drop_eq_nil_of_le h]; rfl)
theorem all_tw : ∀ s : Str, (s.takeWhile sp).all sp = true
  | [] => rfl
  | c :: r => by
    rw [List.takeWhile_cons]
    split
    · rename_i h; rw [List.all_cons, h, all_tw r]; rfl
    · rfl
noncomputable def e5 : Entry Tryz.prog := mkE 5 [[]] (fun x : Str => [.str x]) (fun x => x.length ≤ 1000) (fun x => cutA x) fun x h => c5 (T := []) x (by omega)
noncomputable def e6 : Entry Tryz.prog := mkE 6 [[]] (fun x : Str => [.str x]) (fun x => x.length ≤ 1000) (fun x => cutA x) fun x h => c6 (T := [e13]) rfl x (by omega)
noncomputable def e7 : Entry Tryz.prog := mkE 7 [[]] (fun x : Str => [.str x]) (fun x => x.length ≤ 1000) (fun x => .bool (x.all sp)) fun x h => c7 (T := [e13]) rfl x (by omega)
theorem k5 {T : List (Entry Tryz.prog)} (hT : findE 5 T = some e5.g) {s : Str} (hl : s.length ≤ 1000) (H : Heap) : callL (ctx T) (.fn 5) [.str s] H = some (cutA s, H) :=
  mkE_scalar hT inj_str s hl rfl (by simp)
theorem k6 {T : List (Entry Tryz.prog)} (hT : findE 6 T = some e6.g) {s : Str} (hl : s.length ≤ 1000) (H : Heap) : callL (ctx T) (.fn 6) [.str s] H = some (cutA s, H) :=
  mkE_scalar hT inj_str s hl rfl (by simp)
theorem k7 {T : List (Entry Tryz.prog)} (hT : findE 7 T = some e7.g) {s : Str} (hl : s.length ≤ 1000) (H : Heap) : callL (ctx T) (.fn 7) [.str s] H = some (.bool (s.all sp), H) :=
  mkE_scalar hT inj_str s hl rfl (by simp)
theorem c3 {T : List (Entry Tryz.prog)} (h0 : findE 4 T = some e4.g) (h1 : findE 5 T = some e5.g) (h2 : findE 6 T = some e6.g) (h3 : findE 7 T = some e7.g)
    (s : Str) : CallAt (ctx T) 3 [.str s] ⟨0, []⟩ (.bool true) ⟨0, []⟩ := by
  have ka := fun H => k4 h0 H
  by_cases hl : s.length ≤ 300
  · have k1 := fun H => k5 h1 (s := s) (by omega) H
    have k2 := fun H => k6 h2 (s := s) (by omega) H
    have hlen := tw_len s
    have k3 := fun H => k7 h3 (s := s.takeWhile sp) (by omega) H
    rw [all_tw] at k3
    have hcat := List.takeWhile_append_dropWhile (p := sp) (l := s)
    simp only [cutA] at k1 k2
    generalize s.dropWhile sp = r at *
    generalize s.takeWhile sp = a at *
    have hn : ¬ (300 : Int) < (s.length : Int) := by omega
    refine callAt_body (fn := Tryz.f3) (s0 := ⟨[0, 2, 3, 4, 5, 6], [.str s, .undef, .undef, .undef, .undef, .undef], [], 43, ⟨0, [[]]⟩⟩) Tryz.func3 rfl rfl rfl ?_
    repeat refine wps_seq ?_
    refine wps_region callOK ?_
    simp [zS]
    repeat refine wps_seq ?_
    refine wps_region callOK ?_
    simp [zS, hn]
    repeat refine wps_seq ?_
    refine wps_cond (t := false) rfl (fun h => by cases h) fun _ => ?_
    repeat refine wps_seq ?_
    refine wps_skip ?_
    simp
    repeat refine wps_seq ?_
    refine wps_region callOK ?_
    simp [zS, k1]
    repeat refine wps_seq ?_
    refine wps_region callOK ?_
    simp [zS, k2]
    repeat refine wps_seq ?_
    refine wps_region callOK ?_
    simp [zS, catStr (show a.length + r.length ≤ 1000000000000 by omega), hcat, k3, ka]
    repeat refine wps_seq ?_
    refine wps_ret ?_
    simp [retVal, Tryz.f3, oneOr, thenQ, blockQ]
    exact ends_pure rfl (by rfl)
  · have hn : (300 : Int) < (s.length : Int) := by omega
    refine callAt_body (fn := Tryz.f3) (s0 := ⟨[0, 2, 3, 4, 5, 6], [.str s, .undef, .undef, .undef, .undef, .undef], [], 43, ⟨0, [[]]⟩⟩) Tryz.func3 rfl rfl rfl ?_
    repeat refine wps_seq ?_
    refine wps_region callOK ?_
    simp [zS]
    repeat refine wps_seq ?_
    refine wps_region callOK ?_
    simp [zS, hn]
    repeat refine wps_seq ?_
    refine wps_cond (t := true) rfl (fun _ => ?_) fun h => by cases h
    repeat refine wps_seq ?_
    refine wps_region callOK ?_
    simp [zS, ka]
    repeat refine wps_seq ?_
    refine wps_ret ?_
    simp [retVal, Tryz.f3, oneOr, thenQ, blockQ]
    exact ends_pure rfl (by rfl)
end Go.Proofs.YtdmgdkejbhoegaaGreatDoor
