/- ChainGoes's walk. No condition. -/
import Derived.Test.YthclkpplpdnffaaGreatDoorRR
import Derived.Test.YthclkpplpdnffaaGreatDoorRT
namespace Go.Proofs.YthclkpplpdnffaaGreatDoor
set_option linter.unusedSimpArgs false
set_option linter.unusedVariables false
open Go Go.RowKit
set_option maxRecDepth 100000
theorem runN_more {t : Tr} {obj : Int} {L : List Str} {x : Str} (h0 : L ≠ []) (h1 : L.length ≤ 7) : runN t obj (L ++ [x]) = chStep t (runN t obj L) x := by
  unfold runN
  rw [List.take_of_length_le (by simp; omega), List.take_of_length_le (by omega), chRun_snoc, if_neg h0]
theorem run_own {T : List (Entry Tryz.prog)} (hS : findE 20 T = some e20.g) (hSt : findE 37 T = some e37.g) (t : Tr) (ht : ChOk t) (obj : Int) (L : List Str) (hn : L.length ≤ 1000000) (hx : ∀ x, x ∈ L → x.length ≤ 100) {b n : Nat} {c : Cap} (hb : b < n) (g : List (Nat × Blk)) :
    CallAt (ctx T) 17 [aTree t, .int .i64 obj, .slc b 0 L.length c] ⟨n, [(b, .cells (strs L)) :: g]⟩ (aInts (runN t obj L)) ⟨n, [[]]⟩ := by
  refine CallAt.drop (σ := []) (Φ := [(b, strs L)]) ((c17 hS hSt t ht obj L hn hx).lift (by simp [pureL, pureV]) ⟨n, [[]]⟩) (fun _ => ?_) ?_
  · refine ⟨by simp, by simp, by simp [Heap.ents], fun x h => (by cases h), fun x h => (by cases h), Nat.le_refl _, fun e h => (by simp [Heap.ents] at h), fun x hx => ?_⟩
    simp only [List.mem_singleton] at hx
    subst hx
    exact ⟨_, by simp [Heap.get, getFs, getF], fitL_pure strs_pure, strs_pure⟩
  · have := fit_strs (b := b) (L := L) (c := c) (σ := []) (Φ := [(b, strs L)]) (by simp [lookC])
    have h1 : fitV [] [(b, strs L)] (aTree t) (aTree t) := fitV_pure (by simp)
    simp only [fitL]
    exact ⟨h1, fitV_pure (by simp [pureV]), this, trivial⟩
theorem c4 {T : List (Entry Tryz.prog)} (hA : findE 16 T = some e16.g) (hP : findE 14 T = some e14.g) (hW : findE 15 T = some e15.g) (hR : findE 17 T = some e17.g) (hS : findE 20 T = some e20.g) (hSt : findE 37 T = some e37.g) (h2 : findE 18 T = some e18.g) (t : Tr) (obj : Int) (L : List Str) (x : Str) :
    CallAt (ctx T) 4 [aTree t, .int .i64 obj, aStrs L, .str x] ⟨0, []⟩ (.bool true) ⟨0, []⟩ := by
  have ka := fun H => k16 hA H
  have kp := fun H => k14 hP t (m := 30) (by omega) H
  have kw := fun H => k15 hW L (m := 7) (by omega) H
  simp only [aTree] at kp
  cases hf : fewTr t 30 with
  | false =>
    rw [hf] at kp
    refine callAt_body (fn := Tryz.f4) (s0 := ⟨[0, 1, 2, 3, 4, 8, 9], [aTree t, .int .i64 obj, aStrs L, .str x, .undef, .undef, .undef], [], 49, ⟨0, [[]]⟩⟩) Tryz.func4 rfl rfl rfl ?_
    (repeat (first
      | (refine wps_seq ?_)
      | (refine wps_block ?_)
      | (refine wps_label ?_; simp only [thenQ, blockQ])
      | ((refine wps_region callOK ?_); simp [zS, aTree, kp, ka])
      | (refine wps_cond (t := true) rfl (fun _ => ?_) (fun h => by cases h))
      | (refine wps_cond (t := false) rfl (fun h => by cases h) (fun _ => ?_))
      | ((refine wps_skip ?_); simp only [thenQ, blockQ])
      | ((refine wps_exit ?_); simp [thenQ, blockQ])))
    repeat refine wps_seq ?_
    refine wps_ret ?_
    simp [retVal, Tryz.f4, oneOr, thenQ, blockQ]
    exact ends_pure rfl (by rfl)
  | true =>
  rw [hf] at kp
  cases hw : fewWs L 7 with
  | false =>
    rw [hw] at kw
    refine callAt_body (fn := Tryz.f4) (s0 := ⟨[0, 1, 2, 3, 4, 8, 9], [aTree t, .int .i64 obj, aStrs L, .str x, .undef, .undef, .undef], [], 49, ⟨0, [[]]⟩⟩) Tryz.func4 rfl rfl rfl ?_
    (repeat (first
      | (refine wps_seq ?_)
      | (refine wps_block ?_)
      | (refine wps_label ?_; simp only [thenQ, blockQ])
      | ((refine wps_region callOK ?_); simp [zS, aTree, kp, kw, ka])
      | (refine wps_cond (t := true) rfl (fun _ => ?_) (fun h => by cases h))
      | (refine wps_cond (t := false) rfl (fun h => by cases h) (fun _ => ?_))
      | ((refine wps_skip ?_); simp only [thenQ, blockQ])
      | ((refine wps_exit ?_); simp [thenQ, blockQ])))
    repeat refine wps_seq ?_
    refine wps_ret ?_
    simp [retVal, Tryz.f4, oneOr, thenQ, blockQ]
    exact ends_pure rfl (by rfl)
  | true =>
  rw [hw] at kw
  obtain ⟨hl, hx⟩ := few_ws hw
  by_cases hx1 : (100 : Int) < (x.length : Int)
  · refine callAt_body (fn := Tryz.f4) (s0 := ⟨[0, 1, 2, 3, 4, 8, 9], [aTree t, .int .i64 obj, aStrs L, .str x, .undef, .undef, .undef], [], 49, ⟨0, [[]]⟩⟩) Tryz.func4 rfl rfl rfl ?_
    (repeat (first
      | (refine wps_seq ?_)
      | (refine wps_block ?_)
      | (refine wps_label ?_; simp only [thenQ, blockQ])
      | ((refine wps_region callOK ?_); simp [zS, aTree, kp, kw, hx1, ka])
      | (refine wps_cond (t := true) rfl (fun _ => ?_) (fun h => by cases h))
      | (refine wps_cond (t := false) rfl (fun h => by cases h) (fun _ => ?_))
      | ((refine wps_skip ?_); simp only [thenQ, blockQ])
      | ((refine wps_exit ?_); simp [thenQ, blockQ])))
    repeat refine wps_seq ?_
    refine wps_ret ?_
    simp [retVal, Tryz.f4, oneOr, thenQ, blockQ]
    exact ends_pure rfl (by rfl)
  have lS := fun H => lenS (H := H) (L := L)
  by_cases h0 : L = []
  · subst h0
    have lS0 : ∀ H, lenA Tryz.prog H 40 (aStrs []) = some 0 := fun H => lenS (L := [])
    refine callAt_body (fn := Tryz.f4) (s0 := ⟨[0, 1, 2, 3, 4, 8, 9], [aTree t, .int .i64 obj, aStrs [], .str x, .undef, .undef, .undef], [], 49, ⟨0, [[]]⟩⟩) Tryz.func4 rfl rfl rfl ?_
    (repeat (first
      | (refine wps_seq ?_)
      | (refine wps_block ?_)
      | (refine wps_label ?_; simp only [thenQ, blockQ])
      | ((refine wps_region callOK ?_); simp [zS, aTree, kp, kw, hx1, lS0, ka])
      | (refine wps_cond (t := true) rfl (fun _ => ?_) (fun h => by cases h))
      | (refine wps_cond (t := false) rfl (fun h => by cases h) (fun _ => ?_))
      | ((refine wps_skip ?_); simp only [thenQ, blockQ])
      | ((refine wps_exit ?_); simp [thenQ, blockQ])))
    repeat refine wps_seq ?_
    refine wps_ret ?_
    simp [retVal, Tryz.f4, oneOr, thenQ, blockQ]
    exact ends_pure rfl (by rfl)
  have hl0 : ¬ (L.length : Int) = 0 := by
    have := List.length_pos_iff.2 h0; omega
  have hl1 : ¬ L.length = 0 := by omega
  have hc := few_ch hf
  have kr := fun H => k17 hR hc obj (ns := L) (by omega) hx H
  have hrl : (runN t obj L).length ≤ 40 := Nat.le_trans (chRun_len (t := t) (obj := obj) (L.take 8)) (Nat.le_trans (Nat.add_le_add_right hc.few 1) (by omega))
  have ks := fun H => k20 hS hc hrl (x := x) (by omega) H
  have hsl : (chStep t (runN t obj L) x).length ≤ 1000000 := Nat.le_trans chStep_len (Nat.le_trans (Nat.add_le_add_right hc.few 1) (by omega))
  have ke := fun H => k18 h2 (L := chStep t (runN t obj L) x) (M := chStep t (runN t obj L) x) hsl H
  rw [decide_eq_true rfl] at ke
  have hcl := (c19 (T := T) L h0 (by omega)).new (by simp [pureL, pureV]) strs_pure ⟨17, [[]]⟩
  have hro := run_own hS hSt t hc obj (L ++ [x]) (by simp; omega) (fun y hy => by
    rcases List.mem_append.1 hy with h | h
    · exact hx y h
    · simp only [List.mem_singleton] at h; subst h; omega) (b := 18) (n := 19) (c := .rest 1) (by omega) [(5, .cells [.str x])]
  rw [runN_more h0 (by omega)] at hro
  have happ := own_app1 (P := Tryz.prog) (elem := 9) (b := 17) (t := 5) (m := 18) (es := L.map AV.str) (cs := [.str x]) (g := []) (fs := []) szT9 byT9 zeT9 rfl (by omega) (by omega) rfl rfl (el_str _) (by simp; omega) (by omega) (by simp) (by simp)
  rw [ownF_ne (by simp [h0]), ownV_ne (by simp [h0]), flat_strs] at happ
  have es1 : strs (L ++ [x]) = strs L ++ [.str x] := by simp [strs]
  simp only [List.length_map, List.cons_append, List.nil_append] at happ
  rw [es1] at hro
  simp only [List.length_append, List.length_cons, List.length_nil, Nat.zero_add] at hro
  generalize hR1 : chStep t (runN t obj L) x = R1 at *
  generalize runN t obj L = R0 at *
  simp only [aTree] at kr ks hro
  refine callAt_body (fn := Tryz.f4) (s0 := ⟨[0, 1, 2, 3, 4, 8, 9], [aTree t, .int .i64 obj, aStrs L, .str x, .undef, .undef, .undef], [], 49, ⟨0, [[]]⟩⟩) Tryz.func4 rfl rfl rfl ?_
  repeat refine wps_seq ?_
  refine wps_region callOK ?_
  simp [zS, aTree]
  repeat refine wps_seq ?_
  refine wps_region callOK ?_
  simp [zS, kp, kw, hx1, lS, hl1, hl0]
  repeat refine wps_seq ?_
  refine wps_cond (t := false) rfl (fun h => by cases h) fun _ => ?_
  repeat refine wps_seq ?_
  refine wps_skip ?_
  simp
  repeat refine wps_seq ?_
  refine wps_region callOK ?_
  simp [zS, kr]
  repeat refine wps_seq ?_
  refine .fit [] [(0, [aNodes t])] (s' := (⟨[0, 1, 2, 3, 4, 8, 9], [.undef, .int .i64 obj, aStrs L, .str x, .fptr [aNodes t] 0, .undef, aInts R0], [], 49, ⟨0, [[]]⟩⟩ : St)) ⟨rfl, rfl, rfl, by simp [fitL, fitV, lookC, pureV, aInts], ?_⟩ ?_
  · refine (FitH.froze (by simp) fun y hy => ?_).fs rfl
    simp only [List.mem_cons, List.not_mem_nil, or_false] at hy
    subst hy
    exact ⟨_, by simp [Heap.get, getFs, getF], fitL_pure (by simp [pureL]), by simp [pureL]⟩
  repeat refine wps_seq ?_
  refine wps_drawn mixed (callOKF [⟨19, _, _, _, _, hcl⟩, ⟨17, _, _, _, _, hro⟩]) (by decide +kernel) fun B_ hB_ => ?_
  have d_0_3 : ahead B_ 0 3 = false := by rw [hB_]; decide +kernel
  have d_0_6 : ahead B_ 0 6 = false := by rw [hB_]; decide +kernel
  have d_0_7 : ahead B_ 0 7 = true := by rw [hB_]; decide +kernel
  have d_0_11 : ahead B_ 0 11 = true := by rw [hB_]; decide +kernel
  have d_0_12 : ahead B_ 0 12 = true := by rw [hB_]; decide +kernel
  have d_0_14 : ahead B_ 0 14 = true := by rw [hB_]; decide +kernel
  have d_3_0 : ahead B_ 3 0 = false := by rw [hB_]; decide +kernel
  have d_3_8 : ahead B_ 3 8 = false := by rw [hB_]; decide +kernel
  have d_5_3 : ahead B_ 5 3 = false := by rw [hB_]; decide +kernel
  have d_5_6 : ahead B_ 5 6 = true := by rw [hB_]; decide +kernel
  have d_5_7 : ahead B_ 5 7 = true := by rw [hB_]; decide +kernel
  have d_5_11 : ahead B_ 5 11 = true := by rw [hB_]; decide +kernel
  have d_5_12 : ahead B_ 5 12 = true := by rw [hB_]; decide +kernel
  have d_5_14 : ahead B_ 5 14 = true := by rw [hB_]; decide +kernel
  have d_6_0 : ahead B_ 6 0 = false := by rw [hB_]; decide +kernel
  have d_6_8 : ahead B_ 6 8 = false := by rw [hB_]; decide +kernel
  have d_7_0 : ahead B_ 7 0 = false := by rw [hB_]; decide +kernel
  have d_7_8 : ahead B_ 7 8 = false := by rw [hB_]; decide +kernel
  have d_8_3 : ahead B_ 8 3 = false := by rw [hB_]; decide +kernel
  have d_8_6 : ahead B_ 8 6 = false := by rw [hB_]; decide +kernel
  have d_8_7 : ahead B_ 8 7 = false := by rw [hB_]; decide +kernel
  have d_8_11 : ahead B_ 8 11 = true := by rw [hB_]; decide +kernel
  have d_8_12 : ahead B_ 8 12 = true := by rw [hB_]; decide +kernel
  have d_8_14 : ahead B_ 8 14 = true := by rw [hB_]; decide +kernel
  have d_11_0 : ahead B_ 11 0 = false := by rw [hB_]; decide +kernel
  have d_11_8 : ahead B_ 11 8 = false := by rw [hB_]; decide +kernel
  have d_12_0 : ahead B_ 12 0 = false := by rw [hB_]; decide +kernel
  have d_12_8 : ahead B_ 12 8 = false := by rw [hB_]; decide +kernel
  have d_14_0 : ahead B_ 14 0 = false := by rw [hB_]; decide +kernel
  have d_14_8 : ahead B_ 14 8 = false := by rw [hB_]; decide +kernel
  simp [zS, mkBlk, guardA, evalD, stepD, clsOf, reserve, freshenAll, sameRecs, sameAll, sameAt, allPend, Heap.lay, ontoF, wantedBy, unwantedBy, d_0_3, d_0_6, d_0_7, d_0_11, d_0_12, d_0_14, d_3_0, d_3_8, d_5_3, d_5_6, d_5_7, d_5_11, d_5_12, d_5_14, d_6_0, d_6_8, d_7_0, d_7_8, d_8_3, d_8_6, d_8_7, d_8_11, d_8_12, d_8_14, d_11_0, d_11_8, d_12_0, d_12_8, d_14_0, d_14_8, callF, happ, ks, ke, ka]
  repeat refine wps_seq ?_
  refine wps_ret ?_
  simp [retVal, Tryz.f4, oneOr, thenQ, blockQ]
  exact ends_pure rfl (by rfl)
end Go.Proofs.YthclkpplpdnffaaGreatDoor
