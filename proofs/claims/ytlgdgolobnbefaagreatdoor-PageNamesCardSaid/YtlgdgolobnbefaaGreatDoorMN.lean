/- plain.Page. No condition. -/
import Derived.Test.YtlgdgolobnbefaaGreatDoorMM
import Derived.Test.YtlgdgolobnbefaaGreatDoorMH
namespace Go.Proofs.YtlgdgolobnbefaaGreatDoor
set_option linter.unusedSimpArgs false
set_option linter.unusedVariables false
open Go Go.RowKit
set_option maxRecDepth 100000
def neS (s : Str) : Bool := !decide (s = [])
theorem c7 {T : List (Entry Tryz.prog)} (hO : findE 21 T = some e21.g) (hV : findE 22 T = some e22.g) (hN : findE 51 T = some e51.g) (t : Tr) (ht : okTr t) : CallAt (ctx T) 7 [aTree t] ⟨0, []⟩ (aStrs (onL (allR t))) ⟨0, []⟩ := by
  have hk := fun H => k21 hO ht H
  obtain ⟨L, hL⟩ : ∃ L, L = orderOf t.length (kidsOf t) := ⟨_, rfl⟩
  have hLn : L.length ≤ 1000 := by have := order_len (n := t.length) (ks := kidsOf t); have := ht.1; rw [hL]; omega
  have hmem : ∀ y, y ∈ L → 0 ≤ y ∧ y < (t.length : Int) := fun y hy => order_mem (hL ▸ hy)
  rw [← hL] at hk
  simp only [aTree] at hk
  refine callAt_body (fn := Tryz.f7) (s0 := ⟨[0, 1, 2, 3, 4, 5, 7, 38, 39, 40], [aTree t, .undef, .undef, .undef, .undef, .undef, .undef, .undef, .undef, .undef], [], 53, ⟨0, [[]]⟩⟩) Tryz.func7 rfl rfl rfl ?_
  repeat refine wps_seq ?_
  refine wps_region callOK ?_
  simp [zS, aTree]
  repeat refine wps_seq ?_
  refine wps_region callOK ?_
  simp [zS]
  repeat refine wps_seq ?_
  refine wps_region callOK ?_
  simp [zS, hk]
  repeat refine wps_seq ?_
  refine wps_region callOK ?_
  simp [zS]
  repeat refine wps_seq ?_
  refine wps_block (wps_loop' (fun i : Nat => (⟨[0, 1, 2, 3, 4, 5, 7, 38, 39, 40], [.undef, .ptr 0 0, .undef, ownV 1 1 ((allTo t i).map .str), aInts L, .int .i64 i, .undef, .undef, .undef, .undef], [], 53, ⟨2, [ownF 1 ((allTo t i).map .str) ++ [(0, .cells [aNodes t])]]⟩⟩ : St))
    (fun i => i ≤ L.length) (fun i => L.length - i) [(1, 1), (0, 0)] [] 0 (Nat.zero_le _)
    ⟨rfl, rfl, rfl, by simp [fitL, fitV, lookN, pureV, allTo, ownV, aInts], .own1 (el_str _) (by simp [allTo]) (by simp) (by simp) (by simp) (by simp) (by simp [Heap.get, getFs, getF, pureL])⟩ ?_)
  rintro i hi B hB
  have hlen := allTo_len t i
  repeat refine wps_seq ?_
  refine wps_region callOK ?_
  simp [zS, lenI]
  repeat refine wps_seq ?_
  refine wps_cond rfl (fun h => ?_) fun h => ?_
  · simp at h
    repeat refine wps_seq ?_
    refine wps_skip ?_
    simp
    repeat refine wps_seq ?_
    refine wps_block ?_
    obtain ⟨y0, y1⟩ := hmem L[i] (List.getElem_mem _)
    have hat := allTo_at (t := t) (i := i) (by rw [← hL]; exact h)
    simp only [← hL] at hat
    obtain ⟨y, hy⟩ : ∃ y, y = L[i] := ⟨_, rfl⟩
    rw [← hy] at y0 y1 hat
    have hat2 := atI h
    rw [← hy] at hat2
    obtain ⟨O, hO2⟩ : ∃ O, O = allTo t i := ⟨_, rfl⟩
    rw [← hO2] at hat hlen ⊢
    have hge : ∀ f, getF 0 (ownF 1 (O.map AV.str) ++ [(0, Blk.cells [aNodes t])]) = some (.cells [aNodes t]) := fun _ => by rw [own_skip (by omega)]; rfl
    have kd : getL (nodeAt t y).cs 0 = some (.int .i64 (nodeAt t y).kind) := rfl
    by_cases hK : (nodeAt t y).kind = 1
    · have kv := fun nm H => k22 hV ht y nm H
      simp only [aTree] at kv
      have na : namesAt t y = [valueB t y wId, valueB t y wName].filter neS := by unfold namesAt; rw [if_pos hK]; rfl
      generalize hva : valueB t y wId = a at *
      generalize hvb : valueB t y wName = b at *
      have kva := fun H => kv wId H
      have kvb := fun H => kv wName H
      rw [hva] at kva
      rw [hvb] at kvb
      repeat refine wps_seq ?_
      refine wps_drawn mixed callOK (by decide +kernel) fun B_ hB_ => ?_
      apply drawE B_
      simp [zS, mkBlk, guardA, clsOf, reserve, freshenAll, wantedBy, unwantedBy, Heap.lay, ontoF, evE_c, evE_n, putE_s, putX_s, valE_s, redE_s, actE_s, layE_s, gateE_t, clsE_l, clsE_a, clsE_p, clsE_r, hat2, hge, atX y0 y1, kd, hK]
      exact rfl
      refine ⟨_, rfl, ?_, ?_⟩
      simp [zS, reserve, freshenAll, sameRecs, sameAll, sameAt, hat2, hge, atX y0 y1, kd, hK]
      simp [allPend, Heap.lay, ontoF, thenQ]
      repeat refine wps_seq ?_
      refine wps_cond (t := false) rfl (fun h => by cases h) fun _ => ?_
      repeat refine wps_seq ?_
      refine wps_skip ?_
      simp
      refine wps_seq ?_
      have lsl : ∀ H b c, lenA Tryz.prog H 23 (.slc b 0 2 c) = some 2 := fun H b c => rfl
      repeat refine wps_seq ?_
      refine wps_drawn mixed callOK (by decide +kernel) fun B_ hB_ => ?_
      have d_0_5 : ahead B_ 0 5 = true := by rw [hB_]; decide +kernel
      have d_0_11 : ahead B_ 0 11 = true := by rw [hB_]; decide +kernel
      have d_4_5 : ahead B_ 4 5 = true := by rw [hB_]; decide +kernel
      have d_4_11 : ahead B_ 4 11 = true := by rw [hB_]; decide +kernel
      have d_5_0 : ahead B_ 5 0 = false := by rw [hB_]; decide +kernel
      have d_5_4 : ahead B_ 5 4 = false := by rw [hB_]; decide +kernel
      have d_5_6 : ahead B_ 5 6 = false := by rw [hB_]; decide +kernel
      have d_5_10 : ahead B_ 5 10 = false := by rw [hB_]; decide +kernel
      have d_5_13 : ahead B_ 5 13 = true := by rw [hB_]; decide +kernel
      have d_6_5 : ahead B_ 6 5 = false := by rw [hB_]; decide +kernel
      have d_6_11 : ahead B_ 6 11 = true := by rw [hB_]; decide +kernel
      have d_10_5 : ahead B_ 10 5 = false := by rw [hB_]; decide +kernel
      have d_10_11 : ahead B_ 10 11 = true := by rw [hB_]; decide +kernel
      have d_11_0 : ahead B_ 11 0 = false := by rw [hB_]; decide +kernel
      have d_11_4 : ahead B_ 11 4 = false := by rw [hB_]; decide +kernel
      have d_11_6 : ahead B_ 11 6 = false := by rw [hB_]; decide +kernel
      have d_11_10 : ahead B_ 11 10 = false := by rw [hB_]; decide +kernel
      have d_11_13 : ahead B_ 11 13 = true := by rw [hB_]; decide +kernel
      have d_12_5 : ahead B_ 12 5 = false := by rw [hB_]; decide +kernel
      have d_12_11 : ahead B_ 12 11 = false := by rw [hB_]; decide +kernel
      have d_13_5 : ahead B_ 13 5 = false := by rw [hB_]; decide +kernel
      have d_13_11 : ahead B_ 13 11 = false := by rw [hB_]; decide +kernel
      apply drawE B_
      simp [zS, mkBlk, guardA, clsOf, reserve, freshenAll, wantedBy, unwantedBy, Heap.lay, ontoF, evE_c, evE_n, putE_s, putX_s, valE_s, redE_s, actE_s, layE_s, gateE_t, clsE_l, clsE_a, clsE_p, clsE_r, d_0_5, d_0_11, d_4_5, d_4_11, d_5_0, d_5_4, d_5_6, d_5_10, d_5_13, d_6_5, d_6_11, d_10_5, d_10_11, d_11_0, d_11_4, d_11_6, d_11_10, d_11_13, d_12_5, d_12_11, d_13_5, d_13_11, hat2, hge, kva, kvb, wId, wName, lsl]
      exact rfl
      refine ⟨_, rfl, ?_, ?_⟩
      simp [zS, reserve, freshenAll, sameRecs, sameAll, sameAt, d_0_5, d_0_11, d_4_5, d_4_11, d_5_0, d_5_4, d_5_6, d_5_10, d_5_13, d_6_5, d_6_11, d_10_5, d_10_11, d_11_0, d_11_4, d_11_6, d_11_10, d_11_13, d_12_5, d_12_11, d_13_5, d_13_11, hat2, hge, kva, kvb, wId, wName, lsl]
      simp [allPend, Heap.lay, ontoF, thenQ]
      have hOl : O.length + 2 ≤ 2003 := by omega
      repeat refine wps_seq ?_
      refine wps_block (wps_loop' (fun j : Nat => (⟨[0, 1, 2, 3, 4, 5, 7, 38, 39, 40], [.undef, .ptr 0 0, .undef, ownV 1 1 ((O ++ ([a, b].take j).filter neS).map .str), aInts L, .int .i64 i, .undef, .slc 2 0 2 (.ex 2), .int .i64 2, .int .i64 j], [], 53, ⟨3, [ownF 1 ((O ++ ([a, b].take j).filter neS).map .str) ++ [(2, .cells [.str a, .str b]), (0, .cells [aNodes t])]]⟩⟩ : St))
        (fun j => j ≤ 2) (fun j => 2 - j) [(1, 1), (24, 2), (0, 0)] [] 0 (by omega)
        ⟨rfl, rfl, rfl, ?_, ?_⟩ ?_)
      · simp [fitL, fitV, lookN, fitV_own, pureV, aInts]
      · have e0 : O ++ ([a, b].take 0).filter neS = O := by simp
        rw [e0]
        exact .own1 (el_str _) (fun h => by simp [Heap.get, getFs, getF, own_get h]) (by simp) (by simp) (by simp) (by simp) (by simp [Heap.get, getFs, getF, hge, pureL, pureV])
      rintro j hj B2 hB2
      obtain ⟨O2, hO3⟩ : ∃ O2, O2 = O ++ ([a, b].take j).filter neS := ⟨_, rfl⟩
      have hl2 : O2.length ≤ 2003 := by
        rw [hO3, List.length_append]
        have := List.length_filter_le neS ([a, b].take j)
        rw [List.length_take] at this
        simp at this
        omega
      rw [← hO3]
      repeat refine wps_seq ?_
      refine wps_region callOK ?_
      simp [zS]
      repeat refine wps_seq ?_
      refine wps_cond rfl (fun hc => ?_) fun hc => ?_
      · simp at hc
        have hc : j < 2 := by omega
        repeat refine wps_seq ?_
        refine wps_skip ?_
        simp
        refine wps_seq ?_
        repeat refine wps_seq ?_
        refine wps_block ?_
        have hs : ([a, b].take (j + 1)) = [a, b].take j ++ [[a, b][j]'(by simpa using hc)] := List.take_succ_eq_append_getElem (by simpa using hc)
        have hx : ([a, b].map AV.str)[j]'(by simpa using hc) = .str ([a, b][j]'(by simpa using hc)) := by rw [List.getElem_map]
        generalize [a, b][j]'(by simpa using hc) = c at hs hx
        have ixj : indexAddrA Tryz.prog 23 (.slc 2 0 2 (.ex 2)) (.int .i64 (j : Int)) = some (.ptr 2 j) := by simp [indexAddrA, idx_nat hc]
        have gj : getL [AV.str a, AV.str b] j = some (.str c) := by
          rw [getL_get (by simpa using hc)]
          exact congrArg some hx
        have g2 : getF 2 (ownF 1 (O2.map AV.str) ++ [(2, Blk.cells [.str a, .str b]), (0, Blk.cells [aNodes t])]) = some (.cells [.str a, .str b]) := by rw [own_skip (by omega)]; rfl
        have g0 : getF 0 (ownF 1 (O2.map AV.str) ++ [(2, Blk.cells [.str a, .str b]), (0, Blk.cells [aNodes t])]) = some (.cells [aNodes t]) := by rw [own_skip (by omega)]; rfl
        have en : O ++ ([a, b].take (j + 1)).filter neS = O2 ++ (if neS c = true then [c] else []) := by
          rw [hs, List.filter_append, hO3, List.append_assoc]
          congr 2
          by_cases hq : neS c = true <;> simp [hq]
        repeat refine wps_seq ?_
        refine wps_region callOK ?_
        simp [zS, ixj, g2, gj]
        by_cases hcn : c = []
        · have hq : neS c = false := by simp [neS, hcn]
          rw [hq] at en
          simp only [Bool.false_eq_true, if_false, List.append_nil] at en
          repeat refine wps_seq ?_
          refine wps_region callOK ?_
          simp [zS, hcn]
          repeat refine wps_seq ?_
          refine wps_cond (t := false) rfl (fun h => by cases h) fun _ => ?_
          repeat refine wps_seq ?_
          refine wps_skip ?_
          simp
          repeat refine wps_seq ?_
          refine wps_region callOK ?_
          simp [zS, add_one (show j ≤ 1000000000 by omega)]
          refine hB2 _ (j + 1) (by omega) (by omega) ⟨[(1, 1), (2, 2), (0, 0)], [], rfl, rfl, rfl, by rw [en]; simp [fitL, fitV, lookN, fitV_own, pureV, aInts], by rw [en]; exact .own1 (el_str _) (fun h => by simp [Heap.get, getFs, own_get h]) (by simp) (by simp) (by simp) (by simp) (by simp [Heap.get, getFs, g0, g2, pureL, pureV])⟩
        · have hq : neS c = true := by simp [neS, hcn]
          rw [hq] at en
          simp only [if_true] at en
          have happ := own_app1 (P := Tryz.prog) (elem := 9) (b := 1) (t := 3) (m := 4) (es := O2.map .str) (cs := [.str c]) (g := [(2, .cells [.str a, .str b]), (0, .cells [aNodes t])]) (fs := []) szT9 byT9 zeT9 rfl (by omega) (by omega) rfl rfl (el_str _) (by simp; omega) (by omega) (by simp) (by simp)
          repeat refine wps_seq ?_
          refine wps_region callOK ?_
          simp [zS, hcn]
          repeat refine wps_seq ?_
          refine wps_cond (t := true) rfl (fun _ => ?_) fun h => by cases h
          repeat refine wps_seq ?_
          refine wps_region callOK ?_
          simp [zS, happ]
          repeat refine wps_seq ?_
          refine wps_region callOK ?_
          simp [zS, add_one (show j ≤ 1000000000 by omega)]
          have hne : (O ++ ([a, b].take (j + 1)).filter neS).map AV.str ≠ [] := by rw [en]; simp
          refine hB2 _ (j + 1) (by omega) (by omega) ⟨[(4, 1), (2, 2), (0, 0)], [], rfl, rfl, rfl, ?_, .own1 (el_str _) (fun _ => ?_) (by simp) (by simp) (by simp) (by simp) (by simp [Heap.get, getFs, getF, pureL, pureV])⟩
          · rw [ownV_ne hne, en]; simp [fitL, fitV, lookN, pureV, aInts]
          · rw [en, List.map_append, flat_append]; simp [Heap.get, getFs, getF, flatAV, AV.cells]
      · simp at hc
        have hje : j = 2 := by omega
        subst hje
        have e2 : O2 = allTo t (i + 1) := by rw [hO3, hat, na]; rfl
        repeat refine wps_seq ?_
        refine wps_exit ?_
        simp
        rw [e2]
        repeat refine wps_seq ?_
        refine wps_region callOK ?_
        simp [zS, add_one (show i ≤ 1000000000 by omega)]
        refine hB _ (i + 1) (by omega) (by omega) ⟨[(1, 1), (0, 0)], [], rfl, rfl, rfl, by simp [fitL, fitV, lookN, fitV_own, pureV, aInts], .own1 (el_str _) (fun h => by simp [Heap.get, getFs, own_get h]) (by simp) (by simp) (by simp) (by simp) (by simp [Heap.get, getFs, getF, own_skip, pureL])⟩
    · have na : namesAt t y = [] := by unfold namesAt; rw [if_neg hK]
      repeat refine wps_seq ?_
      refine wps_drawn mixed callOK (by decide +kernel) fun B_ hB_ => ?_
      apply drawE B_
      simp [zS, mkBlk, guardA, clsOf, reserve, freshenAll, wantedBy, unwantedBy, Heap.lay, ontoF, evE_c, evE_n, putE_s, putX_s, valE_s, redE_s, actE_s, layE_s, gateE_t, clsE_l, clsE_a, clsE_p, clsE_r, hat2, hge, atX y0 y1, kd, hK]
      exact rfl
      refine ⟨_, rfl, ?_, ?_⟩
      simp [zS, reserve, freshenAll, sameRecs, sameAll, sameAt, hat2, hge, atX y0 y1, kd, hK]
      simp [allPend, Heap.lay, ontoF, thenQ]
      repeat refine wps_seq ?_
      refine wps_cond (t := true) rfl (fun _ => ?_) fun h => by cases h
      repeat refine wps_seq ?_
      refine wps_exit ?_
      simp
      repeat refine wps_seq ?_
      refine wps_region callOK ?_
      simp [zS, add_one (show i ≤ 1000000000 by omega)]
      rw [na, List.append_nil] at hat
      refine hB _ (i + 1) (by omega) (by omega) ⟨[(1, 1), (0, 0)], [], rfl, rfl, rfl, by rw [hat]; simp [fitL, fitV, lookN, fitV_own, pureV, aInts], by rw [hat]; exact .own1 (el_str _) (fun h => by simp [Heap.get, getFs, own_get h]) (by simp) (by simp) (by simp) (by simp) (by simp [Heap.get, getFs, hge, pureL])⟩
  · simp at h
    repeat refine wps_seq ?_
    refine wps_exit ?_
    simp
    have hie : i = L.length := by omega
    subst hie
    have e1 : allTo t L.length = allR t := by unfold allTo allR; rw [← hL, List.take_length]
    rw [e1] at hlen ⊢
    have hon := (frozen_once (T := T) hN (allR t) (by omega)).lift (by simp [pureL, aStrs, pureV]) ⟨2, [[(0, .cells [aNodes t])]]⟩
    have hon' : CallAt (ctx T) 23 [ownV 1 1 ((allR t).map .str)] ⟨2, [ownF 1 ((allR t).map .str) ++ [(0, .cells [aNodes t])]]⟩ (aStrs (onL (allR t))) ⟨2, [[(0, .cells [aNodes t])]]⟩ := by
      by_cases hw : (allR t).map AV.str = []
      · refine hon.drop (σ := [(0, 0)]) (Φ := []) (fun nd => ?_) ?_
        · rw [hw]
          exact .same (by simp) (by simp) (by simp) (by simp) (by simp [Heap.ents]) (by simp [Heap.ents, ownF, Heap.get, getFs, getF, fitB, fitL_pure, pureL])
        · simp only [aStrs, hw]
          simp [fitL, fitV, ownV]
      · refine hon.drop (σ := [(0, 0)]) (Φ := [(1, flatAV ((allR t).map AV.str))]) (fun nd => ⟨by simp, by simp, by simp [Heap.ents], by simp, fun z hz h => ?_, by simp, fun e he => ?_, fun z hz => ?_⟩) ?_
        · simp at hz
          subst hz; rfl
        · simp only [Heap.ents, List.flatten_cons, List.flatten_nil, List.append_nil, List.mem_singleton] at he
          subst he
          exact ⟨0, .cells [aNodes t], by simp, by simp [Heap.get, getFs, own_skip, getF], fitL_pure (by simp [pureL])⟩
        · simp only [List.mem_singleton] at hz
          subst hz
          exact ⟨_, by simp [Heap.get, getFs, own_get hw], fitL_pure (el_str _).pure, (el_str _).pure⟩
        · simp only [fitL, and_true]
          rw [ownV_ne hw]
          simp only [fitV, aStrs]
          refine .inl ⟨flatAV ((allR t).map AV.str), by simp [lookC], ?_, by simp, (el_str _).size⟩
          have := sub_pre (el_str (allR t)) (k := (allR t).length) (by simp)
          rw [List.take_of_length_le (by simp)] at this
          simpa using this
    refine wps_seq ?_
    repeat refine wps_seq ?_
    refine wps_region (callOKF [⟨23, _, _, _, _, hon'⟩]) ?_
    simp [zS, callF]
    repeat refine wps_seq ?_
    refine wps_ret ?_
    simp [retVal, Tryz.f7, oneOr]
    exact ⟨[], [], fitV_pure (by simp [aStrs, pureV]), FitH.empty⟩
def fewWs (L : List Str) (m : Int) : Bool := decide ((L.length : Int) ≤ m) && L.all fun s => decide (s.length ≤ 100)
theorem c10 {T : List (Entry Tryz.prog)} (L : List Str) (m : Int) (hm : m ≤ 1000000) : CallAt (ctx T) 10 [aStrs L, .int .i64 m] ⟨0, []⟩ (.bool (fewWs L m)) ⟨0, []⟩ := by
  refine callAt_body (fn := Tryz.f10) (s0 := ⟨[0, 1, 4, 6, 11, 12, 13], [aStrs L, .int .i64 m, .undef, .undef, .undef, .undef, .undef], [], 21, ⟨0, [[]]⟩⟩) Tryz.func10 rfl rfl rfl ?_
  repeat refine wps_seq ?_
  refine wps_region callOK ?_
  simp [zS]
  by_cases c0 : m < (L.length : Int)
  · repeat refine wps_seq ?_
    refine wps_region callOK ?_
    simp [zS, lenS, c0]
    repeat refine wps_seq ?_
    refine wps_cond (t := true) rfl (fun _ => ?_) fun h => by cases h
    repeat refine wps_seq ?_
    refine wps_region callOK ?_
    simp [zS]
    repeat refine wps_seq ?_
    refine wps_ret ?_
    simp [retVal, Tryz.f10, oneOr, thenQ, blockQ]
    exact ends_pure rfl (by simp [fewWs]; omega)
  · repeat refine wps_seq ?_
    refine wps_region callOK ?_
    simp [zS, lenS, c0]
    repeat refine wps_seq ?_
    refine wps_cond (t := false) rfl (fun h => by cases h) fun _ => ?_
    repeat refine wps_seq ?_
    refine wps_skip ?_
    simp
    repeat refine wps_seq ?_
    refine wps_region callOK ?_
    simp [zS, lenS]
    repeat refine wps_seq ?_
    refine wps_block (wps_loop' (fun i : Nat => (⟨[0, 1, 4, 6, 11, 12, 13], [.undef, .undef, .undef, .undef, aStrs L, .int .i64 (L.length : Nat), .int .i64 i], [], 21, ⟨0, [[]]⟩⟩ : St))
      (fun i => i ≤ L.length ∧ ∀ s, s ∈ L.take i → s.length ≤ 100) (fun i => L.length - i) [] [] 0 ⟨Nat.zero_le _, by simp⟩ ⟨rfl, rfl, rfl, by simp [fitL, fitV, pureV, pureL], FitH.nothing⟩ ?_)
    rintro i ⟨hi, hx⟩ B hB
    repeat refine wps_seq ?_
    refine wps_region callOK ?_
    simp [zS]
    repeat refine wps_seq ?_
    refine wps_cond rfl (fun h => ?_) fun h => ?_
    · simp at h
      repeat refine wps_seq ?_
      refine wps_skip ?_
      simp
      repeat refine wps_seq ?_
      refine wps_block ?_
      repeat refine wps_seq ?_
      refine wps_region callOK ?_
      simp [zS, atS h]
      by_cases c1 : 100 < (L[i].length : Int)
      · repeat refine wps_seq ?_
        refine wps_region callOK ?_
        simp [zS, c1]
        repeat refine wps_seq ?_
        refine wps_cond (t := true) rfl (fun _ => ?_) fun h => by cases h
        repeat refine wps_seq ?_
        refine wps_region callOK ?_
        simp [zS]
        have h1 : ¬ L[i].length ≤ 100 := by omega
        have h2 : (L.all fun s => decide (s.length ≤ 100)) = false := by
          rw [List.all_eq_false]
          exact ⟨L[i], List.getElem_mem _, by simpa using h1⟩
        repeat refine wps_seq ?_
        refine wps_ret ?_
        simp [retVal, Tryz.f10, oneOr, thenQ, blockQ]
        exact ends_pure rfl (by simp [fewWs, h2])
      · repeat refine wps_seq ?_
        refine wps_region callOK ?_
        simp [zS, c1]
        repeat refine wps_seq ?_
        refine wps_cond (t := false) rfl (fun h => by cases h) fun _ => ?_
        repeat refine wps_seq ?_
        refine wps_skip ?_
        simp
        repeat refine wps_seq ?_
        refine wps_region callOK ?_
        simp [zS, add_one (show i ≤ 1000000000 by omega)]
        refine hB _ (i + 1) (by omega) ⟨by omega, fun s hs => ?_⟩ ⟨[], [], ⟨rfl, rfl, rfl, by simp [fitL, fitV, pureV, pureL], FitH.nothing⟩⟩
        rw [List.take_succ_eq_append_getElem h, List.mem_append, List.mem_singleton] at hs
        rcases hs with hs | rfl
        · exact hx s hs
        · omega
    · simp at h
      repeat refine wps_seq ?_
      refine wps_exit ?_
      simp
      repeat refine wps_seq ?_
      refine wps_region callOK ?_
      simp [zS]
      rw [List.take_of_length_le h] at hx
      have h2 : (L.all fun s => decide (s.length ≤ 100)) = true := by
        rw [List.all_eq_true]
        exact fun s hs => by simpa using hx s hs
      repeat refine wps_seq ?_
      refine wps_ret ?_
      simp [retVal, Tryz.f10, oneOr, thenQ, blockQ]
      exact ends_pure rfl (by simp [fewWs, h2]; omega)
theorem injSI (x y : List Str × Int) (h : [aStrs x.1, .int .i64 x.2] = [aStrs y.1, .int .i64 y.2]) : x = y := by
  simp only [List.cons.injEq] at h
  obtain ⟨h1, h2, _⟩ := h
  simp only [AV.int.injEq, true_and] at h2
  exact Prod.ext (inj_strs h1) h2
noncomputable def e10 : Entry Tryz.prog := mkE 10 [[1], []] (fun x : List Str × Int => [aStrs x.1, .int .i64 x.2]) (fun x => x.2 ≤ 1000000) (fun x => .bool (fewWs x.1 x.2)) fun x hx => c10 (T := []) x.1 x.2 hx
theorem k10 {T : List (Entry Tryz.prog)} (hT : findE 10 T = some e10.g) (L : List Str) {m : Int} (hm : m ≤ 1000000) (H : Heap) : callL (ctx T) (.fn 10) [aStrs L, .int .i64 m] H = some (.bool (fewWs L m), H) :=
  mkE_scalar hT injSI (L, m) hm rfl (by simp [aStrs])
theorem few_ws {L : List Str} {m : Int} (h : fewWs L m = true) : (L.length : Int) ≤ m ∧ ∀ s, s ∈ L → s.length ≤ 100 := by
  simp only [fewWs, Bool.and_eq_true, decide_eq_true_eq, List.all_eq_true] at h
  exact h
def fewC (c : Ct) : Bool := decide (c.name.length ≤ 40) && decide (c.id.length ≤ 100) && decide (c.label.length ≤ 100)
def fewP (p : Pt) : Bool := decide (p.name.length ≤ 40) && decide (p.id.length ≤ 100) && decide (p.label.length ≤ 100) && decide (p.form.length ≤ 100) && decide (p.text.length ≤ 200) && decide (p.ctls.length ≤ 8) && p.ctls.all fewC
theorem c11 {T : List (Entry Tryz.prog)} (p : Pt) : CallAt (ctx T) 11 [aPt p] ⟨0, []⟩ (.bool (fewP p)) ⟨0, []⟩ := by
  obtain ⟨nm, id, lb, fm, tx, L⟩ := p
  simp only [fewP, aPt, Pt.cs]
  by_cases c1 : 40 < (nm.length : Int)
  · refine callAt_body (fn := Tryz.f11) (s0 := ⟨[0, 1, 2, 4, 40, 41, 42], [.agg [.str nm, .str id, .str lb, .str fm, .str tx, aCts L], .undef, .undef, .undef, .undef, .undef, .undef], [], 63, ⟨0, [[]]⟩⟩) Tryz.func11 rfl rfl rfl ?_
    repeat refine wps_seq ?_
    refine wps_region callOK ?_
    simp [zS]
    repeat refine wps_seq ?_
    refine wps_region callOK ?_
    simp [zS, lenCt, c1]
    repeat refine wps_seq ?_
    refine wps_cond (t := true) rfl (fun _ => ?_) fun h => by cases h
    repeat refine wps_seq ?_
    refine wps_region callOK ?_
    simp [zS]
    repeat refine wps_seq ?_
    refine wps_ret ?_
    simp [retVal, Tryz.f11, oneOr, thenQ, blockQ]
    exact ends_pure rfl (by simp; omega)
  · by_cases c2 : 100 < (id.length : Int)
    · refine callAt_body (fn := Tryz.f11) (s0 := ⟨[0, 1, 2, 4, 40, 41, 42], [.agg [.str nm, .str id, .str lb, .str fm, .str tx, aCts L], .undef, .undef, .undef, .undef, .undef, .undef], [], 63, ⟨0, [[]]⟩⟩) Tryz.func11 rfl rfl rfl ?_
      repeat refine wps_seq ?_
      refine wps_region callOK ?_
      simp [zS]
      repeat refine wps_seq ?_
      refine wps_region callOK ?_
      simp [zS, lenCt, c1, c2]
      repeat refine wps_seq ?_
      refine wps_cond (t := true) rfl (fun _ => ?_) fun h => by cases h
      repeat refine wps_seq ?_
      refine wps_region callOK ?_
      simp [zS]
      repeat refine wps_seq ?_
      refine wps_ret ?_
      simp [retVal, Tryz.f11, oneOr, thenQ, blockQ]
      exact ends_pure rfl (by simp; omega)
    · by_cases c3 : 100 < (lb.length : Int)
      · refine callAt_body (fn := Tryz.f11) (s0 := ⟨[0, 1, 2, 4, 40, 41, 42], [.agg [.str nm, .str id, .str lb, .str fm, .str tx, aCts L], .undef, .undef, .undef, .undef, .undef, .undef], [], 63, ⟨0, [[]]⟩⟩) Tryz.func11 rfl rfl rfl ?_
        repeat refine wps_seq ?_
        refine wps_region callOK ?_
        simp [zS]
        repeat refine wps_seq ?_
        refine wps_region callOK ?_
        simp [zS, lenCt, c1, c2, c3]
        repeat refine wps_seq ?_
        refine wps_cond (t := true) rfl (fun _ => ?_) fun h => by cases h
        repeat refine wps_seq ?_
        refine wps_region callOK ?_
        simp [zS]
        repeat refine wps_seq ?_
        refine wps_ret ?_
        simp [retVal, Tryz.f11, oneOr, thenQ, blockQ]
        exact ends_pure rfl (by simp; omega)
      · by_cases c4 : 100 < (fm.length : Int)
        · refine callAt_body (fn := Tryz.f11) (s0 := ⟨[0, 1, 2, 4, 40, 41, 42], [.agg [.str nm, .str id, .str lb, .str fm, .str tx, aCts L], .undef, .undef, .undef, .undef, .undef, .undef], [], 63, ⟨0, [[]]⟩⟩) Tryz.func11 rfl rfl rfl ?_
          repeat refine wps_seq ?_
          refine wps_region callOK ?_
          simp [zS]
          repeat refine wps_seq ?_
          refine wps_region callOK ?_
          simp [zS, lenCt, c1, c2, c3, c4]
          repeat refine wps_seq ?_
          refine wps_cond (t := true) rfl (fun _ => ?_) fun h => by cases h
          repeat refine wps_seq ?_
          refine wps_region callOK ?_
          simp [zS]
          repeat refine wps_seq ?_
          refine wps_ret ?_
          simp [retVal, Tryz.f11, oneOr, thenQ, blockQ]
          exact ends_pure rfl (by simp; omega)
        · by_cases c5 : 200 < (tx.length : Int)
          · refine callAt_body (fn := Tryz.f11) (s0 := ⟨[0, 1, 2, 4, 40, 41, 42], [.agg [.str nm, .str id, .str lb, .str fm, .str tx, aCts L], .undef, .undef, .undef, .undef, .undef, .undef], [], 63, ⟨0, [[]]⟩⟩) Tryz.func11 rfl rfl rfl ?_
            repeat refine wps_seq ?_
            refine wps_region callOK ?_
            simp [zS]
            repeat refine wps_seq ?_
            refine wps_region callOK ?_
            simp [zS, lenCt, c1, c2, c3, c4, c5]
            repeat refine wps_seq ?_
            refine wps_cond (t := true) rfl (fun _ => ?_) fun h => by cases h
            repeat refine wps_seq ?_
            refine wps_region callOK ?_
            simp [zS]
            repeat refine wps_seq ?_
            refine wps_ret ?_
            simp [retVal, Tryz.f11, oneOr, thenQ, blockQ]
            exact ends_pure rfl (by simp; omega)
          · by_cases c6 : 8 < (L.length : Int)
            · refine callAt_body (fn := Tryz.f11) (s0 := ⟨[0, 1, 2, 4, 40, 41, 42], [.agg [.str nm, .str id, .str lb, .str fm, .str tx, aCts L], .undef, .undef, .undef, .undef, .undef, .undef], [], 63, ⟨0, [[]]⟩⟩) Tryz.func11 rfl rfl rfl ?_
              repeat refine wps_seq ?_
              refine wps_region callOK ?_
              simp [zS]
              repeat refine wps_seq ?_
              refine wps_region callOK ?_
              simp [zS, lenCt, c1, c2, c3, c4, c5, c6]
              repeat refine wps_seq ?_
              refine wps_cond (t := true) rfl (fun _ => ?_) fun h => by cases h
              repeat refine wps_seq ?_
              refine wps_region callOK ?_
              simp [zS]
              repeat refine wps_seq ?_
              refine wps_ret ?_
              simp [retVal, Tryz.f11, oneOr, thenQ, blockQ]
              exact ends_pure rfl (by simp; omega)
            · refine callAt_body (fn := Tryz.f11) (s0 := ⟨[0, 1, 2, 4, 40, 41, 42], [.agg [.str nm, .str id, .str lb, .str fm, .str tx, aCts L], .undef, .undef, .undef, .undef, .undef, .undef], [], 63, ⟨0, [[]]⟩⟩) Tryz.func11 rfl rfl rfl ?_
              repeat refine wps_seq ?_
              refine wps_region callOK ?_
              simp [zS]
              repeat refine wps_seq ?_
              refine wps_region callOK ?_
              simp [zS, lenCt, c1, c2, c3, c4, c5, c6]
              repeat refine wps_seq ?_
              refine wps_cond (t := false) rfl (fun h => by cases h) fun _ => ?_
              repeat refine wps_seq ?_
              refine wps_skip ?_
              simp
              repeat refine wps_seq ?_
              refine wps_region callOK ?_
              simp [zS, lenCt]
              repeat refine wps_seq ?_
              refine wps_block (wps_loop' (fun i : Nat => (⟨[0, 1, 2, 4, 40, 41, 42], [.undef, .undef, .undef, .undef, aCts L, .int .i64 (L.length : Nat), .int .i64 i], [], 63, ⟨0, [[]]⟩⟩ : St))
                (fun i => i ≤ L.length ∧ ∀ s, s ∈ L.take i → fewC s = true) (fun i => L.length - i) [] [] 0 ⟨Nat.zero_le _, by simp⟩ ⟨rfl, rfl, rfl, by simp [fitL, fitV, pureV, pureL], FitH.nothing⟩ ?_)
              rintro i ⟨hi, hx⟩ B hB
              repeat refine wps_seq ?_
              refine wps_region callOK ?_
              simp [zS]
              repeat refine wps_seq ?_
              refine wps_cond rfl (fun h => ?_) fun h => ?_
              · simp at h
                repeat refine wps_seq ?_
                refine wps_skip ?_
                simp
                repeat refine wps_seq ?_
                refine wps_block ?_
                repeat refine wps_seq ?_
                refine wps_region callOK ?_
                simp [zS, atCt h]
                obtain ⟨c, hc⟩ : ∃ c, c = L[i] := ⟨_, rfl⟩
                rw [← hc]
                have mc : c ∈ L := by rw [hc]; exact List.getElem_mem _
                by_cases q1 : 40 < (c.name.length : Int)
                · repeat refine wps_seq ?_
                  refine wps_region callOK ?_
                  simp [zS, q1]
                  repeat refine wps_seq ?_
                  refine wps_cond (t := true) rfl (fun _ => ?_) fun h => by cases h
                  repeat refine wps_seq ?_
                  refine wps_region callOK ?_
                  simp [zS]
                  have h1 : fewC c = false := by simp [fewC]; omega
                  have h2 : L.all fewC = false := by
                    rw [List.all_eq_false]
                    exact ⟨c, mc, by simp [h1]⟩
                  repeat refine wps_seq ?_
                  refine wps_ret ?_
                  simp [retVal, Tryz.f11, oneOr, thenQ, blockQ]
                  exact ends_pure rfl (by simp [h2])
                · by_cases q2 : 100 < (c.id.length : Int)
                  · repeat refine wps_seq ?_
                    refine wps_region callOK ?_
                    simp [zS, q1, q2]
                    repeat refine wps_seq ?_
                    refine wps_cond (t := true) rfl (fun _ => ?_) fun h => by cases h
                    repeat refine wps_seq ?_
                    refine wps_region callOK ?_
                    simp [zS]
                    have h1 : fewC c = false := by simp [fewC]; omega
                    have h2 : L.all fewC = false := by
                      rw [List.all_eq_false]
                      exact ⟨c, mc, by simp [h1]⟩
                    repeat refine wps_seq ?_
                    refine wps_ret ?_
                    simp [retVal, Tryz.f11, oneOr, thenQ, blockQ]
                    exact ends_pure rfl (by simp [h2])
                  · by_cases q3 : 100 < (c.label.length : Int)
                    · repeat refine wps_seq ?_
                      refine wps_region callOK ?_
                      simp [zS, q1, q2, q3]
                      repeat refine wps_seq ?_
                      refine wps_cond (t := true) rfl (fun _ => ?_) fun h => by cases h
                      repeat refine wps_seq ?_
                      refine wps_region callOK ?_
                      simp [zS]
                      have h1 : fewC c = false := by simp [fewC]; omega
                      have h2 : L.all fewC = false := by
                        rw [List.all_eq_false]
                        exact ⟨c, mc, by simp [h1]⟩
                      repeat refine wps_seq ?_
                      refine wps_ret ?_
                      simp [retVal, Tryz.f11, oneOr, thenQ, blockQ]
                      exact ends_pure rfl (by simp [h2])
                    · repeat refine wps_seq ?_
                      refine wps_region callOK ?_
                      simp [zS, q1, q2, q3]
                      repeat refine wps_seq ?_
                      refine wps_cond (t := false) rfl (fun h => by cases h) fun _ => ?_
                      repeat refine wps_seq ?_
                      refine wps_skip ?_
                      simp
                      have h1 : fewC c = true := by simp [fewC]; omega
                      repeat refine wps_seq ?_
                      refine wps_region callOK ?_
                      simp [zS, add_one (show i ≤ 1000000000 by omega)]
                      refine hB _ (i + 1) (by omega) ⟨by omega, fun s hs => ?_⟩ ⟨[], [], ⟨rfl, rfl, rfl, by simp [fitL, fitV, pureV, pureL], FitH.nothing⟩⟩
                      rw [List.take_succ_eq_append_getElem h, List.mem_append, List.mem_singleton] at hs
                      rcases hs with hs | hs
                      · exact hx s hs
                      · rw [hs, ← hc]; exact h1
              · simp at h
                repeat refine wps_seq ?_
                refine wps_exit ?_
                simp
                repeat refine wps_seq ?_
                refine wps_region callOK ?_
                simp [zS]
                rw [List.take_of_length_le h] at hx
                have h2 : L.all fewC = true := by
                  rw [List.all_eq_true]
                  exact hx
                repeat refine wps_seq ?_
                refine wps_ret ?_
                simp [retVal, Tryz.f11, oneOr, thenQ, blockQ]
                exact ends_pure rfl (by simp [h2]; omega)
noncomputable def e11 : Entry Tryz.prog := mkE 11 [[]] (fun p : Pt => [aPt p]) (fun _ => True) (fun p => .bool (fewP p)) fun p _ => c11 (T := []) p
theorem k11 {T : List (Entry Tryz.prog)} (hT : findE 11 T = some e11.g) (p : Pt) (H : Heap) : callL (ctx T) (.fn 11) [aPt p] H = some (.bool (fewP p), H) :=
  mkE_scalar hT (fun x y h => by simp at h; exact inj_aPt h) p trivial rfl (by simp [thawA_ok])
def fewG (x : Pg) : Bool := decide (x.title.length ≤ 200) && decide (x.before.length ≤ 24) && decide (x.after.length ≤ 24) && fewWs x.around 8 && x.before.all fewP && x.after.all fewP
theorem c4 {T : List (Entry Tryz.prog)} (hP : findE 11 T = some e11.g) (hW : findE 10 T = some e10.g) (x : Pg) : CallAt (ctx T) 4 [aPg x] ⟨0, []⟩ (.bool (fewG x)) ⟨0, []⟩ := by
  have kw := fun H => k10 hW x.around (m := 8) (by omega) H
  have sx : allSingle x.cs = true := rfl
  have x0 : getL x.cs 0 = some (.str x.title) := rfl
  have x1 : getL x.cs 1 = some (aPts x.before) := rfl
  have x2 : getL x.cs 2 = some (aStrs x.around) := rfl
  have x3 : getL x.cs 3 = some (aPts x.after) := rfl
  simp only [fewG]
  generalize fewWs x.around 8 = w at *
  by_cases c1 : 200 < (x.title.length : Int)
  · refine callAt_body (fn := Tryz.f4) (s0 := ⟨[0, 1, 2, 4, 6, 30, 31, 32, 41, 42, 43], [aPg x, .undef, .undef, .undef, .undef, .undef, .undef, .undef, .undef, .undef, .undef], [], 51, ⟨0, [[]]⟩⟩) Tryz.func4 rfl rfl rfl ?_
    repeat refine wps_seq ?_
    refine wps_region callOK ?_
    simp [zS, aPg, sx]
    repeat refine wps_seq ?_
    refine wps_region callOK ?_
    simp [zS, lenPt, kw, x0, x1, x2, x3, c1]
    repeat refine wps_seq ?_
    refine wps_cond (t := true) rfl (fun _ => ?_) fun h => by cases h
    repeat refine wps_seq ?_
    refine wps_region callOK ?_
    simp [zS]
    repeat refine wps_seq ?_
    refine wps_ret ?_
    simp [retVal, Tryz.f4, oneOr, thenQ, blockQ]
    exact ends_pure rfl (by simp [c1]; try omega)
  · by_cases c2 : 24 < (x.before.length : Int)
    · refine callAt_body (fn := Tryz.f4) (s0 := ⟨[0, 1, 2, 4, 6, 30, 31, 32, 41, 42, 43], [aPg x, .undef, .undef, .undef, .undef, .undef, .undef, .undef, .undef, .undef, .undef], [], 51, ⟨0, [[]]⟩⟩) Tryz.func4 rfl rfl rfl ?_
      repeat refine wps_seq ?_
      refine wps_region callOK ?_
      simp [zS, aPg, sx]
      repeat refine wps_seq ?_
      refine wps_region callOK ?_
      simp [zS, lenPt, kw, x0, x1, x2, x3, c1, c2]
      repeat refine wps_seq ?_
      refine wps_cond (t := true) rfl (fun _ => ?_) fun h => by cases h
      repeat refine wps_seq ?_
      refine wps_region callOK ?_
      simp [zS]
      repeat refine wps_seq ?_
      refine wps_ret ?_
      simp [retVal, Tryz.f4, oneOr, thenQ, blockQ]
      exact ends_pure rfl (by simp [c1, c2]; try omega)
    · by_cases c3 : 24 < (x.after.length : Int)
      · refine callAt_body (fn := Tryz.f4) (s0 := ⟨[0, 1, 2, 4, 6, 30, 31, 32, 41, 42, 43], [aPg x, .undef, .undef, .undef, .undef, .undef, .undef, .undef, .undef, .undef, .undef], [], 51, ⟨0, [[]]⟩⟩) Tryz.func4 rfl rfl rfl ?_
        repeat refine wps_seq ?_
        refine wps_region callOK ?_
        simp [zS, aPg, sx]
        repeat refine wps_seq ?_
        refine wps_region callOK ?_
        simp [zS, lenPt, kw, x0, x1, x2, x3, c1, c2, c3]
        repeat refine wps_seq ?_
        refine wps_cond (t := true) rfl (fun _ => ?_) fun h => by cases h
        repeat refine wps_seq ?_
        refine wps_region callOK ?_
        simp [zS]
        repeat refine wps_seq ?_
        refine wps_ret ?_
        simp [retVal, Tryz.f4, oneOr, thenQ, blockQ]
        exact ends_pure rfl (by simp [c1, c2, c3]; try omega)
      · by_cases c4 : w = false
        · refine callAt_body (fn := Tryz.f4) (s0 := ⟨[0, 1, 2, 4, 6, 30, 31, 32, 41, 42, 43], [aPg x, .undef, .undef, .undef, .undef, .undef, .undef, .undef, .undef, .undef, .undef], [], 51, ⟨0, [[]]⟩⟩) Tryz.func4 rfl rfl rfl ?_
          repeat refine wps_seq ?_
          refine wps_region callOK ?_
          simp [zS, aPg, sx]
          repeat refine wps_seq ?_
          refine wps_region callOK ?_
          simp [zS, lenPt, kw, x0, x1, x2, x3, c1, c2, c3, c4]
          repeat refine wps_seq ?_
          refine wps_cond (t := true) rfl (fun _ => ?_) fun h => by cases h
          repeat refine wps_seq ?_
          refine wps_region callOK ?_
          simp [zS]
          repeat refine wps_seq ?_
          refine wps_ret ?_
          simp [retVal, Tryz.f4, oneOr, thenQ, blockQ]
          exact ends_pure rfl (by simp [c1, c2, c3, c4]; try omega)
        · have hw : w = true := by simpa using c4
          refine callAt_body (fn := Tryz.f4) (s0 := ⟨[0, 1, 2, 4, 6, 30, 31, 32, 41, 42, 43], [aPg x, .undef, .undef, .undef, .undef, .undef, .undef, .undef, .undef, .undef, .undef], [], 51, ⟨0, [[]]⟩⟩) Tryz.func4 rfl rfl rfl ?_
          repeat refine wps_seq ?_
          refine wps_region callOK ?_
          simp [zS, aPg, sx]
          repeat refine wps_seq ?_
          refine wps_region callOK ?_
          simp [zS, lenPt, kw, x0, x1, x2, x3, c1, c2, c3, c4, hw]
          repeat refine wps_seq ?_
          refine wps_cond (t := false) rfl (fun h => by cases h) fun _ => ?_
          repeat refine wps_seq ?_
          refine wps_skip ?_
          simp
          repeat refine wps_seq ?_
          refine wps_region callOK ?_
          simp [zS, lenPt, x1]
          repeat refine wps_seq ?_
          refine wps_block (wps_loop' (fun i : Nat => (⟨[0, 1, 2, 4, 6, 30, 31, 32, 41, 42, 43], [.undef, .ptr 0 0, .undef, .undef, .undef, aPts x.before, .int .i64 (x.before.length : Nat), .int .i64 i, .undef, .undef, .undef], [], 51, ⟨1, [[(0, .cells x.cs)]]⟩⟩ : St))
            (fun i => i ≤ x.before.length ∧ ∀ s, s ∈ x.before.take i → fewP s = true) (fun i => x.before.length - i) [(0, 0)] [] 0 ⟨Nat.zero_le _, by simp⟩ ⟨rfl, rfl, rfl, by simp [fitL, fitV, lookN, pureV], .keep1 (by simp [Heap.get, getFs, getF]) (pure_Pgcs x) rfl⟩ ?_)
          rintro i ⟨hi, hx⟩ B hB
          repeat refine wps_seq ?_
          refine wps_region callOK ?_
          simp [zS]
          repeat refine wps_seq ?_
          refine wps_cond rfl (fun h => ?_) fun h => ?_
          · simp at h
            repeat refine wps_seq ?_
            refine wps_skip ?_
            simp
            repeat refine wps_seq ?_
            refine wps_block ?_
            repeat refine wps_seq ?_
            refine wps_region callOK ?_
            simp [zS, atPt h, Pt.cs]
            obtain ⟨p, hp⟩ : ∃ p, p = x.before[i] := ⟨_, rfl⟩
            rw [← hp]
            have mp : p ∈ x.before := by rw [hp]; exact List.getElem_mem _
            have kp := fun H => k11 hP p H
            simp only [aPt, Pt.cs] at kp
            rcases Bool.eq_false_or_eq_true (fewP p) with q | q
            · rw [q] at kp
              repeat refine wps_seq ?_
              refine wps_region callOK ?_
              simp [zS, kp]
              repeat refine wps_seq ?_
              refine wps_cond (t := false) rfl (fun h => by cases h) fun _ => ?_
              repeat refine wps_seq ?_
              refine wps_skip ?_
              simp
              repeat refine wps_seq ?_
              refine wps_region callOK ?_
              simp [zS, add_one (show i ≤ 1000000000 by omega)]
              refine hB _ (i + 1) (by omega) ⟨by omega, fun s hs => ?_⟩ ⟨[(0, 0)], [], rfl, rfl, rfl, by simp [fitL, fitV, lookN, pureV], .keep1 (by simp [Heap.get, getFs, getF]) (pure_Pgcs x) rfl⟩
              rw [List.take_succ_eq_append_getElem h, List.mem_append, List.mem_singleton] at hs
              rcases hs with hs | hs
              · exact hx s hs
              · rw [hs, ← hp]; exact q
            · rw [q] at kp
              repeat refine wps_seq ?_
              refine wps_region callOK ?_
              simp [zS, kp]
              repeat refine wps_seq ?_
              refine wps_cond (t := true) rfl (fun _ => ?_) fun h => by cases h
              repeat refine wps_seq ?_
              refine wps_region callOK ?_
              simp [zS]
              have h2 : x.before.all fewP = false := by
                rw [List.all_eq_false]
                exact ⟨p, mp, by simp [q]⟩
              repeat refine wps_seq ?_
              refine wps_ret ?_
              simp [retVal, Tryz.f4, oneOr, thenQ, blockQ]
              exact ends_pure rfl (by simp [h2])
          · simp at h
            repeat refine wps_seq ?_
            refine wps_exit ?_
            simp
            rw [List.take_of_length_le h] at hx
            have h3 : x.before.all fewP = true := by
              rw [List.all_eq_true]
              exact hx
            clear hx hB B hi h
            repeat refine wps_seq ?_
            refine wps_region callOK ?_
            simp [zS, x3, lenPt]
            repeat refine wps_seq ?_
            refine wps_block (wps_loop' (fun i : Nat => (⟨[0, 1, 2, 4, 6, 30, 31, 32, 41, 42, 43], [.undef, .ptr 0 0, .undef, .undef, .undef, .undef, .undef, .undef, aPts x.after, .int .i64 (x.after.length : Nat), .int .i64 i], [], 51, ⟨1, [[(0, .cells x.cs)]]⟩⟩ : St))
              (fun i => i ≤ x.after.length ∧ ∀ s, s ∈ x.after.take i → fewP s = true) (fun i => x.after.length - i) [(0, 0)] [] 0 ⟨Nat.zero_le _, by simp⟩ ⟨rfl, rfl, rfl, by simp [fitL, fitV, lookN, pureV], .keep1 (by simp [Heap.get, getFs, getF]) (pure_Pgcs x) rfl⟩ ?_)
            rintro i ⟨hi, hx⟩ B hB
            repeat refine wps_seq ?_
            refine wps_region callOK ?_
            simp [zS]
            repeat refine wps_seq ?_
            refine wps_cond rfl (fun h => ?_) fun h => ?_
            · simp at h
              repeat refine wps_seq ?_
              refine wps_skip ?_
              simp
              repeat refine wps_seq ?_
              refine wps_block ?_
              repeat refine wps_seq ?_
              refine wps_region callOK ?_
              simp [zS, atPt h, Pt.cs]
              obtain ⟨p, hp⟩ : ∃ p, p = x.after[i] := ⟨_, rfl⟩
              rw [← hp]
              have mp : p ∈ x.after := by rw [hp]; exact List.getElem_mem _
              have kp := fun H => k11 hP p H
              simp only [aPt, Pt.cs] at kp
              rcases Bool.eq_false_or_eq_true (fewP p) with q | q
              · rw [q] at kp
                repeat refine wps_seq ?_
                refine wps_region callOK ?_
                simp [zS, kp]
                repeat refine wps_seq ?_
                refine wps_cond (t := false) rfl (fun h => by cases h) fun _ => ?_
                repeat refine wps_seq ?_
                refine wps_skip ?_
                simp
                repeat refine wps_seq ?_
                refine wps_region callOK ?_
                simp [zS, add_one (show i ≤ 1000000000 by omega)]
                refine hB _ (i + 1) (by omega) ⟨by omega, fun s hs => ?_⟩ ⟨[(0, 0)], [], rfl, rfl, rfl, by simp [fitL, fitV, lookN, pureV], .keep1 (by simp [Heap.get, getFs, getF]) (pure_Pgcs x) rfl⟩
                rw [List.take_succ_eq_append_getElem h, List.mem_append, List.mem_singleton] at hs
                rcases hs with hs | hs
                · exact hx s hs
                · rw [hs, ← hp]; exact q
              · rw [q] at kp
                repeat refine wps_seq ?_
                refine wps_region callOK ?_
                simp [zS, kp]
                repeat refine wps_seq ?_
                refine wps_cond (t := true) rfl (fun _ => ?_) fun h => by cases h
                repeat refine wps_seq ?_
                refine wps_region callOK ?_
                simp [zS]
                have h2 : x.after.all fewP = false := by
                  rw [List.all_eq_false]
                  exact ⟨p, mp, by simp [q]⟩
                repeat refine wps_seq ?_
                refine wps_ret ?_
                simp [retVal, Tryz.f4, oneOr, thenQ, blockQ]
                exact ends_pure rfl (by simp [h2])
            · simp at h
              repeat refine wps_seq ?_
              refine wps_exit ?_
              simp
              rw [List.take_of_length_le h] at hx
              have h4 : x.after.all fewP = true := by
                rw [List.all_eq_true]
                exact hx
              clear hx hB B hi h
              repeat refine wps_seq ?_
              refine wps_region callOK ?_
              simp [zS]
              repeat refine wps_seq ?_
              refine wps_ret ?_
              simp [retVal, Tryz.f4, oneOr, thenQ, blockQ]
              exact ends_pure rfl (by simp [h3, h4]; omega)
end Go.Proofs.YtlgdgolobnbefaaGreatDoor
