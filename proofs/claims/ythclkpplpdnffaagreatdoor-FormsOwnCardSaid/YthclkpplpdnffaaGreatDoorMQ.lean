/- FormsOwn's walk. No condition. -/
import Derived.Test.YthclkpplpdnffaaGreatDoorMN
import Derived.Test.YthclkpplpdnffaaGreatDoorMP
namespace Go.Proofs.YthclkpplpdnffaaGreatDoor
set_option linter.unusedSimpArgs false
set_option linter.unusedVariables false
open Go Go.RowKit
set_option maxRecDepth 100000

theorem getAt_mem {nm v : Str} : ∀ {L : List At1}, getAt nm L = some v → (nm, v) ∈ L
  | [], h => by simp [getAt] at h
  | a :: r, h => by
    have h0 := getAt_at (nm := nm) (L := a :: r) (i := 0) (by simp)
    simp only [List.drop_zero, List.getElem_cons_zero, Nat.zero_add, List.drop_succ_cons] at h0
    rw [h0] at h
    split at h
    · rename_i h1
      simp only [Option.some.injEq] at h
      subst h; subst h1
      simp
    · exact List.mem_cons_of_mem _ (getAt_mem h)
theorem few_vals {t : Tr} {m : Int} (h : fewTr t m = true) : okVals t := by
  intro n hn
  simp only [fewTr, Bool.and_eq_true, List.all_eq_true] at h
  have h1 := h.2 n hn
  simp only [fewNd, fewAts, Bool.and_eq_true, decide_eq_true_eq, List.all_eq_true] at h1
  refine ⟨by omega, ?_⟩
  unfold valOf
  cases hg : getAt wType n.attrs with
  | none => simp
  | some v =>
    have := h1.2.2.2.2 _ (getAt_mem hg)
    simp only [fewAt, decide_eq_true_eq] at this
    simp only [Option.getD_some]
    omega
theorem getAt_has {nm v : Str} : ∀ {L : List At1}, (nm, v) ∈ L → ∃ u, getAt nm L = some u
  | [], h => by cases h
  | a :: r, h => by
    have h0 := getAt_at (nm := nm) (L := a :: r) (i := 0) (by simp)
    simp only [List.drop_zero, List.getElem_cons_zero, Nat.zero_add, List.drop_succ_cons] at h0
    rw [h0]
    by_cases h1 : a.1 = nm
    · exact ⟨a.2, by rw [if_pos h1]⟩
    · rw [if_neg h1]
      rcases List.mem_cons.1 h with rfl | h
      · exact absurd rfl h1
      · exact getAt_has h
/-- who has a name among a form's elements is told by it -/
theorem own_named {t : Tr} {form y : Int} {nm v : Str} (hy : y ∈ elemsL t form) (hn : nm = wId ∨ nm = wName) (hv : getAt nm (nodeAt t y).attrs = some v) (hne : v ≠ []) : y ∈ namedF t form v := by
  obtain ⟨y0, y1, _, hp, _, _⟩ := owned_mem hy
  have hk : (nodeAt t y).kind = 1 := by
    simp only [elemB, htmlB, Bool.and_eq_true, decide_eq_true_eq] at hp
    exact hp.1.1.1
  have hc : calledB t y v = true := by
    unfold calledB
    rw [if_neg (by simp [hne]; omega)]
    rcases hn with rfl | rfl
    · simp [hk, valOf, hv]
    · simp [hk, valOf, hv]
  have hm : y ∈ (elemsL t form).filter (fun i => calledB t i v) := List.mem_filter.2 ⟨hy, hc⟩
  unfold namedF
  revert hm
  cases (elemsL t form).filter (fun i => calledB t i v) with
  | nil => intro h; cases h
  | cons a r => intro h; exact h
theorem namedF_len {t : Tr} {form : Int} {v : Str} : (namedF t form v).length ≤ t.length := by
  have h1 : ((elemsL t form).filter (fun i => calledB t i v)).length ≤ t.length := Nat.le_trans (List.length_filter_le _ _) owned_len
  have h2 : ((ownedL t form (fun n => !htmlB n lsListed)).filter (fun i => calledB t i v)).length ≤ t.length := Nat.le_trans (List.length_filter_le _ _) owned_len
  unfold namedF
  revert h1
  cases (elemsL t form).filter (fun i => calledB t i v) with
  | nil => intro _; exact h2
  | cons a r => intro h; exact h
theorem c3 {T : List (Entry Tryz.prog)} (hA : findE 7 T = some e7.g) (hP : findE 6 T = some e6.g) (hO : findE 8 T = some e8.g) (hE : findE 9 T = some e9.g) (hN : findE 13 T = some e13.g) (hL : findE 10 T = some e10.g) (hF : findE 11 T = some e11.g) (h2 : findE 12 T = some e12.g) (t : Tr) (form : Int) :
    CallAt (ctx T) 3 [aTree t, .int .i64 form] ⟨0, []⟩ (.bool true) ⟨0, []⟩ := by
  have ka := fun H => k7 hA H
  have kp := fun H => k6 hP t (m := 30) (by omega) H
  simp only [aTree] at kp
  cases hf : mayTr t 30 with
  | false =>
    rw [hf] at kp
    refine callAt_body (fn := Tryz.f3) (s0 := ⟨[0, 1, 2, 4, 5, 7, 9, 10, 20, 21, 22, 57, 58, 59], [aTree t, .int .i64 form, .undef, .undef, .undef, .undef, .undef, .undef, .undef, .undef, .undef, .undef, .undef, .undef], [], 98, ⟨0, [[]]⟩⟩) Tryz.func3 rfl rfl rfl ?_
    (repeat (first
      | (refine wps_seq ?_)
      | (refine wps_block ?_)
      | (refine wps_label ?_; simp only [thenQ, blockQ])
      | ((refine wps_region callOK ?_); simp [ofV, ofV1, mkC_P, writeVar, writeCells, readCells, allSingle, AV.single, getFs, getF, setFs, setF, Heap.get, Heap.set, Heap.new, Heap.kill, killF, pushF, Heap.ready, refs, sliceParts, fillA, replL, aTree, kp, ka])
      | (refine wps_cond (t := true) rfl (fun _ => ?_) (fun h => by cases h))
      | (refine wps_cond (t := false) rfl (fun h => by cases h) (fun _ => ?_))
      | ((refine wps_skip ?_); simp only [thenQ, blockQ])
      | ((refine wps_exit ?_); simp [thenQ, blockQ])))
    repeat refine wps_seq ?_
    refine wps_ret ?_
    simp [retVal, Tryz.f3, oneOr, thenQ, blockQ]
    exact ends_pure rfl (by rfl)
  | true =>
    rw [hf] at kp
    simp only [mayTr, Bool.and_eq_true] at hf
    have hs := few_small (by omega) hf.1
    have hv := few_vals hf.1
    obtain ⟨hr0, hne⟩ := right_root hf.2
    have hl : 0 < t.length := List.length_pos_iff.2 hne
    have ko := fun H => k8 hO hs.2 H
    rw [oneL_ofL hl] at ko
    have ke := fun H => k9 hE hs hv form H
    have kn := fun v H => k13 hN hs hv form v H
    have kl := fun y H => k10 hL (nodeAt t y) H
    have hol := ofL_len t
    have hmem := fun y (hy : y ∈ elemsL t form) => owned_mem hy
    have hown := fun y nm v (hy : y ∈ elemsL t form) => own_named (t := t) (form := form) (y := y) (nm := nm) (v := v) hy
    have hlen : (elemsL t form).length ≤ 50 := Nat.le_trans owned_len hs.1
    have hnl := fun v => Nat.le_trans (namedF_len (t := t) (form := form) (v := v)) hs.1
    obtain ⟨L, hLe⟩ : ∃ L, L = elemsL t form := ⟨_, rfl⟩
    obtain ⟨O, hOe⟩ : ∃ O, O = ofL t := ⟨_, rfl⟩
    rw [← hLe] at ke hmem hown hlen
    rw [← hOe] at ko hol
    rw [← hOe] at hmem
    simp only [aTree] at ko ke kn
    refine callAt_body (fn := Tryz.f3) (s0 := ⟨[0, 1, 2, 4, 5, 7, 9, 10, 20, 21, 22, 57, 58, 59], [aTree t, .int .i64 form, .undef, .undef, .undef, .undef, .undef, .undef, .undef, .undef, .undef, .undef, .undef, .undef], [], 98, ⟨0, [[]]⟩⟩) Tryz.func3 rfl rfl rfl ?_
    repeat refine wps_seq ?_
    refine wps_region callOK ?_
    simp [ofV, ofV1, mkC_P, writeVar, writeCells, readCells, allSingle, AV.single, getFs, getF, setFs, setF, Heap.get, Heap.set, Heap.new, Heap.kill, killF, pushF, Heap.ready, refs, sliceParts, fillA, replL, aTree]
    repeat refine wps_seq ?_
    refine wps_region callOK ?_
    simp [ofV, ofV1, mkC_P, writeVar, writeCells, readCells, allSingle, AV.single, getFs, getF, setFs, setF, Heap.get, Heap.set, Heap.new, Heap.kill, killF, pushF, Heap.ready, refs, sliceParts, fillA, replL, kp]
    repeat refine wps_seq ?_
    refine wps_cond (t := false) rfl (fun h => by cases h) fun _ => ?_
    repeat refine wps_seq ?_
    refine wps_skip ?_
    simp
    repeat refine wps_seq ?_
    refine wps_region callOK ?_
    simp [ofV, ofV1, mkC_P, writeVar, writeCells, readCells, allSingle, AV.single, getFs, getF, setFs, setF, Heap.get, Heap.set, Heap.new, Heap.kill, killF, pushF, Heap.ready, refs, sliceParts, fillA, replL, ko]
    repeat refine wps_seq ?_
    refine wps_region callOK ?_
    simp [ofV, ofV1, mkC_P, writeVar, writeCells, readCells, allSingle, AV.single, getFs, getF, setFs, setF, Heap.get, Heap.set, Heap.new, Heap.kill, killF, pushF, Heap.ready, refs, sliceParts, fillA, replL, ke, lenI]
    repeat refine wps_seq ?_
    refine .fit [] [(0, [aNodes t])] (s' := (⟨[0, 1, 2, 4, 5, 7, 9, 10, 20, 21, 22, 57, 58, 59], [.undef, .int .i64 form, .fptr [aNodes t] 0, .undef, aInts O, .undef, .undef, .undef, aInts L, .int .i64 (L.length : Nat), .int .i64 0, .undef, .undef, .undef], [], 98, ⟨0, [[]]⟩⟩ : St)) ⟨rfl, rfl, rfl, by simp [fitL, fitV, lookC, pureV, aInts], ?_⟩ ?_
    · refine (FitH.froze (by simp) fun y hy => ?_).fs rfl
      simp only [List.mem_cons, List.not_mem_nil, or_false] at hy
      subst hy
      exact ⟨_, by simp [Heap.get, getFs, getF], fitL_pure (by simp [pureL]), by simp [pureL]⟩
    repeat refine wps_seq ?_
    refine wps_block (wps_loop' (fun i : Nat => (⟨[0, 1, 2, 4, 5, 7, 9, 10, 20, 21, 22, 57, 58, 59], [.undef, .int .i64 form, .fptr [aNodes t] 0, .undef, aInts O, .undef, .undef, .undef, aInts L, .int .i64 (L.length : Nat), .int .i64 i, .undef, .undef, .undef], [], 98, ⟨0, [[]]⟩⟩ : St))
      (fun i => i ≤ L.length) (fun i => L.length - i) [] [] 0 (Nat.zero_le _) ⟨rfl, rfl, rfl, by simp [fitL, fitV, pureV, pureL, aInts], FitH.nothing⟩ ?_)
    rintro i hi B hB
    repeat refine wps_seq ?_
    refine wps_region callOK ?_
    simp [ofV, ofV1, mkC_P, writeVar, writeCells, readCells, allSingle, AV.single, getFs, getF, setFs, setF, Heap.get, Heap.set, Heap.new, Heap.kill, killF, pushF, Heap.ready, refs, sliceParts, fillA, replL]
    repeat refine wps_seq ?_
    refine wps_cond rfl (fun h => ?_) fun h => ?_
    · simp at h
      repeat refine wps_seq ?_
      refine wps_skip ?_
      simp
      repeat refine wps_seq ?_
      refine wps_block ?_
      repeat refine wps_seq ?_
      refine wps_region callOK ?_
      simp [ofV, ofV1, mkC_P, writeVar, writeCells, readCells, allSingle, AV.single, getFs, getF, setFs, setF, Heap.get, Heap.set, Heap.new, Heap.kill, killF, pushF, Heap.ready, refs, sliceParts, fillA, replL, atI h]
      obtain ⟨y, hy⟩ : ∃ y, y = L[i] := ⟨_, rfl⟩
      have hyL : y ∈ L := hy ▸ List.getElem_mem _
      obtain ⟨y0, y1, yo, yp, _, _⟩ := hmem y hyL
      have hw := fun nm v => hown y nm v hyL
      have hk : (nodeAt t y).kind = 1 := by
        simp only [elemB, htmlB, Bool.and_eq_true, decide_eq_true_eq] at yp
        exact yp.1.1.1
      have hli : htmlB (nodeAt t y) lsListed = true := by
        simp only [elemB, Bool.and_eq_true] at yp
        exact yp.1
      have yz : ¬ y ≤ 0 := fun h => by
        have : y = 0 := by omega
        rw [this, hr0] at hk
        cases hk
      have yl : ¬ (t.length : Int) ≤ y := by omega
      obtain ⟨m, hm⟩ : ∃ m : Nat, y = m := ⟨y.toNat, by omega⟩
      have hmO : m < O.length := by omega
      have ha := atI (L := O) (i := m) hmO
      have hom : O[m] = form := by
        rw [hm] at yo
        simpa [List.getD_eq_getElem?_getD, hmO] using yo
      rw [← hm, hom] at ha
      have kly := fun H => kl y H
      rw [hli] at kly
      rw [← hy]
      have kaf := fun nm H => k11 hF (n := nodeAt t y) nm (hs.2.2 _ (nodeAt_mem y0 y1)).2 H
      repeat refine wps_seq ?_
      refine wps_region callOK ?_
      simp [ofV, ofV1, mkC_P, writeVar, writeCells, readCells, allSingle, AV.single, getFs, getF, setFs, setF, Heap.get, Heap.set, Heap.new, Heap.kill, killF, pushF, Heap.ready, refs, sliceParts, fillA, replL, lenN, yz, yl, ha, atX y0 y1, fold_node, kly]
      repeat refine wps_seq ?_
      refine wps_cond (t := false) rfl (fun h => by cases h) fun _ => ?_
      repeat refine wps_seq ?_
      refine wps_skip ?_
      simp
      have hal := (hs.2.2 _ (nodeAt_mem y0 y1)).2
      have hX := atX y0 y1
      generalize nodeAt t y = nd at *
      obtain ⟨A, hAe⟩ : ∃ A, A = nd.attrs := ⟨_, rfl⟩
      have g3 : getL nd.cs 3 = some (aAttrs A) := by rw [hAe]; rfl
      rw [← hAe] at hal hw kaf
      repeat refine wps_seq ?_
      refine wps_region callOK ?_
      simp [ofV, ofV1, mkC_P, writeVar, writeCells, readCells, allSingle, AV.single, getFs, getF, setFs, setF, Heap.get, Heap.set, Heap.new, Heap.kill, killF, pushF, Heap.ready, refs, sliceParts, fillA, replL, hX, g3, lenA1]
      repeat refine wps_seq ?_
      refine wps_block (wps_loop' (fun j : Nat => (⟨[0, 1, 2, 4, 5, 7, 9, 10, 20, 21, 22, 57, 58, 59], [.undef, .int .i64 form, .fptr [aNodes t] 0, .undef, aInts O, .int .i64 y, .undef, .undef, aInts L, .int .i64 (L.length : Nat), .int .i64 i, aAttrs A, .int .i64 (A.length : Nat), .int .i64 j], [], 98, ⟨0, [[]]⟩⟩ : St))
        (fun j => j ≤ A.length) (fun j => A.length - j) [] [] 0 (Nat.zero_le _) ⟨rfl, rfl, rfl, by simp [fitL, fitV, pureV, pureL, aInts, aAttrs], FitH.nothing⟩ ?_)
      rintro j hj B2 hB2
      repeat refine wps_seq ?_
      refine wps_region callOK ?_
      simp [ofV, ofV1, mkC_P, writeVar, writeCells, readCells, allSingle, AV.single, getFs, getF, setFs, setF, Heap.get, Heap.set, Heap.new, Heap.kill, killF, pushF, Heap.ready, refs, sliceParts, fillA, replL]
      repeat refine wps_seq ?_
      refine wps_cond rfl (fun h3 => ?_) fun h3 => ?_
      · simp at h3
        repeat refine wps_seq ?_
        refine wps_skip ?_
        simp
        repeat refine wps_seq ?_
        refine wps_block ?_
        have next : ∀ s', (∃ σ Φ, Fit 0 σ Φ s' ((⟨[0, 1, 2, 4, 5, 7, 9, 10, 20, 21, 22, 57, 58, 59], [.undef, .int .i64 form, .fptr [aNodes t] 0, .undef, aInts O, .int .i64 y, .undef, .undef, aInts L, .int .i64 (L.length : Nat), .int .i64 i, aAttrs A, .int .i64 (A.length : Nat), .int .i64 ((j + 1 : Nat) : Int)], [], 98, ⟨0, [[]]⟩⟩ : St))) → B2 s' := fun s' hs' => hB2 s' (j + 1) (by omega) (by omega) hs'
        obtain ⟨a, hae⟩ : ∃ a, a = A[j] := ⟨_, rfl⟩
        have hat := atA h3
        rw [← hae] at hat
        have hmemA : (a.1, a.2) ∈ A := by rw [hae]; exact List.getElem_mem _
        obtain ⟨u, hu⟩ := getAt_has hmemA
        have ku := fun H => kaf a.1 H
        simp only [hu, gotA, Option.getD_some, Option.isSome_some] at ku
        repeat refine wps_seq ?_
        refine wps_region callOK ?_
        simp [ofV, ofV1, mkC_P, writeVar, writeCells, readCells, allSingle, AV.single, getFs, getF, setFs, setF, Heap.get, Heap.set, Heap.new, Heap.kill, killF, pushF, Heap.ready, refs, sliceParts, fillA, replL, hat, aAttr]
        repeat refine wps_seq ?_
        refine wps_drawK mixed callOK (by decide +kernel) (by decide +kernel) ?_
        simp [ofV, ofV1, mkC_P, writeVar, writeCells, readCells, allSingle, AV.single, getFs, getF, setFs, setF, Heap.get, Heap.set, Heap.new, Heap.kill, killF, pushF, Heap.ready, refs, sliceParts, fillA, replL, evalK_c, evalK_nil, thenK_some, hX, fold_node, ku]
        by_cases c1 : a.1 = wId
        · by_cases c3 : u = []
          · repeat refine wps_seq ?_
            refine wps_region callOK ?_
            simp [ofV, ofV1, mkC_P, writeVar, writeCells, readCells, allSingle, AV.single, getFs, getF, setFs, setF, Heap.get, Heap.set, Heap.new, Heap.kill, killF, pushF, Heap.ready, refs, sliceParts, fillA, replL, c1, c3]
            repeat refine wps_seq ?_
            refine wps_cond (t := false) rfl (fun h => by cases h) fun _ => ?_
            repeat refine wps_seq ?_
            refine wps_skip ?_
            simp
            repeat refine wps_seq ?_
            refine wps_region callOK ?_
            simp [ofV, ofV1, mkC_P, writeVar, writeCells, readCells, allSingle, AV.single, getFs, getF, setFs, setF, Heap.get, Heap.set, Heap.new, Heap.kill, killF, pushF, Heap.ready, refs, sliceParts, fillA, replL, add_one (show j ≤ 1000000000 by omega)]
            exact next _ ⟨[], [], ⟨rfl, rfl, rfl, by simp [fitL, fitV, pureV, pureL, aInts, aAttrs], FitH.nothing⟩⟩
          · have hin := hw a.1 u (.inl c1) hu c3
            have kc := fun H => k12 h2 (L := namedF t form u) y (by have := hnl u; omega) H
            rw [decide_eq_true hin] at kc
            have knu := fun H => kn u H
            generalize namedF t form u = NU at *
            simp only [aInts] at kc knu
            repeat refine wps_seq ?_
            refine wps_region callOK ?_
            simp [ofV, ofV1, mkC_P, writeVar, writeCells, readCells, allSingle, AV.single, getFs, getF, setFs, setF, Heap.get, Heap.set, Heap.new, Heap.kill, killF, pushF, Heap.ready, refs, sliceParts, fillA, replL, c1, c3, knu, kc]
            repeat refine wps_seq ?_
            refine wps_cond (t := false) rfl (fun h => by cases h) fun _ => ?_
            repeat refine wps_seq ?_
            refine wps_skip ?_
            simp
            repeat refine wps_seq ?_
            refine wps_region callOK ?_
            simp [ofV, ofV1, mkC_P, writeVar, writeCells, readCells, allSingle, AV.single, getFs, getF, setFs, setF, Heap.get, Heap.set, Heap.new, Heap.kill, killF, pushF, Heap.ready, refs, sliceParts, fillA, replL, add_one (show j ≤ 1000000000 by omega)]
            exact next _ ⟨[], [], ⟨rfl, rfl, rfl, by simp [fitL, fitV, pureV, pureL, aInts, aAttrs], FitH.nothing⟩⟩
        · by_cases c2 : a.1 = wName
          · by_cases c3 : u = []
            · repeat refine wps_seq ?_
              refine wps_region callOK ?_
              simp [ofV, ofV1, mkC_P, writeVar, writeCells, readCells, allSingle, AV.single, getFs, getF, setFs, setF, Heap.get, Heap.set, Heap.new, Heap.kill, killF, pushF, Heap.ready, refs, sliceParts, fillA, replL, c1, c2, c3]
              repeat refine wps_seq ?_
              refine wps_cond (t := false) rfl (fun h => by cases h) fun _ => ?_
              repeat refine wps_seq ?_
              refine wps_skip ?_
              simp
              repeat refine wps_seq ?_
              refine wps_region callOK ?_
              simp [ofV, ofV1, mkC_P, writeVar, writeCells, readCells, allSingle, AV.single, getFs, getF, setFs, setF, Heap.get, Heap.set, Heap.new, Heap.kill, killF, pushF, Heap.ready, refs, sliceParts, fillA, replL, add_one (show j ≤ 1000000000 by omega)]
              exact next _ ⟨[], [], ⟨rfl, rfl, rfl, by simp [fitL, fitV, pureV, pureL, aInts, aAttrs], FitH.nothing⟩⟩
            · have hin := hw a.1 u (.inr c2) hu c3
              have kc := fun H => k12 h2 (L := namedF t form u) y (by have := hnl u; omega) H
              rw [decide_eq_true hin] at kc
              have knu := fun H => kn u H
              generalize namedF t form u = NU at *
              simp only [aInts] at kc knu
              repeat refine wps_seq ?_
              refine wps_region callOK ?_
              simp [ofV, ofV1, mkC_P, writeVar, writeCells, readCells, allSingle, AV.single, getFs, getF, setFs, setF, Heap.get, Heap.set, Heap.new, Heap.kill, killF, pushF, Heap.ready, refs, sliceParts, fillA, replL, c1, c2, c3, knu, kc]
              repeat refine wps_seq ?_
              refine wps_cond (t := false) rfl (fun h => by cases h) fun _ => ?_
              repeat refine wps_seq ?_
              refine wps_skip ?_
              simp
              repeat refine wps_seq ?_
              refine wps_region callOK ?_
              simp [ofV, ofV1, mkC_P, writeVar, writeCells, readCells, allSingle, AV.single, getFs, getF, setFs, setF, Heap.get, Heap.set, Heap.new, Heap.kill, killF, pushF, Heap.ready, refs, sliceParts, fillA, replL, add_one (show j ≤ 1000000000 by omega)]
              exact next _ ⟨[], [], ⟨rfl, rfl, rfl, by simp [fitL, fitV, pureV, pureL, aInts, aAttrs], FitH.nothing⟩⟩
          · repeat refine wps_seq ?_
            refine wps_region callOK ?_
            simp [ofV, ofV1, mkC_P, writeVar, writeCells, readCells, allSingle, AV.single, getFs, getF, setFs, setF, Heap.get, Heap.set, Heap.new, Heap.kill, killF, pushF, Heap.ready, refs, sliceParts, fillA, replL, c1, c2]
            repeat refine wps_seq ?_
            refine wps_cond (t := false) rfl (fun h => by cases h) fun _ => ?_
            repeat refine wps_seq ?_
            refine wps_skip ?_
            simp
            repeat refine wps_seq ?_
            refine wps_region callOK ?_
            simp [ofV, ofV1, mkC_P, writeVar, writeCells, readCells, allSingle, AV.single, getFs, getF, setFs, setF, Heap.get, Heap.set, Heap.new, Heap.kill, killF, pushF, Heap.ready, refs, sliceParts, fillA, replL, add_one (show j ≤ 1000000000 by omega)]
            exact next _ ⟨[], [], ⟨rfl, rfl, rfl, by simp [fitL, fitV, pureV, pureL, aInts, aAttrs], FitH.nothing⟩⟩
      · simp at h3
        repeat refine wps_seq ?_
        refine wps_exit ?_
        simp
        repeat refine wps_seq ?_
        refine wps_region callOK ?_
        simp [ofV, ofV1, mkC_P, writeVar, writeCells, readCells, allSingle, AV.single, getFs, getF, setFs, setF, Heap.get, Heap.set, Heap.new, Heap.kill, killF, pushF, Heap.ready, refs, sliceParts, fillA, replL, add_one (show i ≤ 1000000000 by omega)]
        exact hB _ (i + 1) (by omega) (by omega) ⟨[], [], ⟨rfl, rfl, rfl, by simp [fitL, fitV, pureV, pureL, aInts, aAttrs], FitH.nothing⟩⟩
    · simp at h
      repeat refine wps_seq ?_
      refine wps_exit ?_
      simp
      repeat refine wps_seq ?_
      refine wps_region callOK ?_
      simp [ofV, ofV1, mkC_P, writeVar, writeCells, readCells, allSingle, AV.single, getFs, getF, setFs, setF, Heap.get, Heap.set, Heap.new, Heap.kill, killF, pushF, Heap.ready, refs, sliceParts, fillA, replL, ka]
      repeat refine wps_seq ?_
      refine wps_ret ?_
      simp [retVal, Tryz.f3, oneOr, thenQ, blockQ]
      exact ends_pure rfl (by rfl)
end Go.Proofs.YthclkpplpdnffaaGreatDoor
