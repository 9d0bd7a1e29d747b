/- chain.Run. No condition. -/
import Derived.Test.YthclkpplpdnffaaGreatDoorRN
import Derived.Test.YthclkpplpdnffaaGreatDoorRP
import Derived.Test.YthclkpplpdnffaaGreatDoorRM
namespace Go.Proofs.YthclkpplpdnffaaGreatDoor
set_option linter.unusedSimpArgs false
set_option linter.unusedVariables false
open Go Go.RowKit
set_option maxRecDepth 100000
theorem getAt_mem {nm v : Str} : ∀ {L : List At1}, getAt nm L = some v → (nm, v) ∈ L
  | [], h => by simp [getAt] at h
  | a :: r, h => by
    have h0 := getAt_at (nm := nm) (L := a :: r) (i := 0) (by simp)
    simp only [List.drop_zero, List.getElem_cons_zero, Nat.zero_add, List.drop_succ_cons] at h0
    rw [h0] at h
    split at h
    · rename_i h1
      simp only [Option.some.injEq] at h
      subst h; subst h1
      simp
    · exact List.mem_cons_of_mem _ (getAt_mem h)
theorem few_vals {t : Tr} {m : Int} (h : fewTr t m = true) : okVals t := by
  intro n hn
  simp only [fewTr, Bool.and_eq_true, List.all_eq_true] at h
  have h1 := h.2 n hn
  simp only [fewNd, fewAts, Bool.and_eq_true, decide_eq_true_eq, List.all_eq_true] at h1
  refine ⟨by omega, ?_⟩
  unfold valOf
  cases hg : getAt wType n.attrs with
  | none => simp
  | some v =>
    have := h1.2.2.2.2 _ (getAt_mem hg)
    simp only [fewAt, decide_eq_true_eq] at this
    simp only [Option.getD_some]
    omega
theorem getAt_has {nm v : Str} : ∀ {L : List At1}, (nm, v) ∈ L → ∃ u, getAt nm L = some u
  | [], h => by cases h
  | a :: r, h => by
    have h0 := getAt_at (nm := nm) (L := a :: r) (i := 0) (by simp)
    simp only [List.drop_zero, List.getElem_cons_zero, Nat.zero_add, List.drop_succ_cons] at h0
    rw [h0]
    by_cases h1 : a.1 = nm
    · exact ⟨a.2, by rw [if_pos h1]⟩
    · rw [if_neg h1]
      rcases List.mem_cons.1 h with rfl | h
      · exact absurd rfl h1
      · exact getAt_has h
theorem own_named {t : Tr} {form y : Int} {nm v : Str} (hy : y ∈ elemsL t form) (hn : nm = wId ∨ nm = wName) (hv : getAt nm (nodeAt t y).attrs = some v) (hne : v ≠ []) : y ∈ namedF t form v := by
  obtain ⟨y0, y1, _, hp, _, _⟩ := owned_mem hy
  have hk : (nodeAt t y).kind = 1 := by
    simp only [elemB, htmlB, Bool.and_eq_true, decide_eq_true_eq] at hp
    exact hp.1.1.1
  have hc : calledB t y v = true := by
    unfold calledB
    rw [if_neg (by simp [hne]; omega)]
    rcases hn with rfl | rfl
    · simp [hk, valOf, hv]
    · simp [hk, valOf, hv]
  have hm : y ∈ (elemsL t form).filter (fun i => calledB t i v) := List.mem_filter.2 ⟨hy, hc⟩
  unfold namedF
  revert hm
  cases (elemsL t form).filter (fun i => calledB t i v) with
  | nil => intro h; cases h
  | cons a r => intro h; exact h
theorem namedF_len {t : Tr} {form : Int} {v : Str} : (namedF t form v).length ≤ t.length := by
  have h1 : ((elemsL t form).filter (fun i => calledB t i v)).length ≤ t.length := Nat.le_trans (List.length_filter_le _ _) owned_len
  have h2 : ((ownedL t form (fun n => !htmlB n lsListed)).filter (fun i => calledB t i v)).length ≤ t.length := Nat.le_trans (List.length_filter_le _ _) owned_len
  unfold namedF
  revert h1
  cases (elemsL t form).filter (fun i => calledB t i v) with
  | nil => intro _; exact h2
  | cons a r => intro h; exact h
theorem c3 {T : List (Entry Tryz.prog)} (hA : findE 7 T = some e7.g) (hP : findE 6 T = some e6.g) (hO : findE 8 T = some e8.g) (hE : findE 9 T = some e9.g) (hN : findE 13 T = some e13.g) (hL : findE 10 T = some e10.g) (hF : findE 11 T = some e11.g) (h2 : findE 12 T = some e12.g) (t : Tr) (form : Int) :
    CallAt (ctx T) 3 [aTree t, .int .i64 form] ⟨0, []⟩ (.bool true) ⟨0, []⟩ := by
  have ka := fun H => k7 hA H
  have kp := fun H => k6 hP t (m := 30) (by omega) H
  simp only [aTree] at kp
  cases hf : mayTr t 30 with
  | false =>
    rw [hf] at kp
    refine callAt_body (fn := Tryz.f3) (s0 := ⟨[0, 1, 2, 4, 5, 7, 9, 10, 20, 21, 22, 57, 58, 59], [aTree t, .int .i64 form, .undef, .undef, .undef, .undef, .undef, .undef, .undef, .undef, .undef, .undef, .undef, .undef], [], 98, ⟨0, [[]]⟩⟩) Tryz.func3 rfl rfl rfl ?_
    (repeat (first
      | (refine wps_seq ?_)
      | (refine wps_block ?_)
      | (refine wps_label ?_; simp only [thenQ, blockQ])
      | ((refine wps_region callOK ?_); simp [zS, aTree, kp, ka])
      | (refine wps_cond (t := true) rfl (fun _ => ?_) (fun h => by cases h))
      | (refine wps_cond (t := false) rfl (fun h => by cases h) (fun _ => ?_))
      | ((refine wps_skip ?_); simp only [thenQ, blockQ])
      | ((refine wps_exit ?_); simp [thenQ, blockQ])))
    repeat refine wps_seq ?_
    refine wps_ret ?_
    simp [retVal, Tryz.f3, oneOr, thenQ, blockQ]
    exact ends_pure rfl (by rfl)
  | true =>
    rw [hf] at kp
    simp only [mayTr, Bool.and_eq_true] at hf
    have hs := few_small (by omega) hf.1
    have hv := few_vals hf.1
    obtain ⟨hr0, hne⟩ := right_root hf.2
    have hl : 0 < t.length := List.length_pos_iff.2 hne
    have ko := fun H => k8 hO hs.2 H
    rw [oneL_ofL hl] at ko
    have ke := fun H => k9 hE hs hv form H
    have kn := fun v H => k13 hN hs hv form v H
    have kl := fun y H => k10 hL (nodeAt t y) H
    have hol := ofL_len t
    have hmem := fun y (hy : y ∈ elemsL t form) => owned_mem hy
    have hown := fun y nm v (hy : y ∈ elemsL t form) => own_named (t := t) (form := form) (y := y) (nm := nm) (v := v) hy
    have hlen : (elemsL t form).length ≤ 50 := Nat.le_trans owned_len hs.1
    have hnl := fun v => Nat.le_trans (namedF_len (t := t) (form := form) (v := v)) hs.1
    obtain ⟨L, hLe⟩ : ∃ L, L = elemsL t form := ⟨_, rfl⟩
    obtain ⟨O, hOe⟩ : ∃ O, O = ofL t := ⟨_, rfl⟩
    rw [← hLe] at ke hmem hown hlen
    rw [← hOe] at ko hol
    rw [← hOe] at hmem
    simp only [aTree] at ko ke kn
    refine callAt_body (fn := Tryz.f3) (s0 := ⟨[0, 1, 2, 4, 5, 7, 9, 10, 20, 21, 22, 57, 58, 59], [aTree t, .int .i64 form, .undef, .undef, .undef, .undef, .undef, .undef, .undef, .undef, .undef, .undef, .undef, .undef], [], 98, ⟨0, [[]]⟩⟩) Tryz.func3 rfl rfl rfl ?_
    repeat refine wps_seq ?_
    refine wps_region callOK ?_
    simp [zS, aTree]
    repeat refine wps_seq ?_
    refine wps_region callOK ?_
    simp [zS, kp]
    repeat refine wps_seq ?_
    refine wps_cond (t := false) rfl (fun h => by cases h) fun _ => ?_
    repeat refine wps_seq ?_
    refine wps_skip ?_
    simp
    repeat refine wps_seq ?_
    refine wps_region callOK ?_
    simp [zS, ko]
    repeat refine wps_seq ?_
    refine wps_region callOK ?_
    simp [zS, ke, lenI]
    repeat refine wps_seq ?_
    refine .fit [] [(0, [aNodes t])] (s' := (⟨[0, 1, 2, 4, 5, 7, 9, 10, 20, 21, 22, 57, 58, 59], [.undef, .int .i64 form, .fptr [aNodes t] 0, .undef, aInts O, .undef, .undef, .undef, aInts L, .int .i64 (L.length : Nat), .int .i64 0, .undef, .undef, .undef], [], 98, ⟨0, [[]]⟩⟩ : St)) ⟨rfl, rfl, rfl, by simp [fitL, fitV, lookC, pureV, aInts], ?_⟩ ?_
    · refine (FitH.froze (by simp) fun y hy => ?_).fs rfl
      simp only [List.mem_cons, List.not_mem_nil, or_false] at hy
      subst hy
      exact ⟨_, by simp [Heap.get, getFs, getF], fitL_pure (by simp [pureL]), by simp [pureL]⟩
    repeat refine wps_seq ?_
    refine wps_block (wps_loop' (fun i : Nat => (⟨[0, 1, 2, 4, 5, 7, 9, 10, 20, 21, 22, 57, 58, 59], [.undef, .int .i64 form, .fptr [aNodes t] 0, .undef, aInts O, .undef, .undef, .undef, aInts L, .int .i64 (L.length : Nat), .int .i64 i, .undef, .undef, .undef], [], 98, ⟨0, [[]]⟩⟩ : St))
      (fun i => i ≤ L.length) (fun i => L.length - i) [] [] 0 (Nat.zero_le _) ⟨rfl, rfl, rfl, by simp [fitL, fitV, pureV, pureL, aInts], FitH.nothing⟩ ?_)
    rintro i hi B hB
    repeat refine wps_seq ?_
    refine wps_region callOK ?_
    simp [zS]
    repeat refine wps_seq ?_
    refine wps_cond rfl (fun h => ?_) fun h => ?_
    · simp at h
      repeat refine wps_seq ?_
      refine wps_skip ?_
      simp
      repeat refine wps_seq ?_
      refine wps_block ?_
      repeat refine wps_seq ?_
      refine wps_region callOK ?_
      simp [zS, atI h]
      obtain ⟨y, hy⟩ : ∃ y, y = L[i] := ⟨_, rfl⟩
      have hyL : y ∈ L := hy ▸ List.getElem_mem _
      obtain ⟨y0, y1, yo, yp, _, _⟩ := hmem y hyL
      have hw := fun nm v => hown y nm v hyL
      have hk : (nodeAt t y).kind = 1 := by
        simp only [elemB, htmlB, Bool.and_eq_true, decide_eq_true_eq] at yp
        exact yp.1.1.1
      have hli : htmlB (nodeAt t y) lsListed = true := by
        simp only [elemB, Bool.and_eq_true] at yp
        exact yp.1
      have yz : ¬ y ≤ 0 := fun h => by
        have : y = 0 := by omega
        rw [this, hr0] at hk
        cases hk
      have yl : ¬ (t.length : Int) ≤ y := by omega
      obtain ⟨m, hm⟩ : ∃ m : Nat, y = m := ⟨y.toNat, by omega⟩
      have hmO : m < O.length := by omega
      have ha := atI (L := O) (i := m) hmO
      have hom : O[m] = form := by
        rw [hm] at yo
        simpa [List.getD_eq_getElem?_getD, hmO] using yo
      rw [← hm, hom] at ha
      have kly := fun H => kl y H
      rw [hli] at kly
      rw [← hy]
      have kaf := fun nm H => k11 hF (n := nodeAt t y) nm (hs.2.2 _ (nodeAt_mem y0 y1)).2 H
      repeat refine wps_seq ?_
      refine wps_region callOK ?_
      simp [zS, lenN, yz, yl, ha, atX y0 y1, fold_node, kly]
      repeat refine wps_seq ?_
      refine wps_cond (t := false) rfl (fun h => by cases h) fun _ => ?_
      repeat refine wps_seq ?_
      refine wps_skip ?_
      simp
      have hal := (hs.2.2 _ (nodeAt_mem y0 y1)).2
      have hX := atX y0 y1
      generalize nodeAt t y = nd at *
      obtain ⟨A, hAe⟩ : ∃ A, A = nd.attrs := ⟨_, rfl⟩
      have g3 : getL nd.cs 3 = some (aAttrs A) := by rw [hAe]; rfl
      rw [← hAe] at hal hw kaf
      repeat refine wps_seq ?_
      refine wps_region callOK ?_
      simp [zS, hX, g3, lenA1]
      repeat refine wps_seq ?_
      refine wps_block (wps_loop' (fun j : Nat => (⟨[0, 1, 2, 4, 5, 7, 9, 10, 20, 21, 22, 57, 58, 59], [.undef, .int .i64 form, .fptr [aNodes t] 0, .undef, aInts O, .int .i64 y, .undef, .undef, aInts L, .int .i64 (L.length : Nat), .int .i64 i, aAttrs A, .int .i64 (A.length : Nat), .int .i64 j], [], 98, ⟨0, [[]]⟩⟩ : St))
        (fun j => j ≤ A.length) (fun j => A.length - j) [] [] 0 (Nat.zero_le _) ⟨rfl, rfl, rfl, by simp [fitL, fitV, pureV, pureL, aInts, aAttrs], FitH.nothing⟩ ?_)
      rintro j hj B2 hB2
      repeat refine wps_seq ?_
      refine wps_region callOK ?_
      simp [zS]
      repeat refine wps_seq ?_
      refine wps_cond rfl (fun h3 => ?_) fun h3 => ?_
      · simp at h3
        repeat refine wps_seq ?_
        refine wps_skip ?_
        simp
        repeat refine wps_seq ?_
        refine wps_block ?_
        have next : ∀ s', (∃ σ Φ, Fit 0 σ Φ s' ((⟨[0, 1, 2, 4, 5, 7, 9, 10, 20, 21, 22, 57, 58, 59], [.undef, .int .i64 form, .fptr [aNodes t] 0, .undef, aInts O, .int .i64 y, .undef, .undef, aInts L, .int .i64 (L.length : Nat), .int .i64 i, aAttrs A, .int .i64 (A.length : Nat), .int .i64 ((j + 1 : Nat) : Int)], [], 98, ⟨0, [[]]⟩⟩ : St))) → B2 s' := fun s' hs' => hB2 s' (j + 1) (by omega) (by omega) hs'
        obtain ⟨a, hae⟩ : ∃ a, a = A[j] := ⟨_, rfl⟩
        have hat := atA h3
        rw [← hae] at hat
        have hmemA : (a.1, a.2) ∈ A := by rw [hae]; exact List.getElem_mem _
        obtain ⟨u, hu⟩ := getAt_has hmemA
        have ku := fun H => kaf a.1 H
        simp only [hu, gotA, Option.getD_some, Option.isSome_some] at ku
        repeat refine wps_seq ?_
        refine wps_region callOK ?_
        simp [zS, hat, aAttr]
        repeat refine wps_seq ?_
        refine wps_drawK mixed callOK (by decide +kernel) (by decide +kernel) ?_
        simp [zS, evalK_c, evalK_nil, thenK_some, hX, fold_node, ku]
        by_cases c1 : a.1 = wId
        · by_cases c3 : u = []
          · repeat refine wps_seq ?_
            refine wps_region callOK ?_
            simp [zS, c1, c3]
            repeat refine wps_seq ?_
            refine wps_cond (t := false) rfl (fun h => by cases h) fun _ => ?_
            repeat refine wps_seq ?_
            refine wps_skip ?_
            simp
            repeat refine wps_seq ?_
            refine wps_region callOK ?_
            simp [zS, add_one (show j ≤ 1000000000 by omega)]
            exact next _ ⟨[], [], ⟨rfl, rfl, rfl, by simp [fitL, fitV, pureV, pureL, aInts, aAttrs], FitH.nothing⟩⟩
          · have hin := hw a.1 u (.inl c1) hu c3
            have kc := fun H => k12 h2 (L := namedF t form u) y (by have := hnl u; omega) H
            rw [decide_eq_true hin] at kc
            have knu := fun H => kn u H
            generalize namedF t form u = NU at *
            simp only [aInts] at kc knu
            repeat refine wps_seq ?_
            refine wps_region callOK ?_
            simp [zS, c1, c3, knu, kc]
            repeat refine wps_seq ?_
            refine wps_cond (t := false) rfl (fun h => by cases h) fun _ => ?_
            repeat refine wps_seq ?_
            refine wps_skip ?_
            simp
            repeat refine wps_seq ?_
            refine wps_region callOK ?_
            simp [zS, add_one (show j ≤ 1000000000 by omega)]
            exact next _ ⟨[], [], ⟨rfl, rfl, rfl, by simp [fitL, fitV, pureV, pureL, aInts, aAttrs], FitH.nothing⟩⟩
        · by_cases c2 : a.1 = wName
          · by_cases c3 : u = []
            · repeat refine wps_seq ?_
              refine wps_region callOK ?_
              simp [zS, c1, c2, c3]
              repeat refine wps_seq ?_
              refine wps_cond (t := false) rfl (fun h => by cases h) fun _ => ?_
              repeat refine wps_seq ?_
              refine wps_skip ?_
              simp
              repeat refine wps_seq ?_
              refine wps_region callOK ?_
              simp [zS, add_one (show j ≤ 1000000000 by omega)]
              exact next _ ⟨[], [], ⟨rfl, rfl, rfl, by simp [fitL, fitV, pureV, pureL, aInts, aAttrs], FitH.nothing⟩⟩
            · have hin := hw a.1 u (.inr c2) hu c3
              have kc := fun H => k12 h2 (L := namedF t form u) y (by have := hnl u; omega) H
              rw [decide_eq_true hin] at kc
              have knu := fun H => kn u H
              generalize namedF t form u = NU at *
              simp only [aInts] at kc knu
              repeat refine wps_seq ?_
              refine wps_region callOK ?_
              simp [zS, c1, c2, c3, knu, kc]
              repeat refine wps_seq ?_
              refine wps_cond (t := false) rfl (fun h => by cases h) fun _ => ?_
              repeat refine wps_seq ?_
              refine wps_skip ?_
              simp
              repeat refine wps_seq ?_
              refine wps_region callOK ?_
              simp [zS, add_one (show j ≤ 1000000000 by omega)]
              exact next _ ⟨[], [], ⟨rfl, rfl, rfl, by simp [fitL, fitV, pureV, pureL, aInts, aAttrs], FitH.nothing⟩⟩
          · repeat refine wps_seq ?_
            refine wps_region callOK ?_
            simp [zS, c1, c2]
            repeat refine wps_seq ?_
            refine wps_cond (t := false) rfl (fun h => by cases h) fun _ => ?_
            repeat refine wps_seq ?_
            refine wps_skip ?_
            simp
            repeat refine wps_seq ?_
            refine wps_region callOK ?_
            simp [zS, add_one (show j ≤ 1000000000 by omega)]
            exact next _ ⟨[], [], ⟨rfl, rfl, rfl, by simp [fitL, fitV, pureV, pureL, aInts, aAttrs], FitH.nothing⟩⟩
      · simp at h3
        repeat refine wps_seq ?_
        refine wps_exit ?_
        simp
        repeat refine wps_seq ?_
        refine wps_region callOK ?_
        simp [zS, add_one (show i ≤ 1000000000 by omega)]
        exact hB _ (i + 1) (by omega) (by omega) ⟨[], [], ⟨rfl, rfl, rfl, by simp [fitL, fitV, pureV, pureL, aInts, aAttrs], FitH.nothing⟩⟩
    · simp at h
      repeat refine wps_seq ?_
      refine wps_exit ?_
      simp
      repeat refine wps_seq ?_
      refine wps_region callOK ?_
      simp [zS, ka]
      repeat refine wps_seq ?_
      refine wps_ret ?_
      simp [retVal, Tryz.f3, oneOr, thenQ, blockQ]
      exact ends_pure rfl (by rfl)
theorem FitH.ownFz {k b m' : Nat} {es : List AV} {sz : Nat} {H : Heap} {Φ : List (Nat × List AV)} (he : Elems sz es) (hb : es ≠ [] → H.get b = some (.cells (flatAV es)))
    (n1 : (b :: Φ.map (·.1)).Nodup) (lt : k < m') (hf : ∀ x, x ∈ Φ → H.get x.1 = some (.cells x.2) ∧ pureL x.2 = true) : FitH 0 [(b, k)] Φ H ⟨m', [ownF k es]⟩ where
  nd1 := by simpa using n1
  nd2 := by simp
  nd3 := by cases es <;> simp [ownF, Heap.ents]
  lt := fun x hx => by simp at hx; subst hx; exact lt
  idn := fun x hx h => by rcases h with h | h <;> exact absurd h (Nat.not_lt_zero _)
  num := Nat.zero_le _
  src := fun e h => by
    cases hes : es with
    | nil => rw [hes] at h; simp [ownF, Heap.ents] at h
    | cons x r =>
      rw [hes] at h
      have h' : e = (k, .cells (flatAV (x :: r))) := by simpa [ownF, Heap.ents] using h
      subst h'
      exact ⟨b, _, by simp, by rw [hb (by simp [hes]), hes], by rw [← hes]; exact fitL_pure he.pure⟩
  frz := fun x hx => ⟨x.2, (hf x hx).1, fitL_pure (hf x hx).2, (hf x hx).2⟩
def takeF (p : Int → Bool) (L : List Int) (i : Nat) : List Int := (L.take i).filter p
theorem takeF_at {p : Int → Bool} {L : List Int} {i : Nat} (h : i < L.length) : takeF p L (i + 1) = if p L[i] = true then takeF p L i ++ [L[i]] else takeF p L i := by
  unfold takeF
  rw [List.take_succ_eq_append_getElem h, List.filter_append]
  by_cases hp : p L[i] = true
  · simp [hp]
  · simp [hp]
theorem takeF_len {p : Int → Bool} {L : List Int} {i : Nat} : (takeF p L i).length ≤ i := by
  have := List.length_filter_le p (L.take i)
  simp only [takeF, List.length_take] at this ⊢
  omega
theorem takeF_end {p : Int → Bool} {L : List Int} {i : Nat} (h : L.length ≤ i) : takeF p L i = L.filter p := by unfold takeF; rw [List.take_of_length_le h]
def isV (n : Nd) (nm x : Str) : Bool := decide (getAt nm n.attrs = some x)
theorem c88 {T : List (Entry Tryz.prog)} (hG : findE 56 T = some e56.g) (n : Nd) (nm x : Str) (hl : n.attrs.length ≤ 1000) : CallAt (ctx T) 88 [aNode n, .str nm, .str x] ⟨0, []⟩ (.bool (isV n nm x)) ⟨0, []⟩ := by
  have hk := fun H => k56 hG nm hl (th_aAttrs H _)
  have he : isV n nm x = decide (getAt nm n.attrs = some x) := rfl
  rw [he]
  obtain ⟨kind, space, name, attrs, data, up, kids⟩ := n
  simp only [aAttrs] at hk
  cases hg : getAt nm attrs with
  | none =>
    simp only [hg] at hk
    refine callAt_body (fn := Tryz.f88) (s0 := ⟨[0, 1, 2, 3, 6, 7, 8], [aNode ⟨kind, space, name, attrs, data, up, kids⟩, .str nm, .str x, .undef, .undef, .undef, .undef], [], 22, ⟨0, [[]]⟩⟩) Tryz.func88 rfl rfl rfl ?_
    (repeat (first
      | (refine wps_seq ?_)
      | (refine wps_block ?_)
      | (refine wps_label ?_; simp only [thenQ, blockQ])
      | ((refine wps_region callOK ?_); simp [zS, aNode, Nd.cs, aInt, aAttrs, aInts, hk, gotA])
      | (refine wps_cond (t := true) rfl (fun _ => ?_) (fun h => by cases h))
      | (refine wps_cond (t := false) rfl (fun h => by cases h) (fun _ => ?_))
      | ((refine wps_skip ?_); simp only [thenQ, blockQ])
      | ((refine wps_exit ?_); simp [thenQ, blockQ])))
    repeat refine wps_seq ?_
    refine wps_ret ?_
    simp [retVal, Tryz.f88, oneOr, thenQ, blockQ]
    exact ends_pure rfl (by simp)
  | some v =>
    simp only [hg] at hk
    refine callAt_body (fn := Tryz.f88) (s0 := ⟨[0, 1, 2, 3, 6, 7, 8], [aNode ⟨kind, space, name, attrs, data, up, kids⟩, .str nm, .str x, .undef, .undef, .undef, .undef], [], 22, ⟨0, [[]]⟩⟩) Tryz.func88 rfl rfl rfl ?_
    (repeat (first
      | (refine wps_seq ?_)
      | (refine wps_block ?_)
      | (refine wps_label ?_; simp only [thenQ, blockQ])
      | ((refine wps_region callOK ?_); simp [zS, aNode, Nd.cs, aInt, aAttrs, aInts, hk, gotA])
      | (refine wps_cond (t := true) rfl (fun _ => ?_) (fun h => by cases h))
      | (refine wps_cond (t := false) rfl (fun h => by cases h) (fun _ => ?_))
      | ((refine wps_skip ?_); simp only [thenQ, blockQ])
      | ((refine wps_exit ?_); simp [thenQ, blockQ])))
    repeat refine wps_seq ?_
    refine wps_ret ?_
    simp [retVal, Tryz.f88, oneOr, thenQ, blockQ]
    exact ends_pure rfl (by simp)
noncomputable def e88 : Entry Tryz.prog := mkE 88 [[], [], []] (fun x : Nd × Str × Str => [aNode x.1, .str x.2.1, .str x.2.2]) (fun x => x.1.attrs.length ≤ 1000) (fun x => .bool (isV x.1 x.2.1 x.2.2)) fun x hx => c88 (T := [e56]) rfl x.1 x.2.1 x.2.2 hx
theorem k88 {T : List (Entry Tryz.prog)} (hT : findE 88 T = some e88.g) {n : Nd} (nm x : Str) (hl : n.attrs.length ≤ 1000) (H : Heap) : callL (ctx T) (.fn 88) [aNode n, .str nm, .str x] H = some (.bool (isV n nm x), H) :=
  mkE_scalar hT injNSS (n, nm, x) hl rfl (by simp [th_aNode])
def winB (n : Nd) (x : Str) : Bool := decide (n.kind = 1) && (decide (n.space = 0) && (isV n wId x || (isV n wName x && inW lsWin n.name)))
def winL (t : Tr) (x : Str) : List Int := if x = [] then [] else (orderOf t.length (kidsOf t)).filter fun i => winB (nodeAt t i) x
theorem c61 {T : List (Entry Tryz.prog)} (hO : findE 53 T = some e53.g) (hH : findE 88 T = some e88.g) (hI : findE 83 T = some e83.g) (t : Tr) (ht : smallTr t) (hn : okNames t) (x : Str) :
    CallAt (ctx T) 61 [aTree t, .str x] ⟨0, []⟩ (ownV 0 1 (ints (winL t x))) ⟨1, [ownF 0 (ints (winL t x))]⟩ := by
  by_cases hx : x = []
  · subst hx
    refine callAt_body (fn := Tryz.f61) (s0 := ⟨[0, 1, 2, 4, 5, 7, 8, 13, 14, 15, 33], [aTree t, .str [], .undef, .undef, .undef, .undef, .undef, .undef, .undef, .undef, .undef], [], 51, ⟨0, [[]]⟩⟩) Tryz.func61 rfl rfl rfl ?_
    (repeat (first
      | (refine wps_seq ?_)
      | (refine wps_block ?_)
      | (refine wps_label ?_; simp only [thenQ, blockQ])
      | ((refine wps_region callOK ?_); simp [zS, aTree])
      | (refine wps_cond (t := true) rfl (fun _ => ?_) (fun h => by cases h))
      | (refine wps_cond (t := false) rfl (fun h => by cases h) (fun _ => ?_))
      | ((refine wps_skip ?_); simp only [thenQ, blockQ])
      | ((refine wps_exit ?_); simp [thenQ, blockQ])))
    repeat refine wps_seq ?_
    refine wps_ret ?_
    simp [retVal, Tryz.f61, oneOr, winL, ownV, ownF, ints]
    exact ⟨[], [], by simp [fitV], FitH.keep0 rfl⟩
  have hk := fun H => k53 hO ht H
  have hw : winL t x = (orderOf t.length (kidsOf t)).filter fun i => winB (nodeAt t i) x := by rw [winL, if_neg hx]
  rw [hw]
  have hLn : (orderOf t.length (kidsOf t)).length ≤ 50 := by have := order_len (n := t.length) (ks := kidsOf t); have := ht.1; omega
  have hmem : ∀ y, y ∈ orderOf t.length (kidsOf t) → 0 ≤ y ∧ y < (t.length : Int) := fun y hy => order_mem hy
  generalize orderOf t.length (kidsOf t) = L at *
  obtain ⟨p, hp⟩ : ∃ p : Int → Bool, p = fun i => winB (nodeAt t i) x := ⟨_, rfl⟩
  rw [← hp]
  simp only [aTree] at hk
  refine callAt_body (fn := Tryz.f61) (s0 := ⟨[0, 1, 2, 4, 5, 7, 8, 13, 14, 15, 33], [aTree t, .str x, .undef, .undef, .undef, .undef, .undef, .undef, .undef, .undef, .undef], [], 51, ⟨0, [[]]⟩⟩) Tryz.func61 rfl rfl rfl ?_
  repeat refine wps_seq ?_
  refine wps_region callOK ?_
  simp [zS, aTree]
  repeat refine wps_seq ?_
  refine wps_region callOK ?_
  simp [zS]
  repeat refine wps_seq ?_
  refine wps_region callOK ?_
  simp [zS, hx]
  repeat refine wps_seq ?_
  refine wps_cond (t := false) rfl (fun h => by cases h) fun _ => ?_
  repeat refine wps_seq ?_
  refine wps_skip ?_
  simp
  repeat refine wps_seq ?_
  refine wps_region callOK ?_
  simp [zS, hk, lenI]
  repeat refine wps_seq ?_
  refine .fit [] [(0, [aNodes t])] (s' := (⟨[0, 1, 2, 4, 5, 7, 8, 13, 14, 15, 33], [.undef, .str x, .fptr [aNodes t] 0, .undef, .nilS, .undef, .undef, aInts L, .int .i64 (L.length : Nat), .int .i64 0, .undef], [], 51, ⟨0, [[]]⟩⟩ : St)) ⟨rfl, rfl, rfl, by simp [fitL, fitV, lookC, pureV, aInts], ?_⟩ ?_
  · refine (FitH.froze (by simp) fun y hy => ?_).fs rfl
    simp only [List.mem_cons, List.not_mem_nil, or_false] at hy
    subst hy
    exact ⟨_, by simp [Heap.get, getFs, getF], fitL_pure (by simp [pureL]), by simp [pureL]⟩
  repeat refine wps_seq ?_
  refine wps_block (wps_loop' (fun i : Nat => (⟨[0, 1, 2, 4, 5, 7, 8, 13, 14, 15, 33], [.undef, .str x, .fptr [aNodes t] 0, .undef, ownV 0 1 (ints (takeF p L i)), .undef, .undef, aInts L, .int .i64 (L.length : Nat), .int .i64 i, .undef], [], 51, ⟨1, [ownF 0 (ints (takeF p L i))]⟩⟩ : St))
    (fun i => i ≤ L.length) (fun i => L.length - i) [] [] 0 (Nat.zero_le _)
    ⟨rfl, rfl, rfl, by simp [fitL, fitV, lookN, pureV, takeF, ownV, aInts, ints], FitH.keep0 (by simp [takeF, ownF, ints])⟩ ?_)
  rintro i hi B hB
  have hlen := takeF_len (p := p) (L := L) (i := i)
  repeat refine wps_seq ?_
  refine wps_region callOK ?_
  simp [zS]
  repeat refine wps_seq ?_
  refine wps_cond rfl (fun h => ?_) fun h => ?_
  · simp at h
    repeat refine wps_seq ?_
    refine wps_skip ?_
    simp
    repeat refine wps_seq ?_
    refine wps_block ?_
    obtain ⟨y0, y1⟩ := hmem L[i] (List.getElem_mem _)
    have hnx := takeF_at (p := p) h
    have ha := (ht.2.2 _ (nodeAt_mem y0 y1)).2
    have hnm := hn _ (nodeAt_mem y0 y1)
    have hX := atX y0 y1
    have hpy : p L[i] = winB (nodeAt t L[i]) x := by rw [hp]
    have kh := fun nm H => k88 hH nm x ha H
    have ki := fun H => k83 hI (W := lsWin) (by simp) hnm H
    have hne : (1 : Nat) ≠ 0 := by omega
    repeat refine wps_seq ?_
    refine wps_region callOK ?_
    simp [zS, atI h]
    repeat refine wps_seq ?_
    refine wps_region callOK ?_
    simp [zN, hX]
    generalize nodeAt t L[i] = n at *
    generalize hM : takeF p L i = M at *
    repeat refine wps_seq ?_
    refine .fit [(0, 0)] [(1, n.cs)] (s' := (⟨[0, 1, 2, 4, 5, 7, 8, 13, 14, 15, 33], [.undef, .str x, .fptr [aNodes t] 0, .undef, ownV 0 1 (ints M), .int .i64 L[i], .fptr n.cs 0, aInts L, .int .i64 (L.length : Nat), .int .i64 i, .undef], [], 51, ⟨1, [ownF 0 (ints M)]⟩⟩ : St)) ⟨rfl, rfl, rfl, by simp [fitL, fitV, lookC, lookN, fitV_own, pureV, aInts], ?_⟩ ?_
    · exact FitH.ownFz (k := 0) (b := 0) (es := ints M) (el_int _) (fun h => by rw [ownF_ne h]; simp [Heap.get, getFs, getF]) (by simp) (by omega) (fun z hz => by simp only [List.mem_singleton] at hz; subst hz; exact ⟨by simp [Heap.get, getFs, getF], pure_cs n⟩)
    repeat refine wps_seq ?_
    refine wps_block ?_
    by_cases c1 : n.kind = 1
    case neg =>
      rw [if_neg (by rw [hpy]; simp [winB, c1])] at hnx
      repeat refine wps_seq ?_
      refine wps_region callOK ?_
      simp [zS, c1]
      repeat refine wps_seq ?_
      refine wps_cond (t := true) rfl (fun _ => ?_) fun h => by cases h
      repeat refine wps_seq ?_
      refine wps_skip ?_
      simp
      repeat refine wps_seq ?_
      refine wps_region callOK ?_
      simp [zS, add_one (show i ≤ 1000000000 by omega)]
      refine hB _ (i + 1) (by omega) (by omega) ⟨[(0, 0)], [], rfl, rfl, rfl, by rw [hnx]; simp [fitL, fitV, lookN, fitV_own, pureV, aInts], by rw [hnx]; exact .ownFz (el_int _) (fun h => by rw [ownF_ne h]; simp [Heap.get, getFs, getF]) (by simp) (by omega) (by simp)⟩
    by_cases c2 : n.space = 0
    case neg =>
      rw [if_neg (by rw [hpy]; simp [winB, c2])] at hnx
      repeat refine wps_seq ?_
      refine wps_region callOK ?_
      simp [zS, c1, c2]
      repeat refine wps_seq ?_
      refine wps_cond (t := true) rfl (fun _ => ?_) fun h => by cases h
      repeat refine wps_seq ?_
      refine wps_skip ?_
      simp
      repeat refine wps_seq ?_
      refine wps_region callOK ?_
      simp [zS, add_one (show i ≤ 1000000000 by omega)]
      refine hB _ (i + 1) (by omega) (by omega) ⟨[(0, 0)], [], rfl, rfl, rfl, by rw [hnx]; simp [fitL, fitV, lookN, fitV_own, pureV, aInts], by rw [hnx]; exact .ownFz (el_int _) (fun h => by rw [ownF_ne h]; simp [Heap.get, getFs, getF]) (by simp) (by omega) (by simp)⟩
    repeat refine wps_seq ?_
    refine wps_region callOK ?_
    simp [zS, c1, c2]
    repeat refine wps_seq ?_
    refine wps_cond (t := false) rfl (fun h => by cases h) fun _ => ?_
    cases d1 : isV n wId x with
    | true =>
      rw [if_pos (by rw [hpy]; simp [winB, c1, c2, d1])] at hnx
      repeat refine wps_seq ?_
      refine wps_region callOK ?_
      simp [zS, fold_node, kh, d1]
      repeat refine wps_seq ?_
      refine wps_cond (t := true) rfl (fun _ => ?_) fun h => by cases h
      repeat refine wps_seq ?_
      refine wps_skip ?_
      simp
      repeat refine wps_seq ?_
      refine wps_cond (t := true) rfl (fun _ => ?_) fun h => by cases h
      have happ := own_app1 (P := Tryz.prog) (elem := 3) (b := 0) (t := 1) (m := 2) (es := ints M) (cs := [.int .i64 L[i]]) (g := []) (fs := []) szT3 byT3 zeT3 rfl (by omega) (by omega) rfl rfl (el_int _) (by simp; omega) (by omega) (by simp) (by simp)
      simp only [List.append_nil] at happ
      repeat refine wps_seq ?_
      refine wps_region callOK ?_
      simp [zS, happ]
      repeat refine wps_seq ?_
      refine wps_region callOK ?_
      simp [zS, add_one (show i ≤ 1000000000 by omega)]
      have hnn : ints (M ++ [L[i]]) ≠ [] := by simp [ints]
      refine hB _ (i + 1) (by omega) (by omega) ⟨[(2, 0)], [], rfl, rfl, rfl, ?_, .ownFz (el_int _) (fun _ => ?_) (by simp) (by omega) (by simp)⟩
      · rw [hnx, ownV_ne hnn]; simp [fitL, fitV, lookN, pureV, aInts]
      · rw [hnx, flat_ints, ints_app]; simp [Heap.get, getFs, getF]
    | false =>
      repeat refine wps_seq ?_
      refine wps_region callOK ?_
      simp [zS, fold_node, kh, d1]
      repeat refine wps_seq ?_
      refine wps_cond (t := false) rfl (fun h => by cases h) fun _ => ?_
      cases d2 : isV n wName x with
      | false =>
        rw [if_neg (by rw [hpy]; simp [winB, d1, d2])] at hnx
        repeat refine wps_seq ?_
        refine wps_region callOK ?_
        simp [zS, fold_node, kh, d2]
        repeat refine wps_seq ?_
        refine wps_cond (t := false) rfl (fun h => by cases h) fun _ => ?_
        repeat refine wps_seq ?_
        refine wps_skip ?_
        simp
        repeat refine wps_seq ?_
        refine wps_region callOK ?_
        simp [zS, add_one (show i ≤ 1000000000 by omega)]
        refine hB _ (i + 1) (by omega) (by omega) ⟨[(0, 0)], [], rfl, rfl, rfl, by rw [hnx]; simp [fitL, fitV, lookN, fitV_own, pureV, aInts], by rw [hnx]; exact .ownFz (el_int _) (fun h => by rw [ownF_ne h]; simp [Heap.get, getFs, getF]) (by simp) (by omega) (by simp)⟩
      | true =>
        cases d3 : inW lsWin n.name with
        | false =>
          rw [if_neg (by rw [hpy]; simp [winB, d1, d3])] at hnx
          repeat refine wps_seq ?_
          refine wps_region callOK ?_
          simp [zS, fold_node, kh, d2, ki, d3]
          repeat refine wps_seq ?_
          refine wps_cond (t := false) rfl (fun h => by cases h) fun _ => ?_
          repeat refine wps_seq ?_
          refine wps_skip ?_
          simp
          repeat refine wps_seq ?_
          refine wps_region callOK ?_
          simp [zS, add_one (show i ≤ 1000000000 by omega)]
          refine hB _ (i + 1) (by omega) (by omega) ⟨[(0, 0)], [], rfl, rfl, rfl, by rw [hnx]; simp [fitL, fitV, lookN, fitV_own, pureV, aInts], by rw [hnx]; exact .ownFz (el_int _) (fun h => by rw [ownF_ne h]; simp [Heap.get, getFs, getF]) (by simp) (by omega) (by simp)⟩
        | true =>
          rw [if_pos (by rw [hpy]; simp [winB, c1, c2, d2, d3])] at hnx
          repeat refine wps_seq ?_
          refine wps_region callOK ?_
          simp [zS, fold_node, kh, d2, ki, d3]
          repeat refine wps_seq ?_
          refine wps_cond (t := true) rfl (fun _ => ?_) fun h => by cases h
          have happ := own_app1 (P := Tryz.prog) (elem := 3) (b := 0) (t := 1) (m := 2) (es := ints M) (cs := [.int .i64 L[i]]) (g := []) (fs := []) szT3 byT3 zeT3 rfl (by omega) (by omega) rfl rfl (el_int _) (by simp; omega) (by omega) (by simp) (by simp)
          simp only [List.append_nil] at happ
          repeat refine wps_seq ?_
          refine wps_region callOK ?_
          simp [zS, happ]
          repeat refine wps_seq ?_
          refine wps_region callOK ?_
          simp [zS, add_one (show i ≤ 1000000000 by omega)]
          have hnn : ints (M ++ [L[i]]) ≠ [] := by simp [ints]
          refine hB _ (i + 1) (by omega) (by omega) ⟨[(2, 0)], [], rfl, rfl, rfl, ?_, .ownFz (el_int _) (fun _ => ?_) (by simp) (by omega) (by simp)⟩
          · rw [hnx, ownV_ne hnn]; simp [fitL, fitV, lookN, pureV, aInts]
          · rw [hnx, flat_ints, ints_app]; simp [Heap.get, getFs, getF]
  · simp at h
    repeat refine wps_seq ?_
    refine wps_exit ?_
    simp
    rw [takeF_end (by omega)]
    repeat refine wps_seq ?_
    refine wps_region callOK ?_
    simp [zS]
    repeat refine wps_seq ?_
    refine wps_ret ?_
    simp [retVal, Tryz.f61, oneOr]
    exact ⟨[(0, 0)], [], fitV_own (by simp [lookN]), FitH.ownFz (el_int _) (fun h => by rw [ownF_ne h]; simp [Heap.get, getFs, getF]) (by simp) (by omega) (by simp)⟩
noncomputable def e61 : Entry Tryz.prog := mkE 61 [[], []] (fun x : Tr × Str => [aTree x.1, .str x.2]) (fun x => smallTr x.1 ∧ okNames x.1) (fun x => aInts (winL x.1 x.2)) fun x hx => (c61 (T := [e53, e88, e83]) rfl rfl rfl x.1 hx.1 hx.2 x.2).froze (el_int _)
theorem k61 {T : List (Entry Tryz.prog)} (hT : findE 61 T = some e61.g) {t : Tr} (ht : smallTr t) (hn : okNames t) (x : Str) (H : Heap) : callL (ctx T) (.fn 61) [aTree t, .str x] H = some (aInts (winL t x), H) :=
  mkE_pure hT injTS (t, x) ⟨ht, hn⟩ (by simp [pureL, pureV]) (by simp [thawL, th_aTree]) H
@[simp] theorem if_err {e : Bool} : ifA Tryz.prog .eql 70 e = some (.bool e) := by kernel_rfl
theorem ends_one {H : Heap} {b : Nat} {x : Int} {cap : Cap} (h : H.get b = some (.cells [.int .i64 x])) : ∃ σ Φ, fitV σ Φ (.slc b 0 1 cap) (aInts [x]) ∧ FitH 0 σ Φ H ⟨0, []⟩ := by
  refine ⟨[], [(b, ints [x])], fit_ints (by simp [lookC]) rfl, .froze (by simp) fun y hy => ?_⟩
  rw [List.mem_singleton] at hy
  subst hy
  exact ⟨_, h, fitL_pure (by simp [pureL, pureV]), pure_ints [x]⟩
theorem ends_nilI {H : Heap} : ∃ σ Φ, fitV σ Φ .nilS (aInts []) ∧ FitH 0 σ Φ H ⟨0, []⟩ := ⟨[], [], by simp [aInts, fitV], FitH.empty⟩
theorem c24 {T : List (Entry Tryz.prog)} (hA : findE 47 T = some e47.g) (hI : findE 48 T = some e48.g) (hC : findE 33 T = some e33.g) (t : Tr) (ht : okTr t) (l : List Int) (hl : l.length ≤ 40) (x : Str) (hx : x.length ≤ 1000000) :
    CallAt (ctx T) 24 [aTree t, aInts l, .str x] ⟨0, []⟩ (aInts (itemL t l x)) ⟨0, []⟩ := by
  have ka := fun H => k47 hA hx H
  have kc := fun i H => k33 hC ht i x H
  simp only [aTree] at kc
  have rest : ∀ (s : St) (Q : Out → St → Prop), True := fun _ _ => trivial
  refine callAt_body (fn := Tryz.f24) (s0 := ⟨[0, 1, 2, 3, 6, 7, 8, 10, 39, 40, 41], [aTree t, aInts l, .str x, .undef, .undef, .undef, .undef, .undef, .undef, .undef, .undef], [], 52, ⟨0, [[]]⟩⟩) Tryz.func24 rfl rfl rfl ?_
  repeat refine wps_seq ?_
  refine wps_region callOK ?_
  simp [zS, aTree]
  have key : ∀ (v : Int) (e : AV), atoiA x = .tup [.int .i64 v, e] → (e = .nilI ∨ e = .iface 129 .undef) → (numI l x = if e = .nilI ∧ 0 ≤ v ∧ v < (l.length : Int) ∧ itoaS v.toNat = x then some v.toNat else none) := by
    intro v e h1 h2
    unfold atoiA at h1
    unfold numI
    cases hq : Lib.atoiAll x <;> (rw [hq] at h1; simp only [AV.tup.injEq, List.cons.injEq, AV.int.injEq, true_and, and_true] at h1; obtain ⟨rfl, rfl⟩ := h1; simp)
  have g0 : ∀ (m : Nat) (f : List (Nat × Blk)), getF 0 f = some (.cells [aNodes t]) → FitH 0 [(0, 0)] [] ⟨m, [f]⟩ ⟨1, [[(0, .cells [aNodes t])]]⟩ := fun m f hf => .id1 (g := [(0, .cells [aNodes t])]) (by simp) (by simp) (by simp [Heap.get, getFs, hf, pureL])
  obtain ⟨v, e, hve, hor⟩ : ∃ v e, atoiA x = .tup [.int .i64 v, e] ∧ (e = .nilI ∨ e = .iface 129 .undef) := by
    rcases atoiA_or x with ⟨v, h⟩ | ⟨v, h⟩
    · exact ⟨v, _, h, .inl rfl⟩
    · exact ⟨v, _, h, .inr rfl⟩
  have hnum := key v e hve hor
  rw [hve] at ka
  refine wps_join (numI l x = none) ((⟨[0, 1, 2, 3, 6, 7, 8, 10, 39, 40, 41], [.agg [aNodes t], aInts l, .str x, .ptr 0 0, .nilS, .int .i64 v, e, .undef, .undef, .undef, .undef], [], 52, ⟨1, [[(0, .cells [aNodes t])]]⟩⟩ : St)) (fun hno => ?_) fun hj => ?_
  rotate_left
  · have no : ∀ (P : Prop), ¬ (e = .nilI ∧ 0 ≤ v ∧ v < (l.length : Int) ∧ itoaS v.toNat = x) → numI l x = none := fun _ h => by rw [hnum, if_neg h]
    rcases hor with rfl | rfl
    · repeat refine wps_seq ?_
      refine wps_region callOK ?_
      simp [zS, ka]
      by_cases c1 : 0 ≤ v
      · by_cases c2 : v < (l.length : Int)
        · obtain ⟨n, rfl⟩ : ∃ n : Nat, v = n := ⟨v.toNat, by omega⟩
          have hn : n < l.length := by omega
          have ki := fun H => k48 hI (n := n) (by omega) H
          by_cases c3 : itoaS n = x
          · have hsome : numI l x = some n := by rw [hnum, if_pos (by simp [c2, c3])]; simp
            repeat refine wps_seq ?_
            refine wps_region callOK ?_
            simp [zS, lenI, c1, c2, hn, ki, c3]
            repeat refine wps_seq ?_
            refine wps_cond (t := true) rfl (fun _ => ?_) fun h => by cases h
            repeat refine wps_seq ?_
            refine wps_region callOK ?_
            simp [zS, atI hn]
            repeat refine wps_seq ?_
            refine wps_ret ?_
            simp [retVal, Tryz.f24, oneOr, itemL, hsome, List.getD_eq_getElem?_getD, hn]
            exact ends_one (by simp [Heap.get, getFs, getF])
          · repeat refine wps_seq ?_
            refine wps_region callOK ?_
            simp [zS, lenI, c1, c2, hn, ki, c3]
            repeat refine wps_seq ?_
            refine wps_cond (t := false) rfl (fun h => by cases h) fun _ => ?_
            repeat refine wps_seq ?_
            refine wps_skip ?_
            simp
            exact hj _ (no True (by simp [c3])) rfl
        · repeat refine wps_seq ?_
          refine wps_region callOK ?_
          simp [zS, lenI, c1, c2]
          repeat refine wps_seq ?_
          refine wps_cond (t := false) rfl (fun h => by cases h) fun _ => ?_
          repeat refine wps_seq ?_
          refine wps_skip ?_
          simp
          exact hj _ (no True (by omega)) rfl
      · repeat refine wps_seq ?_
        refine wps_region callOK ?_
        simp [zS, lenI, c1]
        repeat refine wps_seq ?_
        refine wps_cond (t := false) rfl (fun h => by cases h) fun _ => ?_
        repeat refine wps_seq ?_
        refine wps_skip ?_
        simp
        exact hj _ (no True (by omega)) rfl
    · repeat refine wps_seq ?_
      refine wps_region callOK ?_
      simp [zS, ka]
      repeat refine wps_seq ?_
      refine wps_region callOK ?_
      simp [zS]
      repeat refine wps_seq ?_
      refine wps_cond (t := false) rfl (fun h => by cases h) fun _ => ?_
      repeat refine wps_seq ?_
      refine wps_skip ?_
      simp
      exact hj _ (no True (by simp)) rfl
  have hit : itemL t l x = findI t x l := by simp only [itemL, hno]
  rw [hit]
  repeat refine wps_seq ?_
  refine wps_region callOK ?_
  simp [zS, lenI]
  repeat refine wps_seq ?_
  refine wps_block (wps_loop' (fun i : Nat => (⟨[0, 1, 2, 3, 6, 7, 8, 10, 39, 40, 41], [.undef, .undef, .str x, .ptr 0 0, .undef, .undef, .undef, .undef, aInts l, .int .i64 (l.length : Nat), .int .i64 i], [], 52, ⟨1, [[(0, .cells [aNodes t])]]⟩⟩ : St))
    (fun i => i ≤ l.length ∧ findI t x l = findI t x (l.drop i)) (fun i => l.length - i) [(0, 0)] [] 0 ⟨Nat.zero_le _, by simp⟩ ⟨rfl, rfl, rfl, by simp [fitL, fitV, lookN, pureV, aInts], g0 _ _ rfl⟩ ?_)
  rintro i ⟨hi, hd⟩ B hB
  repeat refine wps_seq ?_
  refine wps_region callOK ?_
  simp [zS]
  repeat refine wps_seq ?_
  refine wps_cond rfl (fun h => ?_) fun h => ?_
  · simp at h
    rw [List.drop_eq_getElem_cons h, findI] at hd
    repeat refine wps_seq ?_
    refine wps_skip ?_
    simp
    repeat refine wps_seq ?_
    refine wps_block ?_
    repeat refine wps_seq ?_
    refine wps_region callOK ?_
    simp [zS, atI h]
    cases hc : calledB t l[i] x with
    | true =>
      rw [if_pos hc] at hd
      repeat refine wps_seq ?_
      refine wps_region callOK ?_
      simp [zS, kc, hc]
      repeat refine wps_seq ?_
      refine wps_cond (t := true) rfl (fun _ => ?_) fun h => by cases h
      repeat refine wps_seq ?_
      refine wps_region callOK ?_
      simp [zS]
      repeat refine wps_seq ?_
      refine wps_ret ?_
      simp [retVal, Tryz.f24, oneOr]
      rw [hd]
      exact ends_one (by simp [Heap.get, getFs, getF])
    | false =>
      rw [if_neg (by simp [hc])] at hd
      repeat refine wps_seq ?_
      refine wps_region callOK ?_
      simp [zS, kc, hc]
      repeat refine wps_seq ?_
      refine wps_cond (t := false) rfl (fun h => by cases h) fun _ => ?_
      repeat refine wps_seq ?_
      refine wps_skip ?_
      simp
      repeat refine wps_seq ?_
      refine wps_region callOK ?_
      simp [zS, add_one (show i ≤ 1000000000 by omega)]
      exact hB _ (i + 1) (by omega) ⟨by omega, hd⟩ ⟨[(0, 0)], [], rfl, rfl, rfl, by simp [fitL, fitV, lookN, pureV, aInts], g0 _ _ rfl⟩
  · simp at h
    rw [List.drop_eq_nil_of_le h] at hd
    repeat refine wps_seq ?_
    refine wps_exit ?_
    simp
    repeat refine wps_seq ?_
    refine wps_region callOK ?_
    simp [zS]
    repeat refine wps_seq ?_
    refine wps_ret ?_
    simp [retVal, Tryz.f24, oneOr]
    rw [hd]
    exact ends_nilI
theorem injTLS (x y : Tr × List Int × Str) (h : [aTree x.1, aInts x.2.1, .str x.2.2] = [aTree y.1, aInts y.2.1, .str y.2.2]) : x = y := by
  simp only [List.cons.injEq] at h
  obtain ⟨h1, h2, h3, _⟩ := h
  simp at h3
  exact Prod.ext (inj_aTree h1) (Prod.ext (inj_aInts h2) h3)
noncomputable def e24 : Entry Tryz.prog := mkE 24 [[], [1], []] (fun x : Tr × List Int × Str => [aTree x.1, aInts x.2.1, .str x.2.2]) (fun x => okTr x.1 ∧ x.2.1.length ≤ 40 ∧ x.2.2.length ≤ 1000000) (fun x => aInts (itemL x.1 x.2.1 x.2.2)) fun x hx => c24 (T := [e47, e48, e33]) rfl rfl rfl x.1 hx.1 x.2.1 hx.2.1 x.2.2 hx.2.2
theorem k24 {T : List (Entry Tryz.prog)} (hT : findE 24 T = some e24.g) {t : Tr} (ht : okTr t) {l : List Int} (hl : l.length ≤ 40) {x : Str} (hx : x.length ≤ 1000000) (H : Heap) : callL (ctx T) (.fn 24) [aTree t, aInts l, .str x] H = some (aInts (itemL t l x), H) :=
  mkE_pure hT injTLS (t, l, x) ⟨ht, hl, hx⟩ (by simp [pureL, pureV, aTree, aNodes, aInts]) (by simp [th_aTree, aInts]) H
def formB (t : Tr) (i : Int) : Bool := if i < 0 ∨ (t.length : Int) ≤ i then false else decide ((nodeAt t i).kind = 1) && (decide ((nodeAt t i).space = 0) && decide ((nodeAt t i).name = lsForm))
theorem c40 {T : List (Entry Tryz.prog)} (t : Tr) (i : Int) : CallAt (ctx T) 40 [aTree t, .int .i64 i] ⟨0, []⟩ (.bool (formB t i)) ⟨0, []⟩ := by
  refine callAt_body (fn := Tryz.f40) (s0 := ⟨[0, 1, 2, 4], [aTree t, .int .i64 i, .undef, .undef], [], 41, ⟨0, [[]]⟩⟩) Tryz.func40 rfl rfl rfl ?_
  repeat refine wps_seq ?_
  refine wps_region callOK ?_
  simp [zS, aTree]
  by_cases c1 : i < 0
  · have c3 : ¬ (0 ≤ i) ∨ ¬ (i < (t.length : Int)) := by omega
    by_cases c4 : 0 ≤ i
    · have c5 : ¬ (i < (t.length : Int)) := by omega
      repeat refine wps_seq ?_
      refine wps_region callOK ?_
      simp [zS, lenN, c4, c5]
      repeat refine wps_seq ?_
      refine wps_ret ?_
      simp [retVal, Tryz.f40, oneOr, thenQ, blockQ]
      exact ends_pure rfl (by simp [formB, c1])
    · repeat refine wps_seq ?_
      refine wps_region callOK ?_
      simp [zS, lenN, c4]
      repeat refine wps_seq ?_
      refine wps_ret ?_
      simp [retVal, Tryz.f40, oneOr, thenQ, blockQ]
      exact ends_pure rfl (by simp [formB, c1])
  · by_cases c2 : (t.length : Int) ≤ i
    · have c3 : ¬ (0 ≤ i) ∨ ¬ (i < (t.length : Int)) := by omega
      by_cases c4 : 0 ≤ i
      · have c5 : ¬ (i < (t.length : Int)) := by omega
        repeat refine wps_seq ?_
        refine wps_region callOK ?_
        simp [zS, lenN, c4, c5]
        repeat refine wps_seq ?_
        refine wps_ret ?_
        simp [retVal, Tryz.f40, oneOr, thenQ, blockQ]
        exact ends_pure rfl (by simp [formB, c1, c2])
      · repeat refine wps_seq ?_
        refine wps_region callOK ?_
        simp [zS, lenN, c4]
        repeat refine wps_seq ?_
        refine wps_ret ?_
        simp [retVal, Tryz.f40, oneOr, thenQ, blockQ]
        exact ends_pure rfl (by simp [formB, c1, c2])
    · have p1 : 0 ≤ i := by omega
      have p2 : i < (t.length : Int) := by omega
      have hX := atX p1 p2
      have hf : formB t i = (decide ((nodeAt t i).kind = 1) && (decide ((nodeAt t i).space = 0) && decide ((nodeAt t i).name = lsForm))) := by simp [formB, c1, c2]
      rw [hf]
      generalize nodeAt t i = n at *
      by_cases d1 : n.kind = 1
      · by_cases d2 : n.space = 0
        · repeat refine wps_seq ?_
          refine wps_region callOK ?_
          simp [zS, lenN, p1, p2, hX, d1, d2]
          repeat refine wps_seq ?_
          refine wps_ret ?_
          simp [retVal, Tryz.f40, oneOr, thenQ, blockQ]
          exact ends_pure rfl (by simp [d1, d2])
        · repeat refine wps_seq ?_
          refine wps_region callOK ?_
          simp [zS, lenN, p1, p2, hX, d1, d2]
          repeat refine wps_seq ?_
          refine wps_ret ?_
          simp [retVal, Tryz.f40, oneOr, thenQ, blockQ]
          exact ends_pure rfl (by simp [d1, d2])
      · repeat refine wps_seq ?_
        refine wps_region callOK ?_
        simp [zS, lenN, p1, p2, hX, d1]
        repeat refine wps_seq ?_
        refine wps_ret ?_
        simp [retVal, Tryz.f40, oneOr, thenQ, blockQ]
        exact ends_pure rfl (by simp [d1])
noncomputable def e40 : Entry Tryz.prog := mkE 40 [[], []] (fun x : Tr × Int => [aTree x.1, .int .i64 x.2]) (fun _ => True) (fun x => .bool (formB x.1 x.2)) fun x _ => c40 (T := []) x.1 x.2
theorem k40 {T : List (Entry Tryz.prog)} (hT : findE 40 T = some e40.g) (t : Tr) (i : Int) (H : Heap) : callL (ctx T) (.fn 40) [aTree t, .int .i64 i] H = some (.bool (formB t i), H) :=
  mkE_scalar hT injTI (t, i) trivial rfl (by simp [th_aTree])
def chStart (t : Tr) (obj : Int) (x : Str) : List Int := if obj = 0 then winL t x else if obj = 1 then namedL t x else []
structure ChOk (t : Tr) : Prop where
  sm : smallTr t
  ok : okVals t
  few : t.length ≤ 30
theorem c37 {T : List (Entry Tryz.prog)} (hW : findE 61 T = some e61.g) (hD : findE 62 T = some e62.g) (t : Tr) (ht : ChOk t) (obj : Int) (x : Str) : CallAt (ctx T) 37 [aTree t, .int .i64 obj, .str x] ⟨0, []⟩ (aInts (chStart t obj x)) ⟨0, []⟩ := by
  have kw := fun H => k61 hW ht.sm ht.ok.nm x H
  have kd := fun H => k62 hD ht.sm x H
  simp only [aTree] at kw kd
  by_cases c1 : obj = 0
  · have e : chStart t obj x = winL t x := by simp [chStart, c1]
    rw [e]
    generalize winL t x = W at *
    refine callAt_body (fn := Tryz.f37) (s0 := ⟨[0, 1, 2, 3, 6, 7], [aTree t, .int .i64 obj, .str x, .undef, .undef, .undef], [], 18, ⟨0, [[]]⟩⟩) Tryz.func37 rfl rfl rfl ?_
    (repeat (first
      | (refine wps_seq ?_)
      | (refine wps_block ?_)
      | (refine wps_label ?_; simp only [thenQ, blockQ])
      | ((refine wps_region callOK ?_); simp [zS, aTree, c1, kw, aInts])
      | (refine wps_cond (t := true) rfl (fun _ => ?_) (fun h => by cases h))
      | (refine wps_cond (t := false) rfl (fun h => by cases h) (fun _ => ?_))
      | ((refine wps_skip ?_); simp only [thenQ, blockQ])
      | ((refine wps_exit ?_); simp [thenQ, blockQ])))
    repeat refine wps_seq ?_
    refine wps_ret ?_
    simp [retVal, Tryz.f37, oneOr, thenQ, blockQ]
    first | exact ⟨[], [], FitH.empty⟩ | exact ends_pure rfl (by rfl)
  · by_cases c2 : obj = 1
    · have e : chStart t obj x = namedL t x := by simp [chStart, c2]
      rw [e]
      generalize namedL t x = W at *
      refine callAt_body (fn := Tryz.f37) (s0 := ⟨[0, 1, 2, 3, 6, 7], [aTree t, .int .i64 obj, .str x, .undef, .undef, .undef], [], 18, ⟨0, [[]]⟩⟩) Tryz.func37 rfl rfl rfl ?_
      (repeat (first
        | (refine wps_seq ?_)
        | (refine wps_block ?_)
        | (refine wps_label ?_; simp only [thenQ, blockQ])
        | ((refine wps_region callOK ?_); simp [zS, aTree, c2, kd, aInts])
        | (refine wps_cond (t := true) rfl (fun _ => ?_) (fun h => by cases h))
        | (refine wps_cond (t := false) rfl (fun h => by cases h) (fun _ => ?_))
        | ((refine wps_skip ?_); simp only [thenQ, blockQ])
        | ((refine wps_exit ?_); simp [thenQ, blockQ])))
      repeat refine wps_seq ?_
      refine wps_ret ?_
      simp [retVal, Tryz.f37, oneOr, thenQ, blockQ]
      first | exact ⟨[], [], FitH.empty⟩ | exact ends_pure rfl (by rfl)
    · have e : chStart t obj x = [] := by simp [chStart, c1, c2]
      rw [e]
      refine callAt_body (fn := Tryz.f37) (s0 := ⟨[0, 1, 2, 3, 6, 7], [aTree t, .int .i64 obj, .str x, .undef, .undef, .undef], [], 18, ⟨0, [[]]⟩⟩) Tryz.func37 rfl rfl rfl ?_
      (repeat (first
        | (refine wps_seq ?_)
        | (refine wps_block ?_)
        | (refine wps_label ?_; simp only [thenQ, blockQ])
        | ((refine wps_region callOK ?_); simp [zS, aTree, c1, c2])
        | (refine wps_cond (t := true) rfl (fun _ => ?_) (fun h => by cases h))
        | (refine wps_cond (t := false) rfl (fun h => by cases h) (fun _ => ?_))
        | ((refine wps_skip ?_); simp only [thenQ, blockQ])
        | ((refine wps_exit ?_); simp [thenQ, blockQ])))
      repeat refine wps_seq ?_
      refine wps_ret ?_
      simp [retVal, Tryz.f37, oneOr]
      exact ends_nil
noncomputable def e37 : Entry Tryz.prog := mkE 37 [[], [], []] (fun x : Tr × Int × Str => [aTree x.1, .int .i64 x.2.1, .str x.2.2]) (fun x => ChOk x.1) (fun x => aInts (chStart x.1 x.2.1 x.2.2)) fun x h => c37 (T := [e61, e62]) rfl rfl x.1 h x.2.1 x.2.2
theorem k37 {T : List (Entry Tryz.prog)} (hT : findE 37 T = some e37.g) {t : Tr} (ht : ChOk t) (obj : Int) (x : Str) (H : Heap) : callL (ctx T) (.fn 37) [aTree t, .int .i64 obj, .str x] H = some (aInts (chStart t obj x), H) :=
  mkE_pure hT injTIS (t, obj, x) ht (by simp [pureL, pureV]) (by simp [thawL, th_aTree]) H
def chStep (t : Tr) (l : List Int) (x : Str) : List Int := match l with
  | [] => []
  | [i] => if formB t i = true then namedF t i x else []
  | _ :: _ :: _ => itemL t l x
theorem chStart_len {t : Tr} {obj : Int} {x : Str} : (chStart t obj x).length ≤ t.length := by
  unfold chStart
  split
  · unfold winL
    split
    · simp
    · exact Nat.le_trans (List.length_filter_le _ _) order_len
  · split
    · exact named_len
    · simp
theorem chStep_len {t : Tr} {x : Str} : ∀ {l : List Int}, (chStep t l x).length ≤ t.length + 1
  | [] => by simp [chStep]
  | [i] => by
    have := namedF_len (t := t) (v := x) (form := i)
    simp only [chStep]
    split
    · omega
    · simp
  | i :: j :: r => by
    show (itemL t (i :: j :: r) x).length ≤ _
    rcases item_or t (i :: j :: r) x with h | ⟨y, _, h⟩ <;> rw [h] <;> simp
theorem c20 {T : List (Entry Tryz.prog)} (hI : findE 24 T = some e24.g) (hN : findE 13 T = some e13.g) (hF : findE 40 T = some e40.g) (t : Tr) (ht : ChOk t) (l : List Int) (hl : l.length ≤ 40) (x : Str) (hx : x.length ≤ 100) : CallAt (ctx T) 20 [aTree t, aInts l, .str x] ⟨0, []⟩ (aInts (chStep t l x)) ⟨0, []⟩ := by
  match l, hl with
  | [], _ =>
    have l0 := fun H => lenI (H := H) (L := [])
    have e : chStep t [] x = [] := rfl
    rw [e]
    refine callAt_body (fn := Tryz.f20) (s0 := ⟨[0, 1, 2, 3, 6], [aTree t, aInts [], .str x, .undef, .undef], [], 32, ⟨0, [[]]⟩⟩) Tryz.func20 rfl rfl rfl ?_
    (repeat (first
      | (refine wps_seq ?_)
      | (refine wps_block ?_)
      | (refine wps_label ?_; simp only [thenQ, blockQ])
      | ((refine wps_region callOK ?_); simp [zS, aTree, l0])
      | (refine wps_cond (t := true) rfl (fun _ => ?_) (fun h => by cases h))
      | (refine wps_cond (t := false) rfl (fun h => by cases h) (fun _ => ?_))
      | ((refine wps_skip ?_); simp only [thenQ, blockQ])
      | ((refine wps_exit ?_); simp [thenQ, blockQ])))
    repeat refine wps_seq ?_
    refine wps_drawK mixed callOK (by decide +kernel) (by decide +kernel) ?_
    simp [zS, evalK_c, evalK_nil, thenK_some, l0]
    (repeat (first
      | (refine wps_seq ?_)
      | (refine wps_block ?_)
      | (refine wps_label ?_; simp only [thenQ, blockQ])
      | ((refine wps_region callOK ?_); simp [zS])
      | (refine wps_cond (t := true) rfl (fun _ => ?_) (fun h => by cases h))
      | (refine wps_cond (t := false) rfl (fun h => by cases h) (fun _ => ?_))
      | ((refine wps_skip ?_); simp only [thenQ, blockQ])
      | ((refine wps_exit ?_); simp [thenQ, blockQ])))
    repeat refine wps_seq ?_
    refine wps_ret ?_
    simp [retVal, Tryz.f20, oneOr]
    exact ends_nil
  | [i], _ =>
    have l0 := fun H => lenI (H := H) (L := [i])
    have a0 : indexAddrA Tryz.prog 27 (aInts [i]) (.int .i64 0) = some (.fptr [.int .i64 i] 0) := by simpa using atI (L := [i]) (i := 0) (by simp)
    have kf := fun H => k40 hF t i H
    have kn := fun H => k13 hN ht.sm ht.ok i x H
    simp only [aTree] at kf kn
    have e : chStep t [i] x = if formB t i = true then namedF t i x else [] := rfl
    rw [e]
    cases hb : formB t i with
    | false =>
      simp only [hb] at kf
      refine callAt_body (fn := Tryz.f20) (s0 := ⟨[0, 1, 2, 3, 6], [aTree t, aInts [i], .str x, .undef, .undef], [], 32, ⟨0, [[]]⟩⟩) Tryz.func20 rfl rfl rfl ?_
      (repeat (first
        | (refine wps_seq ?_)
        | (refine wps_block ?_)
        | (refine wps_label ?_; simp only [thenQ, blockQ])
        | ((refine wps_region callOK ?_); simp [zS, aTree, l0])
        | (refine wps_cond (t := true) rfl (fun _ => ?_) (fun h => by cases h))
        | (refine wps_cond (t := false) rfl (fun h => by cases h) (fun _ => ?_))
        | ((refine wps_skip ?_); simp only [thenQ, blockQ])
        | ((refine wps_exit ?_); simp [thenQ, blockQ])))
      repeat refine wps_seq ?_
      refine wps_drawK mixed callOK (by decide +kernel) (by decide +kernel) ?_
      simp [zS, evalK_c, evalK_nil, thenK_some, l0, a0, kf]
      (repeat (first
        | (refine wps_seq ?_)
        | (refine wps_block ?_)
        | (refine wps_label ?_; simp only [thenQ, blockQ])
        | ((refine wps_region callOK ?_); simp [zS])
        | (refine wps_cond (t := true) rfl (fun _ => ?_) (fun h => by cases h))
        | (refine wps_cond (t := false) rfl (fun h => by cases h) (fun _ => ?_))
        | ((refine wps_skip ?_); simp only [thenQ, blockQ])
        | ((refine wps_exit ?_); simp [thenQ, blockQ])))
      repeat refine wps_seq ?_
      refine wps_ret ?_
      simp [retVal, Tryz.f20, oneOr]
      exact ends_nil
    | true =>
      simp only [hb] at kf
      simp only [if_true]
      generalize namedF t i x = W at *
      refine callAt_body (fn := Tryz.f20) (s0 := ⟨[0, 1, 2, 3, 6], [aTree t, aInts [i], .str x, .undef, .undef], [], 32, ⟨0, [[]]⟩⟩) Tryz.func20 rfl rfl rfl ?_
      (repeat (first
        | (refine wps_seq ?_)
        | (refine wps_block ?_)
        | (refine wps_label ?_; simp only [thenQ, blockQ])
        | ((refine wps_region callOK ?_); simp [zS, aTree, l0])
        | (refine wps_cond (t := true) rfl (fun _ => ?_) (fun h => by cases h))
        | (refine wps_cond (t := false) rfl (fun h => by cases h) (fun _ => ?_))
        | ((refine wps_skip ?_); simp only [thenQ, blockQ])
        | ((refine wps_exit ?_); simp [thenQ, blockQ])))
      repeat refine wps_seq ?_
      refine wps_drawK mixed callOK (by decide +kernel) (by decide +kernel) ?_
      simp [zS, evalK_c, evalK_nil, thenK_some, l0, a0, kf]
      repeat refine wps_seq ?_
      refine wps_cond (t := true) rfl (fun _ => ?_) fun h => by cases h
      repeat refine wps_seq ?_
      refine wps_drawK mixed callOK (by decide +kernel) (by decide +kernel) ?_
      simp [zS, evalK_c, evalK_nil, thenK_some, a0, kn]
      repeat refine wps_seq ?_
      refine wps_ret ?_
      simp [retVal, Tryz.f20, oneOr, thenQ, blockQ]
      first | exact ⟨[], [], FitH.empty⟩ | exact ends_pure rfl (by rfl)
  | i :: j :: r, hl =>
    have l0 := fun H => lenI (H := H) (L := i :: j :: r)
    have ki := fun H => k24 hI ht.sm.2 (l := i :: j :: r) hl (x := x) (by omega) H
    have e : chStep t (i :: j :: r) x = itemL t (i :: j :: r) x := rfl
    rw [e]
    have hbig : (1 : Int) < ((i :: j :: r).length : Int) := by simp only [List.length_cons]; omega
    generalize itemL t (i :: j :: r) x = W at *
    generalize i :: j :: r = L at *
    simp only [aTree] at ki
    refine callAt_body (fn := Tryz.f20) (s0 := ⟨[0, 1, 2, 3, 6], [aTree t, aInts L, .str x, .undef, .undef], [], 32, ⟨0, [[]]⟩⟩) Tryz.func20 rfl rfl rfl ?_
    (repeat (first
      | (refine wps_seq ?_)
      | (refine wps_block ?_)
      | (refine wps_label ?_; simp only [thenQ, blockQ])
      | ((refine wps_region callOK ?_); simp [zS, aTree, l0, hbig, ki, aInts])
      | (refine wps_cond (t := true) rfl (fun _ => ?_) (fun h => by cases h))
      | (refine wps_cond (t := false) rfl (fun h => by cases h) (fun _ => ?_))
      | ((refine wps_skip ?_); simp only [thenQ, blockQ])
      | ((refine wps_exit ?_); simp [thenQ, blockQ])))
    repeat refine wps_seq ?_
    refine wps_ret ?_
    simp [retVal, Tryz.f20, oneOr, thenQ, blockQ]
    first | exact ⟨[], [], FitH.empty⟩ | exact ends_pure rfl (by rfl)
noncomputable def e20 : Entry Tryz.prog := mkE 20 [[], [1], []] (fun x : Tr × List Int × Str => [aTree x.1, aInts x.2.1, .str x.2.2]) (fun x => ChOk x.1 ∧ x.2.1.length ≤ 40 ∧ x.2.2.length ≤ 100) (fun x => aInts (chStep x.1 x.2.1 x.2.2)) fun x h => c20 (T := [e24, e13, e40]) rfl rfl rfl x.1 h.1 x.2.1 h.2.1 x.2.2 h.2.2
theorem k20 {T : List (Entry Tryz.prog)} (hT : findE 20 T = some e20.g) {t : Tr} (ht : ChOk t) {l : List Int} (hl : l.length ≤ 40) {x : Str} (hx : x.length ≤ 100) (H : Heap) : callL (ctx T) (.fn 20) [aTree t, aInts l, .str x] H = some (aInts (chStep t l x), H) :=
  mkE_pure hT injTLS (t, l, x) ⟨ht, hl, hx⟩ (by simp [pureL, pureV, aInts]) (by simp [thawL, th_aTree, aInts]) H
theorem c38 {T : List (Entry Tryz.prog)} (hS : findE 20 T = some e20.g) (t : Tr) (ht : ChOk t) (l : List Int) (hl : l.length ≤ 40) (x : Str) (hx : x.length ≤ 100) : CallAt (ctx T) 38 [aInts l, .fptr [aNodes t] 0, .fptr [.str x] 0] ⟨0, []⟩ (aInts (chStep t l x)) ⟨0, []⟩ := by
  have ks := fun H => k20 hS ht hl hx H
  simp only [aTree] at ks
  generalize chStep t l x = W at *
  refine callAt_body (fn := Tryz.f38) (s0 := ⟨[0, 1, 2, 4], [aInts l, .fptr [aNodes t] 0, .fptr [.str x] 0, .undef], [], 9, ⟨0, [[]]⟩⟩) Tryz.func38 rfl rfl rfl ?_
  (repeat (first
    | (refine wps_seq ?_)
    | (refine wps_block ?_)
    | (refine wps_label ?_; simp only [thenQ, blockQ])
    | ((refine wps_region callOK ?_); simp [zS, ks, aInts])
    | (refine wps_cond (t := true) rfl (fun _ => ?_) (fun h => by cases h))
    | (refine wps_cond (t := false) rfl (fun h => by cases h) (fun _ => ?_))
    | ((refine wps_skip ?_); simp only [thenQ, blockQ])
    | ((refine wps_exit ?_); simp [thenQ, blockQ])))
  repeat refine wps_seq ?_
  refine wps_ret ?_
  simp [retVal, Tryz.f38, oneOr, thenQ, blockQ]
  first | exact ⟨[], [], FitH.empty⟩ | exact ends_pure rfl (by rfl)
theorem c39 {T : List (Entry Tryz.prog)} (hS : findE 37 T = some e37.g) (t : Tr) (ht : ChOk t) (l : List Int) (obj : Int) (x : Str) : CallAt (ctx T) 39 [aInts l, .fptr [aNodes t] 0, .fptr [.int .i64 obj] 0, .fptr [.str x] 0] ⟨0, []⟩ (aInts (chStart t obj x)) ⟨0, []⟩ := by
  have ks := fun H => k37 hS ht obj x H
  simp only [aTree] at ks
  generalize chStart t obj x = W at *
  refine callAt_body (fn := Tryz.f39) (s0 := ⟨[1, 2, 3, 5], [.fptr [aNodes t] 0, .fptr [.int .i64 obj] 0, .fptr [.str x] 0, .undef], [(0, aInts l)], 10, ⟨0, [[]]⟩⟩) Tryz.func39 rfl rfl rfl ?_
  (repeat (first
    | (refine wps_seq ?_)
    | (refine wps_block ?_)
    | (refine wps_label ?_; simp only [thenQ, blockQ])
    | ((refine wps_region callOK ?_); simp [zS, ks, aInts])
    | (refine wps_cond (t := true) rfl (fun _ => ?_) (fun h => by cases h))
    | (refine wps_cond (t := false) rfl (fun h => by cases h) (fun _ => ?_))
    | ((refine wps_skip ?_); simp only [thenQ, blockQ])
    | ((refine wps_exit ?_); simp [thenQ, blockQ])))
  repeat refine wps_seq ?_
  refine wps_ret ?_
  simp [retVal, Tryz.f39, oneOr, thenQ, blockQ]
  first | exact ⟨[], [], FitH.empty⟩ | exact ends_pure rfl (by rfl)
@[simp] theorem szT58 : sizeT Tryz.prog 58 = some 1 := rfl
@[simp] theorem agT58 : aggT Tryz.prog 58 = some false := rfl
@[simp] theorem byT58 : bytesT Tryz.prog 58 = some 24 := rfl
@[simp] theorem alT58 (H : Heap) : alV Tryz.prog H 58 = some (.ptr H.n 0, H.new (.cells [.nilS])) := rfl
@[simp] theorem zeT58 : zeroOf Tryz.prog 58 = some (.nilS) := rfl
attribute [simp] Tryz.underlying58
@[simp 500] theorem rvF58 (H : Heap) (cs : List AV) (o : Nat) : readVar Tryz.prog H 58 (.fptr cs o) = getL cs o := rfl
@[simp 500] theorem rvP58 (H : Heap) (b o : Nat) : readVar Tryz.prog H 58 (.ptr b o) = (H.get b).bind fun k => k.rd.bind fun cs => getL cs o := rfl
@[simp] theorem slz58 (sz : Nat) (e : AV) (r : List AV) : binA Tryz.prog .eql 58 (.fslc sz (e :: r)) .nilS = some (.bool false) := rfl
@[simp] theorem sln58 (sz : Nat) (e : AV) (r : List AV) : binA Tryz.prog .neq 58 (.fslc sz (e :: r)) .nilS = some (.bool true) := rfl
@[simp] theorem slze58 : binA Tryz.prog .eql 58 .eslc .nilS = some (.bool false) := rfl
@[simp] theorem slzz58 : binA Tryz.prog .eql 58 .nilS .nilS = some (.bool true) := rfl
@[simp] theorem szT60 : sizeT Tryz.prog 60 = some 1 := rfl
@[simp] theorem agT60 : aggT Tryz.prog 60 = some false := rfl
@[simp] theorem byT60 : bytesT Tryz.prog 60 = some 8 := rfl
@[simp] theorem alT60 (H : Heap) : alV Tryz.prog H 60 = some (.ptr H.n 0, H.new (.cells [.nilF])) := rfl
@[simp] theorem zeT60 : zeroOf Tryz.prog 60 = some (.nilF) := rfl
attribute [simp] Tryz.underlying60
@[simp 500] theorem rvF60 (H : Heap) (cs : List AV) (o : Nat) : readVar Tryz.prog H 60 (.fptr cs o) = getL cs o := rfl
@[simp 500] theorem rvP60 (H : Heap) (b o : Nat) : readVar Tryz.prog H 60 (.ptr b o) = (H.get b).bind fun k => k.rd.bind fun cs => getL cs o := rfl
def chRun (t : Tr) (obj : Int) : List Str → List Int
  | [] => []
  | x :: r => r.foldl (chStep t) (chStart t obj x)
theorem chRun_snoc {t : Tr} {obj : Int} {x : Str} : ∀ {l : List Str}, chRun t obj (l ++ [x]) = if l = [] then chStart t obj x else chStep t (chRun t obj l) x
  | [] => rfl
  | y :: r => by simp [chRun]
theorem chRun_len {t : Tr} {obj : Int} (l : List Str) : (chRun t obj l).length ≤ t.length + 1 := by
  rcases List.eq_nil_or_concat l with rfl | ⟨r, x, rfl⟩
  · simp [chRun]
  · rw [List.concat_eq_append, chRun_snoc]
    split
    · have := chStart_len (t := t) (obj := obj) (x := x); omega
    · exact chStep_len
theorem FitH.keep1F {k b m' : Nat} {cs : List AV} {H : Heap} {Φ : List (Nat × List AV)} (h : H.get b = some (.cells cs)) (hp : pureL cs = true)
    (n1 : (b :: Φ.map (·.1)).Nodup) (lt : k < m') (hf : ∀ x, x ∈ Φ → H.get x.1 = some (.cells x.2) ∧ pureL x.2 = true) : FitH 0 [(b, k)] Φ H ⟨m', [[(k, .cells cs)]]⟩ where
  nd1 := by simpa using n1
  nd2 := by simp
  nd3 := by simp [Heap.ents]
  lt := fun x hx => by simp at hx; subst hx; exact lt
  idn := fun x hx h => by rcases h with h | h <;> exact absurd h (Nat.not_lt_zero _)
  num := Nat.zero_le _
  src := fun e he => by
    have h' : e = (k, .cells cs) := by simpa [Heap.ents] using he
    subst h'
    exact ⟨b, _, by simp, h, fitL_pure hp⟩
  frz := fun x hx => ⟨x.2, (hf x hx).1, fitL_pure (hf x hx).2, (hf x hx).2⟩
def linkF (t : Tr) (obj : Int) (ns : List Str) (j : Nat) : AV := if j = 0 then .func (.func 39) [] [.fptr [aNodes t] 0, .fptr [.int .i64 obj] 0, .fptr [.str (ns.getD j [])] 0] else .func (.func 38) [] [.fptr [aNodes t] 0, .fptr [.str (ns.getD j [])] 0]
def linksTo (t : Tr) (obj : Int) (ns : List Str) (i : Nat) : List AV := (List.range i).map (linkF t obj ns) ++ List.replicate (ns.length - i) .nilF
theorem linkF_pure {t : Tr} {obj : Int} {ns : List Str} {j : Nat} : pureV (linkF t obj ns j) = true := by unfold linkF; split <;> simp [pureV, pureL]
theorem linkF_cells {t : Tr} {obj : Int} {ns : List Str} {j : Nat} : (linkF t obj ns j).cells = [linkF t obj ns j] := by unfold linkF; split <;> rfl
theorem pureL_all : ∀ {l : List AV}, (∀ x, x ∈ l → pureV x = true) → pureL l = true
  | [], _ => rfl
  | a :: r, h => by simp only [pureL, h a (by simp), pureL_all (l := r) fun x hx => h x (by simp [hx]), Bool.and_self]
theorem links_pure {t : Tr} {obj : Int} {ns : List Str} {i : Nat} : pureL (linksTo t obj ns i) = true := by
  refine pureL_all fun x hx => ?_
  simp only [linksTo, List.mem_append, List.mem_map, List.mem_replicate] at hx
  rcases hx with ⟨j, _, rfl⟩ | ⟨_, rfl⟩
  · exact linkF_pure
  · rfl
theorem links_len {t : Tr} {obj : Int} {ns : List Str} {i : Nat} (h : i ≤ ns.length) : (linksTo t obj ns i).length = ns.length := by simp [linksTo]; omega
theorem links_set {t : Tr} {obj : Int} {ns : List Str} {i : Nat} (h : i < ns.length) : (linksTo t obj ns i).set i (linkF t obj ns i) = linksTo t obj ns (i + 1) := by
  have e : ns.length - i = (ns.length - (i + 1)) + 1 := by omega
  unfold linksTo
  rw [List.set_append_right _ _ (by simp), e, List.replicate_succ, List.range_succ, List.map_append]
  simp
theorem links_all {t : Tr} {obj : Int} {ns : List Str} : linksTo t obj ns ns.length = (List.range ns.length).map (linkF t obj ns) := by simp [linksTo]
theorem layC {v : AV} : ∀ {cs : List AV} {i : Nat}, i < cs.length → layL [v] i cs = some (cs.set i v)
  | [], _, h => absurd h (Nat.not_lt_zero _)
  | x :: r, 0, _ => by simp [layL, overL]
  | x :: r, i + 1, h => by
    simp only [layL, layC (cs := r) (i := i) (by simpa using h)]
    rfl
theorem mkL {H : Heap} {n : Nat} (h : n ≤ 1000000) : makeSliceA Tryz.prog H 58 (.int .i64 (n : Int)) (.int .i64 (n : Int)) = some (.slc H.n 0 n (.ex n), H.new (.cells (List.replicate n .nilF))) := by
  have hr : ∀ n, replL [AV.nilF] n = List.replicate n .nilF := fun n => by
    induction n with
    | zero => rfl
    | succ n ih => simp [replL, ih, List.replicate_succ]
  have h1 : idx (n : Int) 17592186044416 = some n := idx_nat (by omega)
  have h2 : idx (n : Int) (Nat.succ n) = some n := idx_nat (by omega)
  have h3 : roomOK n 8 = true := by unfold roomOK; rw [Nat.ble_eq]; omega
  unfold makeSliceA msB
  simp [h1, h2, h3, hr]
theorem ixL {b n i : Nat} {c : Cap} (h : i < n) : indexAddrA Tryz.prog 58 (.slc b 0 n c) (.int .i64 (i : Int)) = some (.ptr b i) := by
  simp [indexAddrA, idx_nat h]
theorem lenL {H : Heap} {b o n : Nat} {c : Cap} : lenA Tryz.prog H 58 (.slc b o n c) = some n := by simp [lenA]
theorem atL {t : Tr} {obj : Int} {ns : List Str} {i : Nat} (h : i < ns.length) : indexAddrA Tryz.prog 58 (.fslc 1 ((List.range ns.length).map (linkF t obj ns))) (.int .i64 (i : Int)) = some (.fptr [linkF t obj ns i] 0) := by
  have hg : getL ((List.range ns.length).map (linkF t obj ns)) i = some (linkF t obj ns i) := by rw [getL_map (by simpa using h)]; simp
  simp [indexAddrA, idx_nat h, hg, linkF_cells]
theorem slS {H : Heap} {L : List Str} {k : Nat} (h : k ≤ L.length) : sliceA Tryz.prog H 40 (aStrs L) none (some (.int .i64 (k : Int))) none = some (aStrs (L.take k)) := by
  have h1 : idx (k : Int) (Nat.succ L.length) = some k := idx_nat (by omega)
  simp [sliceA, hiOK, bound, h1]
theorem fit_links {t : Tr} {obj : Int} {ns : List Str} {σ : List (Nat × Nat)} {Φ : List (Nat × List AV)} (h : lookC 0 Φ = some (linksTo t obj ns ns.length)) : fitV σ Φ (.slc 0 0 ns.length (.ex ns.length)) (.fslc 1 ((List.range ns.length).map (linkF t obj ns))) := by
  simp only [fitV]
  refine .inl ⟨_, h, ?_, by simp, ?_⟩
  · have hf : ∀ l : List Nat, flatAV (l.map (linkF t obj ns)) = l.map (linkF t obj ns) := fun l => by
      induction l with
      | nil => rfl
      | cons a r ih => simp [flatAV, ih, linkF_cells]
    rw [hf, links_all, subL_front (by simp)]
    rw [List.drop_zero, Nat.mul_one, List.take_of_length_le (by simp)]
  · refine allSize_of fun e he => ?_
    obtain ⟨j, _, rfl⟩ := List.mem_map.1 he
    rw [linkF_cells]; rfl
def runN (t : Tr) (obj : Int) (ns : List Str) : List Int := chRun t obj (ns.take 8)
theorem c17 {T : List (Entry Tryz.prog)} (hS : findE 20 T = some e20.g) (hSt : findE 37 T = some e37.g) (t : Tr) (ht : ChOk t) (obj : Int) (ns0 : List Str) (hn0 : ns0.length ≤ 1000000) (hx0 : ∀ x, x ∈ ns0 → x.length ≤ 100) :
    CallAt (ctx T) 17 [aTree t, .int .i64 obj, aStrs ns0] ⟨0, []⟩ (aInts (runN t obj ns0)) ⟨0, []⟩ := by
  obtain ⟨k, hk⟩ : ∃ k, k = min ns0.length 8 := ⟨_, rfl⟩
  have hmin : maxA true (.int .i64 (ns0.length : Int)) [.int .i64 8] = some (.int .i64 (k : Int)) := by
    simp only [maxA, if_true]
    congr 2
    omega
  have hkl : k ≤ ns0.length := by omega
  have hsl := fun H => slS (H := H) (L := ns0) hkl
  have htk : ns0.take k = ns0.take 8 := by
    rw [hk]
    rcases Nat.le_total ns0.length 8 with h | h
    · rw [Nat.min_eq_left h, List.take_of_length_le (Nat.le_refl _), List.take_of_length_le h]
    · rw [Nat.min_eq_right h]
  have hrun : runN t obj ns0 = chRun t obj (ns0.take k) := by rw [htk]; rfl
  obtain ⟨ns, hns⟩ : ∃ ns, ns = ns0.take k := ⟨_, rfl⟩
  have hn : ns.length ≤ 8 := by rw [hns]; simp; omega
  have hx : ∀ x, x ∈ ns → x.length ≤ 100 := fun x h => hx0 x (List.mem_of_mem_take (hns ▸ h))
  rw [hrun]
  rw [← hns] at hsl ⊢
  have hgD : ∀ (i : Nat) (h : i < ns.length), ns.getD i [] = ns[i] := fun i h => by simp [List.getD_eq_getElem?_getD, h]
  refine callAt_body (fn := Tryz.f17) (s0 := ⟨[0, 1, 2, 3, 4, 6, 7, 8, 9, 10, 12, 21, 22, 23, 39, 40, 41], [aTree t, .int .i64 obj, aStrs ns0, .undef, .undef, .undef, .undef, .undef, .undef, .undef, .undef, .undef, .undef, .undef, .undef, .undef, .undef], [], 50, ⟨0, [[]]⟩⟩) Tryz.func17 rfl rfl rfl ?_
  repeat refine wps_seq ?_
  refine wps_region callOK ?_
  simp [zS, aTree]
  repeat refine wps_seq ?_
  refine .fit [] [(1, [.int .i64 obj]), (0, [aNodes t])] (s' := (⟨[0, 1, 2, 3, 4, 6, 7, 8, 9, 10, 12, 21, 22, 23, 39, 40, 41], [.undef, .undef, aStrs ns0, .fptr [aNodes t] 0, .fptr [.int .i64 obj] 0, .nilS, .undef, .undef, .undef, .undef, .undef, .undef, .undef, .undef, .undef, .undef, .undef], [], 50, ⟨0, [[]]⟩⟩ : St)) ⟨rfl, rfl, rfl, by simp [fitL, fitV, lookC, pureV], ?_⟩ ?_
  · refine (FitH.froze (by simp) fun y hy => ?_).fs rfl
    simp only [List.mem_cons, List.not_mem_nil, or_false] at hy
    rcases hy with rfl | rfl
    · exact ⟨_, by simp [Heap.get, getFs, getF], fitL_pure (by simp [pureL, pureV]), by simp [pureL, pureV]⟩
    · exact ⟨_, by simp [Heap.get, getFs, getF], fitL_pure (by simp [pureL]), by simp [pureL]⟩
  repeat refine wps_seq ?_
  refine wps_region callOK ?_
  simp [zS, lenS, hmin, hsl]
  have hm := fun H => mkL (H := H) (n := ns.length) (by omega)
  repeat refine wps_seq ?_
  refine wps_region callOK ?_
  simp [zS, lenS, hm]
  repeat refine wps_seq ?_
  refine wps_region callOK ?_
  simp [zS, lenS]
  repeat refine wps_seq ?_
  refine wps_block (wps_loop' (fun i : Nat => (⟨[0, 1, 2, 3, 4, 6, 7, 8, 9, 10, 12, 21, 22, 23, 39, 40, 41], [.undef, .undef, .undef, .fptr [aNodes t] 0, .fptr [.int .i64 obj] 0, .nilS, .slc 0 0 ns.length (.ex ns.length), .undef, .undef, .undef, .undef, aStrs ns, .int .i64 (ns.length : Nat), .int .i64 i, .undef, .undef, .undef], [], 50, ⟨1, [[(0, .cells (linksTo t obj ns i))]]⟩⟩ : St))
    (fun i => i ≤ ns.length) (fun i => ns.length - i) [(0, 0)] [] 0 (Nat.zero_le _)
    ⟨rfl, rfl, rfl, by simp [fitL, fitV, lookN, pureV, pureL], .keep1F (by simp [Heap.get, getFs, getF, linksTo]) links_pure (by simp) (by omega) (by simp)⟩ ?_)
  rintro i hi B hB
  have hll := links_len (t := t) (obj := obj) hi
  repeat refine wps_seq ?_
  refine wps_region callOK ?_
  simp [zS]
  repeat refine wps_seq ?_
  refine wps_cond rfl (fun h => ?_) fun h => ?_
  · simp at h
    repeat refine wps_seq ?_
    refine wps_skip ?_
    simp
    repeat refine wps_seq ?_
    refine wps_block ?_
    have hset := links_set (t := t) (obj := obj) h
    repeat refine wps_seq ?_
    refine wps_region callOK ?_
    simp [zS, atS h]
    generalize hM : linksTo t obj ns i = M at *
    have hMp : pureL M = true := by rw [← hM]; exact links_pure
    repeat refine wps_seq ?_
    refine .fit [(0, 0)] [(1, [.str ns[i]])] (s' := (⟨[0, 1, 2, 3, 4, 6, 7, 8, 9, 10, 12, 21, 22, 23, 39, 40, 41], [.undef, .undef, .undef, .fptr [aNodes t] 0, .fptr [.int .i64 obj] 0, .nilS, .slc 0 0 ns.length (.ex ns.length), .int .i64 i, .fptr [.str ns[i]] 0, .undef, .undef, aStrs ns, .int .i64 (ns.length : Nat), .int .i64 i, .undef, .undef, .undef], [], 50, ⟨1, [[(0, .cells M)]]⟩⟩ : St)) ⟨rfl, rfl, rfl, by simp [fitL, fitV, lookC, lookN, pureV, pureL], .keep1F (by simp [Heap.get, getFs, getF]) hMp (by simp) (by omega) (fun z hz => by simp only [List.mem_singleton] at hz; subst hz; exact ⟨by simp [Heap.get, getFs, getF], by simp [pureL, pureV]⟩)⟩ ?_
    by_cases h0 : i = 0
    · have hset0 : M.set i (.func (.func 39) [] [.fptr [aNodes t] 0, .fptr [.int .i64 obj] 0, .fptr [.str ns[i]] 0]) = linksTo t obj ns (i + 1) := by
        rw [← hset]; simp only [linkF, hgD i h]; rw [if_pos h0]
      repeat refine wps_seq ?_
      refine wps_region callOK ?_
      simp [zS, ixL h, layC (cs := M) (i := i) (by omega)]
      have hz : decide (i = 0) = true := decide_eq_true h0
      repeat refine wps_seq ?_
      refine wps_region callOK ?_
      simp [zS, hz]
      repeat refine wps_seq ?_
      refine wps_cond (t := true) rfl (fun _ => ?_) fun h => by cases h
      repeat refine wps_seq ?_
      refine wps_region callOK ?_
      simp [zS, ixL h, layC (cs := M.set i _) (i := i) (by simp; omega), hset0]
      repeat refine wps_seq ?_
      refine wps_region callOK ?_
      simp [zS, add_one (show i ≤ 1000000000 by omega)]
      exact hB _ (i + 1) (by omega) (by omega) ⟨[(0, 0)], [], rfl, rfl, rfl, by simp [fitL, fitV, lookN, pureV, pureL], .keep1F (by simp [Heap.get, getFs, getF]) links_pure (by simp) (by omega) (by simp)⟩
    · have hset1 : M.set i (.func (.func 38) [] [.fptr [aNodes t] 0, .fptr [.str ns[i]] 0]) = linksTo t obj ns (i + 1) := by
        rw [← hset]; simp only [linkF, hgD i h]; rw [if_neg h0]
      repeat refine wps_seq ?_
      refine wps_region callOK ?_
      simp [zS, ixL h, layC (cs := M) (i := i) (by omega), hset1]
      have hz : ¬ (i : Int) = 0 := by omega
      repeat refine wps_seq ?_
      refine wps_region callOK ?_
      simp [zS, hz, h0]
      repeat refine wps_seq ?_
      refine wps_cond (t := false) rfl (fun h => by cases h) fun _ => ?_
      repeat refine wps_seq ?_
      refine wps_skip ?_
      simp
      repeat refine wps_seq ?_
      refine wps_region callOK ?_
      simp [zS, add_one (show i ≤ 1000000000 by omega)]
      exact hB _ (i + 1) (by omega) (by omega) ⟨[(0, 0)], [], rfl, rfl, rfl, by simp [fitL, fitV, lookN, pureV, pureL], .keep1F (by simp [Heap.get, getFs, getF]) links_pure (by simp) (by omega) (by simp)⟩
  · simp at h
    have hie : i = ns.length := by omega
    subst hie
    repeat refine wps_seq ?_
    refine wps_exit ?_
    simp
    repeat refine wps_seq ?_
    refine wps_region callOK ?_
    simp [zS]
    repeat refine wps_seq ?_
    refine wps_region callOK ?_
    simp [zS, lenL]
    repeat refine wps_seq ?_
    refine wps_block (wps_loop' (fun i : Nat => (⟨[0, 1, 2, 3, 4, 6, 7, 8, 9, 10, 12, 21, 22, 23, 39, 40, 41], [.undef, .undef, .undef, .undef, .undef, .undef, .undef, .undef, .undef, aInts (chRun t obj (ns.take i)), .undef, .undef, .undef, .undef, .fslc 1 ((List.range ns.length).map (linkF t obj ns)), .int .i64 (ns.length : Nat), .int .i64 i], [], 50, ⟨0, [[]]⟩⟩ : St))
      (fun i => i ≤ ns.length) (fun i => ns.length - i) [] [(0, linksTo t obj ns ns.length)] 0 (Nat.zero_le _)
      ⟨rfl, rfl, rfl, ?_, ?_⟩ ?_)
    · have := fit_links (t := t) (obj := obj) (ns := ns) (σ := []) (Φ := [(0, linksTo t obj ns ns.length)]) (by simp [lookC])
      simp [fitL, fitV, pureV, chRun, aInts] at this ⊢
      exact this
    · refine (FitH.froze (by simp) fun y hy => ?_).fs rfl
      simp only [List.mem_cons, List.not_mem_nil, or_false] at hy
      subst hy
      exact ⟨_, by simp [Heap.get, getFs, getF], fitL_pure links_pure, links_pure⟩
    rintro i hi B hB
    repeat refine wps_seq ?_
    refine wps_region callOK ?_
    simp [zS]
    repeat refine wps_seq ?_
    refine wps_cond rfl (fun h => ?_) fun h => ?_
    · simp at h
      repeat refine wps_seq ?_
      refine wps_skip ?_
      simp
      repeat refine wps_seq ?_
      refine wps_block ?_
      repeat refine wps_seq ?_
      refine wps_region callOK ?_
      simp [zS, atL h]
      have hrl := chRun_len (t := t) (obj := obj) (ns.take i)
      have hsn : chRun t obj (ns.take (i + 1)) = if i = 0 then chStart t obj ns[i] else chStep t (chRun t obj (ns.take i)) ns[i] := by
        rw [List.take_succ_eq_append_getElem h, chRun_snoc]
        by_cases h0 : i = 0
        · simp [h0]
        · rw [if_neg (by intro e; have := congrArg List.length e; rw [List.length_take, List.length_nil] at this; omega), if_neg h0]
      by_cases h0 : i = 0
      · rw [if_pos h0] at hsn
        have hlk : linkF t obj ns i = .func (.func 39) [] [.fptr [aNodes t] 0, .fptr [.int .i64 obj] 0, .fptr [.str ns[i]] 0] := by simp only [linkF, hgD i h]; rw [if_pos h0]
        have hc := (c39 (T := T) hSt t ht (chRun t obj (ns.take i)) obj ns[i]).lift (by simp [pureL, pureV, aInts]) ⟨0, [[]]⟩
        rw [← hsn] at hc
        generalize hR1 : chRun t obj (ns.take (i + 1)) = R1 at *
        generalize chRun t obj (ns.take i) = R0 at *
        rw [hlk]
        repeat refine wps_seq ?_
        refine wps_region (callOKF [⟨39, _, _, _, _, hc⟩]) ?_
        simp [zS, callF]
        repeat refine wps_seq ?_
        refine wps_region callOK ?_
        simp [zS, add_one (show i ≤ 1000000000 by omega)]
        exact hB _ (i + 1) (by omega) (by omega) ⟨[], [], ⟨rfl, rfl, rfl, by simp [fitL, fitV, pureV, pureL, aInts, hR1], FitH.nothing⟩⟩
      · rw [if_neg h0] at hsn
        have hlk : linkF t obj ns i = .func (.func 38) [] [.fptr [aNodes t] 0, .fptr [.str ns[i]] 0] := by simp only [linkF, hgD i h]; rw [if_neg h0]
        have hc := (c38 (T := T) hS t ht (chRun t obj (ns.take i)) (Nat.le_trans hrl (Nat.le_trans (Nat.add_le_add_right ht.few 1) (by omega))) ns[i] (hx _ (List.getElem_mem _))).lift (by simp [pureL, pureV, aInts]) ⟨0, [[]]⟩
        rw [← hsn] at hc
        generalize hR1 : chRun t obj (ns.take (i + 1)) = R1 at *
        generalize chRun t obj (ns.take i) = R0 at *
        rw [hlk]
        repeat refine wps_seq ?_
        refine wps_region (callOKF [⟨38, _, _, _, _, hc⟩]) ?_
        simp [zS, callF]
        repeat refine wps_seq ?_
        refine wps_region callOK ?_
        simp [zS, add_one (show i ≤ 1000000000 by omega)]
        exact hB _ (i + 1) (by omega) (by omega) ⟨[], [], ⟨rfl, rfl, rfl, by simp [fitL, fitV, pureV, pureL, aInts, hR1], FitH.nothing⟩⟩
    · simp at h
      have hie : i = ns.length := by omega
      subst hie
      repeat refine wps_seq ?_
      refine wps_exit ?_
      simp
      repeat refine wps_seq ?_
      refine wps_region callOK ?_
      simp [zS]
      repeat refine wps_seq ?_
      refine wps_ret ?_
      simp [retVal, Tryz.f17, oneOr, thenQ, blockQ]
      first | exact ⟨[], [], FitH.empty⟩ | exact ends_pure rfl (by rfl)
theorem injTIs (x y : Tr × Int × List Str) (h : [aTree x.1, .int .i64 x.2.1, aStrs x.2.2] = [aTree y.1, .int .i64 y.2.1, aStrs y.2.2]) : x = y := by
  simp only [List.cons.injEq] at h
  obtain ⟨h1, h2, h3, _⟩ := h
  simp only [AV.int.injEq, true_and] at h2
  exact Prod.ext (inj_aTree h1) (Prod.ext h2 (inj_strs h3))
noncomputable def e17 : Entry Tryz.prog := mkE 17 [[], [], [1]] (fun x : Tr × Int × List Str => [aTree x.1, .int .i64 x.2.1, aStrs x.2.2]) (fun x => ChOk x.1 ∧ x.2.2.length ≤ 1000000 ∧ ∀ s, s ∈ x.2.2 → s.length ≤ 100) (fun x => aInts (runN x.1 x.2.1 x.2.2)) fun x h => c17 (T := [e20, e37]) rfl rfl x.1 h.1 x.2.1 x.2.2 h.2.1 h.2.2
theorem k17 {T : List (Entry Tryz.prog)} (hT : findE 17 T = some e17.g) {t : Tr} (ht : ChOk t) (obj : Int) {ns : List Str} (hn : ns.length ≤ 1000000) (hx : ∀ s, s ∈ ns → s.length ≤ 100) (H : Heap) : callL (ctx T) (.fn 17) [aTree t, .int .i64 obj, aStrs ns] H = some (aInts (runN t obj ns), H) :=
  mkE_pure hT injTIs (t, obj, ns) ⟨ht, hn, hx⟩ (by simp [pureL, pureV]) (by simp [thawL, th_aTree]) H
end Go.Proofs.YthclkpplpdnffaaGreatDoor
