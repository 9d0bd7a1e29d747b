/- Closed runs that answer a value written out. No condition. -/
import Derived.Test.YthclkpplpdnffaaGreatDoorRM
import Derived.Test.YthclkpplpdnffaaGreatDoorRG
import Derived.Test.YthclkpplpdnffaaGreatDoorRK
namespace Go.Proofs.YthclkpplpdnffaaGreatDoor
set_option linter.unusedSimpArgs false
set_option linter.unusedVariables false
open Go Go.RowKit
set_option maxRecDepth 100000
theorem injTSSS (x y : Tr × Str) (h : [aTree x.1, .str [], .str wId, .str x.2] = [aTree y.1, .str [], .str wId, .str y.2]) : x = y := by
  simp at h; exact Prod.ext (inj_aTree h.1) h.2
noncomputable def e77 : Entry Tryz.prog := mkE 77 [[], [], [], []] (fun x : Tr × Str => [aTree x.1, .str [], .str wId, .str x.2]) (fun x => okTr x.1) (fun x => .int .i64 (firstId x.1 x.2)) fun x hx => c77 (T := [e72, e110]) rfl rfl x.1 hx x.2
theorem k77 {T : List (Entry Tryz.prog)} (hT : findE 77 T = some e77.g) {t : Tr} (ht : okTr t) (v : Str) (H : Heap) : callL (ctx T) (.fn 77) [aTree t, .str [], .str wId, .str v] H = some (.int .i64 (firstId t v), H) :=
  mkE_scalar hT injTSSS (t, v) ht rfl (by simp [th_aTree])
theorem c50 {T : List (Entry Tryz.prog)} (hF : findE 77 T = some e77.g) (t : Tr) (ht : okTr t) (v : Str) :
    CallAt (ctx T) 50 [aTree t, .str v] ⟨0, []⟩ (.int .i64 (firstId t v)) ⟨0, []⟩ := by
  have kf := fun H => k77 hF ht v H
  generalize firstId t v = r at *
  simp only [aTree] at kf
  refine callAt_body (fn := Tryz.f50) (s0 := ⟨[0, 1, 2, 4], [aTree t, .str v, .undef, .undef], [], 8, ⟨0, [[]]⟩⟩) Tryz.func50 rfl rfl rfl ?_
  repeat refine wps_seq ?_
  refine wps_region callOK ?_
  simp [zS, aTree]
  repeat refine wps_seq ?_
  refine wps_region callOK ?_
  simp [zS, kf]
  repeat refine wps_seq ?_
  refine wps_ret ?_
  simp [retVal, Tryz.f50, oneOr, thenQ, blockQ]
  exact ends_pure rfl (by rfl)
noncomputable def e50 : Entry Tryz.prog := mkE 50 [[], []] (fun x : Tr × Str => [aTree x.1, .str x.2]) (fun x => okTr x.1) (fun x => .int .i64 (firstId x.1 x.2)) fun x hx => c50 (T := [e77]) rfl x.1 hx x.2
theorem k50 {T : List (Entry Tryz.prog)} (hT : findE 50 T = some e50.g) {t : Tr} (ht : okTr t) (v : Str) (H : Heap) : callL (ctx T) (.fn 50) [aTree t, .str v] H = some (.int .i64 (firstId t v), H) :=
  mkE_scalar hT injTS (t, v) ht rfl (by simp [th_aTree])
def pathL (t : Tr) (i : Nat) : List Int := (orderOf t.length (kidsOf t)).filter (insW (wkOf t.length (kidsOf t)) i)
theorem c51 {T : List (Entry Tryz.prog)} (hA : findE 78 T = some e78.g) (t : Tr) (ht : okTr t) (n : Nat) (hn : n < t.length) :
    CallAt (ctx T) 51 [aTree t, .int .i64 n] ⟨0, []⟩ (ownV 0 1 (ints (pathL t n))) ⟨1, [ownF 0 (ints (pathL t n))]⟩ := by
  have hka := fun H => k78 hA ht H
  have hw : finW t.length (kidsOf t) = wkOf t.length (kidsOf t) := rfl
  rw [hw] at hka
  have hlam := lam_end (n := t.length) (ks := kidsOf t) (by omega)
  have hok := jw_end (n := t.length) (ks := kidsOf t) (by omega)
  have hLn := order_len (n := t.length) (ks := kidsOf t)
  have hmem := fun y (h : y ∈ orderOf t.length (kidsOf t)) => order_mem h
  have h1000 := ht.1
  have hli : (wkOf t.length (kidsOf t)).inn.length = t.length := hok.k.li
  have hlo : (wkOf t.length (kidsOf t)).out.length = t.length := hok.k.lo
  obtain ⟨I, hI⟩ : ∃ I, I = (wkOf t.length (kidsOf t)).inn := ⟨_, rfl⟩
  obtain ⟨O, hO⟩ : ∃ O, O = (wkOf t.length (kidsOf t)).out := ⟨_, rfl⟩
  rw [← hI] at hli
  rw [← hO] at hlo
  have hnI : n < I.length := by omega
  have hnO : n < O.length := by omega
  have hin : ∀ m : Nat, (h : m < I.length) → inA (wkOf t.length (kidsOf t)) (m : Int) = I[m] := fun m h => by simp [inA, ← hI, List.getD_eq_getElem?_getD, h]
  have hout : ∀ m : Nat, (h : m < O.length) → outA (wkOf t.length (kidsOf t)) (m : Int) = O[m] := fun m h => by simp [outA, ← hO, List.getD_eq_getElem?_getD, h]
  have hP : ∀ a ∈ orderOf t.length (kidsOf t), ∃ m : Nat, a = m ∧ m < t.length ∧ ∀ (h1 : m < I.length) (h2 : m < O.length), insW (wkOf t.length (kidsOf t)) n a = (decide (0 ≤ I[n]) && (decide (I[m] < I[n]) && decide (O[n] < O[m]))) := by
    intro a ha
    obtain ⟨y0, y1⟩ := hmem a ha
    obtain ⟨m, rfl⟩ := Int.eq_ofNat_of_zero_le y0
    refine ⟨m, rfl, by omega, fun h1 h2 => ?_⟩
    have h0 := (hlam.a0 _ ha).2.2
    rw [Bool.eq_iff_iff, ins_iff]
    simp only [hin m h1, hin n hnI, hout m h2, hout n hnO, Bool.and_eq_true, decide_eq_true_eq] at h0 ⊢
    constructor
    · rintro ⟨a, b, c, d⟩; exact ⟨a, c, d⟩
    · rintro ⟨a, c, d⟩; exact ⟨a, h0, c, d⟩
  simp only [pathL]
  generalize insW (wkOf t.length (kidsOf t)) n = P at *
  simp only [← hI, ← hO] at hka
  clear hI hO hin hout hok hlam hw
  generalize orderOf t.length (kidsOf t) = L at *
  simp only [aTree] at hka
  refine callAt_body (fn := Tryz.f51) (s0 := ⟨[0, 1, 2, 4, 5, 6, 7, 8, 9], [aTree t, .int .i64 n, .undef, .undef, .undef, .undef, .undef, .undef, .undef], [], 73, ⟨0, [[]]⟩⟩) Tryz.func51 rfl rfl rfl ?_
  repeat refine wps_seq ?_
  refine wps_region callOK ?_
  simp [zS, aTree]
  repeat refine wps_seq ?_
  refine wps_region callOK ?_
  simp [zS, hka]
  repeat refine wps_seq ?_
  refine wps_region callOK ?_
  simp [zS]
  repeat refine wps_seq ?_
  refine wps_region callOK ?_
  simp [zS]
  repeat refine wps_seq ?_
  refine wps_block (wps_loop' (fun k : Nat => (⟨[0, 1, 2, 4, 5, 6, 7, 8, 9], [.undef, .int .i64 n, .undef, .undef, aInts L, aInts I, aInts O, ownV 1 1 (ints ((L.take k).filter P)), .int .i64 k], [], 73, ⟨2, [ownF 1 (ints ((L.take k).filter P)) ++ [(0, .cells [aNodes t])]]⟩⟩ : St))
    (fun k => k ≤ L.length) (fun k => L.length - k) [(1, 1), (0, 0)] [] 0 (Nat.zero_le _)
    ⟨rfl, rfl, rfl, by simp [fitL, fitV, lookN, pureV, ownV, aInts], .own1 (el_int _) (by simp) (by simp) (by simp) (by simp) (by simp) (by simp [Heap.get, getFs, getF, pureL])⟩ ?_)
  rintro k hk B hB
  have hlen : ((L.take k).filter P).length ≤ k := Nat.le_trans (List.length_filter_le _ _) (by simp; omega)
  by_cases h : k < L.length
  · obtain ⟨m, hm, hmt, hPm⟩ := hP L[k] (List.getElem_mem _)
    have hPm := hPm (by omega) (by omega)
    have hmI : m < I.length := by omega
    have hmO : m < O.length := by omega
    by_cases h0 : 0 ≤ I[n]
    · repeat refine wps_seq ?_
      refine wps_region callOK ?_
      simp [zS, lenI, h, hli, hn, atI hnI, h0]
      repeat refine wps_seq ?_
      refine wps_cond (t := true) rfl (fun _ => ?_) fun h => by cases h
      repeat refine wps_seq ?_
      refine wps_skip ?_
      simp
      repeat refine wps_seq ?_
      refine wps_block ?_
      have hnx : (L.take (k + 1)).filter P = (L.take k).filter P ++ (if P L[k] then [L[k]] else []) := by
        rw [List.take_succ_eq_append_getElem h, List.filter_append]
        congr 1
        by_cases hp : P L[k] = true
        · simp [hp]
        · simp [hp]
      cases hb : P L[k] with
      | false =>
        rw [hb] at hnx hPm
        have hnx : (L.take (k + 1)).filter P = (L.take k).filter P := by simpa using hnx
        have fin : ∀ (s : St), True := fun _ => trivial
        by_cases d1 : I[m] < I[n]
        · have d2 : ¬ O[n] < O[m] := by simpa [h0, d1] using hPm
          repeat refine wps_seq ?_
          refine wps_drawK mixed callOK (by decide +kernel) (by decide +kernel) ?_
          simp [zS, evalK_c, evalK_nil, thenK_some, atI h, hm, atI hmI, atI hnI, atI hmO, atI hnO, d1, d2]
          repeat refine wps_seq ?_
          refine wps_cond (t := false) rfl (fun h => by cases h) fun _ => ?_
          repeat refine wps_seq ?_
          refine wps_skip ?_
          simp
          repeat refine wps_seq ?_
          refine wps_region callOK ?_
          simp [zS, add_one (show k ≤ 1000000000 by omega)]
          refine hB _ (k + 1) (by omega) (by omega) ⟨[(1, 1), (0, 0)], [], rfl, rfl, rfl, by rw [hnx]; simp [fitL, fitV, lookN, fitV_own, pureV, aInts], by rw [hnx]; exact .own1 (el_int _) (fun h => by simp [Heap.get, getFs, own_get h]) (by simp) (by simp) (by simp) (by simp) (by simp [Heap.get, getFs, getF, own_skip, pureL])⟩
        · repeat refine wps_seq ?_
          refine wps_drawK mixed callOK (by decide +kernel) (by decide +kernel) ?_
          simp [zS, evalK_c, evalK_nil, thenK_some, atI h, hm, atI hmI, atI hnI, atI hmO, atI hnO, d1]
          repeat refine wps_seq ?_
          refine wps_cond (t := false) rfl (fun h => by cases h) fun _ => ?_
          repeat refine wps_seq ?_
          refine wps_skip ?_
          simp
          repeat refine wps_seq ?_
          refine wps_region callOK ?_
          simp [zS, add_one (show k ≤ 1000000000 by omega)]
          refine hB _ (k + 1) (by omega) (by omega) ⟨[(1, 1), (0, 0)], [], rfl, rfl, rfl, by rw [hnx]; simp [fitL, fitV, lookN, fitV_own, pureV, aInts], by rw [hnx]; exact .own1 (el_int _) (fun h => by simp [Heap.get, getFs, own_get h]) (by simp) (by simp) (by simp) (by simp) (by simp [Heap.get, getFs, getF, own_skip, pureL])⟩
      | true =>
        rw [hb] at hnx hPm
        have hnx : (L.take (k + 1)).filter P = (L.take k).filter P ++ [L[k]] := by simpa using hnx
        have d1 : I[m] < I[n] := by
          have := hPm.symm; simp only [Bool.and_eq_true, decide_eq_true_eq] at this; exact this.2.1
        have d2 : O[n] < O[m] := by
          have := hPm.symm; simp only [Bool.and_eq_true, decide_eq_true_eq] at this; exact this.2.2
        repeat refine wps_seq ?_
        refine wps_drawK mixed callOK (by decide +kernel) (by decide +kernel) ?_
        simp [zS, evalK_c, evalK_nil, thenK_some, atI h, hm, atI hmI, atI hnI, atI hmO, atI hnO, d1, d2]
        repeat refine wps_seq ?_
        refine wps_cond (t := true) rfl (fun _ => ?_) fun h => by cases h
        have happ := own_app1 (P := Tryz.prog) (elem := 3) (b := 1) (t := 28) (m := 29) (es := ints ((L.take k).filter P)) (cs := [.int .i64 L[k]]) (g := [(0, .cells [aNodes t])]) (fs := []) szT3 byT3 zeT3 rfl (by omega) (by omega) rfl rfl (el_int _) (by simp; omega) (by omega) (by simp) (by simp)
        repeat refine wps_seq ?_
        refine wps_region callOK ?_
        simp [zS, atI h, happ]
        repeat refine wps_seq ?_
        refine wps_region callOK ?_
        simp [zS, add_one (show k ≤ 1000000000 by omega)]
        have hnn : ints ((L.take (k + 1)).filter P) ≠ [] := by rw [hnx]; simp [ints]
        refine hB _ (k + 1) (by omega) (by omega) ⟨[(29, 1), (0, 0)], [], rfl, rfl, rfl, ?_, .own1 (el_int _) (fun _ => ?_) (by simp) (by simp) (by simp) (by simp) (by simp [Heap.get, getFs, getF, pureL])⟩
        · rw [ownV_ne hnn, hnx]; simp [fitL, fitV, lookN, pureV, aInts]
        · rw [hnx, flat_ints, ints_app]; simp [Heap.get, getFs, getF]
    · have hall : L.filter P = [] := by
        rw [List.filter_eq_nil_iff]
        intro a ha
        obtain ⟨m, _, hm2, hx⟩ := hP a ha
        rw [hx (by omega) (by omega)]
        simp [h0]
      have htk : (L.take k).filter P = [] := by
        rw [List.filter_eq_nil_iff] at hall ⊢
        exact fun a ha => hall a (List.mem_of_mem_take ha)
      repeat refine wps_seq ?_
      refine wps_region callOK ?_
      simp [zS, lenI, h, hli, hn, atI hnI, h0]
      repeat refine wps_seq ?_
      refine wps_cond (t := false) rfl (fun h => by cases h) fun _ => ?_
      repeat refine wps_seq ?_
      refine wps_exit ?_
      simp
      repeat refine wps_seq ?_
      refine wps_region callOK ?_
      simp [zS]
      repeat refine wps_seq ?_
      refine wps_ret ?_
      simp [retVal, Tryz.f51, oneOr]
      rw [htk, hall]
      exact ⟨[(1, 0)], [], fitV_own (by simp [lookN]), by have := FitH.own1 (k := 0) (b := 1) (m' := 1) (τ := []) (g := []) (H := ⟨2, [ownF 1 (ints []) ++ [(0, .cells [aNodes t])]]⟩) (el_int []) (fun h => absurd rfl h) (by simp) (by simp) (by simp) (by simp) (by simp); simpa using this⟩
  · have hall : (L.take k).filter P = L.filter P := by rw [List.take_of_length_le (by omega)]
    rw [hall]
    repeat refine wps_seq ?_
    refine wps_region callOK ?_
    simp [zS, lenI, h]
    repeat refine wps_seq ?_
    refine wps_cond (t := false) rfl (fun h => by cases h) fun _ => ?_
    repeat refine wps_seq ?_
    refine wps_exit ?_
    simp
    repeat refine wps_seq ?_
    refine wps_region callOK ?_
    simp [zS]
    repeat refine wps_seq ?_
    refine wps_ret ?_
    simp [retVal, Tryz.f51, oneOr]
    exact ⟨[(1, 0)], [], fitV_own (by simp [lookN]), by have := FitH.own1 (k := 0) (b := 1) (m' := 1) (τ := []) (g := []) (H := ⟨2, [ownF 1 (ints (L.filter P)) ++ [(0, .cells [aNodes t])]]⟩) (el_int (L.filter P)) (fun h => by simp [Heap.get, getFs, getF, own_get h]) (by simp) (by simp) (by simp) (by simp) (by simp); simpa using this⟩
noncomputable def e51 : Entry Tryz.prog := mkE 51 [[], []] (fun x : Tr × Nat => [aTree x.1, .int .i64 x.2]) (fun x => okTr x.1 ∧ x.2 < x.1.length) (fun x => aInts (pathL x.1 x.2)) fun x hx => (c51 (T := [e78]) rfl x.1 hx.1 x.2 hx.2).froze (el_int _)
theorem injTN (x y : Tr × Nat) (h : [aTree x.1, .int .i64 x.2] = [aTree y.1, .int .i64 y.2]) : x = y := by
  simp at h; exact Prod.ext (inj_aTree h.1) (by omega)
theorem k51 {T : List (Entry Tryz.prog)} (hT : findE 51 T = some e51.g) {t : Tr} (ht : okTr t) {n : Nat} (hn : n < t.length) (H : Heap) : callL (ctx T) (.fn 51) [aTree t, .int .i64 n] H = some (aInts (pathL t n), H) :=
  mkE_pure hT injTN (t, n) ⟨ht, hn⟩ (by simp [pureL, pureV]) (by simp [thawL, th_aTree]) H
theorem c25 {T : List (Entry Tryz.prog)} (hG : findE 49 T = some e49.g) (hL : findE 10 T = some e10.g) (hH : findE 30 T = some e30.g) (hF : findE 50 T = some e50.g) (hP : findE 51 T = some e51.g) (t : Tr) (ht : okTr t) (n : Nat) (hn : n < t.length) :
    CallAt (ctx T) 25 [aTree t, .int .i64 n] ⟨0, []⟩ (.int .i64 (oneV t (wkOf t.length (kidsOf t)) (orderOf t.length (kidsOf t)) n)) ⟨0, []⟩ := by
  have hnode := nodeAt_mem (t := t) (i := (n : Int)) (by omega) (by omega)
  have hl := (ht.2 _ hnode).2
  have ka := fun H => k49 hG wFormA hl (th_aAttrs H _)
  have kl := fun H => k10 hL (nodeAt t (n : Int)) H
  have ki := fun H => k30 hH (nodeAt t (n : Int)) (W := lsImg) (by decide) H
  have kp := fun H => k51 hP ht hn H
  have kh := fun i H => k30 hH (nodeAt t i) (W := lsForm) (by decide) H
  have kf := fun v H => k50 hF ht v H
  have hfb := fun v => first_bd (t := t) (by omega) v
  have hx := atX (t := t) (i := (n : Int)) (by omega) (by omega)
  have hmem : ∀ y, y ∈ pathL t n → 0 ≤ y ∧ y < (t.length : Int) := fun y h => order_mem (List.mem_filter.1 h).1
  have hlen : (pathL t n).length ≤ t.length := Nat.le_trans (List.length_filter_le _ _) order_len
  have h1000 := ht.1
  have hone : oneV t (wkOf t.length (kidsOf t)) (orderOf t.length (kidsOf t)) n = match getAt wFormA (nodeAt t (n : Int)).attrs with
    | none => if htmlB (nodeAt t (n : Int)) lsImg || htmlB (nodeAt t (n : Int)) lsListed then (((pathL t n).filter fun f => htmlB (nodeAt t f) lsForm).getLast?).getD 0 else 0
    | some v => if htmlB (nodeAt t (n : Int)) lsListed then (if htmlB (nodeAt t (firstId t v)) lsForm then firstId t v else 0) else (if htmlB (nodeAt t (n : Int)) lsImg || htmlB (nodeAt t (n : Int)) lsListed then (((pathL t n).filter fun f => htmlB (nodeAt t f) lsForm).getLast?).getD 0 else 0) := by
    simp only [oneV, loopV, frm, pathL, List.filter_filter]
    rfl
  rw [hone]
  clear hone
  generalize pathL t n = M at *
  generalize htmlB (nodeAt t (n : Int)) lsImg = bi at *
  generalize htmlB (nodeAt t (n : Int)) lsListed = bl at *
  simp only [aTree] at kp kf
  cases hgt : getAt wFormA (nodeAt t (n : Int)).attrs with
  | none =>
    rw [hgt] at ka
    cases bl with
    | true =>
      refine callAt_body (fn := Tryz.f25) (s0 := ⟨[0, 1, 2, 4, 5, 6, 7, 8, 9, 10], [aTree t, .int .i64 n, .undef, .undef, .undef, .undef, .undef, .undef, .undef, .undef], [], 68, ⟨0, [[]]⟩⟩) Tryz.func25 rfl rfl rfl ?_
      repeat refine wps_seq ?_
      refine wps_region callOK ?_
      simp [zS, aTree]
      repeat refine wps_seq ?_
      refine wps_region callOK ?_
      simp [zN, hx]
      repeat refine wps_seq ?_
      refine wps_region callOK ?_
      simp [zS, ka, gotA]
      repeat refine wps_seq ?_
      refine wps_region callOK ?_
      simp [zS, kl, fold_node]
      repeat refine wps_seq ?_
      refine wps_cond (t := false) rfl (fun h => by cases h) fun _ => ?_
      repeat refine wps_seq ?_
      refine wps_skip ?_
      simp
      repeat refine wps_seq ?_
      refine wps_region callOK ?_
      simp [zS, kl, ki, fold_node]
      repeat refine wps_seq ?_
      refine wps_cond (t := false) rfl (fun h => by cases h) fun _ => ?_
      repeat refine wps_seq ?_
      refine wps_skip ?_
      simp
      repeat refine wps_seq ?_
      refine wps_region callOK ?_
      simp [zS, kp]
      repeat refine wps_seq ?_
      refine wps_region callOK ?_
      simp [zS, lenI, show wr .i64 ((M.length : Int) - 1) = some ((M.length : Int) - 1) from wr_small (by omega) (by omega)]
      repeat refine wps_seq ?_
      refine wps_block (wps_loop' (fun j : Int => (⟨[0, 1, 2, 4, 5, 6, 7, 8, 9, 10], [.undef, .undef, .ptr 0 0, .undef, .undef, .undef, .undef, .undef, aInts M, .int .i64 j], [], 68, ⟨1, [[(0, .cells [aNodes t])]]⟩⟩ : St))
        (fun j => -1 ≤ j ∧ j < M.length ∧ ((M.filter fun f => htmlB (nodeAt t f) lsForm).getLast?).getD 0 = (((M.take (j + 1).toNat).filter fun f => htmlB (nodeAt t f) lsForm).getLast?).getD 0) (fun j => (j + 1).toNat) [(0, 0)] [] ((M.length : Int) - 1) ⟨by omega, by omega, by rw [List.take_of_length_le (by omega)]⟩ ⟨rfl, rfl, rfl, by simp [fitL, fitV, lookN, pureV, aInts], .id1 (g := [(0, .cells [aNodes t])]) (by simp) (by simp) (by simp [Heap.get, getFs, getF, pureL])⟩ ?_)
      rintro j ⟨j0, j1, hj⟩ B hB
      by_cases h : 0 ≤ j
      · obtain ⟨m, rfl⟩ := Int.eq_ofNat_of_zero_le h
        have hm : m < M.length := by omega
        have e1 : ((m : Int) + 1).toNat = m + 1 := by omega
        rw [e1, List.take_succ_eq_append_getElem hm, List.filter_append] at hj
        obtain ⟨y0, y1⟩ := hmem M[m] (List.getElem_mem _)
        repeat refine wps_seq ?_
        refine wps_region callOK ?_
        simp [zS, h]
        repeat refine wps_seq ?_
        refine wps_cond (t := true) rfl (fun _ => ?_) fun h => by cases h
        repeat refine wps_seq ?_
        refine wps_skip ?_
        simp
        repeat refine wps_seq ?_
        refine wps_block ?_
        have kh1 := fun H => kh M[m] H
        rcases Bool.eq_false_or_eq_true (htmlB (nodeAt t M[m]) lsForm) with hb | hb
        · rw [hb] at kh1
          have hv : ((M.filter fun f => htmlB (nodeAt t f) lsForm).getLast?).getD 0 = M[m] := by rw [hj]; simp [hb]
          repeat refine wps_seq ?_
          refine wps_drawK mixed callOK (by decide +kernel) (by decide +kernel) ?_
          simp [zS, evalK_c, evalK_nil, thenK_some, atI hm, atX y0 y1, fold_node, kh1]
          repeat refine wps_seq ?_
          refine wps_cond (t := true) rfl (fun _ => ?_) fun h => by cases h
          repeat refine wps_seq ?_
          refine wps_region callOK ?_
          simp [zS, atI hm]
          repeat refine wps_seq ?_
          refine wps_ret ?_
          simp [retVal, Tryz.f25, oneOr, thenQ, blockQ]
          exact ends_pure rfl (by simpa using hv.symm)
        · rw [hb] at kh1
          repeat refine wps_seq ?_
          refine wps_drawK mixed callOK (by decide +kernel) (by decide +kernel) ?_
          simp [zS, evalK_c, evalK_nil, thenK_some, atI hm, atX y0 y1, fold_node, kh1]
          repeat refine wps_seq ?_
          refine wps_cond (t := false) rfl (fun h => by cases h) fun _ => ?_
          repeat refine wps_seq ?_
          refine wps_skip ?_
          simp
          repeat refine wps_seq ?_
          refine wps_region callOK ?_
          simp [zS, show wr .i64 ((m : Int) - 1) = some ((m : Int) - 1) from wr_small (by omega) (by omega)]
          have e2 : ((m : Int) - 1 + 1).toNat = m := by omega
          exact hB _ ((m : Int) - 1) (by omega) ⟨by omega, by omega, by rw [hj, e2]; simp [hb]⟩ ⟨[(0, 0)], [], rfl, rfl, rfl, by simp [fitL, fitV, lookN, pureV, aInts], .id1 (g := [(0, .cells [aNodes t])]) (by simp) (by simp) (by simp [Heap.get, getFs, getF, pureL])⟩
      · have e1 : (j + 1).toNat = 0 := by omega
        have hv : ((M.filter fun f => htmlB (nodeAt t f) lsForm).getLast?).getD 0 = 0 := by rw [hj, e1]; simp
        repeat refine wps_seq ?_
        refine wps_region callOK ?_
        simp [zS, h]
        repeat refine wps_seq ?_
        refine wps_cond (t := false) rfl (fun h => by cases h) fun _ => ?_
        repeat refine wps_seq ?_
        refine wps_exit ?_
        simp
        repeat refine wps_seq ?_
        refine wps_region callOK ?_
        simp [zS]
        repeat refine wps_seq ?_
        refine wps_ret ?_
        simp [retVal, Tryz.f25, oneOr, thenQ, blockQ]
        exact ends_pure rfl (by simpa using hv.symm)
    | false =>
      cases bi with
      | true =>
        refine callAt_body (fn := Tryz.f25) (s0 := ⟨[0, 1, 2, 4, 5, 6, 7, 8, 9, 10], [aTree t, .int .i64 n, .undef, .undef, .undef, .undef, .undef, .undef, .undef, .undef], [], 68, ⟨0, [[]]⟩⟩) Tryz.func25 rfl rfl rfl ?_
        repeat refine wps_seq ?_
        refine wps_region callOK ?_
        simp [zS, aTree]
        repeat refine wps_seq ?_
        refine wps_region callOK ?_
        simp [zN, hx]
        repeat refine wps_seq ?_
        refine wps_region callOK ?_
        simp [zS, ka, gotA]
        repeat refine wps_seq ?_
        refine wps_region callOK ?_
        simp [zS, kl, fold_node]
        repeat refine wps_seq ?_
        refine wps_cond (t := false) rfl (fun h => by cases h) fun _ => ?_
        repeat refine wps_seq ?_
        refine wps_skip ?_
        simp
        repeat refine wps_seq ?_
        refine wps_region callOK ?_
        simp [zS, kl, ki, fold_node]
        repeat refine wps_seq ?_
        refine wps_cond (t := false) rfl (fun h => by cases h) fun _ => ?_
        repeat refine wps_seq ?_
        refine wps_skip ?_
        simp
        repeat refine wps_seq ?_
        refine wps_region callOK ?_
        simp [zS, kp]
        repeat refine wps_seq ?_
        refine wps_region callOK ?_
        simp [zS, lenI, show wr .i64 ((M.length : Int) - 1) = some ((M.length : Int) - 1) from wr_small (by omega) (by omega)]
        repeat refine wps_seq ?_
        refine wps_block (wps_loop' (fun j : Int => (⟨[0, 1, 2, 4, 5, 6, 7, 8, 9, 10], [.undef, .undef, .ptr 0 0, .undef, .undef, .undef, .undef, .undef, aInts M, .int .i64 j], [], 68, ⟨1, [[(0, .cells [aNodes t])]]⟩⟩ : St))
          (fun j => -1 ≤ j ∧ j < M.length ∧ ((M.filter fun f => htmlB (nodeAt t f) lsForm).getLast?).getD 0 = (((M.take (j + 1).toNat).filter fun f => htmlB (nodeAt t f) lsForm).getLast?).getD 0) (fun j => (j + 1).toNat) [(0, 0)] [] ((M.length : Int) - 1) ⟨by omega, by omega, by rw [List.take_of_length_le (by omega)]⟩ ⟨rfl, rfl, rfl, by simp [fitL, fitV, lookN, pureV, aInts], .id1 (g := [(0, .cells [aNodes t])]) (by simp) (by simp) (by simp [Heap.get, getFs, getF, pureL])⟩ ?_)
        rintro j ⟨j0, j1, hj⟩ B hB
        by_cases h : 0 ≤ j
        · obtain ⟨m, rfl⟩ := Int.eq_ofNat_of_zero_le h
          have hm : m < M.length := by omega
          have e1 : ((m : Int) + 1).toNat = m + 1 := by omega
          rw [e1, List.take_succ_eq_append_getElem hm, List.filter_append] at hj
          obtain ⟨y0, y1⟩ := hmem M[m] (List.getElem_mem _)
          repeat refine wps_seq ?_
          refine wps_region callOK ?_
          simp [zS, h]
          repeat refine wps_seq ?_
          refine wps_cond (t := true) rfl (fun _ => ?_) fun h => by cases h
          repeat refine wps_seq ?_
          refine wps_skip ?_
          simp
          repeat refine wps_seq ?_
          refine wps_block ?_
          have kh1 := fun H => kh M[m] H
          rcases Bool.eq_false_or_eq_true (htmlB (nodeAt t M[m]) lsForm) with hb | hb
          · rw [hb] at kh1
            have hv : ((M.filter fun f => htmlB (nodeAt t f) lsForm).getLast?).getD 0 = M[m] := by rw [hj]; simp [hb]
            repeat refine wps_seq ?_
            refine wps_drawK mixed callOK (by decide +kernel) (by decide +kernel) ?_
            simp [zS, evalK_c, evalK_nil, thenK_some, atI hm, atX y0 y1, fold_node, kh1]
            repeat refine wps_seq ?_
            refine wps_cond (t := true) rfl (fun _ => ?_) fun h => by cases h
            repeat refine wps_seq ?_
            refine wps_region callOK ?_
            simp [zS, atI hm]
            repeat refine wps_seq ?_
            refine wps_ret ?_
            simp [retVal, Tryz.f25, oneOr, thenQ, blockQ]
            exact ends_pure rfl (by simpa using hv.symm)
          · rw [hb] at kh1
            repeat refine wps_seq ?_
            refine wps_drawK mixed callOK (by decide +kernel) (by decide +kernel) ?_
            simp [zS, evalK_c, evalK_nil, thenK_some, atI hm, atX y0 y1, fold_node, kh1]
            repeat refine wps_seq ?_
            refine wps_cond (t := false) rfl (fun h => by cases h) fun _ => ?_
            repeat refine wps_seq ?_
            refine wps_skip ?_
            simp
            repeat refine wps_seq ?_
            refine wps_region callOK ?_
            simp [zS, show wr .i64 ((m : Int) - 1) = some ((m : Int) - 1) from wr_small (by omega) (by omega)]
            have e2 : ((m : Int) - 1 + 1).toNat = m := by omega
            exact hB _ ((m : Int) - 1) (by omega) ⟨by omega, by omega, by rw [hj, e2]; simp [hb]⟩ ⟨[(0, 0)], [], rfl, rfl, rfl, by simp [fitL, fitV, lookN, pureV, aInts], .id1 (g := [(0, .cells [aNodes t])]) (by simp) (by simp) (by simp [Heap.get, getFs, getF, pureL])⟩
        · have e1 : (j + 1).toNat = 0 := by omega
          have hv : ((M.filter fun f => htmlB (nodeAt t f) lsForm).getLast?).getD 0 = 0 := by rw [hj, e1]; simp
          repeat refine wps_seq ?_
          refine wps_region callOK ?_
          simp [zS, h]
          repeat refine wps_seq ?_
          refine wps_cond (t := false) rfl (fun h => by cases h) fun _ => ?_
          repeat refine wps_seq ?_
          refine wps_exit ?_
          simp
          repeat refine wps_seq ?_
          refine wps_region callOK ?_
          simp [zS]
          repeat refine wps_seq ?_
          refine wps_ret ?_
          simp [retVal, Tryz.f25, oneOr, thenQ, blockQ]
          exact ends_pure rfl (by simpa using hv.symm)
      | false =>
        refine callAt_body (fn := Tryz.f25) (s0 := ⟨[0, 1, 2, 4, 5, 6, 7, 8, 9, 10], [aTree t, .int .i64 n, .undef, .undef, .undef, .undef, .undef, .undef, .undef, .undef], [], 68, ⟨0, [[]]⟩⟩) Tryz.func25 rfl rfl rfl ?_
        repeat refine wps_seq ?_
        refine wps_region callOK ?_
        simp [zS, aTree]
        repeat refine wps_seq ?_
        refine wps_region callOK ?_
        simp [zN, hx]
        repeat refine wps_seq ?_
        refine wps_region callOK ?_
        simp [zS, ka, gotA]
        repeat refine wps_seq ?_
        refine wps_region callOK ?_
        simp [zS, kl, fold_node]
        repeat refine wps_seq ?_
        refine wps_cond (t := false) rfl (fun h => by cases h) fun _ => ?_
        repeat refine wps_seq ?_
        refine wps_skip ?_
        simp
        repeat refine wps_seq ?_
        refine wps_region callOK ?_
        simp [zS, kl, ki, fold_node]
        repeat refine wps_seq ?_
        refine wps_cond (t := true) rfl (fun _ => ?_) fun h => by cases h
        repeat refine wps_seq ?_
        refine wps_region callOK ?_
        simp [zS]
        repeat refine wps_seq ?_
        refine wps_ret ?_
        simp [retVal, Tryz.f25, oneOr, thenQ, blockQ]
        exact ends_pure rfl (by simp)
  | some v =>
    rw [hgt] at ka
    cases bl with
    | true =>
      dsimp only
      obtain ⟨k0, k1⟩ := hfb v
      have kf1 := fun H => kf v H
      generalize firstId t v = m at *
      have kh1 := fun H => kh m H
      refine callAt_body (fn := Tryz.f25) (s0 := ⟨[0, 1, 2, 4, 5, 6, 7, 8, 9, 10], [aTree t, .int .i64 n, .undef, .undef, .undef, .undef, .undef, .undef, .undef, .undef], [], 68, ⟨0, [[]]⟩⟩) Tryz.func25 rfl rfl rfl ?_
      repeat refine wps_seq ?_
      refine wps_region callOK ?_
      simp [zS, aTree]
      repeat refine wps_seq ?_
      refine wps_region callOK ?_
      simp [zN, hx]
      repeat refine wps_seq ?_
      refine wps_region callOK ?_
      simp [zS, ka, gotA]
      repeat refine wps_seq ?_
      refine wps_region callOK ?_
      simp [zS, kl, fold_node]
      repeat refine wps_seq ?_
      refine wps_cond (t := true) rfl (fun _ => ?_) fun h => by cases h
      repeat refine wps_seq ?_
      refine wps_region callOK ?_
      simp [zS, kf1]
      rcases Bool.eq_false_or_eq_true (htmlB (nodeAt t m) lsForm) with hb | hb
      · rw [hb] at kh1
        repeat refine wps_seq ?_
        refine wps_region callOK ?_
        simp [zS, atX k0 k1, fold_node, kh1]
        repeat refine wps_seq ?_
        refine wps_cond (t := true) rfl (fun _ => ?_) fun h => by cases h
        repeat refine wps_seq ?_
        refine wps_region callOK ?_
        simp [zS]
        repeat refine wps_seq ?_
        refine wps_ret ?_
        simp [retVal, Tryz.f25, oneOr, thenQ, blockQ]
        exact ends_pure rfl (by simp [hb])
      · rw [hb] at kh1
        repeat refine wps_seq ?_
        refine wps_region callOK ?_
        simp [zS, atX k0 k1, fold_node, kh1]
        repeat refine wps_seq ?_
        refine wps_cond (t := false) rfl (fun h => by cases h) fun _ => ?_
        repeat refine wps_seq ?_
        refine wps_skip ?_
        simp
        repeat refine wps_seq ?_
        refine wps_region callOK ?_
        simp [zS]
        repeat refine wps_seq ?_
        refine wps_ret ?_
        simp [retVal, Tryz.f25, oneOr, thenQ, blockQ]
        exact ends_pure rfl (by simp [hb])
    | false =>
      cases bi with
      | true =>
        refine callAt_body (fn := Tryz.f25) (s0 := ⟨[0, 1, 2, 4, 5, 6, 7, 8, 9, 10], [aTree t, .int .i64 n, .undef, .undef, .undef, .undef, .undef, .undef, .undef, .undef], [], 68, ⟨0, [[]]⟩⟩) Tryz.func25 rfl rfl rfl ?_
        repeat refine wps_seq ?_
        refine wps_region callOK ?_
        simp [zS, aTree]
        repeat refine wps_seq ?_
        refine wps_region callOK ?_
        simp [zN, hx]
        repeat refine wps_seq ?_
        refine wps_region callOK ?_
        simp [zS, ka, gotA]
        repeat refine wps_seq ?_
        refine wps_region callOK ?_
        simp [zS, kl, fold_node]
        repeat refine wps_seq ?_
        refine wps_cond (t := false) rfl (fun h => by cases h) fun _ => ?_
        repeat refine wps_seq ?_
        refine wps_skip ?_
        simp
        repeat refine wps_seq ?_
        refine wps_region callOK ?_
        simp [zS, kl, ki, fold_node]
        repeat refine wps_seq ?_
        refine wps_cond (t := false) rfl (fun h => by cases h) fun _ => ?_
        repeat refine wps_seq ?_
        refine wps_skip ?_
        simp
        repeat refine wps_seq ?_
        refine wps_region callOK ?_
        simp [zS, kp]
        repeat refine wps_seq ?_
        refine wps_region callOK ?_
        simp [zS, lenI, show wr .i64 ((M.length : Int) - 1) = some ((M.length : Int) - 1) from wr_small (by omega) (by omega)]
        repeat refine wps_seq ?_
        refine wps_block (wps_loop' (fun j : Int => (⟨[0, 1, 2, 4, 5, 6, 7, 8, 9, 10], [.undef, .undef, .ptr 0 0, .undef, .undef, .undef, .undef, .undef, aInts M, .int .i64 j], [], 68, ⟨1, [[(0, .cells [aNodes t])]]⟩⟩ : St))
          (fun j => -1 ≤ j ∧ j < M.length ∧ ((M.filter fun f => htmlB (nodeAt t f) lsForm).getLast?).getD 0 = (((M.take (j + 1).toNat).filter fun f => htmlB (nodeAt t f) lsForm).getLast?).getD 0) (fun j => (j + 1).toNat) [(0, 0)] [] ((M.length : Int) - 1) ⟨by omega, by omega, by rw [List.take_of_length_le (by omega)]⟩ ⟨rfl, rfl, rfl, by simp [fitL, fitV, lookN, pureV, aInts], .id1 (g := [(0, .cells [aNodes t])]) (by simp) (by simp) (by simp [Heap.get, getFs, getF, pureL])⟩ ?_)
        rintro j ⟨j0, j1, hj⟩ B hB
        by_cases h : 0 ≤ j
        · obtain ⟨m, rfl⟩ := Int.eq_ofNat_of_zero_le h
          have hm : m < M.length := by omega
          have e1 : ((m : Int) + 1).toNat = m + 1 := by omega
          rw [e1, List.take_succ_eq_append_getElem hm, List.filter_append] at hj
          obtain ⟨y0, y1⟩ := hmem M[m] (List.getElem_mem _)
          repeat refine wps_seq ?_
          refine wps_region callOK ?_
          simp [zS, h]
          repeat refine wps_seq ?_
          refine wps_cond (t := true) rfl (fun _ => ?_) fun h => by cases h
          repeat refine wps_seq ?_
          refine wps_skip ?_
          simp
          repeat refine wps_seq ?_
          refine wps_block ?_
          have kh1 := fun H => kh M[m] H
          rcases Bool.eq_false_or_eq_true (htmlB (nodeAt t M[m]) lsForm) with hb | hb
          · rw [hb] at kh1
            have hv : ((M.filter fun f => htmlB (nodeAt t f) lsForm).getLast?).getD 0 = M[m] := by rw [hj]; simp [hb]
            repeat refine wps_seq ?_
            refine wps_drawK mixed callOK (by decide +kernel) (by decide +kernel) ?_
            simp [zS, evalK_c, evalK_nil, thenK_some, atI hm, atX y0 y1, fold_node, kh1]
            repeat refine wps_seq ?_
            refine wps_cond (t := true) rfl (fun _ => ?_) fun h => by cases h
            repeat refine wps_seq ?_
            refine wps_region callOK ?_
            simp [zS, atI hm]
            repeat refine wps_seq ?_
            refine wps_ret ?_
            simp [retVal, Tryz.f25, oneOr, thenQ, blockQ]
            exact ends_pure rfl (by simpa using hv.symm)
          · rw [hb] at kh1
            repeat refine wps_seq ?_
            refine wps_drawK mixed callOK (by decide +kernel) (by decide +kernel) ?_
            simp [zS, evalK_c, evalK_nil, thenK_some, atI hm, atX y0 y1, fold_node, kh1]
            repeat refine wps_seq ?_
            refine wps_cond (t := false) rfl (fun h => by cases h) fun _ => ?_
            repeat refine wps_seq ?_
            refine wps_skip ?_
            simp
            repeat refine wps_seq ?_
            refine wps_region callOK ?_
            simp [zS, show wr .i64 ((m : Int) - 1) = some ((m : Int) - 1) from wr_small (by omega) (by omega)]
            have e2 : ((m : Int) - 1 + 1).toNat = m := by omega
            exact hB _ ((m : Int) - 1) (by omega) ⟨by omega, by omega, by rw [hj, e2]; simp [hb]⟩ ⟨[(0, 0)], [], rfl, rfl, rfl, by simp [fitL, fitV, lookN, pureV, aInts], .id1 (g := [(0, .cells [aNodes t])]) (by simp) (by simp) (by simp [Heap.get, getFs, getF, pureL])⟩
        · have e1 : (j + 1).toNat = 0 := by omega
          have hv : ((M.filter fun f => htmlB (nodeAt t f) lsForm).getLast?).getD 0 = 0 := by rw [hj, e1]; simp
          repeat refine wps_seq ?_
          refine wps_region callOK ?_
          simp [zS, h]
          repeat refine wps_seq ?_
          refine wps_cond (t := false) rfl (fun h => by cases h) fun _ => ?_
          repeat refine wps_seq ?_
          refine wps_exit ?_
          simp
          repeat refine wps_seq ?_
          refine wps_region callOK ?_
          simp [zS]
          repeat refine wps_seq ?_
          refine wps_ret ?_
          simp [retVal, Tryz.f25, oneOr, thenQ, blockQ]
          exact ends_pure rfl (by simpa using hv.symm)
      | false =>
        refine callAt_body (fn := Tryz.f25) (s0 := ⟨[0, 1, 2, 4, 5, 6, 7, 8, 9, 10], [aTree t, .int .i64 n, .undef, .undef, .undef, .undef, .undef, .undef, .undef, .undef], [], 68, ⟨0, [[]]⟩⟩) Tryz.func25 rfl rfl rfl ?_
        repeat refine wps_seq ?_
        refine wps_region callOK ?_
        simp [zS, aTree]
        repeat refine wps_seq ?_
        refine wps_region callOK ?_
        simp [zN, hx]
        repeat refine wps_seq ?_
        refine wps_region callOK ?_
        simp [zS, ka, gotA]
        repeat refine wps_seq ?_
        refine wps_region callOK ?_
        simp [zS, kl, fold_node]
        repeat refine wps_seq ?_
        refine wps_cond (t := false) rfl (fun h => by cases h) fun _ => ?_
        repeat refine wps_seq ?_
        refine wps_skip ?_
        simp
        repeat refine wps_seq ?_
        refine wps_region callOK ?_
        simp [zS, kl, ki, fold_node]
        repeat refine wps_seq ?_
        refine wps_cond (t := true) rfl (fun _ => ?_) fun h => by cases h
        repeat refine wps_seq ?_
        refine wps_region callOK ?_
        simp [zS]
        repeat refine wps_seq ?_
        refine wps_ret ?_
        simp [retVal, Tryz.f25, oneOr, thenQ, blockQ]
        exact ends_pure rfl (by simp)
noncomputable def e25 : Entry Tryz.prog := mkE 25 [[], []] (fun x : Tr × Nat => [aTree x.1, .int .i64 x.2]) (fun x => okTr x.1 ∧ x.2 < x.1.length) (fun x => .int .i64 (oneV x.1 (wkOf x.1.length (kidsOf x.1)) (orderOf x.1.length (kidsOf x.1)) x.2)) fun x hx => c25 (T := [e49, e10, e30, e50, e51]) rfl rfl rfl rfl rfl x.1 hx.1 x.2 hx.2
theorem k25 {T : List (Entry Tryz.prog)} (hT : findE 25 T = some e25.g) {t : Tr} (ht : okTr t) {n : Nat} (hn : n < t.length) (H : Heap) : callL (ctx T) (.fn 25) [aTree t, .int .i64 n] H = some (.int .i64 (oneV t (wkOf t.length (kidsOf t)) (orderOf t.length (kidsOf t)) n), H) :=
  mkE_scalar hT injTN (t, n) ⟨ht, hn⟩ rfl (by simp [th_aTree])
def oneF (t : Tr) (n : Nat) : Int := oneV t (wkOf t.length (kidsOf t)) (orderOf t.length (kidsOf t)) n
def oneL (t : Tr) : List Int := (List.range t.length).map (oneF t)
theorem c8 {T : List (Entry Tryz.prog)} (hO : findE 25 T = some e25.g) (t : Tr) (ht : okTr t) :
    CallAt (ctx T) 8 [aTree t] ⟨0, []⟩ (ownV 0 1 (ints (oneL t))) ⟨1, [ownF 0 (ints (oneL t))]⟩ := by
  have ko : ∀ n, n < t.length → ∀ H, callL (ctx T) (.fn 25) [aTree t, .int .i64 n] H = some (.int .i64 (oneF t n), H) := fun n hn H => k25 hO ht hn H
  have h1000 := ht.1
  simp only [oneL]
  generalize oneF t = f at *
  simp only [aTree] at ko
  refine callAt_body (fn := Tryz.f8) (s0 := ⟨[0, 1, 2, 3, 4], [aTree t, .undef, .undef, .undef, .undef], [], 19, ⟨0, [[]]⟩⟩) Tryz.func8 rfl rfl rfl ?_
  repeat refine wps_seq ?_
  refine wps_region callOK ?_
  simp [zS, aTree]
  repeat refine wps_seq ?_
  refine wps_region callOK ?_
  simp [zS]
  repeat refine wps_seq ?_
  refine wps_region callOK ?_
  simp [zS]
  repeat refine wps_seq ?_
  refine wps_block (wps_loop' (fun k : Nat => (⟨[0, 1, 2, 3, 4], [.undef, .ptr 0 0, .undef, ownV 1 1 (ints ((List.range k).map f)), .int .i64 k], [], 19, ⟨2, [ownF 1 (ints ((List.range k).map f)) ++ [(0, .cells [aNodes t])]]⟩⟩ : St))
    (fun k => k ≤ t.length) (fun k => t.length - k) [(1, 1), (0, 0)] [] 0 (Nat.zero_le _)
    ⟨rfl, rfl, rfl, by simp [fitL, fitV, lookN, pureV, ownV, ints], .own1 (el_int _) (by simp [ints]) (by simp) (by simp) (by simp) (by simp) (by simp [Heap.get, getFs, getF, pureL])⟩ ?_)
  rintro k hk B hB
  have hlen : ((List.range k).map f).length = k := by simp
  by_cases h : k < t.length
  · have hnx : (List.range (k + 1)).map f = (List.range k).map f ++ [f k] := by rw [List.range_succ, List.map_append]; rfl
    have kk := fun H => ko k h H
    repeat refine wps_seq ?_
    refine wps_region callOK ?_
    simp [zS, own_skip, getF, lenN, h]
    repeat refine wps_seq ?_
    refine wps_cond (t := true) rfl (fun _ => ?_) fun h => by cases h
    repeat refine wps_seq ?_
    refine wps_skip ?_
    simp
    repeat refine wps_seq ?_
    refine wps_block ?_
    have happ := own_app1 (P := Tryz.prog) (elem := 3) (b := 1) (t := 2) (m := 3) (es := ints ((List.range k).map f)) (cs := [.int .i64 (f k)]) (g := [(0, .cells [aNodes t])]) (fs := []) szT3 byT3 zeT3 rfl (by omega) (by omega) rfl rfl (el_int _) (by simp; omega) (by omega) (by simp) (by simp)
    repeat refine wps_seq ?_
    refine wps_region callOK ?_
    simp [zS, own_skip, getF, kk, happ]
    repeat refine wps_seq ?_
    refine wps_region callOK ?_
    simp [zS, add_one (show k ≤ 1000000000 by omega)]
    have hnn : ints ((List.range (k + 1)).map f) ≠ [] := by rw [hnx]; simp [ints]
    refine hB _ (k + 1) (by omega) (by omega) ⟨[(3, 1), (0, 0)], [], rfl, rfl, rfl, ?_, .own1 (el_int _) (fun _ => ?_) (by simp) (by simp) (by simp) (by simp) (by simp [Heap.get, getFs, getF, pureL])⟩
    · rw [ownV_ne hnn, hnx]; simp [fitL, fitV, lookN, pureV, aInts]
    · rw [hnx, flat_ints, ints_app]; simp [Heap.get, getFs, getF]
  · have e : k = t.length := by omega
    subst e
    repeat refine wps_seq ?_
    refine wps_region callOK ?_
    simp [zS, own_skip, getF, lenN]
    repeat refine wps_seq ?_
    refine wps_cond (t := false) rfl (fun h => by cases h) fun _ => ?_
    repeat refine wps_seq ?_
    refine wps_exit ?_
    simp
    repeat refine wps_seq ?_
    refine wps_region callOK ?_
    simp [zS]
    repeat refine wps_seq ?_
    refine wps_ret ?_
    simp [retVal, Tryz.f8, oneOr]
    exact ⟨[(1, 0)], [], fitV_own (by simp [lookN]), by have := FitH.own1 (k := 0) (b := 1) (m' := 1) (τ := []) (g := []) (H := ⟨2, [ownF 1 (ints ((List.range t.length).map f)) ++ [(0, .cells [aNodes t])]]⟩) (el_int ((List.range t.length).map f)) (fun h => by simp [Heap.get, getFs, getF, own_get h]) (by simp) (by simp) (by simp) (by simp) (by simp); simpa using this⟩
noncomputable def e8 : Entry Tryz.prog := mkE 8 [[]] (fun t : Tr => [aTree t]) okTr (fun t => aInts (oneL t)) fun t ht => (c8 (T := [e25]) rfl t ht).froze (el_int _)
theorem k8 {T : List (Entry Tryz.prog)} (hT : findE 8 T = some e8.g) {t : Tr} (ht : okTr t) (H : Heap) : callL (ctx T) (.fn 8) [aTree t] H = some (aInts (oneL t), H) :=
  mkE_pure hT injT t ht (by simp [pureL]) (by simp [thawL, th_aTree]) H
theorem oneL_ofL {t : Tr} (hpos : 0 < t.length) : oneL t = ofL t := by
  refine List.ext_getElem (by simp [oneL, ofL_len]) fun i h1 h2 => ?_
  have h := ofL_get (t := t) hpos i (by simpa [oneL] using h1)
  rw [List.getD_eq_getElem?_getD, List.getElem?_eq_getElem h2] at h
  simpa [oneL, oneF] using h.symm
theorem injTI2 (x y : Tr × Int) (h : [aTree x.1, .int .i64 x.2] = [aTree y.1, .int .i64 y.2]) : x = y := by
  simp at h; exact Prod.ext (inj_aTree h.1) h.2
noncomputable def e9 : Entry Tryz.prog := mkE 9 [[], []] (fun x : Tr × Int => [aTree x.1, .int .i64 x.2]) (fun x => smallTr x.1 ∧ okVals x.1) (fun x => aInts (elemsL x.1 x.2)) fun x h => owX_froze (c9 (T := [e52, e82, e28, e29]) rfl rfl rfl rfl x.1 h.1 h.2 x.2)
theorem k9 {T : List (Entry Tryz.prog)} (hT : findE 9 T = some e9.g) {t : Tr} (ht : smallTr t) (hv : okVals t) (form : Int) (H : Heap) : callL (ctx T) (.fn 9) [aTree t, .int .i64 form] H = some (aInts (elemsL t form), H) :=
  mkE_pure hT injTI2 (t, form) ⟨ht, hv⟩ (by simp [pureL, pureV]) (by simp [thawL, th_aTree]) H
noncomputable def e13 : Entry Tryz.prog := mkE 13 [[], [], []] (fun x : Tr × Int × Str => [aTree x.1, .int .i64 x.2.1, .str x.2.2]) (fun x => smallTr x.1 ∧ okVals x.1) (fun x => aInts (namedF x.1 x.2.1 x.2.2)) fun x h => c13 (T := [e52, e82, e28, e29, e33]) rfl rfl rfl rfl rfl x.1 h.1 h.2 x.2.1 x.2.2
theorem k13 {T : List (Entry Tryz.prog)} (hT : findE 13 T = some e13.g) {t : Tr} (ht : smallTr t) (hv : okVals t) (form : Int) (x : Str) (H : Heap) : callL (ctx T) (.fn 13) [aTree t, .int .i64 form, .str x] H = some (aInts (namedF t form x), H) :=
  mkE_pure hT injTIS (t, form, x) ⟨ht, hv⟩ (by simp [pureL, pureV]) (by simp [thawL, th_aTree]) H
theorem c11 {T : List (Entry Tryz.prog)} (n : Nd) (nm : Str) (hl : n.attrs.length ≤ 1000) : CallAt (ctx T) 11 [aNode n, .str nm] ⟨0, []⟩ (gotA (getAt nm n.attrs)) ⟨0, []⟩ := by
  obtain ⟨kind, space, name, L, data, up, kids⟩ := n
  simp only at hl ⊢
  refine callAt_body (fn := Tryz.f11) (s0 := ⟨[0, 1, 2, 4, 5, 7, 9, 10, 11], [aNode ⟨kind, space, name, L, data, up, kids⟩, .str nm, .undef, .undef, .undef, .undef, .undef, .undef, .undef], [], 22, ⟨0, [[]]⟩⟩) Tryz.func11 rfl rfl rfl ?_
  repeat refine wps_seq ?_
  refine wps_region callOK ?_
  simp [zS, aNode, Nd.cs, aInt, aInts, aAttrs]
  repeat refine wps_seq ?_
  refine wps_region callOK ?_
  simp [zS, lenA]
  repeat refine wps_seq ?_
  refine wps_block (wps_loop' (fun i : Nat => (⟨[0, 1, 2, 4, 5, 7, 9, 10, 11], [.undef, .str nm, .undef, .undef, .undef, .undef, aAttrs L, .int .i64 (L.length : Nat), .int .i64 i], [], 22, ⟨0, [[]]⟩⟩ : St))
    (fun i => i ≤ L.length ∧ getAt nm L = getAt nm (L.drop i)) (fun i => L.length - i) [] [] 0 ⟨Nat.zero_le _, rfl⟩ ⟨rfl, rfl, rfl, by simp [fitL, fitV, pureV, pureL, aAttrs], FitH.nothing⟩ ?_)
  rintro i ⟨hi, hx⟩ B hB
  repeat refine wps_seq ?_
  refine wps_region callOK ?_
  simp [zS]
  repeat refine wps_seq ?_
  refine wps_cond rfl (fun h => ?_) fun h => ?_
  · simp at h
    repeat refine wps_seq ?_
    refine wps_skip ?_
    simp
    repeat refine wps_seq ?_
    refine wps_block ?_
    repeat refine wps_seq ?_
    refine wps_region callOK ?_
    simp [zS, atA h]
    by_cases h2 : (L[i]).1 = nm
    · repeat refine wps_seq ?_
      refine wps_region callOK ?_
      simp [zS, aAttr, h2]
      repeat refine wps_seq ?_
      refine wps_cond (t := true) rfl (fun _ => ?_) fun h => by cases h
      repeat refine wps_seq ?_
      refine wps_region callOK ?_
      simp [zS, aAttr]
      repeat refine wps_seq ?_
      refine wps_ret ?_
      simp [retVal, Tryz.f11, oneOr]
      exact ends_pure rfl (by simp [gotA, hx, getAt_at h, h2])
    · repeat refine wps_seq ?_
      refine wps_region callOK ?_
      simp [zS, aAttr, h2]
      repeat refine wps_seq ?_
      refine wps_cond (t := false) rfl (fun h => by cases h) fun _ => ?_
      repeat refine wps_seq ?_
      refine wps_skip ?_
      simp
      repeat refine wps_seq ?_
      refine wps_region callOK ?_
      simp [zS, add_one (show i ≤ 1000000000 by omega)]
      exact hB _ (i + 1) (by omega) ⟨by omega, by rw [hx, getAt_at h]; simp [h2]⟩ ⟨[], [], ⟨rfl, rfl, rfl, by simp [fitL, fitV, pureV, pureL, aAttrs], FitH.nothing⟩⟩
  · simp at h
    repeat refine wps_seq ?_
    refine wps_exit ?_
    simp
    repeat refine wps_seq ?_
    refine wps_region callOK ?_
    simp [zS]
    repeat refine wps_seq ?_
    refine wps_ret ?_
    simp [retVal, Tryz.f11, oneOr]
    exact ends_pure rfl (by simp [gotA, hx, List.drop_eq_nil_of_le h, getAt])
noncomputable def e11 : Entry Tryz.prog := mkE 11 [[], []] (fun x : Nd × Str => [aNode x.1, .str x.2]) (fun x => x.1.attrs.length ≤ 1000) (fun x => gotA (getAt x.2 x.1.attrs)) fun x hx => c11 (T := []) x.1 x.2 hx
theorem k11 {T : List (Entry Tryz.prog)} (hT : findE 11 T = some e11.g) {n : Nd} (nm : Str) (hl : n.attrs.length ≤ 1000) (H : Heap) : callL (ctx T) (.fn 11) [aNode n, .str nm] H = some (gotA (getAt nm n.attrs), H) :=
  mkE_scalar hT injNS (n, nm) hl rfl (by simp [th_aNode])
noncomputable def r47 : Entry Tryz.prog := ⟨47, fun args H => match args with
  | [.str s] => match Nat.ble s.length 1000 with
    | true => some (atoiA s, H)
    | false => none
  | _ => none, fun args H v H' h => by
    split at h
    · rename_i s
      split at h
      · rename_i hl
        simp only [Option.some.injEq, Prod.mk.injEq] at h
        obtain ⟨rfl, rfl⟩ := h
        exact (c47 (T := []) s (by have := Nat.le_of_ble_eq_true hl; omega)).lift (by simp [pureL, pureV]) H
      · cases h
    · cases h⟩
noncomputable def r116 : Entry Tryz.prog := ⟨116, fun args H => match args with
  | [.str s, .str t] => match Nat.ble s.length 1000 with
    | true => some (.int .i64 (Lib.index s t), H)
    | false => none
  | _ => none, fun args H v H' h => by
    split at h
    · rename_i s t
      split at h
      · rename_i hl
        simp only [Option.some.injEq, Prod.mk.injEq] at h
        obtain ⟨rfl, rfl⟩ := h
        exact (c116 (T := []) s t (by have := Nat.le_of_ble_eq_true hl; omega)).lift (by simp [pureL, pureV]) H
      · cases h
    · cases h⟩
noncomputable def TF : List (Entry Tryz.prog) := [r58, r47, r116]
theorem closedCall {T : List (Entry Tryz.prog)} {f : FuncId} (h : isTrueE (callN (ctx T) 100000 (.fn f) [] ⟨0, []⟩) = true) : CallAt (ctx T) f [] ⟨0, []⟩ (.bool true) ⟨0, []⟩ := by
  revert h
  cases hr : callN (ctx T) 100000 (.fn f) [] ⟨0, []⟩ with
  | none => intro h; cases h
  | some r =>
    obtain ⟨v, H'⟩ := r
    intro h
    cases v <;> simp only [isTrueE] at h <;> first | (cases h; done) | skip
    subst h
    exact ((call_ok mixed (mkC_ok _ _ _) 100000).fn f [] ⟨0, []⟩ _ _ hr).freeze (Φ := []) (by simp [fitV, pureV]) FitH.empty
def noneL : List AV → Bool
  | [] => true
  | _ :: _ => false
mutual
def fitVb (Φ : List (Nat × List AV)) : AV → AV → Bool
  | .slc b o len cap, v' => match v' with
    | .undef => true
    | .fslc sz es => (match lookC b Φ with
      | some cs => (match subL o (len * sz) cs with
        | some x => AV.beqL x (flatAV es) && Nat.beq es.length len && allSize sz es
        | none => false)
      | none => false) || (Nat.beq len 0 && noneL es)
    | _ => false
  | .ptr b o, v' => match v' with
    | .undef => true
    | .fptr cs o' => (match lookC b Φ with
      | some c => AV.beqL c cs
      | none => false) && Nat.beq o' o
    | _ => false
  | .nilS, v' => match v' with
    | .undef => true
    | .nilS => true
    | .fslc _ es => noneL es
    | _ => false
  | .agg cs, v' => match v' with
    | .undef => true
    | .agg cs' => fitLb Φ cs cs'
    | _ => false
  | .tup cs, v' => match v' with
    | .undef => true
    | .tup cs' => fitLb Φ cs cs'
    | _ => false
  | .int k n, v' => match v' with
    | .undef => true
    | .int k' n' => decide (k' = k) && decide (n' = n)
    | _ => false
  | .str s, v' => match v' with
    | .undef => true
    | .str s' => eqN s' s
    | _ => false
  | .bool s, v' => match v' with
    | .undef => true
    | .bool s' => s' == s
    | _ => false
  | _, v' => match v' with
    | .undef => true
    | _ => false
def fitLb (Φ : List (Nat × List AV)) : List AV → List AV → Bool
  | [], l' => noneL l'
  | a :: r, l' => match l' with
    | [] => false
    | a' :: r' => fitVb Φ a a' && fitLb Φ r r'
end
theorem noneL_eq {l : List AV} (h : noneL l = true) : l = [] := by cases l <;> first | rfl | cases h
mutual
theorem fitVb_ok {Φ : List (Nat × List AV)} : ∀ {v v' : AV}, fitVb Φ v v' = true → fitV [] Φ v v' := by
  intro v v' h
  cases v with
  | slc b o len cap =>
    unfold fitVb at h
    unfold fitV
    cases v' <;> simp only [Bool.false_eq_true] at h ⊢
    rename_i sz es
    simp only [Bool.or_eq_true, Bool.and_eq_true] at h
    rcases h with h | h
    · left
      cases hl : lookC b Φ with
      | none => rw [hl] at h; cases h
      | some cs =>
        rw [hl] at h
        simp only at h
        cases hs : subL o (len * sz) cs with
        | none => rw [hs] at h; cases h
        | some x =>
          rw [hs] at h
          simp only [Bool.and_eq_true] at h
          exact ⟨cs, rfl, by rw [hs, AV.eqL_of_beq _ _ h.1.1], Nat.eq_of_beq_eq_true h.1.2, h.2⟩
    · exact .inr ⟨Nat.eq_of_beq_eq_true h.1, noneL_eq h.2⟩
  | ptr b o =>
    unfold fitVb at h
    unfold fitV
    cases v' <;> simp only [Bool.false_eq_true] at h ⊢
    simp only [Bool.and_eq_true] at h
    cases hl : lookC b Φ with
    | none => rw [hl] at h; cases h.1
    | some cs =>
      rw [hl] at h
      exact ⟨by rw [AV.eqL_of_beq _ _ h.1], Nat.eq_of_beq_eq_true h.2⟩
  | nilS =>
    unfold fitVb at h
    unfold fitV
    cases v' <;> simp only [Bool.false_eq_true] at h ⊢
    exact noneL_eq h
  | agg cs =>
    unfold fitVb at h
    unfold fitV
    cases v' <;> simp only [Bool.false_eq_true] at h ⊢
    exact .inl (fitLb_ok h)
  | tup cs =>
    unfold fitVb at h
    unfold fitV
    cases v' <;> simp only [Bool.false_eq_true] at h ⊢
    exact .inl (fitLb_ok h)
  | int k n =>
    unfold fitVb at h
    unfold fitV
    cases v' <;> simp only [Bool.false_eq_true] at h ⊢
    · simp
    · simp only [Bool.and_eq_true, decide_eq_true_eq] at h
      obtain ⟨rfl, rfl⟩ := h
      exact .inr ⟨rfl, rfl⟩
  | str s =>
    unfold fitVb at h
    unfold fitV
    cases v' <;> simp only [Bool.false_eq_true] at h ⊢
    · simp
    · rw [eqN_eq, decide_eq_true_eq] at h
      subst h
      exact .inr ⟨rfl, rfl⟩
  | bool s =>
    unfold fitVb at h
    unfold fitV
    cases v' <;> simp only [Bool.false_eq_true] at h ⊢
    · simp
    · simp only [beq_iff_eq] at h
      subst h
      exact .inr ⟨rfl, rfl⟩
  | _ =>
    unfold fitVb at h
    cases v' <;> simp only [Bool.false_eq_true] at h
    simp [fitV]
theorem fitLb_ok {Φ : List (Nat × List AV)} : ∀ {l l' : List AV}, fitLb Φ l l' = true → fitL [] Φ l l' := by
  intro l l' h
  cases l with
  | nil =>
    unfold fitLb at h
    unfold fitL
    exact noneL_eq h
  | cons a r =>
    unfold fitLb at h
    unfold fitL
    cases l' with
    | nil => cases h
    | cons a' r' =>
      simp only [Bool.and_eq_true] at h
      exact ⟨fitVb_ok h.1, fitLb_ok h.2⟩
end
def undefL : Nat → List AV → List AV
  | 0, _ => []
  | _ + 1, [] => []
  | n + 1, _ :: r => .undef :: undefL n r
def undefA : List AV → List AV
  | [] => []
  | _ :: r => .undef :: undefA r
def pairsL : List AV → List AV → List (AV × AV) → List (AV × AV)
  | a :: r, b :: s, acc => (a, b) :: pairsL r s acc
  | _, _, acc => acc
def coll (H : Heap) : Nat → List (AV × AV) → List (Nat × List AV) → Option (List (Nat × List AV))
  | 0, _, _ => none
  | n + 1, todo, Φ => match todo with
    | [] => some Φ
    | x :: r => match x.1, x.2 with
      | .agg xs, .agg ys => coll H n (pairsL xs ys r) Φ
      | .tup xs, .tup ys => coll H n (pairsL xs ys r) Φ
      | .slc b o len _, .fslc sz es => match len with
        | 0 => coll H n r Φ
        | Nat.succ _ => match lookC b Φ with
          | some _ => coll H n r Φ
          | none => match H.get b with
            | some (.cells cs) => coll H n (pairsL (cs.drop o) (flatAV es) r) ((b, undefL o cs ++ flatAV es ++ undefA (cs.drop (o + len * sz))) :: Φ)
            | _ => none
      | .ptr b _, .fptr ys _ => match lookC b Φ with
        | some _ => coll H n r Φ
        | none => match H.get b with
          | some (.cells cs) => coll H n (pairsL cs ys r) ((b, ys) :: Φ)
          | _ => none
      | _, _ => coll H n r Φ
def nodupB : List Nat → Bool
  | [] => true
  | x :: r => match memT x r with
    | true => false
    | false => nodupB r
theorem memT_mem {n : Nat} : ∀ {l : List Nat}, memT n l = false → n ∉ l
  | [], _ => by simp
  | m :: r, h => by
    unfold memT at h
    split at h
    · cases h
    · rename_i hb
      have : n ≠ m := fun e => by rw [e, Nat.beq_refl] at hb; cases hb
      simp [this, memT_mem h]
theorem nodupB_ok : ∀ {l : List Nat}, nodupB l = true → l.Nodup
  | [], _ => List.nodup_nil
  | x :: r, h => by
    unfold nodupB at h
    split at h
    · cases h
    · rename_i hm
      exact List.nodup_cons.2 ⟨memT_mem hm, nodupB_ok h⟩
def frzOK (H : Heap) (Φ : List (Nat × List AV)) : List (Nat × List AV) → Bool
  | [] => true
  | x :: r => (match H.get x.1 with
    | some (.cells cs) => fitLb Φ cs x.2 && pureL x.2
    | _ => false) && frzOK H Φ r
theorem frzOK_ok {H : Heap} {Φ : List (Nat × List AV)} : ∀ {l : List (Nat × List AV)}, frzOK H Φ l = true → ∀ x, x ∈ l → ∃ cs, H.get x.1 = some (.cells cs) ∧ fitL [] Φ cs x.2 ∧ pureL x.2 = true
  | [], _, x, hx => by cases hx
  | y :: r, h, x, hx => by
    unfold frzOK at h
    simp only [Bool.and_eq_true] at h
    rcases List.mem_cons.1 hx with rfl | hx
    · have h1 := h.1
      split at h1
      · rename_i cs hg
        simp only [Bool.and_eq_true] at h1
        exact ⟨cs, hg, fitLb_ok h1.1, h1.2⟩
      · cases h1
    · exact frzOK_ok h.2 x hx
def litOK (lit : AV) : Option (AV × Heap) → Bool
  | some (v, H) => match coll H 100000 [(v, lit)] [] with
    | some Φ => nodupB (Φ.map (·.1)) && frzOK H Φ Φ && fitVb Φ v lit
    | none => false
  | none => false
theorem closedLit {T : List (Entry Tryz.prog)} {f : FuncId} {args : List AV} {lit : AV} (h : litOK lit (callN (ctx T) 100000 (.fn f) args ⟨0, []⟩) = true) : CallAt (ctx T) f args ⟨0, []⟩ lit ⟨0, []⟩ := by
  revert h
  cases hr : callN (ctx T) 100000 (.fn f) args ⟨0, []⟩ with
  | none => intro h; cases h
  | some r =>
    obtain ⟨v, H'⟩ := r
    intro h
    unfold litOK at h
    simp only at h
    cases hc : coll H' 100000 [(v, lit)] [] with
    | none => rw [hc] at h; cases h
    | some Φ =>
      rw [hc] at h
      simp only [Bool.and_eq_true] at h
      exact ((call_ok mixed (mkC_ok _ _ _) 100000).fn f args ⟨0, []⟩ _ _ hr).freeze (fitVb_ok h.2) (FitH.froze (nodupB_ok h.1.1) (frzOK_ok h.1.2))
def litsG : List (List AV × AV) → List AV → Option AV
  | [], _ => none
  | x :: r, args => match AV.beqL args x.1 with
    | true => some x.2
    | false => litsG r args
theorem litsG_mem : ∀ {l : List (List AV × AV)} {args : List AV} {v : AV}, litsG l args = some v → (args, v) ∈ l
  | [], args, v, h => by cases h
  | x :: r, args, v, h => by
    unfold litsG at h
    split at h
    · rename_i hb
      simp only [Option.some.injEq] at h
      subst h
      rw [AV.eqL_of_beq _ _ hb]
      exact List.mem_cons_self
    · exact List.mem_cons_of_mem _ (litsG_mem h)
noncomputable def litsE (f : FuncId) (l : List (List AV × AV)) (h : ∀ x, x ∈ l → pureL x.1 = true ∧ CallAt ⟨Tryz.prog, fun _ => [], fun _ => none⟩ f x.1 ⟨0, []⟩ x.2 ⟨0, []⟩) : Entry Tryz.prog := ⟨f, fun args H => match litsG l args with
  | some v => some (v, H)
  | none => none, fun args H v H' hr => by
    split at hr
    · rename_i w hw
      simp only [Option.some.injEq, Prod.mk.injEq] at hr
      obtain ⟨rfl, rfl⟩ := hr
      obtain ⟨h1, h2⟩ := h _ (litsG_mem hw)
      exact h2.lift h1 H
    · cases hr⟩
end Go.Proofs.YthclkpplpdnffaaGreatDoor
