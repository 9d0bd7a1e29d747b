/- IdsFirst and IdsAll hold: who is the first one of an id has it; all names are there once. No condition. -/
import Derived.Test.YtbeigoejdiilmaaGreatMJ
import Derived.Test.YtbeigoejdiilmaaGreatMK
import Derived.Test.YtbeigoejdiilmaaGreatRows
namespace Go.Proofs.YtbeigoejdiilmaaGreat
set_option linter.unusedSimpArgs false
set_option linter.unusedVariables false
open Go Go.RowKit
set_option maxRecDepth 100000

theorem awake35 : isTrueE (callN (ctx TR) 100000 (.fn 14) [] ⟨0, []⟩) = true := by decide +kernel
noncomputable def e14 : Entry Tryz.prog := mkE 14 [] (fun _ : Unit => []) (fun _ => True) (fun _ => .bool true) fun _ _ => closedCall awake35
theorem k14 {T : List (Entry Tryz.prog)} (hT : findE 14 T = some e14.g) (H : Heap) : callL (ctx T) (.fn 14) [] H = some (.bool true, H) :=
  mkE_scalar hT (fun _ _ _ => rfl) () trivial rfl rfl
end Go.Proofs.YtbeigoejdiilmaaGreat
namespace Go.Proofs.YtbeigoejdiilmaaGreat
set_option linter.unusedSimpArgs false
set_option linter.unusedVariables false
open Go Go.RowKit
set_option maxRecDepth 100000

theorem mem_once {x : Str} (L : List Str) : x ∈ onceL L ↔ x ∈ L := by
  have key : ∀ (L a : List Str), x ∈ L.foldl onceS a ↔ x ∈ a ∨ x ∈ L := by
    intro L
    induction L with
    | nil => intro a; simp
    | cons y r ih =>
      intro a
      rw [List.foldl_cons, ih, List.mem_cons]
      unfold onceS
      split
      · rename_i hy
        constructor
        · rintro (h | h)
          · exact .inl h
          · exact .inr (.inr h)
        · rintro (h | rfl | h)
          · exact .inl h
          · exact .inl hy
          · exact .inr h
      · simp [or_assoc]
  simpa [onceL] using key L []
theorem nodup_once (L : List Str) : (onceL L).Nodup := by
  have key : ∀ (L a : List Str), a.Nodup → (L.foldl onceS a).Nodup := by
    intro L
    induction L with
    | nil => intro a h; exact h
    | cons y r ih =>
      intro a h
      rw [List.foldl_cons]
      apply ih
      unfold onceS
      split
      · exact h
      · rename_i hn
        refine List.nodup_append.2 ⟨h, by simp, ?_⟩
        intro u hu w hw
        simp at hw
        subst hw
        rintro rfl
        exact hn hu
  exact key L [] List.nodup_nil
theorem once_le (L : List Str) : (onceL L).length ≤ L.length := by
  have := once_len L []
  simpa [onceL] using this
theorem mem_addS {x v : Str} {L : List Str} : x ∈ addS L v ↔ x ∈ L ∨ (x = v ∧ v ≠ []) := by
  unfold addS
  split
  · rename_i h; simp [h]
  · rename_i h; simp [h]
theorem mem_nxA {t : Tr} {i : Int} {x : Str} {L : List Str} : x ∈ nxA t L i ↔ x ∈ L ∨ (x ≠ [] ∧ (valueB t i wId = x ∨ valueB t i wName = x)) := by
  simp only [nxA, stepA, mem_addS]
  constructor
  · rintro ((h | ⟨rfl, h⟩) | ⟨rfl, h⟩)
    · exact .inl h
    · exact .inr ⟨h, .inl rfl⟩
    · exact .inr ⟨h, .inr rfl⟩
  · rintro (h | ⟨h, rfl | rfl⟩)
    · exact .inl (.inl h)
    · exact .inl (.inr ⟨rfl, h⟩)
    · exact .inr ⟨rfl, h⟩
theorem mem_allN {t : Tr} {x : Str} : x ∈ allN t ↔ ∃ i, i ∈ orderOf t.length (kidsOf t) ∧ (nodeAt t i).kind = 1 ∧ x ≠ [] ∧ (valueB t i wId = x ∨ valueB t i wName = x) := by
  have key : ∀ (L : List Int) (c : List Str), x ∈ runE t (fun _ _ => true) (nxA t) L c ↔ x ∈ c ∨ ∃ i, i ∈ L ∧ (nodeAt t i).kind = 1 ∧ x ≠ [] ∧ (valueB t i wId = x ∨ valueB t i wName = x) := by
    intro L
    induction L with
    | nil => intro c; simp [runE]
    | cons i r ih =>
      intro c
      simp only [runE]
      split
      · rename_i hk
        rw [if_pos trivial, ih, mem_nxA]
        constructor
        · rintro ((h | ⟨h1, h2⟩) | ⟨j, hj, h⟩)
          · exact .inl h
          · exact .inr ⟨i, by simp, hk, h1, h2⟩
          · exact .inr ⟨j, by simp [hj], h⟩
        · rintro (h | ⟨j, hj, h⟩)
          · exact .inl (.inl h)
          · rcases List.mem_cons.1 hj with rfl | hj
            · exact .inl (.inr h.2)
            · exact .inr ⟨j, hj, h⟩
      · rename_i hk
        rw [ih]
        constructor
        · rintro (h | ⟨j, hj, h⟩)
          · exact .inl h
          · exact .inr ⟨j, by simp [hj], h⟩
        · rintro (h | ⟨j, hj, h⟩)
          · exact .inl h
          · rcases List.mem_cons.1 hj with rfl | hj
            · exact absurd h.1 hk
            · exact .inr ⟨j, hj, h⟩
  simpa [allN] using key (orderOf t.length (kidsOf t)) []
theorem valueB_in {t : Tr} {i : Int} {nm : Str} (h0 : 0 ≤ i) (h1 : i < (t.length : Int)) : valueB t i nm = valOf (nodeAt t i) nm := by
  unfold valueB; rw [if_neg (by omega)]
/-- the first one of an id has it, and none ahead -/
theorem first_spec {t : Tr} {i : Int} {v : Str} (hi : i ∈ orderOf t.length (kidsOf t)) (hk : (nodeAt t i).kind = 1) (hv : v ≠ []) (he : valOf (nodeAt t i) wId = v) :
    ∃ k, firstId t v = k ∧ k ∈ orderOf t.length (kidsOf t) ∧ valOf (nodeAt t k) wId = v ∧ ∀ j (hj : j < (orderOf t.length (kidsOf t)).length), k ∉ (orderOf t.length (kidsOf t)).take (j + 1) → ¬ ((nodeAt t (orderOf t.length (kidsOf t))[j]).kind = 1 ∧ valOf (nodeAt t (orderOf t.length (kidsOf t))[j]) wId = v) := by
  generalize hL : orderOf t.length (kidsOf t) = L at *
  have hex : ∃ k, L.find? (fun i => decide ((nodeAt t i).kind = 1) && hasB (nodeAt t i) wId v) = some k := by
    have : (L.find? (fun i => decide ((nodeAt t i).kind = 1) && hasB (nodeAt t i) wId v)).isSome = true := List.find?_isSome.2 ⟨i, hi, by simp [hk, hasB, hv, he]⟩
    exact Option.isSome_iff_exists.1 this
  obtain ⟨k, hf⟩ := hex
  refine ⟨k, by simp only [firstId, firstB, hL, hf]; rfl, List.mem_of_find?_eq_some hf, ?_, ?_⟩
  · have := List.find?_some hf
    simp only [hasB, Bool.and_eq_true, decide_eq_true_eq] at this
    exact this.2.2
  · intro j hj hn ⟨h1, h2⟩
    have hp : (decide ((nodeAt t L[j]).kind = 1) && hasB (nodeAt t L[j]) wId v) = true := by simp [h1, h2, hasB, hv]
    have hs : (L.take (j + 1)).find? (fun i => decide ((nodeAt t i).kind = 1) && hasB (nodeAt t i) wId v) ≠ none := by
      intro h0
      rw [List.find?_eq_none] at h0
      have hm : L[j] ∈ L.take (j + 1) := List.mem_take_iff_getElem.2 ⟨j, by omega, rfl⟩
      exact h0 _ hm hp
    obtain ⟨k', hk'⟩ := Option.ne_none_iff_exists'.1 hs
    have e : L.find? (fun i => decide ((nodeAt t i).kind = 1) && hasB (nodeAt t i) wId v) = some k' := by
      rw [← List.take_append_drop (j + 1) L, List.find?_append, hk']
      rfl
    rw [hf, Option.some.injEq] at e
    subst e
    exact hn (List.mem_of_find?_eq_some hk')
theorem c5 {T : List (Entry Tryz.prog)} (hA : findE 14 T = some e14.g) (hP : findE 12 T = some e12.g) (hL : findE 15 T = some e15.g) (hO : findE 16 T = some e16.g) (hV : findE 17 T = some e17.g)
    (hF : findE 18 T = some e18.g) (hC : findE 19 T = some e19.g) (t : Tr) : CallAt (ctx T) 5 [aTree t] ⟨0, []⟩ (.bool true) ⟨0, []⟩ := by
  have ka := fun H => k14 hA H
  have kp := fun H => k12 hP t (m := 40) (by omega) H
  simp only [aTree] at kp
  cases hf : mayTr t 40 with
  | false =>
    rw [hf] at kp
    refine callAt_body (fn := Tryz.f5) (s0 := ⟨[0, 1, 2, 3, 5, 6, 7, 9, 17, 18, 19, 52, 53, 54], [aTree t, .undef, .undef, .undef, .undef, .undef, .undef, .undef, .undef, .undef, .undef, .undef, .undef, .undef], [], 78, ⟨0, [[]]⟩⟩) Tryz.func5 rfl rfl rfl ?_
    (repeat (first
      | (refine wps_seq ?_)
      | (refine wps_block ?_)
      | (refine wps_label ?_; simp only [thenQ, blockQ])
      | ((refine wps_region callOK ?_); simp [ofV, ofV1, mkC_P, writeVar, writeCells, readCells, allSingle, AV.single, getFs, getF, setFs, setF, Heap.get, Heap.set, Heap.new, Heap.kill, killF, pushF, Heap.ready, refs, sliceParts, fillA, replL, aTree, kp, ka])
      | (refine wps_cond (t := true) rfl (fun _ => ?_) (fun h => by cases h))
      | (refine wps_cond (t := false) rfl (fun h => by cases h) (fun _ => ?_))
      | ((refine wps_skip ?_); simp only [thenQ, blockQ])
      | ((refine wps_exit ?_); simp [thenQ, blockQ])))
    repeat refine wps_seq ?_
    refine wps_ret ?_
    simp [retVal, Tryz.f5, oneOr, thenQ, blockQ]
    exact ends_pure rfl (by rfl)
  | true =>
    rw [hf] at kp
    simp only [mayTr, Bool.and_eq_true] at hf
    have hs := few_small (by omega) hf.1
    have hs1 := hs.1
    have kl := fun H => k15 hL hs H
    have ko := fun H => k16 hO hs.2 H
    have kv := fun i nm H => k17 hV hs.2 i nm H
    have kf := fun v H => k18 hF hs v H
    have hal := once_le (allN t)
    have hal2 := allN_len t
    have kc := fun x H => k19 hC (L := onceL (allN t)) x (by omega) H
    have hmem := fun y (h : y ∈ orderOf t.length (kidsOf t)) => order_mem h
    have hlen := order_len (n := t.length) (ks := kidsOf t)
    have hfs := fun (i : Int) (v : Str) => first_spec (t := t) (i := i) (v := v)
    have hin : ∀ (i : Int) (v : Str), i ∈ orderOf t.length (kidsOf t) → (nodeAt t i).kind = 1 → v ≠ [] → valOf (nodeAt t i) wId = v → v ∈ onceL (allN t) := fun i v h1 h2 h3 h4 => by
      obtain ⟨y0, y1⟩ := hmem i h1
      exact (mem_once _).2 (mem_allN.2 ⟨i, h1, h2, h3, .inl (by rw [valueB_in y0 y1, h4])⟩)
    simp only [aTree] at kl ko kv kf
    generalize onceL (allN t) = A at *
    generalize orderOf t.length (kidsOf t) = L at *
    have g0 : ∀ (m : Nat), FitH 0 [(0, 0)] [] ⟨m, [[(0, .cells [aNodes t])]]⟩ ⟨1, [[(0, .cells [aNodes t])]]⟩ := fun m => .id1 (g := [(0, .cells [aNodes t])]) (by simp) (by simp) (by simp [Heap.get, getFs, getF, pureL])
    refine callAt_body (fn := Tryz.f5) (s0 := ⟨[0, 1, 2, 3, 5, 6, 7, 9, 17, 18, 19, 52, 53, 54], [aTree t, .undef, .undef, .undef, .undef, .undef, .undef, .undef, .undef, .undef, .undef, .undef, .undef, .undef], [], 78, ⟨0, [[]]⟩⟩) Tryz.func5 rfl rfl rfl ?_
    repeat refine wps_seq ?_
    refine wps_region callOK ?_
    simp [ofV, ofV1, mkC_P, writeVar, writeCells, readCells, allSingle, AV.single, getFs, getF, setFs, setF, Heap.get, Heap.set, Heap.new, Heap.kill, killF, pushF, Heap.ready, refs, sliceParts, fillA, replL, aTree]
    repeat refine wps_seq ?_
    refine wps_region callOK ?_
    simp [ofV, ofV1, mkC_P, writeVar, writeCells, readCells, allSingle, AV.single, getFs, getF, setFs, setF, Heap.get, Heap.set, Heap.new, Heap.kill, killF, pushF, Heap.ready, refs, sliceParts, fillA, replL, kp]
    repeat refine wps_seq ?_
    refine wps_cond (t := false) rfl (fun h => by cases h) fun _ => ?_
    repeat refine wps_seq ?_
    refine wps_skip ?_
    simp
    repeat refine wps_seq ?_
    refine wps_region callOK ?_
    simp [ofV, ofV1, mkC_P, writeVar, writeCells, readCells, allSingle, AV.single, getFs, getF, setFs, setF, Heap.get, Heap.set, Heap.new, Heap.kill, killF, pushF, Heap.ready, refs, sliceParts, fillA, replL, kl]
    repeat refine wps_seq ?_
    refine wps_region callOK ?_
    simp [ofV, ofV1, mkC_P, writeVar, writeCells, readCells, allSingle, AV.single, getFs, getF, setFs, setF, Heap.get, Heap.set, Heap.new, Heap.kill, killF, pushF, Heap.ready, refs, sliceParts, fillA, replL, ko, lenI]
    repeat refine wps_seq ?_
    refine wps_block (wps_loop' (fun i : Nat => (⟨[0, 1, 2, 3, 5, 6, 7, 9, 17, 18, 19, 52, 53, 54], [.undef, .ptr 0 0, .undef, aStrs A, .undef, .undef, .undef, .undef, aInts L, .int .i64 (L.length : Nat), .int .i64 i, .undef, .undef, .undef], [], 78, ⟨1, [[(0, .cells [aNodes t])]]⟩⟩ : St))
      (fun i => i ≤ L.length) (fun i => L.length - i) [(0, 0)] [] 0 (Nat.zero_le _) ⟨rfl, rfl, rfl, by simp [fitL, fitV, lookN, pureV, aInts, aStrs], g0 _⟩ ?_)
    rintro i hi B hB
    have hBi : ∀ s', (∃ σ Φ, Fit 0 σ Φ s' (⟨[0, 1, 2, 3, 5, 6, 7, 9, 17, 18, 19, 52, 53, 54], [.undef, .ptr 0 0, .undef, aStrs A, .undef, .undef, .undef, .undef, aInts L, .int .i64 (L.length : Nat), .int .i64 ((i + 1 : Nat) : Int), .undef, .undef, .undef], [], 78, ⟨1, [[(0, .cells [aNodes t])]]⟩⟩ : St)) → i < L.length → B s' := fun s' hx hlt => hB s' (i + 1) (by omega) (by omega) hx
    repeat refine wps_seq ?_
    refine wps_region callOK ?_
    simp [ofV, ofV1, mkC_P, writeVar, writeCells, readCells, allSingle, AV.single, getFs, getF, setFs, setF, Heap.get, Heap.set, Heap.new, Heap.kill, killF, pushF, Heap.ready, refs, sliceParts, fillA, replL]
    repeat refine wps_seq ?_
    refine wps_cond rfl (fun h => ?_) fun h => ?_
    · simp at h
      repeat refine wps_seq ?_
      refine wps_skip ?_
      simp
      repeat refine wps_seq ?_
      refine wps_block ?_
      obtain ⟨y0, y1⟩ := hmem L[i] (List.getElem_mem _)
      have hyL : L[i] ∈ L := List.getElem_mem _
      have a := atX y0 y1
      have kv1 := fun H => kv L[i] wId H
      rw [valueB_in y0 y1] at kv1
      repeat refine wps_seq ?_
      refine wps_region callOK ?_
      simp [ofV, ofV1, mkC_P, writeVar, writeCells, readCells, allSingle, AV.single, getFs, getF, setFs, setF, Heap.get, Heap.set, Heap.new, Heap.kill, killF, pushF, Heap.ready, refs, sliceParts, fillA, replL, atI h]
      repeat refine wps_seq ?_
      refine wps_region callOK ?_
      simp [ofV, ofV1, mkC_P, writeVar, writeCells, readCells, allSingle, AV.single, getFs, getF, setFs, setF, Heap.get, Heap.set, Heap.new, Heap.kill, killF, pushF, Heap.ready, refs, sliceParts, fillA, replL, kv1]
      by_cases c1 : (nodeAt t L[i]).kind = 1
      case neg =>
        repeat refine wps_seq ?_
        refine wps_region callOK ?_
        simp [ofV, ofV1, mkC_P, writeVar, writeCells, readCells, allSingle, AV.single, getFs, getF, setFs, setF, Heap.get, Heap.set, Heap.new, Heap.kill, killF, pushF, Heap.ready, refs, sliceParts, fillA, replL, a, c1]
        repeat refine wps_seq ?_
        refine wps_cond (t := true) rfl (fun _ => ?_) fun h => by cases h
        repeat refine wps_seq ?_
        refine wps_exit ?_
        simp
        repeat refine wps_seq ?_
        refine wps_region callOK ?_
        simp [ofV, ofV1, mkC_P, writeVar, writeCells, readCells, allSingle, AV.single, getFs, getF, setFs, setF, Heap.get, Heap.set, Heap.new, Heap.kill, killF, pushF, Heap.ready, refs, sliceParts, fillA, replL, add_one (show i ≤ 1000000000 by omega)]
        exact hBi _ ⟨[(0, 0)], [], rfl, rfl, rfl, by simp [fitL, fitV, lookN, pureV, aInts, aStrs], g0 _⟩ h
      by_cases c2 : valOf (nodeAt t L[i]) wId = []
      · repeat refine wps_seq ?_
        refine wps_region callOK ?_
        simp [ofV, ofV1, mkC_P, writeVar, writeCells, readCells, allSingle, AV.single, getFs, getF, setFs, setF, Heap.get, Heap.set, Heap.new, Heap.kill, killF, pushF, Heap.ready, refs, sliceParts, fillA, replL, a, c1, c2]
        repeat refine wps_seq ?_
        refine wps_cond (t := true) rfl (fun _ => ?_) fun h => by cases h
        repeat refine wps_seq ?_
        refine wps_exit ?_
        simp
        repeat refine wps_seq ?_
        refine wps_region callOK ?_
        simp [ofV, ofV1, mkC_P, writeVar, writeCells, readCells, allSingle, AV.single, getFs, getF, setFs, setF, Heap.get, Heap.set, Heap.new, Heap.kill, killF, pushF, Heap.ready, refs, sliceParts, fillA, replL, add_one (show i ≤ 1000000000 by omega)]
        exact hBi _ ⟨[(0, 0)], [], rfl, rfl, rfl, by simp [fitL, fitV, lookN, pureV, aInts, aStrs], g0 _⟩ h
      · obtain ⟨k, hk1, hk2, hk3, hk4⟩ := hfs L[i] _ hyL c1 c2 rfl
        have hA1 := hin L[i] _ hyL c1 c2 rfl
        obtain ⟨z0, z1⟩ := hmem k hk2
        have kvk := fun H => kv k wId H
        rw [valueB_in z0 z1, hk3] at kvk
        have kf1 := fun H => kf (valOf (nodeAt t L[i]) wId) H
        rw [hk1] at kf1
        have kc1 := fun H => kc (valOf (nodeAt t L[i]) wId) H
        simp only [hA1, decide_true] at kc1
        obtain ⟨v, hv⟩ : ∃ v, v = valOf (nodeAt t L[i]) wId := ⟨_, rfl⟩
        repeat refine wps_seq ?_
        refine wps_region callOK ?_
        simp [ofV, ofV1, mkC_P, writeVar, writeCells, readCells, allSingle, AV.single, getFs, getF, setFs, setF, Heap.get, Heap.set, Heap.new, Heap.kill, killF, pushF, Heap.ready, refs, sliceParts, fillA, replL, a, c1, c2]
        repeat refine wps_seq ?_
        refine wps_cond (t := false) rfl (fun h => by cases h) fun _ => ?_
        repeat refine wps_seq ?_
        refine wps_skip ?_
        simp
        repeat refine wps_seq ?_
        refine wps_region callOK ?_
        simp [ofV, ofV1, mkC_P, writeVar, writeCells, readCells, allSingle, AV.single, getFs, getF, setFs, setF, Heap.get, Heap.set, Heap.new, Heap.kill, killF, pushF, Heap.ready, refs, sliceParts, fillA, replL, kf1]
        repeat refine wps_seq ?_
        refine wps_region callOK ?_
        simp [ofV, ofV1, mkC_P, writeVar, writeCells, readCells, allSingle, AV.single, getFs, getF, setFs, setF, Heap.get, Heap.set, Heap.new, Heap.kill, killF, pushF, Heap.ready, refs, sliceParts, fillA, replL, kc1, kvk]
        repeat refine wps_seq ?_
        refine wps_cond (t := false) rfl (fun h => by cases h) fun _ => ?_
        repeat refine wps_seq ?_
        refine wps_skip ?_
        simp
        repeat refine wps_seq ?_
        refine wps_region callOK ?_
        simp [ofV, ofV1, mkC_P, writeVar, writeCells, readCells, allSingle, AV.single, getFs, getF, setFs, setF, Heap.get, Heap.set, Heap.new, Heap.kill, killF, pushF, Heap.ready, refs, sliceParts, fillA, replL, ko, lenI]
        rw [← hv] at hk4 c2 ⊢
        repeat refine wps_seq ?_
        refine wps_block (wps_loop' (fun j : Nat => (⟨[0, 1, 2, 3, 5, 6, 7, 9, 17, 18, 19, 52, 53, 54], [.undef, .ptr 0 0, .undef, aStrs A, .undef, .str v, .int .i64 k, .undef, aInts L, .int .i64 (L.length : Nat), .int .i64 i, aInts L, .int .i64 (L.length : Nat), .int .i64 j], [], 78, ⟨1, [[(0, .cells [aNodes t])]]⟩⟩ : St))
          (fun j => j ≤ L.length ∧ k ∉ L.take j) (fun j => L.length - j) [(0, 0)] [] 0 ⟨Nat.zero_le _, by simp⟩ ⟨rfl, rfl, rfl, by simp [fitL, fitV, lookN, pureV, aInts, aStrs], g0 _⟩ ?_)
        rintro j ⟨hj, hkj⟩ B2 hB2
        repeat refine wps_seq ?_
        refine wps_region callOK ?_
        simp [ofV, ofV1, mkC_P, writeVar, writeCells, readCells, allSingle, AV.single, getFs, getF, setFs, setF, Heap.get, Heap.set, Heap.new, Heap.kill, killF, pushF, Heap.ready, refs, sliceParts, fillA, replL]
        repeat refine wps_seq ?_
        refine wps_cond rfl (fun h2 => ?_) fun h2 => ?_
        · simp at h2
          repeat refine wps_seq ?_
          refine wps_skip ?_
          simp
          repeat refine wps_seq ?_
          refine wps_block ?_
          obtain ⟨w0, w1⟩ := hmem L[j] (List.getElem_mem _)
          have aj := atX w0 w1
          have kvj := fun H => kv L[j] wId H
          rw [valueB_in w0 w1] at kvj
          repeat refine wps_seq ?_
          refine wps_region callOK ?_
          simp [ofV, ofV1, mkC_P, writeVar, writeCells, readCells, allSingle, AV.single, getFs, getF, setFs, setF, Heap.get, Heap.set, Heap.new, Heap.kill, killF, pushF, Heap.ready, refs, sliceParts, fillA, replL, atI h2]
          by_cases d1 : L[j] = k
          · repeat refine wps_seq ?_
            refine wps_region callOK ?_
            simp [ofV, ofV1, mkC_P, writeVar, writeCells, readCells, allSingle, AV.single, getFs, getF, setFs, setF, Heap.get, Heap.set, Heap.new, Heap.kill, killF, pushF, Heap.ready, refs, sliceParts, fillA, replL, d1]
            repeat refine wps_seq ?_
            refine wps_cond (t := true) rfl (fun _ => ?_) fun h => by cases h
            repeat refine wps_seq ?_
            refine wps_exit ?_
            simp
            repeat refine wps_seq ?_
            refine wps_region callOK ?_
            simp [ofV, ofV1, mkC_P, writeVar, writeCells, readCells, allSingle, AV.single, getFs, getF, setFs, setF, Heap.get, Heap.set, Heap.new, Heap.kill, killF, pushF, Heap.ready, refs, sliceParts, fillA, replL, add_one (show i ≤ 1000000000 by omega)]
            exact hBi _ ⟨[(0, 0)], [], rfl, rfl, rfl, by simp [fitL, fitV, lookN, pureV, aInts, aStrs], g0 _⟩ h
          · have hkj1 : k ∉ L.take (j + 1) := by
              rw [List.take_succ_eq_append_getElem h2]
              rw [List.mem_append, List.mem_singleton]
              rintro (e | e)
              · exact hkj e
              · exact d1 e.symm
            have hno := hk4 j h2 hkj1
            repeat refine wps_seq ?_
            refine wps_region callOK ?_
            simp [ofV, ofV1, mkC_P, writeVar, writeCells, readCells, allSingle, AV.single, getFs, getF, setFs, setF, Heap.get, Heap.set, Heap.new, Heap.kill, killF, pushF, Heap.ready, refs, sliceParts, fillA, replL, d1]
            repeat refine wps_seq ?_
            refine wps_cond (t := false) rfl (fun h => by cases h) fun _ => ?_
            repeat refine wps_seq ?_
            refine wps_skip ?_
            simp
            by_cases d2 : (nodeAt t L[j]).kind = 1
            · have d3 : ¬ valOf (nodeAt t L[j]) wId = v := fun e => hno ⟨d2, e⟩
              repeat refine wps_seq ?_
              refine wps_region callOK ?_
              simp [ofV, ofV1, mkC_P, writeVar, writeCells, readCells, allSingle, AV.single, getFs, getF, setFs, setF, Heap.get, Heap.set, Heap.new, Heap.kill, killF, pushF, Heap.ready, refs, sliceParts, fillA, replL, aj, d2, kvj, d3]
              repeat refine wps_seq ?_
              refine wps_cond (t := false) rfl (fun h => by cases h) fun _ => ?_
              repeat refine wps_seq ?_
              refine wps_skip ?_
              simp
              repeat refine wps_seq ?_
              refine wps_region callOK ?_
              simp [ofV, ofV1, mkC_P, writeVar, writeCells, readCells, allSingle, AV.single, getFs, getF, setFs, setF, Heap.get, Heap.set, Heap.new, Heap.kill, killF, pushF, Heap.ready, refs, sliceParts, fillA, replL, add_one (show j ≤ 1000000000 by omega)]
              exact hB2 _ (j + 1) (by omega) ⟨by omega, hkj1⟩ ⟨[(0, 0)], [], rfl, rfl, rfl, by simp [fitL, fitV, lookN, pureV, aInts, aStrs], g0 _⟩
            · repeat refine wps_seq ?_
              refine wps_region callOK ?_
              simp [ofV, ofV1, mkC_P, writeVar, writeCells, readCells, allSingle, AV.single, getFs, getF, setFs, setF, Heap.get, Heap.set, Heap.new, Heap.kill, killF, pushF, Heap.ready, refs, sliceParts, fillA, replL, aj, d2]
              repeat refine wps_seq ?_
              refine wps_cond (t := false) rfl (fun h => by cases h) fun _ => ?_
              repeat refine wps_seq ?_
              refine wps_skip ?_
              simp
              repeat refine wps_seq ?_
              refine wps_region callOK ?_
              simp [ofV, ofV1, mkC_P, writeVar, writeCells, readCells, allSingle, AV.single, getFs, getF, setFs, setF, Heap.get, Heap.set, Heap.new, Heap.kill, killF, pushF, Heap.ready, refs, sliceParts, fillA, replL, add_one (show j ≤ 1000000000 by omega)]
              exact hB2 _ (j + 1) (by omega) ⟨by omega, hkj1⟩ ⟨[(0, 0)], [], rfl, rfl, rfl, by simp [fitL, fitV, lookN, pureV, aInts, aStrs], g0 _⟩
        · simp at h2
          repeat refine wps_seq ?_
          refine wps_exit ?_
          simp
          repeat refine wps_seq ?_
          refine wps_region callOK ?_
          simp [ofV, ofV1, mkC_P, writeVar, writeCells, readCells, allSingle, AV.single, getFs, getF, setFs, setF, Heap.get, Heap.set, Heap.new, Heap.kill, killF, pushF, Heap.ready, refs, sliceParts, fillA, replL, add_one (show i ≤ 1000000000 by omega)]
          exact hBi _ ⟨[(0, 0)], [], rfl, rfl, rfl, by simp [fitL, fitV, lookN, pureV, aInts, aStrs], g0 _⟩ h
    · simp at h
      repeat refine wps_seq ?_
      refine wps_exit ?_
      simp
      repeat refine wps_seq ?_
      refine wps_region callOK ?_
      simp [ofV, ofV1, mkC_P, writeVar, writeCells, readCells, allSingle, AV.single, getFs, getF, setFs, setF, Heap.get, Heap.set, Heap.new, Heap.kill, killF, pushF, Heap.ready, refs, sliceParts, fillA, replL, ka]
      repeat refine wps_seq ?_
      refine wps_ret ?_
      simp [retVal, Tryz.f5, oneOr, thenQ, blockQ]
      exact ends_pure rfl (by rfl)
end Go.Proofs.YtbeigoejdiilmaaGreat
namespace Go.Proofs.YtbeigoejdiilmaaGreat
set_option linter.unusedSimpArgs false
set_option linter.unusedVariables false
open Go Go.RowKit
set_option maxRecDepth 100000

theorem slS {H : Heap} {L : List Str} {i : Nat} (h : i ≤ L.length) : sliceA Tryz.prog H 35 (aStrs L) none (some (.int .i64 (i : Int))) none = some (aStrs (L.take i)) := by
  have h2 : idx (i : Int) (Nat.succ L.length) = some i := idx_nat (by omega)
  simp [sliceA, hiOK, aStrs, bound, h2, List.map_take]
/-- an element that has the word -/
def hasW (t : Tr) (s : Str) (y : Int) : Bool := decide ((nodeAt t y).kind = 1) && (decide (valOf (nodeAt t y) wId = s) || decide (valOf (nodeAt t y) wName = s))
theorem c6 {T : List (Entry Tryz.prog)} (hA : findE 14 T = some e14.g) (hP : findE 12 T = some e12.g) (hL : findE 15 T = some e15.g) (hO : findE 16 T = some e16.g) (hV : findE 17 T = some e17.g)
    (hC : findE 19 T = some e19.g) (t : Tr) : CallAt (ctx T) 6 [aTree t] ⟨0, []⟩ (.bool true) ⟨0, []⟩ := by
  have ka := fun H => k14 hA H
  have kp := fun H => k12 hP t (m := 40) (by omega) H
  simp only [aTree] at kp
  cases hf : mayTr t 40 with
  | false =>
    rw [hf] at kp
    refine callAt_body (fn := Tryz.f6) (s0 := ⟨[0, 1, 2, 3, 4, 5, 6, 8, 15, 16, 17, 23, 24, 25], [aTree t, .undef, .undef, .undef, .undef, .undef, .undef, .undef, .undef, .undef, .undef, .undef, .undef, .undef], [], 69, ⟨0, [[]]⟩⟩) Tryz.func6 rfl rfl rfl ?_
    (repeat (first
      | (refine wps_seq ?_)
      | (refine wps_block ?_)
      | (refine wps_label ?_; simp only [thenQ, blockQ])
      | ((refine wps_region callOK ?_); simp [ofV, ofV1, mkC_P, writeVar, writeCells, readCells, allSingle, AV.single, getFs, getF, setFs, setF, Heap.get, Heap.set, Heap.new, Heap.kill, killF, pushF, Heap.ready, refs, sliceParts, fillA, replL, aTree, kp, ka])
      | (refine wps_cond (t := true) rfl (fun _ => ?_) (fun h => by cases h))
      | (refine wps_cond (t := false) rfl (fun h => by cases h) (fun _ => ?_))
      | ((refine wps_skip ?_); simp only [thenQ, blockQ])
      | ((refine wps_exit ?_); simp [thenQ, blockQ])))
    repeat refine wps_seq ?_
    refine wps_ret ?_
    simp [retVal, Tryz.f6, oneOr, thenQ, blockQ]
    exact ends_pure rfl (by rfl)
  | true =>
    rw [hf] at kp
    simp only [mayTr, Bool.and_eq_true] at hf
    have hs := few_small (by omega) hf.1
    have hs1 := hs.1
    have kl := fun H => k15 hL hs H
    have ko := fun H => k16 hO hs.2 H
    have kv := fun i nm H => k17 hV hs.2 i nm H
    have hal := once_le (allN t)
    have hal2 := allN_len t
    have kc := fun (i : Nat) x H => k19 hC (L := (onceL (allN t)).take i) x (by simp; omega) H
    have hnd := nodup_once (allN t)
    have hmem := fun y (h : y ∈ orderOf t.length (kidsOf t)) => order_mem h
    have hlen := order_len (n := t.length) (ks := kidsOf t)
    have hex : ∀ s, s ∈ onceL (allN t) → s ≠ [] ∧ (orderOf t.length (kidsOf t)).any (hasW t s) = true := fun s h => by
      obtain ⟨y, h1, h2, h3, h4⟩ := mem_allN.1 ((mem_once _).1 h)
      obtain ⟨y0, y1⟩ := hmem y h1
      rw [valueB_in y0 y1, valueB_in y0 y1] at h4
      exact ⟨h3, List.any_eq_true.2 ⟨y, h1, by simp [hasW, h2, h4]⟩⟩
    have hA50 : (onceL (allN t)).length ≤ 200 := by omega
    simp only [aTree] at kl ko kv
    generalize onceL (allN t) = A at *
    generalize orderOf t.length (kidsOf t) = L at *
    have g0 : ∀ (m : Nat), FitH 0 [(0, 0)] [] ⟨m, [[(0, .cells [aNodes t])]]⟩ ⟨1, [[(0, .cells [aNodes t])]]⟩ := fun m => .id1 (g := [(0, .cells [aNodes t])]) (by simp) (by simp) (by simp [Heap.get, getFs, getF, pureL])
    refine callAt_body (fn := Tryz.f6) (s0 := ⟨[0, 1, 2, 3, 4, 5, 6, 8, 15, 16, 17, 23, 24, 25], [aTree t, .undef, .undef, .undef, .undef, .undef, .undef, .undef, .undef, .undef, .undef, .undef, .undef, .undef], [], 69, ⟨0, [[]]⟩⟩) Tryz.func6 rfl rfl rfl ?_
    repeat refine wps_seq ?_
    refine wps_region callOK ?_
    simp [ofV, ofV1, mkC_P, writeVar, writeCells, readCells, allSingle, AV.single, getFs, getF, setFs, setF, Heap.get, Heap.set, Heap.new, Heap.kill, killF, pushF, Heap.ready, refs, sliceParts, fillA, replL, aTree]
    repeat refine wps_seq ?_
    refine wps_region callOK ?_
    simp [ofV, ofV1, mkC_P, writeVar, writeCells, readCells, allSingle, AV.single, getFs, getF, setFs, setF, Heap.get, Heap.set, Heap.new, Heap.kill, killF, pushF, Heap.ready, refs, sliceParts, fillA, replL, kp]
    repeat refine wps_seq ?_
    refine wps_cond (t := false) rfl (fun h => by cases h) fun _ => ?_
    repeat refine wps_seq ?_
    refine wps_skip ?_
    simp
    repeat refine wps_seq ?_
    refine wps_region callOK ?_
    simp [ofV, ofV1, mkC_P, writeVar, writeCells, readCells, allSingle, AV.single, getFs, getF, setFs, setF, Heap.get, Heap.set, Heap.new, Heap.kill, killF, pushF, Heap.ready, refs, sliceParts, fillA, replL, kl]
    repeat refine wps_seq ?_
    refine wps_region callOK ?_
    simp [ofV, ofV1, mkC_P, writeVar, writeCells, readCells, allSingle, AV.single, getFs, getF, setFs, setF, Heap.get, Heap.set, Heap.new, Heap.kill, killF, pushF, Heap.ready, refs, sliceParts, fillA, replL, lenS]
    repeat refine wps_seq ?_
    refine wps_block (wps_loop' (fun i : Nat => (⟨[0, 1, 2, 3, 4, 5, 6, 8, 15, 16, 17, 23, 24, 25], [.undef, .ptr 0 0, .undef, aStrs A, .undef, .undef, .undef, .undef, aStrs A, .int .i64 (A.length : Nat), .int .i64 i, .undef, .undef, .undef], [], 69, ⟨1, [[(0, .cells [aNodes t])]]⟩⟩ : St))
      (fun i => i ≤ A.length) (fun i => A.length - i) [(0, 0)] [] 0 (Nat.zero_le _) ⟨rfl, rfl, rfl, by simp [fitL, fitV, lookN, pureV, aStrs], g0 _⟩ ?_)
    rintro i hi B hB
    repeat refine wps_seq ?_
    refine wps_region callOK ?_
    simp [ofV, ofV1, mkC_P, writeVar, writeCells, readCells, allSingle, AV.single, getFs, getF, setFs, setF, Heap.get, Heap.set, Heap.new, Heap.kill, killF, pushF, Heap.ready, refs, sliceParts, fillA, replL]
    repeat refine wps_seq ?_
    refine wps_cond rfl (fun h => ?_) fun h => ?_
    · simp at h
      repeat refine wps_seq ?_
      refine wps_skip ?_
      simp
      repeat refine wps_seq ?_
      refine wps_block ?_
      obtain ⟨hs1', hany⟩ := hex A[i] (List.getElem_mem _)
      have hnot : ¬ A[i] ∈ A.take i := by
        intro hm
        obtain ⟨j, hj, e⟩ := List.mem_take_iff_getElem.1 hm
        have := (List.getElem_inj hnd).1 e
        omega
      have kc1 := fun H => kc i A[i] H
      rw [decide_eq_false hnot] at kc1
      repeat refine wps_seq ?_
      refine wps_region callOK ?_
      simp [ofV, ofV1, mkC_P, writeVar, writeCells, readCells, allSingle, AV.single, getFs, getF, setFs, setF, Heap.get, Heap.set, Heap.new, Heap.kill, killF, pushF, Heap.ready, refs, sliceParts, fillA, replL, atS h]
      obtain ⟨s, hsdef⟩ : ∃ s, s = A[i] := ⟨_, rfl⟩
      rw [← hsdef] at hs1' hany kc1 ⊢
      repeat refine wps_seq ?_
      refine wps_region callOK ?_
      simp [ofV, ofV1, mkC_P, writeVar, writeCells, readCells, allSingle, AV.single, getFs, getF, setFs, setF, Heap.get, Heap.set, Heap.new, Heap.kill, killF, pushF, Heap.ready, refs, sliceParts, fillA, replL]
      repeat refine wps_seq ?_
      refine wps_region callOK ?_
      simp [ofV, ofV1, mkC_P, writeVar, writeCells, readCells, allSingle, AV.single, getFs, getF, setFs, setF, Heap.get, Heap.set, Heap.new, Heap.kill, killF, pushF, Heap.ready, refs, sliceParts, fillA, replL, ko, lenI]
      repeat refine wps_seq ?_
      refine wps_block (wps_loop' (fun j : Nat => (⟨[0, 1, 2, 3, 4, 5, 6, 8, 15, 16, 17, 23, 24, 25], [.undef, .ptr 0 0, .undef, aStrs A, .int .i64 i, .str s, .bool ((L.take j).any (hasW t s)), .undef, aStrs A, .int .i64 (A.length : Nat), .int .i64 i, aInts L, .int .i64 (L.length : Nat), .int .i64 j], [], 69, ⟨1, [[(0, .cells [aNodes t])]]⟩⟩ : St))
        (fun j => j ≤ L.length) (fun j => L.length - j) [(0, 0)] [] 0 (Nat.zero_le _) ⟨rfl, rfl, rfl, by simp [fitL, fitV, lookN, pureV, aInts, aStrs], g0 _⟩ ?_)
      rintro j hj B2 hB2
      repeat refine wps_seq ?_
      refine wps_region callOK ?_
      simp [ofV, ofV1, mkC_P, writeVar, writeCells, readCells, allSingle, AV.single, getFs, getF, setFs, setF, Heap.get, Heap.set, Heap.new, Heap.kill, killF, pushF, Heap.ready, refs, sliceParts, fillA, replL]
      repeat refine wps_seq ?_
      refine wps_cond rfl (fun h2 => ?_) fun h2 => ?_
      · simp at h2
        repeat refine wps_seq ?_
        refine wps_skip ?_
        simp
        repeat refine wps_seq ?_
        refine wps_block ?_
        obtain ⟨w0, w1⟩ := hmem L[j] (List.getElem_mem _)
        have aj := atX w0 w1
        have kv1 := fun H => kv L[j] wId H
        have kv2 := fun H => kv L[j] wName H
        rw [valueB_in w0 w1] at kv1 kv2
        have hnx : (L.take (j + 1)).any (hasW t s) = ((L.take j).any (hasW t s) || hasW t s L[j]) := by
          rw [List.take_succ_eq_append_getElem h2, List.any_append]
          simp only [List.any_cons, List.any_nil, Bool.or_false]
        have fin : ∀ (b : Bool) s', (L.take (j + 1)).any (hasW t s) = b → (∃ σ Φ, Fit 0 σ Φ s' (⟨[0, 1, 2, 3, 4, 5, 6, 8, 15, 16, 17, 23, 24, 25], [.undef, .ptr 0 0, .undef, aStrs A, .int .i64 i, .str s, .bool b, .undef, aStrs A, .int .i64 (A.length : Nat), .int .i64 i, aInts L, .int .i64 (L.length : Nat), .int .i64 ((j + 1 : Nat) : Int)], [], 69, ⟨1, [[(0, .cells [aNodes t])]]⟩⟩ : St)) → B2 s' := fun b s' e hx => hB2 s' (j + 1) (by omega) (by omega) (by rw [e]; exact hx)
        repeat refine wps_seq ?_
        refine wps_region callOK ?_
        simp [ofV, ofV1, mkC_P, writeVar, writeCells, readCells, allSingle, AV.single, getFs, getF, setFs, setF, Heap.get, Heap.set, Heap.new, Heap.kill, killF, pushF, Heap.ready, refs, sliceParts, fillA, replL, atI h2]
        generalize (L.take j).any (hasW t s) = b0 at *
        cases b0 with
        | true =>
          repeat refine wps_seq ?_
          refine wps_region callOK ?_
          simp [ofV, ofV1, mkC_P, writeVar, writeCells, readCells, allSingle, AV.single, getFs, getF, setFs, setF, Heap.get, Heap.set, Heap.new, Heap.kill, killF, pushF, Heap.ready, refs, sliceParts, fillA, replL]
          repeat refine wps_seq ?_
          refine wps_region callOK ?_
          simp [ofV, ofV1, mkC_P, writeVar, writeCells, readCells, allSingle, AV.single, getFs, getF, setFs, setF, Heap.get, Heap.set, Heap.new, Heap.kill, killF, pushF, Heap.ready, refs, sliceParts, fillA, replL, add_one (show j ≤ 1000000000 by omega)]
          exact fin true _ (by rw [hnx]; rfl) ⟨[(0, 0)], [], rfl, rfl, rfl, by simp [fitL, fitV, lookN, pureV, aInts, aStrs], g0 _⟩
        | false =>
          by_cases d1 : (nodeAt t L[j]).kind = 1
          · by_cases d2 : valOf (nodeAt t L[j]) wId = s
            · repeat refine wps_seq ?_
              refine wps_region callOK ?_
              simp [ofV, ofV1, mkC_P, writeVar, writeCells, readCells, allSingle, AV.single, getFs, getF, setFs, setF, Heap.get, Heap.set, Heap.new, Heap.kill, killF, pushF, Heap.ready, refs, sliceParts, fillA, replL, aj, d1, kv1, d2]
              repeat refine wps_seq ?_
              refine wps_region callOK ?_
              simp [ofV, ofV1, mkC_P, writeVar, writeCells, readCells, allSingle, AV.single, getFs, getF, setFs, setF, Heap.get, Heap.set, Heap.new, Heap.kill, killF, pushF, Heap.ready, refs, sliceParts, fillA, replL, add_one (show j ≤ 1000000000 by omega)]
              exact fin true _ (by rw [hnx]; simp [hasW, d1, d2]) ⟨[(0, 0)], [], rfl, rfl, rfl, by simp [fitL, fitV, lookN, pureV, aInts, aStrs], g0 _⟩
            · by_cases d3 : valOf (nodeAt t L[j]) wName = s
              · repeat refine wps_seq ?_
                refine wps_region callOK ?_
                simp [ofV, ofV1, mkC_P, writeVar, writeCells, readCells, allSingle, AV.single, getFs, getF, setFs, setF, Heap.get, Heap.set, Heap.new, Heap.kill, killF, pushF, Heap.ready, refs, sliceParts, fillA, replL, aj, d1, kv1, d2, kv2, d3]
                repeat refine wps_seq ?_
                refine wps_region callOK ?_
                simp [ofV, ofV1, mkC_P, writeVar, writeCells, readCells, allSingle, AV.single, getFs, getF, setFs, setF, Heap.get, Heap.set, Heap.new, Heap.kill, killF, pushF, Heap.ready, refs, sliceParts, fillA, replL, add_one (show j ≤ 1000000000 by omega)]
                exact fin true _ (by rw [hnx]; simp [hasW, d1, d2, d3]) ⟨[(0, 0)], [], rfl, rfl, rfl, by simp [fitL, fitV, lookN, pureV, aInts, aStrs], g0 _⟩
              · repeat refine wps_seq ?_
                refine wps_region callOK ?_
                simp [ofV, ofV1, mkC_P, writeVar, writeCells, readCells, allSingle, AV.single, getFs, getF, setFs, setF, Heap.get, Heap.set, Heap.new, Heap.kill, killF, pushF, Heap.ready, refs, sliceParts, fillA, replL, aj, d1, kv1, d2, kv2, d3]
                repeat refine wps_seq ?_
                refine wps_region callOK ?_
                simp [ofV, ofV1, mkC_P, writeVar, writeCells, readCells, allSingle, AV.single, getFs, getF, setFs, setF, Heap.get, Heap.set, Heap.new, Heap.kill, killF, pushF, Heap.ready, refs, sliceParts, fillA, replL, add_one (show j ≤ 1000000000 by omega)]
                exact fin false _ (by rw [hnx]; simp [hasW, d1, d2, d3]) ⟨[(0, 0)], [], rfl, rfl, rfl, by simp [fitL, fitV, lookN, pureV, aInts, aStrs], g0 _⟩
          · repeat refine wps_seq ?_
            refine wps_region callOK ?_
            simp [ofV, ofV1, mkC_P, writeVar, writeCells, readCells, allSingle, AV.single, getFs, getF, setFs, setF, Heap.get, Heap.set, Heap.new, Heap.kill, killF, pushF, Heap.ready, refs, sliceParts, fillA, replL, aj, d1]
            repeat refine wps_seq ?_
            refine wps_region callOK ?_
            simp [ofV, ofV1, mkC_P, writeVar, writeCells, readCells, allSingle, AV.single, getFs, getF, setFs, setF, Heap.get, Heap.set, Heap.new, Heap.kill, killF, pushF, Heap.ready, refs, sliceParts, fillA, replL, add_one (show j ≤ 1000000000 by omega)]
            exact fin false _ (by rw [hnx]; simp [hasW, d1]) ⟨[(0, 0)], [], rfl, rfl, rfl, by simp [fitL, fitV, lookN, pureV, aInts, aStrs], g0 _⟩
      · simp at h2
        repeat refine wps_seq ?_
        refine wps_exit ?_
        simp
        rw [List.take_of_length_le h2, hany]
        repeat refine wps_seq ?_
        refine wps_region callOK ?_
        simp [ofV, ofV1, mkC_P, writeVar, writeCells, readCells, allSingle, AV.single, getFs, getF, setFs, setF, Heap.get, Heap.set, Heap.new, Heap.kill, killF, pushF, Heap.ready, refs, sliceParts, fillA, replL, hs1', slS hi, kc1]
        repeat refine wps_seq ?_
        refine wps_cond (t := false) rfl (fun h => by cases h) fun _ => ?_
        repeat refine wps_seq ?_
        refine wps_skip ?_
        simp
        repeat refine wps_seq ?_
        refine wps_region callOK ?_
        simp [ofV, ofV1, mkC_P, writeVar, writeCells, readCells, allSingle, AV.single, getFs, getF, setFs, setF, Heap.get, Heap.set, Heap.new, Heap.kill, killF, pushF, Heap.ready, refs, sliceParts, fillA, replL, add_one (show i ≤ 1000000000 by omega)]
        exact hB _ (i + 1) (by omega) (by omega) ⟨[(0, 0)], [], rfl, rfl, rfl, by simp [fitL, fitV, lookN, pureV, aInts, aStrs], g0 _⟩
    · simp at h
      repeat refine wps_seq ?_
      refine wps_exit ?_
      simp
      repeat refine wps_seq ?_
      refine wps_region callOK ?_
      simp [ofV, ofV1, mkC_P, writeVar, writeCells, readCells, allSingle, AV.single, getFs, getF, setFs, setF, Heap.get, Heap.set, Heap.new, Heap.kill, killF, pushF, Heap.ready, refs, sliceParts, fillA, replL, ka]
      repeat refine wps_seq ?_
      refine wps_ret ?_
      simp [retVal, Tryz.f6, oneOr, thenQ, blockQ]
      exact ends_pure rfl (by rfl)
end Go.Proofs.YtbeigoejdiilmaaGreat
namespace Go.Proofs.YtbeigoejdiilmaaGreat
set_option linter.unusedSimpArgs false
set_option linter.unusedVariables false
open Go Go.RowKit Go.ChangeShapes Go.WideShapes Go.ChangeAt
set_option maxRecDepth 100000

theorem own_ : ownKnob Tryz.prog.godebug = none := by kernel_rfl
theorem laid_ : laidOutB Tryz.prog = true := by kernel_rfl
theorem hgs (W : World) : GlobsIn W := fun g h => by simp [globs] at h
noncomputable def TL_first : List (Entry Tryz.prog) := [e14, e12, e15, e16, e17, e18, e19]
theorem read_first : ∀ t, t ∈ [24] → Tryz.prog.readableRec t = true ∧ t < Tryz.prog.types.size := by
  intro t ht
  simp at ht
  subst ht
  exact ⟨by kernel_rfl, by decide +kernel⟩
theorem first_contract (H : Type) (enc : TypeId × Value → H) (W : World) (base : Nat) (args : Array Value) (ds gs : List (DataW H)) (before : List MemPlace)
    (hval : ∀ (j : Nat) t v, Tryz.f5.params[j]? = some t → args[j]? = some v → Value.okWide Tryz.prog W .any base t v)
    (hW : DataW.Whole enc Tryz.prog Tryz.f5.params.toList Rows.idsFirstSpec.vars false W args.toList ds gs before) :
    Calls Tryz.prog 5 args W fun e W' => ∃ v, e = .returned v ∧ Rows.idsFirstSpec.post enc Tryz.prog Tryz.f5 false true false false W args v W' := by
  have hg := hgs W
  have hW' := hW
  obtain ⟨p, q, hA0, hV, rfl, hfz, hnd⟩ := hW
  have hA : DataW.TrodAll enc Tryz.prog W 0 (fun _ => true) true Tryz.f5.params.toList args.toList ds p := hA0
  rw [Tryz.params5] at hA hval
  obtain ⟨v0, vs0, d0, ds0, p0, q0, hargs, rfl, rfl, h0, r0⟩ := trodAll_cons hA
  obtain ⟨rfl, rfl, rfl⟩ := trodAll_nil r0
  obtain rfl : args = #[v0] := by cases args; simp_all
  obtain ⟨rfl, rfl⟩ := trodVars_none hV
  obtain ⟨t, ht⟩ := argTree (hg := hg) h0 (hval 0 24 v0 rfl rfl)
  refine (law_calls (hg := hg) (C := ctx TL_first) Tryz.func5 rfl rfl (c5 rfl rfl rfl rfl rfl rfl rfl t) (.cons ht .nil)).mono fun e W' ⟨he, hg⟩ => ⟨_, he, ?_⟩
  exact law_post (tb := 4) laid_ (by rw [Tryz.params5]; exact read_first) Tryz.underlying4 rfl rfl ⟨rfl, rfl, rfl⟩ hW' hg
theorem first_lifted (os : Os) (started : os.Started) (H : Type) (enc : TypeId × Value → H) :
    ReturnsInHanded {} Tryz.checked os 5 .any (Rows.idsFirstSpec.pre6 enc Tryz.prog Tryz.f5 Rows.idsFirstRow.domain false) (Rows.idsFirstSpec.post enc Tryz.prog Tryz.f5 false true false false) := by
  refine returnsInHanded_of_change (C := Tryz.checked) own_ started (by kernel_rfl) Tryz.func5
    (ChangeSpec.witness6 (enc := enc) (C := Tryz.checked) false ⟨#[], #[.agg #[.slice none 0 0]], []⟩ 8 (by kernel_rfl) (by kernel_rfl) (by kernel_rfl) (by kernel_rfl)) ?_
  intro W base args ds gs before hval hW _ _
  exact first_contract H enc W base args ds gs before hval hW
theorem first_holds : Rows.IdsFirstSaid :=
  OpenClaim.holds_of_wide 5 Tryz.f5 rfl rfl rfl rfl rfl rfl rfl ⟨rfl, rfl, rfl, rfl, rfl⟩ rfl rfl rfl rfl rfl (by kernel_rfl) Tryz.func5 (by kernel_rfl)
    (of_decide_eq_true (by kernel_rfl)) (by unfold Func.isWrapper; first | (rw [if_pos (by decide +kernel)]; kernel_rfl) | (rw [if_neg (by decide +kernel)]; exact ⟨rfl, rfl⟩))
    (fun os started H enc _ => first_lifted os started H enc)
noncomputable def TL_all : List (Entry Tryz.prog) := [e14, e12, e15, e16, e17, e19]
theorem read_all : ∀ t, t ∈ [24] → Tryz.prog.readableRec t = true ∧ t < Tryz.prog.types.size := by
  intro t ht
  simp at ht
  subst ht
  exact ⟨by kernel_rfl, by decide +kernel⟩
theorem all_contract (H : Type) (enc : TypeId × Value → H) (W : World) (base : Nat) (args : Array Value) (ds gs : List (DataW H)) (before : List MemPlace)
    (hval : ∀ (j : Nat) t v, Tryz.f6.params[j]? = some t → args[j]? = some v → Value.okWide Tryz.prog W .any base t v)
    (hW : DataW.Whole enc Tryz.prog Tryz.f6.params.toList Rows.idsAllSpec.vars false W args.toList ds gs before) :
    Calls Tryz.prog 6 args W fun e W' => ∃ v, e = .returned v ∧ Rows.idsAllSpec.post enc Tryz.prog Tryz.f6 false true false false W args v W' := by
  have hg := hgs W
  have hW' := hW
  obtain ⟨p, q, hA0, hV, rfl, hfz, hnd⟩ := hW
  have hA : DataW.TrodAll enc Tryz.prog W 0 (fun _ => true) true Tryz.f6.params.toList args.toList ds p := hA0
  rw [Tryz.params6] at hA hval
  obtain ⟨v0, vs0, d0, ds0, p0, q0, hargs, rfl, rfl, h0, r0⟩ := trodAll_cons hA
  obtain ⟨rfl, rfl, rfl⟩ := trodAll_nil r0
  obtain rfl : args = #[v0] := by cases args; simp_all
  obtain ⟨rfl, rfl⟩ := trodVars_none hV
  obtain ⟨t, ht⟩ := argTree (hg := hg) h0 (hval 0 24 v0 rfl rfl)
  refine (law_calls (hg := hg) (C := ctx TL_all) Tryz.func6 rfl rfl (c6 rfl rfl rfl rfl rfl rfl t) (.cons ht .nil)).mono fun e W' ⟨he, hg⟩ => ⟨_, he, ?_⟩
  exact law_post (tb := 4) laid_ (by rw [Tryz.params6]; exact read_all) Tryz.underlying4 rfl rfl ⟨rfl, rfl, rfl⟩ hW' hg
theorem all_lifted (os : Os) (started : os.Started) (H : Type) (enc : TypeId × Value → H) :
    ReturnsInHanded {} Tryz.checked os 6 .any (Rows.idsAllSpec.pre6 enc Tryz.prog Tryz.f6 Rows.idsAllRow.domain false) (Rows.idsAllSpec.post enc Tryz.prog Tryz.f6 false true false false) := by
  refine returnsInHanded_of_change (C := Tryz.checked) own_ started (by kernel_rfl) Tryz.func6
    (ChangeSpec.witness6 (enc := enc) (C := Tryz.checked) false ⟨#[], #[.agg #[.slice none 0 0]], []⟩ 8 (by kernel_rfl) (by kernel_rfl) (by kernel_rfl) (by kernel_rfl)) ?_
  intro W base args ds gs before hval hW _ _
  exact all_contract H enc W base args ds gs before hval hW
theorem all_holds : Rows.IdsAllSaid :=
  OpenClaim.holds_of_wide 6 Tryz.f6 rfl rfl rfl rfl rfl rfl rfl ⟨rfl, rfl, rfl, rfl, rfl⟩ rfl rfl rfl rfl rfl (by kernel_rfl) Tryz.func6 (by kernel_rfl)
    (of_decide_eq_true (by kernel_rfl)) (by unfold Func.isWrapper; first | (rw [if_pos (by decide +kernel)]; kernel_rfl) | (rw [if_neg (by decide +kernel)]; exact ⟨rfl, rfl⟩))
    (fun os started H enc _ => all_lifted os started H enc)
end Go.Proofs.YtbeigoejdiilmaaGreat
