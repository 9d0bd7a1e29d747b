/- What is handed in is small; the usual policy of both. No condition. -/
import Derived.Test.YtnnjamopknlnbaaDoorML
import Derived.Test.YtnnjamopknlnbaaDoorMM
namespace Go.Proofs.YtnnjamopknlnbaaDoor
set_option linter.unusedSimpArgs false
set_option linter.unusedVariables false
open Go Go.RowKit
set_option maxRecDepth 100000
def wordsB (L : List Str) (most : Nat) : Bool := decide (L.length ≤ most) && L.all fun s => decide (s.length ≤ 100)
theorem c17 {T : List (Entry Tryd.prog)} (L : List Str) (most : Nat) (hm : most ≤ 1000000) : CallAt (ctx T) 17 [aStrs L, .int .i64 (most : Int)] ⟨0, []⟩ (.bool (wordsB L most)) ⟨0, []⟩ := by
  by_cases h : L.length ≤ most
  · have h1 : ¬ (most : Int) < (L.length : Int) := by omega
    have h2 : ¬ most < L.length := by omega
    have e : wordsB L most = L.all fun s => decide (s.length ≤ 100) := by unfold wordsB; rw [decide_eq_true h, Bool.true_and]
    rw [e]
    refine callAt_body (fn := Tryd.f17) (s0 := ⟨[0, 1, 4, 6, 11, 12, 13], [aStrs L, .int .i64 (most : Int), .undef, .undef, .undef, .undef, .undef], [], 21, ⟨0, [[]]⟩⟩) Tryd.func17 rfl rfl rfl ?_
    repeat refine wps_seq ?_
    refine wps_region callOK ?_
    simp [zS]
    repeat refine wps_seq ?_
    refine wps_region callOK ?_
    simp [zS, lenS, h1, h2]
    repeat refine wps_seq ?_
    refine wps_cond (t := false) (by simp [opnd, St.get, h2]) (fun h => by cases h) fun _ => ?_
    repeat refine wps_seq ?_
    refine wps_skip ?_
    simp
    repeat refine wps_seq ?_
    refine wps_region callOK ?_
    simp [zS, lenS]
    repeat refine wps_seq ?_
    refine wps_block (wps_loop' (fun i : Nat => (⟨[0, 1, 4, 6, 11, 12, 13], [aStrs L, .int .i64 (most : Int), .bool false, .undef, aStrs L, .int .i64 (L.length : Nat), .int .i64 i], [], 21, ⟨0, [[]]⟩⟩ : St))
      (fun i => i ≤ L.length ∧ ((L.drop i).all fun s => decide (s.length ≤ 100)) = L.all fun s => decide (s.length ≤ 100)) (fun i => L.length - i) [] [] 0 ⟨Nat.zero_le _, rfl⟩ ⟨rfl, rfl, rfl, by simp [fitL, fitV, pureV, pureL, aStrs], FitH.nothing⟩ ?_)
    rintro i ⟨hi, ha⟩ B hB
    repeat refine wps_seq ?_
    refine wps_region callOK ?_
    simp [zS]
    repeat refine wps_seq ?_
    refine wps_cond rfl (fun h => ?_) fun h => ?_
    · simp at h
      rw [all_at h] at ha
      repeat refine wps_seq ?_
      refine wps_skip ?_
      simp
      repeat refine wps_seq ?_
      refine wps_block ?_
      repeat refine wps_seq ?_
      refine wps_region callOK ?_
      simp [zS, atS h]
      by_cases q : (100 : Int) < (L[i].length : Int)
      · repeat refine wps_seq ?_
        refine wps_region callOK ?_
        simp [zS, q]
        repeat refine wps_seq ?_
        refine wps_cond (t := true) rfl (fun _ => ?_) fun h => by cases h
        repeat refine wps_seq ?_
        refine wps_region callOK ?_
        simp [zS]
        repeat refine wps_seq ?_
        refine wps_ret ?_
        simp [retVal, Tryd.f17, oneOr, thenQ, blockQ]
        exact ends_pure rfl (by rw [← ha, decide_eq_false (show ¬ L[i].length ≤ 100 by omega)]; simp)
      · repeat refine wps_seq ?_
        refine wps_region callOK ?_
        simp [zS, q]
        repeat refine wps_seq ?_
        refine wps_cond (t := false) rfl (fun h => by cases h) fun _ => ?_
        repeat refine wps_seq ?_
        refine wps_skip ?_
        simp
        repeat refine wps_seq ?_
        refine wps_region callOK ?_
        simp [zS, add_one (show i ≤ 1000000000 by omega)]
        exact hB _ (i + 1) (by omega) ⟨by omega, by rw [← ha, decide_eq_true (show L[i].length ≤ 100 by omega), Bool.true_and]⟩ ⟨[], [], ⟨rfl, rfl, rfl, by simp [fitL, fitV, pureV, pureL, aStrs], FitH.nothing⟩⟩
    · simp at h
      rw [List.drop_eq_nil_of_le h] at ha
      repeat refine wps_seq ?_
      refine wps_exit ?_
      simp
      repeat refine wps_seq ?_
      refine wps_region callOK ?_
      simp [zS]
      repeat refine wps_seq ?_
      refine wps_ret ?_
      simp [retVal, Tryd.f17, oneOr, thenQ, blockQ]
      exact ends_pure rfl (by rw [← ha]; rfl)
  · have h1 : (most : Int) < (L.length : Int) := by omega
    have h2 : most < L.length := by omega
    refine callAt_body (fn := Tryd.f17) (s0 := ⟨[0, 1, 4, 6, 11, 12, 13], [aStrs L, .int .i64 (most : Int), .undef, .undef, .undef, .undef, .undef], [], 21, ⟨0, [[]]⟩⟩) Tryd.func17 rfl rfl rfl ?_
    repeat refine wps_seq ?_
    refine wps_region callOK ?_
    simp [zS]
    repeat refine wps_seq ?_
    refine wps_region callOK ?_
    simp [zS, lenS, h1, h2]
    repeat refine wps_seq ?_
    refine wps_cond (t := true) (by simp [opnd, St.get, h2]) (fun _ => ?_) fun h => by cases h
    repeat refine wps_seq ?_
    refine wps_region callOK ?_
    simp [zS]
    repeat refine wps_seq ?_
    refine wps_ret ?_
    simp [retVal, Tryd.f17, oneOr, thenQ, blockQ]
    exact ends_pure rfl (by simp [wordsB]; intro; omega)
theorem injSN (x y : List Str × Nat) (h : [aStrs x.1, AV.int .i64 (x.2 : Int)] = [aStrs y.1, AV.int .i64 (y.2 : Int)]) : x = y := by
  simp only [List.cons.injEq, AV.int.injEq, true_and, and_true] at h
  exact Prod.ext (inj_strs h.1) (by omega)
noncomputable def e17 : Entry Tryd.prog := mkE 17 [[1], []] (fun x : List Str × Nat => [aStrs x.1, .int .i64 (x.2 : Int)]) (fun x => x.2 ≤ 1000000) (fun x => .bool (wordsB x.1 x.2)) fun x h => c17 (T := []) x.1 x.2 h
theorem k17 {T : List (Entry Tryd.prog)} (hT : findE 17 T = some e17.g) (L : List Str) {most : Nat} (hm : most ≤ 1000000) (H : Heap) : callL (ctx T) (.fn 17) [aStrs L, .int .i64 (most : Int)] H = some (.bool (wordsB L most), H) :=
  mkE_scalar hT injSN (L, most) hm rfl (by simp [aStrs])
def plainP (p : PolR) : Bool := decide (p.pre.length ≤ 40) && (wordsB p.res 250 && (wordsB p.els 250 && (wordsB p.ats 250 && wordsB p.sch 250)))
theorem c4 {T : List (Entry Tryd.prog)} (hW : findE 17 T = some e17.g) (p : PolR) : CallAt (ctx T) 4 [polA p] ⟨0, []⟩ (.bool (plainP p)) ⟨0, []⟩ := by
  have w0 := fun L H => k17 hW L (most := 250) (by omega) H
  simp only [Int.cast_ofNat_Int] at w0
  have e : plainP p = (decide (p.pre.length ≤ 40) && (wordsB p.res 250 && (wordsB p.els 250 && (wordsB p.ats 250 && wordsB p.sch 250)))) := rfl
  rw [e]
  have o0 : getL (polC p) 0 = some (.str p.pre) := rfl
  have o1 : getL (polC p) 1 = some (aStrs p.res) := rfl
  have o2 : getL (polC p) 2 = some (aStrs p.els) := rfl
  have o3 : getL (polC p) 3 = some (aStrs p.ats) := rfl
  have o4 : getL (polC p) 4 = some (aStrs p.sch) := rfl
  have hsg : allSingle (polC p) = true := by simp [polC, allSingle, AV.single]
  simp only [polA]
  generalize polC p = C at *
  have w1 := w0 p.res
  have w2 := w0 p.els
  have w3 := w0 p.ats
  have w4 := w0 p.sch
  clear w0
  generalize wordsB p.res 250 = b1 at *
  generalize wordsB p.els 250 = b2 at *
  generalize wordsB p.ats 250 = b3 at *
  generalize wordsB p.sch 250 = b4 at *
  by_cases h : p.pre.length ≤ 40
  · have h1 : (p.pre.length : Int) ≤ 40 := by omega
    rw [decide_eq_true h]
    refine callAt_body (fn := Tryd.f4) (s0 := ⟨[0, 1, 2], [.agg C, .undef, .undef], [], 27, ⟨0, [[]]⟩⟩) Tryd.func4 rfl rfl rfl ?_
    repeat refine wps_seq ?_
    refine wps_region callOK ?_
    simp [zS, hsg]
    rcases Bool.eq_false_or_eq_true (b1) with c1 | c1
    rotate_left
    · repeat refine wps_seq ?_
      refine wps_region callOK ?_
      simp [zS, o0, o1, o2, o3, o4, h1, w1, w2, w3, w4, c1]
      repeat refine wps_seq ?_
      refine wps_ret ?_
      simp [retVal, Tryd.f4, oneOr, thenQ, blockQ]
      exact ends_pure rfl (by simp [c1])
    · rcases Bool.eq_false_or_eq_true (b2) with c2 | c2
      rotate_left
      · repeat refine wps_seq ?_
        refine wps_region callOK ?_
        simp [zS, o0, o1, o2, o3, o4, h1, w1, w2, w3, w4, c1, c2]
        repeat refine wps_seq ?_
        refine wps_ret ?_
        simp [retVal, Tryd.f4, oneOr, thenQ, blockQ]
        exact ends_pure rfl (by simp [c1, c2])
      · rcases Bool.eq_false_or_eq_true (b3) with c3 | c3
        rotate_left
        · repeat refine wps_seq ?_
          refine wps_region callOK ?_
          simp [zS, o0, o1, o2, o3, o4, h1, w1, w2, w3, w4, c1, c2, c3]
          repeat refine wps_seq ?_
          refine wps_ret ?_
          simp [retVal, Tryd.f4, oneOr, thenQ, blockQ]
          exact ends_pure rfl (by simp [c1, c2, c3])
        · rcases Bool.eq_false_or_eq_true (b4) with c4 | c4
          rotate_left
          · repeat refine wps_seq ?_
            refine wps_region callOK ?_
            simp [zS, o0, o1, o2, o3, o4, h1, w1, w2, w3, w4, c1, c2, c3, c4]
            repeat refine wps_seq ?_
            refine wps_ret ?_
            simp [retVal, Tryd.f4, oneOr, thenQ, blockQ]
            exact ends_pure rfl (by simp [c1, c2, c3, c4])
          · repeat refine wps_seq ?_
            refine wps_region callOK ?_
            simp [zS, o0, o1, o2, o3, o4, h1, w1, w2, w3, w4, c1, c2, c3, c4]
            repeat refine wps_seq ?_
            refine wps_ret ?_
            simp [retVal, Tryd.f4, oneOr, thenQ, blockQ]
            exact ends_pure rfl (by simp [c1, c2, c3, c4])
  · have h1 : ¬ (p.pre.length : Int) ≤ 40 := by omega
    rw [decide_eq_false h]
    refine callAt_body (fn := Tryd.f4) (s0 := ⟨[0, 1, 2], [.agg C, .undef, .undef], [], 27, ⟨0, [[]]⟩⟩) Tryd.func4 rfl rfl rfl ?_
    repeat refine wps_seq ?_
    refine wps_region callOK ?_
    simp [zS, hsg]
    repeat refine wps_seq ?_
    refine wps_region callOK ?_
    simp [zS, o0, h1]
    repeat refine wps_seq ?_
    refine wps_ret ?_
    simp [retVal, Tryd.f4, oneOr, thenQ, blockQ]
    exact ends_pure rfl (by simp)
theorem words_ok {L : List Str} (h : wordsB L 250 = true) : L.length ≤ 1000 ∧ ∀ s, s ∈ L → s.length ≤ 1000 := by
  simp only [wordsB, Bool.and_eq_true, decide_eq_true_eq, List.all_eq_true] at h
  exact ⟨by omega, fun s hs => by have := h.2 s hs; omega⟩
theorem plain_ok {p : PolR} (h : plainP p = true) : PolOk p := by
  simp only [plainP, Bool.and_eq_true, decide_eq_true_eq] at h
  obtain ⟨h0, h1, h2, h3, h4⟩ := h
  exact ⟨by omega, ⟨(words_ok h1).1, (words_ok h2).1, (words_ok h3).1, (words_ok h4).1⟩, ⟨(words_ok h1).2, (words_ok h2).2, (words_ok h3).2, (words_ok h4).2⟩⟩
noncomputable def r37 : Entry Tryd.prog := ⟨37, fun args H => match args with
  | [.str W] => match inP W with
    | true => some (ownV H.n 1 ((wsplit W).map .str), ownH H ((wsplit W).map .str))
    | false => none
  | _ => none, fun args H v H' h => by
    split at h
    · rename_i W
      split at h
      · rename_i hl
        simp only [Option.some.injEq, Prod.mk.injEq] at h
        obtain ⟨rfl, rfl⟩ := h
        have hlen := (c36p (T := []) (inP_mem hl)).2.1
        exact (c37 (T := [e57]) rfl W (by omega)).own (el_str _) (by simp [pureL, pureV]) H
      · cases h
    · cases h⟩
theorem usualR_lit : litOK (polU [117, 99]) (callN (ctx [r37]) 100000 (.fn 16) [] ⟨0, []⟩) = true := by decide +kernel
noncomputable def e16 : Entry Tryd.prog := mkE 16 [] (fun _ : Unit => []) (fun _ => True) (fun _ => polU [117, 99]) fun _ _ => closedLit (T := [r37]) usualR_lit
theorem k16 {T : List (Entry Tryd.prog)} (hT : findE 16 T = some e16.g) (H : Heap) : callL (ctx T) (.fn 16) [] H = some (polU [117, 99], H) :=
  mkE_pure hT (fun _ _ _ => rfl) () trivial rfl rfl H
theorem same_lit : litOK (.bool true) (callN (ctx []) 100000 (.fn 14) [polU [117, 99], polU [117, 99]] ⟨0, []⟩) = true := by decide +kernel
theorem c14u {T : List (Entry Tryd.prog)} : CallAt (ctx T) 14 [polU [117, 99], polU [117, 99]] ⟨0, []⟩ (.bool true) ⟨0, []⟩ := closedLit (T := []) same_lit
end Go.Proofs.YtnnjamopknlnbaaDoor
