/- plain.Words; slices.Clone of texts. No condition. -/
import Derived.Test.YthclkpplpdnffaaGreatDoorRL
import Derived.Test.YthclkpplpdnffaaGreatDoorRQ
namespace Go.Proofs.YthclkpplpdnffaaGreatDoor
noncomputable section
set_option linter.unusedSimpArgs false
set_option linter.unusedVariables false
open Go Go.RowKit
section
variable {σ : List (Nat × Nat)} {Φ : List (Nat × List AV)} {ρ : Place} {H H1 : Heap} {w : World}
theorem FitH.step (f : FitH H.n σ Φ H H1) (sm : Sim ρ H w) : Step ρ H w (newPlace H.n σ Φ ρ w sm.below) H1 w where
  le := ⟨fun b l hb => by
    have hlt : b < H.n := by
      rcases Nat.lt_or_ge b H.n with h | h
      · exact h
      · rw [sm.dom b h] at hb; cases hb
    show (if b < H.n then ρ b else _) = _
    rw [if_pos hlt]; exact hb, fun k hk => ⟨.inl hk, sm.below k hk⟩, sm.os, sm.tape, sm.output⟩
  size := Nat.le_refl _
  keeps := fun _ _ _ => rfl
  rows := fun e he l hl => by
    obtain ⟨c, k, h1, h2, _⟩ := f.src e he
    rw [newPlace_at f h1] at hl
    exact .inl ⟨_, Heap.get_mem h2, l, hl, rfl⟩
  num := f.num
  low := fun b hb => by
    show (if b < H.n then ρ b else _) = _
    rw [if_pos hb]
  cold := fun k hk => by
    rcases hk with hk | ⟨c, cs, l, h1, h2, rfl⟩
    · exact .inl hk
    · obtain ⟨cs0, g1, _⟩ := f.frz _ h1
      exact .inr (.inl ⟨_, Heap.get_mem g1, l, h2, rfl⟩)
theorem CallAt.drop {C : Ctx} {f : FuncId} {args args' : List AV} {v : AV} {H' : Heap} (h : CallAt C f args' H1 v H') (fh : (H.ents.map (·.1)).Nodup → FitH H.n σ Φ H H1) (hf : fitL σ Φ args args') : CallAt C f args H v H' := by
  intro ρ w xs sm hx
  have f := fh sm.nodup
  have hx' : VRs (newPlace H.n σ Φ ρ w sm.below) args' xs := by
    obtain ⟨k1, k2⟩ := fitL_spec hf
    refine ⟨by rw [hx.1, k1], fun i h1 h2 => ?_⟩
    exact Fits.run (f.fits sm) sm _ (Nat.le_refl _) (hx.2 i (by omega) h2) (k2 i (by omega) h1)
  have st := f.step sm
  rcases h _ w xs (f.sim sm (Nat.le_refl _)) hx' with ⟨x, ρ', w', h0, h1, h2, h3⟩ | ⟨g, ys, h0, h1⟩
  · exact .inl ⟨x, ρ', w', h0, h1, h2, st.trans h3⟩
  · refine .inr ⟨g, ys, h0, h1.mono ?_⟩
    rintro e w' ⟨x, ρ', rfl, m1, m2, m3⟩
    exact ⟨x, ρ', rfl, m1, m2, st.trans m3⟩
end
end
end Go.Proofs.YthclkpplpdnffaaGreatDoor
namespace Go.Proofs.YthclkpplpdnffaaGreatDoor
set_option linter.unusedSimpArgs false
set_option linter.unusedVariables false
open Go Go.RowKit
set_option maxRecDepth 100000
def fewWs (L : List Str) (m : Int) : Bool := decide ((L.length : Int) ≤ m) && L.all fun s => decide (s.length ≤ 100)
theorem c15 {T : List (Entry Tryz.prog)} (L : List Str) (m : Int) (hm : m ≤ 1000000) : CallAt (ctx T) 15 [aStrs L, .int .i64 m] ⟨0, []⟩ (.bool (fewWs L m)) ⟨0, []⟩ := by
  refine callAt_body (fn := Tryz.f15) (s0 := ⟨[0, 1, 4, 6, 11, 12, 13], [aStrs L, .int .i64 m, .undef, .undef, .undef, .undef, .undef], [], 21, ⟨0, [[]]⟩⟩) Tryz.func15 rfl rfl rfl ?_
  repeat refine wps_seq ?_
  refine wps_region callOK ?_
  simp [zS]
  by_cases c0 : m < (L.length : Int)
  · repeat refine wps_seq ?_
    refine wps_region callOK ?_
    simp [zS, lenS, c0]
    repeat refine wps_seq ?_
    refine wps_cond (t := true) rfl (fun _ => ?_) fun h => by cases h
    repeat refine wps_seq ?_
    refine wps_region callOK ?_
    simp [zS]
    repeat refine wps_seq ?_
    refine wps_ret ?_
    simp [retVal, Tryz.f15, oneOr, thenQ, blockQ]
    exact ends_pure rfl (by simp [fewWs]; omega)
  · repeat refine wps_seq ?_
    refine wps_region callOK ?_
    simp [zS, lenS, c0]
    repeat refine wps_seq ?_
    refine wps_cond (t := false) rfl (fun h => by cases h) fun _ => ?_
    repeat refine wps_seq ?_
    refine wps_skip ?_
    simp
    repeat refine wps_seq ?_
    refine wps_region callOK ?_
    simp [zS, lenS]
    repeat refine wps_seq ?_
    refine wps_block (wps_loop' (fun i : Nat => (⟨[0, 1, 4, 6, 11, 12, 13], [.undef, .undef, .undef, .undef, aStrs L, .int .i64 (L.length : Nat), .int .i64 i], [], 21, ⟨0, [[]]⟩⟩ : St))
      (fun i => i ≤ L.length ∧ ∀ s, s ∈ L.take i → s.length ≤ 100) (fun i => L.length - i) [] [] 0 ⟨Nat.zero_le _, by simp⟩ ⟨rfl, rfl, rfl, by simp [fitL, fitV, pureV, pureL], FitH.nothing⟩ ?_)
    rintro i ⟨hi, hx⟩ B hB
    repeat refine wps_seq ?_
    refine wps_region callOK ?_
    simp [zS]
    repeat refine wps_seq ?_
    refine wps_cond rfl (fun h => ?_) fun h => ?_
    · simp at h
      repeat refine wps_seq ?_
      refine wps_skip ?_
      simp
      repeat refine wps_seq ?_
      refine wps_block ?_
      repeat refine wps_seq ?_
      refine wps_region callOK ?_
      simp [zS, atS h]
      by_cases c1 : 100 < (L[i].length : Int)
      · repeat refine wps_seq ?_
        refine wps_region callOK ?_
        simp [zS, c1]
        repeat refine wps_seq ?_
        refine wps_cond (t := true) rfl (fun _ => ?_) fun h => by cases h
        repeat refine wps_seq ?_
        refine wps_region callOK ?_
        simp [zS]
        have h1 : ¬ L[i].length ≤ 100 := by omega
        have h2 : (L.all fun s => decide (s.length ≤ 100)) = false := by
          rw [List.all_eq_false]
          exact ⟨L[i], List.getElem_mem _, by simpa using h1⟩
        repeat refine wps_seq ?_
        refine wps_ret ?_
        simp [retVal, Tryz.f15, oneOr, thenQ, blockQ]
        exact ends_pure rfl (by simp [fewWs, h2])
      · repeat refine wps_seq ?_
        refine wps_region callOK ?_
        simp [zS, c1]
        repeat refine wps_seq ?_
        refine wps_cond (t := false) rfl (fun h => by cases h) fun _ => ?_
        repeat refine wps_seq ?_
        refine wps_skip ?_
        simp
        repeat refine wps_seq ?_
        refine wps_region callOK ?_
        simp [zS, add_one (show i ≤ 1000000000 by omega)]
        refine hB _ (i + 1) (by omega) ⟨by omega, fun s hs => ?_⟩ ⟨[], [], ⟨rfl, rfl, rfl, by simp [fitL, fitV, pureV, pureL], FitH.nothing⟩⟩
        rw [List.take_succ_eq_append_getElem h, List.mem_append, List.mem_singleton] at hs
        rcases hs with hs | rfl
        · exact hx s hs
        · omega
    · simp at h
      repeat refine wps_seq ?_
      refine wps_exit ?_
      simp
      repeat refine wps_seq ?_
      refine wps_region callOK ?_
      simp [zS]
      rw [List.take_of_length_le h] at hx
      have h2 : (L.all fun s => decide (s.length ≤ 100)) = true := by
        rw [List.all_eq_true]
        exact fun s hs => by simpa using hx s hs
      repeat refine wps_seq ?_
      refine wps_ret ?_
      simp [retVal, Tryz.f15, oneOr, thenQ, blockQ]
      exact ends_pure rfl (by simp [fewWs, h2]; omega)
theorem injSI (x y : List Str × Int) (h : [aStrs x.1, .int .i64 x.2] = [aStrs y.1, .int .i64 y.2]) : x = y := by
  simp only [List.cons.injEq] at h
  obtain ⟨h1, h2, _⟩ := h
  simp only [AV.int.injEq, true_and] at h2
  exact Prod.ext (inj_strs h1) h2
noncomputable def e15 : Entry Tryz.prog := mkE 15 [[1], []] (fun x : List Str × Int => [aStrs x.1, .int .i64 x.2]) (fun x => x.2 ≤ 1000000) (fun x => .bool (fewWs x.1 x.2)) fun x hx => c15 (T := []) x.1 x.2 hx
theorem k15 {T : List (Entry Tryz.prog)} (hT : findE 15 T = some e15.g) (L : List Str) {m : Int} (hm : m ≤ 1000000) (H : Heap) : callL (ctx T) (.fn 15) [aStrs L, .int .i64 m] H = some (.bool (fewWs L m), H) :=
  mkE_scalar hT injSI (L, m) hm rfl (by simp [aStrs])
theorem few_ws {L : List Str} {m : Int} (h : fewWs L m = true) : (L.length : Int) ≤ m ∧ ∀ s, s ∈ L → s.length ≤ 100 := by
  simp only [fewWs, Bool.and_eq_true, decide_eq_true_eq, List.all_eq_true] at h
  exact h
theorem few_ch {t : Tr} (h : fewTr t 30 = true) : ChOk t := by
  refine ⟨few_small (by omega) h, few_vals h, ?_⟩
  simp only [fewTr, Bool.and_eq_true, decide_eq_true_eq] at h
  omega
def strs (L : List Str) : List AV := L.map .str
theorem strs_len {L : List Str} : (strs L).length = L.length := by simp [strs]
theorem strs_pure {L : List Str} : pureL (strs L) = true := pureL_all fun x hx => by
  obtain ⟨a, _, rfl⟩ := List.mem_map.1 hx
  rfl
theorem flat_strs {L : List Str} : flatAV (L.map AV.str) = strs L := by
  induction L with
  | nil => rfl
  | cons a r ih => simp only [List.map_cons, flatAV, ih]; rfl
theorem fit_strs {b : Nat} {L : List Str} {c : Cap} {σ : List (Nat × Nat)} {Φ : List (Nat × List AV)} (h : lookC b Φ = some (strs L)) : fitV σ Φ (.slc b 0 L.length c) (aStrs L) := by
  simp only [fitV]
  refine .inl ⟨_, h, ?_, by simp, (el_str L).size⟩
  rw [flat_strs, subL_front (by rw [strs_len]; omega), List.drop_zero, List.take_of_length_le (by rw [strs_len]; omega)]
theorem c19 {T : List (Entry Tryz.prog)} (L : List Str) (hne : L ≠ []) (hl : L.length ≤ 1000) : CallAt (ctx T) 19 [aStrs L] ⟨0, []⟩ (.slc 0 0 L.length (.rest 1)) ⟨1, [[(0, .cells (strs L))]]⟩ := by
  obtain ⟨x, r, rfl⟩ : ∃ x r, L = x :: r := by cases L with
    | nil => exact absurd rfl hne
    | cons x r => exact ⟨x, r, rfl⟩
  have happ := app_lits (P := Tryz.prog) (elem := 9) (b := 0) (m := 1) (es := (x :: r).map AV.str) (g := []) (fs := []) szT9 byT9 zeT9 rfl (by omega) (by omega) (el_str _) (single_str _) (by simp at hl ⊢; omega)
  have e1 : litV 0 1 1 ((x :: r).map AV.str) = .slc 1 0 (r.length + 1) (.rest 1) := by simp [litV]
  have e2 : ownH ⟨1, [[(0, .cells [])]]⟩ ((x :: r).map AV.str) = ⟨2, [[(1, .cells (strs (x :: r))), (0, .cells [])]]⟩ := by
    rw [ownH.eq_def]
    simp only [List.map_cons]
    rw [← List.map_cons, flat_strs]
    rfl
  rw [e1, e2] at happ
  refine callAt_body (fn := Tryz.f19) (s0 := ⟨[0, 2], [aStrs (x :: r), .undef], [], 8, ⟨0, [[]]⟩⟩) Tryz.func19 rfl rfl rfl ?_
  repeat refine wps_seq ?_
  refine wps_region callOK ?_
  simp [zS]
  repeat refine wps_seq ?_
  refine wps_region callOK ?_
  simp [zS]
  repeat refine wps_seq ?_
  refine wps_cond (t := false) rfl (fun h => by cases h) fun _ => ?_
  repeat refine wps_seq ?_
  refine wps_skip ?_
  simp
  repeat refine wps_seq ?_
  refine wps_region callOK ?_
  simp [zS, happ]
  repeat refine wps_seq ?_
  refine wps_ret ?_
  simp [retVal, Tryz.f19, oneOr]
  exact ⟨[(1, 0)], [], by simp [fitV, lookN], FitH.keep1 (b := 1) (by simp [Heap.get, getFs, getF]) strs_pure rfl⟩
end Go.Proofs.YthclkpplpdnffaaGreatDoor
