/- What is handed in is a tree, a text; DocsTell's walk. No condition. -/
import Derived.Test.YtmadcegoionpjaaGreatDoorMF
import Derived.Test.YtmadcegoionpjaaGreatDoorME
import Derived.Test.YtmadcegoionpjaaGreatDoorMD
namespace Go.Proofs.YtmadcegoionpjaaGreatDoor
set_option linter.unusedSimpArgs false
set_option linter.unusedVariables false
open Go Go.RowKit
set_option maxRecDepth 100000

def fW (t : Tr) : AV := .func (.func 126) [] [.fptr [aNodes t] 0]
theorem pure_fW (t : Tr) : pureV (fW t) = true := by simp [fW, pureV, pureL]
theorem c91 {T : List (Entry Tryz.prog)} (t : Tr) : CallAt (ctx T) 91 [aTree t] ⟨0, []⟩ (fW t) ⟨0, []⟩ := by
  refine callAt_body (fn := Tryz.f91) (s0 := ⟨[0, 1, 2], [aTree t, .undef, .undef], [], 4, ⟨0, [[]]⟩⟩) Tryz.func91 rfl rfl rfl ?_
  repeat refine wps_seq ?_
  refine wps_region callOK ?_
  simp [ofV, ofV1, mkC_P, writeVar, writeCells, readCells, allSingle, AV.single, getFs, getF, setFs, setF, Heap.get, Heap.set, Heap.new, Heap.kill, killF, pushF, Heap.ready, refs, sliceParts, fillA, replL, aTree]
  repeat refine wps_seq ?_
  refine wps_region callOK ?_
  simp [ofV, ofV1, mkC_P, writeVar, writeCells, readCells, allSingle, AV.single, getFs, getF, setFs, setF, Heap.get, Heap.set, Heap.new, Heap.kill, killF, pushF, Heap.ready, refs, sliceParts, fillA, replL]
  repeat refine wps_seq ?_
  refine wps_ret ?_
  simp [retVal, Tryz.f91, oneOr]
  refine ⟨[], [(0, [aNodes t])], by simp [fW, fitV, fitL, lookC], .froze (by simp) fun x hx => ?_⟩
  rw [List.mem_singleton] at hx
  subst hx
  exact ⟨[aNodes t], by simp [Heap.get, getFs, getF], fitL_pure (by simp [pureL]), by simp [pureL]⟩
noncomputable def e91 : Entry Tryz.prog := mkE 91 [[]] (fun t : Tr => [aTree t]) (fun _ => True) fW fun t _ => c91 (T := []) t
theorem k91 {T : List (Entry Tryz.prog)} (hT : findE 91 T = some e91.g) (t : Tr) (H : Heap) : callL (ctx T) (.fn 91) [aTree t] H = some (fW t, H) :=
  mkE_pure hT injT t trivial (by simp [pureL]) (by simp [thawL, th_aTree]) H
def rgOf : Code → Option (Code × Code)
  | .rangeFunc _ _ a b => some (a, b)
  | .seq a b => match rgOf a with
    | some x => some x
    | none => rgOf b
  | .block _ b => rgOf b
  | _ => none
noncomputable def asL : Code := match Tryz.f60.body with
  | some c => match rgOf c with
    | some x => x.1
    | none => .skip
  | none => .skip
noncomputable def bdL : Code := match Tryz.f60.body with
  | some c => match rgOf c with
    | some x => x.2
    | none => .skip
  | none => .skip
noncomputable def LBs (st : LoopState) (t : Tr) : Blk := .loop st none [0, 1, 2, 3, 4, 6, 7] [aTree t, .ptr 0 0, .nilS, .ptr 1 0, .undef, fW t, .undef] [] 17 [7] asL bdL
theorem LB_fit (t : Tr) : ∀ σ, lookN 0 σ = some 0 → lookN 1 σ = some 1 → fitB σ [] (LBs .ready t) (LBs .ready t) := by
  intro σ h0 h1
  simp [LBs, fitB, fitL, fitV, h0, h1, fitV_pure, pure_fW]
@[simp] theorem alStep (H : Heap) : alV Tryz.prog H 122 = some (.ptr H.n 0, H.new (.cells [.int .i64 0, .int .i64 0, .float .f64 0, .bool false])) := rfl
theorem app_nil {v : Int} {cs : List AV} {r : List (List (Nat × Blk))} : appendA Tryz.prog ⟨5, [(4, .cells [.int .i64 v]), (3, .cells cs)] :: r⟩ 3 .nilS (.slc 4 0 1 (.ex 1)) = some (.slc 5 0 1 (.rest 1), ⟨6, [(5, .cells [.int .i64 v]), (4, .cells [.int .i64 v]), (3, .cells cs)] :: r⟩) := rfl
theorem app_in {L : List Int} {v : Int} {cs : List AV} {LB : Blk} {P : List (Nat × Nat)} {s : List Bool} {r : List (Nat × Blk)} (hne : L ≠ []) (hl : L.length ≤ 1000000) :
    appendA Tryz.prog ⟨32, [[(31, .cells [.int .i64 v]), (30, .cells cs)], [(6, .cells (frs P)), (5, .cells (bls s))], (4, .cells (ints L)) :: (2, LB) :: r]⟩ 3 (.slc 4 0 L.length (.rest 1)) (.slc 31 0 1 (.ex 1)) =
      some (.slc 32 0 (L.length + 1) (.rest 1), ⟨33, [[(32, .cells (ints (L ++ [v]))), (31, .cells [.int .i64 v]), (30, .cells cs)], [(6, .cells (frs P)), (5, .cells (bls s))], (2, LB) :: r]⟩) := by
  have h := own_append (P := Tryz.prog) (H := ⟨32, [[(31, .cells [.int .i64 v]), (30, .cells cs)], [(6, .cells (frs P)), (5, .cells (bls s))], (4, .cells (ints L)) :: (2, LB) :: r]⟩) (elem := 3) (b := 4) (n := 0) (es := ints L) (cs := [.int .i64 v]) (x := .slc 31 0 1 (.ex 1)) szT3 byT3 zeT3 rfl (by omega) (by omega) rfl
    (by simp [srcCells, readCells, Heap.get, getFs, getF, Blk.rd, subL, takeL]) rfl rfl (el_int L) (by simp; omega) (fun _ => by simp [Heap.get, getFs, getF]) (fun he => absurd he (ints_ne hne)) (by intro cs; rfl)
  have hd : Heap.drop ⟨32, [[(31, .cells [.int .i64 v]), (30, .cells cs)], [(6, .cells (frs P)), (5, .cells (bls s))], (4, .cells (ints L)) :: (2, LB) :: r]⟩ 4 = ⟨32, [[(31, .cells [.int .i64 v]), (30, .cells cs)], [(6, .cells (frs P)), (5, .cells (bls s))], (2, LB) :: r]⟩ := by simp [Heap.drop, killFs, getF, killF]
  have e : ints L ++ [.int .i64 v] = ints (L ++ [v]) := by simp [ints, aInt]
  rw [hd, flat_ints, e, ownV_ne (ints_ne hne)] at h
  simpa [Heap.new, pushF] using h
theorem refs_ints (L : List Int) : refsB (.cells (ints L)) = [] := by
  show (L.map aInt).flatMap (refs 4) = []
  induction L with
  | nil => rfl
  | cons x r ih => rw [List.map_cons, List.flatMap_cons, ih]; rfl
theorem fit_round {n k m : Nat} {t : Tr} {top f : List (Nat × Blk)} {L : List Int} {P : List (Nat × Nat)} {s : List Bool} (hk : n ≤ k) (hn : 7 ≤ n) (ht : ∀ b, b < 7 → getF b top = none) (htk : getF k top = none) :
    FitH n [(k, n), (6, 6), (5, 5), (2, 2), (1, 1), (0, 0)] [] ⟨m, [top, [(6, .cells (frs P)), (5, .cells (bls s))], [(k, .cells (ints L)), (2, LBs .ready t), (1, .cells [.slc k 0 L.length (.rest 1)]), (0, .cells [aNodes t])]]⟩ (hR t (LBs .ready t) (n + 1) n (fR P s) L) where
  nd1 := by simp; omega
  nd2 := by simp; omega
  nd3 := by simp [hR, fR, Heap.ents]; omega
  lt := by simp [hR]; omega
  idn := by simp; omega
  num := by simp [hR]
  src := by
    have e6 : Nat.beq k 6 = false := beqN_ne (by omega)
    have e5 : Nat.beq k 5 = false := beqN_ne (by omega)
    have e2 : Nat.beq k 2 = false := beqN_ne (by omega)
    have e1 : Nat.beq k 1 = false := beqN_ne (by omega)
    have e0 : Nat.beq k 0 = false := beqN_ne (by omega)
    have f6 : Nat.beq 6 k = false := beqN_ne (by omega)
    have f5 : Nat.beq 5 k = false := beqN_ne (by omega)
    have g0 : ¬ k = 0 := by omega
    have g1 : ¬ k = 1 := by omega
    intro e he
    simp [hR, fR, Heap.ents] at he
    rcases he with rfl | rfl | rfl | rfl | rfl | rfl
    · exact ⟨6, .cells (frs P), by simp, by simp [Heap.get, getFs, ht, getF], fitL_pure (pure_frs _)⟩
    · exact ⟨5, .cells (bls s), by simp, by simp [Heap.get, getFs, ht, getF], fitL_pure (pure_bls _)⟩
    · exact ⟨k, .cells (ints L), by simp, by simp [Heap.get, getFs, htk, getF, f6, f5], fitL_pure (pure_ints _)⟩
    · exact ⟨2, LBs .ready t, by simp, by simp [Heap.get, getFs, ht, getF, e2], LB_fit t _ (by simp [lookN, g0]) (by simp [lookN, g1])⟩
    · exact ⟨1, .cells [.slc k 0 L.length (.rest 1)], by simp, by simp [Heap.get, getFs, ht, getF, e1], by simp [fitB, fitL, fitV, lookN]⟩
    · exact ⟨0, .cells [aNodes t], by simp, by simp [Heap.get, getFs, ht, getF, e0], fitL_pure (by simp [pureL])⟩
  frz := fun x h => by cases h
theorem fit_first {t : Tr} {cs : List AV} : FitH 3 [(5, 3), (2, 2), (1, 1), (0, 0)] [] ⟨6, [[(4, .cells [.int .i64 0]), (3, .cells cs)], [], [(5, .cells (ints [0])), (2, LBs .ready t), (1, .cells [.slc 5 0 1 (.rest 1)]), (0, .cells [aNodes t])]]⟩
    ⟨4, [[], [(3, .cells (ints [0])), (2, LBs .ready t), (1, .cells [.slc 3 0 1 (.rest 1)]), (0, .cells [aNodes t])]]⟩ where
  nd1 := by simp
  nd2 := by simp
  nd3 := by simp [Heap.ents]
  lt := by simp
  idn := by simp
  num := by simp
  src := by
    intro e he
    simp only [Heap.ents, List.flatten_cons, List.flatten_nil, List.nil_append, List.append_nil, List.mem_cons, List.not_mem_nil, or_false] at he
    rcases he with rfl | rfl | rfl | rfl
    · exact ⟨5, .cells (ints [0]), by simp, rfl, fitL_pure (pure_ints _)⟩
    · exact ⟨2, LBs .ready t, by simp, rfl, LB_fit t _ (by simp [lookN]) (by simp [lookN])⟩
    · exact ⟨1, .cells [.slc 5 0 1 (.rest 1)], by simp, rfl, by simp [fitB, fitL, fitV, lookN]⟩
    · exact ⟨0, .cells [aNodes t], by simp, rfl, fitL_pure (by simp [pureL])⟩
  frz := fun x h => by cases h
theorem r_first {T : List (Entry Tryz.prog)} (t : Tr) : YieldAt (ctx T) 2 [stepV 0 (-1) 0 false] (h0R t (LBs .ready t)) (.bool true) ⟨4, [[], [(3, .cells (ints [0])), (2, LBs .ready t), (1, .cells [.slc 3 0 1 (.rest 1)]), (0, .cells [aNodes t])]]⟩ := by
  generalize hH' : (⟨4, [[], [(3, .cells (ints [0])), (2, LBs .ready t), (1, .cells [.slc 3 0 1 (.rest 1)]), (0, .cells [aNodes t])]]⟩ : Heap) = H'
  refine yieldAt_body (b := 2) (pend := none) (ks := [0, 1, 2, 3, 4, 6, 7]) (vs := [aTree t, .ptr 0 0, .nilS, .ptr 1 0, .undef, fW t, .undef]) (ts := []) (sz := 17) (ps := [7]) (assign := asL) (body := bdL) (s1 := ⟨[0, 1, 2, 3, 4, 6, 7], [aTree t, .ptr 0 0, .nilS, .ptr 1 0, .undef, fW t, stepV 0 (-1) 0 false], [], 17, ⟨3, [] :: (h0R t (LBs .ready t)).fs⟩⟩) rfl rfl fun l => ?_
  simp only [asL, rgOf, Tryz.f60, h0R, stepV]
  repeat refine wps_seq ?_
  refine wps_region callOK ?_
  simp [ofV, ofV1, mkC_P, writeVar, writeCells, readCells, allSingle, AV.single, getFs, getF, setFs, setF, Heap.get, Heap.set, Heap.new, Heap.kill, killF, pushF, Heap.ready, refs, sliceParts, fillA, replL, LBs]
  refine ⟨_, _, _, _, _, _, _, _, ⟨rfl, rfl, rfl, rfl, rfl, rfl, rfl, rfl⟩, ?_⟩
  obtain ⟨LBb, hLBb⟩ : ∃ LBb, LBb = LBs .busy t := ⟨_, rfl⟩
  have hLBb' := hLBb
  unfold LBs at hLBb'
  rw [← hLBb']
  simp only [bdL, rgOf, Tryz.f60]
  repeat refine wps_seq ?_
  refine wps_block ?_
  repeat refine wps_seq ?_
  refine wps_region callOK ?_
  simp [ofV, ofV1, mkC_P, writeVar, writeCells, readCells, allSingle, AV.single, getFs, getF, setFs, setF, Heap.get, Heap.set, Heap.new, Heap.kill, killF, pushF, Heap.ready, refs, sliceParts, fillA, replL]
  repeat refine wps_seq ?_
  refine wps_cond (t := true) rfl (fun _ => ?_) fun h => by cases h
  repeat refine wps_seq ?_
  refine wps_region callOK ?_
  simp [ofV, ofV1, mkC_P, writeVar, writeCells, readCells, allSingle, AV.single, getFs, getF, setFs, setF, Heap.get, Heap.set, Heap.new, Heap.kill, killF, pushF, Heap.ready, refs, sliceParts, fillA, replL, app_nil, promote, reach, getF, refsB, refs, killF, ontoF, refsF]
  subst hH'
  exact ⟨_, _, _, _, _, _, _, _, _, hLBb', rfl, _, [], fit_first⟩
theorem fit_leave {t : Tr} {top : List (Nat × Blk)} {L : List Int} {P : List (Nat × Nat)} {s : List Bool} (ht : ∀ b, b < 7 → getF b top = none) :
    FitH 17 [(6, 6), (5, 5), (4, 4), (2, 2), (1, 1), (0, 0)] [] ⟨18, [top, [(6, .cells (frs P)), (5, .cells (bls s))], [(4, .cells (ints L)), (2, LBs .ready t), (1, .cells [.slc 4 0 L.length (.rest 1)]), (0, .cells [aNodes t])]]⟩ (hR t (LBs .ready t) 17 4 (fR P s) L) where
  nd1 := by simp
  nd2 := by simp
  nd3 := by simp [hR, fR, Heap.ents]
  lt := by simp [hR]
  idn := by simp
  num := by simp [hR]
  src := by
    intro e he
    simp [hR, fR, Heap.ents] at he
    rcases he with rfl | rfl | rfl | rfl | rfl | rfl
    · exact ⟨6, .cells (frs P), by simp, by simp [Heap.get, getFs, ht, getF], fitL_pure (pure_frs _)⟩
    · exact ⟨5, .cells (bls s), by simp, by simp [Heap.get, getFs, ht, getF], fitL_pure (pure_bls _)⟩
    · exact ⟨4, .cells (ints L), by simp, by simp [Heap.get, getFs, ht, getF], fitL_pure (pure_ints _)⟩
    · exact ⟨2, LBs .ready t, by simp, by simp [Heap.get, getFs, ht, getF], LB_fit t _ (by simp [lookN]) (by simp [lookN])⟩
    · exact ⟨1, .cells [.slc 4 0 L.length (.rest 1)], by simp, by simp [Heap.get, getFs, ht, getF], by simp [fitB, fitL, fitV, lookN]⟩
    · exact ⟨0, .cells [aNodes t], by simp, by simp [Heap.get, getFs, ht, getF], fitL_pure (by simp [pureL])⟩
  frz := fun x h => by cases h
theorem getF_one {b k : Nat} {x : Blk} (h : k ≠ b) : getF b [(k, x)] = none := by unfold getF; rw [beqN_ne h]; rfl
theorem r_leave {T : List (Entry Tryz.prog)} (t : Tr) (P : List (Nat × Nat)) (s : List Bool) (L : List Int) (node up : Int) (c : Nat) : YieldAt (ctx T) 2 [stepV node up c true] (hR t (LBs .ready t) 17 4 (fR P s) L) (.bool true) (hR t (LBs .ready t) 17 4 (fR P s) L) := by
  generalize hH' : (hR t (LBs .ready t) 17 4 (fR P s) L) = H'
  have hH := hH'
  simp only [hR, fR] at hH'
  rw [← hH']
  refine yieldAt_body (b := 2) (pend := none) (ks := [0, 1, 2, 3, 4, 6, 7]) (vs := [aTree t, .ptr 0 0, .nilS, .ptr 1 0, .undef, fW t, .undef]) (ts := []) (sz := 17) (ps := [7]) (assign := asL) (body := bdL) (s1 := ⟨[0, 1, 2, 3, 4, 6, 7], [aTree t, .ptr 0 0, .nilS, .ptr 1 0, .undef, fW t, stepV node up c true], [], 17, ⟨17, [] :: (hR t (LBs .ready t) 17 4 (fR P s) L).fs⟩⟩) rfl rfl fun l => ?_
  rw [hH']
  simp only [asL, rgOf, Tryz.f60, hR, fR, stepV]
  repeat refine wps_seq ?_
  refine wps_region callOK ?_
  simp [ofV, ofV1, mkC_P, writeVar, writeCells, readCells, allSingle, AV.single, getFs, getF, setFs, setF, Heap.get, Heap.set, Heap.new, Heap.kill, killF, pushF, Heap.ready, refs, sliceParts, fillA, replL, LBs]
  refine ⟨_, _, _, _, _, _, _, _, ⟨rfl, rfl, rfl, rfl, rfl, rfl, rfl, rfl⟩, ?_⟩
  obtain ⟨LBb, hLBb⟩ : ∃ LBb, LBb = LBs .busy t := ⟨_, rfl⟩
  have hLBb' := hLBb
  unfold LBs at hLBb'
  rw [← hLBb']
  simp only [bdL, rgOf, Tryz.f60]
  repeat refine wps_seq ?_
  refine wps_block ?_
  repeat refine wps_seq ?_
  refine wps_region callOK ?_
  simp [ofV, ofV1, mkC_P, writeVar, writeCells, readCells, allSingle, AV.single, getFs, getF, setFs, setF, Heap.get, Heap.set, Heap.new, Heap.kill, killF, pushF, Heap.ready, refs, sliceParts, fillA, replL]
  repeat refine wps_seq ?_
  refine wps_cond (t := false) rfl (fun h => by cases h) fun _ => ?_
  repeat refine wps_seq ?_
  refine wps_skip ?_
  simp [getFs, getF, setFs, setF]
  refine ⟨_, _, _, _, _, _, _, _, _, hLBb', rfl, ?_⟩
  subst hH
  exact ⟨_, [], fit_leave (t := t) (L := L) (P := P) (s := s) (top := [(17, .cells [.int .i64 node, .int .i64 up, .float .f64 c, .bool true])]) fun b hb => getF_one (by omega)⟩
end Go.Proofs.YtmadcegoionpjaaGreatDoor
namespace Go.Proofs.YtmadcegoionpjaaGreatDoor
set_option linter.unusedSimpArgs false
set_option linter.unusedVariables false
open Go Go.RowKit
set_option maxRecDepth 100000

theorem reach_one {n b : Nat} {k : Blk} {x : Nat × Blk} {f acc : List (Nat × Blk)} (h : getF b (x :: f) = some k) (hk : refsB k = []) : reach (Nat.succ (Nat.succ n)) [b] (x :: f) acc = ((b, k) :: acc, killF b (x :: f)) := by
  unfold reach
  simp only [h, hk, List.nil_append]
  unfold reach
  rfl
theorem reach_no {n b : Nat} {x : Nat × Blk} {f acc : List (Nat × Blk)} (h : getF b (x :: f) = none) : reach (Nat.succ (Nat.succ n)) [b] (x :: f) acc = (acc, x :: f) := by
  unfold reach
  simp only [h]
  unfold reach
  rfl
theorem prom_gen {b c : Nat} {k : Blk} {x y : Nat × Blk} {f1 f2 f3 : List (Nat × Blk)} {kb : Blk} (n1 : getF b (x :: f1) = none) (n2 : getF b (y :: f2) = none) (n3 : getF b f3 = some kb) (h1 : getF c (x :: f1) = some k) (hk : refsB k = []) (h2 : getF c (y :: f2) = none) :
    promote b [c] [] [x :: f1, y :: f2, f3] = [killF c (x :: f1), y :: f2, (c, k) :: f3] := by
  have r1 : reach 100000 [c] (x :: f1) [] = ([(c, k)], killF c (x :: f1)) := reach_one (n := 99998) h1 hk
  have r2 : reach 100000 [c] (y :: f2) [] = ([], y :: f2) := reach_no (n := 99998) h2
  have e1 : refsF [(c, k)] ++ [c] = [c] := by simp [refsF, hk]
  have e2 : refsF [] ++ [c] = [c] := rfl
  unfold promote
  rw [n1]
  simp only [r1, e1]
  unfold promote
  rw [n2]
  simp only [r2, e2]
  unfold promote
  rw [n3]
  rfl
theorem prom {A B C D X LB : Blk} {L : List Int} {r : List (Nat × Blk)} : promote 1 [32] [] [[(32, .cells (ints L)), (31, A), (30, B)], [(6, C), (5, D)], (2, LB) :: (1, X) :: r] = [[(31, A), (30, B)], [(6, C), (5, D)], (32, .cells (ints L)) :: (2, LB) :: (1, X) :: r] :=
  prom_gen (b := 1) (c := 32) (k := .cells (ints L)) (kb := X) rfl rfl rfl rfl (refs_ints L) rfl
theorem r_enter {T : List (Entry Tryz.prog)} (t : Tr) (P : List (Nat × Nat)) (s : List Bool) (L : List Int) (node up : Int) (c : Nat) (hl : L.length ≤ 1000000) (hne : L ≠ []) : YieldAt (ctx T) 2 [stepV node up c false] (hR t (LBs .ready t) 30 4 (fR P s) L) (.bool true) (hR t (LBs .ready t) 31 30 (fR P s) (L ++ [node])) := by
  generalize hH' : (hR t (LBs .ready t) 31 30 (fR P s) (L ++ [node])) = H'
  refine yieldAt_body (b := 2) (pend := none) (ks := [0, 1, 2, 3, 4, 6, 7]) (vs := [aTree t, .ptr 0 0, .nilS, .ptr 1 0, .undef, fW t, .undef]) (ts := []) (sz := 17) (ps := [7]) (assign := asL) (body := bdL) (s1 := ⟨[0, 1, 2, 3, 4, 6, 7], [aTree t, .ptr 0 0, .nilS, .ptr 1 0, .undef, fW t, stepV node up c false], [], 17, ⟨30, [] :: (hR t (LBs .ready t) 30 4 (fR P s) L).fs⟩⟩) rfl rfl fun l => ?_
  simp only [asL, rgOf, Tryz.f60, hR, fR, stepV]
  repeat refine wps_seq ?_
  refine wps_region callOK ?_
  simp [ofV, ofV1, mkC_P, writeVar, writeCells, readCells, allSingle, AV.single, getFs, getF, setFs, setF, Heap.get, Heap.set, Heap.new, Heap.kill, killF, pushF, Heap.ready, refs, sliceParts, fillA, replL, LBs]
  refine ⟨_, _, _, _, _, _, _, _, ⟨rfl, rfl, rfl, rfl, rfl, rfl, rfl, rfl⟩, ?_⟩
  obtain ⟨LBb, hLBb⟩ : ∃ LBb, LBb = LBs .busy t := ⟨_, rfl⟩
  have hLBb' := hLBb
  unfold LBs at hLBb'
  rw [← hLBb']
  simp only [bdL, rgOf, Tryz.f60]
  repeat refine wps_seq ?_
  refine wps_block ?_
  repeat refine wps_seq ?_
  refine wps_region callOK ?_
  simp [ofV, ofV1, mkC_P, writeVar, writeCells, readCells, allSingle, AV.single, getFs, getF, setFs, setF, Heap.get, Heap.set, Heap.new, Heap.kill, killF, pushF, Heap.ready, refs, sliceParts, fillA, replL]
  repeat refine wps_seq ?_
  refine wps_cond (t := true) rfl (fun _ => ?_) fun h => by cases h
  repeat refine wps_seq ?_
  refine wps_region callOK ?_
  simp [ofV, ofV1, mkC_P, writeVar, writeCells, readCells, allSingle, AV.single, getFs, getF, setFs, setF, Heap.get, Heap.set, Heap.new, Heap.kill, killF, pushF, Heap.ready, refs, sliceParts, fillA, replL, app_in hne hl, prom, getF, refs]
  subst hH'
  refine ⟨_, _, _, _, _, _, _, _, _, hLBb', rfl, _, [], FitH.eqL (by simp [LBs, leaveA]) (fit_round (f := []) (n := 30) (k := 32) (m := 33) (t := t) (L := L ++ [node]) (P := P) (s := s) (top := [(31, .cells [.int .i64 node]), (30, .cells [.int .i64 node, .int .i64 up, .float .f64 c, .bool false])]) (by omega) (by omega) ?_ ?_)⟩
  · intro b hb; unfold getF; rw [beqN_ne (by omega)]; exact getF_one (by omega)
  · rfl
theorem rounds {T : List (Entry Tryz.prog)} (t : Tr) : Rounds T t (LBs .ready t) where
  fit := LB_fit t
  first := r_first t
  leave := fun m hm P s L node up c _ => by subst hm; exact r_leave t P s L node up c
  enter := fun m hm P s L node up c hl hne => by subst hm; exact r_enter t P s L node up c hl hne
end Go.Proofs.YtmadcegoionpjaaGreatDoor
namespace Go.Proofs.YtmadcegoionpjaaGreatDoor
set_option linter.unusedSimpArgs false
set_option linter.unusedVariables false
open Go Go.RowKit
set_option maxRecDepth 100000

/-- the range's record as it is laid -/
noncomputable def LBx (t : Tr) : Blk := .loop .ready none [0, 1, 2, 3, 4, 6, 7] [aTree t, .ptr 0 0, .nilS, .ptr 1 0, .undef, fW t, .undef] [(5, aTree t)] 17 [7] asL bdL
theorem call_List {T : List (Entry Tryz.prog)} (t : Tr) (hn : t.length ≤ 50) (hpos : 0 < t.length) (hkd : ∀ x, x ∈ t → x.kids.length ≤ 1000) :
    CallAt (ctx T) 126 [.yld 2, .fptr [aNodes t] 0] ⟨3, [[(2, LBx t), (1, .cells [.nilS]), (0, .cells [aNodes t])]]⟩ (.tup [])
      ⟨4, [[(3, .cells (ints (orderOf t.length (kidsOf t)))), (2, LBs .ready t), (1, .cells [.slc 3 0 (orderOf t.length (kidsOf t)).length (.rest 1)]), (0, .cells [aNodes t])]]⟩ := by
  have h := c126 (T := T) t hn hpos hkd (LBs .ready t) (rounds t)
  have hf : FitH 0 [(2, 2), (1, 1), (0, 0)] [] ⟨3, [[(2, LBx t), (1, .cells [.nilS]), (0, .cells [aNodes t])]]⟩ ⟨3, [[(2, LBs .ready t), (1, .cells [.nilS]), (0, .cells [aNodes t])]]⟩ := {
    nd1 := by simp
    nd2 := by simp
    nd3 := by simp [Heap.ents]
    lt := by simp
    idn := by simp
    num := by simp
    src := by
      intro e he
      simp [Heap.ents] at he
      rcases he with rfl | rfl | rfl
      · refine ⟨2, LBx t, by simp, rfl, ?_⟩
        simp [LBx, LBs, fitB, fitL, fitV, lookN, fitV_pure, pure_fW]
      · exact ⟨1, .cells [.nilS], by simp, rfl, by simp [fitB, fitL, fitV]⟩
      · exact ⟨0, .cells [aNodes t], by simp, rfl, fitL_pure (by simp [pureL])⟩
    frz := fun x h => by cases h }
  have := h.framed (H := ⟨3, [[(2, LBx t), (1, .cells [.nilS]), (0, .cells [aNodes t])]]⟩) (σ := [(2, 2), (1, 1), (0, 0)]) (args := [.yld 2, .fptr [aNodes t] 0])
    (H' := ⟨4, [[(3, .cells (ints (orderOf t.length (kidsOf t)))), (2, LBs .ready t), (1, .cells [.slc 3 0 (orderOf t.length (kidsOf t)).length (.rest 1)]), (0, .cells [aNodes t])]]⟩) hf (by simp [fitL, fitV, lookN, fitV_pure, pureV, pureL]) ?_ (by simp)
  · simpa [renV, renL] using this
  · refine ⟨by simp, by simp [Heap.ents], ?_⟩
    intro e he
    have hI : renL (outN [(2, 2), (1, 1), (0, 0)] 3 3) (ints (orderOf t.length (kidsOf t))) = ints (orderOf t.length (kidsOf t)) := renL_pure _ (pure_ints _)
    have hT := renV_pure (outN [(2, 2), (1, 1), (0, 0)] 3 3) (pure_aTree t)
    have hN := renV_pure (outN [(2, 2), (1, 1), (0, 0)] 3 3) (pure_aNodes t)
    have hF := renV_pure (outN [(2, 2), (1, 1), (0, 0)] 3 3) (pure_fW t)
    refine .inl ⟨e, he, ?_⟩
    simp [Heap.ents] at he
    rcases he with rfl | rfl | rfl | rfl
    · simp [renB, hI]; simp [outN, lookR]
    · simp [LBs, renB, renL, renV, renT, hT, hF]; simp [outN, lookR]
    · simp [renB, renL, renV]; simp [outN, lookR]
    · simp [renB, renL, hN]; simp [outN, lookR]
def hE (t : Tr) : Heap := ⟨4, [[(3, .cells (ints (orderOf t.length (kidsOf t)))), (1, .cells [.slc 3 0 (orderOf t.length (kidsOf t)).length (.rest 1)]), (0, .cells [aNodes t])]]⟩
def sL (t : Tr) (H : Heap) : St := ⟨[0, 1, 2, 3, 4, 6, 7], [aTree t, .ptr 0 0, .nilS, .ptr 1 0, .undef, fW t, .undef], [(5, aTree t)], 17, H⟩
theorem range_List {T : List (Entry Tryz.prog)} (t : Tr) {call : CallE} (hc : call (.fn 126) [.yld 2, .fptr [aNodes t] 0] ⟨3, [[(2, LBx t), (1, .cells [.nilS]), (0, .cells [aNodes t])]]⟩ = some (.tup [], ⟨4, [[(3, .cells (ints (orderOf t.length (kidsOf t)))), (2, LBs .ready t), (1, .cells [.slc 3 0 (orderOf t.length (kidsOf t)).length (.rest 1)]), (0, .cells [aNodes t])]]⟩)) :
    evalRange (ctx T) call (.tmp 6) #[7] asL bdL (sL t ⟨2, [[(1, .cells [.nilS]), (0, .cells [aNodes t])]]⟩) = some (.normal, sL t (hE t)) := by
  have hent : entersF (ctx T) 126 = true := by kernel_rfl
  have ho : opnd (sL t ⟨2, [[(1, .cells [.nilS]), (0, .cells [aNodes t])]]⟩) (.tmp 6) = some (.func (.func 126) [] [.fptr [aNodes t] 0]) := rfl
  unfold evalRange
  rw [ho]
  simp only [Option.bind_some, hent]
  have e : call (.fn 126) ([] ++ [.yld (sL t ⟨2, [[(1, .cells [.nilS]), (0, .cells [aNodes t])]]⟩).H.n] ++ [.fptr [aNodes t] 0]) ((sL t ⟨2, [[(1, .cells [.nilS]), (0, .cells [aNodes t])]]⟩).H.new (.loop .ready none (sL t ⟨2, [[(1, .cells [.nilS]), (0, .cells [aNodes t])]]⟩).ks (sL t ⟨2, [[(1, .cells [.nilS]), (0, .cells [aNodes t])]]⟩).vs (sL t ⟨2, [[(1, .cells [.nilS]), (0, .cells [aNodes t])]]⟩).ts (sL t ⟨2, [[(1, .cells [.nilS]), (0, .cells [aNodes t])]]⟩).sz (#[7] : Array Nat).toList asL bdL)) = _ := hc
  rw [e]
  rfl
theorem c60p {T : List (Entry Tryz.prog)} (hW : findE 91 T = some e91.g) (t : Tr) (hn : t.length ≤ 50) (hpos : 0 < t.length) (hkd : ∀ x, x ∈ t → x.kids.length ≤ 1000) : CallAt (ctx T) 60 [aTree t] ⟨0, []⟩ (aInts (orderOf t.length (kidsOf t))) ⟨0, []⟩ := by
  have hk := fun H => k91 hW t H
  have hcall := call_List (T := T) t hn hpos hkd
  simp only [aTree] at hk
  refine callAt_body (fn := Tryz.f60) (s0 := ⟨[0, 1, 2, 3, 4, 6, 7], [aTree t, .undef, .undef, .undef, .undef, .undef, .undef], [], 17, ⟨0, [[]]⟩⟩) Tryz.func60 rfl rfl rfl ?_
  repeat refine wps_seq ?_
  refine wps_region callOK ?_
  simp [ofV, ofV1, mkC_P, writeVar, writeCells, readCells, allSingle, AV.single, getFs, getF, setFs, setF, Heap.get, Heap.set, Heap.new, Heap.kill, killF, pushF, Heap.ready, refs, sliceParts, fillA, replL, aTree]
  repeat refine wps_seq ?_
  refine wps_region callOK ?_
  simp [ofV, ofV1, mkC_P, writeVar, writeCells, readCells, allSingle, AV.single, getFs, getF, setFs, setF, Heap.get, Heap.set, Heap.new, Heap.kill, killF, pushF, Heap.ready, refs, sliceParts, fillA, replL]
  repeat refine wps_seq ?_
  refine wps_region callOK ?_
  simp [ofV, ofV1, mkC_P, writeVar, writeCells, readCells, allSingle, AV.single, getFs, getF, setFs, setF, Heap.get, Heap.set, Heap.new, Heap.kill, killF, pushF, Heap.ready, refs, sliceParts, fillA, replL, hk]
  repeat refine wps_seq ?_
  refine wps_block ?_
  have hent : entersF (ctx T) 126 = true := by kernel_rfl
  refine wps_range (callOKF [⟨126, _, _, _, _, hcall⟩]) ⟨.normal, sL t (hE t), range_List (T := T) t (by simp [callF]), ?_⟩
  simp [sL, hE]
  repeat refine wps_seq ?_
  refine wps_region callOK ?_
  simp [ofV, ofV1, mkC_P, writeVar, writeCells, readCells, allSingle, AV.single, getFs, getF, setFs, setF, Heap.get, Heap.set, Heap.new, Heap.kill, killF, pushF, Heap.ready, refs, sliceParts, fillA, replL]
  repeat refine wps_seq ?_
  refine wps_ret ?_
  simp [retVal, Tryz.f60, oneOr]
  refine ⟨[], [(3, ints (orderOf t.length (kidsOf t)))], fit_ints (by simp [lookC]) rfl, .froze (by simp) fun x hx => ?_⟩
  rw [List.mem_singleton] at hx
  subst hx
  exact ⟨_, by simp [Heap.get, getFs, getF], fitL_pure (pure_ints _), pure_ints _⟩
end Go.Proofs.YtmadcegoionpjaaGreatDoor
namespace Go.Proofs.YtmadcegoionpjaaGreatDoor
set_option linter.unusedSimpArgs false
set_option linter.unusedVariables false
open Go Go.RowKit
set_option maxRecDepth 100000

noncomputable def hN0 : Heap := ⟨3, [[(2, LBs .ready []), (1, .cells [.nilS]), (0, .cells [aNodes []])]]⟩
theorem fit_N0 : FitH 3 [(2, 2), (1, 1), (0, 0)] [] ⟨3, [[], [(2, LBx []), (1, .cells [.nilS]), (0, .cells [aNodes []])]]⟩ hN0 where
  nd1 := by simp
  nd2 := by simp
  nd3 := by simp [hN0, Heap.ents]
  lt := by simp [hN0]
  idn := by simp
  num := by simp [hN0]
  src := by
    intro e he
    simp [hN0, Heap.ents] at he
    rcases he with rfl | rfl | rfl
    · refine ⟨2, LBx [], by simp, rfl, ?_⟩
      simp [LBx, LBs, fitB, fitL, fitV, lookN, fitV_pure, pure_fW]
    · exact ⟨1, .cells [.nilS], by simp, rfl, by simp [fitB, fitL, fitV]⟩
    · exact ⟨0, .cells [aNodes []], by simp, rfl, fitL_pure (by simp [pureL])⟩
  frz := fun x h => by cases h
theorem walk0 {T : List (Entry Tryz.prog)} : CallAt (ctx T) 126 [.yld 2, .fptr [aNodes []] 0] ⟨3, [[(2, LBx []), (1, .cells [.nilS]), (0, .cells [aNodes []])]]⟩ (.tup []) hN0 := by
  refine callAt_body (fn := Tryz.f126) (s0 := ⟨[0, 1, 3, 4, 5, 6, 7, 8, 9], [.yld 2, .fptr [aNodes []] 0, .undef, .undef, .undef, .undef, .undef, .undef, .undef], [], 118, ⟨3, [] :: [[(2, LBx []), (1, .cells [.nilS]), (0, .cells [aNodes []])]]⟩⟩) Tryz.func126 rfl rfl rfl ?_
  repeat refine wps_seq ?_
  refine wps_region callOK ?_
  simp [ofV, ofV1, mkC_P, writeVar, writeCells, readCells, allSingle, AV.single, getFs, getF, setFs, setF, Heap.get, Heap.set, Heap.new, Heap.kill, killF, pushF, Heap.ready, refs, sliceParts, fillA, replL, lenA]
  repeat refine wps_seq ?_
  refine wps_cond (t := true) rfl (fun _ => ?_) fun h => by cases h
  repeat refine wps_seq ?_
  refine wps_ret ?_
  simp [thenQ, blockQ]
  exact ⟨[], rfl, [(2, 2), (1, 1), (0, 0)], [], by simp [oneOr, fitV, fitL], fit_N0⟩
theorem range0 {T : List (Entry Tryz.prog)} {call : CallE} (hc : call (.fn 126) [.yld 2, .fptr [aNodes []] 0] ⟨3, [[(2, LBx []), (1, .cells [.nilS]), (0, .cells [aNodes []])]]⟩ = some (.tup [], hN0)) :
    evalRange (ctx T) call (.tmp 6) #[7] asL bdL (sL [] ⟨2, [[(1, .cells [.nilS]), (0, .cells [aNodes []])]]⟩) = some (.normal, sL [] ⟨3, [[(1, .cells [.nilS]), (0, .cells [aNodes []])]]⟩) := by
  have hent : entersF (ctx T) 126 = true := by kernel_rfl
  have ho : opnd (sL [] ⟨2, [[(1, .cells [.nilS]), (0, .cells [aNodes []])]]⟩) (.tmp 6) = some (.func (.func 126) [] [.fptr [aNodes []] 0]) := rfl
  unfold evalRange
  rw [ho]
  simp only [Option.bind_some, hent]
  have e : call (.fn 126) ([] ++ [.yld (sL [] ⟨2, [[(1, .cells [.nilS]), (0, .cells [aNodes []])]]⟩).H.n] ++ [.fptr [aNodes []] 0]) ((sL [] ⟨2, [[(1, .cells [.nilS]), (0, .cells [aNodes []])]]⟩).H.new (.loop .ready none (sL [] ⟨2, [[(1, .cells [.nilS]), (0, .cells [aNodes []])]]⟩).ks (sL [] ⟨2, [[(1, .cells [.nilS]), (0, .cells [aNodes []])]]⟩).vs (sL [] ⟨2, [[(1, .cells [.nilS]), (0, .cells [aNodes []])]]⟩).ts (sL [] ⟨2, [[(1, .cells [.nilS]), (0, .cells [aNodes []])]]⟩).sz (#[7] : Array Nat).toList asL bdL)) = _ := hc
  rw [e]
  rfl
theorem c600 {T : List (Entry Tryz.prog)} (hW : findE 91 T = some e91.g) : CallAt (ctx T) 60 [aTree []] ⟨0, []⟩ (aInts []) ⟨0, []⟩ := by
  have hk := fun H => k91 hW [] H
  have hcall := walk0 (T := T)
  simp only [aTree] at hk
  refine callAt_body (fn := Tryz.f60) (s0 := ⟨[0, 1, 2, 3, 4, 6, 7], [aTree [], .undef, .undef, .undef, .undef, .undef, .undef], [], 17, ⟨0, [[]]⟩⟩) Tryz.func60 rfl rfl rfl ?_
  repeat refine wps_seq ?_
  refine wps_region callOK ?_
  simp [ofV, ofV1, mkC_P, writeVar, writeCells, readCells, allSingle, AV.single, getFs, getF, setFs, setF, Heap.get, Heap.set, Heap.new, Heap.kill, killF, pushF, Heap.ready, refs, sliceParts, fillA, replL, aTree]
  repeat refine wps_seq ?_
  refine wps_region callOK ?_
  simp [ofV, ofV1, mkC_P, writeVar, writeCells, readCells, allSingle, AV.single, getFs, getF, setFs, setF, Heap.get, Heap.set, Heap.new, Heap.kill, killF, pushF, Heap.ready, refs, sliceParts, fillA, replL]
  repeat refine wps_seq ?_
  refine wps_region callOK ?_
  simp [ofV, ofV1, mkC_P, writeVar, writeCells, readCells, allSingle, AV.single, getFs, getF, setFs, setF, Heap.get, Heap.set, Heap.new, Heap.kill, killF, pushF, Heap.ready, refs, sliceParts, fillA, replL, hk]
  repeat refine wps_seq ?_
  refine wps_block ?_
  refine wps_range (callOKF [⟨126, _, _, _, _, hcall⟩]) ⟨.normal, sL [] ⟨3, [[(1, .cells [.nilS]), (0, .cells [aNodes []])]]⟩, range0 (T := T) (by simp [callF]), ?_⟩
  simp [sL]
  repeat refine wps_seq ?_
  refine wps_region callOK ?_
  simp [ofV, ofV1, mkC_P, writeVar, writeCells, readCells, allSingle, AV.single, getFs, getF, setFs, setF, Heap.get, Heap.set, Heap.new, Heap.kill, killF, pushF, Heap.ready, refs, sliceParts, fillA, replL]
  repeat refine wps_seq ?_
  refine wps_ret ?_
  simp [retVal, Tryz.f60, oneOr]
  exact ⟨[], [], by simp [fitV, aInts], FitH.empty⟩
theorem c60 {T : List (Entry Tryz.prog)} (hW : findE 91 T = some e91.g) (t : Tr) (ht : smallTr t) : CallAt (ctx T) 60 [aTree t] ⟨0, []⟩ (aInts (orderOf t.length (kidsOf t))) ⟨0, []⟩ := by
  by_cases h : 0 < t.length
  · exact c60p hW t ht.1 h fun x hx => (ht.2.2 x hx).1
  · have h0 : t = [] := List.length_eq_zero_iff.1 (by omega)
    subst h0
    exact c600 hW
noncomputable def e60 : Entry Tryz.prog := mkE 60 [[]] (fun t : Tr => [aTree t]) smallTr (fun t => aInts (orderOf t.length (kidsOf t))) fun t ht => c60 (T := [e91]) rfl t ht
theorem k60 {T : List (Entry Tryz.prog)} (hT : findE 60 T = some e60.g) {t : Tr} (ht : smallTr t) (H : Heap) : callL (ctx T) (.fn 60) [aTree t] H = some (aInts (orderOf t.length (kidsOf t)), H) :=
  mkE_pure hT injT t ht (by simp [pureL]) (by simp [thawL, th_aTree]) H
end Go.Proofs.YtmadcegoionpjaaGreatDoor
namespace Go.Proofs.YtmadcegoionpjaaGreatDoor
set_option linter.unusedSimpArgs false
set_option linter.unusedVariables false
open Go Go.RowKit
set_option maxRecDepth 100000

/-! ### The order's elements -/
theorem kl_inv {n : Nat} {g : Nat → Wk → Wk} {P : Wk → Prop} (hg : ∀ i w, i < n → w.inn.getD i 0 < 0 → P w → P (g i w)) : ∀ (ks : List Int) (w : Wk), P w → P (kl n g ks w)
  | [], w, h => h
  | k :: r, w, h => by
    unfold kl
    split
    · rename_i hk
      exact kl_inv hg r _ (hg k.toNat w (by omega) hk.2.2 h)
    · exact kl_inv hg r w h
theorem vis_inv {n : Nat} {ks : Nat → List Int} {P : Wk → Prop} (hin : ∀ i w, i < n → w.inn.getD i 0 < 0 → P w → P (into i w)) (hout : ∀ i w, P w → P (outof i w)) : ∀ (f i : Nat) (w : Wk), i < n → w.inn.getD i 0 < 0 → P w → P (vis n ks f i w)
  | 0, i, w, _, _, h => h
  | f + 1, i, w, hi, hn, h => by
    unfold vis
    exact hout _ _ (kl_inv (fun i w hi hn h => vis_inv hin hout f i w hi hn h) _ _ (hin i w hi hn h))
structure LOK (n : Nat) (w : Wk) : Prop where
  li : w.inn.length = n
  c0 : 0 ≤ w.c
  rng : ∀ x, x ∈ w.l → 0 ≤ x ∧ x < (n : Int) ∧ 0 ≤ w.inn.getD x.toNat (-1)
  nd : w.l.Nodup
theorem LOK.into {n i : Nat} {w : Wk} (h : LOK n w) (hi : i < n) (hn : w.inn.getD i 0 < 0) : LOK n (into i w) where
  li := by simp [Go.Proofs.YtmadcegoionpjaaGreatDoor.into, h.li]
  c0 := by have := h.c0; simp only [Go.Proofs.YtmadcegoionpjaaGreatDoor.into]; omega
  rng := fun x hx => by
    have hl := h.li
    have hc := h.c0
    simp only [Go.Proofs.YtmadcegoionpjaaGreatDoor.into, List.mem_append, List.mem_singleton] at hx ⊢
    have hset : ∀ j, j < n → (w.inn.set i w.c).getD j (-1) = if i = j then w.c else w.inn.getD j (-1) := fun j hj => by
      simp only [List.getD_eq_getElem?_getD, List.getElem?_set]
      split <;> simp_all
    rcases hx with hx | rfl
    · obtain ⟨h1, h2, h3⟩ := h.rng x hx
      refine ⟨h1, h2, ?_⟩
      rw [hset _ (by omega)]
      split <;> omega
    · refine ⟨by omega, by omega, ?_⟩
      rw [hset _ (by omega)]
      simp [hc]
  nd := by
    simp only [Go.Proofs.YtmadcegoionpjaaGreatDoor.into]
    refine List.nodup_append.2 ⟨h.nd, by simp, ?_⟩
    intro a ha b hb
    simp at hb
    subst hb
    rintro rfl
    have h3 := (h.rng _ ha).2.2
    have hl := h.li
    simp only [List.getD_eq_getElem?_getD, Int.toNat_natCast] at h3 hn
    rw [List.getElem?_eq_getElem (by omega)] at h3 hn
    simp at h3 hn
    omega
theorem LOK.out {n i : Nat} {w : Wk} (h : LOK n w) : LOK n (outof i w) := ⟨h.li, by have := h.c0; simp only [outof]; omega, h.rng, h.nd⟩
theorem order_lok {n : Nat} {ks : Nat → List Int} (hn : 0 < n) : LOK n (vis n ks n 0 (w0 n)) :=
  vis_inv (fun i w hi h1 h2 => h2.into hi h1) (fun i w h => h.out) n 0 (w0 n) hn (by simp [w0, List.getD_eq_getElem?_getD, hn]) ⟨by simp [w0], by simp [w0], by simp [w0], by simp [w0]⟩
theorem order_mem {n : Nat} {ks : Nat → List Int} {x : Int} (h : x ∈ orderOf n ks) : 0 ≤ x ∧ x < (n : Int) := by
  unfold orderOf at h
  split at h
  · simp at h
  · obtain ⟨h1, h2, _⟩ := (order_lok (n := n) (by omega)).rng x h
    exact ⟨h1, h2⟩
theorem order_nodup {n : Nat} {ks : Nat → List Int} : (orderOf n ks).Nodup := by
  unfold orderOf
  split
  · simp
  · exact (order_lok (n := n) (by omega)).nd
theorem order_len {n : Nat} {ks : Nat → List Int} : (orderOf n ks).length ≤ n := by
  unfold orderOf
  split
  · simp
  · rename_i hz
    have hr : negs (w0 n).inn ≤ n := by simp [w0, negs_rep]
    have := (vis_ok (n := n) (ks := ks) n 0 0 (w0 n) (by omega) (w0_ok _) (by omega) (by simp [w0, List.getD_eq_getElem?_getD, Nat.pos_of_ne_zero hz]) hr).1.1.lb
    omega

/-! ### A list of a loop's own, beside rows of values -/
theorem FitH.own1 {k b m' : Nat} {τ : List (Nat × Nat)} {es : List AV} {sz : Nat} {H : Heap} {g : List (Nat × Blk)} (he : Elems sz es) (hb : es ≠ [] → H.get b = some (.cells (flatAV es)))
    (n1 : (((b, k) :: τ).map (·.1)).Nodup) (n2 : (((b, k) :: τ).map (·.2)).Nodup) (n3 : (k :: g.map (·.1)).Nodup) (lt : ∀ x, x ∈ (b, k) :: τ → x.2 < m')
    (src : ∀ e, e ∈ g → ∃ b cs, (b, e.1) ∈ τ ∧ H.get b = some (.cells cs) ∧ e.2 = .cells cs ∧ pureL cs = true) : FitH 0 ((b, k) :: τ) [] H ⟨m', [ownF k es ++ g]⟩ := by
  refine .rows n1 n2 ?_ lt (by simp) (Nat.zero_le _) ?_
  · cases es with
    | nil => rw [List.nodup_cons] at n3; simpa [ownF, Heap.ents] using n3.2
    | cons x r => simpa [ownF, Heap.ents] using n3
  · intro e h
    cases hes : es with
    | nil =>
      rw [hes] at h
      simp [ownF, Heap.ents] at h
      obtain ⟨b', cs, h1, h2⟩ := src e h
      exact ⟨b', cs, List.mem_cons_of_mem _ h1, h2⟩
    | cons x r =>
      rw [hes] at h
      simp only [ownF, Heap.ents, List.flatten_cons, List.flatten_nil, List.append_nil, List.cons_append, List.nil_append, List.mem_cons] at h
      rcases h with rfl | h
      · exact ⟨b, _, List.mem_cons_self, by rw [hb (by simp [hes]), hes], rfl, by rw [← hes]; exact he.pure⟩
      · obtain ⟨b', cs, h1, h2⟩ := src e h
        exact ⟨b', cs, List.mem_cons_of_mem _ h1, h2⟩

/-! ### Nodes by number -/
def nd0 : Nd := ⟨0, 0, [], [], [], 0, []⟩
def nodeAt (t : Tr) (i : Int) : Nd := t.getD i.toNat nd0
theorem nodeAt_get {t : Tr} {i : Nat} (h : i < t.length) : nodeAt t (i : Int) = t[i] := by
  simp [nodeAt, List.getD_eq_getElem?_getD, List.getElem?_eq_getElem h]
theorem nodeAt_mem {t : Tr} {i : Int} (h0 : 0 ≤ i) (h : i < (t.length : Int)) : nodeAt t i ∈ t := by
  obtain ⟨j, rfl⟩ : ∃ j : Nat, i = j := ⟨i.toNat, by omega⟩
  rw [nodeAt_get (by omega)]
  exact List.getElem_mem _
theorem atX {t : Tr} {i : Int} (h0 : 0 ≤ i) (h : i < (t.length : Int)) : indexAddrA Tryz.prog 22 (aNodes t) (.int .i64 i) = some (.fptr (nodeAt t i).cs 0) := by
  obtain ⟨j, rfl⟩ : ∃ j : Nat, i = j := ⟨i.toNat, by omega⟩
  rw [atN (by omega), nodeAt_get (by omega)]
@[simp] theorem sub_cs (n : Nd) : subL 0 7 n.cs = some n.cs := rfl
theorem fold_node (n : Nd) : AV.agg n.cs = aNode n := rfl
/-- what a name tells -/
def namedL (t : Tr) (x : Str) : List Int := if x = [] then [] else (orderOf t.length (kidsOf t)).filter fun i => toldB (nodeAt t i) x
def namedTo (t : Tr) (x : Str) (i : Nat) : List Int := if x = [] then [] else ((orderOf t.length (kidsOf t)).take i).filter fun i => toldB (nodeAt t i) x
theorem namedTo_at {t : Tr} {x : Str} {i : Nat} (h : i < (orderOf t.length (kidsOf t)).length) : namedTo t x (i + 1) = if x ≠ [] ∧ toldB (nodeAt t (orderOf t.length (kidsOf t))[i]) x = true then namedTo t x i ++ [(orderOf t.length (kidsOf t))[i]] else namedTo t x i := by
  unfold namedTo
  by_cases hx : x = []
  · simp [hx]
  · rw [List.take_succ_eq_append_getElem h, List.filter_append]
    by_cases ht : toldB (nodeAt t (orderOf t.length (kidsOf t))[i]) x = true
    · simp [hx, ht]
    · simp [hx, ht]
theorem namedTo_len {t : Tr} {x : Str} {i : Nat} : (namedTo t x i).length ≤ i := by
  unfold namedTo
  split
  · simp
  · refine Nat.le_trans (List.length_filter_le _ _) ?_
    simp; omega
theorem namedTo_end {t : Tr} {x : Str} {i : Nat} (h : (orderOf t.length (kidsOf t)).length ≤ i) : namedTo t x i = namedL t x := by
  unfold namedTo namedL
  rw [List.take_of_length_le h]
theorem ints_app {L : List Int} {v : Int} : ints (L ++ [v]) = ints L ++ [.int .i64 v] := by simp [ints, aInt]
theorem atIx {L : List Int} {i : Nat} (h : i < L.length) : indexAddrA Tryz.prog 25 (aInts L) (.int .i64 (i : Int)) = some (.fptr [.int .i64 L[i]] 0) := atI h
theorem c67 {T : List (Entry Tryz.prog)} (hO : findE 60 T = some e60.g) (hT : findE 97 T = some e97.g) (t : Tr) (ht : smallTr t) (x : Str) :
    CallAt (ctx T) 67 [aTree t, .str x] ⟨0, []⟩ (ownV 0 1 (ints (namedL t x))) ⟨1, [ownF 0 (ints (namedL t x))]⟩ := by
  have hk := fun H => k60 hO ht H
  obtain ⟨L, hL⟩ : ∃ L, L = orderOf t.length (kidsOf t) := ⟨_, rfl⟩
  have hLn : L.length ≤ 50 := by have := order_len (n := t.length) (ks := kidsOf t); have := ht.1; rw [hL]; omega
  have hmem : ∀ y, y ∈ L → 0 ≤ y ∧ y < (t.length : Int) := fun y hy => order_mem (hL ▸ hy)
  rw [← hL] at hk
  simp only [aTree] at hk
  refine callAt_body (fn := Tryz.f67) (s0 := ⟨[0, 1, 2, 4, 5, 7, 9, 10, 11], [aTree t, .str x, .undef, .undef, .undef, .undef, .undef, .undef, .undef], [], 32, ⟨0, [[]]⟩⟩) Tryz.func67 rfl rfl rfl ?_
  repeat refine wps_seq ?_
  refine wps_region callOK ?_
  simp [ofV, ofV1, mkC_P, writeVar, writeCells, readCells, allSingle, AV.single, getFs, getF, setFs, setF, Heap.get, Heap.set, Heap.new, Heap.kill, killF, pushF, Heap.ready, refs, sliceParts, fillA, replL, aTree]
  repeat refine wps_seq ?_
  refine wps_region callOK ?_
  simp [ofV, ofV1, mkC_P, writeVar, writeCells, readCells, allSingle, AV.single, getFs, getF, setFs, setF, Heap.get, Heap.set, Heap.new, Heap.kill, killF, pushF, Heap.ready, refs, sliceParts, fillA, replL]
  repeat refine wps_seq ?_
  refine wps_region callOK ?_
  simp [ofV, ofV1, mkC_P, writeVar, writeCells, readCells, allSingle, AV.single, getFs, getF, setFs, setF, Heap.get, Heap.set, Heap.new, Heap.kill, killF, pushF, Heap.ready, refs, sliceParts, fillA, replL, hk, lenI]
  repeat refine wps_seq ?_
  refine wps_block (wps_loop' (fun i : Nat => (⟨[0, 1, 2, 4, 5, 7, 9, 10, 11], [.undef, .str x, .ptr 0 0, .undef, ownV 1 1 (ints (namedTo t x i)), .undef, aInts L, .int .i64 (L.length : Nat), .int .i64 i], [], 32, ⟨2, [ownF 1 (ints (namedTo t x i)) ++ [(0, .cells [aNodes t])]]⟩⟩ : St))
    (fun i => i ≤ L.length) (fun i => L.length - i) [(1, 1), (0, 0)] [] 0 (Nat.zero_le _)
    ⟨rfl, rfl, rfl, by simp [fitL, fitV, lookN, pureV, namedTo, ownV, aInts], .own1 (el_int _) (by simp [namedTo]) (by simp) (by simp) (by simp) (by simp) (by simp [Heap.get, getFs, getF, pureL])⟩ ?_)
  rintro i hi B hB
  have hlen := namedTo_len (t := t) (x := x) (i := i)
  repeat refine wps_seq ?_
  refine wps_region callOK ?_
  simp [ofV, ofV1, mkC_P, writeVar, writeCells, readCells, allSingle, AV.single, getFs, getF, setFs, setF, Heap.get, Heap.set, Heap.new, Heap.kill, killF, pushF, Heap.ready, refs, sliceParts, fillA, replL]
  repeat refine wps_seq ?_
  refine wps_cond rfl (fun h => ?_) fun h => ?_
  · simp at h
    repeat refine wps_seq ?_
    refine wps_skip ?_
    simp
    repeat refine wps_seq ?_
    refine wps_block ?_
    obtain ⟨y0, y1⟩ := hmem L[i] (List.getElem_mem _)
    have hnx := namedTo_at (t := t) (x := x) (i := i) (hL ▸ h)
    simp only [← hL] at hnx
    have ha := (ht.2.2 _ (nodeAt_mem y0 y1)).2
    repeat refine wps_seq ?_
    refine wps_region callOK ?_
    simp [ofV, ofV1, mkC_P, writeVar, writeCells, readCells, allSingle, AV.single, getFs, getF, setFs, setF, Heap.get, Heap.set, Heap.new, Heap.kill, killF, pushF, Heap.ready, refs, sliceParts, fillA, replL, atI h]
    have hne : (1 : Nat) ≠ 0 := by omega
    by_cases hx : x = []
    · subst hx
      rw [if_neg (by simp)] at hnx
      repeat refine wps_seq ?_
      refine wps_region callOK ?_
      simp [ofV, ofV1, mkC_P, writeVar, writeCells, readCells, allSingle, AV.single, getFs, getF, setFs, setF, Heap.get, Heap.set, Heap.new, Heap.kill, killF, pushF, Heap.ready, refs, sliceParts, fillA, replL, own_skip]
      repeat refine wps_seq ?_
      refine wps_cond (t := false) rfl (fun h => by cases h) fun _ => ?_
      repeat refine wps_seq ?_
      refine wps_skip ?_
      simp
      repeat refine wps_seq ?_
      refine wps_region callOK ?_
      simp [ofV, ofV1, mkC_P, writeVar, writeCells, readCells, allSingle, AV.single, getFs, getF, setFs, setF, Heap.get, Heap.set, Heap.new, Heap.kill, killF, pushF, Heap.ready, refs, sliceParts, fillA, replL, add_one (show i ≤ 1000000000 by omega)]
      refine hB _ (i + 1) (by omega) (by omega) ⟨[(1, 1), (0, 0)], [], rfl, rfl, rfl, by rw [hnx]; simp [fitL, fitV, lookN, fitV_own, pureV, aInts], by rw [hnx]; exact .own1 (el_int _) (fun h => by simp [Heap.get, getFs, own_get h]) (by simp) (by simp) (by simp) (by simp) (by simp [Heap.get, getFs, getF, own_skip, pureL])⟩
    · cases hb : toldB (nodeAt t L[i]) x with
      | false =>
        rw [if_neg (by simp [hb])] at hnx
        repeat refine wps_seq ?_
        refine wps_region callOK ?_
        simp [ofV, ofV1, mkC_P, writeVar, writeCells, readCells, allSingle, AV.single, getFs, getF, setFs, setF, Heap.get, Heap.set, Heap.new, Heap.kill, killF, pushF, Heap.ready, refs, sliceParts, fillA, replL, hx, own_skip, getF, atX y0 y1, fold_node, k97 hT x ha, hb]
        repeat refine wps_seq ?_
        refine wps_cond (t := false) rfl (fun h => by cases h) fun _ => ?_
        repeat refine wps_seq ?_
        refine wps_skip ?_
        simp
        repeat refine wps_seq ?_
        refine wps_region callOK ?_
        simp [ofV, ofV1, mkC_P, writeVar, writeCells, readCells, allSingle, AV.single, getFs, getF, setFs, setF, Heap.get, Heap.set, Heap.new, Heap.kill, killF, pushF, Heap.ready, refs, sliceParts, fillA, replL, add_one (show i ≤ 1000000000 by omega)]
        refine hB _ (i + 1) (by omega) (by omega) ⟨[(1, 1), (0, 0)], [], rfl, rfl, rfl, by rw [hnx]; simp [fitL, fitV, lookN, fitV_own, pureV, aInts], by rw [hnx]; exact .own1 (el_int _) (fun h => by simp [Heap.get, getFs, own_get h]) (by simp) (by simp) (by simp) (by simp) (by simp [Heap.get, getFs, getF, own_skip, pureL])⟩
      | true =>
        rw [if_pos ⟨hx, hb⟩] at hnx
        have happ := own_app1 (P := Tryz.prog) (elem := 3) (b := 1) (t := 2) (m := 3) (es := ints (namedTo t x i)) (cs := [.int .i64 L[i]]) (g := [(0, .cells [aNodes t])]) (fs := []) szT3 byT3 zeT3 rfl (by omega) (by omega) rfl rfl (el_int _) (by simp; omega) (by omega) (by simp) (by simp)
        repeat refine wps_seq ?_
        refine wps_region callOK ?_
        simp [ofV, ofV1, mkC_P, writeVar, writeCells, readCells, allSingle, AV.single, getFs, getF, setFs, setF, Heap.get, Heap.set, Heap.new, Heap.kill, killF, pushF, Heap.ready, refs, sliceParts, fillA, replL, hx, own_skip, getF, atX y0 y1, fold_node, k97 hT x ha, hb]
        repeat refine wps_seq ?_
        refine wps_cond (t := true) rfl (fun _ => ?_) fun h => by cases h
        repeat refine wps_seq ?_
        refine wps_region callOK ?_
        simp [ofV, ofV1, mkC_P, writeVar, writeCells, readCells, allSingle, AV.single, getFs, getF, setFs, setF, Heap.get, Heap.set, Heap.new, Heap.kill, killF, pushF, Heap.ready, refs, sliceParts, fillA, replL, happ]
        repeat refine wps_seq ?_
        refine wps_region callOK ?_
        simp [ofV, ofV1, mkC_P, writeVar, writeCells, readCells, allSingle, AV.single, getFs, getF, setFs, setF, Heap.get, Heap.set, Heap.new, Heap.kill, killF, pushF, Heap.ready, refs, sliceParts, fillA, replL, add_one (show i ≤ 1000000000 by omega)]
        have hnn : ints (namedTo t x (i + 1)) ≠ [] := by rw [hnx]; simp [ints]
        refine hB _ (i + 1) (by omega) (by omega) ⟨[(3, 1), (0, 0)], [], rfl, rfl, rfl, ?_, .own1 (el_int _) (fun _ => ?_) (by simp) (by simp) (by simp) (by simp) (by simp [Heap.get, getFs, getF, pureL])⟩
        · rw [ownV_ne hnn, hnx]; simp [fitL, fitV, lookN, pureV, aInts]
        · rw [hnx, flat_ints, ints_app]; simp [Heap.get, getFs, getF]
  · simp at h
    repeat refine wps_seq ?_
    refine wps_exit ?_
    simp
    repeat refine wps_seq ?_
    refine wps_region callOK ?_
    simp [ofV, ofV1, mkC_P, writeVar, writeCells, readCells, allSingle, AV.single, getFs, getF, setFs, setF, Heap.get, Heap.set, Heap.new, Heap.kill, killF, pushF, Heap.ready, refs, sliceParts, fillA, replL]
    repeat refine wps_seq ?_
    refine wps_ret ?_
    simp [retVal, Tryz.f67, oneOr]
    rw [namedTo_end (by rw [← hL]; omega)]
    exact ⟨[(1, 0)], [], fitV_own (by simp [lookN]), by have := FitH.own1 (k := 0) (b := 1) (m' := 1) (τ := []) (g := []) (H := ⟨2, [ownF 1 (ints (namedL t x)) ++ [(0, .cells [aNodes t])]]⟩) (el_int (namedL t x)) (fun h => by simp [Heap.get, getFs, getF, own_get h]) (by simp) (by simp) (by simp) (by simp) (by simp); simpa using this⟩
end Go.Proofs.YtmadcegoionpjaaGreatDoor
namespace Go.Proofs.YtmadcegoionpjaaGreatDoor
set_option linter.unusedSimpArgs false
set_option linter.unusedVariables false
open Go Go.RowKit
set_option maxRecDepth 100000

theorem injTS (x y : Tr × Str) (h : [aTree x.1, .str x.2] = [aTree y.1, .str y.2]) : x = y := by
  simp at h; exact Prod.ext (inj_aTree h.1) h.2
noncomputable def e67 : Entry Tryz.prog := mkE 67 [[], []] (fun x : Tr × Str => [aTree x.1, .str x.2]) (fun x => smallTr x.1) (fun x => aInts (namedL x.1 x.2)) fun x hx => (c67 (T := [e60, e97]) rfl rfl x.1 hx x.2).froze (el_int _)
theorem k67 {T : List (Entry Tryz.prog)} (hT : findE 67 T = some e67.g) {t : Tr} (ht : smallTr t) (x : Str) (H : Heap) : callL (ctx T) (.fn 67) [aTree t, .str x] H = some (aInts (namedL t x), H) :=
  mkE_pure hT injTS (t, x) ht (by simp [pureL, pureV]) (by simp [thawL, th_aTree]) H
theorem c21 {T : List (Entry Tryz.prog)} (L M : List Int) (hl : L.length ≤ 1000000) : CallAt (ctx T) 21 [aInts L, aInts M] ⟨0, []⟩ (.bool (decide (L = M))) ⟨0, []⟩ := by
  refine callAt_body (fn := Tryz.f21) (s0 := ⟨[0, 1, 4, 5, 12, 13], [aInts L, aInts M, .undef, .undef, .undef, .undef], [], 26, ⟨0, [[]]⟩⟩) Tryz.func21 rfl rfl rfl ?_
  repeat refine wps_seq ?_
  refine wps_region callOK ?_
  simp [ofV, ofV1, mkC_P, writeVar, writeCells, readCells, allSingle, AV.single, getFs, getF, setFs, setF, Heap.get, Heap.set, Heap.new, Heap.kill, killF, pushF, Heap.ready, refs, sliceParts, fillA, replL]
  by_cases hlen : L.length = M.length
  · repeat refine wps_seq ?_
    refine wps_region callOK ?_
    simp [ofV, ofV1, mkC_P, writeVar, writeCells, readCells, allSingle, AV.single, getFs, getF, setFs, setF, Heap.get, Heap.set, Heap.new, Heap.kill, killF, pushF, Heap.ready, refs, sliceParts, fillA, replL, lenI, hlen]
    repeat refine wps_seq ?_
    refine wps_cond (t := false) rfl (fun h => by cases h) fun _ => ?_
    repeat refine wps_seq ?_
    refine wps_skip ?_
    simp
    repeat refine wps_seq ?_
    refine wps_region callOK ?_
    simp [ofV, ofV1, mkC_P, writeVar, writeCells, readCells, allSingle, AV.single, getFs, getF, setFs, setF, Heap.get, Heap.set, Heap.new, Heap.kill, killF, pushF, Heap.ready, refs, sliceParts, fillA, replL, lenI]
    repeat refine wps_seq ?_
    refine wps_block (wps_loop' (fun i : Nat => (⟨[0, 1, 4, 5, 12, 13], [aInts L, aInts M, .undef, .undef, .int .i64 (L.length : Nat), .int .i64 i], [], 26, ⟨0, [[]]⟩⟩ : St))
      (fun i => i ≤ L.length ∧ L.take i = M.take i) (fun i => L.length - i) [] [] 0 ⟨Nat.zero_le _, by simp⟩ ⟨rfl, rfl, rfl, by simp [fitL, fitV, pureV, pureL, aInts, hlen], FitH.nothing⟩ ?_)
    rintro i ⟨hi, he⟩ B hB
    repeat refine wps_seq ?_
    refine wps_region callOK ?_
    simp [ofV, ofV1, mkC_P, writeVar, writeCells, readCells, allSingle, AV.single, getFs, getF, setFs, setF, Heap.get, Heap.set, Heap.new, Heap.kill, killF, pushF, Heap.ready, refs, sliceParts, fillA, replL]
    repeat refine wps_seq ?_
    refine wps_cond rfl (fun h => ?_) fun h => ?_
    · simp at h
      repeat refine wps_seq ?_
      refine wps_skip ?_
      simp
      repeat refine wps_seq ?_
      refine wps_block ?_
      repeat refine wps_seq ?_
      refine wps_region callOK ?_
      simp [ofV, ofV1, mkC_P, writeVar, writeCells, readCells, allSingle, AV.single, getFs, getF, setFs, setF, Heap.get, Heap.set, Heap.new, Heap.kill, killF, pushF, Heap.ready, refs, sliceParts, fillA, replL]
      by_cases hv : L[i] = M[i]'(by omega)
      · repeat refine wps_seq ?_
        refine wps_drawK mixed callOK (by decide +kernel) (by decide +kernel) ?_
        simp [ofV, ofV1, mkC_P, writeVar, writeCells, readCells, allSingle, AV.single, getFs, getF, setFs, setF, Heap.get, Heap.set, Heap.new, Heap.kill, killF, pushF, Heap.ready, refs, sliceParts, fillA, replL, evalK_c, evalK_nil, thenK_some, atI h, atI (show i < M.length by omega), hv]
        repeat refine wps_seq ?_
        refine wps_cond (t := false) rfl (fun h => by cases h) fun _ => ?_
        repeat refine wps_seq ?_
        refine wps_skip ?_
        simp
        repeat refine wps_seq ?_
        refine wps_region callOK ?_
        simp [ofV, ofV1, mkC_P, writeVar, writeCells, readCells, allSingle, AV.single, getFs, getF, setFs, setF, Heap.get, Heap.set, Heap.new, Heap.kill, killF, pushF, Heap.ready, refs, sliceParts, fillA, replL, add_one (show i ≤ 1000000000 by omega)]
        exact hB _ (i + 1) (by omega) ⟨by omega, by rw [List.take_succ_eq_append_getElem h, List.take_succ_eq_append_getElem (show i < M.length by omega), he, hv]⟩ ⟨[], [], ⟨rfl, rfl, rfl, by simp [fitL, fitV, pureV, pureL, aInts], FitH.nothing⟩⟩
      · repeat refine wps_seq ?_
        refine wps_drawK mixed callOK (by decide +kernel) (by decide +kernel) ?_
        simp [ofV, ofV1, mkC_P, writeVar, writeCells, readCells, allSingle, AV.single, getFs, getF, setFs, setF, Heap.get, Heap.set, Heap.new, Heap.kill, killF, pushF, Heap.ready, refs, sliceParts, fillA, replL, evalK_c, evalK_nil, thenK_some, atI h, atI (show i < M.length by omega), hv]
        repeat refine wps_seq ?_
        refine wps_cond (t := true) rfl (fun _ => ?_) fun h => by cases h
        repeat refine wps_seq ?_
        refine wps_region callOK ?_
        simp [ofV, ofV1, mkC_P, writeVar, writeCells, readCells, allSingle, AV.single, getFs, getF, setFs, setF, Heap.get, Heap.set, Heap.new, Heap.kill, killF, pushF, Heap.ready, refs, sliceParts, fillA, replL]
        repeat refine wps_seq ?_
        refine wps_ret ?_
        simp [retVal, Tryz.f21, oneOr, thenQ, blockQ]
        exact ends_pure rfl (by simp; rintro rfl; exact hv rfl)
    · simp at h
      repeat refine wps_seq ?_
      refine wps_exit ?_
      simp
      repeat refine wps_seq ?_
      refine wps_region callOK ?_
      simp [ofV, ofV1, mkC_P, writeVar, writeCells, readCells, allSingle, AV.single, getFs, getF, setFs, setF, Heap.get, Heap.set, Heap.new, Heap.kill, killF, pushF, Heap.ready, refs, sliceParts, fillA, replL]
      repeat refine wps_seq ?_
      refine wps_ret ?_
      simp [retVal, Tryz.f21, oneOr, thenQ, blockQ]
      exact ends_pure rfl (by rw [List.take_of_length_le (by omega), List.take_of_length_le (by omega)] at he; simp [he])
  · have hlen' : ¬ (L.length : Int) = (M.length : Int) := by omega
    repeat refine wps_seq ?_
    refine wps_region callOK ?_
    simp [ofV, ofV1, mkC_P, writeVar, writeCells, readCells, allSingle, AV.single, getFs, getF, setFs, setF, Heap.get, Heap.set, Heap.new, Heap.kill, killF, pushF, Heap.ready, refs, sliceParts, fillA, replL, lenI, hlen']
    repeat refine wps_seq ?_
    refine wps_cond (t := true) (by simp [opnd, St.get, lookK_c, look_c, hlen']) (fun _ => ?_) fun h => by cases h
    repeat refine wps_seq ?_
    refine wps_region callOK ?_
    simp [ofV, ofV1, mkC_P, writeVar, writeCells, readCells, allSingle, AV.single, getFs, getF, setFs, setF, Heap.get, Heap.set, Heap.new, Heap.kill, killF, pushF, Heap.ready, refs, sliceParts, fillA, replL]
    repeat refine wps_seq ?_
    refine wps_ret ?_
    simp [retVal, Tryz.f21, oneOr, thenQ, blockQ]
    exact ends_pure rfl (by simp; rintro rfl; exact hlen rfl)
theorem injII (x y : List Int × List Int) (h : [aInts x.1, aInts x.2] = [aInts y.1, aInts y.2]) : x = y := by
  simp only [List.cons.injEq] at h
  exact Prod.ext (inj_aInts h.1) (inj_aInts h.2.1)
noncomputable def e21 : Entry Tryz.prog := mkE 21 [[1], [1]] (fun x : List Int × List Int => [aInts x.1, aInts x.2]) (fun x => x.1.length ≤ 1000000) (fun x => .bool (decide (x.1 = x.2))) fun x hx => c21 (T := []) x.1 x.2 hx
theorem k21 {T : List (Entry Tryz.prog)} (hT : findE 21 T = some e21.g) {L M : List Int} (hl : L.length ≤ 1000000) (H : Heap) : callL (ctx T) (.fn 21) [aInts L, aInts M] H = some (.bool (decide (L = M)), H) :=
  mkE_scalar hT injII (L, M) hl rfl (by simp [aInts])
end Go.Proofs.YtmadcegoionpjaaGreatDoor
namespace Go.Proofs.YtmadcegoionpjaaGreatDoor
set_option linter.unusedSimpArgs false
set_option linter.unusedVariables false
open Go Go.RowKit
set_option maxRecDepth 100000

def fewAt (a : At1) : Bool := decide (a.1.length ≤ 40 ∧ a.2.length ≤ 150)
def fewAts (L : List At1) : Bool := decide (L.length ≤ 14) && L.all fewAt
def fewNd (n : Nd) : Bool := decide (n.name.length ≤ 40) && (decide (n.data.length ≤ 300) && (decide (n.kids.length ≤ 60) && fewAts n.attrs))
def fewTr (t : Tr) (m : Int) : Bool := decide ((t.length : Int) ≤ m) && t.all fewNd
theorem c46 {T : List (Entry Tryz.prog)} (L : List At1) : CallAt (ctx T) 46 [aAttrs L] ⟨0, []⟩ (.bool (fewAts L)) ⟨0, []⟩ := by
  refine callAt_body (fn := Tryz.f46) (s0 := ⟨[0, 2, 4, 8, 9, 10], [aAttrs L, .undef, .undef, .undef, .undef, .undef], [], 25, ⟨0, [[]]⟩⟩) Tryz.func46 rfl rfl rfl ?_
  repeat refine wps_seq ?_
  refine wps_region callOK ?_
  simp [ofV, ofV1, mkC_P, writeVar, writeCells, readCells, allSingle, AV.single, getFs, getF, setFs, setF, Heap.get, Heap.set, Heap.new, Heap.kill, killF, pushF, Heap.ready, refs, sliceParts, fillA, replL]
  by_cases hl : 14 < L.length
  · have hl' : (14 : Int) < (L.length : Int) := by omega
    repeat refine wps_seq ?_
    refine wps_region callOK ?_
    simp [ofV, ofV1, mkC_P, writeVar, writeCells, readCells, allSingle, AV.single, getFs, getF, setFs, setF, Heap.get, Heap.set, Heap.new, Heap.kill, killF, pushF, Heap.ready, refs, sliceParts, fillA, replL, lenA1, hl']
    repeat refine wps_seq ?_
    refine wps_cond (t := true) rfl (fun _ => ?_) fun h => by cases h
    repeat refine wps_seq ?_
    refine wps_region callOK ?_
    simp [ofV, ofV1, mkC_P, writeVar, writeCells, readCells, allSingle, AV.single, getFs, getF, setFs, setF, Heap.get, Heap.set, Heap.new, Heap.kill, killF, pushF, Heap.ready, refs, sliceParts, fillA, replL]
    repeat refine wps_seq ?_
    refine wps_ret ?_
    simp [retVal, Tryz.f46, oneOr, thenQ, blockQ]
    exact ends_pure rfl (by simp [fewAts]; omega)
  · have hl' : ¬ (14 : Int) < (L.length : Int) := by omega
    repeat refine wps_seq ?_
    refine wps_region callOK ?_
    simp [ofV, ofV1, mkC_P, writeVar, writeCells, readCells, allSingle, AV.single, getFs, getF, setFs, setF, Heap.get, Heap.set, Heap.new, Heap.kill, killF, pushF, Heap.ready, refs, sliceParts, fillA, replL, lenA1, hl']
    repeat refine wps_seq ?_
    refine wps_cond (t := false) rfl (fun h => by cases h) fun _ => ?_
    repeat refine wps_seq ?_
    refine wps_skip ?_
    simp
    repeat refine wps_seq ?_
    refine wps_region callOK ?_
    simp [ofV, ofV1, mkC_P, writeVar, writeCells, readCells, allSingle, AV.single, getFs, getF, setFs, setF, Heap.get, Heap.set, Heap.new, Heap.kill, killF, pushF, Heap.ready, refs, sliceParts, fillA, replL, lenA1]
    repeat refine wps_seq ?_
    refine wps_block (wps_loop' (fun i : Nat => (⟨[0, 2, 4, 8, 9, 10], [aAttrs L, .undef, .undef, aAttrs L, .int .i64 (L.length : Nat), .int .i64 i], [], 25, ⟨0, [[]]⟩⟩ : St))
      (fun i => i ≤ L.length ∧ L.all fewAt = (L.drop i).all fewAt) (fun i => L.length - i) [] [] 0 ⟨Nat.zero_le _, by simp⟩ ⟨rfl, rfl, rfl, by simp [fitL, fitV, pureV, pureL, aAttrs], FitH.nothing⟩ ?_)
    rintro i ⟨hi, he⟩ B hB
    repeat refine wps_seq ?_
    refine wps_region callOK ?_
    simp [ofV, ofV1, mkC_P, writeVar, writeCells, readCells, allSingle, AV.single, getFs, getF, setFs, setF, Heap.get, Heap.set, Heap.new, Heap.kill, killF, pushF, Heap.ready, refs, sliceParts, fillA, replL]
    repeat refine wps_seq ?_
    refine wps_cond rfl (fun h => ?_) fun h => ?_
    · simp at h
      rw [List.drop_eq_getElem_cons h, List.all_cons] at he
      repeat refine wps_seq ?_
      refine wps_skip ?_
      simp
      repeat refine wps_seq ?_
      refine wps_block ?_
      repeat refine wps_seq ?_
      refine wps_region callOK ?_
      simp [ofV, ofV1, mkC_P, writeVar, writeCells, readCells, allSingle, AV.single, getFs, getF, setFs, setF, Heap.get, Heap.set, Heap.new, Heap.kill, killF, pushF, Heap.ready, refs, sliceParts, fillA, replL, atA h, rdA1]
      by_cases h1 : 40 < L[i].1.length
      · have h1' : (40 : Int) < (L[i].1.length : Int) := by omega
        have hf : fewAt L[i] = false := by simp [fewAt]; omega
        repeat refine wps_seq ?_
        refine wps_region callOK ?_
        simp [ofV, ofV1, mkC_P, writeVar, writeCells, readCells, allSingle, AV.single, getFs, getF, setFs, setF, Heap.get, Heap.set, Heap.new, Heap.kill, killF, pushF, Heap.ready, refs, sliceParts, fillA, replL, h1']
        repeat refine wps_seq ?_
        refine wps_cond (t := true) rfl (fun _ => ?_) fun h => by cases h
        repeat refine wps_seq ?_
        refine wps_region callOK ?_
        simp [ofV, ofV1, mkC_P, writeVar, writeCells, readCells, allSingle, AV.single, getFs, getF, setFs, setF, Heap.get, Heap.set, Heap.new, Heap.kill, killF, pushF, Heap.ready, refs, sliceParts, fillA, replL]
        repeat refine wps_seq ?_
        refine wps_ret ?_
        simp [retVal, Tryz.f46, oneOr, thenQ, blockQ]
        exact ends_pure rfl (by simp only [fewAts, he, hf]; simp)
      · have h1' : ¬ (40 : Int) < (L[i].1.length : Int) := by omega
        by_cases h2 : 150 < L[i].2.length
        · have h2' : (150 : Int) < (L[i].2.length : Int) := by omega
          have hf : fewAt L[i] = false := by simp [fewAt]; omega
          repeat refine wps_seq ?_
          refine wps_region callOK ?_
          simp [ofV, ofV1, mkC_P, writeVar, writeCells, readCells, allSingle, AV.single, getFs, getF, setFs, setF, Heap.get, Heap.set, Heap.new, Heap.kill, killF, pushF, Heap.ready, refs, sliceParts, fillA, replL, h1', h2']
          repeat refine wps_seq ?_
          refine wps_cond (t := true) rfl (fun _ => ?_) fun h => by cases h
          repeat refine wps_seq ?_
          refine wps_region callOK ?_
          simp [ofV, ofV1, mkC_P, writeVar, writeCells, readCells, allSingle, AV.single, getFs, getF, setFs, setF, Heap.get, Heap.set, Heap.new, Heap.kill, killF, pushF, Heap.ready, refs, sliceParts, fillA, replL]
          repeat refine wps_seq ?_
          refine wps_ret ?_
          simp [retVal, Tryz.f46, oneOr, thenQ, blockQ]
          exact ends_pure rfl (by simp only [fewAts, he, hf]; simp)
        · have h2' : ¬ (150 : Int) < (L[i].2.length : Int) := by omega
          have hf : fewAt L[i] = true := by simp [fewAt]; omega
          repeat refine wps_seq ?_
          refine wps_region callOK ?_
          simp [ofV, ofV1, mkC_P, writeVar, writeCells, readCells, allSingle, AV.single, getFs, getF, setFs, setF, Heap.get, Heap.set, Heap.new, Heap.kill, killF, pushF, Heap.ready, refs, sliceParts, fillA, replL, h1', h2']
          repeat refine wps_seq ?_
          refine wps_cond (t := false) rfl (fun h => by cases h) fun _ => ?_
          repeat refine wps_seq ?_
          refine wps_skip ?_
          simp
          repeat refine wps_seq ?_
          refine wps_region callOK ?_
          simp [ofV, ofV1, mkC_P, writeVar, writeCells, readCells, allSingle, AV.single, getFs, getF, setFs, setF, Heap.get, Heap.set, Heap.new, Heap.kill, killF, pushF, Heap.ready, refs, sliceParts, fillA, replL, add_one (show i ≤ 1000000000 by omega)]
          refine hB _ (i + 1) (by omega) ⟨by omega, by rw [he, hf, Bool.true_and]⟩ ⟨[], [], ⟨rfl, rfl, rfl, by simp [fitL, fitV, pureV, pureL, aAttrs], FitH.nothing⟩⟩
    · simp at h
      rw [List.drop_eq_nil_of_le h] at he
      repeat refine wps_seq ?_
      refine wps_exit ?_
      simp
      repeat refine wps_seq ?_
      refine wps_region callOK ?_
      simp [ofV, ofV1, mkC_P, writeVar, writeCells, readCells, allSingle, AV.single, getFs, getF, setFs, setF, Heap.get, Heap.set, Heap.new, Heap.kill, killF, pushF, Heap.ready, refs, sliceParts, fillA, replL]
      repeat refine wps_seq ?_
      refine wps_ret ?_
      simp [retVal, Tryz.f46, oneOr, thenQ, blockQ]
      exact ends_pure rfl (by simp only [fewAts, he]; simp; omega)
noncomputable def e46 : Entry Tryz.prog := mkE 46 [[2]] (fun x : List At1 => [aAttrs x]) (fun _ => True) (fun x => .bool (fewAts x)) fun x _ => c46 (T := []) x
theorem injAs (x y : List At1) (h : [aAttrs x] = [aAttrs y]) : x = y := by simp only [List.cons.injEq] at h; exact inj_aAttrs h.1
theorem k46 {T : List (Entry Tryz.prog)} (hT : findE 46 T = some e46.g) (L : List At1) (H : Heap) : callL (ctx T) (.fn 46) [aAttrs L] H = some (.bool (fewAts L), H) :=
  mkE_scalar hT injAs L trivial rfl (by simp [th_aAttrs])
theorem c25 {T : List (Entry Tryz.prog)} (hA : findE 46 T = some e46.g) (n : Nd) : CallAt (ctx T) 25 [aNode n] ⟨0, []⟩ (.bool (fewNd n)) ⟨0, []⟩ := by
  have hk := fun H => k46 hA n.attrs H
  obtain ⟨kind, space, name, attrs, data, up, kids⟩ := n
  simp only [aAttrs] at hk
  rcases Bool.eq_false_or_eq_true (decide ((name.length : Int) ≤ 40)) with b1 | b1 <;> rcases Bool.eq_false_or_eq_true (decide ((data.length : Int) ≤ 300)) with b2 | b2 <;> rcases Bool.eq_false_or_eq_true (decide ((kids.length : Int) ≤ 60)) with b3 | b3
  all_goals
    have c1 := b1
    have c2 := b2
    have c3 := b3
    simp only [decide_eq_true_eq, decide_eq_false_iff_not] at c1 c2 c3
    refine callAt_body (fn := Tryz.f25) (s0 := ⟨[0, 1, 2], [aNode ⟨kind, space, name, attrs, data, up, kids⟩, .undef, .undef], [], 24, ⟨0, [[]]⟩⟩) Tryz.func25 rfl rfl rfl ?_
    (repeat (first
      | (refine wps_seq ?_)
      | (refine wps_block ?_)
      | (refine wps_label ?_; simp only [thenQ, blockQ])
      | ((refine wps_region callOK ?_); simp [ofV, ofV1, mkC_P, writeVar, writeCells, readCells, allSingle, AV.single, getFs, getF, setFs, setF, Heap.get, Heap.set, Heap.new, Heap.kill, killF, pushF, Heap.ready, refs, sliceParts, fillA, replL, aNode, Nd.cs, aInt, aAttrs, aInts, lenA, c1, c2, c3, hk])
      | (refine wps_cond (t := true) rfl (fun _ => ?_) (fun h => by cases h))
      | (refine wps_cond (t := false) rfl (fun h => by cases h) (fun _ => ?_))
      | ((refine wps_skip ?_); simp only [thenQ, blockQ])
      | ((refine wps_exit ?_); simp [thenQ, blockQ])))
    have e1 : (name.length ≤ 40) ↔ ((name.length : Int) ≤ 40) := by omega
    have e2 : (data.length ≤ 300) ↔ ((data.length : Int) ≤ 300) := by omega
    have e3 : (kids.length ≤ 60) ↔ ((kids.length : Int) ≤ 60) := by omega
    repeat refine wps_seq ?_
    refine wps_ret ?_
    simp [retVal, Tryz.f25, oneOr, thenQ, blockQ]
    exact ends_pure rfl (by simp only [fewNd, e1, e2, e3, b1, b2, b3]; simp)
theorem injN1 (x y : Nd) (h : [aNode x] = [aNode y]) : x = y := by simp only [List.cons.injEq] at h; exact inj_aNode h.1
noncomputable def e25 : Entry Tryz.prog := mkE 25 [[]] (fun x : Nd => [aNode x]) (fun _ => True) (fun x => .bool (fewNd x)) fun x _ => c25 (T := [e46]) rfl x
theorem k25 {T : List (Entry Tryz.prog)} (hT : findE 25 T = some e25.g) (n : Nd) (H : Heap) : callL (ctx T) (.fn 25) [aNode n] H = some (.bool (fewNd n), H) :=
  mkE_scalar hT injN1 n trivial rfl (by simp [th_aNode])
@[simp] theorem len_cs (n : Nd) : n.cs.length = 7 := rfl
@[simp] theorem sng_cs (n : Nd) : allSingle n.cs = true := rfl
theorem refs_cs (n : Nd) : n.cs.flatMap (refs 6) = [] := rfl
@[simp] theorem lay_cs (n : Nd) (a b c d e f g : AV) : overL n.cs [a, b, c, d, e, f, g] = some n.cs := rfl
@[simp 5000] theorem ready_cs (H : Heap) (b : Nat) (n : Nd) : H.ready b n.cs = H := rfl
theorem c7 {T : List (Entry Tryz.prog)} (hN : findE 25 T = some e25.g) (t : Tr) (m : Int) (hl : m ≤ 1000000) : CallAt (ctx T) 7 [aTree t, .int .i64 m] ⟨0, []⟩ (.bool (fewTr t m)) ⟨0, []⟩ := by
  refine callAt_body (fn := Tryz.f7) (s0 := ⟨[0, 1, 2, 4, 6, 13, 14, 15], [aTree t, .int .i64 m, .undef, .undef, .undef, .undef, .undef, .undef], [], 23, ⟨0, [[]]⟩⟩) Tryz.func7 rfl rfl rfl ?_
  repeat refine wps_seq ?_
  refine wps_region callOK ?_
  simp [ofV, ofV1, mkC_P, writeVar, writeCells, readCells, allSingle, AV.single, getFs, getF, setFs, setF, Heap.get, Heap.set, Heap.new, Heap.kill, killF, pushF, Heap.ready, refs, sliceParts, fillA, replL, aTree]
  by_cases hm : m < (t.length : Int)
  · repeat refine wps_seq ?_
    refine wps_region callOK ?_
    simp [ofV, ofV1, mkC_P, writeVar, writeCells, readCells, allSingle, AV.single, getFs, getF, setFs, setF, Heap.get, Heap.set, Heap.new, Heap.kill, killF, pushF, Heap.ready, refs, sliceParts, fillA, replL, lenN, hm]
    repeat refine wps_seq ?_
    refine wps_cond (t := true) rfl (fun _ => ?_) fun h => by cases h
    repeat refine wps_seq ?_
    refine wps_region callOK ?_
    simp [ofV, ofV1, mkC_P, writeVar, writeCells, readCells, allSingle, AV.single, getFs, getF, setFs, setF, Heap.get, Heap.set, Heap.new, Heap.kill, killF, pushF, Heap.ready, refs, sliceParts, fillA, replL]
    repeat refine wps_seq ?_
    refine wps_ret ?_
    simp [retVal, Tryz.f7, oneOr, thenQ, blockQ]
    exact ends_pure rfl (by simp [fewTr]; omega)
  · repeat refine wps_seq ?_
    refine wps_region callOK ?_
    simp [ofV, ofV1, mkC_P, writeVar, writeCells, readCells, allSingle, AV.single, getFs, getF, setFs, setF, Heap.get, Heap.set, Heap.new, Heap.kill, killF, pushF, Heap.ready, refs, sliceParts, fillA, replL, lenN, hm]
    repeat refine wps_seq ?_
    refine wps_cond (t := false) rfl (fun h => by cases h) fun _ => ?_
    repeat refine wps_seq ?_
    refine wps_skip ?_
    simp
    repeat refine wps_seq ?_
    refine wps_region callOK ?_
    simp [ofV, ofV1, mkC_P, writeVar, writeCells, readCells, allSingle, AV.single, getFs, getF, setFs, setF, Heap.get, Heap.set, Heap.new, Heap.kill, killF, pushF, Heap.ready, refs, sliceParts, fillA, replL, lenN]
    repeat refine wps_seq ?_
    refine wps_block (wps_loop' (fun i : Nat => (⟨[0, 1, 2, 4, 6, 13, 14, 15], [.undef, .int .i64 m, .undef, .undef, .undef, aNodes t, .int .i64 (t.length : Nat), .int .i64 i], [], 23, ⟨0, [[]]⟩⟩ : St))
      (fun i => i ≤ t.length ∧ t.all fewNd = (t.drop i).all fewNd) (fun i => t.length - i) [] [] 0 ⟨Nat.zero_le _, by simp⟩ ⟨rfl, rfl, rfl, by simp [fitL, fitV, pureV, pureL, aNodes], FitH.nothing⟩ ?_)
    rintro i ⟨hi, he⟩ B hB
    repeat refine wps_seq ?_
    refine wps_region callOK ?_
    simp [ofV, ofV1, mkC_P, writeVar, writeCells, readCells, allSingle, AV.single, getFs, getF, setFs, setF, Heap.get, Heap.set, Heap.new, Heap.kill, killF, pushF, Heap.ready, refs, sliceParts, fillA, replL]
    repeat refine wps_seq ?_
    refine wps_cond rfl (fun h => ?_) fun h => ?_
    · simp at h
      rw [List.drop_eq_getElem_cons h, List.all_cons] at he
      repeat refine wps_seq ?_
      refine wps_skip ?_
      simp
      repeat refine wps_seq ?_
      refine wps_block ?_
      repeat refine wps_seq ?_
      refine wps_region callOK ?_
      simp [ofV, ofV1, mkC_P, writeVar, writeCells, readCells, allSingle, AV.single, getFs, getF, setFs, setF, Heap.get, Heap.set, Heap.new, Heap.kill, killF, pushF, sliceParts, fillA, replL, atN h]
      cases hf : fewNd t[i] with
      | false =>
        repeat refine wps_seq ?_
        refine wps_region callOK ?_
        simp [ofV, ofV1, mkC_P, writeVar, writeCells, readCells, allSingle, AV.single, getFs, getF, setFs, setF, Heap.get, Heap.set, Heap.new, Heap.kill, killF, pushF, Heap.ready, refs, sliceParts, fillA, replL, fold_node, k25 hN, hf]
        repeat refine wps_seq ?_
        refine wps_cond (t := true) rfl (fun _ => ?_) fun h => by cases h
        repeat refine wps_seq ?_
        refine wps_region callOK ?_
        simp [ofV, ofV1, mkC_P, writeVar, writeCells, readCells, allSingle, AV.single, getFs, getF, setFs, setF, Heap.get, Heap.set, Heap.new, Heap.kill, killF, pushF, Heap.ready, refs, sliceParts, fillA, replL]
        repeat refine wps_seq ?_
        refine wps_ret ?_
        simp [retVal, Tryz.f7, oneOr, thenQ, blockQ]
        exact ends_pure rfl (by simp only [fewTr, he, hf]; simp)
      | true =>
        repeat refine wps_seq ?_
        refine wps_region callOK ?_
        simp [ofV, ofV1, mkC_P, writeVar, writeCells, readCells, allSingle, AV.single, getFs, getF, setFs, setF, Heap.get, Heap.set, Heap.new, Heap.kill, killF, pushF, Heap.ready, refs, sliceParts, fillA, replL, fold_node, k25 hN, hf]
        repeat refine wps_seq ?_
        refine wps_cond (t := false) rfl (fun h => by cases h) fun _ => ?_
        repeat refine wps_seq ?_
        refine wps_skip ?_
        simp
        repeat refine wps_seq ?_
        refine wps_region callOK ?_
        simp [ofV, ofV1, mkC_P, writeVar, writeCells, readCells, allSingle, AV.single, getFs, getF, setFs, setF, Heap.get, Heap.set, Heap.new, Heap.kill, killF, pushF, Heap.ready, refs, sliceParts, fillA, replL, add_one (show i ≤ 1000000000 by omega)]
        refine hB _ (i + 1) (by omega) ⟨by omega, by rw [he, hf, Bool.true_and]⟩ ⟨[], [], ⟨rfl, rfl, rfl, by simp [fitL, fitV, pureV, pureL, aNodes], FitH.nothing⟩⟩
    · simp at h
      rw [List.drop_eq_nil_of_le h] at he
      repeat refine wps_seq ?_
      refine wps_exit ?_
      simp
      repeat refine wps_seq ?_
      refine wps_region callOK ?_
      simp [ofV, ofV1, mkC_P, writeVar, writeCells, readCells, allSingle, AV.single, getFs, getF, setFs, setF, Heap.get, Heap.set, Heap.new, Heap.kill, killF, pushF, Heap.ready, refs, sliceParts, fillA, replL]
      repeat refine wps_seq ?_
      refine wps_ret ?_
      simp [retVal, Tryz.f7, oneOr, thenQ, blockQ]
      exact ends_pure rfl (by simp only [fewTr, he]; simp; omega)
theorem injTI (x y : Tr × Int) (h : [aTree x.1, .int .i64 x.2] = [aTree y.1, .int .i64 y.2]) : x = y := by
  simp at h; exact Prod.ext (inj_aTree h.1) h.2
noncomputable def e7 : Entry Tryz.prog := mkE 7 [[], []] (fun x : Tr × Int => [aTree x.1, .int .i64 x.2]) (fun x => x.2 ≤ 1000000) (fun x => .bool (fewTr x.1 x.2)) fun x hx => c7 (T := [e25]) rfl x.1 x.2 hx
theorem k7 {T : List (Entry Tryz.prog)} (hT : findE 7 T = some e7.g) (t : Tr) {m : Int} (hm : m ≤ 1000000) (H : Heap) : callL (ctx T) (.fn 7) [aTree t, .int .i64 m] H = some (.bool (fewTr t m), H) :=
  mkE_scalar hT injTI (t, m) hm rfl (by simp [th_aTree])
theorem few_small {t : Tr} {m : Int} (hm : m ≤ 50) (h : fewTr t m = true) : smallTr t := by
  simp only [fewTr, Bool.and_eq_true, decide_eq_true_eq, List.all_eq_true] at h
  refine ⟨by omega, by omega, fun x hx => ?_⟩
  have := h.2 x hx
  simp only [fewNd, fewAts, Bool.and_eq_true, decide_eq_true_eq] at this
  omega
end Go.Proofs.YtmadcegoionpjaaGreatDoor
namespace Go.Proofs.YtmadcegoionpjaaGreatDoor
set_option linter.unusedSimpArgs false
set_option linter.unusedVariables false
open Go Go.RowKit Go.ChangeShapes Go.WideShapes Go.ChangeAt
set_option maxRecDepth 100000

theorem shape_slice {α : Type} {n : Nat} {t e : TypeId} {enc : α → AV} {ag : Bool} (hu : Tryz.prog.underlying t = some (.slice e)) (hag : aggT Tryz.prog e = some ag) (h : ∀ cs x, ShapeT Tryz.prog n e cs → wrapA ag cs = some x → ∃ a, x = enc a) {qs : List AV} (hs : ShapeT Tryz.prog (n + 1) t qs) :
    ∃ L : List α, qs = [.fslc (Tryz.prog.cellsOf e) (L.map enc)] := by
  unfold ShapeT at hs
  simp only [hu] at hs
  obtain ⟨es, rfl, _, hes⟩ := hs
  have key : ∀ l : List AV, (∀ x, x ∈ l → ∃ ag cs, aggT Tryz.prog e = some ag ∧ wrapA ag cs = some x ∧ ShapeT Tryz.prog n e cs) → ∃ L : List α, l = L.map enc := by
    intro l
    induction l with
    | nil => intro _; exact ⟨[], rfl⟩
    | cons x r ih =>
      intro hx
      obtain ⟨ag', cs, h1, h2, h3⟩ := hx x (by simp)
      rw [hag, Option.some.injEq] at h1
      subst h1
      obtain ⟨a, ha⟩ := h cs x h3 h2
      obtain ⟨L, hL⟩ := ih fun y hy => hx y (by simp [hy])
      exact ⟨a :: L, by rw [ha, hL]; rfl⟩
  obtain ⟨L, rfl⟩ := key es hes
  exact ⟨L, rfl⟩
theorem shape_str {n : Nat} {qs : List AV} (h : ShapeT Tryz.prog (n + 1) 9 qs) : ∃ s : Str, qs = [.str s] := by
  unfold ShapeT at h
  simp only [Tryz.underlying9] at h
  obtain ⟨s, rfl, _⟩ := h
  exact ⟨s, rfl⟩
theorem shape_int {n : Nat} {qs : List AV} (h : ShapeT Tryz.prog (n + 1) 3 qs) : ∃ i : Int, qs = [aInt i] := by
  unfold ShapeT at h
  simp only [Tryz.underlying3] at h
  obtain ⟨s, rfl, _⟩ := h
  exact ⟨s, rfl⟩
theorem cellsO_attr : Tryz.prog.cellsOf 39 = 2 := by kernel_rfl
theorem cellsO_int : Tryz.prog.cellsOf 3 = 1 := by kernel_rfl
theorem cellsO_node : Tryz.prog.cellsOf 37 = 7 := by kernel_rfl
theorem cells_str1 : Tryz.prog.cellsOf 9 = 1 := by kernel_rfl
theorem shape_attr {n : Nat} {qs : List AV} (h : ShapeT Tryz.prog (n + 2) 39 qs) : ∃ a : At1, AV.agg qs = aAttr a := by
  unfold ShapeT at h
  simp only [Tryz.underlying39] at h
  cases h with
  | cons f r x y h1 h2 =>
    cases h2 with
    | cons f2 r2 x2 y2 h3 h4 =>
      cases h4
      obtain ⟨s1, rfl⟩ := shape_str h1
      obtain ⟨s2, rfl⟩ := shape_str h3
      exact ⟨(s1, s2), rfl⟩
theorem shape_attrs {n : Nat} {qs : List AV} (h : ShapeT Tryz.prog (n + 3) 35 qs) : ∃ L : List At1, qs = [aAttrs L] := by
  obtain ⟨L, rfl⟩ := shape_slice (enc := aAttr) (ag := true) Tryz.underlying35 agT39 (fun cs x h hw => by
    simp only [wrapA, Option.some.injEq] at hw
    obtain ⟨a, ha⟩ := shape_attr h
    exact ⟨a, by rw [← hw, ha]⟩) h
  exact ⟨L, by rw [cellsO_attr]; rfl⟩
theorem shape_ints {n : Nat} {qs : List AV} (h : ShapeT Tryz.prog (n + 2) 25 qs) : ∃ L : List Int, qs = [aInts L] := by
  obtain ⟨L, rfl⟩ := shape_slice (enc := aInt) (ag := false) Tryz.underlying25 agT3 (fun cs x h hw => by
    obtain ⟨a, rfl⟩ := shape_int h
    simp only [wrapA, aInt, AV.single, Option.some.injEq] at hw
    exact ⟨a, hw.symm⟩) h
  exact ⟨L, by rw [cellsO_int]⟩
theorem shape_node {n : Nat} {qs : List AV} (h : ShapeT Tryz.prog (n + 4) 37 qs) : ∃ a : Nd, AV.agg qs = aNode a := by
  unfold ShapeT at h
  simp only [Tryz.underlying37] at h
  obtain _ | ⟨_, _, _, _, h1, h⟩ := h
  obtain _ | ⟨_, _, _, _, h2, h⟩ := h
  obtain _ | ⟨_, _, _, _, h3, h⟩ := h
  obtain _ | ⟨_, _, _, _, h4, h⟩ := h
  obtain _ | ⟨_, _, _, _, h5, h⟩ := h
  obtain _ | ⟨_, _, _, _, h6, h⟩ := h
  obtain _ | ⟨_, _, _, _, h7, h⟩ := h
  cases h
  obtain ⟨x1, rfl⟩ := shape_int h1
  obtain ⟨x2, rfl⟩ := shape_int h2
  obtain ⟨x3, rfl⟩ := shape_str h3
  obtain ⟨x4, rfl⟩ := shape_attrs (n := n) h4
  obtain ⟨x5, rfl⟩ := shape_str h5
  obtain ⟨x6, rfl⟩ := shape_int h6
  obtain ⟨x7, rfl⟩ := shape_ints (n := n + 1) h7
  exact ⟨⟨x1, x2, x3, x4, x5, x6, x7⟩, rfl⟩
theorem shape_tree {n : Nat} {qs : List AV} (h : ShapeT Tryz.prog (n + 6) 24 qs) : ∃ t : Tr, AV.agg qs = aTree t := by
  unfold ShapeT at h
  simp only [Tryz.underlying24] at h
  obtain _ | ⟨_, _, _, _, h1, h⟩ := h
  cases h
  obtain ⟨L, rfl⟩ := shape_slice (n := n + 4) (enc := aNode) (ag := true) Tryz.underlying22 agT37 (fun cs x h hw => by
    simp only [wrapA, Option.some.injEq] at hw
    obtain ⟨a, ha⟩ := shape_node h
    exact ⟨a, by rw [← hw, ha]⟩) h1
  exact ⟨L, by rw [cellsO_node]; rfl⟩
theorem okTree : okTy Tryz.prog 6 24 = true := by kernel_rfl
section
variable {H : Type} {enc : TypeId × Value → H} {W : World} {hg : GlobsIn W}
theorem argTree {b0 base : Nat} {sp : Nat → Bool} {held : Bool} {v : Value} {d : DataW H} {ps : List MemPlace} (ht : DataW.Trod enc Tryz.prog W base sp held 24 v d ps) (hv : Value.okWide Tryz.prog W .any b0 24 v) : ∃ t, VR (start W hg) (aTree t) v := by
  obtain ⟨qs, a, h1, h2, h3⟩ := arg_shape (hg := hg) okTree (ag := true) agT24 (fun h => by cases h) ht hv
  obtain ⟨x, hx⟩ := shape_tree (n := 0) h1
  have : a = aTree x := by
    simp only [wrapA, Option.some.injEq] at h2
    rw [← h2, hx]
  exact ⟨x, this ▸ h3⟩
theorem vr_str (s : ByteArray) : VR (start W hg) (.str s.data.toList) (.string s) := by
  have := VR.str (ρ := start W hg) s.data.toList
  rwa [Array.toArray_toList] at this
end
end Go.Proofs.YtmadcegoionpjaaGreatDoor
