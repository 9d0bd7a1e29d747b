/- ids: All. No condition. -/
import Derived.Test.YtbeigoejdiilmaaGreatMJ
namespace Go.Proofs.YtbeigoejdiilmaaGreat
set_option linter.unusedSimpArgs false
set_option linter.unusedVariables false
open Go Go.RowKit
set_option maxRecDepth 100000

theorem c17 {T : List (Entry Tryz.prog)} (hG : findE 33 T = some e33.g) (t : Tr) (ht : okTr t) (i : Int) (nm : Str) : CallAt (ctx T) 17 [aTree t, .int .i64 i, .str nm] ⟨0, []⟩ (.str (valueB t i nm)) ⟨0, []⟩ := by
  refine callAt_body (fn := Tryz.f17) (s0 := ⟨[0, 1, 2, 3, 6, 7], [aTree t, .int .i64 i, .str nm, .undef, .undef, .undef], [], 30, ⟨0, [[]]⟩⟩) Tryz.func17 rfl rfl rfl ?_
  repeat refine wps_seq ?_
  refine wps_region callOK ?_
  simp [ofV, ofV1, mkC_P, writeVar, writeCells, readCells, allSingle, AV.single, getFs, getF, setFs, setF, Heap.get, Heap.set, Heap.new, Heap.kill, killF, pushF, Heap.ready, refs, sliceParts, fillA, replL, aTree]
  by_cases c1 : i < 0
  · repeat refine wps_seq ?_
    refine wps_region callOK ?_
    simp [ofV, ofV1, mkC_P, writeVar, writeCells, readCells, allSingle, AV.single, getFs, getF, setFs, setF, Heap.get, Heap.set, Heap.new, Heap.kill, killF, pushF, Heap.ready, refs, sliceParts, fillA, replL, lenN, c1]
    repeat refine wps_seq ?_
    refine wps_cond (t := true) rfl (fun _ => ?_) fun h => by cases h
    repeat refine wps_seq ?_
    refine wps_region callOK ?_
    simp [ofV, ofV1, mkC_P, writeVar, writeCells, readCells, allSingle, AV.single, getFs, getF, setFs, setF, Heap.get, Heap.set, Heap.new, Heap.kill, killF, pushF, Heap.ready, refs, sliceParts, fillA, replL]
    repeat refine wps_seq ?_
    refine wps_ret ?_
    simp [retVal, Tryz.f17, oneOr, thenQ, blockQ]
    exact ends_pure rfl (by simp [valueB, c1])
  · by_cases c2 : (t.length : Int) ≤ i
    · repeat refine wps_seq ?_
      refine wps_region callOK ?_
      simp [ofV, ofV1, mkC_P, writeVar, writeCells, readCells, allSingle, AV.single, getFs, getF, setFs, setF, Heap.get, Heap.set, Heap.new, Heap.kill, killF, pushF, Heap.ready, refs, sliceParts, fillA, replL, lenN, c1, c2]
      repeat refine wps_seq ?_
      refine wps_cond (t := true) rfl (fun _ => ?_) fun h => by cases h
      repeat refine wps_seq ?_
      refine wps_region callOK ?_
      simp [ofV, ofV1, mkC_P, writeVar, writeCells, readCells, allSingle, AV.single, getFs, getF, setFs, setF, Heap.get, Heap.set, Heap.new, Heap.kill, killF, pushF, Heap.ready, refs, sliceParts, fillA, replL]
      repeat refine wps_seq ?_
      refine wps_ret ?_
      simp [retVal, Tryz.f17, oneOr, thenQ, blockQ]
      exact ends_pure rfl (by simp [valueB, c1, c2])
    · have hl := (ht.2 _ (nodeAt_mem (t := t) (i := i) (by omega) (by omega))).2
      have hk := fun H => k33 hG nm hl (th_aAttrs H _)
      repeat refine wps_seq ?_
      refine wps_region callOK ?_
      simp [ofV, ofV1, mkC_P, writeVar, writeCells, readCells, allSingle, AV.single, getFs, getF, setFs, setF, Heap.get, Heap.set, Heap.new, Heap.kill, killF, pushF, Heap.ready, refs, sliceParts, fillA, replL, lenN, c1, c2]
      repeat refine wps_seq ?_
      refine wps_cond (t := false) rfl (fun h => by cases h) fun _ => ?_
      repeat refine wps_seq ?_
      refine wps_skip ?_
      simp
      repeat refine wps_seq ?_
      refine wps_region callOK ?_
      simp [ofV, ofV1, mkC_P, writeVar, writeCells, readCells, allSingle, AV.single, getFs, getF, setFs, setF, Heap.get, Heap.set, Heap.new, Heap.kill, killF, pushF, Heap.ready, refs, sliceParts, fillA, replL, atX (t := t) (i := i) (by omega) (by omega), hk, gotA]
      repeat refine wps_seq ?_
      refine wps_region callOK ?_
      simp [ofV, ofV1, mkC_P, writeVar, writeCells, readCells, allSingle, AV.single, getFs, getF, setFs, setF, Heap.get, Heap.set, Heap.new, Heap.kill, killF, pushF, Heap.ready, refs, sliceParts, fillA, replL]
      repeat refine wps_seq ?_
      refine wps_ret ?_
      simp [retVal, Tryz.f17, oneOr, thenQ, blockQ]
      exact ends_pure rfl (by simp [valueB, valOf, c1, c2])
noncomputable def e17 : Entry Tryz.prog := mkE 17 [[], [], []] (fun x : Tr × Int × Str => [aTree x.1, .int .i64 x.2.1, .str x.2.2]) (fun x => okTr x.1) (fun x => .str (valueB x.1 x.2.1 x.2.2)) fun x hx => c17 (T := [e33]) rfl x.1 hx x.2.1 x.2.2
theorem k17 {T : List (Entry Tryz.prog)} (hT : findE 17 T = some e17.g) {t : Tr} (ht : okTr t) (i : Int) (nm : Str) (H : Heap) : callL (ctx T) (.fn 17) [aTree t, .int .i64 i, .str nm] H = some (.str (valueB t i nm), H) :=
  mkE_scalar hT injTIS (t, i, nm) ht rfl (by simp [th_aTree])
def hasB (n : Nd) (nm v : Str) : Bool := decide (v ≠ []) && decide (valOf n nm = v)
theorem c36 {T : List (Entry Tryz.prog)} (hG : findE 33 T = some e33.g) (n : Nd) (nm v : Str) (hl : n.attrs.length ≤ 1000) : CallAt (ctx T) 36 [aNode n, .str nm, .str v] ⟨0, []⟩ (.bool (hasB n nm v)) ⟨0, []⟩ := by
  have hk := fun H => k33 hG nm hl (th_aAttrs H _)
  obtain ⟨kind, space, name, attrs, data, up, kids⟩ := n
  simp only [aAttrs] at hk
  by_cases hv : v = []
  · refine callAt_body (fn := Tryz.f36) (s0 := ⟨[0, 1, 2, 3, 6, 7], [aNode ⟨kind, space, name, attrs, data, up, kids⟩, .str nm, .str v, .undef, .undef, .undef], [], 23, ⟨0, [[]]⟩⟩) Tryz.func36 rfl rfl rfl ?_
    (repeat (first
      | (refine wps_seq ?_)
      | (refine wps_block ?_)
      | (refine wps_label ?_; simp only [thenQ, blockQ])
      | ((refine wps_region callOK ?_); simp [ofV, ofV1, mkC_P, writeVar, writeCells, readCells, allSingle, AV.single, getFs, getF, setFs, setF, Heap.get, Heap.set, Heap.new, Heap.kill, killF, pushF, Heap.ready, refs, sliceParts, fillA, replL, aNode, Nd.cs, aInt, aAttrs, aInts, hk, gotA, hv])
      | (refine wps_cond (t := true) rfl (fun _ => ?_) (fun h => by cases h))
      | (refine wps_cond (t := false) rfl (fun h => by cases h) (fun _ => ?_))
      | ((refine wps_skip ?_); simp only [thenQ, blockQ])
      | ((refine wps_exit ?_); simp [thenQ, blockQ])))
    repeat refine wps_seq ?_
    refine wps_ret ?_
    simp [retVal, Tryz.f36, oneOr, thenQ, blockQ]
    exact ends_pure rfl (by simp [hasB, hv])
  · refine callAt_body (fn := Tryz.f36) (s0 := ⟨[0, 1, 2, 3, 6, 7], [aNode ⟨kind, space, name, attrs, data, up, kids⟩, .str nm, .str v, .undef, .undef, .undef], [], 23, ⟨0, [[]]⟩⟩) Tryz.func36 rfl rfl rfl ?_
    (repeat (first
      | (refine wps_seq ?_)
      | (refine wps_block ?_)
      | (refine wps_label ?_; simp only [thenQ, blockQ])
      | ((refine wps_region callOK ?_); simp [ofV, ofV1, mkC_P, writeVar, writeCells, readCells, allSingle, AV.single, getFs, getF, setFs, setF, Heap.get, Heap.set, Heap.new, Heap.kill, killF, pushF, Heap.ready, refs, sliceParts, fillA, replL, aNode, Nd.cs, aInt, aAttrs, aInts, hk, gotA, hv])
      | (refine wps_cond (t := true) rfl (fun _ => ?_) (fun h => by cases h))
      | (refine wps_cond (t := false) rfl (fun h => by cases h) (fun _ => ?_))
      | ((refine wps_skip ?_); simp only [thenQ, blockQ])
      | ((refine wps_exit ?_); simp [thenQ, blockQ])))
    repeat refine wps_seq ?_
    refine wps_ret ?_
    simp [retVal, Tryz.f36, oneOr, thenQ, blockQ]
    exact ends_pure rfl (by simp [hasB, hv, valOf]; try rfl)
theorem injNSS (x y : Nd × Str × Str) (h : [aNode x.1, .str x.2.1, .str x.2.2] = [aNode y.1, .str y.2.1, .str y.2.2]) : x = y := by
  simp only [List.cons.injEq] at h
  obtain ⟨h1, h2, h3, _⟩ := h
  simp at h2 h3
  exact Prod.ext (inj_aNode h1) (Prod.ext h2 h3)
noncomputable def e36 : Entry Tryz.prog := mkE 36 [[], [], []] (fun x : Nd × Str × Str => [aNode x.1, .str x.2.1, .str x.2.2]) (fun x => x.1.attrs.length ≤ 1000) (fun x => .bool (hasB x.1 x.2.1 x.2.2)) fun x hx => c36 (T := [e33]) rfl x.1 x.2.1 x.2.2 hx
theorem k36 {T : List (Entry Tryz.prog)} (hT : findE 36 T = some e36.g) {n : Nd} (nm v : Str) (hl : n.attrs.length ≤ 1000) (H : Heap) : callL (ctx T) (.fn 36) [aNode n, .str nm, .str v] H = some (.bool (hasB n nm v), H) :=
  mkE_scalar hT injNSS (n, nm, v) hl rfl (by simp [th_aNode])
theorem c35 {T : List (Entry Tryz.prog)} (hG : findE 36 T = some e36.g) (n : Nd) (v : Str) (hl : n.attrs.length ≤ 1000) : CallAt (ctx T) 35 [aNode n, .fptr [.str v] 0] ⟨0, []⟩ (.bool (hasB n wId v)) ⟨0, []⟩ := by
  have hk := fun H => k36 hG wId v hl H
  generalize hh : hasB n wId v = b at *
  obtain ⟨kind, space, name, attrs, data, up, kids⟩ := n
  simp only [aNode, Nd.cs, aInt, aAttrs, aInts] at hk
  refine callAt_body (fn := Tryz.f35) (s0 := ⟨[0, 1, 2, 3], [aNode ⟨kind, space, name, attrs, data, up, kids⟩, .fptr [.str v] 0, .undef, .undef], [], 7, ⟨0, [[]]⟩⟩) Tryz.func35 rfl rfl rfl ?_
  (repeat (first
    | (refine wps_seq ?_)
    | (refine wps_block ?_)
    | (refine wps_label ?_; simp only [thenQ, blockQ])
    | ((refine wps_region callOK ?_); simp [ofV, ofV1, mkC_P, writeVar, writeCells, readCells, allSingle, AV.single, getFs, getF, setFs, setF, Heap.get, Heap.set, Heap.new, Heap.kill, killF, pushF, Heap.ready, refs, sliceParts, fillA, replL, aNode, Nd.cs, aInt, aAttrs, aInts, hk])
    | (refine wps_cond (t := true) rfl (fun _ => ?_) (fun h => by cases h))
    | (refine wps_cond (t := false) rfl (fun h => by cases h) (fun _ => ?_))
    | ((refine wps_skip ?_); simp only [thenQ, blockQ])
    | ((refine wps_exit ?_); simp [thenQ, blockQ])))
  repeat refine wps_seq ?_
  refine wps_ret ?_
  simp [retVal, Tryz.f35, oneOr, thenQ, blockQ]
  exact ends_pure rfl (by rfl)
def fE (t : Tr) : AV := .func (.func 48) [] [.fptr [aNodes t] 0]
theorem pure_fE (t : Tr) : pureV (fE t) = true := by simp [fE, pureV, pureL]
theorem c30 {T : List (Entry Tryz.prog)} (t : Tr) : CallAt (ctx T) 30 [aTree t] ⟨0, []⟩ (fE t) ⟨0, []⟩ := by
  refine callAt_body (fn := Tryz.f30) (s0 := ⟨[0, 1, 2], [aTree t, .undef, .undef], [], 4, ⟨0, [[]]⟩⟩) Tryz.func30 rfl rfl rfl ?_
  repeat refine wps_seq ?_
  refine wps_region callOK ?_
  simp [ofV, ofV1, mkC_P, writeVar, writeCells, readCells, allSingle, AV.single, getFs, getF, setFs, setF, Heap.get, Heap.set, Heap.new, Heap.kill, killF, pushF, Heap.ready, refs, sliceParts, fillA, replL, aTree]
  repeat refine wps_seq ?_
  refine wps_region callOK ?_
  simp [ofV, ofV1, mkC_P, writeVar, writeCells, readCells, allSingle, AV.single, getFs, getF, setFs, setF, Heap.get, Heap.set, Heap.new, Heap.kill, killF, pushF, Heap.ready, refs, sliceParts, fillA, replL]
  repeat refine wps_seq ?_
  refine wps_ret ?_
  simp [retVal, Tryz.f30, oneOr]
  refine ⟨[], [(0, [aNodes t])], by simp [fE, fitV, fitL, lookC], .froze (by simp) fun x hx => ?_⟩
  rw [List.mem_singleton] at hx
  subst hx
  exact ⟨[aNodes t], by simp [Heap.get, getFs, getF], fitL_pure (by simp [pureL]), by simp [pureL]⟩
noncomputable def e30 : Entry Tryz.prog := mkE 30 [[]] (fun t : Tr => [aTree t]) (fun _ => True) fE fun t _ => c30 (T := []) t
theorem k30 {T : List (Entry Tryz.prog)} (hT : findE 30 T = some e30.g) (t : Tr) (H : Heap) : callL (ctx T) (.fn 30) [aTree t] H = some (fE t, H) :=
  mkE_pure hT injT t trivial (by simp [pureL]) (by simp [thawL, th_aTree]) H
/-! ### The rounds of one who ranges over the elements: hc: its rows; go: whether a round goes on; nx: what it leaves -/
def runE {κ : Type} (t : Tr) (go : κ → Int → Bool) (nx : κ → Int → κ) : List Int → κ → κ
  | [], c => c
  | i :: r, c => if (nodeAt t i).kind = 1 then (if go c i = true then runE t go nx r (nx c i) else nx c i) else runE t go nx r c
structure RoundsE (T : List (Entry Tryz.prog)) (t : Tr) (n1 b : Nat) {κ : Type} (hc : κ → List (Nat × Blk)) (go : κ → Int → Bool) (nx : κ → Int → κ) (ok : Nat → κ → Prop) : Prop where
  self : ∀ j c m f, ok j c → (f = [] ∨ ∃ x, f = [(4, x)]) → n1 ≤ m → ∃ σ, lookN b σ = some b ∧ FitH n1 σ [] ⟨m, [f, hc c]⟩ ⟨4, [[], hc c]⟩
  round : ∀ j c i, j < 50 → ok j c → 0 ≤ i → i < (t.length : Int) → (nodeAt t i).kind = 1 → ∃ H', YieldAt (ctx T) b [.int .i64 i, aNode (nodeAt t i)] ⟨5, [[(4, .cells (nodeAt t i).cs)], hc c]⟩ (.bool (go c i)) H' ∧ (∃ σ, lookN b σ = some b ∧ FitH n1 σ [] H' ⟨4, [[], hc (nx c i)]⟩) ∧ (go c i = true → ok (j + 1) (nx c i))
  mono : ∀ j c, ok j c → ok (j + 1) c
theorem FitH.fs {n : Nat} {σ : List (Nat × Nat)} {Φ : List (Nat × List AV)} {H : Heap} {m : Nat} {f g : List (List (Nat × Blk))} (h : FitH n σ Φ H ⟨m, f⟩) (e : f.flatten = g.flatten) : FitH n σ Φ H ⟨m, g⟩ where
  nd1 := h.nd1
  nd2 := h.nd2
  nd3 := by have := h.nd3; simp only [Heap.ents] at this ⊢; rw [← e]; exact this
  lt := h.lt
  idn := h.idn
  num := h.num
  src := by have := h.src; simp only [Heap.ents] at this ⊢; rw [← e]; exact this
  frz := h.frz
end Go.Proofs.YtbeigoejdiilmaaGreat
namespace Go.Proofs.YtbeigoejdiilmaaGreat
set_option linter.unusedSimpArgs false
set_option linter.unusedVariables false
open Go Go.RowKit
set_option maxRecDepth 100000

theorem c48 {T : List (Entry Tryz.prog)} (hO : findE 22 T = some e22.g) (t : Tr) (ht : smallTr t) {b : Nat} {κ : Type} {hc : κ → List (Nat × Blk)} {go : κ → Int → Bool} {nx : κ → Int → κ} {ok : Nat → κ → Prop} {n1 : Nat} (hn1 : n1 ≤ 4) (R : RoundsE T t n1 b hc go nx ok) (c0 : κ) (h0 : ok 0 c0) :
    CallAt (ctx T) 48 [.yld b, .fptr [aNodes t] 0] ⟨n1, [hc c0]⟩ (.tup []) ⟨4, [hc (runE t go nx (orderOf t.length (kidsOf t)) c0)]⟩ := by
  have hk := fun H => k22 hO ht H
  obtain ⟨L, hL⟩ : ∃ L, L = orderOf t.length (kidsOf t) := ⟨_, rfl⟩
  have hLn : L.length ≤ 50 := by have := order_len (n := t.length) (ks := kidsOf t); have := ht.1; rw [hL]; omega
  have hmem : ∀ y, y ∈ L → 0 ≤ y ∧ y < (t.length : Int) := fun y hy => order_mem (hL ▸ hy)
  rw [← hL] at hk ⊢
  simp only [aTree] at hk
  obtain ⟨σ0, b0, f0⟩ := R.self 0 c0 n1 [] h0 (.inl rfl) (Nat.le_refl _)
  refine callAt_body (fn := Tryz.f48) (s0 := ⟨[0, 1, 4, 5, 7, 8, 9], [.yld b, .fptr [aNodes t] 0, .undef, .undef, .undef, .undef, .undef], [], 29, ⟨n1, [] :: [hc c0]⟩⟩) Tryz.func48 rfl rfl rfl ?_
  repeat refine wps_seq ?_
  refine wps_region callOK ?_
  simp [ofV, ofV1, mkC_P, writeVar, writeCells, readCells, allSingle, AV.single, getFs, getF, setFs, setF, Heap.get, Heap.set, Heap.new, Heap.kill, killF, pushF, Heap.ready, refs, sliceParts, fillA, replL, hk, lenI]
  repeat refine wps_seq ?_
  refine wps_block (wps_loop' (fun x : Nat × κ => (⟨[0, 1, 4, 5, 7, 8, 9], [.yld b, .fptr [aNodes t] 0, .undef, .undef, aInts L, .int .i64 (L.length : Nat), .int .i64 x.1], [], 29, ⟨4, [[], hc x.2]⟩⟩ : St))
    (fun x => x.1 ≤ L.length ∧ ok x.1 x.2 ∧ runE t go nx L c0 = runE t go nx (L.drop x.1) x.2) (fun x => L.length - x.1) σ0 [] (0, c0) ⟨Nat.zero_le _, h0, rfl⟩ ⟨rfl, rfl, rfl, ?_, f0⟩ ?_)
  · simp [fitL, fitV, b0, pureV, pureL, aInts]
  rintro ⟨i, c⟩ ⟨hi, hc0, hr⟩ B hB
  simp only at hi hc0 hr
  repeat refine wps_seq ?_
  refine wps_region callOK ?_
  simp [ofV, ofV1, mkC_P, writeVar, writeCells, readCells, allSingle, AV.single, getFs, getF, setFs, setF, Heap.get, Heap.set, Heap.new, Heap.kill, killF, pushF, Heap.ready, refs, sliceParts, fillA, replL]
  repeat refine wps_seq ?_
  refine wps_cond rfl (fun h => ?_) fun h => ?_
  · simp at h
    repeat refine wps_seq ?_
    refine wps_skip ?_
    simp
    repeat refine wps_seq ?_
    refine wps_block ?_
    obtain ⟨y0, y1⟩ := hmem L[i] (List.getElem_mem _)
    rw [List.drop_eq_getElem_cons h] at hr
    repeat refine wps_seq ?_
    refine wps_region callOK ?_
    simp [ofV, ofV1, mkC_P, writeVar, writeCells, readCells, allSingle, AV.single, getFs, getF, setFs, setF, Heap.get, Heap.set, Heap.new, Heap.kill, killF, pushF, Heap.ready, refs, sliceParts, fillA, replL, atI h]
    repeat refine wps_seq ?_
    refine wps_region callOK ?_
    simp [ofV, ofV1, mkC_P, writeVar, writeCells, readCells, allSingle, AV.single, getFs, getF, setFs, setF, Heap.get, Heap.set, Heap.new, Heap.kill, killF, pushF, sliceParts, fillA, replL, atX y0 y1]
    by_cases hq : (nodeAt t L[i]).kind = 1
    · obtain ⟨H', hy, ⟨σ, bσ, fH⟩, hok⟩ := R.round i c L[i] (by omega) hc0 y0 y1 hq
      simp only [runE] at hr
      rw [if_pos hq] at hr
      repeat refine wps_seq ?_
      refine wps_region (callOKY [⟨b, _, _, _, _, hy⟩]) ?_
      rcases Bool.eq_false_or_eq_true (go c L[i]) with hg | hg
      case inr =>
        simp [ofV, ofV1, mkC_P, writeVar, writeCells, readCells, allSingle, AV.single, getFs, getF, setFs, setF, Heap.get, Heap.set, Heap.new, Heap.kill, killF, pushF, Heap.ready, refs, sliceParts, fillA, replL, hq, fold_node, callY_hit, hg]
        repeat refine wps_seq ?_
        refine wps_cond (t := true) rfl (fun _ => ?_) fun h => by cases h
        repeat refine wps_seq ?_
        refine wps_ret ?_
        rw [hg, if_neg (by simp)] at hr
        simp [thenQ, blockQ]
        exact ⟨[], rfl, σ, [], by simp [oneOr, fitV, fitL], by rw [hr]; exact fH.fs rfl⟩
      case inl =>
        simp [ofV, ofV1, mkC_P, writeVar, writeCells, readCells, allSingle, AV.single, getFs, getF, setFs, setF, Heap.get, Heap.set, Heap.new, Heap.kill, killF, pushF, Heap.ready, refs, sliceParts, fillA, replL, hq, fold_node, callY_hit, hg]
        repeat refine wps_seq ?_
        refine wps_cond (t := false) rfl (fun h => by cases h) fun _ => ?_
        repeat refine wps_seq ?_
        refine wps_skip ?_
        simp
        repeat refine wps_seq ?_
        refine wps_region callOK ?_
        simp [ofV, ofV1, mkC_P, writeVar, writeCells, readCells, allSingle, AV.single, getFs, getF, setFs, setF, Heap.get, Heap.set, Heap.new, Heap.kill, killF, pushF, Heap.ready, refs, sliceParts, fillA, replL, add_one (show i ≤ 1000000000 by omega)]
        rw [hg, if_pos rfl] at hr
        exact hB _ (i + 1, nx c L[i]) (by simp; omega) ⟨by simp; omega, hok hg, hr⟩ ⟨σ, [], rfl, rfl, rfl, by simp [fitL, fitV, bσ, pureV, pureL, aInts], fH⟩
    · obtain ⟨σ, bσ, fH⟩ := R.self i c 5 [(4, .cells (nodeAt t L[i]).cs)] hc0 (.inr ⟨_, rfl⟩) (by omega)
      simp only [runE] at hr
      rw [if_neg hq] at hr
      repeat refine wps_seq ?_
      refine wps_region callOK ?_
      simp [ofV, ofV1, mkC_P, writeVar, writeCells, readCells, allSingle, AV.single, getFs, getF, setFs, setF, Heap.get, Heap.set, Heap.new, Heap.kill, killF, pushF, Heap.ready, refs, sliceParts, fillA, replL, hq]
      repeat refine wps_seq ?_
      refine wps_cond (t := false) rfl (fun h => by cases h) fun _ => ?_
      repeat refine wps_seq ?_
      refine wps_skip ?_
      simp
      repeat refine wps_seq ?_
      refine wps_region callOK ?_
      simp [ofV, ofV1, mkC_P, writeVar, writeCells, readCells, allSingle, AV.single, getFs, getF, setFs, setF, Heap.get, Heap.set, Heap.new, Heap.kill, killF, pushF, Heap.ready, refs, sliceParts, fillA, replL, add_one (show i ≤ 1000000000 by omega)]
      exact hB _ (i + 1, c) (by simp; omega) ⟨by simp; omega, R.mono _ _ hc0, hr⟩ ⟨σ, [], rfl, rfl, rfl, by simp [fitL, fitV, bσ, pureV, pureL, aInts], fH⟩
  · simp at h
    rw [List.drop_eq_nil_of_le h] at hr
    simp only [runE] at hr
    obtain ⟨σ, bσ, fH⟩ := R.self i c 4 [] hc0 (.inl rfl) (by omega)
    repeat refine wps_seq ?_
    refine wps_exit ?_
    simp
    exact ⟨[], rfl, σ, [], by simp [oneOr, fitV, fitL], by rw [hr]; exact fH.fs rfl⟩
@[simp] theorem szT41 : sizeT Tryz.prog 41 = some 1 := rfl
@[simp] theorem agT41 : aggT Tryz.prog 41 = some false := rfl
@[simp] theorem byT41 : bytesT Tryz.prog 41 = some 8 := rfl
@[simp] theorem alT41 (H : Heap) : alV Tryz.prog H 41 = some (.ptr H.n 0, H.new (.cells [.nilF])) := rfl
@[simp] theorem zeT41 : zeroOf Tryz.prog 41 = some (.nilF) := rfl
attribute [simp] Tryz.underlying41
@[simp 500] theorem rvF41 (H : Heap) (cs : List AV) (o : Nat) : readVar Tryz.prog H 41 (.fptr cs o) = getL cs o := rfl
@[simp 500] theorem rvP41 (H : Heap) (b o : Nat) : readVar Tryz.prog H 41 (.ptr b o) = (H.get b).bind fun k => k.rd.bind fun cs => getL cs o := rfl
/-! ### first: the first element of which something is told -/
noncomputable def asF : Code := match Tryz.f34.body with
  | some c => match rgOf c with
    | some x => x.1
    | none => .skip
  | none => .skip
noncomputable def bdF : Code := match Tryz.f34.body with
  | some c => match rgOf c with
    | some x => x.2
    | none => .skip
  | none => .skip
def fnV (clo : FuncId) (cap : List AV) : AV := .func (.func clo) [] cap
noncomputable def LBf (st : LoopState) (pend : Option Code) (ts : List (Nat × AV)) (t : Tr) (fv : AV) : Blk := .loop st pend [0, 1, 2, 3, 4, 5, 6, 8, 9, 10] [aTree t, fv, .ptr 0 0, .ptr 1 0, .ptr 2 0, .undef, .undef, fE t, .undef, .undef] ts 15 [9, 10] asF bdF
noncomputable def hcF (t : Tr) (fv : AV) : Option Int → List (Nat × Blk)
  | none => [(3, LBf .ready none [] t fv), (2, .cells [.int .i64 0]), (1, .cells [fv]), (0, .cells [aNodes t])]
  | some i => [(3, LBf .done (some .ret) [] t fv), (2, .cells [.int .i64 i]), (1, .cells [fv]), (0, .cells [aNodes t])]
theorem LBf_fit {st : LoopState} {pend : Option Code} {ts : List (Nat × AV)} {t : Tr} {fv : AV} (hp : pureV fv = true) (σ : List (Nat × Nat)) (h0 : lookN 0 σ = some 0) (h1 : lookN 1 σ = some 1) (h2 : lookN 2 σ = some 2) : fitB σ [] (LBf st pend ts t fv) (LBf st pend [] t fv) := by
  simp [LBf, fitB, fitL, fitV, h0, h1, h2, fitV_pure, pure_fE, hp]
theorem fitF {t : Tr} {fv : AV} (hp : pureV fv = true) {m k n : Nat} {f : List (Nat × Blk)} {c : Option Int} (hf : ∀ b, b < 4 → getF b f = none) (hn : n ≤ k) (hk : 4 ≤ k) : FitH n [(3, 3), (2, 2), (1, 1), (0, 0)] [] ⟨m, [f, hcF t fv c]⟩ ⟨k, [[], hcF t fv c]⟩ := by
  refine .same (by simp) (by simp) (by simp; omega) hn (by cases c <;> simp [hcF, Heap.ents]) ?_
  intro e he
  cases c
  all_goals
    simp [hcF, Heap.ents] at he
    rcases he with rfl | rfl | rfl | rfl
    · exact ⟨by simp, by simp [hcF, Heap.get, getFs, hf, getF], LBf_fit hp _ (by simp [lookN]) (by simp [lookN]) (by simp [lookN])⟩
    · exact ⟨by simp, by simp [hcF, Heap.get, getFs, hf, getF], fitL_pure (by simp [pureL, pureV])⟩
    · exact ⟨by simp, by simp [hcF, Heap.get, getFs, hf, getF], fitL_pure (by simp [pureL, hp])⟩
    · exact ⟨by simp, by simp [hcF, Heap.get, getFs, hf, getF], fitL_pure (by simp [pureL])⟩
theorem fitF5 {t : Tr} {fv : AV} (hp : pureV fv = true) {m : Nat} {f : List (Nat × Blk)} {n : Nd} {c : Option Int} (hf : ∀ b, b < 5 → getF b f = none) : FitH 5 [(4, 4), (3, 3), (2, 2), (1, 1), (0, 0)] [] ⟨m, [f, [(4, .cells n.cs)], hcF t fv c]⟩ ⟨5, [[(4, .cells n.cs)], hcF t fv c]⟩ := by
  refine .same (by simp) (by simp) (by simp) (Nat.le_refl _) (by cases c <;> simp [hcF, Heap.ents]) ?_
  intro e he
  cases c
  all_goals
    simp [hcF, Heap.ents] at he
    rcases he with rfl | rfl | rfl | rfl | rfl
    · exact ⟨by simp, by simp [hcF, Heap.get, getFs, hf, getF], fitL_pure (by simp)⟩
    · exact ⟨by simp, by simp [hcF, Heap.get, getFs, hf, getF], LBf_fit hp _ (by simp [lookN]) (by simp [lookN]) (by simp [lookN])⟩
    · exact ⟨by simp, by simp [hcF, Heap.get, getFs, hf, getF], fitL_pure (by simp [pureL, pureV])⟩
    · exact ⟨by simp, by simp [hcF, Heap.get, getFs, hf, getF], fitL_pure (by simp [pureL, hp])⟩
    · exact ⟨by simp, by simp [hcF, Heap.get, getFs, hf, getF], fitL_pure (by simp [pureL])⟩
theorem round_first {T : List (Entry Tryz.prog)} (t : Tr) (clo : FuncId) (cap : List AV) (hcap : pureL cap = true) (p : Nd → Bool) (i : Int) (n : Nd) (hp : CallAt (ctx T) clo (aNode n :: cap) ⟨0, []⟩ (.bool (p n)) ⟨0, []⟩) :
    YieldAt (ctx T) 3 [.int .i64 i, aNode n] ⟨5, [[(4, .cells n.cs)], hcF t (fnV clo cap) none]⟩ (.bool !p n) ⟨5, [[(4, .cells n.cs)], hcF t (fnV clo cap) (if p n = true then some i else none)]⟩ := by
  have hpv : pureV (fnV clo cap) = true := by simp [fnV, pureV, pureL, hcap]
  generalize hH' : (⟨5, [[(4, .cells n.cs)], hcF t (fnV clo cap) (if p n = true then some i else none)]⟩ : Heap) = H'
  refine yieldAt_body (b := 3) (pend := none) (ks := [0, 1, 2, 3, 4, 5, 6, 8, 9, 10]) (vs := [aTree t, fnV clo cap, .ptr 0 0, .ptr 1 0, .ptr 2 0, .undef, .undef, fE t, .undef, .undef]) (ts := []) (sz := 15) (ps := [9, 10]) (assign := asF) (body := bdF)
    (s1 := ⟨[0, 1, 2, 3, 4, 5, 6, 8, 9, 10], [aTree t, fnV clo cap, .ptr 0 0, .ptr 1 0, .ptr 2 0, .undef, .undef, fE t, .int .i64 i, aNode n], [], 15, ⟨5, [] :: (⟨5, [[(4, .cells n.cs)], hcF t (fnV clo cap) none]⟩ : Heap).fs⟩⟩) rfl rfl fun l => ?_
  simp only [asF, rgOf, Tryz.f34, hcF]
  repeat refine wps_seq ?_
  refine wps_region callOK ?_
  simp [ofV, ofV1, mkC_P, writeVar, writeCells, readCells, allSingle, AV.single, getFs, getF, setFs, setF, Heap.get, Heap.set, Heap.new, Heap.kill, killF, pushF, Heap.ready, refs, sliceParts, fillA, replL]
  repeat refine wps_seq ?_
  refine wps_region callOK ?_
  simp [ofV, ofV1, mkC_P, writeVar, writeCells, readCells, allSingle, AV.single, getFs, getF, setFs, setF, Heap.get, Heap.set, Heap.new, Heap.kill, killF, pushF, sliceParts, fillA, replL]
  refine ⟨_, _, _, _, _, _, _, _, rfl, ?_⟩
  obtain ⟨LBb, hLBb⟩ : ∃ LBb, LBb = LBf .busy none [] t (fnV clo cap) := ⟨_, rfl⟩
  have hLBb' := hLBb
  unfold LBf at hLBb'
  rw [← hLBb']
  simp only [bdF, rgOf, Tryz.f34]
  repeat refine wps_seq ?_
  refine wps_block ?_
  have hcall := hp.lift (by simp [pureL, hcap]) ⟨6, [[(5, .cells n.cs)], [(4, .cells n.cs)], [(3, LBb), (2, .cells [.int .i64 0]), (1, .cells [fnV clo cap]), (0, .cells [aNodes t])]]⟩
  repeat refine wps_seq ?_
  refine wps_region (callOKF [⟨clo, _, _, _, _, hcall⟩]) ?_
  rcases Bool.eq_false_or_eq_true (p n) with hb | hb
  · simp [ofV, ofV1, mkC_P, writeVar, writeCells, readCells, allSingle, AV.single, getFs, getF, setFs, setF, Heap.get, Heap.set, Heap.new, Heap.kill, killF, pushF, Heap.ready, refs, sliceParts, fillA, replL, callF, fnV, fold_node, hb]
    repeat refine wps_seq ?_
    refine wps_cond (t := true) rfl (fun _ => ?_) fun h => by cases h
    repeat refine wps_seq ?_
    refine wps_region callOK ?_
    simp [ofV, ofV1, mkC_P, writeVar, writeCells, readCells, allSingle, AV.single, getFs, getF, setFs, setF, Heap.get, Heap.set, Heap.new, Heap.kill, killF, pushF, Heap.ready, refs, sliceParts, fillA, replL]
    repeat refine wps_seq ?_
    refine wps_ret ?_
    simp [thenQ, blockQ, getFs, getF, setFs, setF]
    refine ⟨_, _, _, _, _, _, _, _, _, hLBb', rfl, [(4, 4), (3, 3), (2, 2), (1, 1), (0, 0)], [], ?_⟩
    rw [← hH', if_pos hb]
    exact fitF5 (c := some i) hpv (fun b h => getF_one (by omega))
  · simp [ofV, ofV1, mkC_P, writeVar, writeCells, readCells, allSingle, AV.single, getFs, getF, setFs, setF, Heap.get, Heap.set, Heap.new, Heap.kill, killF, pushF, Heap.ready, refs, sliceParts, fillA, replL, callF, fnV, fold_node, hb]
    repeat refine wps_seq ?_
    refine wps_cond (t := false) rfl (fun h => by cases h) fun _ => ?_
    repeat refine wps_seq ?_
    refine wps_skip ?_
    simp [thenQ, blockQ, getFs, getF, setFs, setF]
    refine ⟨_, _, _, _, _, _, _, _, _, hLBb', rfl, [(4, 4), (3, 3), (2, 2), (1, 1), (0, 0)], [], ?_⟩
    rw [← hH', if_neg (by simp [hb])]
    exact fitF5 (c := none) hpv (fun b h => getF_one (by omega))
def goF (t : Tr) (p : Nd → Bool) (_ : Option Int) (i : Int) : Bool := !p (nodeAt t i)
def nxF (t : Tr) (p : Nd → Bool) (_ : Option Int) (i : Int) : Option Int := if p (nodeAt t i) = true then some i else none
theorem rounds_first {T : List (Entry Tryz.prog)} (t : Tr) (clo : FuncId) (cap : List AV) (hcap : pureL cap = true) (p : Nd → Bool) (hp : ∀ n, n ∈ t → CallAt (ctx T) clo (aNode n :: cap) ⟨0, []⟩ (.bool (p n)) ⟨0, []⟩) :
    RoundsE T t 4 3 (hcF t (fnV clo cap)) (goF t p) (nxF t p) (fun _ c => c = none) := by
  have hpv : pureV (fnV clo cap) = true := by simp [fnV, pureV, pureL, hcap]
  refine ⟨fun j c m f _ hf _ => ⟨[(3, 3), (2, 2), (1, 1), (0, 0)], by simp [lookN], fitF (n := 4) hpv ?_ (by omega) (by omega)⟩, fun j c i _ hc h0 h1 _ => ?_, fun _ _ h => h⟩
  · rcases hf with rfl | ⟨x, rfl⟩
    · intro b _; rfl
    · intro b hb; exact getF_one (by omega)
  · subst hc
    refine ⟨_, round_first t clo cap hcap p i (nodeAt t i) (hp _ (nodeAt_mem h0 h1)), ⟨[(3, 3), (2, 2), (1, 1), (0, 0)], by simp [lookN], fitF (n := 4) hpv (fun b hb => getF_one (by omega)) (by omega) (by omega)⟩, fun hg => ?_⟩
    simp [goF] at hg
    simp [nxF, hg]
/-- the first element of which something is told -/
def firstB (t : Tr) (p : Nd → Bool) : Option Int := (orderOf t.length (kidsOf t)).find? fun i => decide ((nodeAt t i).kind = 1) && p (nodeAt t i)
theorem runE_first {t : Tr} {p : Nd → Bool} : ∀ (L : List Int), runE t (goF t p) (nxF t p) L none = L.find? fun i => decide ((nodeAt t i).kind = 1) && p (nodeAt t i)
  | [] => rfl
  | i :: r => by
    simp only [runE, List.find?_cons]
    by_cases hk : (nodeAt t i).kind = 1
    · rw [if_pos hk]
      by_cases hp : p (nodeAt t i) = true
      · simp [goF, nxF, hk, hp]
      · simp only [goF, nxF, hp, hk]
        simp [runE_first r]
    · rw [if_neg hk]
      simp [hk, runE_first r]
theorem call_first {T : List (Entry Tryz.prog)} (hO : findE 22 T = some e22.g) (t : Tr) (ht : smallTr t) (clo : FuncId) (cap : List AV) (hcap : pureL cap = true) (p : Nd → Bool) (hp : ∀ n, n ∈ t → CallAt (ctx T) clo (aNode n :: cap) ⟨0, []⟩ (.bool (p n)) ⟨0, []⟩) :
    CallAt (ctx T) 48 [.yld 3, .fptr [aNodes t] 0] ⟨4, [[(3, LBf .ready none [(7, aTree t)] t (fnV clo cap)), (2, .cells [.int .i64 0]), (1, .cells [fnV clo cap]), (0, .cells [aNodes t])]]⟩ (.tup []) ⟨4, [hcF t (fnV clo cap) (firstB t p)]⟩ := by
  have hpv : pureV (fnV clo cap) = true := by simp [fnV, pureV, pureL, hcap]
  have h := c48 hO t ht (Nat.le_refl _) (rounds_first t clo cap hcap p hp) none rfl
  rw [runE_first] at h
  have hf : FitH 0 [(3, 3), (2, 2), (1, 1), (0, 0)] [] ⟨4, [[(3, LBf .ready none [(7, aTree t)] t (fnV clo cap)), (2, .cells [.int .i64 0]), (1, .cells [fnV clo cap]), (0, .cells [aNodes t])]]⟩ ⟨4, [hcF t (fnV clo cap) none]⟩ := {
    nd1 := by simp
    nd2 := by simp
    nd3 := by simp [hcF, Heap.ents]
    lt := by simp
    idn := by simp
    num := by simp
    src := by
      intro e he
      simp [hcF, Heap.ents] at he
      rcases he with rfl | rfl | rfl | rfl
      · exact ⟨3, _, by simp, rfl, LBf_fit hpv _ (by simp [lookN]) (by simp [lookN]) (by simp [lookN])⟩
      · exact ⟨2, _, by simp, rfl, fitL_pure (by simp [pureL, pureV])⟩
      · exact ⟨1, _, by simp, rfl, fitL_pure (by simp [pureL, hpv])⟩
      · exact ⟨0, _, by simp, rfl, fitL_pure (by simp [pureL])⟩
    frz := fun x h => by cases h }
  have := h.framed (H := ⟨4, [[(3, LBf .ready none [(7, aTree t)] t (fnV clo cap)), (2, .cells [.int .i64 0]), (1, .cells [fnV clo cap]), (0, .cells [aNodes t])]]⟩) (σ := [(3, 3), (2, 2), (1, 1), (0, 0)]) (args := [.yld 3, .fptr [aNodes t] 0])
    (H' := ⟨4, [hcF t (fnV clo cap) (firstB t p)]⟩) hf (by simp [fitL, fitV, lookN, fitV_pure, pureV, pureL]) ?_ (by simp)
  · simpa [renV, renL] using this
  · refine ⟨by simp, by cases firstB t p <;> simp [hcF, Heap.ents], ?_⟩
    intro e he
    have hT := renV_pure (outN [(3, 3), (2, 2), (1, 1), (0, 0)] 4 4) (pure_aTree t)
    have hN := renV_pure (outN [(3, 3), (2, 2), (1, 1), (0, 0)] 4 4) (pure_aNodes t)
    have hF := renV_pure (outN [(3, 3), (2, 2), (1, 1), (0, 0)] 4 4) hpv
    have hE := renV_pure (outN [(3, 3), (2, 2), (1, 1), (0, 0)] 4 4) (pure_fE t)
    refine .inl ⟨e, he, ?_⟩
    cases hb : firstB t p
    all_goals
      rw [hb] at he
      simp [hcF, Heap.ents] at he
      rcases he with rfl | rfl | rfl | rfl
      · simp [LBf, renB, renL, renV, renT, hT, hF, hE]; simp [outN, lookR]
      · simp [renB, renL, renV]; simp [outN, lookR]
      · simp [renB, renL, hF]; simp [outN, lookR]
      · simp [renB, renL, hN]; simp [outN, lookR]
end Go.Proofs.YtbeigoejdiilmaaGreat
namespace Go.Proofs.YtbeigoejdiilmaaGreat
set_option linter.unusedSimpArgs false
set_option linter.unusedVariables false
open Go Go.RowKit
set_option maxRecDepth 100000

def hX (t : Tr) (fv : AV) (r : Int) : Heap := ⟨4, [[(2, .cells [.int .i64 r]), (1, .cells [fv]), (0, .cells [aNodes t])]]⟩
def sF (t : Tr) (fv : AV) (H : Heap) : St := ⟨[0, 1, 2, 3, 4, 5, 6, 8, 9, 10], [aTree t, fv, .ptr 0 0, .ptr 1 0, .ptr 2 0, .undef, .undef, fE t, .undef, .undef], [(7, aTree t)], 15, H⟩
def outF : Option Int → Out
  | none => .normal
  | some _ => .ret
theorem range_first {T : List (Entry Tryz.prog)} (t : Tr) (fv : AV) (r : Option Int) {call : CallE} (hc : call (.fn 48) [.yld 3, .fptr [aNodes t] 0] ⟨4, [[(3, LBf .ready none [(7, aTree t)] t fv), (2, .cells [.int .i64 0]), (1, .cells [fv]), (0, .cells [aNodes t])]]⟩ = some (.tup [], ⟨4, [hcF t fv r]⟩)) :
    evalRange (ctx T) call (.tmp 8) #[9, 10] asF bdF (sF t fv ⟨3, [[(2, .cells [.int .i64 0]), (1, .cells [fv]), (0, .cells [aNodes t])]]⟩) = some (outF r, sF t fv (hX t fv (r.getD 0))) := by
  have hent : entersF (ctx T) 48 = true := by kernel_rfl
  have ho : opnd (sF t fv ⟨3, [[(2, .cells [.int .i64 0]), (1, .cells [fv]), (0, .cells [aNodes t])]]⟩) (.tmp 8) = some (fE t) := rfl
  unfold evalRange
  rw [ho]
  simp only [Option.bind_some, hent, fE]
  have e : call (.fn 48) ([] ++ [.yld (sF t fv ⟨3, [[(2, .cells [.int .i64 0]), (1, .cells [fv]), (0, .cells [aNodes t])]]⟩).H.n] ++ [.fptr [aNodes t] 0]) ((sF t fv ⟨3, [[(2, .cells [.int .i64 0]), (1, .cells [fv]), (0, .cells [aNodes t])]]⟩).H.new (.loop .ready none (sF t fv ⟨3, [[(2, .cells [.int .i64 0]), (1, .cells [fv]), (0, .cells [aNodes t])]]⟩).ks (sF t fv ⟨3, [[(2, .cells [.int .i64 0]), (1, .cells [fv]), (0, .cells [aNodes t])]]⟩).vs (sF t fv ⟨3, [[(2, .cells [.int .i64 0]), (1, .cells [fv]), (0, .cells [aNodes t])]]⟩).ts (sF t fv ⟨3, [[(2, .cells [.int .i64 0]), (1, .cells [fv]), (0, .cells [aNodes t])]]⟩).sz (#[9, 10] : Array Nat).toList asF bdF)) = _ := hc
  rw [e]
  cases r <;> rfl
theorem c34 {T : List (Entry Tryz.prog)} (hO : findE 22 T = some e22.g) (hE : findE 30 T = some e30.g) (t : Tr) (ht : smallTr t) (clo : FuncId) (cap : List AV) (hcap : pureL cap = true) (p : Nd → Bool) (hp : ∀ n, n ∈ t → CallAt (ctx T) clo (aNode n :: cap) ⟨0, []⟩ (.bool (p n)) ⟨0, []⟩) :
    CallAt (ctx T) 34 [aTree t, fnV clo cap] ⟨0, []⟩ (.int .i64 ((firstB t p).getD 0)) ⟨0, []⟩ := by
  have hk := fun H => k30 hE t H
  have hcall := call_first hO t ht clo cap hcap p hp
  simp only [fnV] at hcall ⊢
  simp only [aTree] at hk
  refine callAt_body (fn := Tryz.f34) (s0 := ⟨[0, 1, 2, 3, 4, 5, 6, 8, 9, 10], [aTree t, .func (.func clo) [] cap, .undef, .undef, .undef, .undef, .undef, .undef, .undef, .undef], [], 15, ⟨0, [[]]⟩⟩) Tryz.func34 rfl rfl rfl ?_
  repeat refine wps_seq ?_
  refine wps_region callOK ?_
  simp [ofV, ofV1, mkC_P, writeVar, writeCells, readCells, allSingle, AV.single, getFs, getF, setFs, setF, Heap.get, Heap.set, Heap.new, Heap.kill, killF, pushF, Heap.ready, refs, sliceParts, fillA, replL, aTree]
  repeat refine wps_seq ?_
  refine wps_region callOK ?_
  simp [ofV, ofV1, mkC_P, writeVar, writeCells, readCells, allSingle, AV.single, getFs, getF, setFs, setF, Heap.get, Heap.set, Heap.new, Heap.kill, killF, pushF, Heap.ready, refs, sliceParts, fillA, replL, hk]
  repeat refine wps_seq ?_
  refine wps_block ?_
  refine wps_range (callOKF [⟨48, _, _, _, _, hcall⟩]) ⟨_, _, range_first (T := T) t (.func (.func clo) [] cap) (firstB t p) (by simp [callF]), ?_⟩
  generalize firstB t p = r
  cases r with
  | none =>
    simp [outF, sF, hX]
    repeat refine wps_seq ?_
    refine wps_region callOK ?_
    simp [ofV, ofV1, mkC_P, writeVar, writeCells, readCells, allSingle, AV.single, getFs, getF, setFs, setF, Heap.get, Heap.set, Heap.new, Heap.kill, killF, pushF, Heap.ready, refs, sliceParts, fillA, replL]
    repeat refine wps_seq ?_
    refine wps_ret ?_
    simp [retVal, Tryz.f34, oneOr]
    exact ⟨[.int .i64 0], rfl, [], [], fitV_pure rfl, FitH.empty⟩
  | some i =>
    simp [outF, sF, hX, thenQ, blockQ]
    exact ⟨[.int .i64 i], rfl, [], [], fitV_pure rfl, FitH.empty⟩
def firstId (t : Tr) (v : Str) : Int := (firstB t fun n => hasB n wId v).getD 0
theorem c18 {T : List (Entry Tryz.prog)} (hO : findE 22 T = some e22.g) (hE : findE 30 T = some e30.g) (hH : findE 36 T = some e36.g) (t : Tr) (ht : smallTr t) (v : Str) :
    CallAt (ctx T) 18 [aTree t, .str v] ⟨0, []⟩ (.int .i64 (firstId t v)) ⟨0, []⟩ := by
  have hc := c34 hO hE t ht 35 [.fptr [.str v] 0] rfl (fun n => hasB n wId v) fun n hn => c35 hH n v (ht.2.2 n hn).2
  have hcall := CallAt.thaw hc rfl [] (H := ⟨2, [[(1, .cells [.str v]), (0, .cells [aNodes t])]]⟩) (args := [aTree t, .func (.func 35) [] [.ptr 1 0]]) (by simp [fnV, th_aTree, thawA_clo (H := ⟨2, [[(1, .cells [.str v]), (0, .cells [aNodes t])]]⟩) (b := 1) (cs := [.str v]) rfl rfl])
  refine callAt_body (fn := Tryz.f18) (s0 := ⟨[0, 1, 2, 3, 4], [aTree t, .str v, .undef, .undef, .undef], [], 8, ⟨0, [[]]⟩⟩) Tryz.func18 rfl rfl rfl ?_
  repeat refine wps_seq ?_
  refine wps_region callOK ?_
  simp [ofV, ofV1, mkC_P, writeVar, writeCells, readCells, allSingle, AV.single, getFs, getF, setFs, setF, Heap.get, Heap.set, Heap.new, Heap.kill, killF, pushF, Heap.ready, refs, sliceParts, fillA, replL, aTree]
  repeat refine wps_seq ?_
  refine wps_region (callOKF [⟨34, _, _, _, _, hcall⟩]) ?_
  simp [ofV, ofV1, mkC_P, writeVar, writeCells, readCells, allSingle, AV.single, getFs, getF, setFs, setF, Heap.get, Heap.set, Heap.new, Heap.kill, killF, pushF, Heap.ready, refs, sliceParts, fillA, replL, callF, aTree]
  repeat refine wps_seq ?_
  refine wps_ret ?_
  simp [retVal, Tryz.f18, oneOr, thenQ, blockQ]
  exact ends_pure rfl (by rfl)
noncomputable def e18 : Entry Tryz.prog := mkE 18 [[], []] (fun x : Tr × Str => [aTree x.1, .str x.2]) (fun x => smallTr x.1) (fun x => .int .i64 (firstId x.1 x.2)) fun x hx => c18 (T := [e22, e30, e36]) rfl rfl rfl x.1 hx x.2
theorem k18 {T : List (Entry Tryz.prog)} (hT : findE 18 T = some e18.g) {t : Tr} (ht : smallTr t) (v : Str) (H : Heap) : callL (ctx T) (.fn 18) [aTree t, .str v] H = some (.int .i64 (firstId t v), H) :=
  mkE_scalar hT injTS (t, v) ht rfl (by simp [th_aTree])
end Go.Proofs.YtbeigoejdiilmaaGreat
namespace Go.Proofs.YtbeigoejdiilmaaGreat
set_option linter.unusedSimpArgs false
set_option linter.unusedVariables false
open Go Go.RowKit
set_option maxRecDepth 100000

@[simp] theorem szT76 : sizeT Tryz.prog 76 = some 1 := rfl
@[simp] theorem agT76 : aggT Tryz.prog 76 = some false := rfl
@[simp] theorem byT76 : bytesT Tryz.prog 76 = some 8 := rfl
@[simp] theorem alT76 (H : Heap) : alV Tryz.prog H 76 = some (.ptr H.n 0, H.new (.cells [.nilM])) := rfl
@[simp] theorem zeT76 : zeroOf Tryz.prog 76 = some (.nilM) := rfl
attribute [simp] Tryz.underlying76
@[simp 500] theorem rvF76 (H : Heap) (cs : List AV) (o : Nat) : readVar Tryz.prog H 76 (.fptr cs o) = getL cs o := rfl
@[simp 500] theorem rvP76 (H : Heap) (b o : Nat) : readVar Tryz.prog H 76 (.ptr b o) = (H.get b).bind fun k => k.rd.bind fun cs => getL cs o := rfl
theorem FitH.own1g {k b m' : Nat} {τ : List (Nat × Nat)} {es : List AV} {sz : Nat} {H : Heap} {g : List (Nat × Blk)} (he : Elems sz es) (hb : es ≠ [] → H.get b = some (.cells (flatAV es)))
    (n1 : (((b, k) :: τ).map (·.1)).Nodup) (n2 : (((b, k) :: τ).map (·.2)).Nodup) (n3 : (k :: g.map (·.1)).Nodup) (lt : ∀ x, x ∈ (b, k) :: τ → x.2 < m')
    (src : ∀ e, e ∈ g → ∃ b0 x, (b0, e.1) ∈ τ ∧ H.get b0 = some x ∧ fitB ((b, k) :: τ) [] x e.2) : FitH 0 ((b, k) :: τ) [] H ⟨m', [ownF k es ++ g]⟩ where
  nd1 := by simpa using n1
  nd2 := n2
  nd3 := by
    cases es with
    | nil => rw [List.nodup_cons] at n3; simpa [ownF, Heap.ents] using n3.2
    | cons x r => simpa [ownF, Heap.ents] using n3
  lt := lt
  idn := fun x hx h => by omega
  num := Nat.zero_le _
  src := by
    intro e h
    cases hes : es with
    | nil =>
      rw [hes] at h
      simp [ownF, Heap.ents] at h
      obtain ⟨b', x, h1, h2⟩ := src e h
      exact ⟨b', x, List.mem_cons_of_mem _ h1, h2⟩
    | cons x r =>
      rw [hes] at h
      simp only [ownF, Heap.ents, List.flatten_cons, List.flatten_nil, List.append_nil, List.cons_append, List.nil_append, List.mem_cons] at h
      rcases h with rfl | h
      · exact ⟨b, .cells (flatAV (x :: r)), List.mem_cons_self, by rw [hb (by simp [hes]), hes], show fitL _ _ (flatAV (x :: r)) (flatAV (x :: r)) from fitL_pure (by rw [← hes]; exact he.pure)⟩
      · obtain ⟨b', x, h1, h2⟩ := src e h
        exact ⟨b', x, List.mem_cons_of_mem _ h1, h2⟩
  frz := fun x h => by cases h
def mapOK : Option TypeDesc → Bool
  | some (.map _ _) => true
  | _ => false
def mmsV (P : Program) (t : TypeId) (H : Heap) : Option AV → Option (AV × Heap)
  | some (.int _ _) => bif mapOK (P.underlying t) then some (.map H.n, H.new (.map [])) else none
  | _ => none
@[simp] theorem mmsV_int {P : Program} {t : TypeId} {H : Heap} {k : IntKind} {n : Int} : mmsV P t H (some (.int k n)) = bif mapOK (P.underlying t) then some (.map H.n, H.new (.map [])) else none := rfl
@[simp] theorem mapOK_map {a b : TypeId} : mapOK (some (.map a b)) = true := rfl
@[simp] theorem ev_mms {C : Ctx} {call : CallE} {d : Option Tmp} {t ty : TypeId} {x : Operand} {pos : String} {af : Array Edge} {g : Option (Nat × Bool)} {s : St} :
    evalVal C call ⟨d, .makeMap t (some x), ty, pos, af, g⟩ s = mmsV C.P t s.H (opnd s x) := by
  show (mkBlk C _ s).bind _ = _
  unfold mkBlk
  simp only
  cases opnd s x with
  | none => rfl
  | some v =>
    simp only [Option.bind_some]
    cases hu : C.P.underlying t with
    | none => cases v <;> simp [mmsV, mapOK, hu]
    | some u => cases u <;> cases v <;> simp [mmsV, mapOK, hu]
theorem own_set {b : Nat} {es : List AV} {k x : Blk} (h : b ≠ 0) : setF 0 k (ownF b es ++ [(0, x)]) = some (ownF b es ++ [(0, k)]) := by
  cases es with
  | nil => rfl
  | cons e r =>
    have : Nat.beq b 0 = false := beqN_ne h
    simp [ownF, setF, this]
def oneU (_ : Unit) : AV := .int .i64 1
def mapSt : MapT Tryz.prog 76 AV.str oneU where
  tk := 9
  te := 3
  kd := _
  hu := Tryz.underlying76
  hk := Tryz.underlying9
  eq := fun a b => by
    show some (eqB a b) = _
    rw [eqB_eq]
  pure := fun a v => rfl
def keyed (L : List Str) : List (Str × Unit) := L.map fun s => (s, ())
theorem keyed_get {w : Str} : ∀ (L : List Str), getM w (keyed L) = if w ∈ L then some () else none
  | [] => rfl
  | x :: r => by
    have ih := keyed_get (w := w) r
    simp only [keyed, List.map_cons, getM] at ih ⊢
    by_cases h : x = w
    · subst h; simp
    · have h' : ¬ w = x := fun e => h e.symm
      simp only [h, if_false, List.mem_cons, h', false_or]
      exact ih
theorem keyed_set {w : Str} : ∀ {L : List Str}, w ∉ L → setM w () (keyed L) = keyed (L ++ [w])
  | [], _ => rfl
  | x :: r, h => by
    have h1 : ¬ x = w := fun e => h (by simp [e])
    have ih := keyed_set (w := w) (L := r) fun e => h (by simp [e])
    simp only [keyed, List.map_cons, setM, h1, if_false, List.cons_append] at ih ⊢
    rw [ih]
theorem pure_keyed (L : List Str) : pureL ((entsM AV.str oneU (keyed L)).map (·.1)) = true ∧ pureL ((entsM AV.str oneU (keyed L)).map (·.2)) = true := by
  induction L with
  | nil => exact ⟨rfl, rfl⟩
  | cons x r ih => exact ⟨by simpa [keyed, entsM, pureL, pureV] using ih.1, by simpa [keyed, entsM, pureL, pureV, oneU] using ih.2⟩
def onceS (a : List Str) (x : Str) : List Str := if x ∈ a then a else a ++ [x]
def onceL (L : List Str) : List Str := L.foldl onceS []
theorem once_at {L : List Str} {i : Nat} (h : i < L.length) : onceL (L.take (i + 1)) = onceS (onceL (L.take i)) L[i] := by
  rw [List.take_succ_eq_append_getElem h]; simp only [onceL, List.foldl_append, List.foldl_cons, List.foldl_nil]
theorem once_len : ∀ (L a : List Str), (L.foldl onceS a).length ≤ a.length + L.length
  | [], a => by simp
  | x :: r, a => by
    have := once_len r (onceS a x)
    simp only [List.foldl_cons, List.length_cons]
    have h1 : (onceS a x).length ≤ a.length + 1 := by unfold onceS; split <;> simp
    omega
theorem c31 {T : List (Entry Tryz.prog)} (L : List Str) (hl : L.length ≤ 1000000) : CallAt (ctx T) 31 [aStrs L] ⟨0, []⟩ (ownV 0 1 ((onceL L).map .str)) ⟨1, [ownF 0 ((onceL L).map .str)]⟩ := by
  have fm : ∀ (σ : List (Nat × Nat)) (M : List Str), fitB σ [] (.map (entsM AV.str oneU (keyed M))) (.map (entsM AV.str oneU (keyed M))) := fun σ M => ⟨fitL_pure (pure_keyed M).1, fitL_pure (pure_keyed M).2⟩
  refine callAt_body (fn := Tryz.f31) (s0 := ⟨[0, 2, 3, 4, 6, 10, 11, 12], [aStrs L, .undef, .undef, .undef, .undef, .undef, .undef, .undef], [], 28, ⟨0, [[]]⟩⟩) Tryz.func31 rfl rfl rfl ?_
  repeat refine wps_seq ?_
  refine wps_region callOK ?_
  simp [ofV, ofV1, mkC_P, writeVar, writeCells, readCells, allSingle, AV.single, getFs, getF, setFs, setF, Heap.get, Heap.set, Heap.new, Heap.kill, killF, pushF, Heap.ready, refs, sliceParts, fillA, replL]
  repeat refine wps_seq ?_
  refine wps_region callOK ?_
  simp [ofV, ofV1, mkC_P, writeVar, writeCells, readCells, allSingle, AV.single, getFs, getF, setFs, setF, Heap.get, Heap.set, Heap.new, Heap.kill, killF, pushF, Heap.ready, refs, sliceParts, fillA, replL, lenS]
  repeat refine wps_seq ?_
  refine wps_region callOK ?_
  simp [ofV, ofV1, mkC_P, writeVar, writeCells, readCells, allSingle, AV.single, getFs, getF, setFs, setF, Heap.get, Heap.set, Heap.new, Heap.kill, killF, pushF, Heap.ready, refs, sliceParts, fillA, replL]
  repeat refine wps_seq ?_
  refine wps_region callOK ?_
  simp [ofV, ofV1, mkC_P, writeVar, writeCells, readCells, allSingle, AV.single, getFs, getF, setFs, setF, Heap.get, Heap.set, Heap.new, Heap.kill, killF, pushF, Heap.ready, refs, sliceParts, fillA, replL, lenS]
  repeat refine wps_seq ?_
  refine wps_block (wps_loop' (fun i : Nat => (⟨[0, 2, 3, 4, 6, 10, 11, 12], [.undef, .undef, .map 0, ownV 1 1 ((onceL (L.take i)).map .str), .undef, aStrs L, .int .i64 (L.length : Nat), .int .i64 i], [], 28, ⟨2, [ownF 1 ((onceL (L.take i)).map .str) ++ [(0, .map (entsM AV.str oneU (keyed (onceL (L.take i)))))]]⟩⟩ : St))
    (fun i => i ≤ L.length) (fun i => L.length - i) [(1, 1), (0, 0)] [] 0 (Nat.zero_le _)
    ⟨rfl, rfl, rfl, by simp [fitL, fitV, lookN, pureV, onceL, ownV, aStrs], .own1g (el_str _) (by simp [onceL]) (by simp) (by simp) (by simp) (by simp) (by simp [onceL, Heap.get, getFs, getF, keyed, entsM, fitB, fitL])⟩ ?_)
  rintro i hi B hB
  have hlen := once_len (L.take i) []
  simp only [List.length_take, List.length_nil] at hlen
  have hlen : (onceL (L.take i)).length ≤ i := by simp only [onceL]; omega
  repeat refine wps_seq ?_
  refine wps_region callOK ?_
  simp [ofV, ofV1, mkC_P, writeVar, writeCells, readCells, allSingle, AV.single, getFs, getF, setFs, setF, Heap.get, Heap.set, Heap.new, Heap.kill, killF, pushF, Heap.ready, refs, sliceParts, fillA, replL]
  repeat refine wps_seq ?_
  refine wps_cond rfl (fun h => ?_) fun h => ?_
  · simp at h
    repeat refine wps_seq ?_
    refine wps_skip ?_
    simp
    repeat refine wps_seq ?_
    refine wps_block ?_
    repeat refine wps_seq ?_
    refine wps_region callOK ?_
    simp [ofV, ofV1, mkC_P, writeVar, writeCells, readCells, allSingle, AV.single, getFs, getF, setFs, setF, Heap.get, Heap.set, Heap.new, Heap.kill, killF, pushF, Heap.ready, refs, sliceParts, fillA, replL, atS h]
    have hst := once_at h
    obtain ⟨O, hO⟩ : ∃ O, O = onceL (L.take i) := ⟨_, rfl⟩
    rw [← hO] at hst hlen ⊢
    have hg : ∀ m, Heap.get ⟨m, [ownF 1 (O.map .str) ++ [(0, .map (entsM AV.str oneU (keyed O)))]]⟩ 0 = some (.map (entsM AV.str oneU (keyed O))) := fun m => by simp [Heap.get, getFs, own_skip, getF]
    have hlk := mapSt.look (H := ⟨2, [ownF 1 (O.map .str) ++ [(0, .map (entsM AV.str oneU (keyed O)))]]⟩) (b := 0) zeT3 (hg 2) L[i]
    rw [keyed_get] at hlk
    by_cases hm : L[i] ∈ O
    · rw [onceS, if_pos hm] at hst
      rw [if_pos hm] at hlk
      repeat refine wps_seq ?_
      refine wps_region callOK ?_
      simp [ofV, ofV1, mkC_P, writeVar, writeCells, readCells, allSingle, AV.single, getFs, getF, setFs, setF, Heap.get, Heap.set, Heap.new, Heap.kill, killF, pushF, Heap.ready, refs, sliceParts, fillA, replL, hlk, oneU]
      repeat refine wps_seq ?_
      refine wps_cond (t := false) rfl (fun h => by cases h) fun _ => ?_
      repeat refine wps_seq ?_
      refine wps_skip ?_
      simp
      repeat refine wps_seq ?_
      refine wps_region callOK ?_
      simp [ofV, ofV1, mkC_P, writeVar, writeCells, readCells, allSingle, AV.single, getFs, getF, setFs, setF, Heap.get, Heap.set, Heap.new, Heap.kill, killF, pushF, Heap.ready, refs, sliceParts, fillA, replL, add_one (show i ≤ 1000000000 by omega)]
      refine hB _ (i + 1) (by omega) (by omega) ⟨[(1, 1), (0, 0)], [], rfl, rfl, rfl, ?_, ?_⟩
      · rw [hst]; simp [fitL, fitV, lookN, fitV_own, pureV, aStrs]
      · rw [hst]; exact .own1g (el_str _) (fun h => by simp [Heap.get, getFs, own_get h]) (by simp) (by simp) (by simp) (by simp) (by simp [hg, fm])
    · rw [onceS, if_neg hm] at hst
      rw [if_neg hm] at hlk
      have hup := mapSt.update (H := ⟨2, [ownF 1 (O.map .str) ++ [(0, .map (entsM AV.str oneU (keyed O)))]]⟩) (b := 0) (hg 2) L[i] ()
      rw [keyed_set hm] at hup
      have happ := own_app1 (P := Tryz.prog) (elem := 9) (b := 1) (t := 2) (m := 3) (es := O.map .str) (cs := [.str L[i]]) (g := [(0, .map (entsM AV.str oneU (keyed (O ++ [L[i]]))))]) (fs := []) szT9 byT9 zeT9 rfl (by omega) (by omega) rfl rfl (el_str _) (by simp; omega) (by omega) (by simp) (by simp)
      repeat refine wps_seq ?_
      refine wps_region callOK ?_
      simp [ofV, ofV1, mkC_P, writeVar, writeCells, readCells, allSingle, AV.single, getFs, getF, setFs, setF, Heap.get, Heap.set, Heap.new, Heap.kill, killF, pushF, Heap.ready, refs, sliceParts, fillA, replL, hlk]
      repeat refine wps_seq ?_
      refine wps_cond (t := true) rfl (fun _ => ?_) fun h => by cases h
      simp only [Heap.set, setFs, own_set (show (1 : Nat) ≠ 0 by omega), Option.bind_some, oneU] at hup
      repeat refine wps_seq ?_
      refine wps_region callOK ?_
      simp [ofV, ofV1, mkC_P, writeVar, writeCells, readCells, allSingle, AV.single, getFs, getF, setFs, setF, Heap.get, Heap.set, Heap.new, Heap.kill, killF, pushF, Heap.ready, refs, sliceParts, fillA, replL, hup]
      repeat refine wps_seq ?_
      refine wps_region callOK ?_
      simp [ofV, ofV1, mkC_P, writeVar, writeCells, readCells, allSingle, AV.single, getFs, getF, setFs, setF, Heap.get, Heap.set, Heap.new, Heap.kill, killF, pushF, Heap.ready, refs, sliceParts, fillA, replL, happ]
      repeat refine wps_seq ?_
      refine wps_region callOK ?_
      simp [ofV, ofV1, mkC_P, writeVar, writeCells, readCells, allSingle, AV.single, getFs, getF, setFs, setF, Heap.get, Heap.set, Heap.new, Heap.kill, killF, pushF, Heap.ready, refs, sliceParts, fillA, replL, add_one (show i ≤ 1000000000 by omega)]
      have hne : (onceL (L.take (i + 1))).map AV.str ≠ [] := by rw [hst]; simp
      refine hB _ (i + 1) (by omega) (by omega) ⟨[(3, 1), (0, 0)], [], rfl, rfl, rfl, ?_, .own1g (el_str _) (fun _ => ?_) (by simp) (by simp) (by simp) (by simp) ?_⟩
      · rw [ownV_ne hne, hst]; simp [fitL, fitV, lookN, pureV, aStrs]
      · rw [hst, List.map_append, flat_append]; simp [Heap.get, getFs, getF, flatAV]
      · rw [hst]; simp [Heap.get, getFs, getF, fm]
  · simp at h
    repeat refine wps_seq ?_
    refine wps_exit ?_
    simp
    repeat refine wps_seq ?_
    refine wps_region callOK ?_
    simp [ofV, ofV1, mkC_P, writeVar, writeCells, readCells, allSingle, AV.single, getFs, getF, setFs, setF, Heap.get, Heap.set, Heap.new, Heap.kill, killF, pushF, Heap.ready, refs, sliceParts, fillA, replL]
    repeat refine wps_seq ?_
    refine wps_ret ?_
    simp [retVal, Tryz.f31, oneOr]
    rw [List.take_of_length_le h]
    exact ⟨[(1, 0)], [], fitV_own (by simp [lookN]), by have := FitH.own1g (k := 0) (b := 1) (m' := 1) (τ := []) (g := []) (H := ⟨2, [ownF 1 ((onceL L).map .str) ++ [(0, .map (entsM AV.str oneU (keyed (onceL L))))]]⟩) (el_str (onceL L)) (fun h => by simp [Heap.get, getFs, getF, own_get h]) (by simp) (by simp) (by simp) (by simp) (by simp); simpa using this⟩
end Go.Proofs.YtbeigoejdiilmaaGreat
namespace Go.Proofs.YtbeigoejdiilmaaGreat
set_option linter.unusedSimpArgs false
set_option linter.unusedVariables false
open Go Go.RowKit
set_option maxRecDepth 100000

/-- the cells of a row of words -/
def strC (L : List Str) : List AV := L.map AV.str
theorem el_strC (L : List Str) : Elems 1 (strC L) := el_str L
theorem strC_app {L : List Str} {v : Str} : strC (L ++ [v]) = strC L ++ [.str v] := by simp [strC]
theorem strC_ne {L : List Str} (h : L ≠ []) : strC L ≠ [] := by simpa [strC] using h
@[simp] theorem len_strC (L : List Str) : (strC L).length = L.length := by simp [strC]
@[simp] theorem strC_nil : strC [] = [] := rfl
@[simp] theorem flat_strC (L : List Str) : flatAV (strC L) = strC L := by
  unfold strC
  induction L with
  | nil => rfl
  | cons x r ih => simp only [List.map_cons, flatAV, ih]; rfl
@[simp] theorem pure_strC (L : List Str) : pureL (strC L) = true := by have := (el_strC L).pure; rwa [flat_strC] at this
theorem refs_strC (L : List Str) : refsB (.cells (strC L)) = [] := by
  show (L.map AV.str).flatMap (refs 4) = []
  induction L with
  | nil => rfl
  | cons x r ih => rw [List.map_cons, List.flatMap_cons, ih]; rfl
noncomputable def asA : Code := match Tryz.f15.body with
  | some c => match rgOf c with
    | some x => x.1
    | none => .skip
  | none => .skip
noncomputable def bdA : Code := match Tryz.f15.body with
  | some c => match rgOf c with
    | some x => x.2
    | none => .skip
  | none => .skip
noncomputable def LBa (st : LoopState) (ts : List (Nat × AV)) (t : Tr) : Blk := .loop st none [0, 1, 2, 3, 4, 6, 7, 9, 10, 11, 12, 13, 14] [aTree t, .ptr 0 0, .nilS, .ptr 1 0, .undef, .undef, .undef, fE t, .undef, .undef, .undef, .undef, .undef] ts 31 [10, 11] asA bdA
noncomputable def gA (st : LoopState) (t : Tr) (k : Nat) (L : List Str) : List (Nat × Blk) := [(2, LBa st [] t), (1, .cells [ownV k 1 (strC L)]), (0, .cells [aNodes t])]
noncomputable def loA (st : LoopState) (t : Tr) (k : Nat) (L : List Str) : List (Nat × Blk) := ownF k (strC L) ++ gA st t k L
theorem LBa_fit {st : LoopState} {ts : List (Nat × AV)} {t : Tr} (σ : List (Nat × Nat)) (h0 : lookN 0 σ = some 0) (h1 : lookN 1 σ = some 1) : fitB σ [] (LBa st ts t) (LBa st [] t) := by
  simp [LBa, fitB, fitL, fitV, h0, h1, fitV_pure, pure_fE]
theorem ownF_mem {k : Nat} {es : List AV} {e : Nat × Blk} (h : e ∈ ownF k es) : e = (k, .cells (flatAV es)) ∧ es ≠ [] := by
  cases es with
  | nil => cases h
  | cons x r => exact ⟨by simpa [ownF] using h, by simp⟩
/-- the rows of All beside others: one number changed into another -/
theorem fitA {n m m' k k' : Nat} {st : LoopState} {t : Tr} {L : List Str} {top top' : List (List (Nat × Blk))} {τ : List (Nat × Nat)} (hk : 3 ≤ k) (hk' : 3 ≤ k') (hm : k' < m') (hnm : n ≤ m') (hn : k < n ∨ k' < n → k = k')
    (hτ : ∀ x, x ∈ τ → x.1 = x.2 ∧ 3 ≤ x.1 ∧ x.1 < m' ∧ x.1 ≠ k ∧ x.1 ≠ k') (ndτ : (τ.map (·.1)).Nodup) (ht : ∀ e, e ∈ top'.flatten → (e.1, e.1) ∈ τ ∧ ∃ cs, getFs e.1 top = some (.cells cs) ∧ e.2 = .cells cs ∧ pureL cs = true) (nd : (top'.flatten.map (·.1)).Nodup)
    (h3 : ∀ b, b < 3 ∨ b = k → getFs b top = none) : FitH n ((k, k') :: (2, 2) :: (1, 1) :: (0, 0) :: τ) [] ⟨m, top ++ [loA st t k L]⟩ ⟨m', top' ++ [loA st t k' L]⟩ := by
  have get : ∀ b, (Heap.get ⟨m, top ++ [loA st t k L]⟩ b) = match getFs b top with | some x => some x | none => getF b (loA st t k L) := fun b => by
    show getFs b (top ++ [loA st t k L]) = _
    clear ht h3
    induction top with
    | nil =>
      show getFs b [loA st t k L] = _
      simp only [getFs]
      cases getF b (loA st t k L) <;> rfl
    | cons f r ih =>
      rw [List.cons_append]
      simp only [getFs]
      cases getF b f with
      | some x => rfl
      | none => exact ih
  have e3 : ∀ b, b < 3 → getF b (loA st t k L) = getF b (gA st t k L) := fun b hb => own_skip (by omega)
  have dj : ∀ e, e ∈ top'.flatten → e.1 ≠ k' ∧ 3 ≤ e.1 := fun e he => let h := hτ _ (ht e he).1; ⟨h.2.2.2.2, h.2.1⟩
  refine ⟨?_, ?_, ?_, ?_, ?_, hnm, ?_, fun x h => by cases h⟩
  · simp only [List.map_cons, List.map_nil, List.append_nil, List.nodup_cons, List.mem_cons, List.mem_map, not_or]
    refine ⟨⟨by omega, by omega, by omega, ?_⟩, ⟨by omega, by omega, ?_⟩, ⟨by omega, ?_⟩, ?_, ndτ⟩
    all_goals
      rintro ⟨x, hx, h⟩
      have := hτ x hx
      omega
  · have e : τ.map (·.2) = τ.map (·.1) := List.map_congr_left fun x hx => (hτ x hx).1.symm
    simp only [List.map_cons, e, List.nodup_cons, List.mem_cons, List.mem_map, not_or]
    refine ⟨⟨by omega, by omega, by omega, ?_⟩, ⟨by omega, by omega, ?_⟩, ⟨by omega, ?_⟩, ?_, ndτ⟩
    all_goals
      rintro ⟨x, hx, h⟩
      have := hτ x hx
      omega
  · simp only [Heap.ents, List.flatten_append, List.flatten_cons, List.flatten_nil, List.append_nil, List.map_append]
    refine List.nodup_append.2 ⟨nd, ?_, ?_⟩
    · cases hs : strC L with
      | nil => simp [loA, gA, ownF, hs]
      | cons x r => simp [loA, gA, ownF, hs]; omega
    · intro a ha b hb
      obtain ⟨e, he, rfl⟩ := List.mem_map.1 ha
      obtain ⟨h1, h2⟩ := dj e he
      rintro rfl
      obtain ⟨e', he', h⟩ := List.mem_map.1 hb
      simp only [loA, gA, List.mem_append, List.mem_cons, List.not_mem_nil, or_false] at he'
      rcases he' with he' | rfl | rfl | rfl
      · have := (ownF_mem he').1; rw [this] at h; exact h1 h.symm
      all_goals simp at h; omega
  · intro x hx
    simp only [List.mem_cons] at hx
    rcases hx with rfl | rfl | rfl | rfl | hx
    · exact hm
    · show 2 < m'; omega
    · show 1 < m'; omega
    · show 0 < m'; omega
    · have := hτ x hx; show x.2 < m'; omega
  · intro x hx h
    simp only [List.mem_cons] at hx
    rcases hx with rfl | rfl | rfl | rfl | hx
    · exact hn h
    · rfl
    · rfl
    · rfl
    · exact (hτ x hx).1
  · intro e he
    simp only [Heap.ents, List.flatten_append, List.flatten_cons, List.flatten_nil, List.append_nil, List.mem_append] at he
    have lk0 : lookN 0 ((k, k') :: (2, 2) :: (1, 1) :: (0, 0) :: τ) = some 0 := by simp [lookN, show ¬ k = 0 by omega]
    have lk1 : lookN 1 ((k, k') :: (2, 2) :: (1, 1) :: (0, 0) :: τ) = some 1 := by simp [lookN, show ¬ k = 1 by omega]
    rcases he with he | he
    · obtain ⟨h1, cs, h2, h3', h4⟩ := ht e he
      exact ⟨e.1, .cells cs, by simp [h1], by rw [get, h2], by rw [h3']; exact fitL_pure h4⟩
    · simp only [loA, gA, List.mem_append, List.mem_cons, List.not_mem_nil, or_false] at he
      rcases he with he | rfl | rfl | rfl
      · obtain ⟨rfl, hne⟩ := ownF_mem he
        exact ⟨k, .cells (flatAV (strC L)), by simp, by rw [get, h3 k (.inr rfl)]; simp only [loA]; rw [own_get hne], show fitL _ _ _ _ from fitL_pure (el_strC L).pure⟩
      · exact ⟨2, LBa st [] t, by simp, by rw [get, h3 2 (.inl (by omega)), e3 2 (by omega)]; rfl, LBa_fit _ lk0 lk1⟩
      · exact ⟨1, .cells [ownV k 1 (strC L)], by simp, by rw [get, h3 1 (.inl (by omega)), e3 1 (by omega)]; rfl, by simp [fitB, fitL, fitV_own (b := k) (b' := k') (show lookN k ((k, k') :: (2, 2) :: (1, 1) :: (0, 0) :: τ) = some k' by simp [lookN])]⟩
      · exact ⟨0, .cells [aNodes t], by simp, by rw [get, h3 0 (.inl (by omega)), e3 0 (by omega)]; rfl, show fitL _ _ _ _ from fitL_pure (by simp [pureL])⟩
end Go.Proofs.YtbeigoejdiilmaaGreat
namespace Go.Proofs.YtbeigoejdiilmaaGreat
set_option linter.unusedSimpArgs false
set_option linter.unusedVariables false
open Go Go.RowKit
set_option maxRecDepth 100000

def addS (L : List Str) (v : Str) : List Str := if v = [] then L else L ++ [v]
def stepA (t : Tr) (i : Int) (L : List Str) : Nat → List Str
  | 0 => L
  | 1 => addS L (valueB t i wId)
  | _ => addS (addS L (valueB t i wId)) (valueB t i wName)
def nxA (t : Tr) (L : List Str) (i : Int) : List Str := stepA t i L 2
def kA (L L' : List Str) : Nat := if L'.length = L.length then 3 else 6
theorem addS_len (L : List Str) (v : Str) : L.length ≤ (addS L v).length ∧ (addS L v).length ≤ L.length + 1 := by
  unfold addS; split <;> simp
theorem stepA_len (t : Tr) (i : Int) (L : List Str) (j : Nat) : L.length ≤ (stepA t i L j).length ∧ (stepA t i L j).length ≤ L.length + 2 := by
  have h1 := addS_len L (valueB t i wId)
  have h2 := addS_len (addS L (valueB t i wId)) (valueB t i wName)
  match j with
  | 0 => simp [stepA]
  | 1 => simp only [stepA]; omega
  | j + 2 => simp only [stepA]; omega
section
variable {st st' : LoopState} {t : Tr} {k : Nat} {L : List Str}
theorem loA_0 (hk : 3 ≤ k) : getF 0 (loA st t k L) = some (.cells [aNodes t]) := by unfold loA; rw [own_skip (by omega)]; rfl
theorem loA_1 (hk : 3 ≤ k) : getF 1 (loA st t k L) = some (.cells [ownV k 1 (strC L)]) := by unfold loA; rw [own_skip (by omega)]; rfl
theorem loA_2 (hk : 3 ≤ k) : getF 2 (loA st t k L) = some (LBa st [] t) := by unfold loA; rw [own_skip (by omega)]; rfl
theorem loA_s (hk : 3 ≤ k) : setF 2 (LBa st' [] t) (loA st t k L) = some (loA st' t k L) := by
  unfold loA
  cases h : strC L with
  | nil => rfl
  | cons x r =>
    have e : Nat.beq k 2 = false := beqN_ne (by omega)
    simp [ownF, setF, e, gA, h]
end
theorem appA {t : Tr} {k : Nat} {L : List Str} {v : Str} {lits x : List AV} (hk : k = 3 ∨ k = 6) (hl : L.length ≤ 1000000) :
    appendA Tryz.prog ⟨8, [[(7, .cells [.str v]), (5, .cells lits)], [(4, .cells x)], loA .busy t k L]⟩ 9 (ownV k 1 (strC L)) (.slc 7 0 1 (.ex 1)) =
      some (.slc 8 0 (L.length + 1) (.rest 1), ⟨9, [[(8, .cells (strC (L ++ [v]))), (7, .cells [.str v]), (5, .cells lits)], [(4, .cells x)], gA .busy t k L]⟩) := by
  have k7 : Nat.beq 7 k = false := beqN_ne (by omega)
  have k5 : Nat.beq 5 k = false := beqN_ne (by omega)
  have k4 : Nat.beq 4 k = false := beqN_ne (by omega)
  have k2 : Nat.beq 2 k = false := beqN_ne (by omega)
  have k1 : Nat.beq 1 k = false := beqN_ne (by omega)
  have k0 : Nat.beq 0 k = false := beqN_ne (by omega)
  have hd : Heap.drop ⟨8, [[(7, .cells [.str v]), (5, .cells lits)], [(4, .cells x)], loA .busy t k L]⟩ k = ⟨8, [[(7, .cells [.str v]), (5, .cells lits)], [(4, .cells x)], gA .busy t k L]⟩ := by
    cases h : strC L with
    | nil => simp [Heap.drop, killFs, getF, k7, k5, k4, k2, k1, k0, loA, ownF, gA, h]
    | cons y r => simp [Heap.drop, killFs, killF, getF, k7, k5, k4, k2, k1, k0, loA, ownF, gA, h]
  have h := own_append (P := Tryz.prog) (H := ⟨8, [[(7, .cells [.str v]), (5, .cells lits)], [(4, .cells x)], loA .busy t k L]⟩) (elem := 9) (b := k) (n := 0) (es := strC L) (cs := [.str v]) (x := .slc 7 0 1 (.ex 1)) szT9 byT9 zeT9 rfl (by omega) (by omega) rfl
    (by simp [srcCells, readCells, Heap.get, getFs, getF, Blk.rd, subL, takeL]) rfl rfl (el_strC L) (by simp; omega) (fun he => by simp [Heap.get, getFs, getF, k7, k5, k4, loA, own_get he]) (fun he => by
      rw [hd]
      have : loA .busy t k L = gA .busy t k L := by simp [loA, he, ownF]
      rw [this]) (by intro cs; rfl)
  rw [hd, flat_strC, ← strC_app] at h
  simpa [Heap.new, pushF] using h
theorem promA {A B D X LB : Blk} {L : List Str} {r : List (Nat × Blk)} : promote 1 [8] [] [[(8, .cells (strC L)), (7, A), (5, B)], [(4, D)], (2, LB) :: (1, X) :: r] = [[(7, A), (5, B)], [(4, D)], (8, .cells (strC L)) :: (2, LB) :: (1, X) :: r] :=
  prom_gen (b := 1) (c := 8) (k := .cells (strC L)) (kb := X) rfl rfl rfl rfl (refs_strC L) rfl
theorem round_all {T : List (Entry Tryz.prog)} (hV : findE 17 T = some e17.g) (t : Tr) (ht : okTr t) (i0 : Int) (L : List Str) (hl : L.length ≤ 1000) :
    YieldAt (ctx T) 2 [.int .i64 i0, aNode (nodeAt t i0)] ⟨5, [[(4, .cells (nodeAt t i0).cs)], loA .ready t 3 L]⟩ (.bool true) ⟨7, [[(4, .cells (nodeAt t i0).cs)], loA .ready t (kA L (nxA t L i0)) (nxA t L i0)]⟩ := by
  generalize hH' : (⟨7, [[(4, .cells (nodeAt t i0).cs)], loA .ready t (kA L (nxA t L i0)) (nxA t L i0)]⟩ : Heap) = H'
  have kv := fun nm H => k17 hV ht i0 nm H
  simp only [aTree] at kv
  obtain ⟨n, hn⟩ : ∃ n, n = nodeAt t i0 := ⟨_, rfl⟩
  rw [← hn] at hH' ⊢
  refine yieldAt_body (b := 2) (pend := none) (ks := [0, 1, 2, 3, 4, 6, 7, 9, 10, 11, 12, 13, 14]) (vs := [aTree t, .ptr 0 0, .nilS, .ptr 1 0, .undef, .undef, .undef, fE t, .undef, .undef, .undef, .undef, .undef]) (ts := []) (sz := 31) (ps := [10, 11]) (assign := asA) (body := bdA)
    (s1 := ⟨[0, 1, 2, 3, 4, 6, 7, 9, 10, 11, 12, 13, 14], [aTree t, .ptr 0 0, .nilS, .ptr 1 0, .undef, .undef, .undef, fE t, .int .i64 i0, aNode n, .undef, .undef, .undef], [], 31, ⟨5, [] :: (⟨5, [[(4, .cells n.cs)], loA .ready t 3 L]⟩ : Heap).fs⟩⟩) (by simp [Heap.get, getFs, getF, loA_2, LBa]) rfl fun l => ?_
  simp only [asA, rgOf, Tryz.f15]
  repeat refine wps_seq ?_
  refine wps_region callOK ?_
  simp [ofV, ofV1, mkC_P, writeVar, writeCells, readCells, allSingle, AV.single, getFs, getF, setFs, setF, Heap.get, Heap.set, Heap.new, Heap.kill, killF, pushF, Heap.ready, refs, sliceParts, fillA, replL]
  refine ⟨none, _, _, [], _, _, _, _, by rw [loA_2 (by omega)]; rfl, ?_⟩
  have hset : setF 2 (.loop .busy none [0, 1, 2, 3, 4, 6, 7, 9, 10, 11, 12, 13, 14] [aTree t, .ptr 0 0, .nilS, .ptr 1 0, .undef, .undef, .undef, fE t, .undef, .undef, .undef, .undef, .undef] [] 31 [10, 11] asA bdA) (loA .ready t 3 L) = some (loA .busy t 3 L) := loA_s (by omega)
  rw [hset]
  simp only [bdA, rgOf, Tryz.f15]
  refine ⟨_, rfl, ?_⟩
  repeat refine wps_seq ?_
  refine wps_block ?_
  repeat refine wps_seq ?_
  refine wps_region callOK ?_
  simp [ofV, ofV1, mkC_P, writeVar, writeCells, readCells, allSingle, AV.single, getFs, getF, setFs, setF, Heap.get, Heap.set, Heap.new, Heap.kill, killF, pushF, Heap.ready, refs, sliceParts, fillA, replL, lenA]
  have hk0 : ∀ j, kA L (stepA t i0 L j) = 3 ∨ kA L (stepA t i0 L j) = 6 := fun j => by unfold kA; split <;> simp
  have fv : ∀ (k k' : Nat), 3 ≤ k → k ≠ 5 → lookN 0 [(k, k'), (2, 2), (1, 1), (0, 0), (5, 5), (4, 4)] = some 0 ∧ lookN 1 [(k, k'), (2, 2), (1, 1), (0, 0), (5, 5), (4, 4)] = some 1 ∧ lookN 5 [(k, k'), (2, 2), (1, 1), (0, 0), (5, 5), (4, 4)] = some 5 := fun k k' h h5 => by
    have h0 : ¬ k = 0 := by omega
    have h1 : ¬ k = 1 := by omega
    simp [lookN, h0, h1, h5]
  have ft : ∀ (m k k' : Nat) (L' : List Str) (f : List (Nat × Blk)), (k = k' ∨ (5 ≤ k ∧ k' = 6)) → (k = 3 ∨ k = 6 ∨ 7 ≤ k) → (k' = 3 ∨ k' = 6) → (∀ b, b < 5 ∨ b = k → getF b f = none) → getF 5 f = some (.cells [.str wId, .str wName]) → FitH 5 [(k, k'), (2, 2), (1, 1), (0, 0), (5, 5), (4, 4)] [] ⟨m, [f, [(4, .cells n.cs)], loA .busy t k L']⟩ ⟨7, [[(5, .cells [.str wId, .str wName])], [(4, .cells n.cs)], loA .busy t k' L']⟩ := fun m k k' L' f e1 e2 e3 hf h5 =>
    fitA (top := [f, [(4, .cells n.cs)]]) (top' := [[(5, .cells [.str wId, .str wName])], [(4, .cells n.cs)]]) (τ := [(5, 5), (4, 4)]) (by omega) (by omega) (by omega) (by omega) (by omega) (by simp; omega) (by simp) (by
      simp [getFs, h5, hf, pureL, pureV, getF]) (by simp) (by
      intro b hb
      have hb4 : Nat.beq 4 b = false := beqN_ne (by omega)
      simp [getFs, hf b (by omega), getF, hb4])
  repeat refine wps_seq ?_
  refine wps_block (wps_loop' (fun j : Nat => (⟨[0, 1, 2, 3, 4, 6, 7, 9, 10, 11, 12, 13, 14], [aTree t, .ptr 0 0, .nilS, .ptr 1 0, .int .i64 i0, .undef, .undef, fE t, .int .i64 i0, aNode n, .slc 5 0 2 (.ex 2), .int .i64 2, .int .i64 j], [], 31, ⟨7, [[(5, .cells [.str wId, .str wName])], [(4, .cells n.cs)], loA .busy t (kA L (stepA t i0 L j)) (stepA t i0 L j)]⟩⟩ : St))
    (fun j => j ≤ 2) (fun j => 2 - j) [(3, 3), (2, 2), (1, 1), (0, 0), (5, 5), (4, 4)] [] 0 (by omega) ⟨rfl, rfl, rfl, ?_, ?_⟩ ?_)
  · simp [fitL, fitV, lookN, pureV, pure_fE, fitV_pure]
  · have e : kA L (stepA t i0 L 0) = 3 := by simp [kA, stepA]
    rw [e]
    exact ft 6 3 3 L [(5, .cells [.str wId, .str wName])] (.inl rfl) (by omega) (by omega) (fun b hb => getF_one (by omega)) rfl
  rintro j hj B hB
  have hln := stepA_len t i0 L j
  repeat refine wps_seq ?_
  refine wps_region callOK ?_
  simp [ofV, ofV1, mkC_P, writeVar, writeCells, readCells, allSingle, AV.single, getFs, getF, setFs, setF, Heap.get, Heap.set, Heap.new, Heap.kill, killF, pushF, Heap.ready, refs, sliceParts, fillA, replL]
  repeat refine wps_seq ?_
  refine wps_cond rfl (fun h => ?_) fun h => ?_
  · simp at h
    repeat refine wps_seq ?_
    refine wps_skip ?_
    simp
    repeat refine wps_seq ?_
    refine wps_block ?_
    have hnm : ∃ nm, indexAddrA Tryz.prog 35 (.slc 5 0 2 (.ex 2)) (.int .i64 (j : Int)) = some (.ptr 5 j) ∧ getL [AV.str wId, AV.str wName] j = some (.str nm) ∧ stepA t i0 L (j + 1) = addS (stepA t i0 L j) (valueB t i0 nm) := by
      rcases (show j = 0 ∨ j = 1 by omega) with rfl | rfl
      · exact ⟨wId, rfl, rfl, rfl⟩
      · exact ⟨wName, rfl, rfl, rfl⟩
    obtain ⟨nm, x1, x2, x3⟩ := hnm
    have kv1 := fun H => kv nm H
    obtain ⟨v, hv⟩ : ∃ v, v = valueB t i0 nm := ⟨_, rfl⟩
    rw [← hv] at kv1 x3
    have hk := hk0 j
    have hk1 := hk0 (j + 1)
    have hkA : kA L (stepA t i0 L j) = 3 ↔ (stepA t i0 L j).length = L.length := by unfold kA; split <;> simp_all
    have hkA1 : kA L (stepA t i0 L (j + 1)) = 3 ↔ (stepA t i0 L (j + 1)).length = L.length := by unfold kA; split <;> simp_all
    generalize hS : stepA t i0 L j = S at *
    generalize hkS : kA L S = k at *
    repeat refine wps_seq ?_
    refine wps_region callOK ?_
    simp [ofV, ofV1, mkC_P, writeVar, writeCells, readCells, allSingle, AV.single, getFs, getF, setFs, setF, Heap.get, Heap.set, Heap.new, Heap.kill, killF, pushF, Heap.ready, refs, sliceParts, fillA, replL, x1, x2]
    repeat refine wps_seq ?_
    refine wps_region callOK ?_
    simp [ofV, ofV1, mkC_P, writeVar, writeCells, readCells, allSingle, AV.single, getFs, getF, setFs, setF, Heap.get, Heap.set, Heap.new, Heap.kill, killF, pushF, Heap.ready, refs, sliceParts, fillA, replL, loA_0 (show 3 ≤ k by omega), kv1]
    by_cases hz : v = []
    · repeat refine wps_seq ?_
      refine wps_region callOK ?_
      simp [ofV, ofV1, mkC_P, writeVar, writeCells, readCells, allSingle, AV.single, getFs, getF, setFs, setF, Heap.get, Heap.set, Heap.new, Heap.kill, killF, pushF, Heap.ready, refs, sliceParts, fillA, replL, hz]
      repeat refine wps_seq ?_
      refine wps_cond (t := false) rfl (fun h => by cases h) fun _ => ?_
      repeat refine wps_seq ?_
      refine wps_skip ?_
      simp
      repeat refine wps_seq ?_
      refine wps_region callOK ?_
      simp [ofV, ofV1, mkC_P, writeVar, writeCells, readCells, allSingle, AV.single, getFs, getF, setFs, setF, Heap.get, Heap.set, Heap.new, Heap.kill, killF, pushF, Heap.ready, refs, sliceParts, fillA, replL, add_one (show j ≤ 1000000000 by omega)]
      have e1 : stepA t i0 L (j + 1) = S := by rw [x3, addS, if_pos hz]
      obtain ⟨q1, q2, q3⟩ := fv k k (by omega) (by omega)
      refine hB _ (j + 1) (by omega) (by omega) ⟨[(k, k), (2, 2), (1, 1), (0, 0), (5, 5), (4, 4)], [], rfl, rfl, rfl, by simp [fitL, fitV, q1, q2, q3, pureV, pure_fE, fitV_pure], ?_⟩
      rw [e1, hkS]
      exact ft _ k k S _ (.inl rfl) (by omega) (by omega) (fun b hb => getF_one (by omega)) rfl
    · repeat refine wps_seq ?_
      refine wps_region callOK ?_
      simp [ofV, ofV1, mkC_P, writeVar, writeCells, readCells, allSingle, AV.single, getFs, getF, setFs, setF, Heap.get, Heap.set, Heap.new, Heap.kill, killF, pushF, Heap.ready, refs, sliceParts, fillA, replL, hz]
      repeat refine wps_seq ?_
      refine wps_cond (t := true) rfl (fun _ => ?_) fun h => by cases h
      have happ := appA (t := t) (k := k) (L := S) (v := v) (lits := [.str wId, .str wName]) (x := n.cs) hk (by omega)
      repeat refine wps_seq ?_
      refine wps_region callOK ?_
      simp [ofV, ofV1, mkC_P, writeVar, writeCells, readCells, allSingle, AV.single, getFs, getF, setFs, setF, Heap.get, Heap.set, Heap.new, Heap.kill, killF, pushF, Heap.ready, refs, sliceParts, fillA, replL, loA_1 (show 3 ≤ k by omega), happ, gA, promA]
      repeat refine wps_seq ?_
      refine wps_region callOK ?_
      simp [ofV, ofV1, mkC_P, writeVar, writeCells, readCells, allSingle, AV.single, getFs, getF, setFs, setF, Heap.get, Heap.set, Heap.new, Heap.kill, killF, pushF, Heap.ready, refs, sliceParts, fillA, replL, add_one (show j ≤ 1000000000 by omega)]
      have e1 : stepA t i0 L (j + 1) = S ++ [v] := by rw [x3, addS, if_neg hz]
      have e2 : kA L (S ++ [v]) = 6 := by unfold kA; rw [if_neg (by simp; omega)]
      obtain ⟨q1, q2, q3⟩ := fv 8 6 (by omega) (by omega)
      refine hB _ (j + 1) (by omega) (by omega) ⟨[(8, 6), (2, 2), (1, 1), (0, 0), (5, 5), (4, 4)], [], rfl, rfl, rfl, by simp [fitL, fitV, q1, q2, q3, pureV, pure_fE, fitV_pure], ?_⟩
      rw [e1, e2]
      refine FitH.eqL ?_ (ft 9 8 6 (S ++ [v]) [(7, .cells [.str v]), (5, .cells [.str wId, .str wName])] (.inr ⟨by omega, rfl⟩) (by omega) (by omega) (fun b hb => ?_) rfl)
      · simp [loA, gA, ownF_ne (strC_ne (show S ++ [v] ≠ [] by simp)), ownV_ne (strC_ne (show S ++ [v] ≠ [] by simp))]
      · have h7 : Nat.beq 7 b = false := beqN_ne (by omega)
        have h5 : Nat.beq 5 b = false := beqN_ne (by omega)
        simp [getF, h7, h5]
  · simp at h
    have hj2 : j = 2 := by omega
    subst hj2
    have hS : stepA t i0 L 2 = nxA t L i0 := rfl
    rw [hS]
    have hk := hk0 2
    rw [hS] at hk
    repeat refine wps_seq ?_
    refine wps_exit ?_
    simp [getFs, getF]
    rw [loA_2 (by omega)]
    have hset := loA_s (st' := .ready) (st := .busy) (t := t) (k := kA L (nxA t L i0)) (L := nxA t L i0) (by omega)
    refine ⟨_, _, _, _, _, _, _, _, _, rfl, ?_⟩
    simp [getFs, getF, setFs, setF, leaveA]
    unfold LBa at hset
    rw [hset]
    refine ⟨_, rfl, [(kA L (nxA t L i0), kA L (nxA t L i0)), (2, 2), (1, 1), (0, 0), (4, 4)], [], ?_⟩
    rw [← hH']
    exact fitA (top := [[(5, .cells [.str wId, .str wName])], [(4, .cells n.cs)]]) (top' := [[(4, .cells n.cs)]]) (τ := [(4, 4)]) (by omega) (by omega) (by omega) (by omega) (fun _ => rfl) (by simp; omega) (by simp) (by
      simp [getFs, getF]) (by simp) (by
      intro b hb
      have hb4 : Nat.beq 4 b = false := beqN_ne (by omega)
      have hb5 : Nat.beq 5 b = false := beqN_ne (by omega)
      simp [getFs, getF, hb4, hb5])
end Go.Proofs.YtbeigoejdiilmaaGreat
namespace Go.Proofs.YtbeigoejdiilmaaGreat
set_option linter.unusedSimpArgs false
set_option linter.unusedVariables false
open Go Go.RowKit
set_option maxRecDepth 100000

theorem inj_strs1 (x y : List Str) (h : [aStrs x] = [aStrs y]) : x = y := by simp only [List.cons.injEq] at h; exact inj_strs h.1
noncomputable def e31 : Entry Tryz.prog := mkE 31 [[1]] (fun x : List Str => [aStrs x]) (fun x => x.length ≤ 1000000) (fun x => aStrs (onceL x)) fun x hx => (c31 (T := []) x hx).froze (el_str _)
theorem k31 {T : List (Entry Tryz.prog)} (hT : findE 31 T = some e31.g) {L : List Str} (hl : L.length ≤ 1000000) (H : Heap) : callL (ctx T) (.fn 31) [aStrs L] H = some (aStrs (onceL L), H) :=
  mkE_pure hT inj_strs1 L hl (by simp [aStrs, pureL, pureV]) (by simp [aStrs]) H
theorem rounds_all {T : List (Entry Tryz.prog)} (hV : findE 17 T = some e17.g) (t : Tr) (ht : okTr t) :
    RoundsE T t 3 2 (fun L => loA .ready t 3 L) (fun _ _ => true) (nxA t) (fun j L => L.length ≤ 2 * j) := by
  refine ⟨fun j c m f _ hf _ => ⟨[(3, 3), (2, 2), (1, 1), (0, 0)], by simp [lookN], ?_⟩, fun j c i hj hc h0 h1 _ => ?_, fun j c h => by omega⟩
  · refine fitA (top := [f]) (top' := [[]]) (τ := []) (by omega) (by omega) (by omega) (by omega) (by omega) (by simp) (by simp) (by simp) (by simp) ?_
    intro b hb
    rcases hf with rfl | ⟨x, rfl⟩
    · rfl
    · simp only [getFs, getF_one (show (4 : Nat) ≠ b by omega)]
  · refine ⟨_, round_all hV t ht i c (by omega), ⟨[(kA c (nxA t c i), 3), (2, 2), (1, 1), (0, 0)], ?_, ?_⟩, fun _ => ?_⟩
    · have hk : kA c (nxA t c i) = 3 ∨ kA c (nxA t c i) = 6 := by unfold kA; split <;> simp
      have h2 : ¬ kA c (nxA t c i) = 2 := by omega
      simp [lookN, h2]
    · have hk : kA c (nxA t c i) = 3 ∨ kA c (nxA t c i) = 6 := by unfold kA; split <;> simp
      refine fitA (top := [[(4, .cells (nodeAt t i).cs)]]) (top' := [[]]) (τ := []) (by omega) (by omega) (by omega) (by omega) (by omega) (by simp) (by simp) (by simp) (by simp) ?_
      intro b hb
      simp only [getFs, getF_one (show (4 : Nat) ≠ b by omega)]
    · have := (stepA_len t i c 2).2
      simp only [nxA]
      omega
/-- the ids and the names of all elements, in order -/
def allN (t : Tr) : List Str := runE t (fun _ _ => true) (nxA t) (orderOf t.length (kidsOf t)) []
theorem allN_len (t : Tr) : (allN t).length ≤ 2 * t.length := by
  have key : ∀ (L : List Int) (c : List Str), (runE t (fun _ _ => true) (nxA t) L c).length ≤ c.length + 2 * L.length := by
    intro L
    induction L with
    | nil => intro c; simp [runE]
    | cons i r ih =>
      intro c
      have h1 := (stepA_len t i c 2).2
      have h2 := ih (nxA t c i)
      have h3 := ih c
      simp only [runE, List.length_cons]
      split
      · simp only [if_true]; simp only [nxA] at h2 ⊢; omega
      · omega
  have h1 := key (orderOf t.length (kidsOf t)) []
  have h2 := order_len (n := t.length) (ks := kidsOf t)
  simp only [allN, List.length_nil] at h1 ⊢
  omega
theorem call_all0 {T : List (Entry Tryz.prog)} (hO : findE 22 T = some e22.g) (hV : findE 17 T = some e17.g) (t : Tr) (ht : smallTr t) :
    CallAt (ctx T) 48 [.yld 2, .fptr [aNodes t] 0] ⟨3, [[(2, LBa .ready [(8, aTree t)] t), (1, .cells [.nilS]), (0, .cells [aNodes t])]]⟩ (.tup []) ⟨4, [loA .ready t 3 (allN t)]⟩ := by
  have h := c48 hO t ht (by omega) (rounds_all hV t ht.2) [] (by simp)
  have hf : FitH 0 [(2, 2), (1, 1), (0, 0)] [] ⟨3, [[(2, LBa .ready [(8, aTree t)] t), (1, .cells [.nilS]), (0, .cells [aNodes t])]]⟩ ⟨3, [loA .ready t 3 []]⟩ := {
    nd1 := by simp
    nd2 := by simp
    nd3 := by simp [loA, gA, ownF, Heap.ents]
    lt := by simp
    idn := by simp
    num := by simp
    src := by
      intro e he
      simp [loA, gA, ownF, Heap.ents] at he
      rcases he with rfl | rfl | rfl
      · exact ⟨2, _, by simp, rfl, LBa_fit _ (by simp [lookN]) (by simp [lookN])⟩
      · exact ⟨1, _, by simp, rfl, by simp [fitB, fitL, fitV, ownV]⟩
      · exact ⟨0, _, by simp, rfl, fitL_pure (by simp [pureL])⟩
    frz := fun x h => by cases h }
  have := h.framed (H := ⟨3, [[(2, LBa .ready [(8, aTree t)] t), (1, .cells [.nilS]), (0, .cells [aNodes t])]]⟩) (σ := [(2, 2), (1, 1), (0, 0)]) (args := [.yld 2, .fptr [aNodes t] 0])
    (H' := ⟨4, [loA .ready t 3 (allN t)]⟩) hf (by simp [fitL, fitV, lookN, fitV_pure, pureV, pureL]) ?_ (by simp)
  · simpa [renV, renL] using this
  · have hT := renV_pure (outN [(2, 2), (1, 1), (0, 0)] 3 3) (pure_aTree t)
    have hN := renV_pure (outN [(2, 2), (1, 1), (0, 0)] 3 3) (pure_aNodes t)
    have hE := renV_pure (outN [(2, 2), (1, 1), (0, 0)] 3 3) (pure_fE t)
    have hS := renL_pure (outN [(2, 2), (1, 1), (0, 0)] 3 3) (pure_strC (allN t))
    refine ⟨by simp, fun _ _ => ?_, ?_⟩
    · cases hs : strC (allN t) <;> simp [loA, gA, ownF, Heap.ents, hs]
    intro e he
    refine .inl ⟨e, he, ?_⟩
    simp only [loA, gA, Heap.ents, List.flatten_cons, List.flatten_nil, List.append_nil, List.mem_append, List.mem_cons, List.not_mem_nil, or_false] at he
    rcases he with he | rfl | rfl | rfl
    · obtain ⟨rfl, _⟩ := ownF_mem he
      simp [renB, hS]; simp [outN, lookR]
    · simp [LBa, renB, renL, renV, renT, hT, hE]; simp [outN, lookR]
    · cases hs : strC (allN t) with
      | nil => simp [renB, renL, renV, ownV]; simp [outN, lookR]
      | cons x r => simp [renB, renL, renV, ownV]; simp [outN, lookR]
    · simp [renB, renL, hN]; simp [outN, lookR]
def hY (t : Tr) (L : List Str) : Heap := ⟨4, [ownF 3 (strC L) ++ [(1, .cells [ownV 3 1 (strC L)]), (0, .cells [aNodes t])]]⟩
def sA (t : Tr) (H : Heap) : St := ⟨[0, 1, 2, 3, 4, 6, 7, 9, 10, 11, 12, 13, 14], [aTree t, .ptr 0 0, .nilS, .ptr 1 0, .undef, .undef, .undef, fE t, .undef, .undef, .undef, .undef, .undef], [(8, aTree t)], 31, H⟩
theorem drop_all {t : Tr} {L : List Str} : Heap.drop ⟨4, [loA .ready t 3 L]⟩ 2 = hY t L := by
  cases h : strC L <;> simp [Heap.drop, killFs, killF, getF, loA, ownF, gA, hY, h]
theorem range_all {T : List (Entry Tryz.prog)} (t : Tr) (L : List Str) {call : CallE} (hc : call (.fn 48) [.yld 2, .fptr [aNodes t] 0] ⟨3, [[(2, LBa .ready [(8, aTree t)] t), (1, .cells [.nilS]), (0, .cells [aNodes t])]]⟩ = some (.tup [], ⟨4, [loA .ready t 3 L]⟩)) :
    evalRange (ctx T) call (.tmp 9) #[10, 11] asA bdA (sA t ⟨2, [[(1, .cells [.nilS]), (0, .cells [aNodes t])]]⟩) = some (.normal, sA t (hY t L)) := by
  have hent : entersF (ctx T) 48 = true := by kernel_rfl
  have ho : opnd (sA t ⟨2, [[(1, .cells [.nilS]), (0, .cells [aNodes t])]]⟩) (.tmp 9) = some (fE t) := rfl
  unfold evalRange
  rw [ho]
  simp only [Option.bind_some, hent, fE]
  have e : call (.fn 48) ([] ++ [.yld (sA t ⟨2, [[(1, .cells [.nilS]), (0, .cells [aNodes t])]]⟩).H.n] ++ [.fptr [aNodes t] 0]) ((sA t ⟨2, [[(1, .cells [.nilS]), (0, .cells [aNodes t])]]⟩).H.new (.loop .ready none (sA t ⟨2, [[(1, .cells [.nilS]), (0, .cells [aNodes t])]]⟩).ks (sA t ⟨2, [[(1, .cells [.nilS]), (0, .cells [aNodes t])]]⟩).vs (sA t ⟨2, [[(1, .cells [.nilS]), (0, .cells [aNodes t])]]⟩).ts (sA t ⟨2, [[(1, .cells [.nilS]), (0, .cells [aNodes t])]]⟩).sz (#[10, 11] : Array Nat).toList asA bdA)) = _ := hc
  rw [e]
  have hg : Heap.get ⟨4, [loA .ready t 3 L]⟩ 2 = some (LBa .ready [] t) := by simp [Heap.get, getFs, loA_2]
  have hn : (sA t ⟨2, [[(1, .cells [.nilS]), (0, .cells [aNodes t])]]⟩).H.n = 2 := rfl
  simp only [Option.bind_some, hn, hg, LBa, drop_all]
  rfl
theorem c15 {T : List (Entry Tryz.prog)} (hO : findE 22 T = some e22.g) (hE : findE 30 T = some e30.g) (hV : findE 17 T = some e17.g) (hW : findE 31 T = some e31.g) (t : Tr) (ht : smallTr t) :
    CallAt (ctx T) 15 [aTree t] ⟨0, []⟩ (aStrs (onceL (allN t))) ⟨0, []⟩ := by
  have hk := fun H => k30 hE t H
  have hcall := call_all0 hO hV t ht
  have hl := allN_len t
  have ht1 := ht.1
  have kw := fun H => k31 hW (L := allN t) (by omega) H
  simp only [aTree] at hk
  refine callAt_body (fn := Tryz.f15) (s0 := ⟨[0, 1, 2, 3, 4, 6, 7, 9, 10, 11, 12, 13, 14], [aTree t, .undef, .undef, .undef, .undef, .undef, .undef, .undef, .undef, .undef, .undef, .undef, .undef], [], 31, ⟨0, [[]]⟩⟩) Tryz.func15 rfl rfl rfl ?_
  repeat refine wps_seq ?_
  refine wps_region callOK ?_
  simp [ofV, ofV1, mkC_P, writeVar, writeCells, readCells, allSingle, AV.single, getFs, getF, setFs, setF, Heap.get, Heap.set, Heap.new, Heap.kill, killF, pushF, Heap.ready, refs, sliceParts, fillA, replL, aTree]
  repeat refine wps_seq ?_
  refine wps_region callOK ?_
  simp [ofV, ofV1, mkC_P, writeVar, writeCells, readCells, allSingle, AV.single, getFs, getF, setFs, setF, Heap.get, Heap.set, Heap.new, Heap.kill, killF, pushF, Heap.ready, refs, sliceParts, fillA, replL]
  repeat refine wps_seq ?_
  refine wps_region callOK ?_
  simp [ofV, ofV1, mkC_P, writeVar, writeCells, readCells, allSingle, AV.single, getFs, getF, setFs, setF, Heap.get, Heap.set, Heap.new, Heap.kill, killF, pushF, Heap.ready, refs, sliceParts, fillA, replL, hk]
  repeat refine wps_seq ?_
  refine wps_block ?_
  refine wps_range (callOKF [⟨48, _, _, _, _, hcall⟩]) ⟨_, _, range_all (T := T) t (allN t) (by simp [callF]), ?_⟩
  simp [sA, hY]
  refine WpSr.fit [(1, 1), (0, 0)] (if allN t = [] then [] else [(3, strC (allN t))]) (s' := (⟨[0, 1, 2, 3, 4, 6, 7, 9, 10, 11, 12, 13, 14], [aTree t, .ptr 0 0, .undef, .ptr 1 0, .undef, .undef, .undef, .undef, .undef, .undef, .undef, .undef, .undef], [], 31, ⟨4, [[(1, .cells [aStrs (allN t)]), (0, .cells [aNodes t])]]⟩⟩ : St)) ⟨rfl, rfl, rfl, ?_, ?_⟩ ?_
  · simp [fitL, fitV, lookN, pureV, fitV_pure]
  · generalize allN t = N
    by_cases hN : N = []
    · subst hN
      refine ⟨by simp, by simp, by simp [Heap.ents], by simp, by simp, by simp, ?_, by simp⟩
      intro e he
      simp [Heap.ents] at he
      rcases he with rfl | rfl
      · exact ⟨1, .cells [.zslc], by simp, rfl, by simp [fitB, fitL, fitV, aStrs]⟩
      · exact ⟨0, _, by simp, rfl, fitL_pure (by simp [pureL])⟩
    · rw [if_neg hN]
      have e1 : ownF 3 (strC N) = [(3, .cells (strC N))] := by rw [ownF_ne (strC_ne hN), flat_strC]
      have e2 : ownV 3 1 (strC N) = .slc 3 0 N.length (.rest 1) := by rw [ownV_ne (strC_ne hN), len_strC]
      rw [e1, e2]
      refine ⟨by simp, by simp, by simp [Heap.ents], by simp, by simp, by simp, ?_, ?_⟩
      · intro e he
        simp [Heap.ents] at he
        rcases he with rfl | rfl
        · refine ⟨1, .cells [.slc 3 0 N.length (.rest 1)], by simp, rfl, ?_⟩
          simp only [fitB, fitL, and_true]
          simp only [aStrs, fitV]
          have := sub_pre (el_strC N) (k := N.length) (by simp)
          rw [flat_strC, List.take_of_length_le (by simp), flat_strC] at this
          exact .inl ⟨strC N, by simp [lookC], by rw [this]; exact congrArg some (flat_strC N).symm, by simp, (el_strC N).size⟩
        · exact ⟨0, _, by simp, rfl, fitL_pure (by simp [pureL])⟩
      · intro x hx
        simp at hx
        subst hx
        exact ⟨strC N, by simp [Heap.get, getFs, getF], fitL_pure (pure_strC _), pure_strC _⟩
  · repeat refine wps_seq ?_
    refine wps_region callOK ?_
    simp [ofV, ofV1, mkC_P, writeVar, writeCells, readCells, allSingle, AV.single, getFs, getF, setFs, setF, Heap.get, Heap.set, Heap.new, Heap.kill, killF, pushF, Heap.ready, refs, sliceParts, fillA, replL, kw]
    repeat refine wps_seq ?_
    refine wps_ret ?_
    simp [retVal, Tryz.f15, oneOr, thenQ, blockQ]
    exact ends_pure rfl (by rfl)
noncomputable def e15 : Entry Tryz.prog := mkE 15 [[]] (fun t : Tr => [aTree t]) smallTr (fun t => aStrs (onceL (allN t))) fun t ht => c15 (T := [e22, e30, e17, e31]) rfl rfl rfl rfl t ht
theorem k15 {T : List (Entry Tryz.prog)} (hT : findE 15 T = some e15.g) {t : Tr} (ht : smallTr t) (H : Heap) : callL (ctx T) (.fn 15) [aTree t] H = some (aStrs (onceL (allN t)), H) :=
  mkE_pure hT injT t ht (by simp [pureL]) (by simp [thawL, th_aTree]) H
theorem c37 {T : List (Entry Tryz.prog)} (L : List Str) (x : Str) (hl : L.length ≤ 1000000) : CallAt (ctx T) 37 [aStrs L, .str x] ⟨0, []⟩ (.int .i64 (idxFrom (fun y => decide (x = y)) L 0)) ⟨0, []⟩ := by
  refine callAt_body (fn := Tryz.f37) (s0 := ⟨[0, 1, 4, 5, 7, 8], [aStrs L, .str x, .undef, .undef, .undef, .undef], [], 19, ⟨0, [[]]⟩⟩) Tryz.func37 rfl rfl rfl ?_
  repeat refine wps_seq ?_
  refine wps_region callOK ?_
  simp [ofV, ofV1, mkC_P, writeVar, writeCells, readCells, allSingle, AV.single, getFs, getF, setFs, setF, Heap.get, Heap.set, Heap.new, Heap.kill, killF, pushF, Heap.ready, refs, sliceParts, fillA, replL]
  repeat refine wps_seq ?_
  refine wps_region callOK ?_
  simp [ofV, ofV1, mkC_P, writeVar, writeCells, readCells, allSingle, AV.single, getFs, getF, setFs, setF, Heap.get, Heap.set, Heap.new, Heap.kill, killF, pushF, Heap.ready, refs, sliceParts, fillA, replL, lenS]
  repeat refine wps_seq ?_
  refine wps_block (wps_loop' (fun i : Nat => (⟨[0, 1, 4, 5, 7, 8], [aStrs L, .str x, .undef, .undef, .int .i64 (L.length : Nat), .int .i64 i], [], 19, ⟨0, [[]]⟩⟩ : St))
    (fun i => i ≤ L.length ∧ idxFrom (fun y => decide (x = y)) L 0 = idxFrom (fun y => decide (x = y)) (L.drop i) i) (fun i => L.length - i) [] [] 0 ⟨Nat.zero_le _, rfl⟩ ⟨rfl, rfl, rfl, by simp [fitL, fitV, pureV, pureL, aStrs], FitH.nothing⟩ ?_)
  rintro i ⟨hi, hx⟩ B hB
  repeat refine wps_seq ?_
  refine wps_region callOK ?_
  simp [ofV, ofV1, mkC_P, writeVar, writeCells, readCells, allSingle, AV.single, getFs, getF, setFs, setF, Heap.get, Heap.set, Heap.new, Heap.kill, killF, pushF, Heap.ready, refs, sliceParts, fillA, replL]
  repeat refine wps_seq ?_
  refine wps_cond rfl (fun h => ?_) fun h => ?_
  · simp at h
    rw [idxFrom_at h] at hx
    repeat refine wps_seq ?_
    refine wps_skip ?_
    simp
    repeat refine wps_seq ?_
    refine wps_block ?_
    repeat refine wps_seq ?_
    refine wps_region callOK ?_
    simp [ofV, ofV1, mkC_P, writeVar, writeCells, readCells, allSingle, AV.single, getFs, getF, setFs, setF, Heap.get, Heap.set, Heap.new, Heap.kill, killF, pushF, Heap.ready, refs, sliceParts, fillA, replL]
    by_cases h2 : L[i] = x
    · repeat refine wps_seq ?_
      refine wps_region callOK ?_
      simp [ofV, ofV1, mkC_P, writeVar, writeCells, readCells, allSingle, AV.single, getFs, getF, setFs, setF, Heap.get, Heap.set, Heap.new, Heap.kill, killF, pushF, Heap.ready, refs, sliceParts, fillA, replL, atS h, h2]
      repeat refine wps_seq ?_
      refine wps_cond (t := true) rfl (fun _ => ?_) fun h => by cases h
      repeat refine wps_seq ?_
      refine wps_region callOK ?_
      simp [ofV, ofV1, mkC_P, writeVar, writeCells, readCells, allSingle, AV.single, getFs, getF, setFs, setF, Heap.get, Heap.set, Heap.new, Heap.kill, killF, pushF, Heap.ready, refs, sliceParts, fillA, replL]
      repeat refine wps_seq ?_
      refine wps_ret ?_
      simp [retVal, Tryz.f37, oneOr, thenQ, blockQ]
      exact ends_pure rfl (by rw [hx, if_pos (by simp [h2])])
    · have h2' : ¬ x = L[i] := fun e => h2 e.symm
      repeat refine wps_seq ?_
      refine wps_region callOK ?_
      simp [ofV, ofV1, mkC_P, writeVar, writeCells, readCells, allSingle, AV.single, getFs, getF, setFs, setF, Heap.get, Heap.set, Heap.new, Heap.kill, killF, pushF, Heap.ready, refs, sliceParts, fillA, replL, atS h, h2']
      repeat refine wps_seq ?_
      refine wps_cond (t := false) rfl (fun h => by cases h) fun _ => ?_
      repeat refine wps_seq ?_
      refine wps_skip ?_
      simp
      repeat refine wps_seq ?_
      refine wps_region callOK ?_
      simp [ofV, ofV1, mkC_P, writeVar, writeCells, readCells, allSingle, AV.single, getFs, getF, setFs, setF, Heap.get, Heap.set, Heap.new, Heap.kill, killF, pushF, Heap.ready, refs, sliceParts, fillA, replL, add_one (show i ≤ 1000000000 by omega)]
      exact hB _ (i + 1) (by omega) ⟨by omega, by rw [hx, if_neg (by simp [h2'])]⟩ ⟨[], [], ⟨rfl, rfl, rfl, by simp [fitL, fitV, pureV, pureL, aStrs], FitH.nothing⟩⟩
  · simp at h
    repeat refine wps_seq ?_
    refine wps_exit ?_
    simp
    repeat refine wps_seq ?_
    refine wps_region callOK ?_
    simp [ofV, ofV1, mkC_P, writeVar, writeCells, readCells, allSingle, AV.single, getFs, getF, setFs, setF, Heap.get, Heap.set, Heap.new, Heap.kill, killF, pushF, Heap.ready, refs, sliceParts, fillA, replL]
    repeat refine wps_seq ?_
    refine wps_ret ?_
    simp [retVal, Tryz.f37, oneOr, thenQ, blockQ]
    exact ends_pure rfl (by rw [hx, List.drop_eq_nil_of_le h]; rfl)
noncomputable def e37 : Entry Tryz.prog := mkE 37 [[1], []] (fun x : List Str × Str => [aStrs x.1, .str x.2]) (fun x => x.1.length ≤ 1000000) (fun x => .int .i64 (idxFrom (fun y => decide (x.2 = y)) x.1 0)) fun x hx => c37 (T := []) x.1 x.2 hx
theorem injSS (x y : List Str × Str) (h : [aStrs x.1, .str x.2] = [aStrs y.1, .str y.2]) : x = y := by
  simp at h; exact Prod.ext (inj_strs (by simpa [aStrs] using h.1)) h.2
theorem k37 {T : List (Entry Tryz.prog)} (hT : findE 37 T = some e37.g) {L : List Str} (x : Str) (hl : L.length ≤ 1000000) (H : Heap) : callL (ctx T) (.fn 37) [aStrs L, .str x] H = some (.int .i64 (idxFrom (fun y => decide (x = y)) L 0), H) :=
  mkE_scalar hT injSS (L, x) hl rfl (by simp [aStrs])
theorem idx_mem {x : Str} : ∀ (L : List Str) (k : Nat), (0 ≤ idxFrom (fun y => decide (x = y)) L k) ↔ x ∈ L
  | [], k => by simp [idxFrom]
  | y :: r, k => by
    unfold idxFrom
    by_cases h : x = y
    · simp [h]
    · simp only [h, decide_false, Bool.false_eq_true, if_false, List.mem_cons, false_or]
      exact idx_mem r (k + 1)
theorem c19 {T : List (Entry Tryz.prog)} (hI : findE 37 T = some e37.g) (L : List Str) (x : Str) (hl : L.length ≤ 1000000) : CallAt (ctx T) 19 [aStrs L, .str x] ⟨0, []⟩ (.bool (decide (x ∈ L))) ⟨0, []⟩ := by
  have hk := fun H => k37 hI x hl H
  have hm := idx_mem (x := x) L 0
  generalize idxFrom (fun y => decide (x = y)) L 0 = v at *
  simp only [aStrs] at hk
  refine callAt_body (fn := Tryz.f19) (s0 := ⟨[0, 1, 4], [aStrs L, .str x, .undef], [], 9, ⟨0, [[]]⟩⟩) Tryz.func19 rfl rfl rfl ?_
  (repeat (first
    | (refine wps_seq ?_)
    | (refine wps_block ?_)
    | (refine wps_label ?_; simp only [thenQ, blockQ])
    | ((refine wps_region callOK ?_); simp [ofV, ofV1, mkC_P, writeVar, writeCells, readCells, allSingle, AV.single, getFs, getF, setFs, setF, Heap.get, Heap.set, Heap.new, Heap.kill, killF, pushF, Heap.ready, refs, sliceParts, fillA, replL, aStrs, hk])
    | (refine wps_cond (t := true) rfl (fun _ => ?_) (fun h => by cases h))
    | (refine wps_cond (t := false) rfl (fun h => by cases h) (fun _ => ?_))
    | ((refine wps_skip ?_); simp only [thenQ, blockQ])
    | ((refine wps_exit ?_); simp [thenQ, blockQ])))
  repeat refine wps_seq ?_
  refine wps_ret ?_
  simp [retVal, Tryz.f19, oneOr, thenQ, blockQ]
  exact ends_pure rfl (by simp [hm])
noncomputable def e19 : Entry Tryz.prog := mkE 19 [[1], []] (fun x : List Str × Str => [aStrs x.1, .str x.2]) (fun x => x.1.length ≤ 1000000) (fun x => .bool (decide (x.2 ∈ x.1))) fun x hx => c19 (T := [e37]) rfl x.1 x.2 hx
theorem k19 {T : List (Entry Tryz.prog)} (hT : findE 19 T = some e19.g) {L : List Str} (x : Str) (hl : L.length ≤ 1000000) (H : Heap) : callL (ctx T) (.fn 19) [aStrs L, .str x] H = some (.bool (decide (x ∈ L)), H) :=
  mkE_scalar hT injSS (L, x) hl rfl (by simp [aStrs])
end Go.Proofs.YtbeigoejdiilmaaGreat
