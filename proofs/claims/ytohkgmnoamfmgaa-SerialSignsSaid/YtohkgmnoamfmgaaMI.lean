/- SerialTells's walk. No condition. -/
import Derived.Test.YtohkgmnoamfmgaaMH
namespace Go.Proofs.Ytohkgmnoamfmgaa
set_option linter.unusedSimpArgs false
set_option linter.unusedVariables false
open Go Go.RowKit
set_option maxRecDepth 100000

theorem fit1 {n : Nat} {L : List AV} {H : Heap} (hL : pureL L = true) (hg : H.get 0 = some (.cells L)) : FitH 0 [(0, 0)] [] H ⟨n + 1, [[(0, .cells L)]]⟩ :=
  FitH.same (by simp) (by simp) (by simp) (Nat.zero_le _) (by simp [Heap.ents]) fun e he => by
    simp [Heap.ents] at he
    subst he
    exact ⟨by simp, hg, fitL_pure hL⟩
theorem c47 {T : List (Entry Try.prog)} (hA : findE 62 T = some e62.g) (nd : Nd) (hfew : fewNd nd = true) : CallAt (ctx T) 47 [aNode nd] ⟨0, []⟩ (.str (openT nd)) ⟨0, []⟩ := by
  simp only [fewNd, fewAts, Bool.and_eq_true, decide_eq_true_eq, List.all_eq_true] at hfew
  obtain ⟨hnl, hdl, hkl, hal, hat⟩ := hfew
  have hatt : ∀ j, (tagT nd j).length ≤ 14100 := fun j => by
    have := atts_len (l := nd.attrs.take j) fun x hx => hat x (List.mem_of_mem_take hx)
    have h2 : (nd.attrs.take j).length ≤ 14 := by simp; omega
    simp only [tagT, List.length_append, List.length_cons, List.length_nil]
    omega
  have g2 : getL nd.cs 2 = some (.str nd.name) := rfl
  have g3 : getL nd.cs 3 = some (aAttrs nd.attrs) := rfl
  have q0 : binA Try.prog .add 9 (.str [60]) (.str nd.name) = some (.str (tagT nd 0)) := by
    rw [catStr (by simp; omega)]; simp [tagT]
  refine callAt_body (fn := Try.f47) (s0 := ⟨[0, 1, 2, 3, 4], [aNode nd, .undef, .undef, .undef, .undef], [], 36, ⟨0, [[]]⟩⟩) Try.func47 rfl rfl rfl ?_
  repeat refine wps_seq ?_
  refine wps_region callOK ?_
  simp [ofV, ofV1, mkC_P, writeVar, writeCells, readCells, allSingle, AV.single, getFs, getF, setFs, setF, Heap.get, Heap.set, Heap.new, Heap.kill, killF, pushF, Heap.ready, refs, sliceParts, fillA, replL, aNode]
  repeat refine wps_seq ?_
  refine wps_region callOK ?_
  simp [ofV, ofV1, mkC_P, writeVar, writeCells, readCells, allSingle, AV.single, getFs, getF, setFs, setF, Heap.get, Heap.set, Heap.new, Heap.kill, killF, pushF, Heap.ready, refs, sliceParts, fillA, replL, g2, q0]
  repeat refine wps_seq ?_
  refine wps_region callOK ?_
  simp [ofV, ofV1, mkC_P, writeVar, writeCells, readCells, allSingle, AV.single, getFs, getF, setFs, setF, Heap.get, Heap.set, Heap.new, Heap.kill, killF, pushF, Heap.ready, refs, sliceParts, fillA, replL]
  repeat refine wps_seq ?_
  refine wps_block (wps_loop' (fun j : Nat => (⟨[0, 1, 2, 3, 4], [.undef, .ptr 0 0, .undef, .str (tagT nd j), .int .i64 j], [], 36, ⟨1, [[(0, .cells nd.cs)]]⟩⟩ : St))
    (fun j => j ≤ nd.attrs.length) (fun j => nd.attrs.length - j) [(0, 0)] [] 0 (Nat.zero_le _)
    ⟨rfl, rfl, rfl, by simp [fitL, fitV, lookN, pureV], ?_⟩ ?_)
  · exact fit1 (pure_cs nd) rfl
  rintro j hj B hB
  have hj1 := hatt j
  repeat refine wps_seq ?_
  refine wps_region callOK ?_
  simp [ofV, ofV1, mkC_P, writeVar, writeCells, readCells, allSingle, AV.single, getFs, getF, setFs, setF, Heap.get, Heap.set, Heap.new, Heap.kill, killF, pushF, Heap.ready, refs, sliceParts, fillA, replL, g3, lenA1]
  repeat refine wps_seq ?_
  refine wps_cond rfl (fun hlt => ?_) fun hlt => ?_
  · simp at hlt
    repeat refine wps_seq ?_
    refine wps_skip ?_
    simp
    repeat refine wps_seq ?_
    refine wps_block ?_
    have la := hat nd.attrs[j] (List.getElem_mem hlt)
    simp only [fewAt, decide_eq_true_eq] at la
    have hel := esc_len true _ nd.attrs[j].2 (Nat.le_refl _)
    have kA := fun H => k62 hA (s := nd.attrs[j].2) (by omega) H
    obtain ⟨x1, hx1⟩ : ∃ x, x = [32] ++ nd.attrs[j].1 := ⟨_, rfl⟩
    obtain ⟨x2, hx2⟩ : ∃ x, x = x1 ++ [61, 34] := ⟨_, rfl⟩
    obtain ⟨x3, hx3⟩ : ∃ x, x = x2 ++ esc true nd.attrs[j].2 := ⟨_, rfl⟩
    obtain ⟨x4, hx4⟩ : ∃ x, x = x3 ++ [34] := ⟨_, rfl⟩
    have l1 : x1.length ≤ 100 := by rw [hx1]; simp; omega
    have l2 : x2.length ≤ 110 := by rw [hx2]; simp; omega
    have l3 : x3.length ≤ 10000 := by rw [hx3]; simp; omega
    have l4 : x4.length ≤ 10010 := by rw [hx4]; simp; omega
    have q1 : binA Try.prog .add 9 (.str [32]) (.str nd.attrs[j].1) = some (.str x1) := by rw [catStr (by simp; omega), hx1]
    have q2 : binA Try.prog .add 9 (.str x1) (.str [61, 34]) = some (.str x2) := by rw [catStr (by simp; omega), hx2]
    have q3 : binA Try.prog .add 9 (.str x2) (.str (esc true nd.attrs[j].2)) = some (.str x3) := by rw [catStr (by omega), hx3]
    have q4 : binA Try.prog .add 9 (.str x3) (.str [34]) = some (.str x4) := by rw [catStr (by simp; omega), hx4]
    have q5 : binA Try.prog .add 9 (.str (tagT nd j)) (.str x4) = some (.str (tagT nd (j + 1))) := by
      rw [catStr (by omega), tagT_succ hlt, hx4, hx3, hx2, hx1]; rfl
    repeat refine wps_seq ?_
    refine wps_drawK mixed callOK (by decide +kernel) (by decide +kernel) ?_
    simp [ofV, ofV1, mkC_P, writeVar, writeCells, readCells, allSingle, AV.single, getFs, getF, setFs, setF, Heap.get, Heap.set, Heap.new, Heap.kill, killF, pushF, Heap.ready, refs, sliceParts, fillA, replL, evalK_c, evalK_nil, thenK_some, g3, atA hlt, rdA1, aAttr, kA, q1, q2, q3, q4, q5]
    repeat refine wps_seq ?_
    refine wps_region callOK ?_
    simp [ofV, ofV1, mkC_P, writeVar, writeCells, readCells, allSingle, AV.single, getFs, getF, setFs, setF, Heap.get, Heap.set, Heap.new, Heap.kill, killF, pushF, Heap.ready, refs, sliceParts, fillA, replL, add_one (show j ≤ 1000000000 by omega)]
    exact hB _ (j + 1) (by omega) (by omega) ⟨[(0, 0)], [], rfl, rfl, rfl, by simp [fitL, fitV, lookN, pureV], fit1 (pure_cs nd) rfl⟩
  · simp at hlt
    have hjl : j = nd.attrs.length := by omega
    subst hjl
    repeat refine wps_seq ?_
    refine wps_exit ?_
    simp
    have q6 : binA Try.prog .add 9 (.str (tagT nd nd.attrs.length)) (.str [62]) = some (.str (openT nd)) := by
      rw [catStr (by simp; omega), tagT_all]
    repeat refine wps_seq ?_
    refine wps_region callOK ?_
    simp [ofV, ofV1, mkC_P, writeVar, writeCells, readCells, allSingle, AV.single, getFs, getF, setFs, setF, Heap.get, Heap.set, Heap.new, Heap.kill, killF, pushF, Heap.ready, refs, sliceParts, fillA, replL, q6]
    repeat refine wps_seq ?_
    refine wps_ret ?_
    simp [retVal, Try.f47, oneOr]
    exact ⟨[], [], fitV_pure rfl, fit_empty _⟩
end Go.Proofs.Ytohkgmnoamfmgaa
namespace Go.Proofs.Ytohkgmnoamfmgaa
set_option linter.unusedSimpArgs false
set_option linter.unusedVariables false
open Go Go.RowKit
set_option maxRecDepth 100000

theorem getF_in : ∀ {l : List (Nat × Blk)} {e : Nat × Blk}, (l.map (·.1)).Nodup → e ∈ l → getF e.1 l = some e.2
  | [], _, _, h => by cases h
  | x :: r, e, nd, h => by
    simp only [List.map_cons, List.nodup_cons] at nd
    unfold getF
    rcases List.mem_cons.1 h with rfl | h
    · rw [show Nat.beq e.1 e.1 = true from Nat.beq_refl _]
    · rw [beqN_ne (fun hx => nd.1 (List.mem_map.2 ⟨e, h, hx.symm⟩))]
      exact getF_in nd.2 h
theorem getF_none : ∀ {l : List (Nat × Blk)} {i : Nat}, (∀ e, e ∈ l → e.1 ≠ i) → getF i l = none
  | [], _, _ => rfl
  | x :: r, i, h => by
    unfold getF
    rw [beqN_ne (h x (by simp))]
    exact getF_none fun e he => h e (by simp [he])
/-- rows that are kept as they are -/
structure Rok (m : Nat) (l : List (Nat × Blk)) : Prop where
  lt : ∀ e, e ∈ l → e.1 < m
  nd : (l.map (·.1)).Nodup
  sf : ∀ e, e ∈ l → SelfB m e.2
theorem Rok.more {m m' : Nat} {l : List (Nat × Blk)} (h : Rok m l) (hm : m ≤ m') : Rok m' l := ⟨fun e he => Nat.lt_of_lt_of_le (h.lt e he) hm, h.nd, fun e he => (h.sf e he).mono hm⟩
theorem Rok.add {m : Nat} {l : List (Nat × Blk)} (h : Rok m l) {k : Blk} (hk : SelfB (m + 1) k) : Rok (m + 1) ((m, k) :: l) where
  lt := fun e he => by
    rcases List.mem_cons.1 he with rfl | he
    · exact Nat.lt_succ_self m
    · exact Nat.lt_succ_of_lt (h.lt e he)
  nd := by
    rw [List.map_cons, List.nodup_cons]
    refine ⟨fun hx => ?_, h.nd⟩
    obtain ⟨e, he, hx⟩ := List.mem_map.1 hx
    have := h.lt e he
    simp only at hx
    omega
  sf := fun e he => by
    rcases List.mem_cons.1 he with rfl | he
    · exact hk
    · exact (h.sf e he).mono (Nat.le_succ m)
theorem Rok.set {m b : Nat} {k k' : Blk} {g : List (Nat × Blk)} (h : Rok m ((b, k) :: g)) (hk : SelfB m k') : Rok m ((b, k') :: g) where
  lt := fun e he => by
    rcases List.mem_cons.1 he with rfl | he
    · exact h.lt (b, k) (by simp)
    · exact h.lt e (by simp [he])
  nd := h.nd
  sf := fun e he => by
    rcases List.mem_cons.1 he with rfl | he
    · exact hk
    · exact h.sf e (by simp [he])
theorem Rok.perm {m : Nat} {l l' : List (Nat × Blk)} (h : Rok m l) (p : l'.Perm l) : Rok m l' := ⟨fun e he => h.lt e (p.mem_iff.1 he), (p.map (·.1)).nodup_iff.2 h.nd, fun e he => h.sf e (p.mem_iff.1 he)⟩
/-- own rows f' stay of f, the others stay -/
theorem fitR {n0 k n m' : Nat} {f f' l : List (Nat × Blk)} (h : Rok k (f' ++ l)) (h1 : ∀ e, e ∈ f' → getF e.1 f = some e.2) (h2 : ∀ e, e ∈ l → getF e.1 f = none) (hn : n0 ≤ m') (hk : k ≤ m') : FitH n0 (idn k) [] ⟨n, [f, l]⟩ ⟨m', [f', l]⟩ := by
  refine .same ?_ ?_ ?_ hn (by simpa [Heap.ents] using h.nd) fun e he => ?_
  · intro x hx
    obtain ⟨i, _, rfl⟩ := List.mem_map.1 hx
    rfl
  · have e : (idn k).map (·.1) = List.range k := by simp [idn, Function.comp_def]
    rw [e]
    exact List.nodup_range
  · intro x hx
    obtain ⟨i, hi, rfl⟩ := List.mem_map.1 hx
    have := List.mem_range.1 hi
    simp only; omega
  · have he : e ∈ f' ++ l := by simpa [Heap.ents] using he
    refine ⟨idn_mem (h.lt e he), ?_, h.sf e he _ (idl_idn k)⟩
    have hl : (l.map (·.1)).Nodup := by
      have := h.nd
      rw [List.map_append] at this
      exact (List.nodup_append.1 this).2.1
    simp only [Heap.get, getFs]
    rcases List.mem_append.1 he with he | he
    · rw [h1 e he]
    · rw [h2 e he, getF_in hl he]
def seenL (t : Tr) (S : List Int) : List AV := (List.range t.length).map fun i : Nat => .bool (decide ((i : Int) ∈ S))
theorem pure_seen (t : Tr) (S : List Int) : pureL (seenL t S) = true := by
  unfold seenL
  induction (List.range t.length) with
  | nil => rfl
  | cons x r ih => simpa [pureL, pureV] using ih
/-- what a call of the reference's write does -/
def RefAt (T : List (Entry Try.prog)) (t : Tr) (f : Nat) : Prop := ∀ (m sb : Nat) (g : List (Nat × Blk)) (i : Int) (S : List Int), Rok m ((sb, .cells (seenL t S)) :: g) → SOK t S → t.length < f + S.length →
  CallAt (ctx T) 27 [aTree t, .int .i64 i, .slc sb 0 t.length (.ex t.length)] ⟨m, [(sb, .cells (seenL t S)) :: g]⟩ (.str (txtS t f i S).1) ⟨m, [(sb, .cells (seenL t (txtS t f i S).2)) :: g]⟩
theorem c46 {T : List (Entry Try.prog)} {t : Tr} (ht : smallTr t) (hf : t.all fewNd = true) {f : Nat} (hN : RefAt T t f) {m sb : Nat} {g : List (Nat × Blk)} {i : Int} {S : List Int} (h : Rok m ((sb, .cells (seenL t S)) :: g)) (hS : SOK t S) (hfu : t.length < f + S.length) (i0 : 0 ≤ i) (i1 : i < (t.length : Int)) :
    CallAt (ctx T) 46 [aTree t, .int .i64 i, .slc sb 0 t.length (.ex t.length)] ⟨m, [(sb, .cells (seenL t S)) :: g]⟩ (.str (kidsT (txtS t f) (nodeAt t i).kids S).1) ⟨m, [(sb, .cells (seenL t (kidsT (txtS t f) (nodeAt t i).kids S).2)) :: g]⟩ := by
  have hkl := (ht.2.2 _ (nodeAt_mem i0 i1)).1
  obtain ⟨ks, hks⟩ : ∃ ks, ks = (nodeAt t i).kids := ⟨_, rfl⟩
  rw [← hks] at hkl ⊢
  have idl := idl_idn m
  have gr : ∀ j, Grows t S (kidsT (txtS t f) (ks.take j) S) := fun j => kids_grows t (fun i S h => txt_grows voidN rawB t hf f i S h) _ S hS
  have hsb : sb < m := h.lt (sb, .cells (seenL t S)) (by simp)
  have g6 : getL (nodeAt t i).cs 6 = some (aInts ks) := by rw [hks]; rfl
  have hR : ∀ (S' : List Int), Rok (m + 1) ([(m, .cells [aNodes t])] ++ ((sb, .cells (seenL t S')) :: g)) := fun S' => (h.set (self_pure (pure_seen t S'))).add (self_pure (by simp [pureL]))
  have no : ∀ (S' : List Int) e, e ∈ ((sb, .cells (seenL t S')) :: g) → getF e.1 [(m, .cells [aNodes t])] = none := fun S' e he => getF_none fun x hx => by
    rw [List.mem_singleton] at hx; subst hx
    have := (h.set (self_pure (pure_seen t S'))).lt e he
    simp only; omega
  refine callAt_body (fn := Try.f46) (s0 := ⟨[0, 1, 2, 3, 6, 7, 8], [aTree t, .int .i64 i, .slc sb 0 t.length (.ex t.length), .undef, .undef, .undef, .undef], [], 35, ⟨m, [] :: [(sb, .cells (seenL t S)) :: g]⟩⟩) Try.func46 rfl rfl rfl ?_
  repeat refine wps_seq ?_
  refine wps_region callOK ?_
  simp [ofV, ofV1, mkC_P, writeVar, writeCells, readCells, allSingle, AV.single, getFs, getF, setFs, setF, Heap.get, Heap.set, Heap.new, Heap.kill, killF, pushF, Heap.ready, refs, sliceParts, fillA, replL, aTree]
  repeat refine wps_seq ?_
  refine wps_region callOK ?_
  simp [ofV, ofV1, mkC_P, writeVar, writeCells, readCells, allSingle, AV.single, getFs, getF, setFs, setF, Heap.get, Heap.set, Heap.new, Heap.kill, killF, pushF, Heap.ready, refs, sliceParts, fillA, replL]
  repeat refine wps_seq ?_
  refine wps_region callOK ?_
  simp [ofV, ofV1, mkC_P, writeVar, writeCells, readCells, allSingle, AV.single, getFs, getF, setFs, setF, Heap.get, Heap.set, Heap.new, Heap.kill, killF, pushF, Heap.ready, refs, sliceParts, fillA, replL]
  repeat refine wps_seq ?_
  refine wps_block (wps_loop' (fun j : Nat => (⟨[0, 1, 2, 3, 6, 7, 8], [.undef, .int .i64 i, .slc sb 0 t.length (.ex t.length), .ptr m 0, .undef, .str (kidsT (txtS t f) (ks.take j) S).1, .int .i64 j], [], 35, ⟨m + 1, [[(m, .cells [aNodes t])], (sb, .cells (seenL t (kidsT (txtS t f) (ks.take j) S).2)) :: g]⟩⟩ : St))
    (fun j => j ≤ ks.length) (fun j => ks.length - j) (idn (m + 1)) [] 0 (Nat.zero_le _)
    ⟨rfl, rfl, rfl, by simp [fitL, fitV, idl_idn (m + 1) sb (by omega), idl_idn (m + 1) m (by omega), pureV, kidsT], by
      simpa [kidsT] using fitR (n0 := m) (m' := m + 1) (hR S) (fun e he => by rw [List.mem_singleton] at he; subst he; simp [getF]) (no S) (by omega) (Nat.le_refl _)⟩ ?_)
  rintro j hj B hB
  have grj := gr j
  repeat refine wps_seq ?_
  refine wps_region callOK ?_
  simp [ofV, ofV1, mkC_P, writeVar, writeCells, readCells, allSingle, AV.single, getFs, getF, setFs, setF, Heap.get, Heap.set, Heap.new, Heap.kill, killF, pushF, Heap.ready, refs, sliceParts, fillA, replL, atX i0 i1, g6, lenI]
  repeat refine wps_seq ?_
  refine wps_cond rfl (fun hlt => ?_) fun hlt => ?_
  · simp at hlt
    repeat refine wps_seq ?_
    refine wps_skip ?_
    simp
    repeat refine wps_seq ?_
    refine wps_block ?_
    obtain ⟨S1, hS1⟩ : ∃ S1, S1 = (kidsT (txtS t f) (ks.take j) S).2 := ⟨_, rfl⟩
    obtain ⟨x1, hx1⟩ : ∃ x1, x1 = (kidsT (txtS t f) (ks.take j) S).1 := ⟨_, rfl⟩
    have hlS := sok_len t grj.ok
    have hle := grj.le
    have hgl := grj.len
    simp only [bigT] at hgl
    have h3 := ht.1
    have rt := (hN (m + 1 + 15) sb ((m, .cells [aNodes t]) :: g) ks[j] S1 (((hR S1).more (m' := m + 1 + 15) (by omega)).perm (List.Perm.swap _ _ _)) (by rw [hS1]; exact grj.ok) (by rw [hS1]; omega)).perm (H2 := ⟨m + 1 + 15, [[(m, .cells [aNodes t])], (sb, .cells (seenL t S1)) :: g]⟩)
      (H2' := ⟨m + 1 + 15, [[(m, .cells [aNodes t])], (sb, .cells (seenL t (txtS t f ks[j] S1).2)) :: g]⟩) rfl rfl (by simpa [Heap.ents] using List.Perm.swap _ _ _) (by simpa [Heap.ents] using List.Perm.swap _ _ _)
    have gk := txt_grows voidN rawB t hf f ks[j] S1 (by rw [hS1]; exact grj.ok)
    have hkl2 := gk.len
    have hks2 := sok_len t gk.ok
    simp only [bigT] at hkl2
    have q1 : binA Try.prog .add 9 (.str x1) (.str (txtS t f ks[j] S1).1) = some (.str (x1 ++ (txtS t f ks[j] S1).1)) := catStr (by
      have : (txtS t f ks[j] S1).1.length ≤ 100000 * ((txtS t f ks[j] S1).2.length - S1.length) := hkl2
      have : (txtS t f ks[j] S1).2.length ≤ t.length := hks2
      rw [hx1]; omega)
    rw [← hS1, ← hx1]
    simp only [aTree] at rt
    obtain ⟨S2, hS2⟩ : ∃ S2, S2 = (txtS t f ks[j] S1).2 := ⟨_, rfl⟩
    obtain ⟨x2, hx2⟩ : ∃ x2, x2 = (txtS t f ks[j] S1).1 := ⟨_, rfl⟩
    rw [← hS2, ← hx2] at rt
    rw [← hx2] at q1
    repeat refine wps_seq ?_
    refine wps_drawn mixed (callOKF [⟨27, _, _, _, _, rt⟩]) (by decide +kernel) fun B_ hB_ => ?_
    have d_1_12 : ahead B_ 1 12 = true := by rw [hB_]; decide +kernel
    have d_3_12 : ahead B_ 3 12 = true := by rw [hB_]; decide +kernel
    have d_7_12 : ahead B_ 7 12 = true := by rw [hB_]; decide +kernel
    have d_10_12 : ahead B_ 10 12 = true := by rw [hB_]; decide +kernel
    have d_12_1 : ahead B_ 12 1 = false := by rw [hB_]; decide +kernel
    have d_12_3 : ahead B_ 12 3 = false := by rw [hB_]; decide +kernel
    have d_12_7 : ahead B_ 12 7 = false := by rw [hB_]; decide +kernel
    have d_12_10 : ahead B_ 12 10 = false := by rw [hB_]; decide +kernel
    simp [ofV, ofV1, mkC_P, writeVar, writeCells, readCells, allSingle, AV.single, getFs, getF, setFs, setF, Heap.get, Heap.set, Heap.new, Heap.kill, killF, pushF, Heap.ready, refs, sliceParts, fillA, replL, mkBlk, guardA, evalD, stepD, clsOf, reserve, freshenAll, sameRecs, sameAll, sameAt, allPend, Heap.lay, ontoF, wantedBy, unwantedBy, d_1_12, d_3_12, d_7_12, d_10_12, d_12_1, d_12_3, d_12_7, d_12_10, atX i0 i1, g6, atI hlt, callF, q1]
    repeat refine wps_seq ?_
    refine wps_region callOK ?_
    simp [ofV, ofV1, mkC_P, writeVar, writeCells, readCells, allSingle, AV.single, getFs, getF, setFs, setF, Heap.get, Heap.set, Heap.new, Heap.kill, killF, pushF, Heap.ready, refs, sliceParts, fillA, replL, add_one (show j ≤ 1000000000 by omega)]
    have ek : kidsT (txtS t f) (ks.take (j + 1)) S = (x1 ++ x2, S2) := by
      rw [List.take_succ_eq_append_getElem hlt, kidsT_snoc, ← hS1, ← hx1, ← hx2, ← hS2]
    refine hB _ (j + 1) (by omega) (by omega) ⟨idn (m + 1), [], rfl, rfl, rfl, ?_, ?_⟩
    · rw [ek]; simp [fitL, fitV, idl_idn (m + 1) sb (by omega), idl_idn (m + 1) m (by omega), pureV]
    · rw [ek]
      exact fitR (hR S2) (fun e he => by rw [List.mem_singleton] at he; subst he; simp [getF]) (no S2) (by omega) (Nat.le_refl _)
  · simp at hlt
    have hjl : j = ks.length := by omega
    subst hjl
    rw [List.take_of_length_le (Nat.le_refl _)]
    repeat refine wps_seq ?_
    refine wps_exit ?_
    simp
    repeat refine wps_seq ?_
    refine wps_region callOK ?_
    simp [ofV, ofV1, mkC_P, writeVar, writeCells, readCells, allSingle, AV.single, getFs, getF, setFs, setF, Heap.get, Heap.set, Heap.new, Heap.kill, killF, pushF, Heap.ready, refs, sliceParts, fillA, replL]
    repeat refine wps_seq ?_
    refine wps_ret ?_
    simp [retVal, Try.f46, oneOr]
    have rk := hR (kidsT (txtS t f) ks S).2
    have rk0 : Rok m ((sb, .cells (seenL t (kidsT (txtS t f) ks S).2)) :: g) := h.set (self_pure (pure_seen t _))
    exact ⟨idn m, [], fitV_pure rfl, (fitR (f' := []) rk0 (fun e he => by cases he) (no _) (Nat.le_refl _) (Nat.le_refl _)).fs (by simp)⟩
end Go.Proofs.Ytohkgmnoamfmgaa
namespace Go.Proofs.Ytohkgmnoamfmgaa
set_option linter.unusedSimpArgs false
set_option linter.unusedVariables false
open Go Go.RowKit
set_option maxRecDepth 100000

theorem lay_one {v : AV} : ∀ {L : List AV} {i : Nat}, i < L.length → layL [v] i L = some (L.set i v)
  | [], i, h => absurd h (Nat.not_lt_zero i)
  | x :: r, 0, _ => by cases r <;> rfl
  | x :: r, i + 1, h => by
    have ih := lay_one (v := v) (L := r) (i := i) (by simpa using h)
    simp only [List.set_cons_succ]
    unfold layL
    simp only [ih]
    rfl
theorem seenL_at {t : Tr} {S : List Int} {n : Nat} (h : n < t.length) : getL (seenL t S) n = some (.bool (decide ((n : Int) ∈ S))) := by
  unfold seenL
  rw [getL_map (by simpa using h)]
  simp
theorem seenL_set {t : Tr} {S : List Int} {n : Nat} (h : n < t.length) : layL [.bool true] n (seenL t S) = some (seenL t (S ++ [(n : Int)])) := by
  rw [lay_one (by simpa [seenL] using h)]
  congr 1
  apply List.ext_getElem
  · simp [seenL]
  · intro k h1 h2
    simp only [seenL, List.length_map, List.length_range, List.length_set] at h1 h2
    by_cases e : n = k
    · subst e; simp [seenL]
    · have e' : ¬ (k : Int) = (n : Int) := by omega
      simp [seenL, List.getElem_set, e, e']
theorem ixB {b n i : Nat} {cap : Cap} (h : i < n) : indexAddrA Try.prog 57 (.slc b 0 n cap) (.int .i64 (i : Int)) = some (.ptr b i) := by
  simp [indexAddrA, idx_nat h]
noncomputable def e47 : Entry Try.prog := mkE 47 [[]] (fun n : Nd => [aNode n]) (fun n => fewNd n = true) (fun n => .str (openT n)) fun n hn => c47 (T := [e62]) rfl n hn
theorem k47 {T : List (Entry Try.prog)} (hT : findE 47 T = some e47.g) {n : Nd} (hn : fewNd n = true) (H : Heap) : callL (ctx T) (.fn 47) [aNode n] H = some (.str (openT n), H) :=
  mkE_scalar hT injN1 n hn rfl (by simp [th_aNode])
theorem openT_len {nd : Nd} (hfew : fewNd nd = true) : (openT nd).length ≤ 14101 := by
  simp only [fewNd, fewAts, Bool.and_eq_true, decide_eq_true_eq, List.all_eq_true] at hfew
  obtain ⟨hnl, hdl, hkl, hal, hat⟩ := hfew
  have := atts_len (l := nd.attrs) fun x hx => hat x hx
  rw [open_eq]
  simp only [List.length_append, List.length_cons, List.length_nil]
  omega
theorem write_step {T : List (Entry Try.prog)} (hO : findE 47 T = some e47.g) (hV : findE 17 T = some e17.g) (hR : findE 14 T = some e14.g) (hT : findE 48 T = some e48.g) {t : Tr} (ht : smallTr t) (hf : t.all fewNd = true) {f : Nat} (hN : RefAt T t f) : RefAt T t (f + 1) := by
  intro m sb g i S h hS hfu
  have hsb : sb < m := h.lt (sb, .cells (seenL t S)) (by simp)
  have hmsb : Nat.beq m sb = false := beqN_ne (by omega)
  have no : ∀ (S' : List Int) (f2 : List (Nat × Blk)), (∀ x, x ∈ f2 → m ≤ x.1) → ∀ e, e ∈ ((sb, .cells (seenL t S')) :: g) → getF e.1 f2 = none := fun S' f2 h2 e he => getF_none fun x hx => by
    have := (h.set (self_pure (pure_seen t S'))).lt e he
    have := h2 x hx
    omega
  have fin : ∀ (S' : List Int) (f2 : List (Nat × Blk)) (n : Nat), (∀ x, x ∈ f2 → m ≤ x.1) → FitH m (idn m) [] ⟨n, [f2, (sb, .cells (seenL t S')) :: g]⟩ ⟨m, [(sb, .cells (seenL t S')) :: g]⟩ := fun S' f2 n h2 =>
    (fitR (f' := []) (h.set (self_pure (pure_seen t S'))) (fun e he => by cases he) (no S' f2 h2) (Nat.le_refl _) (Nat.le_refl _)).fs (by simp)
  refine callAt_body (fn := Try.f27) (s0 := ⟨[0, 1, 2, 3, 6, 7], [aTree t, .int .i64 i, .slc sb 0 t.length (.ex t.length), .undef, .undef, .undef], [], 116, ⟨m, [] :: [(sb, .cells (seenL t S)) :: g]⟩⟩) Try.func27 rfl rfl rfl ?_
  repeat refine wps_seq ?_
  refine wps_region callOK ?_
  simp [ofV, ofV1, mkC_P, writeVar, writeCells, readCells, allSingle, AV.single, getFs, getF, setFs, setF, Heap.get, Heap.set, Heap.new, Heap.kill, killF, pushF, Heap.ready, refs, sliceParts, fillA, replL, aTree]
  by_cases c1 : i < 0
  · have e1 : txtS t (f + 1) i S = ([], S) := by simp [txtS, txtF, c1]
    repeat refine wps_seq ?_
    refine wps_region callOK ?_
    simp [ofV, ofV1, mkC_P, writeVar, writeCells, readCells, allSingle, AV.single, getFs, getF, setFs, setF, Heap.get, Heap.set, Heap.new, Heap.kill, killF, pushF, Heap.ready, refs, sliceParts, fillA, replL, c1]
    repeat refine wps_seq ?_
    refine wps_cond (t := true) rfl (fun _ => ?_) fun h => by cases h
    repeat refine wps_seq ?_
    refine wps_region callOK ?_
    simp [ofV, ofV1, mkC_P, writeVar, writeCells, readCells, allSingle, AV.single, getFs, getF, setFs, setF, Heap.get, Heap.set, Heap.new, Heap.kill, killF, pushF, Heap.ready, refs, sliceParts, fillA, replL]
    repeat refine wps_seq ?_
    refine wps_ret ?_
    simp [thenQ, retVal, Try.f27, oneOr]
    rw [e1]
    exact ⟨_, _, fitV_pure rfl, fin S _ _ (by simp)⟩
  · by_cases c2 : (t.length : Int) ≤ i
    · have e1 : txtS t (f + 1) i S = ([], S) := by simp [txtS, txtF, c2]
      repeat refine wps_seq ?_
      refine wps_region callOK ?_
      simp [ofV, ofV1, mkC_P, writeVar, writeCells, readCells, allSingle, AV.single, getFs, getF, setFs, setF, Heap.get, Heap.set, Heap.new, Heap.kill, killF, pushF, Heap.ready, refs, sliceParts, fillA, replL, c1, c2, lenN]
      repeat refine wps_seq ?_
      refine wps_cond (t := true) rfl (fun _ => ?_) fun h => by cases h
      repeat refine wps_seq ?_
      refine wps_region callOK ?_
      simp [ofV, ofV1, mkC_P, writeVar, writeCells, readCells, allSingle, AV.single, getFs, getF, setFs, setF, Heap.get, Heap.set, Heap.new, Heap.kill, killF, pushF, Heap.ready, refs, sliceParts, fillA, replL]
      repeat refine wps_seq ?_
      refine wps_ret ?_
      simp [thenQ, retVal, Try.f27, oneOr]
      rw [e1]
      exact ⟨_, _, fitV_pure rfl, fin S _ _ (by simp)⟩
    · have i0 : 0 ≤ i := by omega
      have i1 : i < (t.length : Int) := by omega
      have a1 := atX i0 i1
      obtain ⟨n, rfl⟩ : ∃ n : Nat, i = n := ⟨i.toNat, by omega⟩
      have hn : n < t.length := by omega
      by_cases c3 : (n : Int) ∈ S
      · have e1 : txtS t (f + 1) n S = ([], S) := by simp [txtS, txtF, c3]
        have s1 := seenL_at (S := S) hn
        rw [decide_eq_true c3] at s1
        repeat refine wps_seq ?_
        refine wps_region callOK ?_
        simp [ofV, ofV1, mkC_P, writeVar, writeCells, readCells, allSingle, AV.single, getFs, getF, setFs, setF, Heap.get, Heap.set, Heap.new, Heap.kill, killF, pushF, Heap.ready, refs, sliceParts, fillA, replL, c1, c2, lenN, ixB hn, s1, hmsb]
        repeat refine wps_seq ?_
        refine wps_cond (t := true) rfl (fun _ => ?_) fun h => by cases h
        repeat refine wps_seq ?_
        refine wps_region callOK ?_
        simp [ofV, ofV1, mkC_P, writeVar, writeCells, readCells, allSingle, AV.single, getFs, getF, setFs, setF, Heap.get, Heap.set, Heap.new, Heap.kill, killF, pushF, Heap.ready, refs, sliceParts, fillA, replL]
        repeat refine wps_seq ?_
        refine wps_ret ?_
        simp [thenQ, retVal, Try.f27, oneOr]
        rw [e1]
        exact ⟨_, _, fitV_pure rfl, fin S _ _ (by simp)⟩
      · have s1 := seenL_at (S := S) hn
        rw [decide_eq_false c3] at s1
        have s2 := seenL_set (S := S) hn
        repeat refine wps_seq ?_
        refine wps_region callOK ?_
        simp [ofV, ofV1, mkC_P, writeVar, writeCells, readCells, allSingle, AV.single, getFs, getF, setFs, setF, Heap.get, Heap.set, Heap.new, Heap.kill, killF, pushF, Heap.ready, refs, sliceParts, fillA, replL, c1, c2, lenN, ixB hn, s1, hmsb]
        repeat refine wps_seq ?_
        refine wps_cond (t := false) rfl (fun h => by cases h) fun _ => ?_
        repeat refine wps_seq ?_
        refine wps_skip ?_
        simp
        repeat refine wps_seq ?_
        refine wps_region callOK ?_
        simp [ofV, ofV1, mkC_P, writeVar, writeCells, readCells, allSingle, AV.single, getFs, getF, setFs, setF, Heap.get, Heap.set, Heap.new, Heap.kill, killF, pushF, Heap.ready, refs, sliceParts, fillA, replL, ixB hn, s2, hmsb]
        have S1ok := hS.add t i0 i1 c3
        have hl1 := sok_len t S1ok
        simp only [List.length_append, List.length_cons, List.length_nil] at hl1
        obtain ⟨S1, hS1⟩ : ∃ S1, S1 = S ++ [(n : Int)] := ⟨_, rfl⟩
        have hS1l : S1.length = S.length + 1 := by rw [hS1]; simp
        rw [← hS1] at S1ok ⊢
        obtain ⟨nd, hnd⟩ : ∃ nd, nd = nodeAt t n := ⟨_, rfl⟩
        have hfew : fewNd nd = true := by rw [hnd]; exact List.all_eq_true.1 hf _ (nodeAt_mem i0 i1)
        rw [← hnd] at a1
        have hdl : nd.data.length ≤ 300 ∧ nd.name.length ≤ 40 := by
          simp only [fewNd, Bool.and_eq_true, decide_eq_true_eq] at hfew
          exact ⟨hfew.2.1, hfew.1⟩
        have hol := openT_len hfew
        have h3 := ht.1
        have g0 : getL nd.cs 0 = some (.int .i64 nd.kind) := rfl
        have g1 : getL nd.cs 1 = some (.int .i64 nd.space) := rfl
        have g2 : getL nd.cs 2 = some (.str nd.name) := rfl
        have g4 : getL nd.cs 4 = some (.str nd.data) := rfl
        have g5 : getL nd.cs 5 = some (.int .i64 nd.up) := rfl
        have nb1 : Nat.beq (m + 1) m = false := beqN_ne (by omega)
        have kV : ∀ H, callL (ctx T) (.fn 17) [.int .i64 nd.space, .str nd.name] H = some (.bool (voidN nd), H) := fun H => k17 hV nd.space nd.name H
        have kO := fun H => k47 hO hfew H
        have kT := fun H => k48 hT (s := nd.data) (by omega) H
        obtain ⟨kt, hkt⟩ : ∃ kt, kt = (kidsT (txtS t f) nd.kids S1).1 := ⟨_, rfl⟩
        obtain ⟨S2, hS2⟩ : ∃ S2, S2 = (kidsT (txtS t f) nd.kids S1).2 := ⟨_, rfl⟩
        have hgr := kids_grows t (fun i S h => txt_grows voidN rawB t hf f i S h) nd.kids S1 S1ok
        have hgl := hgr.len
        have hg2 := sok_len t hgr.ok
        simp only [bigT] at hgl
        rw [← hkt, ← hS2] at hgl
        rw [← hS2] at hg2
        have hktl : kt.length ≤ 6000000 := by omega
        have rk : Rok (m + 1 + 1) ((m + 1, .cells nd.cs) :: (m, .cells [aNodes t]) :: ((sb, .cells (seenL t S1)) :: g)) := ((h.set (self_pure (pure_seen t S1))).add (self_pure (by simp [pureL]))).add (self_pure (pure_cs nd))
        have hf2 : ∀ x, x ∈ [(m + 1, Blk.cells nd.cs), (m, Blk.cells [aNodes t])] → m ≤ x.1 := fun x hx => by
          simp only [List.mem_cons, List.not_mem_nil, or_false] at hx
          rcases hx with rfl | rfl <;> simp
        have pm : ∀ (S' : List Int), ((m + 1, Blk.cells nd.cs) :: (m, Blk.cells [aNodes t]) :: ((sb, Blk.cells (seenL t S')) :: g)).Perm ((sb, Blk.cells (seenL t S')) :: ([(m + 1, Blk.cells nd.cs), (m, Blk.cells [aNodes t])] ++ g)) := fun S' => List.perm_middle (l₁ := [(m + 1, Blk.cells nd.cs), (m, Blk.cells [aNodes t])])
        have kd : ∀ n', m + 1 + 1 ≤ n' → CallAt (ctx T) 46 [.agg [aNodes t], .int .i64 (n : Int), .slc sb 0 t.length (.ex t.length)] ⟨n', [[(m + 1, .cells nd.cs), (m, .cells [aNodes t])], (sb, .cells (seenL t S1)) :: g]⟩ (.str kt) ⟨n', [[(m + 1, .cells nd.cs), (m, .cells [aNodes t])], (sb, .cells (seenL t S2)) :: g]⟩ := fun n' hn' => by
          have := (c46 (T := T) ht hf hN (g := [(m + 1, Blk.cells nd.cs), (m, Blk.cells [aNodes t])] ++ g) ((rk.more hn').perm (pm S1).symm) S1ok (by omega) i0 i1).perm (H2 := ⟨n', [[(m + 1, .cells nd.cs), (m, .cells [aNodes t])], (sb, .cells (seenL t S1)) :: g]⟩) (H2' := ⟨n', [[(m + 1, .cells nd.cs), (m, .cells [aNodes t])], (sb, .cells (seenL t (kidsT (txtS t f) (nodeAt t n).kids S1).2)) :: g]⟩) rfl rfl (by simpa [Heap.ents] using pm S1) (by simpa [Heap.ents] using pm _)
          rw [← hnd, ← hkt, ← hS2] at this
          exact this
        repeat refine wps_seq ?_
        refine wps_region callOK ?_
        simp [ofV, ofV1, mkC_P, writeVar, writeCells, readCells, allSingle, AV.single, getFs, getF, setFs, setF, Heap.get, Heap.set, Heap.new, Heap.kill, killF, pushF, sliceParts, fillA, replL, a1]
        by_cases k0 : nd.kind = 0
        · have e1 : txtS t (f + 1) n S = (kt, S2) := by simp [txtS, txtF, c1, c2, c3, ← hnd, k0, ← hS1, hkt, hS2]
          repeat refine wps_seq ?_
          refine wps_region callOK ?_
          simp [ofV, ofV1, mkC_P, writeVar, writeCells, readCells, allSingle, AV.single, getFs, getF, setFs, setF, Heap.get, Heap.set, Heap.new, Heap.kill, killF, pushF, Heap.ready, refs, sliceParts, fillA, replL, g0, k0]
          repeat refine wps_seq ?_
          refine wps_cond (t := true) rfl (fun _ => ?_) fun h => by cases h
          have kd0 := kd _ (Nat.le_refl _)
          repeat refine wps_seq ?_
          refine wps_region (callOKF [⟨46, _, _, _, _, kd0⟩]) ?_
          simp [ofV, ofV1, mkC_P, writeVar, writeCells, readCells, allSingle, AV.single, getFs, getF, setFs, setF, Heap.get, Heap.set, Heap.new, Heap.kill, killF, pushF, Heap.ready, refs, sliceParts, fillA, replL, callF, nb1]
          repeat refine wps_seq ?_
          refine wps_ret ?_
          simp [thenQ]
          simp [retVal, Try.f27, oneOr]
          rw [e1]
          exact ⟨_, _, fitV_pure rfl, fin _ _ _ hf2⟩
        repeat refine wps_seq ?_
        refine wps_region callOK ?_
        simp [ofV, ofV1, mkC_P, writeVar, writeCells, readCells, allSingle, AV.single, getFs, getF, setFs, setF, Heap.get, Heap.set, Heap.new, Heap.kill, killF, pushF, Heap.ready, refs, sliceParts, fillA, replL, g0, k0]
        repeat refine wps_seq ?_
        refine wps_cond (t := false) rfl (fun h => by cases h) fun _ => ?_
        repeat refine wps_seq ?_
        refine wps_skip ?_
        simp
        by_cases k1 : nd.kind = 1
        · cases hv : voidN nd with
          | true =>
            rw [hv] at kV
            have e1 : txtS t (f + 1) n S = (openT nd, S2) := by simp [txtS, txtF, c1, c2, c3, ← hnd, k1, ← hS1, hS2, hv]
            repeat refine wps_seq ?_
            refine wps_region callOK ?_
            simp [ofV, ofV1, mkC_P, writeVar, writeCells, readCells, allSingle, AV.single, getFs, getF, setFs, setF, Heap.get, Heap.set, Heap.new, Heap.kill, killF, pushF, Heap.ready, refs, sliceParts, fillA, replL, g0, g1, g2, k1, kV]
            repeat refine wps_seq ?_
            refine wps_cond (t := true) rfl (fun _ => ?_) fun h => by cases h
            have kd0 := kd _ (Nat.le_refl _)
            repeat refine wps_seq ?_
            refine wps_region (callOKF [⟨46, _, _, _, _, kd0⟩]) ?_
            simp [ofV, ofV1, mkC_P, writeVar, writeCells, readCells, allSingle, AV.single, getFs, getF, setFs, setF, Heap.get, Heap.set, Heap.new, Heap.kill, killF, pushF, Heap.ready, refs, sliceParts, fillA, replL, callF, nb1]
            repeat refine wps_seq ?_
            refine wps_region callOK ?_
            simp [ofV, ofV1, mkC_P, writeVar, writeCells, readCells, allSingle, AV.single, getFs, getF, setFs, setF, Heap.get, Heap.set, Heap.new, Heap.kill, killF, pushF, Heap.ready, refs, sliceParts, fillA, replL, fold_node, kO]
            repeat refine wps_seq ?_
            refine wps_ret ?_
            simp [thenQ]
            simp [retVal, Try.f27, oneOr]
            rw [e1]
            exact ⟨_, _, fitV_pure rfl, fin _ _ _ hf2⟩
          | false =>
            rw [hv] at kV
            have e1 : txtS t (f + 1) n S = (openT nd ++ kt ++ closeT nd, S2) := by simp [txtS, txtF, c1, c2, c3, ← hnd, k1, ← hS1, hkt, hS2, hv]
            repeat refine wps_seq ?_
            refine wps_region callOK ?_
            simp [ofV, ofV1, mkC_P, writeVar, writeCells, readCells, allSingle, AV.single, getFs, getF, setFs, setF, Heap.get, Heap.set, Heap.new, Heap.kill, killF, pushF, Heap.ready, refs, sliceParts, fillA, replL, g0, g1, g2, k1, kV]
            repeat refine wps_seq ?_
            refine wps_cond (t := false) rfl (fun h => by cases h) fun _ => ?_
            repeat refine wps_seq ?_
            refine wps_skip ?_
            simp
            repeat refine wps_seq ?_
            refine wps_region callOK ?_
            simp [ofV, ofV1, mkC_P, writeVar, writeCells, readCells, allSingle, AV.single, getFs, getF, setFs, setF, Heap.get, Heap.set, Heap.new, Heap.kill, killF, pushF, Heap.ready, refs, sliceParts, fillA, replL, g0, k1]
            repeat refine wps_seq ?_
            refine wps_cond (t := true) rfl (fun _ => ?_) fun h => by cases h
            obtain ⟨x1, hx1⟩ : ∃ x, x = openT nd ++ kt := ⟨_, rfl⟩
            obtain ⟨x2, hx2⟩ : ∃ x, x = x1 ++ [60, 47] := ⟨_, rfl⟩
            obtain ⟨x3, hx3⟩ : ∃ x, x = x2 ++ nd.name := ⟨_, rfl⟩
            obtain ⟨x4, hx4⟩ : ∃ x, x = x3 ++ [62] := ⟨_, rfl⟩
            have l1 : x1.length ≤ 7000000 := by rw [hx1]; simp; omega
            have l2 : x2.length ≤ 7000010 := by rw [hx2]; simp; omega
            have l3 : x3.length ≤ 7000100 := by rw [hx3]; simp; omega
            have q1 : binA Try.prog .add 9 (.str (openT nd)) (.str kt) = some (.str x1) := by rw [catStr (by omega), hx1]
            have q2 : binA Try.prog .add 9 (.str x1) (.str [60, 47]) = some (.str x2) := by rw [catStr (by simp; omega), hx2]
            have q3 : binA Try.prog .add 9 (.str x2) (.str nd.name) = some (.str x3) := by rw [catStr (by omega), hx3]
            have q4 : binA Try.prog .add 9 (.str x3) (.str [62]) = some (.str x4) := by rw [catStr (by simp; omega), hx4]
            have kd0 := kd (m + 1 + 1 + 13) (by omega)
            repeat refine wps_seq ?_
            refine wps_drawn mixed (callOKF [⟨46, _, _, _, _, kd0⟩]) (by decide +kernel) fun B_ hB_ => ?_
            have d_0_1 : ahead B_ 0 1 = true := by rw [hB_]; decide +kernel
            have d_0_5 : ahead B_ 0 5 = true := by rw [hB_]; decide +kernel
            have d_1_0 : ahead B_ 1 0 = false := by rw [hB_]; decide +kernel
            have d_1_2 : ahead B_ 1 2 = false := by rw [hB_]; decide +kernel
            have d_1_9 : ahead B_ 1 9 = false := by rw [hB_]; decide +kernel
            have d_2_1 : ahead B_ 2 1 = false := by rw [hB_]; decide +kernel
            have d_2_5 : ahead B_ 2 5 = true := by rw [hB_]; decide +kernel
            have d_5_0 : ahead B_ 5 0 = false := by rw [hB_]; decide +kernel
            have d_5_2 : ahead B_ 5 2 = false := by rw [hB_]; decide +kernel
            have d_5_9 : ahead B_ 5 9 = false := by rw [hB_]; decide +kernel
            have d_9_1 : ahead B_ 9 1 = false := by rw [hB_]; decide +kernel
            have d_9_5 : ahead B_ 9 5 = false := by rw [hB_]; decide +kernel
            simp [ofV, ofV1, mkC_P, writeVar, writeCells, readCells, allSingle, AV.single, getFs, getF, setFs, setF, Heap.get, Heap.set, Heap.new, Heap.kill, killF, pushF, Heap.ready, refs, sliceParts, fillA, replL, mkBlk, guardA, evalD, stepD, clsOf, reserve, freshenAll, sameRecs, sameAll, sameAt, allPend, Heap.lay, ontoF, wantedBy, unwantedBy, d_0_1, d_0_5, d_1_0, d_1_2, d_1_9, d_2_1, d_2_5, d_5_0, d_5_2, d_5_9, d_9_1, d_9_5, fold_node, kO, callF, g2, nb1, q1, q2, q3, q4]
            repeat refine wps_seq ?_
            refine wps_ret ?_
            have e2 : openT nd ++ kt ++ closeT nd = x4 := by rw [hx4, hx3, hx2, hx1]; simp [closeT]
            rw [e2] at e1
            simp [thenQ]
            simp [retVal, Try.f27, oneOr]
            rw [e1]
            exact ⟨_, _, fitV_pure rfl, fin _ _ _ hf2⟩
        repeat refine wps_seq ?_
        refine wps_region callOK ?_
        simp [ofV, ofV1, mkC_P, writeVar, writeCells, readCells, allSingle, AV.single, getFs, getF, setFs, setF, Heap.get, Heap.set, Heap.new, Heap.kill, killF, pushF, Heap.ready, refs, sliceParts, fillA, replL, g0, k1]
        repeat refine wps_seq ?_
        refine wps_cond (t := false) rfl (fun h => by cases h) fun _ => ?_
        repeat refine wps_seq ?_
        refine wps_skip ?_
        simp
        repeat refine wps_seq ?_
        refine wps_region callOK ?_
        simp [ofV, ofV1, mkC_P, writeVar, writeCells, readCells, allSingle, AV.single, getFs, getF, setFs, setF, Heap.get, Heap.set, Heap.new, Heap.kill, killF, pushF, Heap.ready, refs, sliceParts, fillA, replL, g0, k1]
        repeat refine wps_seq ?_
        refine wps_cond (t := false) rfl (fun h => by cases h) fun _ => ?_
        repeat refine wps_seq ?_
        refine wps_skip ?_
        simp
        by_cases k2 : nd.kind = 2
        · by_cases d1 : 0 ≤ nd.up
          · by_cases d2 : nd.up < (t.length : Int)
            · have a2 := atX d1 d2
              cases hr : rawB (nodeAt t nd.up) with
              | true =>
                have e1 : txtS t (f + 1) n S = (nd.data, S1) := by simp [txtS, txtF, c1, c2, c3, ← hnd, k2, ← hS1, charsT, d1, d2, hr]
                repeat refine wps_seq ?_
                refine wps_region callOK ?_
                simp [ofV, ofV1, mkC_P, writeVar, writeCells, readCells, allSingle, AV.single, getFs, getF, setFs, setF, Heap.get, Heap.set, Heap.new, Heap.kill, killF, pushF, Heap.ready, refs, sliceParts, fillA, replL, g0, g5, k2, d1, d2, lenN, nb1, a2, fold_node, k14 hR, hr]
                repeat refine wps_seq ?_
                refine wps_cond (t := true) rfl (fun _ => ?_) fun h => by cases h
                repeat refine wps_seq ?_
                refine wps_region callOK ?_
                simp [ofV, ofV1, mkC_P, writeVar, writeCells, readCells, allSingle, AV.single, getFs, getF, setFs, setF, Heap.get, Heap.set, Heap.new, Heap.kill, killF, pushF, Heap.ready, refs, sliceParts, fillA, replL, g4]
                repeat refine wps_seq ?_
                refine wps_ret ?_
                simp [thenQ, retVal, Try.f27, oneOr]
                rw [e1]
                exact ⟨_, _, fitV_pure rfl, fin _ _ _ hf2⟩
              | false =>
                have e1 : txtS t (f + 1) n S = (esc false nd.data, S1) := by simp [txtS, txtF, c1, c2, c3, ← hnd, k2, ← hS1, charsT, d1, d2, hr]
                repeat refine wps_seq ?_
                refine wps_region callOK ?_
                simp [ofV, ofV1, mkC_P, writeVar, writeCells, readCells, allSingle, AV.single, getFs, getF, setFs, setF, Heap.get, Heap.set, Heap.new, Heap.kill, killF, pushF, Heap.ready, refs, sliceParts, fillA, replL, g0, g5, k2, d1, d2, lenN, nb1, a2, fold_node, k14 hR, hr]
                repeat refine wps_seq ?_
                refine wps_cond (t := false) rfl (fun h => by cases h) fun _ => ?_
                repeat refine wps_seq ?_
                refine wps_skip ?_
                simp
                repeat refine wps_seq ?_
                refine wps_region callOK ?_
                simp [ofV, ofV1, mkC_P, writeVar, writeCells, readCells, allSingle, AV.single, getFs, getF, setFs, setF, Heap.get, Heap.set, Heap.new, Heap.kill, killF, pushF, Heap.ready, refs, sliceParts, fillA, replL, g0, k2]
                repeat refine wps_seq ?_
                refine wps_cond (t := true) rfl (fun _ => ?_) fun h => by cases h
                repeat refine wps_seq ?_
                refine wps_region callOK ?_
                simp [ofV, ofV1, mkC_P, writeVar, writeCells, readCells, allSingle, AV.single, getFs, getF, setFs, setF, Heap.get, Heap.set, Heap.new, Heap.kill, killF, pushF, Heap.ready, refs, sliceParts, fillA, replL, g4, kT]
                repeat refine wps_seq ?_
                refine wps_ret ?_
                simp [thenQ, retVal, Try.f27, oneOr]
                rw [e1]
                exact ⟨_, _, fitV_pure rfl, fin _ _ _ hf2⟩
            · have e1 : txtS t (f + 1) n S = (esc false nd.data, S1) := by simp [txtS, txtF, c1, c2, c3, ← hnd, k2, ← hS1, charsT, d1, d2]
              repeat refine wps_seq ?_
              refine wps_region callOK ?_
              simp [ofV, ofV1, mkC_P, writeVar, writeCells, readCells, allSingle, AV.single, getFs, getF, setFs, setF, Heap.get, Heap.set, Heap.new, Heap.kill, killF, pushF, Heap.ready, refs, sliceParts, fillA, replL, g0, g5, k2, d1, d2, lenN, nb1]
              repeat refine wps_seq ?_
              refine wps_cond (t := false) rfl (fun h => by cases h) fun _ => ?_
              repeat refine wps_seq ?_
              refine wps_skip ?_
              simp
              repeat refine wps_seq ?_
              refine wps_region callOK ?_
              simp [ofV, ofV1, mkC_P, writeVar, writeCells, readCells, allSingle, AV.single, getFs, getF, setFs, setF, Heap.get, Heap.set, Heap.new, Heap.kill, killF, pushF, Heap.ready, refs, sliceParts, fillA, replL, g0, k2]
              repeat refine wps_seq ?_
              refine wps_cond (t := true) rfl (fun _ => ?_) fun h => by cases h
              repeat refine wps_seq ?_
              refine wps_region callOK ?_
              simp [ofV, ofV1, mkC_P, writeVar, writeCells, readCells, allSingle, AV.single, getFs, getF, setFs, setF, Heap.get, Heap.set, Heap.new, Heap.kill, killF, pushF, Heap.ready, refs, sliceParts, fillA, replL, g4, kT]
              repeat refine wps_seq ?_
              refine wps_ret ?_
              simp [thenQ, retVal, Try.f27, oneOr]
              rw [e1]
              exact ⟨_, _, fitV_pure rfl, fin _ _ _ hf2⟩
          · have e1 : txtS t (f + 1) n S = (esc false nd.data, S1) := by simp [txtS, txtF, c1, c2, c3, ← hnd, k2, ← hS1, charsT, d1]
            repeat refine wps_seq ?_
            refine wps_region callOK ?_
            simp [ofV, ofV1, mkC_P, writeVar, writeCells, readCells, allSingle, AV.single, getFs, getF, setFs, setF, Heap.get, Heap.set, Heap.new, Heap.kill, killF, pushF, Heap.ready, refs, sliceParts, fillA, replL, g0, g5, k2, d1, lenN, nb1]
            repeat refine wps_seq ?_
            refine wps_cond (t := false) rfl (fun h => by cases h) fun _ => ?_
            repeat refine wps_seq ?_
            refine wps_skip ?_
            simp
            repeat refine wps_seq ?_
            refine wps_region callOK ?_
            simp [ofV, ofV1, mkC_P, writeVar, writeCells, readCells, allSingle, AV.single, getFs, getF, setFs, setF, Heap.get, Heap.set, Heap.new, Heap.kill, killF, pushF, Heap.ready, refs, sliceParts, fillA, replL, g0, k2]
            repeat refine wps_seq ?_
            refine wps_cond (t := true) rfl (fun _ => ?_) fun h => by cases h
            repeat refine wps_seq ?_
            refine wps_region callOK ?_
            simp [ofV, ofV1, mkC_P, writeVar, writeCells, readCells, allSingle, AV.single, getFs, getF, setFs, setF, Heap.get, Heap.set, Heap.new, Heap.kill, killF, pushF, Heap.ready, refs, sliceParts, fillA, replL, g4, kT]
            repeat refine wps_seq ?_
            refine wps_ret ?_
            simp [thenQ, retVal, Try.f27, oneOr]
            rw [e1]
            exact ⟨_, _, fitV_pure rfl, fin _ _ _ hf2⟩
        repeat refine wps_seq ?_
        refine wps_region callOK ?_
        simp [ofV, ofV1, mkC_P, writeVar, writeCells, readCells, allSingle, AV.single, getFs, getF, setFs, setF, Heap.get, Heap.set, Heap.new, Heap.kill, killF, pushF, Heap.ready, refs, sliceParts, fillA, replL, g0, k2]
        repeat refine wps_seq ?_
        refine wps_cond (t := false) rfl (fun h => by cases h) fun _ => ?_
        repeat refine wps_seq ?_
        refine wps_skip ?_
        simp
        repeat refine wps_seq ?_
        refine wps_region callOK ?_
        simp [ofV, ofV1, mkC_P, writeVar, writeCells, readCells, allSingle, AV.single, getFs, getF, setFs, setF, Heap.get, Heap.set, Heap.new, Heap.kill, killF, pushF, Heap.ready, refs, sliceParts, fillA, replL, g0, k2]
        repeat refine wps_seq ?_
        refine wps_cond (t := false) rfl (fun h => by cases h) fun _ => ?_
        repeat refine wps_seq ?_
        refine wps_skip ?_
        simp
        by_cases k3 : nd.kind = 3
        · have e1 : txtS t (f + 1) n S = ([60, 33, 45, 45] ++ nd.data ++ [45, 45, 62], S1) := by simp [txtS, txtF, c1, c2, c3, ← hnd, k3, ← hS1]
          repeat refine wps_seq ?_
          refine wps_region callOK ?_
          simp [ofV, ofV1, mkC_P, writeVar, writeCells, readCells, allSingle, AV.single, getFs, getF, setFs, setF, Heap.get, Heap.set, Heap.new, Heap.kill, killF, pushF, Heap.ready, refs, sliceParts, fillA, replL, g0, k3]
          repeat refine wps_seq ?_
          refine wps_cond (t := true) rfl (fun _ => ?_) fun h => by cases h
          obtain ⟨x1, hx1⟩ : ∃ x, x = [60, 33, 45, 45] ++ nd.data := ⟨_, rfl⟩
          obtain ⟨x2, hx2⟩ : ∃ x, x = x1 ++ [45, 45, 62] := ⟨_, rfl⟩
          have l1 : x1.length ≤ 400 := by rw [hx1]; simp; omega
          have q1 : binA Try.prog .add 9 (.str [60, 33, 45, 45]) (.str nd.data) = some (.str x1) := by rw [catStr (by simp; omega), hx1]
          have q2 : binA Try.prog .add 9 (.str x1) (.str [45, 45, 62]) = some (.str x2) := by rw [catStr (by simp; omega), hx2]
          rw [show ([60, 33, 45, 45] : Str) ++ nd.data ++ [45, 45, 62] = x2 by rw [hx2, hx1]] at e1
          repeat refine wps_seq ?_
          refine wps_region callOK ?_
          simp [ofV, ofV1, mkC_P, writeVar, writeCells, readCells, allSingle, AV.single, getFs, getF, setFs, setF, Heap.get, Heap.set, Heap.new, Heap.kill, killF, pushF, Heap.ready, refs, sliceParts, fillA, replL, g4, q1, q2]
          repeat refine wps_seq ?_
          refine wps_ret ?_
          simp [thenQ, retVal, Try.f27, oneOr]
          rw [e1]
          exact ⟨_, _, fitV_pure rfl, fin _ _ _ hf2⟩
        repeat refine wps_seq ?_
        refine wps_region callOK ?_
        simp [ofV, ofV1, mkC_P, writeVar, writeCells, readCells, allSingle, AV.single, getFs, getF, setFs, setF, Heap.get, Heap.set, Heap.new, Heap.kill, killF, pushF, Heap.ready, refs, sliceParts, fillA, replL, g0, k3]
        repeat refine wps_seq ?_
        refine wps_cond (t := false) rfl (fun h => by cases h) fun _ => ?_
        repeat refine wps_seq ?_
        refine wps_skip ?_
        simp
        by_cases k4 : nd.kind = 4
        · have e1 : txtS t (f + 1) n S = ([60, 33, 68, 79, 67, 84, 89, 80, 69, 32] ++ nd.data ++ [62], S1) := by simp [txtS, txtF, c1, c2, c3, ← hnd, k4, ← hS1]
          repeat refine wps_seq ?_
          refine wps_region callOK ?_
          simp [ofV, ofV1, mkC_P, writeVar, writeCells, readCells, allSingle, AV.single, getFs, getF, setFs, setF, Heap.get, Heap.set, Heap.new, Heap.kill, killF, pushF, Heap.ready, refs, sliceParts, fillA, replL, g0, k4]
          repeat refine wps_seq ?_
          refine wps_cond (t := true) rfl (fun _ => ?_) fun h => by cases h
          obtain ⟨x1, hx1⟩ : ∃ x, x = [60, 33, 68, 79, 67, 84, 89, 80, 69, 32] ++ nd.data := ⟨_, rfl⟩
          obtain ⟨x2, hx2⟩ : ∃ x, x = x1 ++ [62] := ⟨_, rfl⟩
          have l1 : x1.length ≤ 400 := by rw [hx1]; simp; omega
          have q1 : binA Try.prog .add 9 (.str [60, 33, 68, 79, 67, 84, 89, 80, 69, 32]) (.str nd.data) = some (.str x1) := by rw [catStr (by simp; omega), hx1]
          have q2 : binA Try.prog .add 9 (.str x1) (.str [62]) = some (.str x2) := by rw [catStr (by simp; omega), hx2]
          rw [show ([60, 33, 68, 79, 67, 84, 89, 80, 69, 32] : Str) ++ nd.data ++ [62] = x2 by rw [hx2, hx1]] at e1
          repeat refine wps_seq ?_
          refine wps_region callOK ?_
          simp [ofV, ofV1, mkC_P, writeVar, writeCells, readCells, allSingle, AV.single, getFs, getF, setFs, setF, Heap.get, Heap.set, Heap.new, Heap.kill, killF, pushF, Heap.ready, refs, sliceParts, fillA, replL, g4, q1, q2]
          repeat refine wps_seq ?_
          refine wps_ret ?_
          simp [thenQ, retVal, Try.f27, oneOr]
          rw [e1]
          exact ⟨_, _, fitV_pure rfl, fin _ _ _ hf2⟩
        repeat refine wps_seq ?_
        refine wps_region callOK ?_
        simp [ofV, ofV1, mkC_P, writeVar, writeCells, readCells, allSingle, AV.single, getFs, getF, setFs, setF, Heap.get, Heap.set, Heap.new, Heap.kill, killF, pushF, Heap.ready, refs, sliceParts, fillA, replL, g0, k4]
        repeat refine wps_seq ?_
        refine wps_cond (t := false) rfl (fun h => by cases h) fun _ => ?_
        repeat refine wps_seq ?_
        refine wps_skip ?_
        simp
        have e1 : txtS t (f + 1) n S = ([], S1) := by simp [txtS, txtF, c1, c2, c3, ← hnd, k0, k1, k2, k3, k4, ← hS1]
        repeat refine wps_seq ?_
        refine wps_region callOK ?_
        simp [ofV, ofV1, mkC_P, writeVar, writeCells, readCells, allSingle, AV.single, getFs, getF, setFs, setF, Heap.get, Heap.set, Heap.new, Heap.kill, killF, pushF, Heap.ready, refs, sliceParts, fillA, replL]
        repeat refine wps_seq ?_
        refine wps_ret ?_
        simp [thenQ, retVal, Try.f27, oneOr]
        rw [e1]
        exact ⟨_, _, fitV_pure rfl, fin _ _ _ hf2⟩
theorem write_all {T : List (Entry Try.prog)} (hO : findE 47 T = some e47.g) (hV : findE 17 T = some e17.g) (hR : findE 14 T = some e14.g) (hT : findE 48 T = some e48.g) {t : Tr} (ht : smallTr t) (hf : t.all fewNd = true) : ∀ f, RefAt T t f
  | 0 => fun m sb g i S h hS hfu => by
    have := sok_len t hS
    omega
  | f + 1 => write_step hO hV hR hT ht hf (write_all hO hV hR hT ht hf f)
end Go.Proofs.Ytohkgmnoamfmgaa
namespace Go.Proofs.Ytohkgmnoamfmgaa
set_option linter.unusedSimpArgs false
set_option linter.unusedVariables false
open Go Go.RowKit
set_option maxRecDepth 100000

theorem repl_B : ∀ n, replL [AV.bool false] n = List.replicate n (.bool false)
  | 0 => rfl
  | n + 1 => by
    show [AV.bool false] ++ replL [AV.bool false] n = _
    rw [repl_B n, List.replicate_succ]
    rfl
theorem seen_none (t : Tr) : seenL t [] = List.replicate t.length (.bool false) := by
  apply List.ext_getElem
  · simp [seenL]
  · intro k h1 h2
    simp [seenL]
theorem msBool {t : Tr} (h : t.length ≤ 1000000) : msB Try.prog 57 (.int .i64 (t.length : Nat)) (.int .i64 (t.length : Nat)) = some (fun b => .slc b 0 t.length (.ex t.length), .cells (seenL t [])) := by
  obtain ⟨n, hn⟩ : ∃ n, n = t.length := ⟨_, rfl⟩
  rw [seen_none, ← hn]
  rw [← hn] at h
  have h1 : idx (n : Int) 17592186044416 = some n := idx_nat (by omega)
  have h2 : idx (n : Int) (Nat.succ n) = some n := idx_nat (by omega)
  have h3 : roomOK n 1 = true := by simp [roomOK]; omega
  have hz : zeroOf Try.prog 4 = some (.bool false) := rfl
  have hs : sizeT Try.prog 4 = some 1 := rfl
  have hb : bytesT Try.prog 4 = some 1 := rfl
  have hu : Try.prog.underlying 57 = some (.slice 4) := by kernel_rfl
  simp only [msB, hu, Option.bind_some, hs, hb, h1, h2, h3, hz]
  simp [AV.cells, repl_B]
theorem c12 {T : List (Entry Try.prog)} (hO : findE 47 T = some e47.g) (hV : findE 17 T = some e17.g) (hR : findE 14 T = some e14.g) (hT : findE 48 T = some e48.g) {t : Tr} (ht : smallTr t) (hf : t.all fewNd = true) (i : Int) :
    CallAt (ctx T) 12 [aTree t, .int .i64 i] ⟨0, []⟩ (.str (serT t i)) ⟨0, []⟩ := by
  have h3 := ht.1
  have rk : Rok 9 ((6, .cells (seenL t [])) :: [(0, .cells [aNodes t])]) := ⟨fun e he => by
      simp only [List.mem_cons, List.not_mem_nil, or_false] at he
      rcases he with rfl | rfl <;> simp, by simp, fun e he => by
      simp only [List.mem_cons, List.not_mem_nil, or_false] at he
      rcases he with rfl | rfl
      · exact self_pure (pure_seen t [])
      · exact self_pure (by simp [pureL])⟩
  have nd := write_all (T := T) hO hV hR hT ht hf (t.length + 1) 9 6 [(0, .cells [aNodes t])] i [] rk ⟨by simp, fun x hx => by cases hx⟩ (by simp)
  rw [show (txtS t (t.length + 1) i []).1 = serT t i from rfl] at nd
  obtain ⟨S2, hS2⟩ : ∃ S2, S2 = (txtS t (t.length + 1) i []).2 := ⟨_, rfl⟩
  rw [← hS2] at nd
  simp only [aTree] at nd
  refine callAt_body (fn := Try.f12) (s0 := ⟨[0, 1, 2, 4], [aTree t, .int .i64 i, .undef, .undef], [], 12, ⟨0, [[]]⟩⟩) Try.func12 rfl rfl rfl ?_
  repeat refine wps_seq ?_
  refine wps_region callOK ?_
  simp [ofV, ofV1, mkC_P, writeVar, writeCells, readCells, allSingle, AV.single, getFs, getF, setFs, setF, Heap.get, Heap.set, Heap.new, Heap.kill, killF, pushF, Heap.ready, refs, sliceParts, fillA, replL, aTree]
  repeat refine wps_seq ?_
  refine wps_drawn mixed (callOKF [⟨27, _, _, _, _, nd⟩]) (by decide +kernel) fun B_ hB_ => ?_
  have d_0_6 : ahead B_ 0 6 = true := by rw [hB_]; decide +kernel
  have d_3_6 : ahead B_ 3 6 = true := by rw [hB_]; decide +kernel
  have d_4_6 : ahead B_ 4 6 = true := by rw [hB_]; decide +kernel
  have d_5_6 : ahead B_ 5 6 = true := by rw [hB_]; decide +kernel
  have d_6_0 : ahead B_ 6 0 = false := by rw [hB_]; decide +kernel
  have d_6_3 : ahead B_ 6 3 = false := by rw [hB_]; decide +kernel
  have d_6_4 : ahead B_ 6 4 = false := by rw [hB_]; decide +kernel
  simp [ofV, ofV1, mkC_P, writeVar, writeCells, readCells, allSingle, AV.single, getFs, getF, setFs, setF, Heap.get, Heap.set, Heap.new, Heap.kill, killF, pushF, Heap.ready, refs, sliceParts, fillA, replL, mkBlk, guardA, evalD, stepD, clsOf, reserve, freshenAll, sameRecs, sameAll, sameAt, allPend, Heap.lay, ontoF, wantedBy, unwantedBy, d_0_6, d_3_6, d_4_6, d_5_6, d_6_0, d_6_3, d_6_4, lenN, callF, msBool (show t.length ≤ 1000000 by omega)]
  repeat refine wps_seq ?_
  refine wps_ret ?_
  simp [retVal, Try.f12, oneOr]
  exact ⟨[], [], fitV_pure rfl, fit_empty _⟩
noncomputable def e12 : Entry Try.prog := mkE 12 [[], []] (fun x : Tr × Int => [aTree x.1, .int .i64 x.2]) (fun x => smallTr x.1 ∧ x.1.all fewNd = true) (fun x => .str (serT x.1 x.2)) fun x hx => c12 (T := [e47, e17, e14, e48]) rfl rfl rfl rfl hx.1 hx.2 x.2
theorem k12 {T : List (Entry Try.prog)} (hT : findE 12 T = some e12.g) {t : Tr} (ht : smallTr t) (hf : t.all fewNd = true) (i : Int) (H : Heap) : callL (ctx T) (.fn 12) [aTree t, .int .i64 i] H = some (.str (serT t i), H) :=
  mkE_scalar hT injTI (t, i) ⟨ht, hf⟩ rfl (by simp [th_aTree])
theorem c10 {T : List (Entry Try.prog)} (hN : findE 12 T = some e12.g) {t : Tr} (ht : smallTr t) (hf : t.all fewNd = true) : CallAt (ctx T) 10 [aTree t] ⟨0, []⟩ (.str (serT t 0)) ⟨0, []⟩ := by
  have hk : ∀ H, callL (ctx T) (.fn 12) [.agg [aNodes t], .int .i64 0] H = some (.str (serT t 0), H) := fun H => k12 hN ht hf 0 H
  refine callAt_body (fn := Try.f10) (s0 := ⟨[0, 1, 2], [aTree t, .undef, .undef], [], 5, ⟨0, [[]]⟩⟩) Try.func10 rfl rfl rfl ?_
  (repeat (first
    | (refine wps_seq ?_)
    | (refine wps_block ?_)
    | (refine wps_label ?_; simp only [thenQ, blockQ])
    | ((refine wps_region callOK ?_); simp [ofV, ofV1, mkC_P, writeVar, writeCells, readCells, allSingle, AV.single, getFs, getF, setFs, setF, Heap.get, Heap.set, Heap.new, Heap.kill, killF, pushF, Heap.ready, refs, sliceParts, fillA, replL, hk, aTree])
    | (refine wps_cond (t := true) rfl (fun _ => ?_) (fun h => by cases h))
    | (refine wps_cond (t := false) rfl (fun h => by cases h) (fun _ => ?_))
    | ((refine wps_skip ?_); simp only [thenQ, blockQ])
    | ((refine wps_exit ?_); simp [thenQ, blockQ])))
  repeat refine wps_seq ?_
  refine wps_ret ?_
  simp [retVal, Try.f10, oneOr, thenQ, blockQ]
  exact ends_pure rfl (by rfl)
noncomputable def e10 : Entry Try.prog := mkE 10 [[]] (fun t : Tr => [aTree t]) (fun t => smallTr t ∧ t.all fewNd = true) (fun t => .str (serT t 0)) fun t ht => c10 (T := [e12]) rfl ht.1 ht.2
theorem k10 {T : List (Entry Try.prog)} (hT : findE 10 T = some e10.g) {t : Tr} (ht : smallTr t) (hf : t.all fewNd = true) (H : Heap) : callL (ctx T) (.fn 10) [aTree t] H = some (.str (serT t 0), H) :=
  mkE_scalar hT injT t ⟨ht, hf⟩ rfl (by simp [th_aTree])
end Go.Proofs.Ytohkgmnoamfmgaa
namespace Go.Proofs.Ytohkgmnoamfmgaa
set_option linter.unusedSimpArgs false
set_option linter.unusedVariables false
open Go Go.RowKit
set_option maxRecDepth 100000

def isTrueS : Option (AV × Heap) → Bool
  | some (.bool b, _) => b
  | _ => false
theorem closedS {T : List (Entry Try.prog)} {f : FuncId} (h : isTrueS (callN (ctx T) 100000 (.fn f) [] ⟨0, []⟩) = true) : CallAt (ctx T) f [] ⟨0, []⟩ (.bool true) ⟨0, []⟩ := by
  revert h
  cases hr : callN (ctx T) 100000 (.fn f) [] ⟨0, []⟩ with
  | none => intro h; cases h
  | some r =>
    obtain ⟨v, H'⟩ := r
    intro h
    cases v <;> simp only [isTrueS] at h <;> first | (cases h; done) | skip
    subst h
    exact ((call_ok mixed (mkC_ok _ _ _) 100000).fn f [] ⟨0, []⟩ _ _ hr).freeze (Φ := []) (by simp [fitV, pureV]) FitH.empty
noncomputable def r58 : Entry Try.prog := ⟨58, fun args H => match args with
  | [.int .i64 sp, .str nm] => match Nat.ble nm.length 1000 with
    | true => some (.bool (voidW sp nm), H)
    | false => none
  | _ => none, fun args H v H' h => by
    split at h
    · rename_i sp nm
      split at h
      · rename_i hl
        simp only [Option.some.injEq, Prod.mk.injEq] at h
        obtain ⟨rfl, rfl⟩ := h
        exact (c58 (T := []) sp nm (by have := Nat.le_of_ble_eq_true hl; omega)).lift (by simp [pureL, pureV]) H
      · cases h
    · cases h⟩
noncomputable def TS : List (Entry Try.prog) := [e82, r58]
theorem awake27 : isTrueS (callN (ctx TS) 100000 (.fn 8) [] ⟨0, []⟩) = true := by decide +kernel
noncomputable def e8 : Entry Try.prog := mkE 8 [] (fun _ : Unit => []) (fun _ => True) (fun _ => .bool true) fun _ _ => closedS awake27
theorem k8 {T : List (Entry Try.prog)} (hT : findE 8 T = some e8.g) (H : Heap) : callL (ctx T) (.fn 8) [] H = some (.bool true, H) :=
  mkE_scalar hT (fun _ _ _ => rfl) () trivial rfl rfl
end Go.Proofs.Ytohkgmnoamfmgaa
namespace Go.Proofs.Ytohkgmnoamfmgaa
set_option linter.unusedSimpArgs false
set_option linter.unusedVariables false
open Go Go.RowKit
set_option maxRecDepth 100000

theorem c3 {T : List (Entry Try.prog)} (hA : findE 8 T = some e8.g) (hP : findE 6 T = some e6.g) (hN : findE 7 T = some e7.g) (h1 : findE 9 T = some e9.g) (h2 : findE 10 T = some e10.g) (h3 : findE 11 T = some e11.g) (h4 : findE 12 T = some e12.g) (h5 : findE 13 T = some e13.g) (h6 : findE 14 T = some e14.g) (t : Tr) (i : Int) (n : Nd) :
    CallAt (ctx T) 3 [aTree t, .int .i64 i, aNode n] ⟨0, []⟩ (.bool true) ⟨0, []⟩ := by
  have ka := fun H => k8 hA H
  have kp := fun H => k6 hP t (m := 30) (by omega) H
  have kn := fun H => k7 hN n H
  have kr := fun H => k13 h5 n H
  have kr2 := fun H => k14 h6 n H
  simp only [aTree] at kp
  cases hf : mayTr t 30 with
  | false =>
    rw [hf] at kp
    refine callAt_body (fn := Try.f3) (s0 := ⟨[0, 1, 2, 3, 5, 6], [aTree t, .int .i64 i, aNode n, .undef, .undef, .undef], [], 40, ⟨0, [[]]⟩⟩) Try.func3 rfl rfl rfl ?_
    (repeat (first
      | (refine wps_seq ?_)
      | (refine wps_block ?_)
      | (refine wps_label ?_; simp only [thenQ, blockQ])
      | ((refine wps_region callOK ?_); simp [ofV, ofV1, mkC_P, writeVar, writeCells, readCells, allSingle, AV.single, getFs, getF, setFs, setF, Heap.get, Heap.set, Heap.new, Heap.kill, killF, pushF, Heap.ready, refs, sliceParts, fillA, replL, aTree, aNode, kp, ka])
      | (refine wps_cond (t := true) rfl (fun _ => ?_) (fun h => by cases h))
      | (refine wps_cond (t := false) rfl (fun h => by cases h) (fun _ => ?_))
      | ((refine wps_skip ?_); simp only [thenQ, blockQ])
      | ((refine wps_exit ?_); simp [thenQ, blockQ])))
    repeat refine wps_seq ?_
    refine wps_ret ?_
    simp [retVal, Try.f3, oneOr, thenQ, blockQ]
    exact ends_pure rfl (by rfl)
  | true =>
    rw [hf] at kp
    simp only [mayTr, Bool.and_eq_true] at hf
    have hs := few_small (by omega) hf.1
    have hfw : t.all fewNd = true := by
      have := hf.1
      simp only [fewTr, Bool.and_eq_true] at this
      exact this.2
    cases hn : fewNd n with
    | false =>
      rw [hn] at kn
      refine callAt_body (fn := Try.f3) (s0 := ⟨[0, 1, 2, 3, 5, 6], [aTree t, .int .i64 i, aNode n, .undef, .undef, .undef], [], 40, ⟨0, [[]]⟩⟩) Try.func3 rfl rfl rfl ?_
      repeat refine wps_seq ?_
      refine wps_region callOK ?_
      simp [ofV, ofV1, mkC_P, writeVar, writeCells, readCells, allSingle, AV.single, getFs, getF, setFs, setF, Heap.get, Heap.set, Heap.new, Heap.kill, killF, pushF, Heap.ready, refs, sliceParts, fillA, replL, aTree, aNode]
      repeat refine wps_seq ?_
      refine wps_region callOK ?_
      simp [ofV, ofV1, mkC_P, writeVar, writeCells, readCells, allSingle, AV.single, getFs, getF, setFs, setF, Heap.get, Heap.set, Heap.new, Heap.kill, killF, pushF, Heap.ready, refs, sliceParts, fillA, replL, fold_node, kp, kn]
      repeat refine wps_seq ?_
      refine wps_cond (t := true) rfl (fun _ => ?_) fun h => by cases h
      repeat refine wps_seq ?_
      refine wps_region callOK ?_
      simp [ofV, ofV1, mkC_P, writeVar, writeCells, readCells, allSingle, AV.single, getFs, getF, setFs, setF, Heap.get, Heap.set, Heap.new, Heap.kill, killF, pushF, Heap.ready, refs, sliceParts, fillA, replL, ka]
      repeat refine wps_seq ?_
      refine wps_ret ?_
      simp [retVal, Try.f3, oneOr, thenQ, blockQ]
      exact ends_pure rfl (by rfl)
    | true =>
      rw [hn] at kn
      have q1 := fun H => k9 h1 hs hfw H
      have q2 := fun H => k10 h2 hs hfw H
      have q3 := fun H => k11 h3 hs hfw i H
      have q4 := fun H => k12 h4 hs hfw i H
      simp only [aTree] at q1 q2 q3 q4
      refine callAt_body (fn := Try.f3) (s0 := ⟨[0, 1, 2, 3, 5, 6], [aTree t, .int .i64 i, aNode n, .undef, .undef, .undef], [], 40, ⟨0, [[]]⟩⟩) Try.func3 rfl rfl rfl ?_
      repeat refine wps_seq ?_
      refine wps_region callOK ?_
      simp [ofV, ofV1, mkC_P, writeVar, writeCells, readCells, allSingle, AV.single, getFs, getF, setFs, setF, Heap.get, Heap.set, Heap.new, Heap.kill, killF, pushF, Heap.ready, refs, sliceParts, fillA, replL, aTree, aNode]
      repeat refine wps_seq ?_
      refine wps_region callOK ?_
      simp [ofV, ofV1, mkC_P, writeVar, writeCells, readCells, allSingle, AV.single, getFs, getF, setFs, setF, Heap.get, Heap.set, Heap.new, Heap.kill, killF, pushF, Heap.ready, refs, sliceParts, fillA, replL, fold_node, kp, kn]
      repeat refine wps_seq ?_
      refine wps_cond (t := false) rfl (fun h => by cases h) fun _ => ?_
      repeat refine wps_seq ?_
      refine wps_skip ?_
      simp
      repeat refine wps_seq ?_
      refine wps_drawK mixed callOK (by decide +kernel) (by decide +kernel) ?_
      simp [ofV, ofV1, mkC_P, writeVar, writeCells, readCells, allSingle, AV.single, getFs, getF, setFs, setF, Heap.get, Heap.set, Heap.new, Heap.kill, killF, pushF, Heap.ready, refs, sliceParts, fillA, replL, evalK_c, evalK_nil, thenK_some, fold_node, q1, q2, q3, q4, kr, kr2, ka]
      repeat refine wps_seq ?_
      refine wps_ret ?_
      simp [retVal, Try.f3, oneOr, thenQ, blockQ]
      exact ends_pure rfl (by rfl)
end Go.Proofs.Ytohkgmnoamfmgaa
