/- The reference's Value; DocsHave's walk. No condition. -/
import Derived.Test.YtohkgmnoamfmgaaME
import Derived.Test.YtohkgmnoamfmgaaMD
namespace Go.Proofs.Ytohkgmnoamfmgaa
set_option linter.unusedSimpArgs false
set_option linter.unusedVariables false
open Go Go.RowKit
set_option maxRecDepth 100000

/-! ### The order's elements -/
theorem kl_inv {n : Nat} {g : Nat → Wk → Wk} {P : Wk → Prop} (hg : ∀ i w, i < n → w.inn.getD i 0 < 0 → P w → P (g i w)) : ∀ (ks : List Int) (w : Wk), P w → P (kl n g ks w)
  | [], w, h => h
  | k :: r, w, h => by
    unfold kl
    split
    · rename_i hk
      exact kl_inv hg r _ (hg k.toNat w (by omega) hk.2.2 h)
    · exact kl_inv hg r w h
theorem vis_inv {n : Nat} {ks : Nat → List Int} {P : Wk → Prop} (hin : ∀ i w, i < n → w.inn.getD i 0 < 0 → P w → P (into i w)) (hout : ∀ i w, P w → P (outof i w)) : ∀ (f i : Nat) (w : Wk), i < n → w.inn.getD i 0 < 0 → P w → P (vis n ks f i w)
  | 0, i, w, _, _, h => h
  | f + 1, i, w, hi, hn, h => by
    unfold vis
    exact hout _ _ (kl_inv (fun i w hi hn h => vis_inv hin hout f i w hi hn h) _ _ (hin i w hi hn h))
structure LOK (n : Nat) (w : Wk) : Prop where
  li : w.inn.length = n
  c0 : 0 ≤ w.c
  rng : ∀ x, x ∈ w.l → 0 ≤ x ∧ x < (n : Int) ∧ 0 ≤ w.inn.getD x.toNat (-1)
  nd : w.l.Nodup
theorem LOK.into {n i : Nat} {w : Wk} (h : LOK n w) (hi : i < n) (hn : w.inn.getD i 0 < 0) : LOK n (into i w) where
  li := by simp [Go.Proofs.Ytohkgmnoamfmgaa.into, h.li]
  c0 := by have := h.c0; simp only [Go.Proofs.Ytohkgmnoamfmgaa.into]; omega
  rng := fun x hx => by
    have hl := h.li
    have hc := h.c0
    simp only [Go.Proofs.Ytohkgmnoamfmgaa.into, List.mem_append, List.mem_singleton] at hx ⊢
    have hset : ∀ j, j < n → (w.inn.set i w.c).getD j (-1) = if i = j then w.c else w.inn.getD j (-1) := fun j hj => by
      simp only [List.getD_eq_getElem?_getD, List.getElem?_set]
      split <;> simp_all
    rcases hx with hx | rfl
    · obtain ⟨h1, h2, h3⟩ := h.rng x hx
      refine ⟨h1, h2, ?_⟩
      rw [hset _ (by omega)]
      split <;> omega
    · refine ⟨by omega, by omega, ?_⟩
      rw [hset _ (by omega)]
      simp [hc]
  nd := by
    simp only [Go.Proofs.Ytohkgmnoamfmgaa.into]
    refine List.nodup_append.2 ⟨h.nd, by simp, ?_⟩
    intro a ha b hb
    simp at hb
    subst hb
    rintro rfl
    have h3 := (h.rng _ ha).2.2
    have hl := h.li
    simp only [List.getD_eq_getElem?_getD, Int.toNat_natCast] at h3 hn
    rw [List.getElem?_eq_getElem (by omega)] at h3 hn
    simp at h3 hn
    omega
theorem LOK.out {n i : Nat} {w : Wk} (h : LOK n w) : LOK n (outof i w) := ⟨h.li, by have := h.c0; simp only [outof]; omega, h.rng, h.nd⟩
theorem order_lok {n : Nat} {ks : Nat → List Int} (hn : 0 < n) : LOK n (vis n ks n 0 (w0 n)) :=
  vis_inv (fun i w hi h1 h2 => h2.into hi h1) (fun i w h => h.out) n 0 (w0 n) hn (by simp [w0, List.getD_eq_getElem?_getD, hn]) ⟨by simp [w0], by simp [w0], by simp [w0], by simp [w0]⟩
theorem order_mem {n : Nat} {ks : Nat → List Int} {x : Int} (h : x ∈ orderOf n ks) : 0 ≤ x ∧ x < (n : Int) := by
  unfold orderOf at h
  split at h
  · simp at h
  · obtain ⟨h1, h2, _⟩ := (order_lok (n := n) (by omega)).rng x h
    exact ⟨h1, h2⟩
theorem order_nodup {n : Nat} {ks : Nat → List Int} : (orderOf n ks).Nodup := by
  unfold orderOf
  split
  · simp
  · exact (order_lok (n := n) (by omega)).nd
theorem order_len {n : Nat} {ks : Nat → List Int} : (orderOf n ks).length ≤ n := by
  unfold orderOf
  split
  · simp
  · rename_i hz
    have hr : negs (w0 n).inn ≤ n := by simp [w0, negs_rep]
    have := (vis_ok (n := n) (ks := ks) n 0 0 (w0 n) (by omega) (w0_ok _) (by omega) (by simp [w0, List.getD_eq_getElem?_getD, Nat.pos_of_ne_zero hz]) hr).1.1.lb
    omega

/-! ### A list of a loop's own, beside rows of values -/
theorem FitH.own1 {k b m' : Nat} {τ : List (Nat × Nat)} {es : List AV} {sz : Nat} {H : Heap} {g : List (Nat × Blk)} (he : Elems sz es) (hb : es ≠ [] → H.get b = some (.cells (flatAV es)))
    (n1 : (((b, k) :: τ).map (·.1)).Nodup) (n2 : (((b, k) :: τ).map (·.2)).Nodup) (n3 : (k :: g.map (·.1)).Nodup) (lt : ∀ x, x ∈ (b, k) :: τ → x.2 < m')
    (src : ∀ e, e ∈ g → ∃ b cs, (b, e.1) ∈ τ ∧ H.get b = some (.cells cs) ∧ e.2 = .cells cs ∧ pureL cs = true) : FitH 0 ((b, k) :: τ) [] H ⟨m', [ownF k es ++ g]⟩ := by
  refine .rows n1 n2 ?_ lt (by simp) (Nat.zero_le _) ?_
  · cases es with
    | nil => rw [List.nodup_cons] at n3; simpa [ownF, Heap.ents] using n3.2
    | cons x r => simpa [ownF, Heap.ents] using n3
  · intro e h
    cases hes : es with
    | nil =>
      rw [hes] at h
      simp [ownF, Heap.ents] at h
      obtain ⟨b', cs, h1, h2⟩ := src e h
      exact ⟨b', cs, List.mem_cons_of_mem _ h1, h2⟩
    | cons x r =>
      rw [hes] at h
      simp only [ownF, Heap.ents, List.flatten_cons, List.flatten_nil, List.append_nil, List.cons_append, List.nil_append, List.mem_cons] at h
      rcases h with rfl | h
      · exact ⟨b, _, List.mem_cons_self, by rw [hb (by simp [hes]), hes], rfl, by rw [← hes]; exact he.pure⟩
      · obtain ⟨b', cs, h1, h2⟩ := src e h
        exact ⟨b', cs, List.mem_cons_of_mem _ h1, h2⟩

/-! ### Nodes by number -/
def nd0 : Nd := ⟨0, 0, [], [], [], 0, []⟩
def nodeAt (t : Tr) (i : Int) : Nd := t.getD i.toNat nd0
theorem nodeAt_get {t : Tr} {i : Nat} (h : i < t.length) : nodeAt t (i : Int) = t[i] := by
  simp [nodeAt, List.getD_eq_getElem?_getD, List.getElem?_eq_getElem h]
theorem nodeAt_mem {t : Tr} {i : Int} (h0 : 0 ≤ i) (h : i < (t.length : Int)) : nodeAt t i ∈ t := by
  obtain ⟨j, rfl⟩ : ∃ j : Nat, i = j := ⟨i.toNat, by omega⟩
  rw [nodeAt_get (by omega)]
  exact List.getElem_mem _
theorem atX {t : Tr} {i : Int} (h0 : 0 ≤ i) (h : i < (t.length : Int)) : indexAddrA Try.prog 22 (aNodes t) (.int .i64 i) = some (.fptr (nodeAt t i).cs 0) := by
  obtain ⟨j, rfl⟩ : ∃ j : Nat, i = j := ⟨i.toNat, by omega⟩
  rw [atN (by omega), nodeAt_get (by omega)]
@[simp] theorem sub_cs (n : Nd) : subL 0 7 n.cs = some n.cs := rfl
theorem fold_node (n : Nd) : AV.agg n.cs = aNode n := rfl
/-- what a name tells -/
def namedL (t : Tr) (x : Str) : List Int := if x = [] then [] else (orderOf t.length (kidsOf t)).filter fun i => toldB (nodeAt t i) x
def namedTo (t : Tr) (x : Str) (i : Nat) : List Int := if x = [] then [] else ((orderOf t.length (kidsOf t)).take i).filter fun i => toldB (nodeAt t i) x
theorem namedTo_at {t : Tr} {x : Str} {i : Nat} (h : i < (orderOf t.length (kidsOf t)).length) : namedTo t x (i + 1) = if x ≠ [] ∧ toldB (nodeAt t (orderOf t.length (kidsOf t))[i]) x = true then namedTo t x i ++ [(orderOf t.length (kidsOf t))[i]] else namedTo t x i := by
  unfold namedTo
  by_cases hx : x = []
  · simp [hx]
  · rw [List.take_succ_eq_append_getElem h, List.filter_append]
    by_cases ht : toldB (nodeAt t (orderOf t.length (kidsOf t))[i]) x = true
    · simp [hx, ht]
    · simp [hx, ht]
theorem namedTo_len {t : Tr} {x : Str} {i : Nat} : (namedTo t x i).length ≤ i := by
  unfold namedTo
  split
  · simp
  · refine Nat.le_trans (List.length_filter_le _ _) ?_
    simp; omega
theorem namedTo_end {t : Tr} {x : Str} {i : Nat} (h : (orderOf t.length (kidsOf t)).length ≤ i) : namedTo t x i = namedL t x := by
  unfold namedTo namedL
  rw [List.take_of_length_le h]
theorem ints_app {L : List Int} {v : Int} : ints (L ++ [v]) = ints L ++ [.int .i64 v] := by simp [ints, aInt]
theorem atIx {L : List Int} {i : Nat} (h : i < L.length) : indexAddrA Try.prog 26 (aInts L) (.int .i64 (i : Int)) = some (.fptr [.int .i64 L[i]] 0) := atI h
end Go.Proofs.Ytohkgmnoamfmgaa
namespace Go.Proofs.Ytohkgmnoamfmgaa
set_option linter.unusedSimpArgs false
set_option linter.unusedVariables false
open Go Go.RowKit
set_option maxRecDepth 100000

theorem injTS (x y : Tr × Str) (h : [aTree x.1, .str x.2] = [aTree y.1, .str y.2]) : x = y := by
  simp at h; exact Prod.ext (inj_aTree h.1) h.2
theorem injII (x y : List Int × List Int) (h : [aInts x.1, aInts x.2] = [aInts y.1, aInts y.2]) : x = y := by
  simp only [List.cons.injEq] at h
  exact Prod.ext (inj_aInts h.1) (inj_aInts h.2.1)
end Go.Proofs.Ytohkgmnoamfmgaa
namespace Go.Proofs.Ytohkgmnoamfmgaa
set_option linter.unusedSimpArgs false
set_option linter.unusedVariables false
open Go Go.RowKit
set_option maxRecDepth 100000

def fewAt (a : At1) : Bool := decide (a.1.length ≤ 40 ∧ a.2.length ≤ 150)
def fewAts (L : List At1) : Bool := decide (L.length ≤ 14) && L.all fewAt
def fewNd (n : Nd) : Bool := decide (n.name.length ≤ 40) && (decide (n.data.length ≤ 300) && (decide (n.kids.length ≤ 60) && fewAts n.attrs))
def fewTr (t : Tr) (m : Int) : Bool := decide ((t.length : Int) ≤ m) && t.all fewNd
theorem c21 {T : List (Entry Try.prog)} (L : List At1) : CallAt (ctx T) 21 [aAttrs L] ⟨0, []⟩ (.bool (fewAts L)) ⟨0, []⟩ := by
  refine callAt_body (fn := Try.f21) (s0 := ⟨[0, 2, 4, 8, 9, 10], [aAttrs L, .undef, .undef, .undef, .undef, .undef], [], 25, ⟨0, [[]]⟩⟩) Try.func21 rfl rfl rfl ?_
  repeat refine wps_seq ?_
  refine wps_region callOK ?_
  simp [ofV, ofV1, mkC_P, writeVar, writeCells, readCells, allSingle, AV.single, getFs, getF, setFs, setF, Heap.get, Heap.set, Heap.new, Heap.kill, killF, pushF, Heap.ready, refs, sliceParts, fillA, replL]
  by_cases hl : 14 < L.length
  · have hl' : (14 : Int) < (L.length : Int) := by omega
    repeat refine wps_seq ?_
    refine wps_region callOK ?_
    simp [ofV, ofV1, mkC_P, writeVar, writeCells, readCells, allSingle, AV.single, getFs, getF, setFs, setF, Heap.get, Heap.set, Heap.new, Heap.kill, killF, pushF, Heap.ready, refs, sliceParts, fillA, replL, lenA1, hl']
    repeat refine wps_seq ?_
    refine wps_cond (t := true) rfl (fun _ => ?_) fun h => by cases h
    repeat refine wps_seq ?_
    refine wps_region callOK ?_
    simp [ofV, ofV1, mkC_P, writeVar, writeCells, readCells, allSingle, AV.single, getFs, getF, setFs, setF, Heap.get, Heap.set, Heap.new, Heap.kill, killF, pushF, Heap.ready, refs, sliceParts, fillA, replL]
    repeat refine wps_seq ?_
    refine wps_ret ?_
    simp [retVal, Try.f21, oneOr, thenQ, blockQ]
    exact ends_pure rfl (by simp [fewAts]; omega)
  · have hl' : ¬ (14 : Int) < (L.length : Int) := by omega
    repeat refine wps_seq ?_
    refine wps_region callOK ?_
    simp [ofV, ofV1, mkC_P, writeVar, writeCells, readCells, allSingle, AV.single, getFs, getF, setFs, setF, Heap.get, Heap.set, Heap.new, Heap.kill, killF, pushF, Heap.ready, refs, sliceParts, fillA, replL, lenA1, hl']
    repeat refine wps_seq ?_
    refine wps_cond (t := false) rfl (fun h => by cases h) fun _ => ?_
    repeat refine wps_seq ?_
    refine wps_skip ?_
    simp
    repeat refine wps_seq ?_
    refine wps_region callOK ?_
    simp [ofV, ofV1, mkC_P, writeVar, writeCells, readCells, allSingle, AV.single, getFs, getF, setFs, setF, Heap.get, Heap.set, Heap.new, Heap.kill, killF, pushF, Heap.ready, refs, sliceParts, fillA, replL, lenA1]
    repeat refine wps_seq ?_
    refine wps_block (wps_loop' (fun i : Nat => (⟨[0, 2, 4, 8, 9, 10], [aAttrs L, .undef, .undef, aAttrs L, .int .i64 (L.length : Nat), .int .i64 i], [], 25, ⟨0, [[]]⟩⟩ : St))
      (fun i => i ≤ L.length ∧ L.all fewAt = (L.drop i).all fewAt) (fun i => L.length - i) [] [] 0 ⟨Nat.zero_le _, by simp⟩ ⟨rfl, rfl, rfl, by simp [fitL, fitV, pureV, pureL, aAttrs], FitH.nothing⟩ ?_)
    rintro i ⟨hi, he⟩ B hB
    repeat refine wps_seq ?_
    refine wps_region callOK ?_
    simp [ofV, ofV1, mkC_P, writeVar, writeCells, readCells, allSingle, AV.single, getFs, getF, setFs, setF, Heap.get, Heap.set, Heap.new, Heap.kill, killF, pushF, Heap.ready, refs, sliceParts, fillA, replL]
    repeat refine wps_seq ?_
    refine wps_cond rfl (fun h => ?_) fun h => ?_
    · simp at h
      rw [List.drop_eq_getElem_cons h, List.all_cons] at he
      repeat refine wps_seq ?_
      refine wps_skip ?_
      simp
      repeat refine wps_seq ?_
      refine wps_block ?_
      repeat refine wps_seq ?_
      refine wps_region callOK ?_
      simp [ofV, ofV1, mkC_P, writeVar, writeCells, readCells, allSingle, AV.single, getFs, getF, setFs, setF, Heap.get, Heap.set, Heap.new, Heap.kill, killF, pushF, Heap.ready, refs, sliceParts, fillA, replL, atA h, rdA1]
      by_cases h1 : 40 < L[i].1.length
      · have h1' : (40 : Int) < (L[i].1.length : Int) := by omega
        have hf : fewAt L[i] = false := by simp [fewAt]; omega
        repeat refine wps_seq ?_
        refine wps_region callOK ?_
        simp [ofV, ofV1, mkC_P, writeVar, writeCells, readCells, allSingle, AV.single, getFs, getF, setFs, setF, Heap.get, Heap.set, Heap.new, Heap.kill, killF, pushF, Heap.ready, refs, sliceParts, fillA, replL, h1']
        repeat refine wps_seq ?_
        refine wps_cond (t := true) rfl (fun _ => ?_) fun h => by cases h
        repeat refine wps_seq ?_
        refine wps_region callOK ?_
        simp [ofV, ofV1, mkC_P, writeVar, writeCells, readCells, allSingle, AV.single, getFs, getF, setFs, setF, Heap.get, Heap.set, Heap.new, Heap.kill, killF, pushF, Heap.ready, refs, sliceParts, fillA, replL]
        repeat refine wps_seq ?_
        refine wps_ret ?_
        simp [retVal, Try.f21, oneOr, thenQ, blockQ]
        exact ends_pure rfl (by simp only [fewAts, he, hf]; simp)
      · have h1' : ¬ (40 : Int) < (L[i].1.length : Int) := by omega
        by_cases h2 : 150 < L[i].2.length
        · have h2' : (150 : Int) < (L[i].2.length : Int) := by omega
          have hf : fewAt L[i] = false := by simp [fewAt]; omega
          repeat refine wps_seq ?_
          refine wps_region callOK ?_
          simp [ofV, ofV1, mkC_P, writeVar, writeCells, readCells, allSingle, AV.single, getFs, getF, setFs, setF, Heap.get, Heap.set, Heap.new, Heap.kill, killF, pushF, Heap.ready, refs, sliceParts, fillA, replL, h1', h2']
          repeat refine wps_seq ?_
          refine wps_cond (t := true) rfl (fun _ => ?_) fun h => by cases h
          repeat refine wps_seq ?_
          refine wps_region callOK ?_
          simp [ofV, ofV1, mkC_P, writeVar, writeCells, readCells, allSingle, AV.single, getFs, getF, setFs, setF, Heap.get, Heap.set, Heap.new, Heap.kill, killF, pushF, Heap.ready, refs, sliceParts, fillA, replL]
          repeat refine wps_seq ?_
          refine wps_ret ?_
          simp [retVal, Try.f21, oneOr, thenQ, blockQ]
          exact ends_pure rfl (by simp only [fewAts, he, hf]; simp)
        · have h2' : ¬ (150 : Int) < (L[i].2.length : Int) := by omega
          have hf : fewAt L[i] = true := by simp [fewAt]; omega
          repeat refine wps_seq ?_
          refine wps_region callOK ?_
          simp [ofV, ofV1, mkC_P, writeVar, writeCells, readCells, allSingle, AV.single, getFs, getF, setFs, setF, Heap.get, Heap.set, Heap.new, Heap.kill, killF, pushF, Heap.ready, refs, sliceParts, fillA, replL, h1', h2']
          repeat refine wps_seq ?_
          refine wps_cond (t := false) rfl (fun h => by cases h) fun _ => ?_
          repeat refine wps_seq ?_
          refine wps_skip ?_
          simp
          repeat refine wps_seq ?_
          refine wps_region callOK ?_
          simp [ofV, ofV1, mkC_P, writeVar, writeCells, readCells, allSingle, AV.single, getFs, getF, setFs, setF, Heap.get, Heap.set, Heap.new, Heap.kill, killF, pushF, Heap.ready, refs, sliceParts, fillA, replL, add_one (show i ≤ 1000000000 by omega)]
          refine hB _ (i + 1) (by omega) ⟨by omega, by rw [he, hf, Bool.true_and]⟩ ⟨[], [], ⟨rfl, rfl, rfl, by simp [fitL, fitV, pureV, pureL, aAttrs], FitH.nothing⟩⟩
    · simp at h
      rw [List.drop_eq_nil_of_le h] at he
      repeat refine wps_seq ?_
      refine wps_exit ?_
      simp
      repeat refine wps_seq ?_
      refine wps_region callOK ?_
      simp [ofV, ofV1, mkC_P, writeVar, writeCells, readCells, allSingle, AV.single, getFs, getF, setFs, setF, Heap.get, Heap.set, Heap.new, Heap.kill, killF, pushF, Heap.ready, refs, sliceParts, fillA, replL]
      repeat refine wps_seq ?_
      refine wps_ret ?_
      simp [retVal, Try.f21, oneOr, thenQ, blockQ]
      exact ends_pure rfl (by simp only [fewAts, he]; simp; omega)
noncomputable def e21 : Entry Try.prog := mkE 21 [[2]] (fun x : List At1 => [aAttrs x]) (fun _ => True) (fun x => .bool (fewAts x)) fun x _ => c21 (T := []) x
theorem injAs (x y : List At1) (h : [aAttrs x] = [aAttrs y]) : x = y := by simp only [List.cons.injEq] at h; exact inj_aAttrs h.1
theorem k21 {T : List (Entry Try.prog)} (hT : findE 21 T = some e21.g) (L : List At1) (H : Heap) : callL (ctx T) (.fn 21) [aAttrs L] H = some (.bool (fewAts L), H) :=
  mkE_scalar hT injAs L trivial rfl (by simp [th_aAttrs])
theorem c7 {T : List (Entry Try.prog)} (hA : findE 21 T = some e21.g) (n : Nd) : CallAt (ctx T) 7 [aNode n] ⟨0, []⟩ (.bool (fewNd n)) ⟨0, []⟩ := by
  have hk := fun H => k21 hA n.attrs H
  obtain ⟨kind, space, name, attrs, data, up, kids⟩ := n
  simp only [aAttrs] at hk
  rcases Bool.eq_false_or_eq_true (decide ((name.length : Int) ≤ 40)) with b1 | b1 <;> rcases Bool.eq_false_or_eq_true (decide ((data.length : Int) ≤ 300)) with b2 | b2 <;> rcases Bool.eq_false_or_eq_true (decide ((kids.length : Int) ≤ 60)) with b3 | b3
  all_goals
    have c1 := b1
    have c2 := b2
    have c3 := b3
    simp only [decide_eq_true_eq, decide_eq_false_iff_not] at c1 c2 c3
    refine callAt_body (fn := Try.f7) (s0 := ⟨[0, 1, 2], [aNode ⟨kind, space, name, attrs, data, up, kids⟩, .undef, .undef], [], 24, ⟨0, [[]]⟩⟩) Try.func7 rfl rfl rfl ?_
    (repeat (first
      | (refine wps_seq ?_)
      | (refine wps_block ?_)
      | (refine wps_label ?_; simp only [thenQ, blockQ])
      | ((refine wps_region callOK ?_); simp [ofV, ofV1, mkC_P, writeVar, writeCells, readCells, allSingle, AV.single, getFs, getF, setFs, setF, Heap.get, Heap.set, Heap.new, Heap.kill, killF, pushF, Heap.ready, refs, sliceParts, fillA, replL, aNode, Nd.cs, aInt, aAttrs, aInts, lenA, c1, c2, c3, hk])
      | (refine wps_cond (t := true) rfl (fun _ => ?_) (fun h => by cases h))
      | (refine wps_cond (t := false) rfl (fun h => by cases h) (fun _ => ?_))
      | ((refine wps_skip ?_); simp only [thenQ, blockQ])
      | ((refine wps_exit ?_); simp [thenQ, blockQ])))
    have e1 : (name.length ≤ 40) ↔ ((name.length : Int) ≤ 40) := by omega
    have e2 : (data.length ≤ 300) ↔ ((data.length : Int) ≤ 300) := by omega
    have e3 : (kids.length ≤ 60) ↔ ((kids.length : Int) ≤ 60) := by omega
    repeat refine wps_seq ?_
    refine wps_ret ?_
    simp [retVal, Try.f7, oneOr, thenQ, blockQ]
    exact ends_pure rfl (by simp only [fewNd, e1, e2, e3, b1, b2, b3]; simp)
theorem injN1 (x y : Nd) (h : [aNode x] = [aNode y]) : x = y := by simp only [List.cons.injEq] at h; exact inj_aNode h.1
noncomputable def e7 : Entry Try.prog := mkE 7 [[]] (fun x : Nd => [aNode x]) (fun _ => True) (fun x => .bool (fewNd x)) fun x _ => c7 (T := [e21]) rfl x
theorem k7 {T : List (Entry Try.prog)} (hT : findE 7 T = some e7.g) (n : Nd) (H : Heap) : callL (ctx T) (.fn 7) [aNode n] H = some (.bool (fewNd n), H) :=
  mkE_scalar hT injN1 n trivial rfl (by simp [th_aNode])
@[simp] theorem len_cs (n : Nd) : n.cs.length = 7 := rfl
@[simp] theorem sng_cs (n : Nd) : allSingle n.cs = true := rfl
theorem refs_cs (n : Nd) : n.cs.flatMap (refs 6) = [] := rfl
@[simp] theorem lay_cs (n : Nd) (a b c d e f g : AV) : overL n.cs [a, b, c, d, e, f, g] = some n.cs := rfl
@[simp 5000] theorem ready_cs (H : Heap) (b : Nat) (n : Nd) : H.ready b n.cs = H := rfl
theorem c19 {T : List (Entry Try.prog)} (hN : findE 7 T = some e7.g) (t : Tr) (m : Int) (hl : m ≤ 1000000) : CallAt (ctx T) 19 [aTree t, .int .i64 m] ⟨0, []⟩ (.bool (fewTr t m)) ⟨0, []⟩ := by
  refine callAt_body (fn := Try.f19) (s0 := ⟨[0, 1, 2, 4, 6, 13, 14, 15], [aTree t, .int .i64 m, .undef, .undef, .undef, .undef, .undef, .undef], [], 23, ⟨0, [[]]⟩⟩) Try.func19 rfl rfl rfl ?_
  repeat refine wps_seq ?_
  refine wps_region callOK ?_
  simp [ofV, ofV1, mkC_P, writeVar, writeCells, readCells, allSingle, AV.single, getFs, getF, setFs, setF, Heap.get, Heap.set, Heap.new, Heap.kill, killF, pushF, Heap.ready, refs, sliceParts, fillA, replL, aTree]
  by_cases hm : m < (t.length : Int)
  · repeat refine wps_seq ?_
    refine wps_region callOK ?_
    simp [ofV, ofV1, mkC_P, writeVar, writeCells, readCells, allSingle, AV.single, getFs, getF, setFs, setF, Heap.get, Heap.set, Heap.new, Heap.kill, killF, pushF, Heap.ready, refs, sliceParts, fillA, replL, lenN, hm]
    repeat refine wps_seq ?_
    refine wps_cond (t := true) rfl (fun _ => ?_) fun h => by cases h
    repeat refine wps_seq ?_
    refine wps_region callOK ?_
    simp [ofV, ofV1, mkC_P, writeVar, writeCells, readCells, allSingle, AV.single, getFs, getF, setFs, setF, Heap.get, Heap.set, Heap.new, Heap.kill, killF, pushF, Heap.ready, refs, sliceParts, fillA, replL]
    repeat refine wps_seq ?_
    refine wps_ret ?_
    simp [retVal, Try.f19, oneOr, thenQ, blockQ]
    exact ends_pure rfl (by simp [fewTr]; omega)
  · repeat refine wps_seq ?_
    refine wps_region callOK ?_
    simp [ofV, ofV1, mkC_P, writeVar, writeCells, readCells, allSingle, AV.single, getFs, getF, setFs, setF, Heap.get, Heap.set, Heap.new, Heap.kill, killF, pushF, Heap.ready, refs, sliceParts, fillA, replL, lenN, hm]
    repeat refine wps_seq ?_
    refine wps_cond (t := false) rfl (fun h => by cases h) fun _ => ?_
    repeat refine wps_seq ?_
    refine wps_skip ?_
    simp
    repeat refine wps_seq ?_
    refine wps_region callOK ?_
    simp [ofV, ofV1, mkC_P, writeVar, writeCells, readCells, allSingle, AV.single, getFs, getF, setFs, setF, Heap.get, Heap.set, Heap.new, Heap.kill, killF, pushF, Heap.ready, refs, sliceParts, fillA, replL, lenN]
    repeat refine wps_seq ?_
    refine wps_block (wps_loop' (fun i : Nat => (⟨[0, 1, 2, 4, 6, 13, 14, 15], [.undef, .int .i64 m, .undef, .undef, .undef, aNodes t, .int .i64 (t.length : Nat), .int .i64 i], [], 23, ⟨0, [[]]⟩⟩ : St))
      (fun i => i ≤ t.length ∧ t.all fewNd = (t.drop i).all fewNd) (fun i => t.length - i) [] [] 0 ⟨Nat.zero_le _, by simp⟩ ⟨rfl, rfl, rfl, by simp [fitL, fitV, pureV, pureL, aNodes], FitH.nothing⟩ ?_)
    rintro i ⟨hi, he⟩ B hB
    repeat refine wps_seq ?_
    refine wps_region callOK ?_
    simp [ofV, ofV1, mkC_P, writeVar, writeCells, readCells, allSingle, AV.single, getFs, getF, setFs, setF, Heap.get, Heap.set, Heap.new, Heap.kill, killF, pushF, Heap.ready, refs, sliceParts, fillA, replL]
    repeat refine wps_seq ?_
    refine wps_cond rfl (fun h => ?_) fun h => ?_
    · simp at h
      rw [List.drop_eq_getElem_cons h, List.all_cons] at he
      repeat refine wps_seq ?_
      refine wps_skip ?_
      simp
      repeat refine wps_seq ?_
      refine wps_block ?_
      repeat refine wps_seq ?_
      refine wps_region callOK ?_
      simp [ofV, ofV1, mkC_P, writeVar, writeCells, readCells, allSingle, AV.single, getFs, getF, setFs, setF, Heap.get, Heap.set, Heap.new, Heap.kill, killF, pushF, sliceParts, fillA, replL, atN h]
      cases hf : fewNd t[i] with
      | false =>
        repeat refine wps_seq ?_
        refine wps_region callOK ?_
        simp [ofV, ofV1, mkC_P, writeVar, writeCells, readCells, allSingle, AV.single, getFs, getF, setFs, setF, Heap.get, Heap.set, Heap.new, Heap.kill, killF, pushF, Heap.ready, refs, sliceParts, fillA, replL, fold_node, k7 hN, hf]
        repeat refine wps_seq ?_
        refine wps_cond (t := true) rfl (fun _ => ?_) fun h => by cases h
        repeat refine wps_seq ?_
        refine wps_region callOK ?_
        simp [ofV, ofV1, mkC_P, writeVar, writeCells, readCells, allSingle, AV.single, getFs, getF, setFs, setF, Heap.get, Heap.set, Heap.new, Heap.kill, killF, pushF, Heap.ready, refs, sliceParts, fillA, replL]
        repeat refine wps_seq ?_
        refine wps_ret ?_
        simp [retVal, Try.f19, oneOr, thenQ, blockQ]
        exact ends_pure rfl (by simp only [fewTr, he, hf]; simp)
      | true =>
        repeat refine wps_seq ?_
        refine wps_region callOK ?_
        simp [ofV, ofV1, mkC_P, writeVar, writeCells, readCells, allSingle, AV.single, getFs, getF, setFs, setF, Heap.get, Heap.set, Heap.new, Heap.kill, killF, pushF, Heap.ready, refs, sliceParts, fillA, replL, fold_node, k7 hN, hf]
        repeat refine wps_seq ?_
        refine wps_cond (t := false) rfl (fun h => by cases h) fun _ => ?_
        repeat refine wps_seq ?_
        refine wps_skip ?_
        simp
        repeat refine wps_seq ?_
        refine wps_region callOK ?_
        simp [ofV, ofV1, mkC_P, writeVar, writeCells, readCells, allSingle, AV.single, getFs, getF, setFs, setF, Heap.get, Heap.set, Heap.new, Heap.kill, killF, pushF, Heap.ready, refs, sliceParts, fillA, replL, add_one (show i ≤ 1000000000 by omega)]
        refine hB _ (i + 1) (by omega) ⟨by omega, by rw [he, hf, Bool.true_and]⟩ ⟨[], [], ⟨rfl, rfl, rfl, by simp [fitL, fitV, pureV, pureL, aNodes], FitH.nothing⟩⟩
    · simp at h
      rw [List.drop_eq_nil_of_le h] at he
      repeat refine wps_seq ?_
      refine wps_exit ?_
      simp
      repeat refine wps_seq ?_
      refine wps_region callOK ?_
      simp [ofV, ofV1, mkC_P, writeVar, writeCells, readCells, allSingle, AV.single, getFs, getF, setFs, setF, Heap.get, Heap.set, Heap.new, Heap.kill, killF, pushF, Heap.ready, refs, sliceParts, fillA, replL]
      repeat refine wps_seq ?_
      refine wps_ret ?_
      simp [retVal, Try.f19, oneOr, thenQ, blockQ]
      exact ends_pure rfl (by simp only [fewTr, he]; simp; omega)
theorem injTI (x y : Tr × Int) (h : [aTree x.1, .int .i64 x.2] = [aTree y.1, .int .i64 y.2]) : x = y := by
  simp at h; exact Prod.ext (inj_aTree h.1) h.2
noncomputable def e19 : Entry Try.prog := mkE 19 [[], []] (fun x : Tr × Int => [aTree x.1, .int .i64 x.2]) (fun x => x.2 ≤ 1000000) (fun x => .bool (fewTr x.1 x.2)) fun x hx => c19 (T := [e7]) rfl x.1 x.2 hx
theorem k19 {T : List (Entry Try.prog)} (hT : findE 19 T = some e19.g) (t : Tr) {m : Int} (hm : m ≤ 1000000) (H : Heap) : callL (ctx T) (.fn 19) [aTree t, .int .i64 m] H = some (.bool (fewTr t m), H) :=
  mkE_scalar hT injTI (t, m) hm rfl (by simp [th_aTree])
theorem few_small {t : Tr} {m : Int} (hm : m ≤ 50) (h : fewTr t m = true) : smallTr t := by
  simp only [fewTr, Bool.and_eq_true, decide_eq_true_eq, List.all_eq_true] at h
  refine ⟨by omega, by omega, fun x hx => ?_⟩
  have := h.2 x hx
  simp only [fewNd, fewAts, Bool.and_eq_true, decide_eq_true_eq] at this
  omega
end Go.Proofs.Ytohkgmnoamfmgaa
namespace Go.Proofs.Ytohkgmnoamfmgaa
set_option linter.unusedSimpArgs false
set_option linter.unusedVariables false
open Go Go.RowKit Go.ChangeShapes Go.WideShapes Go.ChangeAt
set_option maxRecDepth 100000

theorem shape_slice {α : Type} {n : Nat} {t e : TypeId} {enc : α → AV} {ag : Bool} (hu : Try.prog.underlying t = some (.slice e)) (hag : aggT Try.prog e = some ag) (h : ∀ cs x, ShapeT Try.prog n e cs → wrapA ag cs = some x → ∃ a, x = enc a) {qs : List AV} (hs : ShapeT Try.prog (n + 1) t qs) :
    ∃ L : List α, qs = [.fslc (Try.prog.cellsOf e) (L.map enc)] := by
  unfold ShapeT at hs
  simp only [hu] at hs
  obtain ⟨es, rfl, _, hes⟩ := hs
  have key : ∀ l : List AV, (∀ x, x ∈ l → ∃ ag cs, aggT Try.prog e = some ag ∧ wrapA ag cs = some x ∧ ShapeT Try.prog n e cs) → ∃ L : List α, l = L.map enc := by
    intro l
    induction l with
    | nil => intro _; exact ⟨[], rfl⟩
    | cons x r ih =>
      intro hx
      obtain ⟨ag', cs, h1, h2, h3⟩ := hx x (by simp)
      rw [hag, Option.some.injEq] at h1
      subst h1
      obtain ⟨a, ha⟩ := h cs x h3 h2
      obtain ⟨L, hL⟩ := ih fun y hy => hx y (by simp [hy])
      exact ⟨a :: L, by rw [ha, hL]; rfl⟩
  obtain ⟨L, rfl⟩ := key es hes
  exact ⟨L, rfl⟩
theorem shape_str {n : Nat} {qs : List AV} (h : ShapeT Try.prog (n + 1) 9 qs) : ∃ s : Str, qs = [.str s] := by
  unfold ShapeT at h
  simp only [Try.underlying9] at h
  obtain ⟨s, rfl, _⟩ := h
  exact ⟨s, rfl⟩
theorem shape_int {n : Nat} {qs : List AV} (h : ShapeT Try.prog (n + 1) 3 qs) : ∃ i : Int, qs = [aInt i] := by
  unfold ShapeT at h
  simp only [Try.underlying3] at h
  obtain ⟨s, rfl, _⟩ := h
  exact ⟨s, rfl⟩
theorem cellsO_attr : Try.prog.cellsOf 39 = 2 := by kernel_rfl
theorem cellsO_int : Try.prog.cellsOf 3 = 1 := by kernel_rfl
theorem cellsO_node : Try.prog.cellsOf 28 = 7 := by kernel_rfl
theorem cells_str1 : Try.prog.cellsOf 9 = 1 := by kernel_rfl
theorem shape_attr {n : Nat} {qs : List AV} (h : ShapeT Try.prog (n + 2) 39 qs) : ∃ a : At1, AV.agg qs = aAttr a := by
  unfold ShapeT at h
  simp only [Try.underlying39] at h
  cases h with
  | cons f r x y h1 h2 =>
    cases h2 with
    | cons f2 r2 x2 y2 h3 h4 =>
      cases h4
      obtain ⟨s1, rfl⟩ := shape_str h1
      obtain ⟨s2, rfl⟩ := shape_str h3
      exact ⟨(s1, s2), rfl⟩
theorem shape_attrs {n : Nat} {qs : List AV} (h : ShapeT Try.prog (n + 3) 25 qs) : ∃ L : List At1, qs = [aAttrs L] := by
  obtain ⟨L, rfl⟩ := shape_slice (enc := aAttr) (ag := true) Try.underlying25 agT39 (fun cs x h hw => by
    simp only [wrapA, Option.some.injEq] at hw
    obtain ⟨a, ha⟩ := shape_attr h
    exact ⟨a, by rw [← hw, ha]⟩) h
  exact ⟨L, by rw [cellsO_attr]; rfl⟩
theorem shape_ints {n : Nat} {qs : List AV} (h : ShapeT Try.prog (n + 2) 26 qs) : ∃ L : List Int, qs = [aInts L] := by
  obtain ⟨L, rfl⟩ := shape_slice (enc := aInt) (ag := false) Try.underlying26 agT3 (fun cs x h hw => by
    obtain ⟨a, rfl⟩ := shape_int h
    simp only [wrapA, aInt, AV.single, Option.some.injEq] at hw
    exact ⟨a, hw.symm⟩) h
  exact ⟨L, by rw [cellsO_int]⟩
theorem shape_node {n : Nat} {qs : List AV} (h : ShapeT Try.prog (n + 4) 28 qs) : ∃ a : Nd, AV.agg qs = aNode a := by
  unfold ShapeT at h
  simp only [Try.underlying28] at h
  obtain _ | ⟨_, _, _, _, h1, h⟩ := h
  obtain _ | ⟨_, _, _, _, h2, h⟩ := h
  obtain _ | ⟨_, _, _, _, h3, h⟩ := h
  obtain _ | ⟨_, _, _, _, h4, h⟩ := h
  obtain _ | ⟨_, _, _, _, h5, h⟩ := h
  obtain _ | ⟨_, _, _, _, h6, h⟩ := h
  obtain _ | ⟨_, _, _, _, h7, h⟩ := h
  cases h
  obtain ⟨x1, rfl⟩ := shape_int h1
  obtain ⟨x2, rfl⟩ := shape_int h2
  obtain ⟨x3, rfl⟩ := shape_str h3
  obtain ⟨x4, rfl⟩ := shape_attrs (n := n) h4
  obtain ⟨x5, rfl⟩ := shape_str h5
  obtain ⟨x6, rfl⟩ := shape_int h6
  obtain ⟨x7, rfl⟩ := shape_ints (n := n + 1) h7
  exact ⟨⟨x1, x2, x3, x4, x5, x6, x7⟩, rfl⟩
theorem shape_tree {n : Nat} {qs : List AV} (h : ShapeT Try.prog (n + 6) 24 qs) : ∃ t : Tr, AV.agg qs = aTree t := by
  unfold ShapeT at h
  simp only [Try.underlying24] at h
  obtain _ | ⟨_, _, _, _, h1, h⟩ := h
  cases h
  obtain ⟨L, rfl⟩ := shape_slice (n := n + 4) (enc := aNode) (ag := true) Try.underlying22 agT28 (fun cs x h hw => by
    simp only [wrapA, Option.some.injEq] at hw
    obtain ⟨a, ha⟩ := shape_node h
    exact ⟨a, by rw [← hw, ha]⟩) h1
  exact ⟨L, by rw [cellsO_node]; rfl⟩
theorem okTree : okTy Try.prog 6 24 = true := by kernel_rfl
section
variable {H : Type} {enc : TypeId × Value → H} {W : World} {hg : GlobsIn W}
theorem argTree {b0 base : Nat} {sp : Nat → Bool} {held : Bool} {v : Value} {d : DataW H} {ps : List MemPlace} (ht : DataW.Trod enc Try.prog W base sp held 24 v d ps) (hv : Value.okWide Try.prog W .any b0 24 v) : ∃ t, VR (start W hg) (aTree t) v := by
  obtain ⟨qs, a, h1, h2, h3⟩ := arg_shape (hg := hg) okTree (ag := true) agT24 (fun h => by cases h) ht hv
  obtain ⟨x, hx⟩ := shape_tree (n := 0) h1
  have : a = aTree x := by
    simp only [wrapA, Option.some.injEq] at h2
    rw [← h2, hx]
  exact ⟨x, this ▸ h3⟩
theorem vr_str (s : ByteArray) : VR (start W hg) (.str s.data.toList) (.string s) := by
  have := VR.str (ρ := start W hg) s.data.toList
  rwa [Array.toArray_toList] at this
end
end Go.Proofs.Ytohkgmnoamfmgaa
namespace Go.Proofs.Ytohkgmnoamfmgaa
set_option linter.unusedSimpArgs false
set_option linter.unusedVariables false
open Go Go.RowKit
set_option maxRecDepth 100000

theorem FitH.id1 {m' : Nat} {H : Heap} {g : List (Nat × Blk)} (nd : (g.map (·.1)).Nodup) (lt : ∀ e, e ∈ g → e.1 < m') (src : ∀ e, e ∈ g → ∃ cs, H.get e.1 = some (.cells cs) ∧ e.2 = .cells cs ∧ pureL cs = true) : FitH 0 (g.map fun e => (e.1, e.1)) [] H ⟨m', [g]⟩ := by
  refine .rows (by simpa [Function.comp_def] using nd) (by simpa [Function.comp_def] using nd) (by simpa [Heap.ents] using nd) ?_ (by simp) (Nat.zero_le _) ?_
  · intro x hx
    obtain ⟨e, he, rfl⟩ := List.mem_map.1 hx
    exact lt e he
  · intro e he
    have he : e ∈ g := by simpa [Heap.ents] using he
    obtain ⟨cs, h1, h2, h3⟩ := src e he
    exact ⟨e.1, cs, List.mem_map.2 ⟨e, he, rfl⟩, h1, h2, h3⟩
section
variable (n : Nd)
@[simp] theorem gcs0 : getL n.cs 0 = some (.int .i64 n.kind) := rfl
@[simp] theorem gcs1 : getL n.cs 1 = some (.int .i64 n.space) := rfl
@[simp] theorem gcs2 : getL n.cs 2 = some (.str n.name) := rfl
@[simp] theorem gcs3 : getL n.cs 3 = some (aAttrs n.attrs) := rfl
@[simp] theorem gcs4 : getL n.cs 4 = some (.str n.data) := rfl
@[simp] theorem gcs5 : getL n.cs 5 = some (.int .i64 n.up) := rfl
@[simp] theorem gcs6 : getL n.cs 6 = some (aInts n.kids) := rfl
@[simp] theorem pure_cs : pureL n.cs = true := by simp [Nd.cs, pureL, aInt, pureV]
end
theorem atX' {L : List Int} {i : Nat} (h : i < L.length) : indexAddrA Try.prog 26 (aInts L) (.int .i64 (i : Int)) = some (.fptr [.int .i64 L[i]] 0) := atI h
def timesB (L : List Int) (n : Int) : Nat := L.countP fun x => decide (x = n)
theorem c34 {T : List (Entry Try.prog)} (L : List Int) (n : Int) (hl : L.length ≤ 1000000) : CallAt (ctx T) 34 [aInts L, .int .i64 n] ⟨0, []⟩ (.int .i64 (timesB L n : Nat)) ⟨0, []⟩ := by
  refine callAt_body (fn := Try.f34) (s0 := ⟨[0, 1, 4, 5, 6], [aInts L, .int .i64 n, .undef, .undef, .undef], [], 22, ⟨0, [[]]⟩⟩) Try.func34 rfl rfl rfl ?_
  repeat refine wps_seq ?_
  refine wps_region callOK ?_
  simp [ofV, ofV1, mkC_P, writeVar, writeCells, readCells, allSingle, AV.single, getFs, getF, setFs, setF, Heap.get, Heap.set, Heap.new, Heap.kill, killF, pushF, Heap.ready, refs, sliceParts, fillA, replL]
  repeat refine wps_seq ?_
  refine wps_region callOK ?_
  simp [ofV, ofV1, mkC_P, writeVar, writeCells, readCells, allSingle, AV.single, getFs, getF, setFs, setF, Heap.get, Heap.set, Heap.new, Heap.kill, killF, pushF, Heap.ready, refs, sliceParts, fillA, replL]
  repeat refine wps_seq ?_
  refine wps_region callOK ?_
  simp [ofV, ofV1, mkC_P, writeVar, writeCells, readCells, allSingle, AV.single, getFs, getF, setFs, setF, Heap.get, Heap.set, Heap.new, Heap.kill, killF, pushF, Heap.ready, refs, sliceParts, fillA, replL]
  repeat refine wps_seq ?_
  refine wps_block (wps_loop' (fun i : Nat => (⟨[0, 1, 4, 5, 6], [aInts L, .int .i64 n, .undef, .int .i64 (timesB (L.take i) n : Nat), .int .i64 i], [], 22, ⟨0, [[]]⟩⟩ : St))
    (fun i => i ≤ L.length) (fun i => L.length - i) [] [] 0 (Nat.zero_le _) ⟨rfl, rfl, rfl, by simp [fitL, fitV, pureV, pureL, aInts, timesB], FitH.nothing⟩ ?_)
  rintro i hi B hB
  have hc : timesB (L.take i) n ≤ i := Nat.le_trans List.countP_le_length (by simp; omega)
  repeat refine wps_seq ?_
  refine wps_region callOK ?_
  simp [ofV, ofV1, mkC_P, writeVar, writeCells, readCells, allSingle, AV.single, getFs, getF, setFs, setF, Heap.get, Heap.set, Heap.new, Heap.kill, killF, pushF, Heap.ready, refs, sliceParts, fillA, replL, lenI]
  repeat refine wps_seq ?_
  refine wps_cond rfl (fun h => ?_) fun h => ?_
  · simp at h
    repeat refine wps_seq ?_
    refine wps_skip ?_
    simp
    repeat refine wps_seq ?_
    refine wps_block ?_
    by_cases hv : L[i] = n
    · have hn : timesB (L.take (i + 1)) n = timesB (L.take i) n + 1 := by rw [List.take_succ_eq_append_getElem h]; simp [timesB, hv]
      repeat refine wps_seq ?_
      refine wps_region callOK ?_
      simp [ofV, ofV1, mkC_P, writeVar, writeCells, readCells, allSingle, AV.single, getFs, getF, setFs, setF, Heap.get, Heap.set, Heap.new, Heap.kill, killF, pushF, Heap.ready, refs, sliceParts, fillA, replL, atI h, hv]
      repeat refine wps_seq ?_
      refine wps_cond (t := true) rfl (fun _ => ?_) fun h => by cases h
      repeat refine wps_seq ?_
      refine wps_region callOK ?_
      simp [ofV, ofV1, mkC_P, writeVar, writeCells, readCells, allSingle, AV.single, getFs, getF, setFs, setF, Heap.get, Heap.set, Heap.new, Heap.kill, killF, pushF, Heap.ready, refs, sliceParts, fillA, replL, add_one (show timesB (L.take i) n ≤ 1000000000 by omega)]
      repeat refine wps_seq ?_
      refine wps_region callOK ?_
      simp [ofV, ofV1, mkC_P, writeVar, writeCells, readCells, allSingle, AV.single, getFs, getF, setFs, setF, Heap.get, Heap.set, Heap.new, Heap.kill, killF, pushF, Heap.ready, refs, sliceParts, fillA, replL, add_one (show i ≤ 1000000000 by omega)]
      exact hB _ (i + 1) (by omega) (by omega) ⟨[], [], ⟨rfl, rfl, rfl, by simp [fitL, fitV, pureV, pureL, aInts, hn], FitH.nothing⟩⟩
    · have hn : timesB (L.take (i + 1)) n = timesB (L.take i) n := by rw [List.take_succ_eq_append_getElem h]; simp only [timesB, List.countP_append, List.countP_cons, List.countP_nil]; simp [hv]
      repeat refine wps_seq ?_
      refine wps_region callOK ?_
      simp [ofV, ofV1, mkC_P, writeVar, writeCells, readCells, allSingle, AV.single, getFs, getF, setFs, setF, Heap.get, Heap.set, Heap.new, Heap.kill, killF, pushF, Heap.ready, refs, sliceParts, fillA, replL, atI h, hv]
      repeat refine wps_seq ?_
      refine wps_cond (t := false) rfl (fun h => by cases h) fun _ => ?_
      repeat refine wps_seq ?_
      refine wps_skip ?_
      simp
      repeat refine wps_seq ?_
      refine wps_region callOK ?_
      simp [ofV, ofV1, mkC_P, writeVar, writeCells, readCells, allSingle, AV.single, getFs, getF, setFs, setF, Heap.get, Heap.set, Heap.new, Heap.kill, killF, pushF, Heap.ready, refs, sliceParts, fillA, replL, add_one (show i ≤ 1000000000 by omega)]
      exact hB _ (i + 1) (by omega) (by omega) ⟨[], [], ⟨rfl, rfl, rfl, by simp [fitL, fitV, pureV, pureL, aInts, hn], FitH.nothing⟩⟩
  · simp at h
    repeat refine wps_seq ?_
    refine wps_exit ?_
    simp
    repeat refine wps_seq ?_
    refine wps_region callOK ?_
    simp [ofV, ofV1, mkC_P, writeVar, writeCells, readCells, allSingle, AV.single, getFs, getF, setFs, setF, Heap.get, Heap.set, Heap.new, Heap.kill, killF, pushF, Heap.ready, refs, sliceParts, fillA, replL]
    repeat refine wps_seq ?_
    refine wps_ret ?_
    simp [retVal, Try.f34, oneOr, thenQ, blockQ]
    exact ends_pure rfl (by rw [List.take_of_length_le h])
theorem injLI (x y : List Int × Int) (h : [aInts x.1, .int .i64 x.2] = [aInts y.1, .int .i64 y.2]) : x = y := by
  simp only [List.cons.injEq] at h
  obtain ⟨h1, h2, _⟩ := h
  simp at h2
  exact Prod.ext (inj_aInts h1) h2
noncomputable def e34 : Entry Try.prog := mkE 34 [[1], []] (fun x : List Int × Int => [aInts x.1, .int .i64 x.2]) (fun x => x.1.length ≤ 1000000) (fun x => .int .i64 (timesB x.1 x.2 : Nat)) fun x hx => c34 (T := []) x.1 x.2 hx
theorem k34 {T : List (Entry Try.prog)} (hT : findE 34 T = some e34.g) {L : List Int} (n : Int) (hl : L.length ≤ 1000000) (H : Heap) : callL (ctx T) (.fn 34) [aInts L, .int .i64 n] H = some (.int .i64 (timesB L n : Nat), H) :=
  mkE_scalar hT injLI (L, n) hl rfl (by simp [aInts])
/-- does it come up to a node without Up, in so many steps -/
def heldF (t : Tr) : Nat → Int → Bool
  | 0, _ => false
  | f + 1, i => if (nodeAt t i).up = -1 then true else heldF t f (nodeAt t i).up
def upsOK (t : Tr) : Prop := ∀ x, x ∈ t → x.up = -1 ∨ (0 ≤ x.up ∧ x.up < (t.length : Int))
theorem c35 {T : List (Entry Try.prog)} (t : Tr) (hl : t.length ≤ 1000000) (hu : upsOK t) (i0 : Int) (h0 : 0 ≤ i0) (h1 : i0 < (t.length : Int)) : CallAt (ctx T) 35 [aTree t, .int .i64 i0] ⟨0, []⟩ (.bool (heldF t (t.length + 1) i0)) ⟨0, []⟩ := by
  refine callAt_body (fn := Try.f35) (s0 := ⟨[0, 1, 2, 4, 5], [aTree t, .int .i64 i0, .undef, .undef, .undef], [], 26, ⟨0, [[]]⟩⟩) Try.func35 rfl rfl rfl ?_
  repeat refine wps_seq ?_
  refine wps_region callOK ?_
  simp [ofV, ofV1, mkC_P, writeVar, writeCells, readCells, allSingle, AV.single, getFs, getF, setFs, setF, Heap.get, Heap.set, Heap.new, Heap.kill, killF, pushF, Heap.ready, refs, sliceParts, fillA, replL, aTree]
  repeat refine wps_seq ?_
  refine wps_region callOK ?_
  simp [ofV, ofV1, mkC_P, writeVar, writeCells, readCells, allSingle, AV.single, getFs, getF, setFs, setF, Heap.get, Heap.set, Heap.new, Heap.kill, killF, pushF, Heap.ready, refs, sliceParts, fillA, replL]
  repeat refine wps_seq ?_
  refine wps_block (wps_loop' (fun x : Nat × Int => (⟨[0, 1, 2, 4, 5], [.undef, .int .i64 x.2, .ptr 0 0, .undef, .int .i64 x.1], [], 26, ⟨1, [[(0, .cells [aNodes t])]]⟩⟩ : St))
    (fun x => x.1 ≤ t.length + 1 ∧ 0 ≤ x.2 ∧ x.2 < (t.length : Int) ∧ heldF t (t.length + 1) i0 = heldF t (t.length + 1 - x.1) x.2) (fun x => t.length + 1 - x.1) [(0, 0)] [] (0, i0) ⟨Nat.zero_le _, h0, h1, rfl⟩
    ⟨rfl, rfl, rfl, by simp [fitL, fitV, lookN, pureV], .id1 (g := [(0, .cells [aNodes t])]) (by simp) (by simp) (by simp [Heap.get, getFs, getF, pureL])⟩ ?_)
  rintro ⟨k, i⟩ ⟨hk, j0, j1, he⟩ B hB
  simp only at hk j0 j1 he
  repeat refine wps_seq ?_
  refine wps_region callOK ?_
  simp [ofV, ofV1, mkC_P, writeVar, writeCells, readCells, allSingle, AV.single, getFs, getF, setFs, setF, Heap.get, Heap.set, Heap.new, Heap.kill, killF, pushF, Heap.ready, refs, sliceParts, fillA, replL, lenN]
  repeat refine wps_seq ?_
  refine wps_cond rfl (fun h => ?_) fun h => ?_
  · simp at h
    repeat refine wps_seq ?_
    refine wps_skip ?_
    simp
    repeat refine wps_seq ?_
    refine wps_block ?_
    rw [show t.length + 1 - k = (t.length - k) + 1 by omega, show heldF t (t.length - k + 1) i = if (nodeAt t i).up = -1 then true else heldF t (t.length - k) (nodeAt t i).up from rfl] at he
    by_cases hv : (nodeAt t i).up = -1
    · rw [if_pos hv] at he
      repeat refine wps_seq ?_
      refine wps_region callOK ?_
      simp [ofV, ofV1, mkC_P, writeVar, writeCells, readCells, allSingle, AV.single, getFs, getF, setFs, setF, Heap.get, Heap.set, Heap.new, Heap.kill, killF, pushF, Heap.ready, refs, sliceParts, fillA, replL, atX j0 j1, hv]
      repeat refine wps_seq ?_
      refine wps_cond (t := true) rfl (fun _ => ?_) fun h => by cases h
      repeat refine wps_seq ?_
      refine wps_region callOK ?_
      simp [ofV, ofV1, mkC_P, writeVar, writeCells, readCells, allSingle, AV.single, getFs, getF, setFs, setF, Heap.get, Heap.set, Heap.new, Heap.kill, killF, pushF, Heap.ready, refs, sliceParts, fillA, replL]
      repeat refine wps_seq ?_
      refine wps_ret ?_
      simp [retVal, Try.f35, oneOr, thenQ, blockQ]
      exact ends_pure rfl (by rw [he])
    · rw [if_neg hv] at he
      repeat refine wps_seq ?_
      refine wps_region callOK ?_
      simp [ofV, ofV1, mkC_P, writeVar, writeCells, readCells, allSingle, AV.single, getFs, getF, setFs, setF, Heap.get, Heap.set, Heap.new, Heap.kill, killF, pushF, Heap.ready, refs, sliceParts, fillA, replL, atX j0 j1, hv]
      repeat refine wps_seq ?_
      refine wps_cond (t := false) rfl (fun h => by cases h) fun _ => ?_
      repeat refine wps_seq ?_
      refine wps_skip ?_
      simp
      repeat refine wps_seq ?_
      refine wps_region callOK ?_
      simp [ofV, ofV1, mkC_P, writeVar, writeCells, readCells, allSingle, AV.single, getFs, getF, setFs, setF, Heap.get, Heap.set, Heap.new, Heap.kill, killF, pushF, Heap.ready, refs, sliceParts, fillA, replL, atX j0 j1]
      repeat refine wps_seq ?_
      refine wps_region callOK ?_
      simp [ofV, ofV1, mkC_P, writeVar, writeCells, readCells, allSingle, AV.single, getFs, getF, setFs, setF, Heap.get, Heap.set, Heap.new, Heap.kill, killF, pushF, Heap.ready, refs, sliceParts, fillA, replL, add_one (show k ≤ 1000000000 by omega)]
      have hup := (hu _ (nodeAt_mem j0 j1)).resolve_left hv
      exact hB _ (k + 1, (nodeAt t i).up) (by simp; omega) ⟨by simp; omega, hup.1, hup.2, by simp only; rw [he]; congr 1; omega⟩ ⟨[(0, 0)], [], rfl, rfl, rfl, by simp [fitL, fitV, lookN, pureV], .id1 (g := [(0, .cells [aNodes t])]) (by simp) (by simp) (by simp [Heap.get, getFs, getF, pureL])⟩
  · simp at h
    repeat refine wps_seq ?_
    refine wps_exit ?_
    simp
    repeat refine wps_seq ?_
    refine wps_region callOK ?_
    simp [ofV, ofV1, mkC_P, writeVar, writeCells, readCells, allSingle, AV.single, getFs, getF, setFs, setF, Heap.get, Heap.set, Heap.new, Heap.kill, killF, pushF, Heap.ready, refs, sliceParts, fillA, replL]
    repeat refine wps_seq ?_
    refine wps_ret ?_
    simp [retVal, Try.f35, oneOr, thenQ, blockQ]
    exact ends_pure rfl (by rw [he, show t.length + 1 - k = 0 by omega]; rfl)
noncomputable def e35 : Entry Try.prog := mkE 35 [[], []] (fun x : Tr × Int => [aTree x.1, .int .i64 x.2]) (fun x => x.1.length ≤ 1000000 ∧ upsOK x.1 ∧ 0 ≤ x.2 ∧ x.2 < (x.1.length : Int)) (fun x => .bool (heldF x.1 (x.1.length + 1) x.2)) fun x hx => c35 (T := []) x.1 hx.1 hx.2.1 x.2 hx.2.2.1 hx.2.2.2
theorem k35 {T : List (Entry Try.prog)} (hT : findE 35 T = some e35.g) {t : Tr} (hl : t.length ≤ 1000000) (hu : upsOK t) {i : Int} (h0 : 0 ≤ i) (h1 : i < (t.length : Int)) (H : Heap) : callL (ctx T) (.fn 35) [aTree t, .int .i64 i] H = some (.bool (heldF t (t.length + 1) i), H) :=
  mkE_scalar hT injTI (t, i) ⟨hl, hu, h0, h1⟩ rfl (by simp [th_aTree])
/-- a statement that ends in one state but for its passing slots: the rest is shown once -/
theorem wps_join {C : Ctx} {n : Nat} {r : Option Nat} {c d : Code} {s : St} {Q : Out → St → Prop} (φ : Prop) (s0 : St) (h1 : φ → WpSr C n r d s0 Q) (h2 : (∀ s', φ → s'.wT = s0 → WpSr C n r d s' Q) → WpSr C n r c s (thenQ (fun s => WpSr C n r d s Q) Q)) : WpSr C n r (.seq c d) s Q :=
  wps_seq (h2 fun s' hφ e b a w hb ha K hK => h1 hφ b a w hb (by have := ha.fresh; rw [← e]; exact this) K hK)
end Go.Proofs.Ytohkgmnoamfmgaa
namespace Go.Proofs.Ytohkgmnoamfmgaa
set_option linter.unusedSimpArgs false
set_option linter.unusedVariables false
open Go Go.RowKit
set_option maxRecDepth 100000

def badA (t : Tr) (i : Nat) : Bool := decide (0 < i) && (decide ((nodeAt t i).kind < 1) || (decide (4 < (nodeAt t i).kind) || (decide ((nodeAt t i).up < -1) || decide ((t.length : Int) ≤ (nodeAt t i).up))))
def badB (t : Tr) (i : Nat) : Bool := decide (0 ≤ (nodeAt t i).up) && (decide (1 < (nodeAt t (nodeAt t i).up).kind) || decide ((timesB (nodeAt t (nodeAt t i).up).kids i : Int) ≠ 1))
def badC (t : Tr) (i : Nat) (k : Int) : Bool := decide (k < 0) || (decide ((t.length : Int) ≤ k) || decide ((nodeAt t k).up ≠ (i : Int)))
def okNd (t : Tr) (i : Nat) : Bool := !badA t i && (!badB t i && !(nodeAt t i).kids.any (badC t i))
def rightB (t : Tr) : Bool := decide (t ≠ []) && (decide ((nodeAt t 0).kind = 0) && (decide ((nodeAt t 0).up = -1) && ((List.range t.length).all (okNd t) && (List.range t.length).all fun i => heldF t (t.length + 1) (i : Int))))
theorem rightB_no {t : Tr} {i : Nat} (h : i < t.length) (hb : okNd t i = false) : rightB t = false := by
  have : (List.range t.length).all (okNd t) = false := List.all_eq_false.2 ⟨i, by simpa using h, by simp [hb]⟩
  simp [rightB, this]
theorem rightB_not {t : Tr} {i : Nat} (h : i < t.length) (hb : heldF t (t.length + 1) (i : Int) = false) : rightB t = false := by
  have : ((List.range t.length).all fun i => heldF t (t.length + 1) (i : Int)) = false := List.all_eq_false.2 ⟨i, by simpa using h, by simp [hb]⟩
  simp [rightB, this]
theorem rightB_yes {t : Tr} (h : t ≠ []) (h0 : (nodeAt t 0).kind = 0) (h1 : (nodeAt t 0).up = -1) (h2 : ∀ j, j < t.length → okNd t j = true) (h3 : ∀ j, j < t.length → heldF t (t.length + 1) (j : Int) = true) : rightB t = true := by
  have e1 : (List.range t.length).all (okNd t) = true := List.all_eq_true.2 fun j hj => h2 j (by simpa using hj)
  have e2 : ((List.range t.length).all fun i => heldF t (t.length + 1) (i : Int)) = true := List.all_eq_true.2 fun j hj => h3 j (by simpa using hj)
  simp [rightB, h, h0, h1, e1, e2]
theorem ups_of {t : Tr} (h1 : (nodeAt t 0).up = -1) (h2 : ∀ j, j < t.length → okNd t j = true) : upsOK t := by
  intro x hx
  obtain ⟨j, hj, rfl⟩ := List.getElem_of_mem hx
  have := h2 j hj
  rw [← nodeAt_get hj]
  by_cases hz : j = 0
  · subst hz
    exact .inl h1
  · simp only [okNd, badA, Bool.and_eq_true, Bool.not_eq_true', Bool.and_eq_false_iff, Bool.or_eq_false_iff, decide_eq_false_iff_not] at this
    rcases this.1 with h | h
    · omega
    · omega
theorem c20 {T : List (Entry Try.prog)} (hT : findE 34 T = some e34.g) (hH : findE 35 T = some e35.g) (t : Tr) (ht : okTr t) :
    CallAt (ctx T) 20 [aTree t] ⟨0, []⟩ (.bool (rightB t)) ⟨0, []⟩ := by
  have htl := ht.1
  have g0 : ∀ (m : Nat), FitH 0 [(0, 0)] [] ⟨m, [[(0, .cells [aNodes t])]]⟩ ⟨1, [[(0, .cells [aNodes t])]]⟩ := fun m => .id1 (g := [(0, .cells [aNodes t])]) (by simp) (by simp) (by simp [Heap.get, getFs, getF, pureL])
  refine callAt_body (fn := Try.f20) (s0 := ⟨[0, 1, 2, 3, 4, 5, 6], [aTree t, .undef, .undef, .undef, .undef, .undef, .undef], [], 138, ⟨0, [[]]⟩⟩) Try.func20 rfl rfl rfl ?_
  repeat refine wps_seq ?_
  refine wps_region callOK ?_
  simp [ofV, ofV1, mkC_P, writeVar, writeCells, readCells, allSingle, AV.single, getFs, getF, setFs, setF, Heap.get, Heap.set, Heap.new, Heap.kill, killF, pushF, Heap.ready, refs, sliceParts, fillA, replL, aTree]
  by_cases z0 : t = []
  · repeat refine wps_seq ?_
    refine wps_region callOK ?_
    simp [ofV, ofV1, mkC_P, writeVar, writeCells, readCells, allSingle, AV.single, getFs, getF, setFs, setF, Heap.get, Heap.set, Heap.new, Heap.kill, killF, pushF, Heap.ready, refs, sliceParts, fillA, replL, lenN, z0]
    repeat refine wps_seq ?_
    refine wps_cond (t := true) rfl (fun _ => ?_) fun h => by cases h
    repeat refine wps_seq ?_
    refine wps_region callOK ?_
    simp [ofV, ofV1, mkC_P, writeVar, writeCells, readCells, allSingle, AV.single, getFs, getF, setFs, setF, Heap.get, Heap.set, Heap.new, Heap.kill, killF, pushF, Heap.ready, refs, sliceParts, fillA, replL]
    repeat refine wps_seq ?_
    refine wps_ret ?_
    simp [retVal, Try.f20, oneOr, thenQ, blockQ]
    exact ends_pure rfl (by simp [rightB, z0])
  have zl : 0 < t.length := List.length_pos_iff.2 z0
  have a0 := atX (t := t) (i := 0) (by omega) (by omega)
  by_cases z1 : (nodeAt t 0).kind = 0
  case neg =>
    repeat refine wps_seq ?_
    refine wps_region callOK ?_
    simp [ofV, ofV1, mkC_P, writeVar, writeCells, readCells, allSingle, AV.single, getFs, getF, setFs, setF, Heap.get, Heap.set, Heap.new, Heap.kill, killF, pushF, Heap.ready, refs, sliceParts, fillA, replL, lenN, z0, a0, z1]
    repeat refine wps_seq ?_
    refine wps_cond (t := true) rfl (fun _ => ?_) fun h => by cases h
    repeat refine wps_seq ?_
    refine wps_region callOK ?_
    simp [ofV, ofV1, mkC_P, writeVar, writeCells, readCells, allSingle, AV.single, getFs, getF, setFs, setF, Heap.get, Heap.set, Heap.new, Heap.kill, killF, pushF, Heap.ready, refs, sliceParts, fillA, replL]
    repeat refine wps_seq ?_
    refine wps_ret ?_
    simp [retVal, Try.f20, oneOr, thenQ, blockQ]
    exact ends_pure rfl (by simp [rightB, z1])
  by_cases z2 : (nodeAt t 0).up = -1
  case neg =>
    repeat refine wps_seq ?_
    refine wps_region callOK ?_
    simp [ofV, ofV1, mkC_P, writeVar, writeCells, readCells, allSingle, AV.single, getFs, getF, setFs, setF, Heap.get, Heap.set, Heap.new, Heap.kill, killF, pushF, Heap.ready, refs, sliceParts, fillA, replL, lenN, z0, a0, z1, z2]
    repeat refine wps_seq ?_
    refine wps_cond (t := true) rfl (fun _ => ?_) fun h => by cases h
    repeat refine wps_seq ?_
    refine wps_region callOK ?_
    simp [ofV, ofV1, mkC_P, writeVar, writeCells, readCells, allSingle, AV.single, getFs, getF, setFs, setF, Heap.get, Heap.set, Heap.new, Heap.kill, killF, pushF, Heap.ready, refs, sliceParts, fillA, replL]
    repeat refine wps_seq ?_
    refine wps_ret ?_
    simp [retVal, Try.f20, oneOr, thenQ, blockQ]
    exact ends_pure rfl (by simp [rightB, z2])
  repeat refine wps_seq ?_
  refine wps_region callOK ?_
  simp [ofV, ofV1, mkC_P, writeVar, writeCells, readCells, allSingle, AV.single, getFs, getF, setFs, setF, Heap.get, Heap.set, Heap.new, Heap.kill, killF, pushF, Heap.ready, refs, sliceParts, fillA, replL, lenN, z0, a0, z1, z2]
  repeat refine wps_seq ?_
  refine wps_cond (t := false) rfl (fun h => by cases h) fun _ => ?_
  repeat refine wps_seq ?_
  refine wps_skip ?_
  simp
  repeat refine wps_seq ?_
  refine wps_region callOK ?_
  simp [ofV, ofV1, mkC_P, writeVar, writeCells, readCells, allSingle, AV.single, getFs, getF, setFs, setF, Heap.get, Heap.set, Heap.new, Heap.kill, killF, pushF, Heap.ready, refs, sliceParts, fillA, replL]
  repeat refine wps_seq ?_
  refine wps_block (wps_loop' (fun i : Nat => (⟨[0, 1, 2, 3, 4, 5, 6], [.undef, .ptr 0 0, .undef, .int .i64 i, .undef, .undef, .undef], [], 138, ⟨1, [[(0, .cells [aNodes t])]]⟩⟩ : St))
    (fun i => i ≤ t.length ∧ ∀ j, j < i → okNd t j = true) (fun i => t.length - i) [(0, 0)] [] 0 ⟨Nat.zero_le _, fun j hj => absurd hj (Nat.not_lt_zero j)⟩ ⟨rfl, rfl, rfl, by simp [fitL, fitV, lookN, pureV], g0 1⟩ ?_)
  rintro i ⟨hi, hall⟩ B hB
  repeat refine wps_seq ?_
  refine wps_region callOK ?_
  simp [ofV, ofV1, mkC_P, writeVar, writeCells, readCells, allSingle, AV.single, getFs, getF, setFs, setF, Heap.get, Heap.set, Heap.new, Heap.kill, killF, pushF, Heap.ready, refs, sliceParts, fillA, replL, lenN]
  repeat refine wps_seq ?_
  refine wps_cond rfl (fun h => ?_) fun h => ?_
  · simp at h
    repeat refine wps_seq ?_
    refine wps_skip ?_
    simp
    repeat refine wps_seq ?_
    refine wps_block ?_
    refine wps_seq ?_
    have hkd := (ht.2 _ (nodeAt_mem (t := t) (i := (i : Int)) (by omega) (by omega))).1
    obtain ⟨n, hn⟩ : ∃ n, n = nodeAt t i := ⟨_, rfl⟩
    repeat refine wps_seq ?_
    refine wps_region callOK ?_
    simp [ofV, ofV1, mkC_P, writeVar, writeCells, readCells, allSingle, AV.single, getFs, getF, setFs, setF, Heap.get, Heap.set, Heap.new, Heap.kill, killF, pushF, sliceParts, fillA, replL, atX (t := t) (i := (i : Int)) (by omega) (by omega)]
    rw [← hn] at hkd ⊢
    refine wps_join (badA t i = false) ((⟨[0, 1, 2, 3, 4, 5, 6], [.undef, .ptr 0 0, .undef, .int .i64 i, .ptr 1 0, .undef, .undef], [], 138, ⟨2, [[(1, .cells n.cs), (0, .cells [aNodes t])]]⟩⟩ : St)) (fun hbA => ?_) fun hj => ?_
    rotate_left
    · by_cases c0 : 0 < i
      · by_cases c1 : n.kind < 1
        · repeat refine wps_seq ?_
          refine wps_region callOK ?_
          simp [ofV, ofV1, mkC_P, writeVar, writeCells, readCells, allSingle, AV.single, getFs, getF, setFs, setF, Heap.get, Heap.set, Heap.new, Heap.kill, killF, pushF, Heap.ready, refs, sliceParts, fillA, replL, lenN, c0, c1]
          repeat refine wps_seq ?_
          refine wps_cond (t := true) rfl (fun _ => ?_) fun h => by cases h
          repeat refine wps_seq ?_
          refine wps_region callOK ?_
          simp [ofV, ofV1, mkC_P, writeVar, writeCells, readCells, allSingle, AV.single, getFs, getF, setFs, setF, Heap.get, Heap.set, Heap.new, Heap.kill, killF, pushF, Heap.ready, refs, sliceParts, fillA, replL]
          repeat refine wps_seq ?_
          refine wps_ret ?_
          simp [retVal, Try.f20, oneOr, thenQ, blockQ]
          exact ends_pure rfl (by rw [rightB_no h (by simp [okNd, badA, c0, ← hn, c1])])
        · by_cases c2 : 4 < n.kind
          · repeat refine wps_seq ?_
            refine wps_region callOK ?_
            simp [ofV, ofV1, mkC_P, writeVar, writeCells, readCells, allSingle, AV.single, getFs, getF, setFs, setF, Heap.get, Heap.set, Heap.new, Heap.kill, killF, pushF, Heap.ready, refs, sliceParts, fillA, replL, lenN, c0, c1, c2]
            repeat refine wps_seq ?_
            refine wps_cond (t := true) rfl (fun _ => ?_) fun h => by cases h
            repeat refine wps_seq ?_
            refine wps_region callOK ?_
            simp [ofV, ofV1, mkC_P, writeVar, writeCells, readCells, allSingle, AV.single, getFs, getF, setFs, setF, Heap.get, Heap.set, Heap.new, Heap.kill, killF, pushF, Heap.ready, refs, sliceParts, fillA, replL]
            repeat refine wps_seq ?_
            refine wps_ret ?_
            simp [retVal, Try.f20, oneOr, thenQ, blockQ]
            exact ends_pure rfl (by rw [rightB_no h (by simp [okNd, badA, c0, ← hn, c1, c2])])
          · by_cases c3 : n.up < -1
            · repeat refine wps_seq ?_
              refine wps_region callOK ?_
              simp [ofV, ofV1, mkC_P, writeVar, writeCells, readCells, allSingle, AV.single, getFs, getF, setFs, setF, Heap.get, Heap.set, Heap.new, Heap.kill, killF, pushF, Heap.ready, refs, sliceParts, fillA, replL, lenN, c0, c1, c2, c3]
              repeat refine wps_seq ?_
              refine wps_cond (t := true) rfl (fun _ => ?_) fun h => by cases h
              repeat refine wps_seq ?_
              refine wps_region callOK ?_
              simp [ofV, ofV1, mkC_P, writeVar, writeCells, readCells, allSingle, AV.single, getFs, getF, setFs, setF, Heap.get, Heap.set, Heap.new, Heap.kill, killF, pushF, Heap.ready, refs, sliceParts, fillA, replL]
              repeat refine wps_seq ?_
              refine wps_ret ?_
              simp [retVal, Try.f20, oneOr, thenQ, blockQ]
              exact ends_pure rfl (by rw [rightB_no h (by simp [okNd, badA, c0, ← hn, c1, c2, c3])])
            · by_cases c4 : (t.length : Int) ≤ n.up
              · repeat refine wps_seq ?_
                refine wps_region callOK ?_
                simp [ofV, ofV1, mkC_P, writeVar, writeCells, readCells, allSingle, AV.single, getFs, getF, setFs, setF, Heap.get, Heap.set, Heap.new, Heap.kill, killF, pushF, Heap.ready, refs, sliceParts, fillA, replL, lenN, c0, c1, c2, c3, c4]
                repeat refine wps_seq ?_
                refine wps_cond (t := true) rfl (fun _ => ?_) fun h => by cases h
                repeat refine wps_seq ?_
                refine wps_region callOK ?_
                simp [ofV, ofV1, mkC_P, writeVar, writeCells, readCells, allSingle, AV.single, getFs, getF, setFs, setF, Heap.get, Heap.set, Heap.new, Heap.kill, killF, pushF, Heap.ready, refs, sliceParts, fillA, replL]
                repeat refine wps_seq ?_
                refine wps_ret ?_
                simp [retVal, Try.f20, oneOr, thenQ, blockQ]
                exact ends_pure rfl (by rw [rightB_no h (by simp [okNd, badA, c0, ← hn, c1, c2, c3, c4])])
              · repeat refine wps_seq ?_
                refine wps_region callOK ?_
                simp [ofV, ofV1, mkC_P, writeVar, writeCells, readCells, allSingle, AV.single, getFs, getF, setFs, setF, Heap.get, Heap.set, Heap.new, Heap.kill, killF, pushF, Heap.ready, refs, sliceParts, fillA, replL, lenN, c0, c1, c2, c3, c4]
                repeat refine wps_seq ?_
                refine wps_cond (t := false) rfl (fun h => by cases h) fun _ => ?_
                repeat refine wps_seq ?_
                refine wps_skip ?_
                simp
                exact hj _ (by simp [badA, ← hn, c1, c2, c3, c4]) rfl
      · repeat refine wps_seq ?_
        refine wps_region callOK ?_
        simp [ofV, ofV1, mkC_P, writeVar, writeCells, readCells, allSingle, AV.single, getFs, getF, setFs, setF, Heap.get, Heap.set, Heap.new, Heap.kill, killF, pushF, Heap.ready, refs, sliceParts, fillA, replL, lenN, c0]
        repeat refine wps_seq ?_
        refine wps_cond (t := false) rfl (fun h => by cases h) fun _ => ?_
        repeat refine wps_seq ?_
        refine wps_skip ?_
        simp
        exact hj _ (by simp [badA, c0]) rfl
    have hup : n.up < (t.length : Int) := by
      by_cases hz : i = 0
      · subst hz; rw [hn]; simp only [Int.natCast_zero, z2]; omega
      · simp only [badA, ← hn, Bool.and_eq_false_iff, Bool.or_eq_false_iff, decide_eq_false_iff_not] at hbA
        omega
    refine wps_join (badB t i = false) ((⟨[0, 1, 2, 3, 4, 5, 6], [.undef, .ptr 0 0, .undef, .int .i64 i, .ptr 1 0, .undef, .undef], [], 138, ⟨2, [[(1, .cells n.cs), (0, .cells [aNodes t])]]⟩⟩ : St)) (fun hbB => ?_) fun hj => ?_
    rotate_left
    · by_cases c5 : 0 ≤ n.up
      · have hkt := k34 hT (L := (nodeAt t n.up).kids) (i : Int) (by have := (ht.2 _ (nodeAt_mem c5 hup)).1; omega)
        generalize hv : timesB (nodeAt t n.up).kids (i : Int) = v at hkt
        by_cases c6 : 1 < (nodeAt t n.up).kind
        · repeat refine wps_seq ?_
          refine wps_region callOK ?_
          simp [ofV, ofV1, mkC_P, writeVar, writeCells, readCells, allSingle, AV.single, getFs, getF, setFs, setF, Heap.get, Heap.set, Heap.new, Heap.kill, killF, pushF, Heap.ready, refs, sliceParts, fillA, replL, c5, atX c5 hup, hkt, c6]
          repeat refine wps_seq ?_
          refine wps_cond (t := true) rfl (fun _ => ?_) fun h => by cases h
          repeat refine wps_seq ?_
          refine wps_region callOK ?_
          simp [ofV, ofV1, mkC_P, writeVar, writeCells, readCells, allSingle, AV.single, getFs, getF, setFs, setF, Heap.get, Heap.set, Heap.new, Heap.kill, killF, pushF, Heap.ready, refs, sliceParts, fillA, replL]
          repeat refine wps_seq ?_
          refine wps_ret ?_
          simp [retVal, Try.f20, oneOr, thenQ, blockQ]
          exact ends_pure rfl (by rw [rightB_no h (by simp [okNd, badB, ← hn, hv, c5, c6]; try (intro _ ; omega))])
        · by_cases c7 : ¬ (v : Int) = 1
          · repeat refine wps_seq ?_
            refine wps_region callOK ?_
            simp [ofV, ofV1, mkC_P, writeVar, writeCells, readCells, allSingle, AV.single, getFs, getF, setFs, setF, Heap.get, Heap.set, Heap.new, Heap.kill, killF, pushF, Heap.ready, refs, sliceParts, fillA, replL, c5, atX c5 hup, hkt, c6, c7]
            repeat refine wps_seq ?_
            refine wps_cond (t := true) rfl (fun _ => ?_) fun h => by cases h
            repeat refine wps_seq ?_
            refine wps_region callOK ?_
            simp [ofV, ofV1, mkC_P, writeVar, writeCells, readCells, allSingle, AV.single, getFs, getF, setFs, setF, Heap.get, Heap.set, Heap.new, Heap.kill, killF, pushF, Heap.ready, refs, sliceParts, fillA, replL]
            repeat refine wps_seq ?_
            refine wps_ret ?_
            simp [retVal, Try.f20, oneOr, thenQ, blockQ]
            exact ends_pure rfl (by rw [rightB_no h (by simp [okNd, badB, ← hn, hv, c5, c6, c7]; try (intro _ ; omega))])
          · have c7 := Decidable.not_not.1 c7
            repeat refine wps_seq ?_
            refine wps_region callOK ?_
            simp [ofV, ofV1, mkC_P, writeVar, writeCells, readCells, allSingle, AV.single, getFs, getF, setFs, setF, Heap.get, Heap.set, Heap.new, Heap.kill, killF, pushF, Heap.ready, refs, sliceParts, fillA, replL, c5, atX c5 hup, hkt, c6, c7]
            repeat refine wps_seq ?_
            refine wps_cond (t := false) rfl (fun h => by cases h) fun _ => ?_
            repeat refine wps_seq ?_
            refine wps_skip ?_
            simp
            exact hj _ (by simp [badB, ← hn, hv, c6, c7]; try omega) rfl
      · repeat refine wps_seq ?_
        refine wps_region callOK ?_
        simp [ofV, ofV1, mkC_P, writeVar, writeCells, readCells, allSingle, AV.single, getFs, getF, setFs, setF, Heap.get, Heap.set, Heap.new, Heap.kill, killF, pushF, Heap.ready, refs, sliceParts, fillA, replL, c5]
        repeat refine wps_seq ?_
        refine wps_cond (t := false) rfl (fun h => by cases h) fun _ => ?_
        repeat refine wps_seq ?_
        refine wps_skip ?_
        simp
        exact hj _ (by simp [badB, ← hn, c5]) rfl
    repeat refine wps_seq ?_
    refine wps_region callOK ?_
    simp [ofV, ofV1, mkC_P, writeVar, writeCells, readCells, allSingle, AV.single, getFs, getF, setFs, setF, Heap.get, Heap.set, Heap.new, Heap.kill, killF, pushF, Heap.ready, refs, sliceParts, fillA, replL]
    have g1 : ∀ (m : Nat), FitH 0 [(1, 1), (0, 0)] [] ⟨m, [[(1, .cells n.cs), (0, .cells [aNodes t])]]⟩ ⟨2, [[(1, .cells n.cs), (0, .cells [aNodes t])]]⟩ := fun m => .id1 (g := [(1, .cells n.cs), (0, .cells [aNodes t])]) (by simp) (by simp) (by simp [Heap.get, getFs, getF, pureL])
    repeat refine wps_seq ?_
    refine wps_block (wps_loop' (fun k : Nat => (⟨[0, 1, 2, 3, 4, 5, 6], [.undef, .ptr 0 0, .undef, .int .i64 i, .ptr 1 0, .int .i64 k, .undef], [], 138, ⟨2, [[(1, .cells n.cs), (0, .cells [aNodes t])]]⟩⟩ : St))
      (fun k => k ≤ n.kids.length ∧ n.kids.any (badC t i) = (n.kids.drop k).any (badC t i)) (fun k => n.kids.length - k) [(1, 1), (0, 0)] [] 0 ⟨Nat.zero_le _, rfl⟩ ⟨rfl, rfl, rfl, by simp [fitL, fitV, lookN, pureV], g1 2⟩ ?_)
    rintro k ⟨hk, hany⟩ B2 hB2
    repeat refine wps_seq ?_
    refine wps_region callOK ?_
    simp [ofV, ofV1, mkC_P, writeVar, writeCells, readCells, allSingle, AV.single, getFs, getF, setFs, setF, Heap.get, Heap.set, Heap.new, Heap.kill, killF, pushF, Heap.ready, refs, sliceParts, fillA, replL, lenI]
    repeat refine wps_seq ?_
    refine wps_cond rfl (fun h2 => ?_) fun h2 => ?_
    · simp at h2
      rw [List.drop_eq_getElem_cons h2, List.any_cons] at hany
      repeat refine wps_seq ?_
      refine wps_skip ?_
      simp
      repeat refine wps_seq ?_
      refine wps_block ?_
      by_cases d1 : n.kids[k] < 0
      · repeat refine wps_seq ?_
        refine wps_drawK mixed callOK (by decide +kernel) (by decide +kernel) ?_
        simp [ofV, ofV1, mkC_P, writeVar, writeCells, readCells, allSingle, AV.single, getFs, getF, setFs, setF, Heap.get, Heap.set, Heap.new, Heap.kill, killF, pushF, Heap.ready, refs, sliceParts, fillA, replL, evalK_c, evalK_nil, thenK_some, atI h2, d1]
        repeat refine wps_seq ?_
        refine wps_cond (t := true) rfl (fun _ => ?_) fun h => by cases h
        repeat refine wps_seq ?_
        refine wps_region callOK ?_
        simp [ofV, ofV1, mkC_P, writeVar, writeCells, readCells, allSingle, AV.single, getFs, getF, setFs, setF, Heap.get, Heap.set, Heap.new, Heap.kill, killF, pushF, Heap.ready, refs, sliceParts, fillA, replL]
        repeat refine wps_seq ?_
        refine wps_ret ?_
        simp [retVal, Try.f20, oneOr, thenQ, blockQ]
        exact ends_pure rfl (by rw [rightB_no h (by simp only [okNd, ← hn, hany]; simp [badC, d1])])
      · by_cases d2 : (t.length : Int) ≤ n.kids[k]
        · repeat refine wps_seq ?_
          refine wps_drawK mixed callOK (by decide +kernel) (by decide +kernel) ?_
          simp [ofV, ofV1, mkC_P, writeVar, writeCells, readCells, allSingle, AV.single, getFs, getF, setFs, setF, Heap.get, Heap.set, Heap.new, Heap.kill, killF, pushF, Heap.ready, refs, sliceParts, fillA, replL, evalK_c, evalK_nil, thenK_some, atI h2, lenN, d1, d2]
          repeat refine wps_seq ?_
          refine wps_cond (t := true) rfl (fun _ => ?_) fun h => by cases h
          repeat refine wps_seq ?_
          refine wps_region callOK ?_
          simp [ofV, ofV1, mkC_P, writeVar, writeCells, readCells, allSingle, AV.single, getFs, getF, setFs, setF, Heap.get, Heap.set, Heap.new, Heap.kill, killF, pushF, Heap.ready, refs, sliceParts, fillA, replL]
          repeat refine wps_seq ?_
          refine wps_ret ?_
          simp [retVal, Try.f20, oneOr, thenQ, blockQ]
          exact ends_pure rfl (by rw [rightB_no h (by simp only [okNd, ← hn, hany]; simp [badC, d1, d2])])
        · have ak := atX (t := t) (i := n.kids[k]) (by omega) (by omega)
          by_cases d3 : (nodeAt t n.kids[k]).up = (i : Int)
          · repeat refine wps_seq ?_
            refine wps_drawK mixed callOK (by decide +kernel) (by decide +kernel) ?_
            simp [ofV, ofV1, mkC_P, writeVar, writeCells, readCells, allSingle, AV.single, getFs, getF, setFs, setF, Heap.get, Heap.set, Heap.new, Heap.kill, killF, pushF, Heap.ready, refs, sliceParts, fillA, replL, evalK_c, evalK_nil, thenK_some, atI h2, lenN, ak, d1, d2, d3]
            repeat refine wps_seq ?_
            refine wps_cond (t := false) rfl (fun h => by cases h) fun _ => ?_
            repeat refine wps_seq ?_
            refine wps_skip ?_
            simp
            repeat refine wps_seq ?_
            refine wps_region callOK ?_
            simp [ofV, ofV1, mkC_P, writeVar, writeCells, readCells, allSingle, AV.single, getFs, getF, setFs, setF, Heap.get, Heap.set, Heap.new, Heap.kill, killF, pushF, Heap.ready, refs, sliceParts, fillA, replL, add_one (show k ≤ 1000000000 by omega)]
            refine hB2 _ (k + 1) (by omega) ⟨by omega, ?_⟩ ⟨[(1, 1), (0, 0)], [], rfl, rfl, rfl, by simp [fitL, fitV, lookN, pureV], g1 _⟩
            rw [hany]
            simp [badC, d1, d2, d3]
          · repeat refine wps_seq ?_
            refine wps_drawK mixed callOK (by decide +kernel) (by decide +kernel) ?_
            simp [ofV, ofV1, mkC_P, writeVar, writeCells, readCells, allSingle, AV.single, getFs, getF, setFs, setF, Heap.get, Heap.set, Heap.new, Heap.kill, killF, pushF, Heap.ready, refs, sliceParts, fillA, replL, evalK_c, evalK_nil, thenK_some, atI h2, lenN, ak, d1, d2, d3]
            repeat refine wps_seq ?_
            refine wps_cond (t := true) rfl (fun _ => ?_) fun h => by cases h
            repeat refine wps_seq ?_
            refine wps_region callOK ?_
            simp [ofV, ofV1, mkC_P, writeVar, writeCells, readCells, allSingle, AV.single, getFs, getF, setFs, setF, Heap.get, Heap.set, Heap.new, Heap.kill, killF, pushF, Heap.ready, refs, sliceParts, fillA, replL]
            repeat refine wps_seq ?_
            refine wps_ret ?_
            simp [retVal, Try.f20, oneOr, thenQ, blockQ]
            exact ends_pure rfl (by rw [rightB_no h (by simp only [okNd, ← hn, hany]; simp [badC, d1, d2, d3])])
    · simp at h2
      rw [List.drop_eq_nil_of_le h2] at hany
      repeat refine wps_seq ?_
      refine wps_exit ?_
      simp
      repeat refine wps_seq ?_
      refine wps_region callOK ?_
      simp [ofV, ofV1, mkC_P, writeVar, writeCells, readCells, allSingle, AV.single, getFs, getF, setFs, setF, Heap.get, Heap.set, Heap.new, Heap.kill, killF, pushF, Heap.ready, refs, sliceParts, fillA, replL, add_one (show i ≤ 1000000000 by omega)]
      refine hB _ (i + 1) (by omega) ⟨by omega, fun j hj => ?_⟩ ⟨[(0, 0)], [], rfl, rfl, rfl, by simp [fitL, fitV, lookN, pureV], .id1 (g := [(0, .cells [aNodes t])]) (by simp) (by simp) (by simp [Heap.get, getFs, getF, pureL])⟩
      by_cases hji : j = i
      · subst hji
        simp [okNd, hbA, hbB, ← hn, hany]
      · exact hall j (by omega)
  · simp at h
    have hin : i = t.length := by omega
    subst hin
    have hups := ups_of z2 hall
    repeat refine wps_seq ?_
    refine wps_exit ?_
    simp
    repeat refine wps_seq ?_
    refine wps_region callOK ?_
    simp [ofV, ofV1, mkC_P, writeVar, writeCells, readCells, allSingle, AV.single, getFs, getF, setFs, setF, Heap.get, Heap.set, Heap.new, Heap.kill, killF, pushF, Heap.ready, refs, sliceParts, fillA, replL]
    repeat refine wps_seq ?_
    refine wps_block (wps_loop' (fun i : Nat => (⟨[0, 1, 2, 3, 4, 5, 6], [.undef, .ptr 0 0, .undef, .undef, .undef, .undef, .int .i64 i], [], 138, ⟨1, [[(0, .cells [aNodes t])]]⟩⟩ : St))
      (fun i => i ≤ t.length ∧ ∀ j, j < i → heldF t (t.length + 1) (j : Int) = true) (fun i => t.length - i) [(0, 0)] [] 0 ⟨Nat.zero_le _, fun j hj => absurd hj (Nat.not_lt_zero j)⟩ ⟨rfl, rfl, rfl, by simp [fitL, fitV, lookN, pureV], g0 1⟩ ?_)
    rintro i ⟨hi, hh⟩ B hB
    repeat refine wps_seq ?_
    refine wps_region callOK ?_
    simp [ofV, ofV1, mkC_P, writeVar, writeCells, readCells, allSingle, AV.single, getFs, getF, setFs, setF, Heap.get, Heap.set, Heap.new, Heap.kill, killF, pushF, Heap.ready, refs, sliceParts, fillA, replL, lenN]
    repeat refine wps_seq ?_
    refine wps_cond rfl (fun h => ?_) fun h => ?_
    · simp at h
      repeat refine wps_seq ?_
      refine wps_skip ?_
      simp
      repeat refine wps_seq ?_
      refine wps_block ?_
      have kh := fun H => k35 hH (t := t) (by have := ht.1; omega) hups (i := (i : Int)) (by omega) (by omega) H
      simp only [aTree] at kh
      cases hv : heldF t (t.length + 1) (i : Int) with
      | false =>
        rw [hv] at kh
        repeat refine wps_seq ?_
        refine wps_region callOK ?_
        simp [ofV, ofV1, mkC_P, writeVar, writeCells, readCells, allSingle, AV.single, getFs, getF, setFs, setF, Heap.get, Heap.set, Heap.new, Heap.kill, killF, pushF, Heap.ready, refs, sliceParts, fillA, replL, kh]
        repeat refine wps_seq ?_
        refine wps_cond (t := true) rfl (fun _ => ?_) fun h => by cases h
        repeat refine wps_seq ?_
        refine wps_region callOK ?_
        simp [ofV, ofV1, mkC_P, writeVar, writeCells, readCells, allSingle, AV.single, getFs, getF, setFs, setF, Heap.get, Heap.set, Heap.new, Heap.kill, killF, pushF, Heap.ready, refs, sliceParts, fillA, replL]
        repeat refine wps_seq ?_
        refine wps_ret ?_
        simp [retVal, Try.f20, oneOr, thenQ, blockQ]
        exact ends_pure rfl (by rw [rightB_not h hv])
      | true =>
        rw [hv] at kh
        repeat refine wps_seq ?_
        refine wps_region callOK ?_
        simp [ofV, ofV1, mkC_P, writeVar, writeCells, readCells, allSingle, AV.single, getFs, getF, setFs, setF, Heap.get, Heap.set, Heap.new, Heap.kill, killF, pushF, Heap.ready, refs, sliceParts, fillA, replL, kh]
        repeat refine wps_seq ?_
        refine wps_cond (t := false) rfl (fun h => by cases h) fun _ => ?_
        repeat refine wps_seq ?_
        refine wps_skip ?_
        simp
        repeat refine wps_seq ?_
        refine wps_region callOK ?_
        simp [ofV, ofV1, mkC_P, writeVar, writeCells, readCells, allSingle, AV.single, getFs, getF, setFs, setF, Heap.get, Heap.set, Heap.new, Heap.kill, killF, pushF, Heap.ready, refs, sliceParts, fillA, replL, add_one (show i ≤ 1000000000 by omega)]
        refine hB _ (i + 1) (by omega) ⟨by omega, fun j hj => ?_⟩ ⟨[(0, 0)], [], rfl, rfl, rfl, by simp [fitL, fitV, lookN, pureV], g0 _⟩
        by_cases hji : j = i
        · subst hji; exact hv
        · exact hh j (by omega)
    · simp at h
      have hin : i = t.length := by omega
      subst hin
      repeat refine wps_seq ?_
      refine wps_exit ?_
      simp
      repeat refine wps_seq ?_
      refine wps_region callOK ?_
      simp [ofV, ofV1, mkC_P, writeVar, writeCells, readCells, allSingle, AV.single, getFs, getF, setFs, setF, Heap.get, Heap.set, Heap.new, Heap.kill, killF, pushF, Heap.ready, refs, sliceParts, fillA, replL]
      repeat refine wps_seq ?_
      refine wps_ret ?_
      simp [retVal, Try.f20, oneOr, thenQ, blockQ]
      exact ends_pure rfl (by rw [rightB_yes z0 z1 z2 hall hh])
noncomputable def e20 : Entry Try.prog := mkE 20 [[]] (fun t : Tr => [aTree t]) okTr (fun t => .bool (rightB t)) fun t ht => c20 (T := [e34, e35]) rfl rfl t ht
theorem k20 {T : List (Entry Try.prog)} (hT : findE 20 T = some e20.g) {t : Tr} (ht : okTr t) (H : Heap) : callL (ctx T) (.fn 20) [aTree t] H = some (.bool (rightB t), H) :=
  mkE_scalar hT injT t ht rfl (by simp [th_aTree])
def mayTr (t : Tr) (m : Int) : Bool := fewTr t m && rightB t
theorem c6 {T : List (Entry Try.prog)} (hF : findE 19 T = some e19.g) (hR : findE 20 T = some e20.g) (t : Tr) (m : Int) (hm : m ≤ 50) : CallAt (ctx T) 6 [aTree t, .int .i64 m] ⟨0, []⟩ (.bool (mayTr t m)) ⟨0, []⟩ := by
  have kf := fun H => k19 hF t (m := m) (by omega) H
  simp only [aTree] at kf
  cases hf : fewTr t m with
  | false =>
    rw [hf] at kf
    refine callAt_body (fn := Try.f6) (s0 := ⟨[0, 1, 2, 4], [aTree t, .int .i64 m, .undef, .undef], [], 12, ⟨0, [[]]⟩⟩) Try.func6 rfl rfl rfl ?_
    (repeat (first
      | (refine wps_seq ?_)
      | (refine wps_block ?_)
      | (refine wps_label ?_; simp only [thenQ, blockQ])
      | ((refine wps_region callOK ?_); simp [ofV, ofV1, mkC_P, writeVar, writeCells, readCells, allSingle, AV.single, getFs, getF, setFs, setF, Heap.get, Heap.set, Heap.new, Heap.kill, killF, pushF, Heap.ready, refs, sliceParts, fillA, replL, aTree, kf])
      | (refine wps_cond (t := true) rfl (fun _ => ?_) (fun h => by cases h))
      | (refine wps_cond (t := false) rfl (fun h => by cases h) (fun _ => ?_))
      | ((refine wps_skip ?_); simp only [thenQ, blockQ])
      | ((refine wps_exit ?_); simp [thenQ, blockQ])))
    repeat refine wps_seq ?_
    refine wps_ret ?_
    simp [retVal, Try.f6, oneOr, thenQ, blockQ]
    exact ends_pure rfl (by simp [mayTr, hf])
  | true =>
    have kr := fun H => k20 hR (few_small hm hf).2 H
    simp only [aTree] at kr
    rw [hf] at kf
    refine callAt_body (fn := Try.f6) (s0 := ⟨[0, 1, 2, 4], [aTree t, .int .i64 m, .undef, .undef], [], 12, ⟨0, [[]]⟩⟩) Try.func6 rfl rfl rfl ?_
    (repeat (first
      | (refine wps_seq ?_)
      | (refine wps_block ?_)
      | (refine wps_label ?_; simp only [thenQ, blockQ])
      | ((refine wps_region callOK ?_); simp [ofV, ofV1, mkC_P, writeVar, writeCells, readCells, allSingle, AV.single, getFs, getF, setFs, setF, Heap.get, Heap.set, Heap.new, Heap.kill, killF, pushF, Heap.ready, refs, sliceParts, fillA, replL, aTree, kf, kr])
      | (refine wps_cond (t := true) rfl (fun _ => ?_) (fun h => by cases h))
      | (refine wps_cond (t := false) rfl (fun h => by cases h) (fun _ => ?_))
      | ((refine wps_skip ?_); simp only [thenQ, blockQ])
      | ((refine wps_exit ?_); simp [thenQ, blockQ])))
    repeat refine wps_seq ?_
    refine wps_ret ?_
    simp [retVal, Try.f6, oneOr, thenQ, blockQ]
    exact ends_pure rfl (by simp [mayTr, hf])
noncomputable def e6 : Entry Try.prog := mkE 6 [[], []] (fun x : Tr × Int => [aTree x.1, .int .i64 x.2]) (fun x => x.2 ≤ 50) (fun x => .bool (mayTr x.1 x.2)) fun x hx => c6 (T := [e19, e20]) rfl rfl x.1 x.2 hx
theorem k6 {T : List (Entry Try.prog)} (hT : findE 6 T = some e6.g) (t : Tr) {m : Int} (hm : m ≤ 50) (H : Heap) : callL (ctx T) (.fn 6) [aTree t, .int .i64 m] H = some (.bool (mayTr t m), H) :=
  mkE_scalar hT injTI (t, m) hm rfl (by simp [th_aTree])
end Go.Proofs.Ytohkgmnoamfmgaa
namespace Go.Proofs.Ytohkgmnoamfmgaa
set_option linter.unusedSimpArgs false
set_option linter.unusedVariables false
open Go Go.RowKit
set_option maxRecDepth 100000

def valueB (t : Tr) (i : Int) (nm : Str) : Str := if i < 0 ∨ (t.length : Int) ≤ i then [] else valOf (nodeAt t i) nm
theorem injTIS (x y : Tr × Int × Str) (h : [aTree x.1, .int .i64 x.2.1, .str x.2.2] = [aTree y.1, .int .i64 y.2.1, .str y.2.2]) : x = y := by
  simp at h; exact Prod.ext (inj_aTree h.1) (Prod.ext h.2.1 h.2.2)
theorem told_kind {n : Nd} {x : Str} (h : toldB n x = true) : n.kind = 1 ∧ (valOf n wId = x ∨ valOf n wName = x) := by
  unfold toldB at h
  split at h
  · rename_i hk
    refine ⟨hk.1, ?_⟩
    split at h
    · simp at h; exact .inr h
    · split at h
      · simp at h; exact h.symm
      · split at h
        · simp at h
          rcases h with h | h
          · exact .inr h
          · exact .inl h.2
        · cases h
  · cases h
theorem named_told {t : Tr} {x : Str} {y : Int} (h : y ∈ namedL t x) : 0 ≤ y ∧ y < (t.length : Int) ∧ toldB (nodeAt t y) x = true := by
  unfold namedL at h
  split at h
  · simp at h
  · rw [List.mem_filter] at h
    obtain ⟨h1, h2⟩ := order_mem h.1
    exact ⟨h1, h2, h.2⟩
theorem named_len {t : Tr} {x : Str} : (namedL t x).length ≤ t.length := by
  unfold namedL
  split
  · simp
  · exact Nat.le_trans (List.length_filter_le _ _) order_len
theorem right_root {t : Tr} (h : rightB t = true) : (nodeAt t 0).kind = 0 ∧ t ≠ [] := by
  simp only [rightB, Bool.and_eq_true, decide_eq_true_eq] at h
  exact ⟨h.2.1, h.1⟩
end Go.Proofs.Ytohkgmnoamfmgaa
