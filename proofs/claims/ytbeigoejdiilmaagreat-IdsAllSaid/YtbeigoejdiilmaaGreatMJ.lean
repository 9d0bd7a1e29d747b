/- The reference's Value; DocsHave's walk. No condition. -/
import Derived.Test.YtbeigoejdiilmaaGreatME
import Derived.Test.YtbeigoejdiilmaaGreatMG
import Derived.Test.YtbeigoejdiilmaaGreatMD
namespace Go.Proofs.YtbeigoejdiilmaaGreat
set_option linter.unusedSimpArgs false
set_option linter.unusedVariables false
open Go Go.RowKit
set_option maxRecDepth 100000

theorem closedCall {T : List (Entry Tryz.prog)} {f : FuncId} (h : isTrueE (callN (ctx T) 100000 (.fn f) [] ⟨0, []⟩) = true) : CallAt (ctx T) f [] ⟨0, []⟩ (.bool true) ⟨0, []⟩ := by
  revert h
  cases hr : callN (ctx T) 100000 (.fn f) [] ⟨0, []⟩ with
  | none => intro h; cases h
  | some r =>
    obtain ⟨v, H'⟩ := r
    intro h
    cases v <;> simp only [isTrueE] at h <;> first | (cases h; done) | skip
    subst h
    exact ((call_ok mixed (mkC_ok _ _ _) 100000).fn f [] ⟨0, []⟩ _ _ hr).freeze (Φ := []) (by simp [fitV, pureV]) FitH.empty
theorem awake42 : isTrueE (callN (ctx TR) 100000 (.fn 8) [] ⟨0, []⟩) = true := by decide +kernel
noncomputable def e8 : Entry Tryz.prog := mkE 8 [] (fun _ : Unit => []) (fun _ => True) (fun _ => .bool true) fun _ _ => closedCall awake42
theorem k8 {T : List (Entry Tryz.prog)} (hT : findE 8 T = some e8.g) (H : Heap) : callL (ctx T) (.fn 8) [] H = some (.bool true, H) :=
  mkE_scalar hT (fun _ _ _ => rfl) () trivial rfl rfl
end Go.Proofs.YtbeigoejdiilmaaGreat
namespace Go.Proofs.YtbeigoejdiilmaaGreat
set_option linter.unusedSimpArgs false
set_option linter.unusedVariables false
open Go Go.RowKit Go.ChangeShapes Go.WideShapes Go.ChangeAt
set_option maxRecDepth 100000

theorem shape_slice {α : Type} {n : Nat} {t e : TypeId} {enc : α → AV} {ag : Bool} (hu : Tryz.prog.underlying t = some (.slice e)) (hag : aggT Tryz.prog e = some ag) (h : ∀ cs x, ShapeT Tryz.prog n e cs → wrapA ag cs = some x → ∃ a, x = enc a) {qs : List AV} (hs : ShapeT Tryz.prog (n + 1) t qs) :
    ∃ L : List α, qs = [.fslc (Tryz.prog.cellsOf e) (L.map enc)] := by
  unfold ShapeT at hs
  simp only [hu] at hs
  obtain ⟨es, rfl, _, hes⟩ := hs
  have key : ∀ l : List AV, (∀ x, x ∈ l → ∃ ag cs, aggT Tryz.prog e = some ag ∧ wrapA ag cs = some x ∧ ShapeT Tryz.prog n e cs) → ∃ L : List α, l = L.map enc := by
    intro l
    induction l with
    | nil => intro _; exact ⟨[], rfl⟩
    | cons x r ih =>
      intro hx
      obtain ⟨ag', cs, h1, h2, h3⟩ := hx x (by simp)
      rw [hag, Option.some.injEq] at h1
      subst h1
      obtain ⟨a, ha⟩ := h cs x h3 h2
      obtain ⟨L, hL⟩ := ih fun y hy => hx y (by simp [hy])
      exact ⟨a :: L, by rw [ha, hL]; rfl⟩
  obtain ⟨L, rfl⟩ := key es hes
  exact ⟨L, rfl⟩
theorem shape_str {n : Nat} {qs : List AV} (h : ShapeT Tryz.prog (n + 1) 9 qs) : ∃ s : Str, qs = [.str s] := by
  unfold ShapeT at h
  simp only [Tryz.underlying9] at h
  obtain ⟨s, rfl, _⟩ := h
  exact ⟨s, rfl⟩
theorem shape_int {n : Nat} {qs : List AV} (h : ShapeT Tryz.prog (n + 1) 3 qs) : ∃ i : Int, qs = [aInt i] := by
  unfold ShapeT at h
  simp only [Tryz.underlying3] at h
  obtain ⟨s, rfl, _⟩ := h
  exact ⟨s, rfl⟩
theorem cellsO_attr : Tryz.prog.cellsOf 73 = 2 := by kernel_rfl
theorem cellsO_int : Tryz.prog.cellsOf 3 = 1 := by kernel_rfl
theorem cellsO_node : Tryz.prog.cellsOf 33 = 7 := by kernel_rfl
theorem cells_str1 : Tryz.prog.cellsOf 9 = 1 := by kernel_rfl
theorem shape_attr {n : Nat} {qs : List AV} (h : ShapeT Tryz.prog (n + 2) 73 qs) : ∃ a : At1, AV.agg qs = aAttr a := by
  unfold ShapeT at h
  simp only [Tryz.underlying73] at h
  cases h with
  | cons f r x y h1 h2 =>
    cases h2 with
    | cons f2 r2 x2 y2 h3 h4 =>
      cases h4
      obtain ⟨s1, rfl⟩ := shape_str h1
      obtain ⟨s2, rfl⟩ := shape_str h3
      exact ⟨(s1, s2), rfl⟩
theorem shape_attrs {n : Nat} {qs : List AV} (h : ShapeT Tryz.prog (n + 3) 31 qs) : ∃ L : List At1, qs = [aAttrs L] := by
  obtain ⟨L, rfl⟩ := shape_slice (enc := aAttr) (ag := true) Tryz.underlying31 agT73 (fun cs x h hw => by
    simp only [wrapA, Option.some.injEq] at hw
    obtain ⟨a, ha⟩ := shape_attr h
    exact ⟨a, by rw [← hw, ha]⟩) h
  exact ⟨L, by rw [cellsO_attr]; rfl⟩
theorem shape_ints {n : Nat} {qs : List AV} (h : ShapeT Tryz.prog (n + 2) 28 qs) : ∃ L : List Int, qs = [aInts L] := by
  obtain ⟨L, rfl⟩ := shape_slice (enc := aInt) (ag := false) Tryz.underlying28 agT3 (fun cs x h hw => by
    obtain ⟨a, rfl⟩ := shape_int h
    simp only [wrapA, aInt, AV.single, Option.some.injEq] at hw
    exact ⟨a, hw.symm⟩) h
  exact ⟨L, by rw [cellsO_int]⟩
theorem shape_node {n : Nat} {qs : List AV} (h : ShapeT Tryz.prog (n + 4) 33 qs) : ∃ a : Nd, AV.agg qs = aNode a := by
  unfold ShapeT at h
  simp only [Tryz.underlying33] at h
  obtain _ | ⟨_, _, _, _, h1, h⟩ := h
  obtain _ | ⟨_, _, _, _, h2, h⟩ := h
  obtain _ | ⟨_, _, _, _, h3, h⟩ := h
  obtain _ | ⟨_, _, _, _, h4, h⟩ := h
  obtain _ | ⟨_, _, _, _, h5, h⟩ := h
  obtain _ | ⟨_, _, _, _, h6, h⟩ := h
  obtain _ | ⟨_, _, _, _, h7, h⟩ := h
  cases h
  obtain ⟨x1, rfl⟩ := shape_int h1
  obtain ⟨x2, rfl⟩ := shape_int h2
  obtain ⟨x3, rfl⟩ := shape_str h3
  obtain ⟨x4, rfl⟩ := shape_attrs (n := n) h4
  obtain ⟨x5, rfl⟩ := shape_str h5
  obtain ⟨x6, rfl⟩ := shape_int h6
  obtain ⟨x7, rfl⟩ := shape_ints (n := n + 1) h7
  exact ⟨⟨x1, x2, x3, x4, x5, x6, x7⟩, rfl⟩
theorem shape_tree {n : Nat} {qs : List AV} (h : ShapeT Tryz.prog (n + 6) 24 qs) : ∃ t : Tr, AV.agg qs = aTree t := by
  unfold ShapeT at h
  simp only [Tryz.underlying24] at h
  obtain _ | ⟨_, _, _, _, h1, h⟩ := h
  cases h
  obtain ⟨L, rfl⟩ := shape_slice (n := n + 4) (enc := aNode) (ag := true) Tryz.underlying22 agT33 (fun cs x h hw => by
    simp only [wrapA, Option.some.injEq] at hw
    obtain ⟨a, ha⟩ := shape_node h
    exact ⟨a, by rw [← hw, ha]⟩) h1
  exact ⟨L, by rw [cellsO_node]; rfl⟩
theorem okTree : okTy Tryz.prog 6 24 = true := by kernel_rfl
section
variable {H : Type} {enc : TypeId × Value → H} {W : World} {hg : GlobsIn W}
theorem argTree {b0 base : Nat} {sp : Nat → Bool} {held : Bool} {v : Value} {d : DataW H} {ps : List MemPlace} (ht : DataW.Trod enc Tryz.prog W base sp held 24 v d ps) (hv : Value.okWide Tryz.prog W .any b0 24 v) : ∃ t, VR (start W hg) (aTree t) v := by
  obtain ⟨qs, a, h1, h2, h3⟩ := arg_shape (hg := hg) okTree (ag := true) agT24 (fun h => by cases h) ht hv
  obtain ⟨x, hx⟩ := shape_tree (n := 0) h1
  have : a = aTree x := by
    simp only [wrapA, Option.some.injEq] at h2
    rw [← h2, hx]
  exact ⟨x, this ▸ h3⟩
theorem vr_str (s : ByteArray) : VR (start W hg) (.str s.data.toList) (.string s) := by
  have := VR.str (ρ := start W hg) s.data.toList
  rwa [Array.toArray_toList] at this
end
theorem c3 {T : List (Entry Tryz.prog)} (hA : findE 8 T = some e8.g) (hP : findE 7 T = some e7.g) (h1 : findE 10 T = some e10.g) (h2 : findE 11 T = some e11.g) (h3 : findE 9 T = some e9.g) (t : Tr) (x : Str) :
    CallAt (ctx T) 3 [aTree t, .str x] ⟨0, []⟩ (.bool true) ⟨0, []⟩ := by
  have ka := fun H => k8 hA H
  have kp := fun H => k7 hP t (m := 40) (by omega) H
  simp only [aTree] at kp
  cases hf : fewTr t 40 with
  | false =>
    rw [hf] at kp
    refine callAt_body (fn := Tryz.f3) (s0 := ⟨[0, 1, 2, 4], [aTree t, .str x, .undef, .undef], [], 24, ⟨0, [[]]⟩⟩) Tryz.func3 rfl rfl rfl ?_
    (repeat (first
      | (refine wps_seq ?_)
      | (refine wps_block ?_)
      | (refine wps_label ?_; simp only [thenQ, blockQ])
      | ((refine wps_region callOK ?_); simp [ofV, ofV1, mkC_P, writeVar, writeCells, readCells, allSingle, AV.single, getFs, getF, setFs, setF, Heap.get, Heap.set, Heap.new, Heap.kill, killF, pushF, Heap.ready, refs, sliceParts, fillA, replL, aTree, kp, ka])
      | (refine wps_cond (t := true) rfl (fun _ => ?_) (fun h => by cases h))
      | (refine wps_cond (t := false) rfl (fun h => by cases h) (fun _ => ?_))
      | ((refine wps_skip ?_); simp only [thenQ, blockQ])
      | ((refine wps_exit ?_); simp [thenQ, blockQ])))
    repeat refine wps_seq ?_
    refine wps_ret ?_
    simp [retVal, Tryz.f3, oneOr, thenQ, blockQ]
    exact ends_pure rfl (by rfl)
  | true =>
    rw [hf] at kp
    by_cases hx : (100 : Int) < (x.length : Int)
    · refine callAt_body (fn := Tryz.f3) (s0 := ⟨[0, 1, 2, 4], [aTree t, .str x, .undef, .undef], [], 24, ⟨0, [[]]⟩⟩) Tryz.func3 rfl rfl rfl ?_
      (repeat (first
        | (refine wps_seq ?_)
        | (refine wps_block ?_)
        | (refine wps_label ?_; simp only [thenQ, blockQ])
        | ((refine wps_region callOK ?_); simp [ofV, ofV1, mkC_P, writeVar, writeCells, readCells, allSingle, AV.single, getFs, getF, setFs, setF, Heap.get, Heap.set, Heap.new, Heap.kill, killF, pushF, Heap.ready, refs, sliceParts, fillA, replL, aTree, kp, ka, hx])
        | (refine wps_cond (t := true) rfl (fun _ => ?_) (fun h => by cases h))
        | (refine wps_cond (t := false) rfl (fun h => by cases h) (fun _ => ?_))
        | ((refine wps_skip ?_); simp only [thenQ, blockQ])
        | ((refine wps_exit ?_); simp [thenQ, blockQ])))
      repeat refine wps_seq ?_
      refine wps_ret ?_
      simp [retVal, Tryz.f3, oneOr, thenQ, blockQ]
      exact ends_pure rfl (by rfl)
    · have hs := few_small (by omega) hf
      have kn := fun H => k10 h1 hs x H
      have kr := fun H => k11 h2 hs.2 x H
      have hl : (namedL t x).length ≤ 1000000 := by
        unfold namedL
        split
        · simp
        · have h1 := List.length_filter_le (fun i => toldB (nodeAt t i) x) (orderOf t.length (kidsOf t))
          have h2 := order_len (n := t.length) (ks := kidsOf t)
          have := hs.1
          omega
      have ke := fun H => k9 h3 (M := namedL t x) hl H
      simp only [aTree] at kn kr
      generalize namedL t x = N at *
      simp only [aInts] at kn kr ke
      refine callAt_body (fn := Tryz.f3) (s0 := ⟨[0, 1, 2, 4], [aTree t, .str x, .undef, .undef], [], 24, ⟨0, [[]]⟩⟩) Tryz.func3 rfl rfl rfl ?_
      (repeat (first
        | (refine wps_seq ?_)
        | (refine wps_block ?_)
        | (refine wps_label ?_; simp only [thenQ, blockQ])
        | ((refine wps_region callOK ?_); simp [ofV, ofV1, mkC_P, writeVar, writeCells, readCells, allSingle, AV.single, getFs, getF, setFs, setF, Heap.get, Heap.set, Heap.new, Heap.kill, killF, pushF, Heap.ready, refs, sliceParts, fillA, replL, aTree, kp, ka, hx])
        | (refine wps_cond (t := true) rfl (fun _ => ?_) (fun h => by cases h))
        | (refine wps_cond (t := false) rfl (fun h => by cases h) (fun _ => ?_))
        | ((refine wps_skip ?_); simp only [thenQ, blockQ])
        | ((refine wps_exit ?_); simp [thenQ, blockQ])))
      repeat refine wps_seq ?_
      refine wps_drawK mixed callOK (by decide +kernel) (by decide +kernel) ?_
      simp [ofV, ofV1, mkC_P, writeVar, writeCells, readCells, allSingle, AV.single, getFs, getF, setFs, setF, Heap.get, Heap.set, Heap.new, Heap.kill, killF, pushF, Heap.ready, refs, sliceParts, fillA, replL, evalK_c, evalK_nil, thenK_some, kn, kr, ke, ka]
      repeat refine wps_seq ?_
      refine wps_ret ?_
      simp [retVal, Tryz.f3, oneOr, thenQ, blockQ]
      exact ends_pure rfl (by rfl)
end Go.Proofs.YtbeigoejdiilmaaGreat
namespace Go.Proofs.YtbeigoejdiilmaaGreat
set_option linter.unusedSimpArgs false
set_option linter.unusedVariables false
open Go Go.RowKit
set_option maxRecDepth 100000

theorem FitH.id1 {m' : Nat} {H : Heap} {g : List (Nat × Blk)} (nd : (g.map (·.1)).Nodup) (lt : ∀ e, e ∈ g → e.1 < m') (src : ∀ e, e ∈ g → ∃ cs, H.get e.1 = some (.cells cs) ∧ e.2 = .cells cs ∧ pureL cs = true) : FitH 0 (g.map fun e => (e.1, e.1)) [] H ⟨m', [g]⟩ := by
  refine .rows (by simpa [Function.comp_def] using nd) (by simpa [Function.comp_def] using nd) (by simpa [Heap.ents] using nd) ?_ (by simp) (Nat.zero_le _) ?_
  · intro x hx
    obtain ⟨e, he, rfl⟩ := List.mem_map.1 hx
    exact lt e he
  · intro e he
    have he : e ∈ g := by simpa [Heap.ents] using he
    obtain ⟨cs, h1, h2, h3⟩ := src e he
    exact ⟨e.1, cs, List.mem_map.2 ⟨e, he, rfl⟩, h1, h2, h3⟩
section
variable (n : Nd)
@[simp] theorem gcs0 : getL n.cs 0 = some (.int .i64 n.kind) := rfl
@[simp] theorem gcs1 : getL n.cs 1 = some (.int .i64 n.space) := rfl
@[simp] theorem gcs2 : getL n.cs 2 = some (.str n.name) := rfl
@[simp] theorem gcs3 : getL n.cs 3 = some (aAttrs n.attrs) := rfl
@[simp] theorem gcs4 : getL n.cs 4 = some (.str n.data) := rfl
@[simp] theorem gcs5 : getL n.cs 5 = some (.int .i64 n.up) := rfl
@[simp] theorem gcs6 : getL n.cs 6 = some (aInts n.kids) := rfl
@[simp] theorem pure_cs : pureL n.cs = true := by simp [Nd.cs, pureL, aInt, pureV]
end
theorem atX' {L : List Int} {i : Nat} (h : i < L.length) : indexAddrA Tryz.prog 28 (aInts L) (.int .i64 (i : Int)) = some (.fptr [.int .i64 L[i]] 0) := atI h
def timesB (L : List Int) (n : Int) : Nat := L.countP fun x => decide (x = n)
theorem c45 {T : List (Entry Tryz.prog)} (L : List Int) (n : Int) (hl : L.length ≤ 1000000) : CallAt (ctx T) 45 [aInts L, .int .i64 n] ⟨0, []⟩ (.int .i64 (timesB L n : Nat)) ⟨0, []⟩ := by
  refine callAt_body (fn := Tryz.f45) (s0 := ⟨[0, 1, 4, 5, 6], [aInts L, .int .i64 n, .undef, .undef, .undef], [], 22, ⟨0, [[]]⟩⟩) Tryz.func45 rfl rfl rfl ?_
  repeat refine wps_seq ?_
  refine wps_region callOK ?_
  simp [ofV, ofV1, mkC_P, writeVar, writeCells, readCells, allSingle, AV.single, getFs, getF, setFs, setF, Heap.get, Heap.set, Heap.new, Heap.kill, killF, pushF, Heap.ready, refs, sliceParts, fillA, replL]
  repeat refine wps_seq ?_
  refine wps_region callOK ?_
  simp [ofV, ofV1, mkC_P, writeVar, writeCells, readCells, allSingle, AV.single, getFs, getF, setFs, setF, Heap.get, Heap.set, Heap.new, Heap.kill, killF, pushF, Heap.ready, refs, sliceParts, fillA, replL]
  repeat refine wps_seq ?_
  refine wps_region callOK ?_
  simp [ofV, ofV1, mkC_P, writeVar, writeCells, readCells, allSingle, AV.single, getFs, getF, setFs, setF, Heap.get, Heap.set, Heap.new, Heap.kill, killF, pushF, Heap.ready, refs, sliceParts, fillA, replL]
  repeat refine wps_seq ?_
  refine wps_block (wps_loop' (fun i : Nat => (⟨[0, 1, 4, 5, 6], [aInts L, .int .i64 n, .undef, .int .i64 (timesB (L.take i) n : Nat), .int .i64 i], [], 22, ⟨0, [[]]⟩⟩ : St))
    (fun i => i ≤ L.length) (fun i => L.length - i) [] [] 0 (Nat.zero_le _) ⟨rfl, rfl, rfl, by simp [fitL, fitV, pureV, pureL, aInts, timesB], FitH.nothing⟩ ?_)
  rintro i hi B hB
  have hc : timesB (L.take i) n ≤ i := Nat.le_trans List.countP_le_length (by simp; omega)
  repeat refine wps_seq ?_
  refine wps_region callOK ?_
  simp [ofV, ofV1, mkC_P, writeVar, writeCells, readCells, allSingle, AV.single, getFs, getF, setFs, setF, Heap.get, Heap.set, Heap.new, Heap.kill, killF, pushF, Heap.ready, refs, sliceParts, fillA, replL, lenI]
  repeat refine wps_seq ?_
  refine wps_cond rfl (fun h => ?_) fun h => ?_
  · simp at h
    repeat refine wps_seq ?_
    refine wps_skip ?_
    simp
    repeat refine wps_seq ?_
    refine wps_block ?_
    by_cases hv : L[i] = n
    · have hn : timesB (L.take (i + 1)) n = timesB (L.take i) n + 1 := by rw [List.take_succ_eq_append_getElem h]; simp [timesB, hv]
      repeat refine wps_seq ?_
      refine wps_region callOK ?_
      simp [ofV, ofV1, mkC_P, writeVar, writeCells, readCells, allSingle, AV.single, getFs, getF, setFs, setF, Heap.get, Heap.set, Heap.new, Heap.kill, killF, pushF, Heap.ready, refs, sliceParts, fillA, replL, atI h, hv]
      repeat refine wps_seq ?_
      refine wps_cond (t := true) rfl (fun _ => ?_) fun h => by cases h
      repeat refine wps_seq ?_
      refine wps_region callOK ?_
      simp [ofV, ofV1, mkC_P, writeVar, writeCells, readCells, allSingle, AV.single, getFs, getF, setFs, setF, Heap.get, Heap.set, Heap.new, Heap.kill, killF, pushF, Heap.ready, refs, sliceParts, fillA, replL, add_one (show timesB (L.take i) n ≤ 1000000000 by omega)]
      repeat refine wps_seq ?_
      refine wps_region callOK ?_
      simp [ofV, ofV1, mkC_P, writeVar, writeCells, readCells, allSingle, AV.single, getFs, getF, setFs, setF, Heap.get, Heap.set, Heap.new, Heap.kill, killF, pushF, Heap.ready, refs, sliceParts, fillA, replL, add_one (show i ≤ 1000000000 by omega)]
      exact hB _ (i + 1) (by omega) (by omega) ⟨[], [], ⟨rfl, rfl, rfl, by simp [fitL, fitV, pureV, pureL, aInts, hn], FitH.nothing⟩⟩
    · have hn : timesB (L.take (i + 1)) n = timesB (L.take i) n := by rw [List.take_succ_eq_append_getElem h]; simp only [timesB, List.countP_append, List.countP_cons, List.countP_nil]; simp [hv]
      repeat refine wps_seq ?_
      refine wps_region callOK ?_
      simp [ofV, ofV1, mkC_P, writeVar, writeCells, readCells, allSingle, AV.single, getFs, getF, setFs, setF, Heap.get, Heap.set, Heap.new, Heap.kill, killF, pushF, Heap.ready, refs, sliceParts, fillA, replL, atI h, hv]
      repeat refine wps_seq ?_
      refine wps_cond (t := false) rfl (fun h => by cases h) fun _ => ?_
      repeat refine wps_seq ?_
      refine wps_skip ?_
      simp
      repeat refine wps_seq ?_
      refine wps_region callOK ?_
      simp [ofV, ofV1, mkC_P, writeVar, writeCells, readCells, allSingle, AV.single, getFs, getF, setFs, setF, Heap.get, Heap.set, Heap.new, Heap.kill, killF, pushF, Heap.ready, refs, sliceParts, fillA, replL, add_one (show i ≤ 1000000000 by omega)]
      exact hB _ (i + 1) (by omega) (by omega) ⟨[], [], ⟨rfl, rfl, rfl, by simp [fitL, fitV, pureV, pureL, aInts, hn], FitH.nothing⟩⟩
  · simp at h
    repeat refine wps_seq ?_
    refine wps_exit ?_
    simp
    repeat refine wps_seq ?_
    refine wps_region callOK ?_
    simp [ofV, ofV1, mkC_P, writeVar, writeCells, readCells, allSingle, AV.single, getFs, getF, setFs, setF, Heap.get, Heap.set, Heap.new, Heap.kill, killF, pushF, Heap.ready, refs, sliceParts, fillA, replL]
    repeat refine wps_seq ?_
    refine wps_ret ?_
    simp [retVal, Tryz.f45, oneOr, thenQ, blockQ]
    exact ends_pure rfl (by rw [List.take_of_length_le h])
theorem injLI (x y : List Int × Int) (h : [aInts x.1, .int .i64 x.2] = [aInts y.1, .int .i64 y.2]) : x = y := by
  simp only [List.cons.injEq] at h
  obtain ⟨h1, h2, _⟩ := h
  simp at h2
  exact Prod.ext (inj_aInts h1) h2
noncomputable def e45 : Entry Tryz.prog := mkE 45 [[1], []] (fun x : List Int × Int => [aInts x.1, .int .i64 x.2]) (fun x => x.1.length ≤ 1000000) (fun x => .int .i64 (timesB x.1 x.2 : Nat)) fun x hx => c45 (T := []) x.1 x.2 hx
theorem k45 {T : List (Entry Tryz.prog)} (hT : findE 45 T = some e45.g) {L : List Int} (n : Int) (hl : L.length ≤ 1000000) (H : Heap) : callL (ctx T) (.fn 45) [aInts L, .int .i64 n] H = some (.int .i64 (timesB L n : Nat), H) :=
  mkE_scalar hT injLI (L, n) hl rfl (by simp [aInts])
/-- does it come up to a node without Up, in so many steps -/
def heldF (t : Tr) : Nat → Int → Bool
  | 0, _ => false
  | f + 1, i => if (nodeAt t i).up = -1 then true else heldF t f (nodeAt t i).up
def upsOK (t : Tr) : Prop := ∀ x, x ∈ t → x.up = -1 ∨ (0 ≤ x.up ∧ x.up < (t.length : Int))
theorem c46 {T : List (Entry Tryz.prog)} (t : Tr) (hl : t.length ≤ 1000000) (hu : upsOK t) (i0 : Int) (h0 : 0 ≤ i0) (h1 : i0 < (t.length : Int)) : CallAt (ctx T) 46 [aTree t, .int .i64 i0] ⟨0, []⟩ (.bool (heldF t (t.length + 1) i0)) ⟨0, []⟩ := by
  refine callAt_body (fn := Tryz.f46) (s0 := ⟨[0, 1, 2, 4, 5], [aTree t, .int .i64 i0, .undef, .undef, .undef], [], 26, ⟨0, [[]]⟩⟩) Tryz.func46 rfl rfl rfl ?_
  repeat refine wps_seq ?_
  refine wps_region callOK ?_
  simp [ofV, ofV1, mkC_P, writeVar, writeCells, readCells, allSingle, AV.single, getFs, getF, setFs, setF, Heap.get, Heap.set, Heap.new, Heap.kill, killF, pushF, Heap.ready, refs, sliceParts, fillA, replL, aTree]
  repeat refine wps_seq ?_
  refine wps_region callOK ?_
  simp [ofV, ofV1, mkC_P, writeVar, writeCells, readCells, allSingle, AV.single, getFs, getF, setFs, setF, Heap.get, Heap.set, Heap.new, Heap.kill, killF, pushF, Heap.ready, refs, sliceParts, fillA, replL]
  repeat refine wps_seq ?_
  refine wps_block (wps_loop' (fun x : Nat × Int => (⟨[0, 1, 2, 4, 5], [.undef, .int .i64 x.2, .ptr 0 0, .undef, .int .i64 x.1], [], 26, ⟨1, [[(0, .cells [aNodes t])]]⟩⟩ : St))
    (fun x => x.1 ≤ t.length + 1 ∧ 0 ≤ x.2 ∧ x.2 < (t.length : Int) ∧ heldF t (t.length + 1) i0 = heldF t (t.length + 1 - x.1) x.2) (fun x => t.length + 1 - x.1) [(0, 0)] [] (0, i0) ⟨Nat.zero_le _, h0, h1, rfl⟩
    ⟨rfl, rfl, rfl, by simp [fitL, fitV, lookN, pureV], .id1 (g := [(0, .cells [aNodes t])]) (by simp) (by simp) (by simp [Heap.get, getFs, getF, pureL])⟩ ?_)
  rintro ⟨k, i⟩ ⟨hk, j0, j1, he⟩ B hB
  simp only at hk j0 j1 he
  repeat refine wps_seq ?_
  refine wps_region callOK ?_
  simp [ofV, ofV1, mkC_P, writeVar, writeCells, readCells, allSingle, AV.single, getFs, getF, setFs, setF, Heap.get, Heap.set, Heap.new, Heap.kill, killF, pushF, Heap.ready, refs, sliceParts, fillA, replL, lenN]
  repeat refine wps_seq ?_
  refine wps_cond rfl (fun h => ?_) fun h => ?_
  · simp at h
    repeat refine wps_seq ?_
    refine wps_skip ?_
    simp
    repeat refine wps_seq ?_
    refine wps_block ?_
    rw [show t.length + 1 - k = (t.length - k) + 1 by omega, show heldF t (t.length - k + 1) i = if (nodeAt t i).up = -1 then true else heldF t (t.length - k) (nodeAt t i).up from rfl] at he
    by_cases hv : (nodeAt t i).up = -1
    · rw [if_pos hv] at he
      repeat refine wps_seq ?_
      refine wps_region callOK ?_
      simp [ofV, ofV1, mkC_P, writeVar, writeCells, readCells, allSingle, AV.single, getFs, getF, setFs, setF, Heap.get, Heap.set, Heap.new, Heap.kill, killF, pushF, Heap.ready, refs, sliceParts, fillA, replL, atX j0 j1, hv]
      repeat refine wps_seq ?_
      refine wps_cond (t := true) rfl (fun _ => ?_) fun h => by cases h
      repeat refine wps_seq ?_
      refine wps_region callOK ?_
      simp [ofV, ofV1, mkC_P, writeVar, writeCells, readCells, allSingle, AV.single, getFs, getF, setFs, setF, Heap.get, Heap.set, Heap.new, Heap.kill, killF, pushF, Heap.ready, refs, sliceParts, fillA, replL]
      repeat refine wps_seq ?_
      refine wps_ret ?_
      simp [retVal, Tryz.f46, oneOr, thenQ, blockQ]
      exact ends_pure rfl (by rw [he])
    · rw [if_neg hv] at he
      repeat refine wps_seq ?_
      refine wps_region callOK ?_
      simp [ofV, ofV1, mkC_P, writeVar, writeCells, readCells, allSingle, AV.single, getFs, getF, setFs, setF, Heap.get, Heap.set, Heap.new, Heap.kill, killF, pushF, Heap.ready, refs, sliceParts, fillA, replL, atX j0 j1, hv]
      repeat refine wps_seq ?_
      refine wps_cond (t := false) rfl (fun h => by cases h) fun _ => ?_
      repeat refine wps_seq ?_
      refine wps_skip ?_
      simp
      repeat refine wps_seq ?_
      refine wps_region callOK ?_
      simp [ofV, ofV1, mkC_P, writeVar, writeCells, readCells, allSingle, AV.single, getFs, getF, setFs, setF, Heap.get, Heap.set, Heap.new, Heap.kill, killF, pushF, Heap.ready, refs, sliceParts, fillA, replL, atX j0 j1]
      repeat refine wps_seq ?_
      refine wps_region callOK ?_
      simp [ofV, ofV1, mkC_P, writeVar, writeCells, readCells, allSingle, AV.single, getFs, getF, setFs, setF, Heap.get, Heap.set, Heap.new, Heap.kill, killF, pushF, Heap.ready, refs, sliceParts, fillA, replL, add_one (show k ≤ 1000000000 by omega)]
      have hup := (hu _ (nodeAt_mem j0 j1)).resolve_left hv
      exact hB _ (k + 1, (nodeAt t i).up) (by simp; omega) ⟨by simp; omega, hup.1, hup.2, by simp only; rw [he]; congr 1; omega⟩ ⟨[(0, 0)], [], rfl, rfl, rfl, by simp [fitL, fitV, lookN, pureV], .id1 (g := [(0, .cells [aNodes t])]) (by simp) (by simp) (by simp [Heap.get, getFs, getF, pureL])⟩
  · simp at h
    repeat refine wps_seq ?_
    refine wps_exit ?_
    simp
    repeat refine wps_seq ?_
    refine wps_region callOK ?_
    simp [ofV, ofV1, mkC_P, writeVar, writeCells, readCells, allSingle, AV.single, getFs, getF, setFs, setF, Heap.get, Heap.set, Heap.new, Heap.kill, killF, pushF, Heap.ready, refs, sliceParts, fillA, replL]
    repeat refine wps_seq ?_
    refine wps_ret ?_
    simp [retVal, Tryz.f46, oneOr, thenQ, blockQ]
    exact ends_pure rfl (by rw [he, show t.length + 1 - k = 0 by omega]; rfl)
noncomputable def e46 : Entry Tryz.prog := mkE 46 [[], []] (fun x : Tr × Int => [aTree x.1, .int .i64 x.2]) (fun x => x.1.length ≤ 1000000 ∧ upsOK x.1 ∧ 0 ≤ x.2 ∧ x.2 < (x.1.length : Int)) (fun x => .bool (heldF x.1 (x.1.length + 1) x.2)) fun x hx => c46 (T := []) x.1 hx.1 hx.2.1 x.2 hx.2.2.1 hx.2.2.2
theorem k46 {T : List (Entry Tryz.prog)} (hT : findE 46 T = some e46.g) {t : Tr} (hl : t.length ≤ 1000000) (hu : upsOK t) {i : Int} (h0 : 0 ≤ i) (h1 : i < (t.length : Int)) (H : Heap) : callL (ctx T) (.fn 46) [aTree t, .int .i64 i] H = some (.bool (heldF t (t.length + 1) i), H) :=
  mkE_scalar hT injTI (t, i) ⟨hl, hu, h0, h1⟩ rfl (by simp [th_aTree])
/-- a statement that ends in one state but for its passing slots: the rest is shown once -/
theorem wps_join {C : Ctx} {n : Nat} {r : Option Nat} {c d : Code} {s : St} {Q : Out → St → Prop} (φ : Prop) (s0 : St) (h1 : φ → WpSr C n r d s0 Q) (h2 : (∀ s', φ → s'.wT = s0 → WpSr C n r d s' Q) → WpSr C n r c s (thenQ (fun s => WpSr C n r d s Q) Q)) : WpSr C n r (.seq c d) s Q :=
  wps_seq (h2 fun s' hφ e b a w hb ha K hK => h1 hφ b a w hb (by have := ha.fresh; rw [← e]; exact this) K hK)
end Go.Proofs.YtbeigoejdiilmaaGreat
namespace Go.Proofs.YtbeigoejdiilmaaGreat
set_option linter.unusedSimpArgs false
set_option linter.unusedVariables false
open Go Go.RowKit
set_option maxRecDepth 100000

def badA (t : Tr) (i : Nat) : Bool := decide (0 < i) && (decide ((nodeAt t i).kind < 1) || (decide (4 < (nodeAt t i).kind) || (decide ((nodeAt t i).up < -1) || decide ((t.length : Int) ≤ (nodeAt t i).up))))
def badB (t : Tr) (i : Nat) : Bool := decide (0 ≤ (nodeAt t i).up) && (decide (1 < (nodeAt t (nodeAt t i).up).kind) || decide ((timesB (nodeAt t (nodeAt t i).up).kids i : Int) ≠ 1))
def badC (t : Tr) (i : Nat) (k : Int) : Bool := decide (k < 0) || (decide ((t.length : Int) ≤ k) || decide ((nodeAt t k).up ≠ (i : Int)))
def okNd (t : Tr) (i : Nat) : Bool := !badA t i && (!badB t i && !(nodeAt t i).kids.any (badC t i))
def rightB (t : Tr) : Bool := decide (t ≠ []) && (decide ((nodeAt t 0).kind = 0) && (decide ((nodeAt t 0).up = -1) && ((List.range t.length).all (okNd t) && (List.range t.length).all fun i => heldF t (t.length + 1) (i : Int))))
theorem rightB_no {t : Tr} {i : Nat} (h : i < t.length) (hb : okNd t i = false) : rightB t = false := by
  have : (List.range t.length).all (okNd t) = false := List.all_eq_false.2 ⟨i, by simpa using h, by simp [hb]⟩
  simp [rightB, this]
theorem rightB_not {t : Tr} {i : Nat} (h : i < t.length) (hb : heldF t (t.length + 1) (i : Int) = false) : rightB t = false := by
  have : ((List.range t.length).all fun i => heldF t (t.length + 1) (i : Int)) = false := List.all_eq_false.2 ⟨i, by simpa using h, by simp [hb]⟩
  simp [rightB, this]
theorem rightB_yes {t : Tr} (h : t ≠ []) (h0 : (nodeAt t 0).kind = 0) (h1 : (nodeAt t 0).up = -1) (h2 : ∀ j, j < t.length → okNd t j = true) (h3 : ∀ j, j < t.length → heldF t (t.length + 1) (j : Int) = true) : rightB t = true := by
  have e1 : (List.range t.length).all (okNd t) = true := List.all_eq_true.2 fun j hj => h2 j (by simpa using hj)
  have e2 : ((List.range t.length).all fun i => heldF t (t.length + 1) (i : Int)) = true := List.all_eq_true.2 fun j hj => h3 j (by simpa using hj)
  simp [rightB, h, h0, h1, e1, e2]
theorem ups_of {t : Tr} (h1 : (nodeAt t 0).up = -1) (h2 : ∀ j, j < t.length → okNd t j = true) : upsOK t := by
  intro x hx
  obtain ⟨j, hj, rfl⟩ := List.getElem_of_mem hx
  have := h2 j hj
  rw [← nodeAt_get hj]
  by_cases hz : j = 0
  · subst hz
    exact .inl h1
  · simp only [okNd, badA, Bool.and_eq_true, Bool.not_eq_true', Bool.and_eq_false_iff, Bool.or_eq_false_iff, decide_eq_false_iff_not] at this
    rcases this.1 with h | h
    · omega
    · omega
theorem c25 {T : List (Entry Tryz.prog)} (hT : findE 45 T = some e45.g) (hH : findE 46 T = some e46.g) (t : Tr) (ht : okTr t) :
    CallAt (ctx T) 25 [aTree t] ⟨0, []⟩ (.bool (rightB t)) ⟨0, []⟩ := by
  have htl := ht.1
  have g0 : ∀ (m : Nat), FitH 0 [(0, 0)] [] ⟨m, [[(0, .cells [aNodes t])]]⟩ ⟨1, [[(0, .cells [aNodes t])]]⟩ := fun m => .id1 (g := [(0, .cells [aNodes t])]) (by simp) (by simp) (by simp [Heap.get, getFs, getF, pureL])
  refine callAt_body (fn := Tryz.f25) (s0 := ⟨[0, 1, 2, 3, 4, 5, 6], [aTree t, .undef, .undef, .undef, .undef, .undef, .undef], [], 138, ⟨0, [[]]⟩⟩) Tryz.func25 rfl rfl rfl ?_
  repeat refine wps_seq ?_
  refine wps_region callOK ?_
  simp [ofV, ofV1, mkC_P, writeVar, writeCells, readCells, allSingle, AV.single, getFs, getF, setFs, setF, Heap.get, Heap.set, Heap.new, Heap.kill, killF, pushF, Heap.ready, refs, sliceParts, fillA, replL, aTree]
  by_cases z0 : t = []
  · repeat refine wps_seq ?_
    refine wps_region callOK ?_
    simp [ofV, ofV1, mkC_P, writeVar, writeCells, readCells, allSingle, AV.single, getFs, getF, setFs, setF, Heap.get, Heap.set, Heap.new, Heap.kill, killF, pushF, Heap.ready, refs, sliceParts, fillA, replL, lenN, z0]
    repeat refine wps_seq ?_
    refine wps_cond (t := true) rfl (fun _ => ?_) fun h => by cases h
    repeat refine wps_seq ?_
    refine wps_region callOK ?_
    simp [ofV, ofV1, mkC_P, writeVar, writeCells, readCells, allSingle, AV.single, getFs, getF, setFs, setF, Heap.get, Heap.set, Heap.new, Heap.kill, killF, pushF, Heap.ready, refs, sliceParts, fillA, replL]
    repeat refine wps_seq ?_
    refine wps_ret ?_
    simp [retVal, Tryz.f25, oneOr, thenQ, blockQ]
    exact ends_pure rfl (by simp [rightB, z0])
  have zl : 0 < t.length := List.length_pos_iff.2 z0
  have a0 := atX (t := t) (i := 0) (by omega) (by omega)
  by_cases z1 : (nodeAt t 0).kind = 0
  case neg =>
    repeat refine wps_seq ?_
    refine wps_region callOK ?_
    simp [ofV, ofV1, mkC_P, writeVar, writeCells, readCells, allSingle, AV.single, getFs, getF, setFs, setF, Heap.get, Heap.set, Heap.new, Heap.kill, killF, pushF, Heap.ready, refs, sliceParts, fillA, replL, lenN, z0, a0, z1]
    repeat refine wps_seq ?_
    refine wps_cond (t := true) rfl (fun _ => ?_) fun h => by cases h
    repeat refine wps_seq ?_
    refine wps_region callOK ?_
    simp [ofV, ofV1, mkC_P, writeVar, writeCells, readCells, allSingle, AV.single, getFs, getF, setFs, setF, Heap.get, Heap.set, Heap.new, Heap.kill, killF, pushF, Heap.ready, refs, sliceParts, fillA, replL]
    repeat refine wps_seq ?_
    refine wps_ret ?_
    simp [retVal, Tryz.f25, oneOr, thenQ, blockQ]
    exact ends_pure rfl (by simp [rightB, z1])
  by_cases z2 : (nodeAt t 0).up = -1
  case neg =>
    repeat refine wps_seq ?_
    refine wps_region callOK ?_
    simp [ofV, ofV1, mkC_P, writeVar, writeCells, readCells, allSingle, AV.single, getFs, getF, setFs, setF, Heap.get, Heap.set, Heap.new, Heap.kill, killF, pushF, Heap.ready, refs, sliceParts, fillA, replL, lenN, z0, a0, z1, z2]
    repeat refine wps_seq ?_
    refine wps_cond (t := true) rfl (fun _ => ?_) fun h => by cases h
    repeat refine wps_seq ?_
    refine wps_region callOK ?_
    simp [ofV, ofV1, mkC_P, writeVar, writeCells, readCells, allSingle, AV.single, getFs, getF, setFs, setF, Heap.get, Heap.set, Heap.new, Heap.kill, killF, pushF, Heap.ready, refs, sliceParts, fillA, replL]
    repeat refine wps_seq ?_
    refine wps_ret ?_
    simp [retVal, Tryz.f25, oneOr, thenQ, blockQ]
    exact ends_pure rfl (by simp [rightB, z2])
  repeat refine wps_seq ?_
  refine wps_region callOK ?_
  simp [ofV, ofV1, mkC_P, writeVar, writeCells, readCells, allSingle, AV.single, getFs, getF, setFs, setF, Heap.get, Heap.set, Heap.new, Heap.kill, killF, pushF, Heap.ready, refs, sliceParts, fillA, replL, lenN, z0, a0, z1, z2]
  repeat refine wps_seq ?_
  refine wps_cond (t := false) rfl (fun h => by cases h) fun _ => ?_
  repeat refine wps_seq ?_
  refine wps_skip ?_
  simp
  repeat refine wps_seq ?_
  refine wps_region callOK ?_
  simp [ofV, ofV1, mkC_P, writeVar, writeCells, readCells, allSingle, AV.single, getFs, getF, setFs, setF, Heap.get, Heap.set, Heap.new, Heap.kill, killF, pushF, Heap.ready, refs, sliceParts, fillA, replL]
  repeat refine wps_seq ?_
  refine wps_block (wps_loop' (fun i : Nat => (⟨[0, 1, 2, 3, 4, 5, 6], [.undef, .ptr 0 0, .undef, .int .i64 i, .undef, .undef, .undef], [], 138, ⟨1, [[(0, .cells [aNodes t])]]⟩⟩ : St))
    (fun i => i ≤ t.length ∧ ∀ j, j < i → okNd t j = true) (fun i => t.length - i) [(0, 0)] [] 0 ⟨Nat.zero_le _, fun j hj => absurd hj (Nat.not_lt_zero j)⟩ ⟨rfl, rfl, rfl, by simp [fitL, fitV, lookN, pureV], g0 1⟩ ?_)
  rintro i ⟨hi, hall⟩ B hB
  repeat refine wps_seq ?_
  refine wps_region callOK ?_
  simp [ofV, ofV1, mkC_P, writeVar, writeCells, readCells, allSingle, AV.single, getFs, getF, setFs, setF, Heap.get, Heap.set, Heap.new, Heap.kill, killF, pushF, Heap.ready, refs, sliceParts, fillA, replL, lenN]
  repeat refine wps_seq ?_
  refine wps_cond rfl (fun h => ?_) fun h => ?_
  · simp at h
    repeat refine wps_seq ?_
    refine wps_skip ?_
    simp
    repeat refine wps_seq ?_
    refine wps_block ?_
    refine wps_seq ?_
    have hkd := (ht.2 _ (nodeAt_mem (t := t) (i := (i : Int)) (by omega) (by omega))).1
    obtain ⟨n, hn⟩ : ∃ n, n = nodeAt t i := ⟨_, rfl⟩
    repeat refine wps_seq ?_
    refine wps_region callOK ?_
    simp [ofV, ofV1, mkC_P, writeVar, writeCells, readCells, allSingle, AV.single, getFs, getF, setFs, setF, Heap.get, Heap.set, Heap.new, Heap.kill, killF, pushF, sliceParts, fillA, replL, atX (t := t) (i := (i : Int)) (by omega) (by omega)]
    rw [← hn] at hkd ⊢
    refine wps_join (badA t i = false) ((⟨[0, 1, 2, 3, 4, 5, 6], [.undef, .ptr 0 0, .undef, .int .i64 i, .ptr 1 0, .undef, .undef], [], 138, ⟨2, [[(1, .cells n.cs), (0, .cells [aNodes t])]]⟩⟩ : St)) (fun hbA => ?_) fun hj => ?_
    rotate_left
    · by_cases c0 : 0 < i
      · by_cases c1 : n.kind < 1
        · repeat refine wps_seq ?_
          refine wps_region callOK ?_
          simp [ofV, ofV1, mkC_P, writeVar, writeCells, readCells, allSingle, AV.single, getFs, getF, setFs, setF, Heap.get, Heap.set, Heap.new, Heap.kill, killF, pushF, Heap.ready, refs, sliceParts, fillA, replL, lenN, c0, c1]
          repeat refine wps_seq ?_
          refine wps_cond (t := true) rfl (fun _ => ?_) fun h => by cases h
          repeat refine wps_seq ?_
          refine wps_region callOK ?_
          simp [ofV, ofV1, mkC_P, writeVar, writeCells, readCells, allSingle, AV.single, getFs, getF, setFs, setF, Heap.get, Heap.set, Heap.new, Heap.kill, killF, pushF, Heap.ready, refs, sliceParts, fillA, replL]
          repeat refine wps_seq ?_
          refine wps_ret ?_
          simp [retVal, Tryz.f25, oneOr, thenQ, blockQ]
          exact ends_pure rfl (by rw [rightB_no h (by simp [okNd, badA, c0, ← hn, c1])])
        · by_cases c2 : 4 < n.kind
          · repeat refine wps_seq ?_
            refine wps_region callOK ?_
            simp [ofV, ofV1, mkC_P, writeVar, writeCells, readCells, allSingle, AV.single, getFs, getF, setFs, setF, Heap.get, Heap.set, Heap.new, Heap.kill, killF, pushF, Heap.ready, refs, sliceParts, fillA, replL, lenN, c0, c1, c2]
            repeat refine wps_seq ?_
            refine wps_cond (t := true) rfl (fun _ => ?_) fun h => by cases h
            repeat refine wps_seq ?_
            refine wps_region callOK ?_
            simp [ofV, ofV1, mkC_P, writeVar, writeCells, readCells, allSingle, AV.single, getFs, getF, setFs, setF, Heap.get, Heap.set, Heap.new, Heap.kill, killF, pushF, Heap.ready, refs, sliceParts, fillA, replL]
            repeat refine wps_seq ?_
            refine wps_ret ?_
            simp [retVal, Tryz.f25, oneOr, thenQ, blockQ]
            exact ends_pure rfl (by rw [rightB_no h (by simp [okNd, badA, c0, ← hn, c1, c2])])
          · by_cases c3 : n.up < -1
            · repeat refine wps_seq ?_
              refine wps_region callOK ?_
              simp [ofV, ofV1, mkC_P, writeVar, writeCells, readCells, allSingle, AV.single, getFs, getF, setFs, setF, Heap.get, Heap.set, Heap.new, Heap.kill, killF, pushF, Heap.ready, refs, sliceParts, fillA, replL, lenN, c0, c1, c2, c3]
              repeat refine wps_seq ?_
              refine wps_cond (t := true) rfl (fun _ => ?_) fun h => by cases h
              repeat refine wps_seq ?_
              refine wps_region callOK ?_
              simp [ofV, ofV1, mkC_P, writeVar, writeCells, readCells, allSingle, AV.single, getFs, getF, setFs, setF, Heap.get, Heap.set, Heap.new, Heap.kill, killF, pushF, Heap.ready, refs, sliceParts, fillA, replL]
              repeat refine wps_seq ?_
              refine wps_ret ?_
              simp [retVal, Tryz.f25, oneOr, thenQ, blockQ]
              exact ends_pure rfl (by rw [rightB_no h (by simp [okNd, badA, c0, ← hn, c1, c2, c3])])
            · by_cases c4 : (t.length : Int) ≤ n.up
              · repeat refine wps_seq ?_
                refine wps_region callOK ?_
                simp [ofV, ofV1, mkC_P, writeVar, writeCells, readCells, allSingle, AV.single, getFs, getF, setFs, setF, Heap.get, Heap.set, Heap.new, Heap.kill, killF, pushF, Heap.ready, refs, sliceParts, fillA, replL, lenN, c0, c1, c2, c3, c4]
                repeat refine wps_seq ?_
                refine wps_cond (t := true) rfl (fun _ => ?_) fun h => by cases h
                repeat refine wps_seq ?_
                refine wps_region callOK ?_
                simp [ofV, ofV1, mkC_P, writeVar, writeCells, readCells, allSingle, AV.single, getFs, getF, setFs, setF, Heap.get, Heap.set, Heap.new, Heap.kill, killF, pushF, Heap.ready, refs, sliceParts, fillA, replL]
                repeat refine wps_seq ?_
                refine wps_ret ?_
                simp [retVal, Tryz.f25, oneOr, thenQ, blockQ]
                exact ends_pure rfl (by rw [rightB_no h (by simp [okNd, badA, c0, ← hn, c1, c2, c3, c4])])
              · repeat refine wps_seq ?_
                refine wps_region callOK ?_
                simp [ofV, ofV1, mkC_P, writeVar, writeCells, readCells, allSingle, AV.single, getFs, getF, setFs, setF, Heap.get, Heap.set, Heap.new, Heap.kill, killF, pushF, Heap.ready, refs, sliceParts, fillA, replL, lenN, c0, c1, c2, c3, c4]
                repeat refine wps_seq ?_
                refine wps_cond (t := false) rfl (fun h => by cases h) fun _ => ?_
                repeat refine wps_seq ?_
                refine wps_skip ?_
                simp
                exact hj _ (by simp [badA, ← hn, c1, c2, c3, c4]) rfl
      · repeat refine wps_seq ?_
        refine wps_region callOK ?_
        simp [ofV, ofV1, mkC_P, writeVar, writeCells, readCells, allSingle, AV.single, getFs, getF, setFs, setF, Heap.get, Heap.set, Heap.new, Heap.kill, killF, pushF, Heap.ready, refs, sliceParts, fillA, replL, lenN, c0]
        repeat refine wps_seq ?_
        refine wps_cond (t := false) rfl (fun h => by cases h) fun _ => ?_
        repeat refine wps_seq ?_
        refine wps_skip ?_
        simp
        exact hj _ (by simp [badA, c0]) rfl
    have hup : n.up < (t.length : Int) := by
      by_cases hz : i = 0
      · subst hz; rw [hn]; simp only [Int.natCast_zero, z2]; omega
      · simp only [badA, ← hn, Bool.and_eq_false_iff, Bool.or_eq_false_iff, decide_eq_false_iff_not] at hbA
        omega
    refine wps_join (badB t i = false) ((⟨[0, 1, 2, 3, 4, 5, 6], [.undef, .ptr 0 0, .undef, .int .i64 i, .ptr 1 0, .undef, .undef], [], 138, ⟨2, [[(1, .cells n.cs), (0, .cells [aNodes t])]]⟩⟩ : St)) (fun hbB => ?_) fun hj => ?_
    rotate_left
    · by_cases c5 : 0 ≤ n.up
      · have hkt := k45 hT (L := (nodeAt t n.up).kids) (i : Int) (by have := (ht.2 _ (nodeAt_mem c5 hup)).1; omega)
        generalize hv : timesB (nodeAt t n.up).kids (i : Int) = v at hkt
        by_cases c6 : 1 < (nodeAt t n.up).kind
        · repeat refine wps_seq ?_
          refine wps_region callOK ?_
          simp [ofV, ofV1, mkC_P, writeVar, writeCells, readCells, allSingle, AV.single, getFs, getF, setFs, setF, Heap.get, Heap.set, Heap.new, Heap.kill, killF, pushF, Heap.ready, refs, sliceParts, fillA, replL, c5, atX c5 hup, hkt, c6]
          repeat refine wps_seq ?_
          refine wps_cond (t := true) rfl (fun _ => ?_) fun h => by cases h
          repeat refine wps_seq ?_
          refine wps_region callOK ?_
          simp [ofV, ofV1, mkC_P, writeVar, writeCells, readCells, allSingle, AV.single, getFs, getF, setFs, setF, Heap.get, Heap.set, Heap.new, Heap.kill, killF, pushF, Heap.ready, refs, sliceParts, fillA, replL]
          repeat refine wps_seq ?_
          refine wps_ret ?_
          simp [retVal, Tryz.f25, oneOr, thenQ, blockQ]
          exact ends_pure rfl (by rw [rightB_no h (by simp [okNd, badB, ← hn, hv, c5, c6]; try (intro _ ; omega))])
        · by_cases c7 : ¬ (v : Int) = 1
          · repeat refine wps_seq ?_
            refine wps_region callOK ?_
            simp [ofV, ofV1, mkC_P, writeVar, writeCells, readCells, allSingle, AV.single, getFs, getF, setFs, setF, Heap.get, Heap.set, Heap.new, Heap.kill, killF, pushF, Heap.ready, refs, sliceParts, fillA, replL, c5, atX c5 hup, hkt, c6, c7]
            repeat refine wps_seq ?_
            refine wps_cond (t := true) rfl (fun _ => ?_) fun h => by cases h
            repeat refine wps_seq ?_
            refine wps_region callOK ?_
            simp [ofV, ofV1, mkC_P, writeVar, writeCells, readCells, allSingle, AV.single, getFs, getF, setFs, setF, Heap.get, Heap.set, Heap.new, Heap.kill, killF, pushF, Heap.ready, refs, sliceParts, fillA, replL]
            repeat refine wps_seq ?_
            refine wps_ret ?_
            simp [retVal, Tryz.f25, oneOr, thenQ, blockQ]
            exact ends_pure rfl (by rw [rightB_no h (by simp [okNd, badB, ← hn, hv, c5, c6, c7]; try (intro _ ; omega))])
          · have c7 := Decidable.not_not.1 c7
            repeat refine wps_seq ?_
            refine wps_region callOK ?_
            simp [ofV, ofV1, mkC_P, writeVar, writeCells, readCells, allSingle, AV.single, getFs, getF, setFs, setF, Heap.get, Heap.set, Heap.new, Heap.kill, killF, pushF, Heap.ready, refs, sliceParts, fillA, replL, c5, atX c5 hup, hkt, c6, c7]
            repeat refine wps_seq ?_
            refine wps_cond (t := false) rfl (fun h => by cases h) fun _ => ?_
            repeat refine wps_seq ?_
            refine wps_skip ?_
            simp
            exact hj _ (by simp [badB, ← hn, hv, c6, c7]; try omega) rfl
      · repeat refine wps_seq ?_
        refine wps_region callOK ?_
        simp [ofV, ofV1, mkC_P, writeVar, writeCells, readCells, allSingle, AV.single, getFs, getF, setFs, setF, Heap.get, Heap.set, Heap.new, Heap.kill, killF, pushF, Heap.ready, refs, sliceParts, fillA, replL, c5]
        repeat refine wps_seq ?_
        refine wps_cond (t := false) rfl (fun h => by cases h) fun _ => ?_
        repeat refine wps_seq ?_
        refine wps_skip ?_
        simp
        exact hj _ (by simp [badB, ← hn, c5]) rfl
    repeat refine wps_seq ?_
    refine wps_region callOK ?_
    simp [ofV, ofV1, mkC_P, writeVar, writeCells, readCells, allSingle, AV.single, getFs, getF, setFs, setF, Heap.get, Heap.set, Heap.new, Heap.kill, killF, pushF, Heap.ready, refs, sliceParts, fillA, replL]
    have g1 : ∀ (m : Nat), FitH 0 [(1, 1), (0, 0)] [] ⟨m, [[(1, .cells n.cs), (0, .cells [aNodes t])]]⟩ ⟨2, [[(1, .cells n.cs), (0, .cells [aNodes t])]]⟩ := fun m => .id1 (g := [(1, .cells n.cs), (0, .cells [aNodes t])]) (by simp) (by simp) (by simp [Heap.get, getFs, getF, pureL])
    repeat refine wps_seq ?_
    refine wps_block (wps_loop' (fun k : Nat => (⟨[0, 1, 2, 3, 4, 5, 6], [.undef, .ptr 0 0, .undef, .int .i64 i, .ptr 1 0, .int .i64 k, .undef], [], 138, ⟨2, [[(1, .cells n.cs), (0, .cells [aNodes t])]]⟩⟩ : St))
      (fun k => k ≤ n.kids.length ∧ n.kids.any (badC t i) = (n.kids.drop k).any (badC t i)) (fun k => n.kids.length - k) [(1, 1), (0, 0)] [] 0 ⟨Nat.zero_le _, rfl⟩ ⟨rfl, rfl, rfl, by simp [fitL, fitV, lookN, pureV], g1 2⟩ ?_)
    rintro k ⟨hk, hany⟩ B2 hB2
    repeat refine wps_seq ?_
    refine wps_region callOK ?_
    simp [ofV, ofV1, mkC_P, writeVar, writeCells, readCells, allSingle, AV.single, getFs, getF, setFs, setF, Heap.get, Heap.set, Heap.new, Heap.kill, killF, pushF, Heap.ready, refs, sliceParts, fillA, replL, lenI]
    repeat refine wps_seq ?_
    refine wps_cond rfl (fun h2 => ?_) fun h2 => ?_
    · simp at h2
      rw [List.drop_eq_getElem_cons h2, List.any_cons] at hany
      repeat refine wps_seq ?_
      refine wps_skip ?_
      simp
      repeat refine wps_seq ?_
      refine wps_block ?_
      by_cases d1 : n.kids[k] < 0
      · repeat refine wps_seq ?_
        refine wps_drawK mixed callOK (by decide +kernel) (by decide +kernel) ?_
        simp [ofV, ofV1, mkC_P, writeVar, writeCells, readCells, allSingle, AV.single, getFs, getF, setFs, setF, Heap.get, Heap.set, Heap.new, Heap.kill, killF, pushF, Heap.ready, refs, sliceParts, fillA, replL, evalK_c, evalK_nil, thenK_some, atI h2, d1]
        repeat refine wps_seq ?_
        refine wps_cond (t := true) rfl (fun _ => ?_) fun h => by cases h
        repeat refine wps_seq ?_
        refine wps_region callOK ?_
        simp [ofV, ofV1, mkC_P, writeVar, writeCells, readCells, allSingle, AV.single, getFs, getF, setFs, setF, Heap.get, Heap.set, Heap.new, Heap.kill, killF, pushF, Heap.ready, refs, sliceParts, fillA, replL]
        repeat refine wps_seq ?_
        refine wps_ret ?_
        simp [retVal, Tryz.f25, oneOr, thenQ, blockQ]
        exact ends_pure rfl (by rw [rightB_no h (by simp only [okNd, ← hn, hany]; simp [badC, d1])])
      · by_cases d2 : (t.length : Int) ≤ n.kids[k]
        · repeat refine wps_seq ?_
          refine wps_drawK mixed callOK (by decide +kernel) (by decide +kernel) ?_
          simp [ofV, ofV1, mkC_P, writeVar, writeCells, readCells, allSingle, AV.single, getFs, getF, setFs, setF, Heap.get, Heap.set, Heap.new, Heap.kill, killF, pushF, Heap.ready, refs, sliceParts, fillA, replL, evalK_c, evalK_nil, thenK_some, atI h2, lenN, d1, d2]
          repeat refine wps_seq ?_
          refine wps_cond (t := true) rfl (fun _ => ?_) fun h => by cases h
          repeat refine wps_seq ?_
          refine wps_region callOK ?_
          simp [ofV, ofV1, mkC_P, writeVar, writeCells, readCells, allSingle, AV.single, getFs, getF, setFs, setF, Heap.get, Heap.set, Heap.new, Heap.kill, killF, pushF, Heap.ready, refs, sliceParts, fillA, replL]
          repeat refine wps_seq ?_
          refine wps_ret ?_
          simp [retVal, Tryz.f25, oneOr, thenQ, blockQ]
          exact ends_pure rfl (by rw [rightB_no h (by simp only [okNd, ← hn, hany]; simp [badC, d1, d2])])
        · have ak := atX (t := t) (i := n.kids[k]) (by omega) (by omega)
          by_cases d3 : (nodeAt t n.kids[k]).up = (i : Int)
          · repeat refine wps_seq ?_
            refine wps_drawK mixed callOK (by decide +kernel) (by decide +kernel) ?_
            simp [ofV, ofV1, mkC_P, writeVar, writeCells, readCells, allSingle, AV.single, getFs, getF, setFs, setF, Heap.get, Heap.set, Heap.new, Heap.kill, killF, pushF, Heap.ready, refs, sliceParts, fillA, replL, evalK_c, evalK_nil, thenK_some, atI h2, lenN, ak, d1, d2, d3]
            repeat refine wps_seq ?_
            refine wps_cond (t := false) rfl (fun h => by cases h) fun _ => ?_
            repeat refine wps_seq ?_
            refine wps_skip ?_
            simp
            repeat refine wps_seq ?_
            refine wps_region callOK ?_
            simp [ofV, ofV1, mkC_P, writeVar, writeCells, readCells, allSingle, AV.single, getFs, getF, setFs, setF, Heap.get, Heap.set, Heap.new, Heap.kill, killF, pushF, Heap.ready, refs, sliceParts, fillA, replL, add_one (show k ≤ 1000000000 by omega)]
            refine hB2 _ (k + 1) (by omega) ⟨by omega, ?_⟩ ⟨[(1, 1), (0, 0)], [], rfl, rfl, rfl, by simp [fitL, fitV, lookN, pureV], g1 _⟩
            rw [hany]
            simp [badC, d1, d2, d3]
          · repeat refine wps_seq ?_
            refine wps_drawK mixed callOK (by decide +kernel) (by decide +kernel) ?_
            simp [ofV, ofV1, mkC_P, writeVar, writeCells, readCells, allSingle, AV.single, getFs, getF, setFs, setF, Heap.get, Heap.set, Heap.new, Heap.kill, killF, pushF, Heap.ready, refs, sliceParts, fillA, replL, evalK_c, evalK_nil, thenK_some, atI h2, lenN, ak, d1, d2, d3]
            repeat refine wps_seq ?_
            refine wps_cond (t := true) rfl (fun _ => ?_) fun h => by cases h
            repeat refine wps_seq ?_
            refine wps_region callOK ?_
            simp [ofV, ofV1, mkC_P, writeVar, writeCells, readCells, allSingle, AV.single, getFs, getF, setFs, setF, Heap.get, Heap.set, Heap.new, Heap.kill, killF, pushF, Heap.ready, refs, sliceParts, fillA, replL]
            repeat refine wps_seq ?_
            refine wps_ret ?_
            simp [retVal, Tryz.f25, oneOr, thenQ, blockQ]
            exact ends_pure rfl (by rw [rightB_no h (by simp only [okNd, ← hn, hany]; simp [badC, d1, d2, d3])])
    · simp at h2
      rw [List.drop_eq_nil_of_le h2] at hany
      repeat refine wps_seq ?_
      refine wps_exit ?_
      simp
      repeat refine wps_seq ?_
      refine wps_region callOK ?_
      simp [ofV, ofV1, mkC_P, writeVar, writeCells, readCells, allSingle, AV.single, getFs, getF, setFs, setF, Heap.get, Heap.set, Heap.new, Heap.kill, killF, pushF, Heap.ready, refs, sliceParts, fillA, replL, add_one (show i ≤ 1000000000 by omega)]
      refine hB _ (i + 1) (by omega) ⟨by omega, fun j hj => ?_⟩ ⟨[(0, 0)], [], rfl, rfl, rfl, by simp [fitL, fitV, lookN, pureV], .id1 (g := [(0, .cells [aNodes t])]) (by simp) (by simp) (by simp [Heap.get, getFs, getF, pureL])⟩
      by_cases hji : j = i
      · subst hji
        simp [okNd, hbA, hbB, ← hn, hany]
      · exact hall j (by omega)
  · simp at h
    have hin : i = t.length := by omega
    subst hin
    have hups := ups_of z2 hall
    repeat refine wps_seq ?_
    refine wps_exit ?_
    simp
    repeat refine wps_seq ?_
    refine wps_region callOK ?_
    simp [ofV, ofV1, mkC_P, writeVar, writeCells, readCells, allSingle, AV.single, getFs, getF, setFs, setF, Heap.get, Heap.set, Heap.new, Heap.kill, killF, pushF, Heap.ready, refs, sliceParts, fillA, replL]
    repeat refine wps_seq ?_
    refine wps_block (wps_loop' (fun i : Nat => (⟨[0, 1, 2, 3, 4, 5, 6], [.undef, .ptr 0 0, .undef, .undef, .undef, .undef, .int .i64 i], [], 138, ⟨1, [[(0, .cells [aNodes t])]]⟩⟩ : St))
      (fun i => i ≤ t.length ∧ ∀ j, j < i → heldF t (t.length + 1) (j : Int) = true) (fun i => t.length - i) [(0, 0)] [] 0 ⟨Nat.zero_le _, fun j hj => absurd hj (Nat.not_lt_zero j)⟩ ⟨rfl, rfl, rfl, by simp [fitL, fitV, lookN, pureV], g0 1⟩ ?_)
    rintro i ⟨hi, hh⟩ B hB
    repeat refine wps_seq ?_
    refine wps_region callOK ?_
    simp [ofV, ofV1, mkC_P, writeVar, writeCells, readCells, allSingle, AV.single, getFs, getF, setFs, setF, Heap.get, Heap.set, Heap.new, Heap.kill, killF, pushF, Heap.ready, refs, sliceParts, fillA, replL, lenN]
    repeat refine wps_seq ?_
    refine wps_cond rfl (fun h => ?_) fun h => ?_
    · simp at h
      repeat refine wps_seq ?_
      refine wps_skip ?_
      simp
      repeat refine wps_seq ?_
      refine wps_block ?_
      have kh := fun H => k46 hH (t := t) (by have := ht.1; omega) hups (i := (i : Int)) (by omega) (by omega) H
      simp only [aTree] at kh
      cases hv : heldF t (t.length + 1) (i : Int) with
      | false =>
        rw [hv] at kh
        repeat refine wps_seq ?_
        refine wps_region callOK ?_
        simp [ofV, ofV1, mkC_P, writeVar, writeCells, readCells, allSingle, AV.single, getFs, getF, setFs, setF, Heap.get, Heap.set, Heap.new, Heap.kill, killF, pushF, Heap.ready, refs, sliceParts, fillA, replL, kh]
        repeat refine wps_seq ?_
        refine wps_cond (t := true) rfl (fun _ => ?_) fun h => by cases h
        repeat refine wps_seq ?_
        refine wps_region callOK ?_
        simp [ofV, ofV1, mkC_P, writeVar, writeCells, readCells, allSingle, AV.single, getFs, getF, setFs, setF, Heap.get, Heap.set, Heap.new, Heap.kill, killF, pushF, Heap.ready, refs, sliceParts, fillA, replL]
        repeat refine wps_seq ?_
        refine wps_ret ?_
        simp [retVal, Tryz.f25, oneOr, thenQ, blockQ]
        exact ends_pure rfl (by rw [rightB_not h hv])
      | true =>
        rw [hv] at kh
        repeat refine wps_seq ?_
        refine wps_region callOK ?_
        simp [ofV, ofV1, mkC_P, writeVar, writeCells, readCells, allSingle, AV.single, getFs, getF, setFs, setF, Heap.get, Heap.set, Heap.new, Heap.kill, killF, pushF, Heap.ready, refs, sliceParts, fillA, replL, kh]
        repeat refine wps_seq ?_
        refine wps_cond (t := false) rfl (fun h => by cases h) fun _ => ?_
        repeat refine wps_seq ?_
        refine wps_skip ?_
        simp
        repeat refine wps_seq ?_
        refine wps_region callOK ?_
        simp [ofV, ofV1, mkC_P, writeVar, writeCells, readCells, allSingle, AV.single, getFs, getF, setFs, setF, Heap.get, Heap.set, Heap.new, Heap.kill, killF, pushF, Heap.ready, refs, sliceParts, fillA, replL, add_one (show i ≤ 1000000000 by omega)]
        refine hB _ (i + 1) (by omega) ⟨by omega, fun j hj => ?_⟩ ⟨[(0, 0)], [], rfl, rfl, rfl, by simp [fitL, fitV, lookN, pureV], g0 _⟩
        by_cases hji : j = i
        · subst hji; exact hv
        · exact hh j (by omega)
    · simp at h
      have hin : i = t.length := by omega
      subst hin
      repeat refine wps_seq ?_
      refine wps_exit ?_
      simp
      repeat refine wps_seq ?_
      refine wps_region callOK ?_
      simp [ofV, ofV1, mkC_P, writeVar, writeCells, readCells, allSingle, AV.single, getFs, getF, setFs, setF, Heap.get, Heap.set, Heap.new, Heap.kill, killF, pushF, Heap.ready, refs, sliceParts, fillA, replL]
      repeat refine wps_seq ?_
      refine wps_ret ?_
      simp [retVal, Tryz.f25, oneOr, thenQ, blockQ]
      exact ends_pure rfl (by rw [rightB_yes z0 z1 z2 hall hh])
noncomputable def e25 : Entry Tryz.prog := mkE 25 [[]] (fun t : Tr => [aTree t]) okTr (fun t => .bool (rightB t)) fun t ht => c25 (T := [e45, e46]) rfl rfl t ht
theorem k25 {T : List (Entry Tryz.prog)} (hT : findE 25 T = some e25.g) {t : Tr} (ht : okTr t) (H : Heap) : callL (ctx T) (.fn 25) [aTree t] H = some (.bool (rightB t), H) :=
  mkE_scalar hT injT t ht rfl (by simp [th_aTree])
def mayTr (t : Tr) (m : Int) : Bool := fewTr t m && rightB t
theorem c12 {T : List (Entry Tryz.prog)} (hF : findE 7 T = some e7.g) (hR : findE 25 T = some e25.g) (t : Tr) (m : Int) (hm : m ≤ 50) : CallAt (ctx T) 12 [aTree t, .int .i64 m] ⟨0, []⟩ (.bool (mayTr t m)) ⟨0, []⟩ := by
  have kf := fun H => k7 hF t (m := m) (by omega) H
  simp only [aTree] at kf
  cases hf : fewTr t m with
  | false =>
    rw [hf] at kf
    refine callAt_body (fn := Tryz.f12) (s0 := ⟨[0, 1, 2, 4], [aTree t, .int .i64 m, .undef, .undef], [], 12, ⟨0, [[]]⟩⟩) Tryz.func12 rfl rfl rfl ?_
    (repeat (first
      | (refine wps_seq ?_)
      | (refine wps_block ?_)
      | (refine wps_label ?_; simp only [thenQ, blockQ])
      | ((refine wps_region callOK ?_); simp [ofV, ofV1, mkC_P, writeVar, writeCells, readCells, allSingle, AV.single, getFs, getF, setFs, setF, Heap.get, Heap.set, Heap.new, Heap.kill, killF, pushF, Heap.ready, refs, sliceParts, fillA, replL, aTree, kf])
      | (refine wps_cond (t := true) rfl (fun _ => ?_) (fun h => by cases h))
      | (refine wps_cond (t := false) rfl (fun h => by cases h) (fun _ => ?_))
      | ((refine wps_skip ?_); simp only [thenQ, blockQ])
      | ((refine wps_exit ?_); simp [thenQ, blockQ])))
    repeat refine wps_seq ?_
    refine wps_ret ?_
    simp [retVal, Tryz.f12, oneOr, thenQ, blockQ]
    exact ends_pure rfl (by simp [mayTr, hf])
  | true =>
    have kr := fun H => k25 hR (few_small hm hf).2 H
    simp only [aTree] at kr
    rw [hf] at kf
    refine callAt_body (fn := Tryz.f12) (s0 := ⟨[0, 1, 2, 4], [aTree t, .int .i64 m, .undef, .undef], [], 12, ⟨0, [[]]⟩⟩) Tryz.func12 rfl rfl rfl ?_
    (repeat (first
      | (refine wps_seq ?_)
      | (refine wps_block ?_)
      | (refine wps_label ?_; simp only [thenQ, blockQ])
      | ((refine wps_region callOK ?_); simp [ofV, ofV1, mkC_P, writeVar, writeCells, readCells, allSingle, AV.single, getFs, getF, setFs, setF, Heap.get, Heap.set, Heap.new, Heap.kill, killF, pushF, Heap.ready, refs, sliceParts, fillA, replL, aTree, kf, kr])
      | (refine wps_cond (t := true) rfl (fun _ => ?_) (fun h => by cases h))
      | (refine wps_cond (t := false) rfl (fun h => by cases h) (fun _ => ?_))
      | ((refine wps_skip ?_); simp only [thenQ, blockQ])
      | ((refine wps_exit ?_); simp [thenQ, blockQ])))
    repeat refine wps_seq ?_
    refine wps_ret ?_
    simp [retVal, Tryz.f12, oneOr, thenQ, blockQ]
    exact ends_pure rfl (by simp [mayTr, hf])
noncomputable def e12 : Entry Tryz.prog := mkE 12 [[], []] (fun x : Tr × Int => [aTree x.1, .int .i64 x.2]) (fun x => x.2 ≤ 50) (fun x => .bool (mayTr x.1 x.2)) fun x hx => c12 (T := [e7, e25]) rfl rfl x.1 x.2 hx
theorem k12 {T : List (Entry Tryz.prog)} (hT : findE 12 T = some e12.g) (t : Tr) {m : Int} (hm : m ≤ 50) (H : Heap) : callL (ctx T) (.fn 12) [aTree t, .int .i64 m] H = some (.bool (mayTr t m), H) :=
  mkE_scalar hT injTI (t, m) hm rfl (by simp [th_aTree])
end Go.Proofs.YtbeigoejdiilmaaGreat
namespace Go.Proofs.YtbeigoejdiilmaaGreat
set_option linter.unusedSimpArgs false
set_option linter.unusedVariables false
open Go Go.RowKit
set_option maxRecDepth 100000

def valueB (t : Tr) (i : Int) (nm : Str) : Str := if i < 0 ∨ (t.length : Int) ≤ i then [] else valOf (nodeAt t i) nm
theorem c13 {T : List (Entry Tryz.prog)} (hG : findE 26 T = some e26.g) (t : Tr) (ht : okTr t) (i : Int) (nm : Str) : CallAt (ctx T) 13 [aTree t, .int .i64 i, .str nm] ⟨0, []⟩ (.str (valueB t i nm)) ⟨0, []⟩ := by
  refine callAt_body (fn := Tryz.f13) (s0 := ⟨[0, 1, 2, 3, 6, 7], [aTree t, .int .i64 i, .str nm, .undef, .undef, .undef], [], 30, ⟨0, [[]]⟩⟩) Tryz.func13 rfl rfl rfl ?_
  repeat refine wps_seq ?_
  refine wps_region callOK ?_
  simp [ofV, ofV1, mkC_P, writeVar, writeCells, readCells, allSingle, AV.single, getFs, getF, setFs, setF, Heap.get, Heap.set, Heap.new, Heap.kill, killF, pushF, Heap.ready, refs, sliceParts, fillA, replL, aTree]
  by_cases c1 : i < 0
  · repeat refine wps_seq ?_
    refine wps_region callOK ?_
    simp [ofV, ofV1, mkC_P, writeVar, writeCells, readCells, allSingle, AV.single, getFs, getF, setFs, setF, Heap.get, Heap.set, Heap.new, Heap.kill, killF, pushF, Heap.ready, refs, sliceParts, fillA, replL, lenN, c1]
    repeat refine wps_seq ?_
    refine wps_cond (t := true) rfl (fun _ => ?_) fun h => by cases h
    repeat refine wps_seq ?_
    refine wps_region callOK ?_
    simp [ofV, ofV1, mkC_P, writeVar, writeCells, readCells, allSingle, AV.single, getFs, getF, setFs, setF, Heap.get, Heap.set, Heap.new, Heap.kill, killF, pushF, Heap.ready, refs, sliceParts, fillA, replL]
    repeat refine wps_seq ?_
    refine wps_ret ?_
    simp [retVal, Tryz.f13, oneOr, thenQ, blockQ]
    exact ends_pure rfl (by simp [valueB, c1])
  · by_cases c2 : (t.length : Int) ≤ i
    · repeat refine wps_seq ?_
      refine wps_region callOK ?_
      simp [ofV, ofV1, mkC_P, writeVar, writeCells, readCells, allSingle, AV.single, getFs, getF, setFs, setF, Heap.get, Heap.set, Heap.new, Heap.kill, killF, pushF, Heap.ready, refs, sliceParts, fillA, replL, lenN, c1, c2]
      repeat refine wps_seq ?_
      refine wps_cond (t := true) rfl (fun _ => ?_) fun h => by cases h
      repeat refine wps_seq ?_
      refine wps_region callOK ?_
      simp [ofV, ofV1, mkC_P, writeVar, writeCells, readCells, allSingle, AV.single, getFs, getF, setFs, setF, Heap.get, Heap.set, Heap.new, Heap.kill, killF, pushF, Heap.ready, refs, sliceParts, fillA, replL]
      repeat refine wps_seq ?_
      refine wps_ret ?_
      simp [retVal, Tryz.f13, oneOr, thenQ, blockQ]
      exact ends_pure rfl (by simp [valueB, c1, c2])
    · have hl := (ht.2 _ (nodeAt_mem (t := t) (i := i) (by omega) (by omega))).2
      have hk := fun H => k26 hG nm hl (th_aAttrs H _)
      repeat refine wps_seq ?_
      refine wps_region callOK ?_
      simp [ofV, ofV1, mkC_P, writeVar, writeCells, readCells, allSingle, AV.single, getFs, getF, setFs, setF, Heap.get, Heap.set, Heap.new, Heap.kill, killF, pushF, Heap.ready, refs, sliceParts, fillA, replL, lenN, c1, c2]
      repeat refine wps_seq ?_
      refine wps_cond (t := false) rfl (fun h => by cases h) fun _ => ?_
      repeat refine wps_seq ?_
      refine wps_skip ?_
      simp
      repeat refine wps_seq ?_
      refine wps_region callOK ?_
      simp [ofV, ofV1, mkC_P, writeVar, writeCells, readCells, allSingle, AV.single, getFs, getF, setFs, setF, Heap.get, Heap.set, Heap.new, Heap.kill, killF, pushF, Heap.ready, refs, sliceParts, fillA, replL, atX (t := t) (i := i) (by omega) (by omega), hk, gotA]
      repeat refine wps_seq ?_
      refine wps_region callOK ?_
      simp [ofV, ofV1, mkC_P, writeVar, writeCells, readCells, allSingle, AV.single, getFs, getF, setFs, setF, Heap.get, Heap.set, Heap.new, Heap.kill, killF, pushF, Heap.ready, refs, sliceParts, fillA, replL]
      repeat refine wps_seq ?_
      refine wps_ret ?_
      simp [retVal, Tryz.f13, oneOr, thenQ, blockQ]
      exact ends_pure rfl (by simp [valueB, valOf, c1, c2])
theorem injTIS (x y : Tr × Int × Str) (h : [aTree x.1, .int .i64 x.2.1, .str x.2.2] = [aTree y.1, .int .i64 y.2.1, .str y.2.2]) : x = y := by
  simp at h; exact Prod.ext (inj_aTree h.1) (Prod.ext h.2.1 h.2.2)
noncomputable def e13 : Entry Tryz.prog := mkE 13 [[], [], []] (fun x : Tr × Int × Str => [aTree x.1, .int .i64 x.2.1, .str x.2.2]) (fun x => okTr x.1) (fun x => .str (valueB x.1 x.2.1 x.2.2)) fun x hx => c13 (T := [e26]) rfl x.1 hx x.2.1 x.2.2
theorem k13 {T : List (Entry Tryz.prog)} (hT : findE 13 T = some e13.g) {t : Tr} (ht : okTr t) (i : Int) (nm : Str) (H : Heap) : callL (ctx T) (.fn 13) [aTree t, .int .i64 i, .str nm] H = some (.str (valueB t i nm), H) :=
  mkE_scalar hT injTIS (t, i, nm) ht rfl (by simp [th_aTree])
theorem told_kind {n : Nd} {x : Str} (h : toldB n x = true) : n.kind = 1 ∧ (valOf n wId = x ∨ valOf n wName = x) := by
  unfold toldB at h
  split at h
  · rename_i hk
    refine ⟨hk.1, ?_⟩
    split at h
    · simp at h; exact .inr h
    · split at h
      · simp at h; exact h.symm
      · split at h
        · simp at h
          rcases h with h | h
          · exact .inr h
          · exact .inl h.2
        · cases h
  · cases h
theorem named_told {t : Tr} {x : Str} {y : Int} (h : y ∈ namedL t x) : 0 ≤ y ∧ y < (t.length : Int) ∧ toldB (nodeAt t y) x = true := by
  unfold namedL at h
  split at h
  · simp at h
  · rw [List.mem_filter] at h
    obtain ⟨h1, h2⟩ := order_mem h.1
    exact ⟨h1, h2, h.2⟩
theorem named_len {t : Tr} {x : Str} : (namedL t x).length ≤ t.length := by
  unfold namedL
  split
  · simp
  · exact Nat.le_trans (List.length_filter_le _ _) order_len
theorem right_root {t : Tr} (h : rightB t = true) : (nodeAt t 0).kind = 0 ∧ t ≠ [] := by
  simp only [rightB, Bool.and_eq_true, decide_eq_true_eq] at h
  exact ⟨h.2.1, h.1⟩
theorem c4 {T : List (Entry Tryz.prog)} (hA : findE 8 T = some e8.g) (hP : findE 12 T = some e12.g) (h1 : findE 10 T = some e10.g) (hV : findE 13 T = some e13.g) (t : Tr) (x : Str) :
    CallAt (ctx T) 4 [aTree t, .str x] ⟨0, []⟩ (.bool true) ⟨0, []⟩ := by
  have ka := fun H => k8 hA H
  have kp := fun H => k12 hP t (m := 40) (by omega) H
  simp only [aTree] at kp
  cases hf : mayTr t 40 with
  | false =>
    rw [hf] at kp
    refine callAt_body (fn := Tryz.f4) (s0 := ⟨[0, 1, 2, 4, 6, 18, 19, 20], [aTree t, .str x, .undef, .undef, .undef, .undef, .undef, .undef], [], 58, ⟨0, [[]]⟩⟩) Tryz.func4 rfl rfl rfl ?_
    (repeat (first
      | (refine wps_seq ?_)
      | (refine wps_block ?_)
      | (refine wps_label ?_; simp only [thenQ, blockQ])
      | ((refine wps_region callOK ?_); simp [ofV, ofV1, mkC_P, writeVar, writeCells, readCells, allSingle, AV.single, getFs, getF, setFs, setF, Heap.get, Heap.set, Heap.new, Heap.kill, killF, pushF, Heap.ready, refs, sliceParts, fillA, replL, aTree, kp, ka])
      | (refine wps_cond (t := true) rfl (fun _ => ?_) (fun h => by cases h))
      | (refine wps_cond (t := false) rfl (fun h => by cases h) (fun _ => ?_))
      | ((refine wps_skip ?_); simp only [thenQ, blockQ])
      | ((refine wps_exit ?_); simp [thenQ, blockQ])))
    repeat refine wps_seq ?_
    refine wps_ret ?_
    simp [retVal, Tryz.f4, oneOr, thenQ, blockQ]
    exact ends_pure rfl (by rfl)
  | true =>
    rw [hf] at kp
    by_cases hx : (100 : Int) < (x.length : Int)
    · refine callAt_body (fn := Tryz.f4) (s0 := ⟨[0, 1, 2, 4, 6, 18, 19, 20], [aTree t, .str x, .undef, .undef, .undef, .undef, .undef, .undef], [], 58, ⟨0, [[]]⟩⟩) Tryz.func4 rfl rfl rfl ?_
      (repeat (first
        | (refine wps_seq ?_)
        | (refine wps_block ?_)
        | (refine wps_label ?_; simp only [thenQ, blockQ])
        | ((refine wps_region callOK ?_); simp [ofV, ofV1, mkC_P, writeVar, writeCells, readCells, allSingle, AV.single, getFs, getF, setFs, setF, Heap.get, Heap.set, Heap.new, Heap.kill, killF, pushF, Heap.ready, refs, sliceParts, fillA, replL, aTree, kp, ka, hx])
        | (refine wps_cond (t := true) rfl (fun _ => ?_) (fun h => by cases h))
        | (refine wps_cond (t := false) rfl (fun h => by cases h) (fun _ => ?_))
        | ((refine wps_skip ?_); simp only [thenQ, blockQ])
        | ((refine wps_exit ?_); simp [thenQ, blockQ])))
      repeat refine wps_seq ?_
      refine wps_ret ?_
      simp [retVal, Tryz.f4, oneOr, thenQ, blockQ]
      exact ends_pure rfl (by rfl)
    · simp only [mayTr, Bool.and_eq_true] at hf
      have hs := few_small (by omega) hf.1
      obtain ⟨hr, _⟩ := right_root hf.2
      have kn := fun H => k10 h1 hs x H
      have kv := fun i nm H => k13 hV hs.2 i nm H
      have hl := named_len (t := t) (x := x)
      have hm := fun y (h : y ∈ namedL t x) => named_told h
      have hn := hs.1
      simp only [aTree] at kn kv
      generalize namedL t x = N at *
      refine callAt_body (fn := Tryz.f4) (s0 := ⟨[0, 1, 2, 4, 6, 18, 19, 20], [aTree t, .str x, .undef, .undef, .undef, .undef, .undef, .undef], [], 58, ⟨0, [[]]⟩⟩) Tryz.func4 rfl rfl rfl ?_
      repeat refine wps_seq ?_
      refine wps_region callOK ?_
      simp [ofV, ofV1, mkC_P, writeVar, writeCells, readCells, allSingle, AV.single, getFs, getF, setFs, setF, Heap.get, Heap.set, Heap.new, Heap.kill, killF, pushF, Heap.ready, refs, sliceParts, fillA, replL, aTree]
      repeat refine wps_seq ?_
      refine wps_region callOK ?_
      simp [ofV, ofV1, mkC_P, writeVar, writeCells, readCells, allSingle, AV.single, getFs, getF, setFs, setF, Heap.get, Heap.set, Heap.new, Heap.kill, killF, pushF, Heap.ready, refs, sliceParts, fillA, replL, kp, hx]
      repeat refine wps_seq ?_
      refine wps_cond (t := false) rfl (fun h => by cases h) fun _ => ?_
      repeat refine wps_seq ?_
      refine wps_skip ?_
      simp
      repeat refine wps_seq ?_
      refine wps_region callOK ?_
      simp [ofV, ofV1, mkC_P, writeVar, writeCells, readCells, allSingle, AV.single, getFs, getF, setFs, setF, Heap.get, Heap.set, Heap.new, Heap.kill, killF, pushF, Heap.ready, refs, sliceParts, fillA, replL, kn, lenI]
      repeat refine wps_seq ?_
      refine wps_block (wps_loop' (fun i : Nat => (⟨[0, 1, 2, 4, 6, 18, 19, 20], [.undef, .str x, .ptr 0 0, .undef, .undef, aInts N, .int .i64 (N.length : Nat), .int .i64 i], [], 58, ⟨1, [[(0, .cells [aNodes t])]]⟩⟩ : St))
        (fun i => i ≤ N.length) (fun i => N.length - i) [(0, 0)] [] 0 (Nat.zero_le _) ⟨rfl, rfl, rfl, by simp [fitL, fitV, lookN, pureV, aInts], .id1 (g := [(0, .cells [aNodes t])]) (by simp) (by simp) (by simp [Heap.get, getFs, getF, pureL])⟩ ?_)
      rintro i hi B hB
      repeat refine wps_seq ?_
      refine wps_region callOK ?_
      simp [ofV, ofV1, mkC_P, writeVar, writeCells, readCells, allSingle, AV.single, getFs, getF, setFs, setF, Heap.get, Heap.set, Heap.new, Heap.kill, killF, pushF, Heap.ready, refs, sliceParts, fillA, replL]
      repeat refine wps_seq ?_
      refine wps_cond rfl (fun h => ?_) fun h => ?_
      · simp at h
        repeat refine wps_seq ?_
        refine wps_skip ?_
        simp
        repeat refine wps_seq ?_
        refine wps_block ?_
        repeat refine wps_seq ?_
        refine wps_region callOK ?_
        simp [ofV, ofV1, mkC_P, writeVar, writeCells, readCells, allSingle, AV.single, getFs, getF, setFs, setF, Heap.get, Heap.set, Heap.new, Heap.kill, killF, pushF, Heap.ready, refs, sliceParts, fillA, replL, atI h]
        obtain ⟨y0, y1, y2⟩ := hm N[i] (List.getElem_mem _)
        obtain ⟨q1, q2⟩ := told_kind y2
        have a := atX y0 y1
        have c0 : ¬ N[i] ≤ 0 := by
          intro hc
          have : N[i] = 0 := by omega
          rw [this, hr] at q1
          omega
        have c1 : ¬ (t.length : Int) ≤ N[i] := by omega
        have c2 : ¬ N[i] < 0 := by omega
        have e1 : ∀ nm, valueB t N[i] nm = valOf (nodeAt t N[i]) nm := fun nm => by simp [valueB, c1, c2]
        have kv1 := fun H => kv N[i] wId H
        have kv2 := fun H => kv N[i] wName H
        rw [e1] at kv1 kv2
        generalize N[i] = y at *
        by_cases d1 : valOf (nodeAt t y) wId = x
        · repeat refine wps_seq ?_
          refine wps_region callOK ?_
          simp [ofV, ofV1, mkC_P, writeVar, writeCells, readCells, allSingle, AV.single, getFs, getF, setFs, setF, Heap.get, Heap.set, Heap.new, Heap.kill, killF, pushF, Heap.ready, refs, sliceParts, fillA, replL, c0, c1, lenN, a, q1, kv1, d1]
          repeat refine wps_seq ?_
          refine wps_cond (t := false) rfl (fun h => by cases h) fun _ => ?_
          repeat refine wps_seq ?_
          refine wps_skip ?_
          simp
          repeat refine wps_seq ?_
          refine wps_region callOK ?_
          simp [ofV, ofV1, mkC_P, writeVar, writeCells, readCells, allSingle, AV.single, getFs, getF, setFs, setF, Heap.get, Heap.set, Heap.new, Heap.kill, killF, pushF, Heap.ready, refs, sliceParts, fillA, replL, add_one (show i ≤ 1000000000 by omega)]
          exact hB _ (i + 1) (by omega) (by omega) ⟨[(0, 0)], [], rfl, rfl, rfl, by simp [fitL, fitV, lookN, pureV, aInts], .id1 (g := [(0, .cells [aNodes t])]) (by simp) (by simp) (by simp [Heap.get, getFs, getF, pureL])⟩
        · have d2 := q2.resolve_left d1
          repeat refine wps_seq ?_
          refine wps_region callOK ?_
          simp [ofV, ofV1, mkC_P, writeVar, writeCells, readCells, allSingle, AV.single, getFs, getF, setFs, setF, Heap.get, Heap.set, Heap.new, Heap.kill, killF, pushF, Heap.ready, refs, sliceParts, fillA, replL, c0, c1, lenN, a, q1, kv1, d1, kv2, d2]
          repeat refine wps_seq ?_
          refine wps_cond (t := false) rfl (fun h => by cases h) fun _ => ?_
          repeat refine wps_seq ?_
          refine wps_skip ?_
          simp
          repeat refine wps_seq ?_
          refine wps_region callOK ?_
          simp [ofV, ofV1, mkC_P, writeVar, writeCells, readCells, allSingle, AV.single, getFs, getF, setFs, setF, Heap.get, Heap.set, Heap.new, Heap.kill, killF, pushF, Heap.ready, refs, sliceParts, fillA, replL, add_one (show i ≤ 1000000000 by omega)]
          exact hB _ (i + 1) (by omega) (by omega) ⟨[(0, 0)], [], rfl, rfl, rfl, by simp [fitL, fitV, lookN, pureV, aInts], .id1 (g := [(0, .cells [aNodes t])]) (by simp) (by simp) (by simp [Heap.get, getFs, getF, pureL])⟩
      · simp at h
        repeat refine wps_seq ?_
        refine wps_exit ?_
        simp
        repeat refine wps_seq ?_
        refine wps_region callOK ?_
        simp [ofV, ofV1, mkC_P, writeVar, writeCells, readCells, allSingle, AV.single, getFs, getF, setFs, setF, Heap.get, Heap.set, Heap.new, Heap.kill, killF, pushF, Heap.ready, refs, sliceParts, fillA, replL, ka]
        repeat refine wps_seq ?_
        refine wps_ret ?_
        simp [retVal, Tryz.f4, oneOr, thenQ, blockQ]
        exact ends_pure rfl (by rfl)
end Go.Proofs.YtbeigoejdiilmaaGreat
