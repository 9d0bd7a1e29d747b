/- DocsTell holds: in any tree any name tells what the document says. No condition. -/
import Derived.Test.YtbeigoejdiilmaaGreatME
import Derived.Test.YtbeigoejdiilmaaGreatMG
import Derived.Test.YtbeigoejdiilmaaGreatMD
import Derived.Test.YtbeigoejdiilmaaGreatRows
namespace Go.Proofs.YtbeigoejdiilmaaGreat
set_option linter.unusedSimpArgs false
set_option linter.unusedVariables false
open Go Go.RowKit
set_option maxRecDepth 100000

theorem closedCall {T : List (Entry Tryz.prog)} {f : FuncId} (h : isTrueE (callN (ctx T) 100000 (.fn f) [] ⟨0, []⟩) = true) : CallAt (ctx T) f [] ⟨0, []⟩ (.bool true) ⟨0, []⟩ := by
  revert h
  cases hr : callN (ctx T) 100000 (.fn f) [] ⟨0, []⟩ with
  | none => intro h; cases h
  | some r =>
    obtain ⟨v, H'⟩ := r
    intro h
    cases v <;> simp only [isTrueE] at h <;> first | (cases h; done) | skip
    subst h
    exact ((call_ok mixed (mkC_ok _ _ _) 100000).fn f [] ⟨0, []⟩ _ _ hr).freeze (Φ := []) (by simp [fitV, pureV]) FitH.empty
theorem awake42 : isTrueE (callN (ctx TR) 100000 (.fn 8) [] ⟨0, []⟩) = true := by decide +kernel
noncomputable def e8 : Entry Tryz.prog := mkE 8 [] (fun _ : Unit => []) (fun _ => True) (fun _ => .bool true) fun _ _ => closedCall awake42
theorem k8 {T : List (Entry Tryz.prog)} (hT : findE 8 T = some e8.g) (H : Heap) : callL (ctx T) (.fn 8) [] H = some (.bool true, H) :=
  mkE_scalar hT (fun _ _ _ => rfl) () trivial rfl rfl
end Go.Proofs.YtbeigoejdiilmaaGreat
namespace Go.Proofs.YtbeigoejdiilmaaGreat
set_option linter.unusedSimpArgs false
set_option linter.unusedVariables false
open Go Go.RowKit Go.ChangeShapes Go.WideShapes Go.ChangeAt
set_option maxRecDepth 100000

theorem shape_slice {α : Type} {n : Nat} {t e : TypeId} {enc : α → AV} {ag : Bool} (hu : Tryz.prog.underlying t = some (.slice e)) (hag : aggT Tryz.prog e = some ag) (h : ∀ cs x, ShapeT Tryz.prog n e cs → wrapA ag cs = some x → ∃ a, x = enc a) {qs : List AV} (hs : ShapeT Tryz.prog (n + 1) t qs) :
    ∃ L : List α, qs = [.fslc (Tryz.prog.cellsOf e) (L.map enc)] := by
  unfold ShapeT at hs
  simp only [hu] at hs
  obtain ⟨es, rfl, _, hes⟩ := hs
  have key : ∀ l : List AV, (∀ x, x ∈ l → ∃ ag cs, aggT Tryz.prog e = some ag ∧ wrapA ag cs = some x ∧ ShapeT Tryz.prog n e cs) → ∃ L : List α, l = L.map enc := by
    intro l
    induction l with
    | nil => intro _; exact ⟨[], rfl⟩
    | cons x r ih =>
      intro hx
      obtain ⟨ag', cs, h1, h2, h3⟩ := hx x (by simp)
      rw [hag, Option.some.injEq] at h1
      subst h1
      obtain ⟨a, ha⟩ := h cs x h3 h2
      obtain ⟨L, hL⟩ := ih fun y hy => hx y (by simp [hy])
      exact ⟨a :: L, by rw [ha, hL]; rfl⟩
  obtain ⟨L, rfl⟩ := key es hes
  exact ⟨L, rfl⟩
theorem shape_str {n : Nat} {qs : List AV} (h : ShapeT Tryz.prog (n + 1) 9 qs) : ∃ s : Str, qs = [.str s] := by
  unfold ShapeT at h
  simp only [Tryz.underlying9] at h
  obtain ⟨s, rfl, _⟩ := h
  exact ⟨s, rfl⟩
theorem shape_int {n : Nat} {qs : List AV} (h : ShapeT Tryz.prog (n + 1) 3 qs) : ∃ i : Int, qs = [aInt i] := by
  unfold ShapeT at h
  simp only [Tryz.underlying3] at h
  obtain ⟨s, rfl, _⟩ := h
  exact ⟨s, rfl⟩
theorem cellsO_attr : Tryz.prog.cellsOf 73 = 2 := by kernel_rfl
theorem cellsO_int : Tryz.prog.cellsOf 3 = 1 := by kernel_rfl
theorem cellsO_node : Tryz.prog.cellsOf 33 = 7 := by kernel_rfl
theorem cells_str1 : Tryz.prog.cellsOf 9 = 1 := by kernel_rfl
theorem shape_attr {n : Nat} {qs : List AV} (h : ShapeT Tryz.prog (n + 2) 73 qs) : ∃ a : At1, AV.agg qs = aAttr a := by
  unfold ShapeT at h
  simp only [Tryz.underlying73] at h
  cases h with
  | cons f r x y h1 h2 =>
    cases h2 with
    | cons f2 r2 x2 y2 h3 h4 =>
      cases h4
      obtain ⟨s1, rfl⟩ := shape_str h1
      obtain ⟨s2, rfl⟩ := shape_str h3
      exact ⟨(s1, s2), rfl⟩
theorem shape_attrs {n : Nat} {qs : List AV} (h : ShapeT Tryz.prog (n + 3) 31 qs) : ∃ L : List At1, qs = [aAttrs L] := by
  obtain ⟨L, rfl⟩ := shape_slice (enc := aAttr) (ag := true) Tryz.underlying31 agT73 (fun cs x h hw => by
    simp only [wrapA, Option.some.injEq] at hw
    obtain ⟨a, ha⟩ := shape_attr h
    exact ⟨a, by rw [← hw, ha]⟩) h
  exact ⟨L, by rw [cellsO_attr]; rfl⟩
theorem shape_ints {n : Nat} {qs : List AV} (h : ShapeT Tryz.prog (n + 2) 28 qs) : ∃ L : List Int, qs = [aInts L] := by
  obtain ⟨L, rfl⟩ := shape_slice (enc := aInt) (ag := false) Tryz.underlying28 agT3 (fun cs x h hw => by
    obtain ⟨a, rfl⟩ := shape_int h
    simp only [wrapA, aInt, AV.single, Option.some.injEq] at hw
    exact ⟨a, hw.symm⟩) h
  exact ⟨L, by rw [cellsO_int]⟩
theorem shape_node {n : Nat} {qs : List AV} (h : ShapeT Tryz.prog (n + 4) 33 qs) : ∃ a : Nd, AV.agg qs = aNode a := by
  unfold ShapeT at h
  simp only [Tryz.underlying33] at h
  obtain _ | ⟨_, _, _, _, h1, h⟩ := h
  obtain _ | ⟨_, _, _, _, h2, h⟩ := h
  obtain _ | ⟨_, _, _, _, h3, h⟩ := h
  obtain _ | ⟨_, _, _, _, h4, h⟩ := h
  obtain _ | ⟨_, _, _, _, h5, h⟩ := h
  obtain _ | ⟨_, _, _, _, h6, h⟩ := h
  obtain _ | ⟨_, _, _, _, h7, h⟩ := h
  cases h
  obtain ⟨x1, rfl⟩ := shape_int h1
  obtain ⟨x2, rfl⟩ := shape_int h2
  obtain ⟨x3, rfl⟩ := shape_str h3
  obtain ⟨x4, rfl⟩ := shape_attrs (n := n) h4
  obtain ⟨x5, rfl⟩ := shape_str h5
  obtain ⟨x6, rfl⟩ := shape_int h6
  obtain ⟨x7, rfl⟩ := shape_ints (n := n + 1) h7
  exact ⟨⟨x1, x2, x3, x4, x5, x6, x7⟩, rfl⟩
theorem shape_tree {n : Nat} {qs : List AV} (h : ShapeT Tryz.prog (n + 6) 24 qs) : ∃ t : Tr, AV.agg qs = aTree t := by
  unfold ShapeT at h
  simp only [Tryz.underlying24] at h
  obtain _ | ⟨_, _, _, _, h1, h⟩ := h
  cases h
  obtain ⟨L, rfl⟩ := shape_slice (n := n + 4) (enc := aNode) (ag := true) Tryz.underlying22 agT33 (fun cs x h hw => by
    simp only [wrapA, Option.some.injEq] at hw
    obtain ⟨a, ha⟩ := shape_node h
    exact ⟨a, by rw [← hw, ha]⟩) h1
  exact ⟨L, by rw [cellsO_node]; rfl⟩
theorem okTree : okTy Tryz.prog 6 24 = true := by kernel_rfl
section
variable {H : Type} {enc : TypeId × Value → H} {W : World} {hg : GlobsIn W}
theorem argTree {b0 base : Nat} {sp : Nat → Bool} {held : Bool} {v : Value} {d : DataW H} {ps : List MemPlace} (ht : DataW.Trod enc Tryz.prog W base sp held 24 v d ps) (hv : Value.okWide Tryz.prog W .any b0 24 v) : ∃ t, VR (start W hg) (aTree t) v := by
  obtain ⟨qs, a, h1, h2, h3⟩ := arg_shape (hg := hg) okTree (ag := true) agT24 (fun h => by cases h) ht hv
  obtain ⟨x, hx⟩ := shape_tree (n := 0) h1
  have : a = aTree x := by
    simp only [wrapA, Option.some.injEq] at h2
    rw [← h2, hx]
  exact ⟨x, this ▸ h3⟩
theorem vr_str (s : ByteArray) : VR (start W hg) (.str s.data.toList) (.string s) := by
  have := VR.str (ρ := start W hg) s.data.toList
  rwa [Array.toArray_toList] at this
end
theorem c3 {T : List (Entry Tryz.prog)} (hA : findE 8 T = some e8.g) (hP : findE 7 T = some e7.g) (h1 : findE 10 T = some e10.g) (h2 : findE 11 T = some e11.g) (h3 : findE 9 T = some e9.g) (t : Tr) (x : Str) :
    CallAt (ctx T) 3 [aTree t, .str x] ⟨0, []⟩ (.bool true) ⟨0, []⟩ := by
  have ka := fun H => k8 hA H
  have kp := fun H => k7 hP t (m := 40) (by omega) H
  simp only [aTree] at kp
  cases hf : fewTr t 40 with
  | false =>
    rw [hf] at kp
    refine callAt_body (fn := Tryz.f3) (s0 := ⟨[0, 1, 2, 4], [aTree t, .str x, .undef, .undef], [], 24, ⟨0, [[]]⟩⟩) Tryz.func3 rfl rfl rfl ?_
    (repeat (first
      | (refine wps_seq ?_)
      | (refine wps_block ?_)
      | (refine wps_label ?_; simp only [thenQ, blockQ])
      | ((refine wps_region callOK ?_); simp [ofV, ofV1, mkC_P, writeVar, writeCells, readCells, allSingle, AV.single, getFs, getF, setFs, setF, Heap.get, Heap.set, Heap.new, Heap.kill, killF, pushF, Heap.ready, refs, sliceParts, fillA, replL, aTree, kp, ka])
      | (refine wps_cond (t := true) rfl (fun _ => ?_) (fun h => by cases h))
      | (refine wps_cond (t := false) rfl (fun h => by cases h) (fun _ => ?_))
      | ((refine wps_skip ?_); simp only [thenQ, blockQ])
      | ((refine wps_exit ?_); simp [thenQ, blockQ])))
    repeat refine wps_seq ?_
    refine wps_ret ?_
    simp [retVal, Tryz.f3, oneOr, thenQ, blockQ]
    exact ends_pure rfl (by rfl)
  | true =>
    rw [hf] at kp
    by_cases hx : (100 : Int) < (x.length : Int)
    · refine callAt_body (fn := Tryz.f3) (s0 := ⟨[0, 1, 2, 4], [aTree t, .str x, .undef, .undef], [], 24, ⟨0, [[]]⟩⟩) Tryz.func3 rfl rfl rfl ?_
      (repeat (first
        | (refine wps_seq ?_)
        | (refine wps_block ?_)
        | (refine wps_label ?_; simp only [thenQ, blockQ])
        | ((refine wps_region callOK ?_); simp [ofV, ofV1, mkC_P, writeVar, writeCells, readCells, allSingle, AV.single, getFs, getF, setFs, setF, Heap.get, Heap.set, Heap.new, Heap.kill, killF, pushF, Heap.ready, refs, sliceParts, fillA, replL, aTree, kp, ka, hx])
        | (refine wps_cond (t := true) rfl (fun _ => ?_) (fun h => by cases h))
        | (refine wps_cond (t := false) rfl (fun h => by cases h) (fun _ => ?_))
        | ((refine wps_skip ?_); simp only [thenQ, blockQ])
        | ((refine wps_exit ?_); simp [thenQ, blockQ])))
      repeat refine wps_seq ?_
      refine wps_ret ?_
      simp [retVal, Tryz.f3, oneOr, thenQ, blockQ]
      exact ends_pure rfl (by rfl)
    · have hs := few_small (by omega) hf
      have kn := fun H => k10 h1 hs x H
      have kr := fun H => k11 h2 hs.2 x H
      have hl : (namedL t x).length ≤ 1000000 := by
        unfold namedL
        split
        · simp
        · have h1 := List.length_filter_le (fun i => toldB (nodeAt t i) x) (orderOf t.length (kidsOf t))
          have h2 := order_len (n := t.length) (ks := kidsOf t)
          have := hs.1
          omega
      have ke := fun H => k9 h3 (M := namedL t x) hl H
      simp only [aTree] at kn kr
      generalize namedL t x = N at *
      simp only [aInts] at kn kr ke
      refine callAt_body (fn := Tryz.f3) (s0 := ⟨[0, 1, 2, 4], [aTree t, .str x, .undef, .undef], [], 24, ⟨0, [[]]⟩⟩) Tryz.func3 rfl rfl rfl ?_
      (repeat (first
        | (refine wps_seq ?_)
        | (refine wps_block ?_)
        | (refine wps_label ?_; simp only [thenQ, blockQ])
        | ((refine wps_region callOK ?_); simp [ofV, ofV1, mkC_P, writeVar, writeCells, readCells, allSingle, AV.single, getFs, getF, setFs, setF, Heap.get, Heap.set, Heap.new, Heap.kill, killF, pushF, Heap.ready, refs, sliceParts, fillA, replL, aTree, kp, ka, hx])
        | (refine wps_cond (t := true) rfl (fun _ => ?_) (fun h => by cases h))
        | (refine wps_cond (t := false) rfl (fun h => by cases h) (fun _ => ?_))
        | ((refine wps_skip ?_); simp only [thenQ, blockQ])
        | ((refine wps_exit ?_); simp [thenQ, blockQ])))
      repeat refine wps_seq ?_
      refine wps_drawK mixed callOK (by decide +kernel) (by decide +kernel) ?_
      simp [ofV, ofV1, mkC_P, writeVar, writeCells, readCells, allSingle, AV.single, getFs, getF, setFs, setF, Heap.get, Heap.set, Heap.new, Heap.kill, killF, pushF, Heap.ready, refs, sliceParts, fillA, replL, evalK_c, evalK_nil, thenK_some, kn, kr, ke, ka]
      repeat refine wps_seq ?_
      refine wps_ret ?_
      simp [retVal, Tryz.f3, oneOr, thenQ, blockQ]
      exact ends_pure rfl (by rfl)
end Go.Proofs.YtbeigoejdiilmaaGreat
namespace Go.Proofs.YtbeigoejdiilmaaGreat
set_option linter.unusedSimpArgs false
set_option linter.unusedVariables false
open Go Go.RowKit Go.ChangeShapes Go.WideShapes Go.ChangeAt
set_option maxRecDepth 100000

theorem own_ : ownKnob Tryz.prog.godebug = none := by kernel_rfl
theorem laid_ : laidOutB Tryz.prog = true := by kernel_rfl
theorem hgs (W : World) : GlobsIn W := fun g h => by simp [globs] at h
theorem readTree : Tryz.prog.readableRec 24 = true ∧ 24 < Tryz.prog.types.size := ⟨by kernel_rfl, by decide +kernel⟩
theorem readStr : Tryz.prog.readableRec 9 = true ∧ 9 < Tryz.prog.types.size := ⟨by kernel_rfl, by decide +kernel⟩
theorem readTS : ∀ t, t ∈ [24, 9] → Tryz.prog.readableRec t = true ∧ t < Tryz.prog.types.size := by
  intro t ht
  simp at ht
  rcases ht with rfl | rfl
  · exact readTree
  · exact readStr
noncomputable def TL1 : List (Entry Tryz.prog) := [e8, e7, e10, e11, e9]
theorem tell_contract (H : Type) (enc : TypeId × Value → H) (W : World) (base : Nat) (args : Array Value) (ds gs : List (DataW H)) (before : List MemPlace)
    (hval : ∀ (j : Nat) t v, Tryz.f3.params[j]? = some t → args[j]? = some v → Value.okWide Tryz.prog W .any base t v)
    (hW : DataW.Whole enc Tryz.prog Tryz.f3.params.toList Rows.docsTellSpec.vars false W args.toList ds gs before) :
    Calls Tryz.prog 3 args W fun e W' => ∃ v, e = .returned v ∧ Rows.docsTellSpec.post enc Tryz.prog Tryz.f3 false true false false W args v W' := by
  have hg := hgs W
  have hW' := hW
  obtain ⟨p, q, hA0, hV, rfl, hfz, hnd⟩ := hW
  have hA : DataW.TrodAll enc Tryz.prog W 0 (fun _ => true) true Tryz.f3.params.toList args.toList ds p := hA0
  rw [Tryz.params3] at hA hval
  obtain ⟨v0, vs0, d0, ds0, p0, q0, hargs, rfl, rfl, h0, r0⟩ := trodAll_cons hA
  obtain ⟨v1, vs1, d1, ds1, p1, q1, rfl, rfl, rfl, h1, r1⟩ := trodAll_cons r0
  obtain ⟨rfl, rfl, rfl⟩ := trodAll_nil r1
  obtain rfl : args = #[v0, v1] := by cases args; simp_all
  obtain ⟨rfl, rfl⟩ := trodVars_none hV
  obtain ⟨t, ht⟩ := argTree (hg := hg) h0 (hval 0 24 v0 rfl rfl)
  obtain ⟨s, rfl, rfl, rfl, _⟩ := Go.ChangeMaps.open_string Tryz.underlying9 (hval 1 9 v1 rfl rfl) h1
  refine (law_calls (hg := hg) (C := ctx TL1) Tryz.func3 rfl rfl (c3 rfl rfl rfl rfl rfl t s.data.toList) (.cons ht (.cons (vr_str s) .nil))).mono fun e W' ⟨he, hg⟩ => ⟨_, he, ?_⟩
  exact law_post (tb := 4) laid_ (by rw [Tryz.params3]; exact readTS) Tryz.underlying4 rfl rfl ⟨rfl, rfl, rfl⟩ hW' hg
theorem tell_lifted (os : Os) (started : os.Started) (H : Type) (enc : TypeId × Value → H) :
    ReturnsInHanded {} Tryz.checked os 3 .any (Rows.docsTellSpec.pre6 enc Tryz.prog Tryz.f3 Rows.docsTellRow.domain false) (Rows.docsTellSpec.post enc Tryz.prog Tryz.f3 false true false false) := by
  refine returnsInHanded_of_change (C := Tryz.checked) own_ started (by kernel_rfl) Tryz.func3
    (ChangeSpec.witness6 (enc := enc) (C := Tryz.checked) false ⟨#[], #[.agg #[.slice none 0 0], .string ByteArray.empty], []⟩ 8 (by kernel_rfl) (by kernel_rfl) (by kernel_rfl) (by kernel_rfl)) ?_
  intro W base args ds gs before hval hW _ _
  exact tell_contract H enc W base args ds gs before hval hW
theorem tell_holds : Rows.DocsTellSaid :=
  OpenClaim.holds_of_wide 3 Tryz.f3 rfl rfl rfl rfl rfl rfl rfl ⟨rfl, rfl, rfl, rfl, rfl⟩ rfl rfl rfl rfl rfl (by kernel_rfl) Tryz.func3 (by kernel_rfl)
    (of_decide_eq_true (by kernel_rfl)) (by unfold Func.isWrapper; first | (rw [if_pos (by decide +kernel)]; kernel_rfl) | (rw [if_neg (by decide +kernel)]; exact ⟨rfl, rfl⟩))
    (fun os started H enc _ => tell_lifted os started H enc)
end Go.Proofs.YtbeigoejdiilmaaGreat
