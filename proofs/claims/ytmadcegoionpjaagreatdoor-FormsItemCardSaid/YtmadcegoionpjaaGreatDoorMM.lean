/- FormsItem holds: an item is at most one, and one of the list. No condition. -/
import Derived.Test.YtmadcegoionpjaaGreatDoorMI
import Derived.Test.YtmadcegoionpjaaGreatDoorMK
import Derived.Test.YtmadcegoionpjaaGreatDoorMG
import Derived.Test.YtmadcegoionpjaaGreatDoorML
namespace Go.Proofs.YtmadcegoionpjaaGreatDoor
set_option linter.unusedSimpArgs false
set_option linter.unusedVariables false
open Go Go.RowKit
set_option maxRecDepth 100000

theorem c3 {T : List (Entry Tryz.prog)} (hA : findE 9 T = some e9.g) (hP : findE 7 T = some e7.g) (hN : findE 8 T = some e8.g) (h1 : findE 10 T = some e10.g) (h2 : findE 11 T = some e11.g) (t : Tr) (l : List Int) (x : Str) :
    CallAt (ctx T) 3 [aTree t, aInts l, .str x] ⟨0, []⟩ (.bool true) ⟨0, []⟩ := by
  have ka := fun H => k9 hA H
  have kp := fun H => k7 hP t (m := 30) (by omega) H
  have kn := fun H => k8 hN l H
  simp only [aTree] at kp
  cases hf : fewTr t 30 with
  | false =>
    rw [hf] at kp
    refine callAt_body (fn := Tryz.f3) (s0 := ⟨[0, 1, 2, 3, 6, 7], [aTree t, aInts l, .str x, .undef, .undef, .undef], [], 44, ⟨0, [[]]⟩⟩) Tryz.func3 rfl rfl rfl ?_
    (repeat (first
      | (refine wps_seq ?_)
      | (refine wps_block ?_)
      | (refine wps_label ?_; simp only [thenQ, blockQ])
      | ((refine wps_region callOK ?_); simp [ofV, ofV1, mkC_P, writeVar, writeCells, readCells, allSingle, AV.single, getFs, getF, setFs, setF, Heap.get, Heap.set, Heap.new, Heap.kill, killF, pushF, Heap.ready, refs, sliceParts, fillA, replL, aTree, kp, ka])
      | (refine wps_cond (t := true) rfl (fun _ => ?_) (fun h => by cases h))
      | (refine wps_cond (t := false) rfl (fun h => by cases h) (fun _ => ?_))
      | ((refine wps_skip ?_); simp only [thenQ, blockQ])
      | ((refine wps_exit ?_); simp [thenQ, blockQ])))
    repeat refine wps_seq ?_
    refine wps_ret ?_
    simp [retVal, Tryz.f3, oneOr, thenQ, blockQ]
    exact ends_pure rfl (by rfl)
  | true =>
    rw [hf] at kp
    by_cases hl : (l.length : Int) ≤ 40
    · by_cases hx : (100 : Int) < (x.length : Int)
      · refine callAt_body (fn := Tryz.f3) (s0 := ⟨[0, 1, 2, 3, 6, 7], [aTree t, aInts l, .str x, .undef, .undef, .undef], [], 44, ⟨0, [[]]⟩⟩) Tryz.func3 rfl rfl rfl ?_
        (repeat (first
          | (refine wps_seq ?_)
          | (refine wps_block ?_)
          | (refine wps_label ?_; simp only [thenQ, blockQ])
          | ((refine wps_region callOK ?_); simp [ofV, ofV1, mkC_P, writeVar, writeCells, readCells, allSingle, AV.single, getFs, getF, setFs, setF, Heap.get, Heap.set, Heap.new, Heap.kill, killF, pushF, Heap.ready, refs, sliceParts, fillA, replL, aTree, kp, kn, ka, hx, hl])
          | (refine wps_cond (t := true) rfl (fun _ => ?_) (fun h => by cases h))
          | (refine wps_cond (t := false) rfl (fun h => by cases h) (fun _ => ?_))
          | ((refine wps_skip ?_); simp only [thenQ, blockQ])
          | ((refine wps_exit ?_); simp [thenQ, blockQ])))
        repeat refine wps_seq ?_
        refine wps_ret ?_
        simp [retVal, Tryz.f3, oneOr, thenQ, blockQ]
        exact ends_pure rfl (by rfl)
      · have hs := few_small (by omega) hf
        have ki := fun H => k10 h1 hs.2 (l := l) (by omega) (x := x) (by omega) H
        simp only [aTree] at ki
        rcases item_or t l x with h0 | ⟨y, hy, h0⟩
        · rw [h0] at ki
          have l0 := fun H => lenI (H := H) (L := [])
          refine callAt_body (fn := Tryz.f3) (s0 := ⟨[0, 1, 2, 3, 6, 7], [aTree t, aInts l, .str x, .undef, .undef, .undef], [], 44, ⟨0, [[]]⟩⟩) Tryz.func3 rfl rfl rfl ?_
          (repeat (first
            | (refine wps_seq ?_)
            | (refine wps_block ?_)
            | (refine wps_label ?_; simp only [thenQ, blockQ])
            | ((refine wps_region callOK ?_); simp [ofV, ofV1, mkC_P, writeVar, writeCells, readCells, allSingle, AV.single, getFs, getF, setFs, setF, Heap.get, Heap.set, Heap.new, Heap.kill, killF, pushF, Heap.ready, refs, sliceParts, fillA, replL, aTree, kp, kn, ka, hx, hl, ki, l0])
            | (refine wps_cond (t := true) rfl (fun _ => ?_) (fun h => by cases h))
            | (refine wps_cond (t := false) rfl (fun h => by cases h) (fun _ => ?_))
            | ((refine wps_skip ?_); simp only [thenQ, blockQ])
            | ((refine wps_exit ?_); simp [thenQ, blockQ])))
          repeat refine wps_seq ?_
          refine wps_ret ?_
          simp [retVal, Tryz.f3, oneOr, thenQ, blockQ]
          exact ends_pure rfl (by rfl)
        · rw [h0] at ki
          have kc := fun H => k11 h2 (L := l) y (by omega) H
          rw [decide_eq_true hy] at kc
          have l0 := fun H => lenI (H := H) (L := [y])
          have a0 : indexAddrA Tryz.prog 25 (aInts [y]) (.int .i64 0) = some (.fptr [.int .i64 y] 0) := by simpa using atI (L := [y]) (i := 0) (by simp)
          refine callAt_body (fn := Tryz.f3) (s0 := ⟨[0, 1, 2, 3, 6, 7], [aTree t, aInts l, .str x, .undef, .undef, .undef], [], 44, ⟨0, [[]]⟩⟩) Tryz.func3 rfl rfl rfl ?_
          (repeat (first
            | (refine wps_seq ?_)
            | (refine wps_block ?_)
            | (refine wps_label ?_; simp only [thenQ, blockQ])
            | ((refine wps_region callOK ?_); simp [ofV, ofV1, mkC_P, writeVar, writeCells, readCells, allSingle, AV.single, getFs, getF, setFs, setF, Heap.get, Heap.set, Heap.new, Heap.kill, killF, pushF, Heap.ready, refs, sliceParts, fillA, replL, aTree, kp, kn, ka, hx, hl, ki, kc, l0, a0])
            | (refine wps_cond (t := true) rfl (fun _ => ?_) (fun h => by cases h))
            | (refine wps_cond (t := false) rfl (fun h => by cases h) (fun _ => ?_))
            | ((refine wps_skip ?_); simp only [thenQ, blockQ])
            | ((refine wps_exit ?_); simp [thenQ, blockQ])))
          repeat refine wps_seq ?_
          refine wps_ret ?_
          simp [retVal, Tryz.f3, oneOr, thenQ, blockQ]
          exact ends_pure rfl (by rfl)
    · refine callAt_body (fn := Tryz.f3) (s0 := ⟨[0, 1, 2, 3, 6, 7], [aTree t, aInts l, .str x, .undef, .undef, .undef], [], 44, ⟨0, [[]]⟩⟩) Tryz.func3 rfl rfl rfl ?_
      (repeat (first
        | (refine wps_seq ?_)
        | (refine wps_block ?_)
        | (refine wps_label ?_; simp only [thenQ, blockQ])
        | ((refine wps_region callOK ?_); simp [ofV, ofV1, mkC_P, writeVar, writeCells, readCells, allSingle, AV.single, getFs, getF, setFs, setF, Heap.get, Heap.set, Heap.new, Heap.kill, killF, pushF, Heap.ready, refs, sliceParts, fillA, replL, aTree, kp, kn, ka, hl])
        | (refine wps_cond (t := true) rfl (fun _ => ?_) (fun h => by cases h))
        | (refine wps_cond (t := false) rfl (fun h => by cases h) (fun _ => ?_))
        | ((refine wps_skip ?_); simp only [thenQ, blockQ])
        | ((refine wps_exit ?_); simp [thenQ, blockQ])))
      repeat refine wps_seq ?_
      refine wps_ret ?_
      simp [retVal, Tryz.f3, oneOr, thenQ, blockQ]
      exact ends_pure rfl (by rfl)
end Go.Proofs.YtmadcegoionpjaaGreatDoor
namespace Go.Proofs.YtmadcegoionpjaaGreatDoor
set_option linter.unusedSimpArgs false
set_option linter.unusedVariables false
open Go Go.RowKit Go.ChangeShapes Go.WideShapes Go.ChangeAt
set_option maxRecDepth 100000

noncomputable def TL_fitem : List (Entry Tryz.prog) := [e9, e7, e8, e10, e11]
theorem read_fitem : ∀ t, t ∈ [24, 25, 9] → Tryz.prog.readableRec t = true ∧ t < Tryz.prog.types.size := by
  intro t ht
  simp at ht
  rcases ht with rfl | rfl | rfl
  · exact ⟨by kernel_rfl, by decide +kernel⟩
  · exact ⟨by kernel_rfl, by decide +kernel⟩
  · exact ⟨by kernel_rfl, by decide +kernel⟩
theorem fitem_contract (H : Type) (enc : TypeId × Value → H) (W : World) (base : Nat) (args : Array Value) (ds gs : List (DataW H)) (before : List MemPlace)
    (hval : ∀ (j : Nat) t v, Tryz.f3.params[j]? = some t → args[j]? = some v → Value.okWide Tryz.prog W .any base t v)
    (hW : DataW.Whole enc Tryz.prog Tryz.f3.params.toList Rows.formsItemSpec.vars false W args.toList ds gs before) (hsh : W.ShapedOpen Tryz.prog) (hL : laidMetH Tryz.prog laid5 W) :
    Calls Tryz.prog 3 args W fun e W' => ∃ v, e = .returned v ∧ Rows.formsItemSpec.post enc Tryz.prog Tryz.f3 false true false false W args v W' := by
  have hg := hgs hsh hL
  have hW' := hW
  obtain ⟨p, q, hA0, hV, rfl, hfz, hnd⟩ := hW
  have hA : DataW.TrodAll enc Tryz.prog W 0 (fun _ => true) true Tryz.f3.params.toList args.toList ds p := hA0
  rw [Tryz.params3] at hA hval
  obtain ⟨v0, vs0, d0, ds0, p0, q0, hargs, rfl, rfl, h0, r0⟩ := trodAll_cons hA
  obtain ⟨v1, vs1, d1, ds1, p1, q1, rfl, rfl, rfl, h1, r1⟩ := trodAll_cons r0
  obtain ⟨v2, vs2, d2, ds2, p2, q2, rfl, rfl, rfl, h2, r2⟩ := trodAll_cons r1
  obtain ⟨rfl, rfl, rfl⟩ := trodAll_nil r2
  obtain rfl : args = #[v0, v1, v2] := by cases args; simp_all
  obtain ⟨rfl, rfl⟩ := trodVars_none hV
  obtain ⟨t, ht⟩ := argTree (hg := hg) h0 (hval 0 24 v0 rfl rfl)
  obtain ⟨l, hl⟩ := argInts (hg := hg) h1 (hval 1 25 v1 rfl rfl)
  obtain ⟨x, rfl, rfl, rfl, _⟩ := Go.ChangeMaps.open_string Tryz.underlying9 (hval 2 9 v2 rfl rfl) h2
  refine (law_calls (hg := hg) (C := ctx TL_fitem) Tryz.func3 rfl rfl (c3 rfl rfl rfl rfl rfl t l x.data.toList) (.cons ht (.cons hl (.cons (vr_str x) .nil)))).mono fun e W' ⟨he, hg⟩ => ⟨_, he, ?_⟩
  exact law_post (tb := 4) laid_ (by rw [Tryz.params3]; exact read_fitem) Tryz.underlying4 rfl rfl ⟨rfl, rfl, rfl⟩ hW' hg
theorem fitem_lifted (os : Os) (started : os.Started) (H : Type) (enc : TypeId × Value → H) :
    ReturnsInHanded {} Tryz.checked os 3 .any (fun w args => (Rows.formsItemSpec.pre enc Tryz.prog Tryz.f3 [] false w args ∧ laidMetH Tryz.prog laid5 w) ∧ sizedMet enc Tryz.prog Tryz.f3 (OpenSpec.ofChange Rows.formsItemSpec) false w args) (Rows.formsItemSpec.post enc Tryz.prog Tryz.f3 false true false false) := by
  refine returns_and_shaped (C := Tryz.checked) (X := fun w _ => laidMetH Tryz.prog laid5 w) (fun _ _ _ hh h => h.of_heap hh) own_ started (by kernel_rfl) Tryz.func3
    (ChangeSpec.witness_shaped (enc := enc) (C := Tryz.checked) (os := os) (X := fun w _ => laidMetH Tryz.prog laid5 w) false (World.doorLaid Tryz.prog 4000 os) #[.agg #[.slice none 0 0], .slice none 0 0, .string ByteArray.empty] 8 rfl (door_shaped os _) (by kernel_rfl) (by kernel_rfl) (by kernel_rfl) (door_met os _)) ?_
  intro W base args ds gs before hval hW hsh hL
  exact fitem_contract H enc W base args ds gs before hval hW hsh hL
theorem fitem_row : Rows.FormsItemSaid :=
  OpenClaim.holds_of_wide 3 Tryz.f3 rfl rfl rfl rfl rfl rfl rfl ⟨rfl, rfl, rfl, rfl, rfl⟩ rfl rfl rfl rfl rfl (by kernel_rfl) Tryz.func3 (by kernel_rfl)
    (of_decide_eq_true (by kernel_rfl)) (by unfold Func.isWrapper; first | (rw [if_pos (by decide +kernel)]; kernel_rfl) | (rw [if_neg (by decide +kernel)]; exact ⟨rfl, rfl⟩))
    (fun os started H enc _ => fitem_lifted os started H enc)
theorem fitem_holds : Rows.FormsItemCardSaid :=
  Claim7.holds_tied_plain_at .later [] [.data, .data, .data, .sentinel, .sentinel] true Rows.formsItemCard.stood.harness true
    fitem_row (fun _ h => by cases h) (by kernel_rfl) (fun _ h => by cases h) formsItem_row_tie rfl ⟨rfl, rfl⟩ (by kernel_rfl) rfl
    (fun f fn hf hfn => by
      obtain rfl : f = 3 := Option.some.inj ((show Tryz.prog.funcNamed "hoarding/hoardinglaw43.FormsItem" = some 3 by kernel_rfl).symm.trans hf) |>.symm
      obtain rfl : fn = Tryz.f3 := (Option.some.inj (Tryz.func3.symm.trans hfn)).symm
      exact ⟨by kernel_rfl, fun j t ht => by
        rw [Tryz.params3] at ht
        have hm : t ∈ [24, 25, 9] := by simpa using Array.mem_of_getElem? ht
        have hall : ([24, 25, 9].all fun u => !Tryz.prog.wantsStandIn u) = true := by kernel_rfl
        exact (show Tryz.prog.wantsStandIn t = false by simpa using List.all_eq_true.1 hall t hm)⟩)
    (by kernel_rfl)
end Go.Proofs.YtmadcegoionpjaaGreatDoor
