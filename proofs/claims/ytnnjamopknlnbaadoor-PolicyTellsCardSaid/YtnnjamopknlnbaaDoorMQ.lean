/- The frame of PolicyTells. No condition. -/
import Derived.Test.YtnnjamopknlnbaaDoorRows
import Derived.Test.YtnnjamopknlnbaaDoorTie
import Derived.Test.YtnnjamopknlnbaaDoorCards
import Derived.Test.YtnnjamopknlnbaaDoorMP
import Derived.Test.YtnnjamopknlnbaaDoorMF
import Derived.HandedShaped
import Derived.Shelf.Vars
import Derived.ChangeMaps5
import Derived.LaidMore
import Derived.Stop.LaidErr
import Derived.SevenTiedAt
import Derived.Lib.LaidU8
namespace Go.Proofs.YtnnjamopknlnbaaDoor
set_option linter.unusedSimpArgs false
set_option linter.unusedVariables false
open Go Go.RowKit Go.ChangeShapes Go.WideShapes Go.ChangeAt
set_option maxRecDepth 100000
theorem own_ : ownKnob Tryd.prog.godebug = none := by kernel_rfl
theorem laid_ : laidOutB Tryd.prog = true := by kernel_rfl
abbrev laid5 : List (String × DataW Unit) := [("unicode/utf8.acceptRanges", Rows.laid_unicode_utf8_acceptRanges), ("unicode/utf8.first", Rows.laid_unicode_utf8_first)]
theorem first_data : (Rows.laid_unicode_utf8_first : DataW Unit) = Lib.tabData .u8 utfFirst := by kernel_rfl
theorem accept_data : (Rows.laid_unicode_utf8_acceptRanges : DataW Unit) = .agg ((List.range 16).map fun i => .agg ([utfAcc.getD (2 * i) 0, utfAcc.getD (2 * i + 1) 0].map fun z => .lit (.int .u8 z))) := by kernel_rfl
theorem acc_len : utfAcc.length = 32 := by decide +kernel
theorem gFirst : Tryd.prog.globalNamed "unicode/utf8.first" = some (0) := by kernel_rfl
theorem gAcc : Tryd.prog.globalNamed "unicode/utf8.acceptRanges" = some (1) := by kernel_rfl
theorem tFirst : (Tryd.prog.globals[0]?).map (·.type) = some 59 := by kernel_rfl
theorem tAcc : (Tryd.prog.globals[1]?).map (·.type) = some 62 := by kernel_rfl
theorem cells_u8 : Tryd.prog.cellsOf 5 = 1 := by kernel_rfl
theorem cells_256 : Tryd.prog.cellsOf 59 = 256 := by kernel_rfl
theorem cells_acc : Tryd.prog.cellsOf 61 = 2 := by kernel_rfl
theorem pins_met {W : World} (hL : laidMetH Tryd.prog laid5 W) : ∀ x, x ∈ pins → ∀ i n, x.2[i]? = some n → W.cell? ⟨x.1, i, none⟩ = some (.int .u8 n) := by
  rw [MakeChecks.laidMetH_plain _ _ _ (by kernel_rfl)] at hL
  have r1 := Lib.laidMet.reads hL (n := "unicode/utf8.first") (d := Rows.laid_unicode_utf8_first) (by simp)
  have r2 := Lib.laidMet.reads hL (n := "unicode/utf8.acceptRanges") (d := Rows.laid_unicode_utf8_acceptRanges) (by simp)
  rw [first_data] at r1
  rw [accept_data] at r2
  intro x hx i n hn
  simp only [pins, List.mem_cons, List.not_mem_nil, or_false] at hx
  rcases hx with rfl | rfl
  · obtain ⟨g, t, cs, fuel, p, hg, hty, hvar, hd⟩ := r1
    obtain rfl := Option.some.inj (gFirst.symm.trans hg)
    obtain rfl := Option.some.inj (tFirst.symm.trans hty)
    have hcs := Lib.cells_of_tab Tryd.underlying59 Tryd.underlying5 cells_u8 cells_256 hd
    rw [World.var?_cell hg hvar i, ← Array.getElem?_toList, hcs, List.getElem?_map, hn]
    rfl
  · obtain ⟨g, t, cs, fuel, p, hg, hty, hvar, hd⟩ := r2
    obtain rfl := Option.some.inj (gAcc.symm.trans hg)
    obtain rfl := Option.some.inj (tAcc.symm.trans hty)
    have hi : i < 32 := by
      have := (List.getElem?_eq_some_iff.1 hn).1
      rw [acc_len] at this; exact this
    obtain ⟨fuel', d, q, hdi, he⟩ := Lib.array_elem Tryd.underlying62 hd (i / 2) (by omega)
    simp only [List.getElem?_map, List.getElem?_range (show i / 2 < 16 by omega), Option.map_some, Option.some.injEq] at hdi
    subst hdi
    rw [cells_acc] at he
    have hcs := Lib.ints_of_struct Tryd.underlying61 (fun j f hj => by
      match j, hj with
      | 0, hj => simp at hj; subst hj; exact ⟨Tryd.underlying5, rfl, cells_u8⟩
      | 1, hj => simp at hj; subst hj; exact ⟨Tryd.underlying5, rfl, cells_u8⟩
      | j + 2, hj => simp at hj) (by rw [cells_acc]; rfl) he
    have hn' : utfAcc.getD i 0 = n := by simp [List.getD_eq_getElem?_getD, hn]
    rw [World.var?_cell hg hvar i, ← Array.getElem?_toList]
    rcases Nat.mod_two_eq_zero_or_one i with h2 | h2
    · have e0 := congrArg (·[0]?) hcs
      simp only [List.getElem?_take, List.getElem?_drop] at e0
      have hidx : i / 2 * 2 + 0 = i := by omega
      have hidx2 : 2 * (i / 2) = i := by omega
      rw [hidx] at e0
      simpa [hidx2, hn', ← List.getD_eq_getElem?_getD] using e0
    · have e1 := congrArg (·[1]?) hcs
      simp only [List.getElem?_take, List.getElem?_drop] at e1
      have hidx : i / 2 * 2 + 1 = i := by omega
      have hidx2 : 2 * (i / 2) + 1 = i := by omega
      rw [hidx] at e1
      simpa [hidx2, hn', ← List.getD_eq_getElem?_getD] using e1
theorem hgs {W : World} (hsh : W.ShapedOpen Tryd.prog) (hL : laidMetH Tryd.prog laid5 W) : GlobsIn W where
  gl := by
    intro g h
    simp [globs] at h
    subst h
    exact cell_of_shapedOpen_int (P := Tryd.prog) (g := 2) (t := 3) (zero := #[.int .i64 0]) hsh (of_decide_eq_true (by kernel_rfl)) (by kernel_rfl) rfl (by kernel_rfl) (by kernel_rfl) Tryd.underlying3
  gi := by
    intro g h
    simp [ivars] at h
  gp := pins_met hL
noncomputable def doorW (os : Os) : World :=
  let w0 := World.doorLaid Tryd.prog 4000 os
  { w0 with heap := w0.heap.modify 0 fun
    | .cells _ t frozen => .cells (Lib.firstTab.map fun z => Value.int .u8 z).toArray t frozen
    | o => o }
theorem door_met (os : Os) (args : Array Value) : laidMetH Tryd.prog laid5 ((doorW os).forCall (fun _ _ => 0) ⟨#[], args, []⟩).memory :=
  laidMetH_of_parts3 (fuel := 8) (laidMet_of_run' 8 (by kernel_rfl) (by kernel_rfl)) (by kernel_rfl) (by kernel_rfl)
theorem door_shaped (os : Os) (args : Array Value) : ((doorW os).forCall (fun _ _ => 0) ⟨#[], args, []⟩).Shaped Tryd.prog := World.shaped_of_RefB (by kernel_rfl) (by kernel_rfl)
theorem returns_and_shaped {H : Type} {enc : TypeId × Value → H} {a : Assume} {C : Checked} {os : Os} {f : FuncId} {fn : Func} {s : ChangeSpec} {conds : List PathCond} {apart fresh handsOn again : Bool} {X : World → Array Value → Prop}
    (hX : ∀ (w w' : World) (args : Array Value), w.heap = w'.heap → X w args → X w' args)
    (own : ownKnob C.prog.godebug = none) (started : os.Started) (noInit : C.prog.inits.idxOf? f = none) (hfn : C.prog.funcs[f]? = some fn)
    (witness : ∃ (w : World) (tape : Tape) (i : Input), w.os = os ∧ (w.forCall tape i).Shaped C.prog ∧ i.vars = [] ∧ Input.okWide C.prog (w.forCall tape i) .any w.heap.size f i ∧
      ((s.pre enc C.prog fn conds apart (w.forCall tape i).memory i.args ∧ X (w.forCall tape i).memory i.args) ∧ sizedMet enc C.prog fn (OpenSpec.ofChange s) apart (w.forCall tape i).memory i.args) ∧ a.holds C.prog (lone (Frame.enter C.prog f i.args .normal) [] (w.forCall tape i)))
    (contract : ∀ (W : World) (base : Nat) (args : Array Value) (ds gs : List (DataW H)) (before : List MemPlace),
      (∀ (j : Nat) t v, fn.params[j]? = some t → args[j]? = some v → Value.okWide C.prog W .any base t v) →
      DataW.Whole enc C.prog fn.params.toList s.vars apart W args.toList ds gs before → W.ShapedOpen C.prog → X W args →
      Calls C.prog f args W fun e W' => ∃ v, e = .returned v ∧ s.post enc C.prog fn apart fresh handsOn again W args v W') :
    ReturnsInHanded a C os f .any (fun w args => (s.pre enc C.prog fn conds apart w args ∧ X w args) ∧ sizedMet enc C.prog fn (OpenSpec.ofChange s) apart w args) (s.post enc C.prog fn apart fresh handsOn again) := by
  refine returnsInHanded_of_calls own started noInit witness ?_
  intro w tape i _ hsh _ hok hpre hholds
  obtain ⟨_, _, _, fn', hfn', _, _, _, _, hval⟩ := hok
  have e : fn' = fn := Option.some.inj (hfn'.symm.trans hfn)
  subst e
  obtain ⟨⟨⟨ds, gs, before, hw, hc⟩, hx⟩, hz⟩ := hpre
  have hw' := DataW.Whole.of_heap (w' := w.forCall tape i) (by rfl) hw
  refine (contract (w.forCall tape i) w.heap.size i.args ds gs before hval hw' hsh (hX _ _ _ (by rfl) hx)).mono fun e W' ⟨v, he, hp⟩ => ?_
  subst he
  exact ChangeSpec.post_blind hp
section
variable {W : World} {hg : GlobsIn W}
theorem vr_str (s : ByteArray) : VR (start W hg) (.str s.data.toList) (.string s) := by
  have := VR.str (ρ := start W hg) s.data.toList
  rwa [Array.toArray_toList] at this
end
theorem shp_slice {α : Type} {n : Nat} {t e : TypeId} {enc : α → AV} {ag : Bool} (hu : Tryd.prog.underlying t = some (.slice e)) (hag : aggT Tryd.prog e = some ag) (h : ∀ cs x, ShapeT Tryd.prog n e cs → wrapA ag cs = some x → ∃ a, x = enc a) {qs : List AV} (hs : ShapeT Tryd.prog (n + 1) t qs) :
    ∃ L : List α, qs = [.fslc (Tryd.prog.cellsOf e) (L.map enc)] := by
  unfold ShapeT at hs
  simp only [hu] at hs
  obtain ⟨es, rfl, _, hes⟩ := hs
  have key : ∀ l : List AV, (∀ x, x ∈ l → ∃ ag cs, aggT Tryd.prog e = some ag ∧ wrapA ag cs = some x ∧ ShapeT Tryd.prog n e cs) → ∃ L : List α, l = L.map enc := by
    intro l
    induction l with
    | nil => intro _; exact ⟨[], rfl⟩
    | cons x r ih =>
      intro hx
      obtain ⟨ag', cs, h1, h2, h3⟩ := hx x (by simp)
      rw [hag, Option.some.injEq] at h1
      subst h1
      obtain ⟨a, ha⟩ := h cs x h3 h2
      obtain ⟨L, hL⟩ := ih fun y hy => hx y (by simp [hy])
      exact ⟨a :: L, by rw [ha, hL]; rfl⟩
  obtain ⟨L, rfl⟩ := key es hes
  exact ⟨L, rfl⟩
theorem shp_str {n : Nat} {qs : List AV} (h : ShapeT Tryd.prog (n + 1) 9 qs) : ∃ s : Str, qs = [.str s] := by
  unfold ShapeT at h
  simp only [Tryd.underlying9] at h
  obtain ⟨s, rfl, _⟩ := h
  exact ⟨s, rfl⟩
theorem shp_int {n : Nat} {qs : List AV} (h : ShapeT Tryd.prog (n + 1) 3 qs) : ∃ i : Int, qs = [.int .i64 i] := by
  unfold ShapeT at h
  simp only [Tryd.underlying3] at h
  obtain ⟨s, rfl, _⟩ := h
  exact ⟨s, rfl⟩
theorem shp_bool {n : Nat} {qs : List AV} (h : ShapeT Tryd.prog (n + 1) 4 qs) : ∃ b : Bool, qs = [.bool b] := by
  unfold ShapeT at h
  simp only [Tryd.underlying4] at h
  exact h
theorem cells_strP : Tryd.prog.cellsOf 9 = 1 := by kernel_rfl
theorem shp_strs {n : Nat} {qs : List AV} (h : ShapeT Tryd.prog (n + 2) 22 qs) : ∃ L : List Str, qs = [aStrs L] := by
  obtain ⟨L, rfl⟩ := shp_slice (n := n + 1) (enc := AV.str) (ag := false) Tryd.underlying22 agT9 (fun cs x h hw => by
    obtain ⟨a, rfl⟩ := shp_str h
    simp only [wrapA, AV.single, Option.some.injEq] at hw
    exact ⟨a, hw.symm⟩) h
  exact ⟨L, by rw [cells_strP]⟩
theorem shp_policy {n : Nat} {qs : List AV} (h : ShapeT Tryd.prog (n + 3) 24 qs) : ∃ p : PolR, AV.agg qs = polA p := by
  unfold ShapeT at h
  simp only [Tryd.underlying24] at h
  obtain _ | ⟨_, _, _, _, h1, h⟩ := h
  obtain _ | ⟨_, _, _, _, h2, h⟩ := h
  obtain _ | ⟨_, _, _, _, h3, h⟩ := h
  obtain _ | ⟨_, _, _, _, h4, h⟩ := h
  obtain _ | ⟨_, _, _, _, h5, h⟩ := h
  obtain _ | ⟨_, _, _, _, h6, h⟩ := h
  obtain _ | ⟨_, _, _, _, h7, h⟩ := h
  obtain _ | ⟨_, _, _, _, h8, h⟩ := h
  obtain _ | ⟨_, _, _, _, h9, h⟩ := h
  obtain _ | ⟨_, _, _, _, h10, h⟩ := h
  obtain _ | ⟨_, _, _, _, h11, h⟩ := h
  cases h
  obtain ⟨x1, rfl⟩ := shp_str h1
  obtain ⟨x2, rfl⟩ := shp_strs (n := n) h2
  obtain ⟨x3, rfl⟩ := shp_strs (n := n) h3
  obtain ⟨x4, rfl⟩ := shp_strs (n := n) h4
  obtain ⟨x5, rfl⟩ := shp_strs (n := n) h5
  obtain ⟨x6, rfl⟩ := shp_int h6
  obtain ⟨x7, rfl⟩ := shp_int h7
  obtain ⟨x8, rfl⟩ := shp_int h8
  obtain ⟨x9, rfl⟩ := shp_int h9
  obtain ⟨x10, rfl⟩ := shp_int h10
  obtain ⟨x11, rfl⟩ := shp_bool h11
  exact ⟨⟨x1, x2, x3, x4, x5, x6, x7, x8, x9, x10, x11⟩, rfl⟩
theorem okPolicy : okTy Tryd.prog 5 24 = true := by kernel_rfl
section
variable {H : Type} {enc : TypeId × Value → H} {W : World} {hg : GlobsIn W}
theorem argPolicy {b0 base : Nat} {sp : Nat → Bool} {held : Bool} {v : Value} {d : DataW H} {ps : List MemPlace} (ht : DataW.Trod enc Tryd.prog W base sp held 24 v d ps) (hv : Value.okWide Tryd.prog W .any b0 24 v) : ∃ p, VR (start W hg) (polA p) v := by
  obtain ⟨qs, a, h1, h2, h3⟩ := arg_shape (hg := hg) okPolicy (ag := true) agT24 (fun h => by cases h) ht hv
  obtain ⟨x, hx⟩ := shp_policy (n := 2) h1
  have : a = polA x := by
    simp only [wrapA, Option.some.injEq] at h2
    rw [← h2, hx]
  exact ⟨x, this ▸ h3⟩
end
noncomputable def TL_ptells : List (Entry Tryd.prog) := [e5, e4, e6, e7, e8, e9, e10, e11, e12, e13, e15, e16, e14]
theorem read_ptells : ∀ t, t ∈ [24, 3, 9] → Tryd.prog.readableRec t = true ∧ t < Tryd.prog.types.size := by
  intro t ht
  simp at ht
  rcases ht with rfl | rfl | rfl
  · exact ⟨by kernel_rfl, by decide +kernel⟩
  · exact ⟨by kernel_rfl, by decide +kernel⟩
  · exact ⟨by kernel_rfl, by decide +kernel⟩
theorem ptells_contract (H : Type) (enc : TypeId × Value → H) (W : World) (base : Nat) (args : Array Value) (ds gs : List (DataW H)) (before : List MemPlace)
    (hval : ∀ (j : Nat) t v, Tryd.f3.params[j]? = some t → args[j]? = some v → Value.okWide Tryd.prog W .any base t v)
    (hW : DataW.Whole enc Tryd.prog Tryd.f3.params.toList Rows.policyTellsSpec.vars false W args.toList ds gs before) (hsh : W.ShapedOpen Tryd.prog) (hL : laidMetH Tryd.prog laid5 W) :
    Calls Tryd.prog 3 args W fun e W' => ∃ v, e = .returned v ∧ Rows.policyTellsSpec.post enc Tryd.prog Tryd.f3 false true false false W args v W' := by
  have hg := hgs hsh hL
  have hW' := hW
  obtain ⟨p, q, hA0, hV, rfl, hfz, hnd⟩ := hW
  have hA : DataW.TrodAll enc Tryd.prog W 0 (fun _ => true) true Tryd.f3.params.toList args.toList ds p := hA0
  rw [Tryd.params3] at hA hval
  obtain ⟨v0, vs0, d0, ds0, p0, q0, hargs, rfl, rfl, h0, r0⟩ := trodAll_cons hA
  obtain ⟨v1, vs1, d1, ds1, p1, q1, rfl, rfl, rfl, h1, r1⟩ := trodAll_cons r0
  obtain ⟨v2, vs2, d2, ds2, p2, q2, rfl, rfl, rfl, h2, r2⟩ := trodAll_cons r1
  obtain ⟨rfl, rfl, rfl⟩ := trodAll_nil r2
  obtain rfl : args = #[v0, v1, v2] := by cases args; simp_all
  obtain ⟨rfl, rfl⟩ := trodVars_none hV
  obtain ⟨p, hp⟩ := argPolicy (hg := hg) h0 (hval 0 24 v0 rfl rfl)
  obtain ⟨space, rfl, rfl, rfl, _⟩ := open_int Tryd.underlying3 (hval 1 3 v1 rfl rfl) h1
  obtain ⟨name, rfl, rfl, rfl, _⟩ := Go.ChangeMaps.open_string Tryd.underlying9 (hval 2 9 v2 rfl rfl) h2
  refine (law_calls (hg := hg) (C := ctx TL_ptells) Tryd.func3 rfl rfl (c3 rfl rfl rfl rfl rfl rfl rfl rfl rfl rfl rfl rfl rfl p space name.data.toList) (.cons hp (.cons (.int _ _) (.cons (vr_str name) .nil)))).mono fun e W' ⟨he, hg⟩ => ⟨_, he, ?_⟩
  exact law_post (tb := 4) laid_ (by rw [Tryd.params3]; exact read_ptells) Tryd.underlying4 rfl rfl ⟨rfl, rfl, rfl⟩ hW' hg
theorem ptells_lifted (os : Os) (started : os.Started) (H : Type) (enc : TypeId × Value → H) :
    ReturnsInHanded {} Tryd.checked os 3 .any (fun w args => (Rows.policyTellsSpec.pre enc Tryd.prog Tryd.f3 [] false w args ∧ laidMetH Tryd.prog laid5 w) ∧ sizedMet enc Tryd.prog Tryd.f3 (OpenSpec.ofChange Rows.policyTellsSpec) false w args) (Rows.policyTellsSpec.post enc Tryd.prog Tryd.f3 false true false false) := by
  refine returns_and_shaped (C := Tryd.checked) (X := fun w _ => laidMetH Tryd.prog laid5 w) (fun _ _ _ hh h => h.of_heap hh) own_ started (by kernel_rfl) Tryd.func3
    (ChangeSpec.witness_shaped (enc := enc) (C := Tryd.checked) (os := os) (X := fun w _ => laidMetH Tryd.prog laid5 w) false (doorW os) #[.agg #[.string ByteArray.empty, .slice none 0 0, .slice none 0 0, .slice none 0 0, .slice none 0 0, .int .i64 0, .int .i64 0, .int .i64 0, .int .i64 0, .int .i64 0, .bool false], .int .i64 0, .string ByteArray.empty] 8 rfl (door_shaped os _) (by kernel_rfl) (by kernel_rfl) (by kernel_rfl) (door_met os _)) ?_
  intro W base args ds gs before hval hW hsh hL
  exact ptells_contract H enc W base args ds gs before hval hW hsh hL
theorem ptells_row : Rows.PolicyTellsSaid :=
  OpenClaim.holds_of_wide 3 Tryd.f3 rfl rfl rfl rfl rfl rfl rfl ⟨rfl, rfl, rfl, rfl, rfl⟩ rfl rfl rfl rfl rfl (by kernel_rfl) Tryd.func3 (by kernel_rfl)
    (of_decide_eq_true (by kernel_rfl)) (by unfold Func.isWrapper; first | (rw [if_pos (by decide +kernel)]; kernel_rfl) | (rw [if_neg (by decide +kernel)]; exact ⟨rfl, rfl⟩))
    (fun os started H enc _ => ptells_lifted os started H enc)
theorem ptells_holds : Rows.PolicyTellsCardSaid :=
  Claim7.holds_tied_plain_at .later [] [.data, .pinned] true Rows.policyTellsCard.stood.harness false
    ptells_row (fun _ h => by cases h) (by kernel_rfl) (fun _ h => by cases h) policyTells_row_tie rfl ⟨rfl, rfl⟩ (by kernel_rfl) rfl
    (fun f fn hf hfn => by
      obtain rfl : f = 3 := Option.some.inj ((show Tryd.prog.funcNamed "hoarding/hoardinglaw30.PolicyTells" = some 3 by kernel_rfl).symm.trans hf) |>.symm
      obtain rfl : fn = Tryd.f3 := (Option.some.inj (Tryd.func3.symm.trans hfn)).symm
      exact ⟨by kernel_rfl, fun j t ht => by
        rw [Tryd.params3] at ht
        have hm : t ∈ [24, 3, 9] := by simpa using Array.mem_of_getElem? ht
        have hall : ([24, 3, 9].all fun u => !Tryd.prog.wantsStandIn u) = true := by kernel_rfl
        exact (show Tryd.prog.wantsStandIn t = false by simpa using List.all_eq_true.1 hall t hm)⟩)
    (by kernel_rfl)
end Go.Proofs.YtnnjamopknlnbaaDoor
