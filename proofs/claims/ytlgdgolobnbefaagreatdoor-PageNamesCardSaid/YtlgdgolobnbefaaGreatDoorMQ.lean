/- The frame of PageNames. No condition. -/
import Derived.Test.YtlgdgolobnbefaaGreatDoorRows
import Derived.Test.YtlgdgolobnbefaaGreatDoorTie
import Derived.Test.YtlgdgolobnbefaaGreatDoorCards
import Derived.Test.YtlgdgolobnbefaaGreatDoorMP
import Derived.Test.YtlgdgolobnbefaaGreatDoorMF
import Derived.HandedShaped
import Derived.Shelf.Vars
import Derived.ChangeMaps5
import Derived.LaidMore
import Derived.Stop.LaidErr
import Derived.SevenTiedAt
import Derived.Lib.LaidU8
namespace Go.Proofs.YtlgdgolobnbefaaGreatDoor
set_option linter.unusedSimpArgs false
set_option linter.unusedVariables false
open Go Go.RowKit Go.ChangeShapes Go.WideShapes Go.ChangeAt
set_option maxRecDepth 100000
theorem own_ : ownKnob Tryz.prog.godebug = none := by kernel_rfl
theorem laid_ : laidOutB Tryz.prog = true := by kernel_rfl
abbrev laid5 : List (String × DataW Unit) := [("unicode/utf8.acceptRanges", Rows.laid_unicode_utf8_acceptRanges), ("unicode/utf8.first", Rows.laid_unicode_utf8_first)]
theorem first_data : (Rows.laid_unicode_utf8_first : DataW Unit) = Lib.tabData .u8 utfFirst := by kernel_rfl
theorem accept_data : (Rows.laid_unicode_utf8_acceptRanges : DataW Unit) = .agg ((List.range 16).map fun i => .agg ([utfAcc.getD (2 * i) 0, utfAcc.getD (2 * i + 1) 0].map fun z => .lit (.int .u8 z))) := by kernel_rfl
theorem acc_len : utfAcc.length = 32 := by decide +kernel
theorem gFirst : Tryz.prog.globalNamed "unicode/utf8.first" = some (1) := by kernel_rfl
theorem gAcc : Tryz.prog.globalNamed "unicode/utf8.acceptRanges" = some (2) := by kernel_rfl
theorem tFirst : (Tryz.prog.globals[1]?).map (·.type) = some 136 := by kernel_rfl
theorem tAcc : (Tryz.prog.globals[2]?).map (·.type) = some 139 := by kernel_rfl
theorem cells_u8 : Tryz.prog.cellsOf 5 = 1 := by kernel_rfl
theorem cells_256 : Tryz.prog.cellsOf 136 = 256 := by kernel_rfl
theorem cells_acc : Tryz.prog.cellsOf 138 = 2 := by kernel_rfl
theorem pins_met {W : World} (hL : laidMetH Tryz.prog laid5 W) : ∀ x, x ∈ pins → ∀ i n, x.2[i]? = some n → W.cell? ⟨x.1, i, none⟩ = some (.int .u8 n) := by
  rw [MakeChecks.laidMetH_plain _ _ _ (by kernel_rfl)] at hL
  have r1 := Lib.laidMet.reads hL (n := "unicode/utf8.first") (d := Rows.laid_unicode_utf8_first) (by simp)
  have r2 := Lib.laidMet.reads hL (n := "unicode/utf8.acceptRanges") (d := Rows.laid_unicode_utf8_acceptRanges) (by simp)
  rw [first_data] at r1
  rw [accept_data] at r2
  intro x hx i n hn
  simp only [pins, List.mem_cons, List.not_mem_nil, or_false] at hx
  rcases hx with rfl | rfl
  · obtain ⟨g, t, cs, fuel, p, hg, hty, hvar, hd⟩ := r1
    obtain rfl := Option.some.inj (gFirst.symm.trans hg)
    obtain rfl := Option.some.inj (tFirst.symm.trans hty)
    have hcs := Lib.cells_of_tab Tryz.underlying136 Tryz.underlying5 cells_u8 cells_256 hd
    rw [World.var?_cell hg hvar i, ← Array.getElem?_toList, hcs, List.getElem?_map, hn]
    rfl
  · obtain ⟨g, t, cs, fuel, p, hg, hty, hvar, hd⟩ := r2
    obtain rfl := Option.some.inj (gAcc.symm.trans hg)
    obtain rfl := Option.some.inj (tAcc.symm.trans hty)
    have hi : i < 32 := by
      have := (List.getElem?_eq_some_iff.1 hn).1
      rw [acc_len] at this; exact this
    obtain ⟨fuel', d, q, hdi, he⟩ := Lib.array_elem Tryz.underlying139 hd (i / 2) (by omega)
    simp only [List.getElem?_map, List.getElem?_range (show i / 2 < 16 by omega), Option.map_some, Option.some.injEq] at hdi
    subst hdi
    rw [cells_acc] at he
    have hcs := Lib.ints_of_struct Tryz.underlying138 (fun j f hj => by
      match j, hj with
      | 0, hj => simp at hj; subst hj; exact ⟨Tryz.underlying5, rfl, cells_u8⟩
      | 1, hj => simp at hj; subst hj; exact ⟨Tryz.underlying5, rfl, cells_u8⟩
      | j + 2, hj => simp at hj) (by rw [cells_acc]; rfl) he
    have hn' : utfAcc.getD i 0 = n := by simp [List.getD_eq_getElem?_getD, hn]
    rw [World.var?_cell hg hvar i, ← Array.getElem?_toList]
    rcases Nat.mod_two_eq_zero_or_one i with h2 | h2
    · have e0 := congrArg (·[0]?) hcs
      simp only [List.getElem?_take, List.getElem?_drop] at e0
      have hidx : i / 2 * 2 + 0 = i := by omega
      have hidx2 : 2 * (i / 2) = i := by omega
      rw [hidx] at e0
      simpa [hidx2, hn', ← List.getD_eq_getElem?_getD] using e0
    · have e1 := congrArg (·[1]?) hcs
      simp only [List.getElem?_take, List.getElem?_drop] at e1
      have hidx : i / 2 * 2 + 1 = i := by omega
      have hidx2 : 2 * (i / 2) + 1 = i := by omega
      rw [hidx] at e1
      simpa [hidx2, hn', ← List.getD_eq_getElem?_getD] using e1
theorem hgs {W : World} (hsh : W.ShapedOpen Tryz.prog) (hL : laidMetH Tryz.prog laid5 W) : GlobsIn W where
  gl := by
    intro g h
    simp [globs] at h
    subst h
    exact cell_of_shapedOpen_int (P := Tryz.prog) (g := 0) (t := 3) (zero := #[.int .i64 0]) hsh (of_decide_eq_true (by kernel_rfl)) (by kernel_rfl) rfl (by kernel_rfl) (by kernel_rfl) Tryz.underlying3
  gi := by
    intro g h
    simp [ivars] at h
  gp := pins_met hL
  gx := by
    intro x h
    simp [tabs] at h
noncomputable def doorW (os : Os) : World :=
  let w0 := World.doorLaid Tryz.prog 4000 os
  { w0 with heap := w0.heap.modify 1 fun
    | .cells _ t frozen => .cells (Lib.firstTab.map fun z => Value.int .u8 z).toArray t frozen
    | o => o }
theorem door_met (os : Os) (args : Array Value) : laidMetH Tryz.prog laid5 ((doorW os).forCall (fun _ _ => 0) ⟨#[], args, []⟩).memory :=
  laidMetH_of_parts3 (fuel := 8) (laidMet_of_run' 8 (by kernel_rfl) (by kernel_rfl)) (by kernel_rfl) (by kernel_rfl)
theorem door_shaped (os : Os) (args : Array Value) : ((doorW os).forCall (fun _ _ => 0) ⟨#[], args, []⟩).Shaped Tryz.prog := World.shaped_of_RefB (by kernel_rfl) (by kernel_rfl)
theorem returns_and_shaped {H : Type} {enc : TypeId × Value → H} {a : Assume} {C : Checked} {os : Os} {f : FuncId} {fn : Func} {s : ChangeSpec} {conds : List PathCond} {apart fresh handsOn again : Bool} {X : World → Array Value → Prop}
    (hX : ∀ (w w' : World) (args : Array Value), w.heap = w'.heap → X w args → X w' args)
    (own : ownKnob C.prog.godebug = none) (started : os.Started) (noInit : C.prog.inits.idxOf? f = none) (hfn : C.prog.funcs[f]? = some fn)
    (witness : ∃ (w : World) (tape : Tape) (i : Input), w.os = os ∧ (w.forCall tape i).Shaped C.prog ∧ i.vars = [] ∧ Input.okWide C.prog (w.forCall tape i) .any w.heap.size f i ∧
      ((s.pre enc C.prog fn conds apart (w.forCall tape i).memory i.args ∧ X (w.forCall tape i).memory i.args) ∧ sizedMet enc C.prog fn (OpenSpec.ofChange s) apart (w.forCall tape i).memory i.args) ∧ a.holds C.prog (lone (Frame.enter C.prog f i.args .normal) [] (w.forCall tape i)))
    (contract : ∀ (W : World) (base : Nat) (args : Array Value) (ds gs : List (DataW H)) (before : List MemPlace),
      (∀ (j : Nat) t v, fn.params[j]? = some t → args[j]? = some v → Value.okWide C.prog W .any base t v) →
      DataW.Whole enc C.prog fn.params.toList s.vars apart W args.toList ds gs before → W.ShapedOpen C.prog → X W args →
      Calls C.prog f args W fun e W' => ∃ v, e = .returned v ∧ s.post enc C.prog fn apart fresh handsOn again W args v W') :
    ReturnsInHanded a C os f .any (fun w args => (s.pre enc C.prog fn conds apart w args ∧ X w args) ∧ sizedMet enc C.prog fn (OpenSpec.ofChange s) apart w args) (s.post enc C.prog fn apart fresh handsOn again) := by
  refine returnsInHanded_of_calls own started noInit witness ?_
  intro w tape i _ hsh _ hok hpre hholds
  obtain ⟨_, _, _, fn', hfn', _, _, _, _, hval⟩ := hok
  have e : fn' = fn := Option.some.inj (hfn'.symm.trans hfn)
  subst e
  obtain ⟨⟨⟨ds, gs, before, hw, hc⟩, hx⟩, hz⟩ := hpre
  have hw' := DataW.Whole.of_heap (w' := w.forCall tape i) (by rfl) hw
  refine (contract (w.forCall tape i) w.heap.size i.args ds gs before hval hw' hsh (hX _ _ _ (by rfl) hx)).mono fun e W' ⟨v, he, hp⟩ => ?_
  subst he
  exact ChangeSpec.post_blind hp
theorem shp_slice {α : Type} {n : Nat} {t e : TypeId} {enc : α → AV} {ag : Bool} (hu : Tryz.prog.underlying t = some (.slice e)) (hag : aggT Tryz.prog e = some ag) (h : ∀ cs x, ShapeT Tryz.prog n e cs → wrapA ag cs = some x → ∃ a, x = enc a) {qs : List AV} (hs : ShapeT Tryz.prog (n + 1) t qs) :
    ∃ L : List α, qs = [.fslc (Tryz.prog.cellsOf e) (L.map enc)] := by
  unfold ShapeT at hs
  simp only [hu] at hs
  obtain ⟨es, rfl, _, hes⟩ := hs
  have key : ∀ l : List AV, (∀ x, x ∈ l → ∃ ag cs, aggT Tryz.prog e = some ag ∧ wrapA ag cs = some x ∧ ShapeT Tryz.prog n e cs) → ∃ L : List α, l = L.map enc := by
    intro l
    induction l with
    | nil => intro _; exact ⟨[], rfl⟩
    | cons x r ih =>
      intro hx
      obtain ⟨ag', cs, h1, h2, h3⟩ := hx x (by simp)
      rw [hag, Option.some.injEq] at h1
      subst h1
      obtain ⟨a, ha⟩ := h cs x h3 h2
      obtain ⟨L, hL⟩ := ih fun y hy => hx y (by simp [hy])
      exact ⟨a :: L, by rw [ha, hL]; rfl⟩
  obtain ⟨L, rfl⟩ := key es hes
  exact ⟨L, rfl⟩
theorem shp_str {n : Nat} {qs : List AV} (h : ShapeT Tryz.prog (n + 1) 9 qs) : ∃ s : Str, qs = [.str s] := by
  unfold ShapeT at h
  simp only [Tryz.underlying9] at h
  obtain ⟨s, rfl, _⟩ := h
  exact ⟨s, rfl⟩
theorem cells_strP : Tryz.prog.cellsOf 9 = 1 := by kernel_rfl
theorem shp_strs {n : Nat} {qs : List AV} (h : ShapeT Tryz.prog (n + 2) 23 qs) : ∃ L : List Str, qs = [aStrs L] := by
  obtain ⟨L, rfl⟩ := shp_slice (n := n + 1) (enc := AV.str) (ag := false) Tryz.underlying23 agT9 (fun cs x h hw => by
    obtain ⟨a, rfl⟩ := shp_str h
    simp only [wrapA, AV.single, Option.some.injEq] at hw
    exact ⟨a, hw.symm⟩) h
  exact ⟨L, by rw [cells_strP]⟩
theorem cells_ct : Tryz.prog.cellsOf 63 = 3 := by kernel_rfl
theorem cells_pt : Tryz.prog.cellsOf 38 = 6 := by kernel_rfl
theorem shp_ct {n : Nat} {qs : List AV} (h : ShapeT Tryz.prog (n + 2) 63 qs) : ∃ c : Ct, AV.agg qs = aCt c := by
  unfold ShapeT at h
  simp only [Tryz.underlying63] at h
  obtain _ | ⟨_, _, _, _, h1, h⟩ := h
  obtain _ | ⟨_, _, _, _, h2, h⟩ := h
  obtain _ | ⟨_, _, _, _, h3, h⟩ := h
  cases h
  obtain ⟨x1, rfl⟩ := shp_str h1
  obtain ⟨x2, rfl⟩ := shp_str h2
  obtain ⟨x3, rfl⟩ := shp_str h3
  exact ⟨⟨x1, x2, x3⟩, rfl⟩
theorem shp_cts {n : Nat} {qs : List AV} (h : ShapeT Tryz.prog (n + 3) 36 qs) : ∃ L : List Ct, qs = [aCts L] := by
  obtain ⟨L, rfl⟩ := shp_slice (n := n + 2) (enc := aCt) (ag := true) Tryz.underlying36 agT63 (fun cs x h hw => by
    simp only [wrapA, Option.some.injEq] at hw
    obtain ⟨a, ha⟩ := shp_ct (n := n) h
    exact ⟨a, by rw [← hw, ha]⟩) h
  exact ⟨L, by rw [cells_ct]⟩
theorem shp_pt {n : Nat} {qs : List AV} (h : ShapeT Tryz.prog (n + 4) 38 qs) : ∃ p : Pt, AV.agg qs = aPt p := by
  unfold ShapeT at h
  simp only [Tryz.underlying38] at h
  obtain _ | ⟨_, _, _, _, h1, h⟩ := h
  obtain _ | ⟨_, _, _, _, h2, h⟩ := h
  obtain _ | ⟨_, _, _, _, h3, h⟩ := h
  obtain _ | ⟨_, _, _, _, h4, h⟩ := h
  obtain _ | ⟨_, _, _, _, h5, h⟩ := h
  obtain _ | ⟨_, _, _, _, h6, h⟩ := h
  cases h
  obtain ⟨x1, rfl⟩ := shp_str h1
  obtain ⟨x2, rfl⟩ := shp_str h2
  obtain ⟨x3, rfl⟩ := shp_str h3
  obtain ⟨x4, rfl⟩ := shp_str h4
  obtain ⟨x5, rfl⟩ := shp_str h5
  obtain ⟨x6, rfl⟩ := shp_cts (n := n) h6
  exact ⟨⟨x1, x2, x3, x4, x5, x6⟩, rfl⟩
theorem shp_pts {n : Nat} {qs : List AV} (h : ShapeT Tryz.prog (n + 5) 22 qs) : ∃ L : List Pt, qs = [aPts L] := by
  obtain ⟨L, rfl⟩ := shp_slice (n := n + 4) (enc := aPt) (ag := true) Tryz.underlying22 agT38 (fun cs x h hw => by
    simp only [wrapA, Option.some.injEq] at hw
    obtain ⟨a, ha⟩ := shp_pt (n := n) h
    exact ⟨a, by rw [← hw, ha]⟩) h
  exact ⟨L, by rw [cells_pt]⟩
theorem shp_page {n : Nat} {qs : List AV} (h : ShapeT Tryz.prog (n + 6) 25 qs) : ∃ x : Pg, AV.agg qs = aPg x := by
  unfold ShapeT at h
  simp only [Tryz.underlying25] at h
  obtain _ | ⟨_, _, _, _, h1, h⟩ := h
  obtain _ | ⟨_, _, _, _, h2, h⟩ := h
  obtain _ | ⟨_, _, _, _, h3, h⟩ := h
  obtain _ | ⟨_, _, _, _, h4, h⟩ := h
  cases h
  obtain ⟨x1, rfl⟩ := shp_str h1
  obtain ⟨x2, rfl⟩ := shp_pts (n := n) h2
  obtain ⟨x3, rfl⟩ := shp_strs (n := n + 3) h3
  obtain ⟨x4, rfl⟩ := shp_pts (n := n) h4
  exact ⟨⟨x1, x2, x3, x4⟩, rfl⟩
theorem okPage : okTy Tryz.prog 8 25 = true := by kernel_rfl
section
variable {H : Type} {enc : TypeId × Value → H} {W : World} {hg : GlobsIn W}
theorem argPage {b0 base : Nat} {sp : Nat → Bool} {held : Bool} {v : Value} {d : DataW H} {ps : List MemPlace} (ht : DataW.Trod enc Tryz.prog W base sp held 25 v d ps) (hv : Value.okWide Tryz.prog W .any b0 25 v) : ∃ p, VR (start W hg) (aPg p) v := by
  obtain ⟨qs, a, h1, h2, h3⟩ := arg_shape (hg := hg) okPage (ag := true) agT25 (fun h => by cases h) ht hv
  obtain ⟨x, hx⟩ := shp_page (n := 2) h1
  have : a = aPg x := by
    simp only [wrapA, Option.some.injEq] at h2
    rw [← h2, hx]
  exact ⟨x, this ▸ h3⟩
end
noncomputable def TL_pnames : List (Entry Tryz.prog) := [e72, e89, e73, e74, e77, e56, ew16, e14, e17, e4, e21, e22, e51, e9]
theorem read_pnames : ∀ t, t ∈ [25, 9] → Tryz.prog.readableRec t = true ∧ t < Tryz.prog.types.size := by
  intro t ht
  simp at ht
  rcases ht with rfl | rfl
  · exact ⟨by kernel_rfl, by decide +kernel⟩
  · exact ⟨by kernel_rfl, by decide +kernel⟩
theorem pnames_contract (H : Type) (enc : TypeId × Value → H) (W : World) (base : Nat) (args : Array Value) (ds gs : List (DataW H)) (before : List MemPlace)
    (hval : ∀ (j : Nat) t v, Tryz.f3.params[j]? = some t → args[j]? = some v → Value.okWide Tryz.prog W .any base t v)
    (hW : DataW.Whole enc Tryz.prog Tryz.f3.params.toList Rows.pageNamesSpec.vars false W args.toList ds gs before) (hsh : W.ShapedOpen Tryz.prog) (hL : laidMetH Tryz.prog laid5 W) :
    Calls Tryz.prog 3 args W fun e W' => ∃ v, e = .returned v ∧ Rows.pageNamesSpec.post enc Tryz.prog Tryz.f3 false true false false W args v W' := by
  have hg := hgs hsh hL
  have hW' := hW
  obtain ⟨p, q, hA0, hV, rfl, hfz, hnd⟩ := hW
  have hA : DataW.TrodAll enc Tryz.prog W 0 (fun _ => true) true Tryz.f3.params.toList args.toList ds p := hA0
  rw [Tryz.params3] at hA hval
  obtain ⟨v0, vs0, d0, ds0, p0, q0, hargs, rfl, rfl, h0, r0⟩ := trodAll_cons hA
  obtain ⟨v1, vs1, d1, ds1, p1, q1, rfl, rfl, rfl, h1, r1⟩ := trodAll_cons r0
  obtain ⟨rfl, rfl, rfl⟩ := trodAll_nil r1
  obtain rfl : args = #[v0, v1] := by cases args; simp_all
  obtain ⟨rfl, rfl⟩ := trodVars_none hV
  obtain ⟨x, hx⟩ := argPage (hg := hg) h0 (hval 0 25 v0 rfl rfl)
  obtain ⟨pre, rfl, rfl, rfl, _⟩ := Go.ChangeMaps.open_string Tryz.underlying9 (hval 1 9 v1 rfl rfl) h1
  refine (law_calls (hg := hg) (C := ctx TL_pnames) Tryz.func3 rfl rfl (c3 ⟨⟨⟨rfl, rfl, rfl, rfl, rfl⟩, rfl, rfl, rfl, rfl⟩, rfl, rfl, rfl, rfl, rfl⟩ x pre.data.toList) (.cons hx (.cons (vr_str pre) .nil))).mono fun e W' ⟨he, hg⟩ => ⟨_, he, ?_⟩
  exact law_post (tb := 4) laid_ (by rw [Tryz.params3]; exact read_pnames) Tryz.underlying4 rfl rfl ⟨rfl, rfl, rfl⟩ hW' hg
theorem pnames_lifted (os : Os) (started : os.Started) (H : Type) (enc : TypeId × Value → H) :
    ReturnsInHanded {} Tryz.checked os 3 .any (fun w args => (Rows.pageNamesSpec.pre enc Tryz.prog Tryz.f3 [] false w args ∧ laidMetH Tryz.prog laid5 w) ∧ sizedMet enc Tryz.prog Tryz.f3 (OpenSpec.ofChange Rows.pageNamesSpec) false w args) (Rows.pageNamesSpec.post enc Tryz.prog Tryz.f3 false true false false) := by
  refine returns_and_shaped (C := Tryz.checked) (X := fun w _ => laidMetH Tryz.prog laid5 w) (fun _ _ _ hh h => h.of_heap hh) own_ started (by kernel_rfl) Tryz.func3
    (ChangeSpec.witness_shaped (enc := enc) (C := Tryz.checked) (os := os) (X := fun w _ => laidMetH Tryz.prog laid5 w) false (doorW os) #[.agg #[.string ByteArray.empty, .slice none 0 0, .slice none 0 0, .slice none 0 0], .string ByteArray.empty] 8 rfl (door_shaped os _) (by kernel_rfl) (by kernel_rfl) (by kernel_rfl) (door_met os _)) ?_
  intro W base args ds gs before hval hW hsh hL
  exact pnames_contract H enc W base args ds gs before hval hW hsh hL
theorem pnames_row : Rows.PageNamesSaid :=
  OpenClaim.holds_of_wide 3 Tryz.f3 rfl rfl rfl rfl rfl rfl rfl ⟨rfl, rfl, rfl, rfl, rfl⟩ rfl rfl rfl rfl rfl (by kernel_rfl) Tryz.func3 (by kernel_rfl)
    (of_decide_eq_true (by kernel_rfl)) (by unfold Func.isWrapper; first | (rw [if_pos (by decide +kernel)]; kernel_rfl) | (rw [if_neg (by decide +kernel)]; exact ⟨rfl, rfl⟩))
    (fun os started H enc _ => pnames_lifted os started H enc)
theorem pnames_holds : Rows.PageNamesCardSaid :=
  Claim7.holds_tied_plain_at .later [] [.data, .pinned] true Rows.pageNamesCard.stood.harness false
    pnames_row (fun _ h => by cases h) (by kernel_rfl) (fun _ h => by cases h) pageNames_row_tie rfl ⟨rfl, rfl⟩ (by kernel_rfl) rfl
    (fun f fn hf hfn => by
      obtain rfl : f = 3 := Option.some.inj ((show Tryz.prog.funcNamed "hoarding/hoardinglaw45.PageNames" = some 3 by kernel_rfl).symm.trans hf) |>.symm
      obtain rfl : fn = Tryz.f3 := (Option.some.inj (Tryz.func3.symm.trans hfn)).symm
      exact ⟨by kernel_rfl, fun j t ht => by
        rw [Tryz.params3] at ht
        have hm : t ∈ [25, 9] := by simpa using Array.mem_of_getElem? ht
        have hall : ([25, 9].all fun u => !Tryz.prog.wantsStandIn u) = true := by kernel_rfl
        exact (show Tryz.prog.wantsStandIn t = false by simpa using List.all_eq_true.1 hall t hm)⟩)
    (by kernel_rfl)
end Go.Proofs.YtlgdgolobnbefaaGreatDoor
