/- PageNames's walk. No condition. -/
import Derived.Test.YtlgdgolobnbefaaGreatDoorMO
namespace Go.Proofs.YtlgdgolobnbefaaGreatDoor
set_option linter.unusedSimpArgs false
set_option linter.unusedVariables false
open Go Go.RowKit
set_option maxRecDepth 100000
theorem right45 : rightB2 pg45 [117, 99] = true := by decide +kernel
theorem wrong45 : rightB2 pg45 [97] = false := by decide +kernel
theorem nodes45 : (pageT pg45).length = 10 := by decide +kernel
theorem small45 : smallPg pg45 := by
  refine ⟨by decide, by decide, by decide, by decide, fun p hp => ?_, fun p hp => (by cases hp), fun s hs => ?_⟩
  · simp [pg45] at hp
    subst hp
    exact ⟨by decide, by decide, by decide, by decide, by decide, by decide, fun c hc => (by cases hc)⟩
  · simp [pg45] at hs
    subst hs
    decide
structure LawT (T : List (Entry Tryz.prog)) : Prop extends PrT T where
  hV : findE 56 T = some e56.g
  hI : findE 16 T = some ew16.g
  hR : findE 14 T = some e14.g
  hX : findE 17 T = some e17.g
theorem tree_at {T : List (Entry Tryz.prog)} (hT : LawT T) (x : Pg) (hx : smallPg x) (hc : costs x.before + costs x.after ≤ 800000) (H : Heap) : CallAt (ctx T) 8 [aPg x, .agg [.nilS]] H (aTree (pageT x)) H := by
  refine (c8 (T := T) hT.toPrT hT.hV x ?_ ?_ ?_ (fun p hp => ?_) fun p hp => ?_).lift (by simp [pureL, pureV, aPg]) H
  · have := hx.around; omega
  · have := hx.before; omega
  · have := hx.after; omega
  · have := hx.eachB p hp
    exact ⟨by have := this.name; omega, this.ctls⟩
  · have := hx.eachA p hp
    exact ⟨by have := this.name; omega, this.ctls⟩
theorem right_at {T : List (Entry Tryz.prog)} (hT : LawT T) (x : Pg) (hx : smallPg x) (pre : Str) (H : Heap) : CallAt (ctx T) 5 [aPg x, .str pre] H (.bool (rightB2 x pre)) H :=
  (c5 (T := T) hT.hI hT.hR hT.hX x hx pre).lift (by simp [pureL, pureV, aPg]) H
theorem c6 {T : List (Entry Tryz.prog)} (hT : LawT T) : CallAt (ctx T) 6 [] ⟨0, []⟩ (.bool true) ⟨0, []⟩ := by
  have kt := tree_at hT pg45 small45 (by decide)
  have kr := right_at hT pg45 small45 [117, 99]
  have kw := right_at hT pg45 small45 [97]
  have kb : ∀ H, CallAt (ctx T) 20 [aPg pg45, .str sOut] H (.str sText) H := fun H => (closedLit (T := TB45) bytes45).lift (by simp [pureL, pureV, aPg]) H
  rw [right45] at kr
  rw [wrong45] at kw
  have bp : buildA Tryz.prog 38 [(0, .str [112]), (1, .str [97]), (4, .str [116])] = some (.agg [.str [112], .str [97], .str [], .str [], .str [116], .nilS]) := rfl
  have bx : buildA Tryz.prog 25 [(1, .slc 0 0 1 (.ex 1)), (2, .slc 1 0 1 (.ex 1))] = some (.agg [.str [], .slc 0 0 1 (.ex 1), .slc 1 0 1 (.ex 1), .nilS]) := rfl
  refine callAt_body (fn := Tryz.f6) (s0 := ⟨[0, 1, 2], [.undef, .undef, .undef], [], 28, ⟨0, [[]]⟩⟩) Tryz.func6 rfl rfl rfl ?_
  repeat refine wps_seq ?_
  refine wps_region callOK ?_
  simp [zS]
  have pr : promote 2 [0, 1] [] [[(2, .cells [.str [], .nilS, .nilS, .nilS]), (1, .cells [.str [109, 97, 105, 110]]), (0, .cells [.str [112], .str [97], .str [], .str [], .str [116], .nilS])]] = [[(2, .cells [.str [], .nilS, .nilS, .nilS]), (1, .cells [.str [109, 97, 105, 110]]), (0, .cells [.str [112], .str [97], .str [], .str [], .str [116], .nilS])]] := rfl
  repeat refine wps_seq ?_
  refine wps_region callOK ?_
  simp [zS, bp, bx, pr]
  have fx : fitL [(2, 0)] [(0, flatAV (pg45.before.map aPt)), (1, flatAV (pg45.around.map AV.str))] [.str [], .slc 0 0 1 (.ex 1), .slc 1 0 1 (.ex 1), .nilS] pg45.cs := by
    simp [fitL, fitV, pg45, Pg.cs, pureV, lookC, aPt, Pt.cs, flatAV, AV.cells, subL, takeL, allSize, aStrs]
  repeat refine wps_seq ?_
  refine .fit [(2, 0)] [(0, flatAV (pg45.before.map aPt)), (1, flatAV (pg45.around.map AV.str))] (s' := (⟨[0, 1, 2], [.undef, .ptr 0 0, .undef], [], 28, ⟨1, [[(0, .cells pg45.cs)]]⟩⟩ : St)) ⟨rfl, rfl, rfl, ?_, ⟨by simp, by simp, by simp [Heap.ents], by simp, fun z hz h => absurd h (Nat.not_lt_zero _), by simp, fun e he => ?_, fun z hz => ?_⟩⟩ ?_
  · simp [fitL, fitV, lookN]
  · simp only [Heap.ents, List.flatten_cons, List.flatten_nil, List.append_nil, List.mem_singleton] at he
    subst he
    exact ⟨2, _, by simp, rfl, fx⟩
  · simp only [List.mem_cons, List.not_mem_nil, or_false] at hz
    rcases hz with rfl | rfl
    · exact ⟨_, rfl, by simp [pg45, aPt, Pt.cs, flatAV, AV.cells, fitL, fitV, pureV], (el_pt _).pure⟩
    · exact ⟨_, rfl, by simp [pg45, flatAV, AV.cells, fitL, fitV, pureV], (el_str _).pure⟩
  have sb : subL 0 4 pg45.cs = some pg45.cs := rfl
  have bt : buildA Tryz.prog 32 [] = some (.agg [.nilS]) := rfl
  have kt0 := kt ⟨1, [[(0, .cells pg45.cs)]]⟩
  have kb2 := kb ⟨2, [[(1, .cells [aNodes (pageT pg45)]), (0, .cells pg45.cs)]]⟩
  have kr2 := kr ⟨2, [[(1, .cells [aNodes (pageT pg45)]), (0, .cells pg45.cs)]]⟩
  have kw2 := kw ⟨2, [[(1, .cells [aNodes (pageT pg45)]), (0, .cells pg45.cs)]]⟩
  have ln : ∀ H, lenA Tryz.prog H 30 (aNodes (pageT pg45)) = some 10 := fun H => by rw [lenN, nodes45]
  simp only [aPg, aTree] at kt0 kb2 kr2 kw2
  generalize pageT pg45 = t at *
  try refine wps_seq ?_
  repeat refine wps_seq ?_
  refine wps_region (callOKF [⟨8, _, _, _, _, kt0⟩]) ?_
  simp [zS, callF, sb, bt]
  try refine wps_seq ?_
  repeat refine wps_seq ?_
  refine wps_region (callOKF [⟨20, _, _, _, _, kb2⟩, ⟨5, _, _, _, _, kr2⟩, ⟨5, _, _, _, _, kw2⟩]) ?_
  simp [zS, callF, sb, ln]
  repeat refine wps_seq ?_
  refine wps_ret ?_
  simp [retVal, Tryz.f6, oneOr]
  exact ends_pure rfl rfl
theorem fewC_small {c : Ct} (h : fewC c = true) : smallC c := by
  simp only [fewC, Bool.and_eq_true, decide_eq_true_eq] at h
  exact ⟨by omega, by omega, by omega⟩
theorem fewP_small {p : Pt} (h : fewP p = true) : smallP p ∧ p.ctls.length ≤ 8 := by
  simp only [fewP, Bool.and_eq_true, decide_eq_true_eq, List.all_eq_true] at h
  obtain ⟨⟨⟨⟨⟨⟨h1, h2⟩, h3⟩, h4⟩, h5⟩, h6⟩, h7⟩ := h
  exact ⟨⟨by omega, by omega, by omega, by omega, by omega, by omega, fun c hc => fewC_small (h7 c hc)⟩, h6⟩
theorem costs_few : ∀ {L : List Pt}, (∀ p, p ∈ L → fewP p = true) → costs L ≤ 10 * L.length
  | [], _ => Nat.le_refl _
  | p :: r, h => by
    have h1 := (fewP_small (h p (by simp))).2
    have := costs_few (L := r) fun q hq => h q (by simp [hq])
    simp only [costs, costP, List.length_cons]
    omega
theorem fewG_small {x : Pg} (h : fewG x = true) : smallPg x ∧ (∀ p, p ∈ x.before → fewP p = true) ∧ (∀ p, p ∈ x.after → fewP p = true) ∧ x.before.length ≤ 24 ∧ x.after.length ≤ 24 ∧ x.around.length ≤ 8 := by
  simp only [fewG, Bool.and_eq_true, decide_eq_true_eq, List.all_eq_true] at h
  obtain ⟨⟨⟨⟨⟨h1, h2⟩, h3⟩, h4⟩, h5⟩, h6⟩ := h
  have hw := few_ws h4
  exact ⟨⟨by omega, by omega, by omega, by omega, fun p hp => (fewP_small (h5 p hp)).1, fun p hp => (fewP_small (h6 p hp)).1, fun s hs => by have := hw.2 s hs; omega⟩, h5, h6, h2, h3, by omega⟩
def freeN (pre v : Str) : Prop := v = [] ∨ preB v pre = false
theorem free_N {s pre : Str} (h : freeB s pre = true) : freeN pre s := by
  simp only [freeB, Bool.and_eq_true, Bool.or_eq_true, decide_eq_true_eq, Bool.not_eq_true'] at h
  exact h.2
def AttN (pre : Str) (nd : Nd) : Prop := nd.attrs.length ≤ 3 ∧ ∀ a, a ∈ nd.attrs → a.1 = wId ∨ a.1 = wName → freeN pre a.2
theorem attN_none {pre : Str} {nd : Nd} (h : nd.attrs = []) : AttN pre nd := ⟨by rw [h]; simp, fun a ha => by rw [h] at ha; cases ha⟩
theorem attN_ct {pre : Str} {c : Ct} (h : oddC pre c = false) : AttN pre (el0 c.name ((ctL c).filter full)) := by
  simp only [oddC, Bool.not_eq_false', Bool.and_eq_true] at h
  refine ⟨Nat.le_trans (List.length_filter_le _ _) (by simp [ctL]), fun a ha _ => ?_⟩
  have := (List.mem_filter.1 ha).1
  simp [ctL] at this
  rcases this with rfl | rfl
  · exact free_N h.1.2
  · exact free_N h.2
theorem attN_pt {pre : Str} {p : Pt} (h : partB pre p = true) : PartP (AttN pre) p := by
  simp only [partB, Bool.and_eq_true] at h
  obtain ⟨⟨⟨⟨_, h1⟩, h2⟩, h3⟩, h4⟩ := h
  refine ⟨⟨Nat.le_trans (List.length_filter_le _ _) (by simp [ptL]), fun a ha hn => ?_⟩, attN_none rfl, fun c hc => attN_ct ?_⟩
  · have := (List.mem_filter.1 ha).1
    simp [ptL] at this
    rcases this with rfl | rfl | rfl
    · exact free_N h1
    · exact free_N h2
    · exact free_N h3
  · simp only [Bool.not_eq_true', List.any_eq_false] at h4
    simpa using h4 c hc
theorem right_parts {x : Pg} {pre : Str} (h : rightB2 x pre = true) : (∀ p, p ∈ x.before → partB pre p = true) ∧ (∀ p, p ∈ x.after → partB pre p = true) := by
  simp only [rightB2, Bool.and_eq_true, Bool.not_eq_true', List.any_eq_false] at h
  have h1 := h.1.2
  have key : ∀ p, p ∈ x.before ++ x.after → partB pre p = true := fun p hp => by simpa using h1 p hp
  exact ⟨fun p hp => key p (by simp [hp]), fun p hp => key p (by simp [hp])⟩
theorem page_grow {x : Pg} {pre : Str} (h : rightB2 x pre = true) : Grow (AttN pre) [root0] (pageT x) ∧ (pageT x).length ≤ 8 + costs x.before + costs x.after + x.around.length := by
  obtain ⟨hb, ha⟩ := right_parts h
  have g1 : Grow (AttN pre) [root0] tp1 := .put (by simp) (attN_none rfl)
  have g2 : Grow (AttN pre) tp1 tp2 := .put (by rw [tp1_len]; omega) (attN_none rfl)
  have g3 : Grow (AttN pre) tp2 tp3 := .put (by rw [tp2_len]; omega) (attN_none rfl)
  have g4 : Grow (AttN pre) tp3 tp4 := .put (by rw [tp3_len]; omega) (attN_none rfl)
  have g5 : Grow (AttN pre) tp4 (tp5 x) := .chars (by rw [tp4_len]; omega) _ (attN_none rfl)
  have l5 := charsN_len (t := tp4) (u := 4) (by rw [tp4_len]; omega) x.title
  rw [tp4_len, show charsN tp4 4 x.title = tp5 x from rfl] at l5
  have g6 : Grow (AttN pre) (tp5 x) (tp6 x) := .put (by omega) (attN_none rfl)
  have l6 : (tp6 x).length = (tp5 x).length + 1 := putN_len (by omega) _
  have g7 : Grow (AttN pre) (tp6 x) (tp7 x) := .parts _ (by omega) fun p hp => attN_pt (hb p hp)
  have l7 := partsN_len (u := (tp5 x).length) x.before (t := tp6 x) (by omega)
  rw [show partsN (tp6 x) (tp5 x).length x.before = tp7 x from rfl] at l7
  have g8 : Grow (AttN pre) (tp7 x) (tp8 x).1 := .wrap _ (by omega) fun s hs => attN_none rfl
  obtain ⟨w1, w2⟩ := wrapN_ok x.around (t := tp7 x) (up := (tp5 x).length) (by omega)
  have g9 : Grow (AttN pre) (tp8 x).1 (tp9 x) := .put w2 (attN_none rfl)
  have l9 : (tp9 x).length = (tp8 x).1.length + 1 := putN_len w2 _
  have w1' : (tp8 x).1.length = (tp7 x).length + x.around.length := w1
  have g10 : Grow (AttN pre) (tp9 x) (pageT x) := .parts _ (by omega) fun p hp => attN_pt (ha p hp)
  have l10 := partsN_len (u := (tp5 x).length) x.after (t := tp9 x) (by omega)
  rw [show partsN (tp9 x) (tp5 x).length x.after = pageT x from rfl] at l10
  exact ⟨g1.trans (g2.trans (g3.trans (g4.trans (g5.trans (g6.trans (g7.trans (g8.trans (g9.trans g10)))))))), by omega⟩
theorem getAt_mem {nm v : Str} : ∀ {L : List At1}, getAt nm L = some v → (nm, v) ∈ L
  | [], h => by cases h
  | a :: r, h => by
    unfold getAt at h
    split at h
    · rename_i e
      simp only [Option.some.injEq] at h
      rw [← e, ← h]
      exact List.mem_cons_self
    · exact List.mem_cons_of_mem _ (getAt_mem h)
theorem page_names {x : Pg} {pre : Str} (hx : fewG x = true) (h : rightB2 x pre = true) : okTr (pageT x) ∧ ∀ s, s ∈ onL (allR (pageT x)) → preB s pre = false := by
  obtain ⟨g, hl⟩ := page_grow h
  obtain ⟨_, fb, fa, l1, l2, l3⟩ := fewG_small hx
  have cb := costs_few fb
  have ca := costs_few fa
  have hat : ∀ n, n ∈ pageT x → n.attrs.length ≤ 3 ∧ ∀ a, a ∈ n.attrs → a.1 = wId ∨ a.1 = wName → freeN pre a.2 := fun n hn => by
    rcases g.2.2 n hn with ⟨o, ho, e⟩ | ⟨nd, hP, e⟩
    · simp at ho
      subst ho
      rw [e]
      exact ⟨by simp [root0], fun a ha => by simp [root0] at ha⟩
    · rw [e]; exact hP
  have ok : UpOk (pageT x) := g.2.1 ⟨fun n hn => by simp at hn; subst hn; simp [root0], fun n hn => by simp at hn; subst hn; simp [root0]⟩
  refine ⟨⟨by omega, fun n hn => ⟨by have := ok.kids n hn; omega, by have := (hat n hn).1; omega⟩⟩, fun s hs => ?_⟩
  have hs : s ∈ allR (pageT x) := by
    rcases on_mem _ _ hs with h | h
    · cases h
    · exact h
  obtain ⟨y, hy, hs⟩ := List.mem_flatMap.1 hs
  obtain ⟨y0, y1⟩ := order_mem hy
  have mn := nodeAt_mem (t := pageT x) y0 y1
  have hv : ∀ nm, nm = wId ∨ nm = wName → s = valueB (pageT x) y nm → s ≠ [] → preB s pre = false := fun nm hnm e hne => by
    have e2 : valueB (pageT x) y nm = valOf (nodeAt (pageT x) y) nm := by
      unfold valueB
      rw [if_neg (by omega)]
    rw [e2] at e
    unfold valOf at e
    cases hg : getAt nm (nodeAt (pageT x) y).attrs with
    | none => rw [hg] at e; exact absurd e hne
    | some v =>
      rw [hg] at e
      simp only [Option.getD_some] at e
      rw [e] at hne ⊢
      rcases (hat _ mn).2 _ (getAt_mem hg) hnm with h | h
      · exact absurd h hne
      · exact h
  unfold namesAt at hs
  split at hs
  · obtain ⟨h1, h2⟩ := List.mem_filter.1 hs
    have hne : s ≠ [] := by simpa using h2
    simp only [List.mem_cons, List.not_mem_nil, or_false] at h1
    rcases h1 with h1 | h1
    · exact hv wId (.inl rfl) h1 hne
    · exact hv wName (.inr rfl) h1 hne
  · cases hs
noncomputable def e4 : Entry Tryz.prog := mkE 4 [[]] (fun x : Pg => [aPg x]) (fun _ => True) (fun x => .bool (fewG x)) fun x _ => c4 (T := [e11, e10]) rfl rfl x
theorem inj_aPg {x y : Pg} (h : aPg x = aPg y) : x = y := by
  obtain ⟨a1, a2, a3, a4⟩ := x
  obtain ⟨b1, b2, b3, b4⟩ := y
  simp only [aPg, Pg.cs, AV.agg.injEq, List.cons.injEq, AV.str.injEq, and_true] at h
  obtain ⟨rfl, h2, h3, h4⟩ := h
  rw [inj_aPts h2, inj_strs h3, inj_aPts h4]
theorem k4 {T : List (Entry Tryz.prog)} (hT : findE 4 T = some e4.g) (x : Pg) (H : Heap) : callL (ctx T) (.fn 4) [aPg x] H = some (.bool (fewG x), H) :=
  mkE_scalar hT (fun x y h => by simp at h; exact inj_aPg h) x trivial rfl (by
    have h : okV (aPg x) = true := by simp [aPg, Pg.cs, okV, pureV, pureL, aStrs]
    simp [thawL, thawA_ok h])
structure NamT (T : List (Entry Tryz.prog)) : Prop extends LawT T where
  hG : findE 4 T = some e4.g
  hO : findE 21 T = some e21.g
  hU : findE 22 T = some e22.g
  hN : findE 51 T = some e51.g
  hQ : findE 9 T = some e9.g
theorem c3 {T : List (Entry Tryz.prog)} (hT : NamT T) (x : Pg) (pre : Str) : CallAt (ctx T) 3 [aPg x, .str pre] ⟨0, []⟩ (.bool true) ⟨0, []⟩ := by
  have ka := fun H => (c6 hT.toLawT).lift (by simp [pureL]) H
  have kp := fun H => k4 hT.hG x H
  have sx : allSingle x.cs = true := rfl
  have sb : subL 0 4 x.cs = some x.cs := rfl
  simp only [aPg] at kp
  by_cases q1 : fewG x = true
  case neg =>
    have q1 : fewG x = false := by simpa using q1
    rw [q1] at kp
    refine callAt_body (fn := Tryz.f3) (s0 := ⟨[0, 1, 2, 4, 6, 29, 30, 31], [aPg x, .str pre, .undef, .undef, .undef, .undef, .undef, .undef], [], 40, ⟨0, [[]]⟩⟩) Tryz.func3 rfl rfl rfl ?_
    repeat refine wps_seq ?_
    refine wps_region callOK ?_
    simp [zS, aPg, sx]
    repeat refine wps_seq ?_
    refine wps_region callOK ?_
    simp [zS, sb, kp]
    repeat refine wps_seq ?_
    refine wps_cond (t := true) rfl (fun _ => ?_) fun h => by cases h
    refine wps_seq ?_
    repeat refine wps_seq ?_
    refine wps_region (callOKF [⟨6, _, _, _, _, ka ⟨1, [[(0, .cells x.cs)]]⟩⟩]) ?_
    simp [zS, callF]
    repeat refine wps_seq ?_
    refine wps_ret ?_
    simp [retVal, Tryz.f3, oneOr, thenQ, blockQ]
    exact ends_pure rfl (by rfl)
  rw [q1] at kp
  obtain ⟨sm, fb, fa, l1, l2, l3⟩ := fewG_small q1
  have kr := right_at hT.toLawT x sm pre ⟨1, [[(0, .cells x.cs)]]⟩
  simp only [aPg] at kr
  by_cases q2 : 40 < (pre.length : Int)
  · refine callAt_body (fn := Tryz.f3) (s0 := ⟨[0, 1, 2, 4, 6, 29, 30, 31], [aPg x, .str pre, .undef, .undef, .undef, .undef, .undef, .undef], [], 40, ⟨0, [[]]⟩⟩) Tryz.func3 rfl rfl rfl ?_
    repeat refine wps_seq ?_
    refine wps_region callOK ?_
    simp [zS, aPg, sx]
    repeat refine wps_seq ?_
    refine wps_region callOK ?_
    simp [zS, sb, kp, q2]
    repeat refine wps_seq ?_
    refine wps_cond (t := true) rfl (fun _ => ?_) fun h => by cases h
    refine wps_seq ?_
    repeat refine wps_seq ?_
    refine wps_region (callOKF [⟨6, _, _, _, _, ka ⟨1, [[(0, .cells x.cs)]]⟩⟩]) ?_
    simp [zS, callF]
    repeat refine wps_seq ?_
    refine wps_ret ?_
    simp [retVal, Tryz.f3, oneOr, thenQ, blockQ]
    exact ends_pure rfl (by rfl)
  by_cases q3 : pre = []
  · subst q3
    refine callAt_body (fn := Tryz.f3) (s0 := ⟨[0, 1, 2, 4, 6, 29, 30, 31], [aPg x, .str [], .undef, .undef, .undef, .undef, .undef, .undef], [], 40, ⟨0, [[]]⟩⟩) Tryz.func3 rfl rfl rfl ?_
    repeat refine wps_seq ?_
    refine wps_region callOK ?_
    simp [zS, aPg, sx]
    repeat refine wps_seq ?_
    refine wps_region callOK ?_
    simp [zS, sb, kp]
    repeat refine wps_seq ?_
    refine wps_cond (t := true) rfl (fun _ => ?_) fun h => by cases h
    refine wps_seq ?_
    repeat refine wps_seq ?_
    refine wps_region (callOKF [⟨6, _, _, _, _, ka ⟨1, [[(0, .cells x.cs)]]⟩⟩]) ?_
    simp [zS, callF]
    repeat refine wps_seq ?_
    refine wps_ret ?_
    simp [retVal, Tryz.f3, oneOr, thenQ, blockQ]
    exact ends_pure rfl (by rfl)
  by_cases q4 : rightB2 x pre = true
  case neg =>
    have q4 : rightB2 x pre = false := by simpa using q4
    rw [q4] at kr
    refine callAt_body (fn := Tryz.f3) (s0 := ⟨[0, 1, 2, 4, 6, 29, 30, 31], [aPg x, .str pre, .undef, .undef, .undef, .undef, .undef, .undef], [], 40, ⟨0, [[]]⟩⟩) Tryz.func3 rfl rfl rfl ?_
    repeat refine wps_seq ?_
    refine wps_region callOK ?_
    simp [zS, aPg, sx]
    refine wps_seq ?_
    repeat refine wps_seq ?_
    refine wps_region (callOKF [⟨5, _, _, _, _, kr⟩]) ?_
    simp [zS, callF, sb, kp, q2, q3]
    repeat refine wps_seq ?_
    refine wps_cond (t := true) rfl (fun _ => ?_) fun h => by cases h
    refine wps_seq ?_
    repeat refine wps_seq ?_
    refine wps_region (callOKF [⟨6, _, _, _, _, ka ⟨1, [[(0, .cells x.cs)]]⟩⟩]) ?_
    simp [zS, callF]
    repeat refine wps_seq ?_
    refine wps_ret ?_
    simp [retVal, Tryz.f3, oneOr, thenQ, blockQ]
    exact ends_pure rfl (by rfl)
  rw [q4] at kr
  obtain ⟨okt, hno⟩ := page_names q1 q4
  have cb := costs_few fb
  have ca := costs_few fa
  have kt := tree_at hT.toLawT x sm (by omega) ⟨1, [[(0, .cells x.cs)]]⟩
  have kl := (c7 hT.hO hT.hU hT.hN (pageT x) okt).lift (by simp [pureL]) ⟨1, [[(0, .cells x.cs)]]⟩
  obtain ⟨N, hN⟩ : ∃ N, N = onL (allR (pageT x)) := ⟨_, rfl⟩
  rw [← hN] at hno kl
  simp only [aPg, aTree] at kt kl
  generalize aNodes (pageT x) = t at kt kl
  have bt : buildA Tryz.prog 32 [] = some (.agg [.nilS]) := rfl
  refine callAt_body (fn := Tryz.f3) (s0 := ⟨[0, 1, 2, 4, 6, 29, 30, 31], [aPg x, .str pre, .undef, .undef, .undef, .undef, .undef, .undef], [], 40, ⟨0, [[]]⟩⟩) Tryz.func3 rfl rfl rfl ?_
  repeat refine wps_seq ?_
  refine wps_region callOK ?_
  simp [zS, aPg, sx]
  refine wps_seq ?_
  repeat refine wps_seq ?_
  refine wps_region (callOKF [⟨5, _, _, _, _, kr⟩]) ?_
  simp [zS, callF, sb, kp, q2, q3]
  repeat refine wps_seq ?_
  refine wps_cond (t := false) rfl (fun h => by cases h) fun _ => ?_
  repeat refine wps_seq ?_
  refine wps_skip ?_
  simp
  refine wps_seq ?_
  repeat refine wps_seq ?_
  refine wps_region (callOKF [⟨8, _, _, _, _, kt⟩, ⟨7, _, _, _, _, kl⟩]) ?_
  simp [zS, callF, sb, bt, lenS]
  have hNl : N.length ≤ 1000000 := by
    have h1 := on_len (allR (pageT x)) []
    have h2 := allTo_len (pageT x) (orderOf (pageT x).length (kidsOf (pageT x))).length
    have h3 : allTo (pageT x) (orderOf (pageT x).length (kidsOf (pageT x))).length = allR (pageT x) := by unfold allTo allR; rw [List.take_length]
    have h4 := order_len (n := (pageT x).length) (ks := kidsOf (pageT x))
    have h5 := okt.1
    rw [h3] at h2
    simp only [List.length_nil] at h1
    rw [hN]
    simp only [onL]
    omega
  repeat refine wps_seq ?_
  refine wps_block (wps_loop' (fun i : Nat => (⟨[0, 1, 2, 4, 6, 29, 30, 31], [.undef, .str pre, .undef, .undef, .undef, aStrs N, .int .i64 (N.length : Nat), .int .i64 i], [], 40, ⟨1, [[(0, .cells x.cs)]]⟩⟩ : St))
    (fun i => i ≤ N.length) (fun i => N.length - i) [(0, 0)] [] 0 (Nat.zero_le _) ⟨rfl, rfl, rfl, by simp [fitL, fitV, lookN, pureV, aStrs], .keep1 (by simp [Heap.get, getFs, getF]) (pure_Pgcs x) rfl⟩ ?_)
  rintro i hi B hB
  repeat refine wps_seq ?_
  refine wps_region callOK ?_
  simp [zS]
  repeat refine wps_seq ?_
  refine wps_cond rfl (fun h => ?_) fun h => ?_
  · simp at h
    repeat refine wps_seq ?_
    refine wps_skip ?_
    simp
    repeat refine wps_seq ?_
    refine wps_block ?_
    have kq := fun H => k9 hT.hQ N[i] pre H
    rw [hno _ (List.getElem_mem h)] at kq
    repeat refine wps_seq ?_
    refine wps_region callOK ?_
    simp [zS, atS h]
    repeat refine wps_seq ?_
    refine wps_region callOK ?_
    simp [zS, kq]
    repeat refine wps_seq ?_
    refine wps_cond (t := false) rfl (fun h => by cases h) fun _ => ?_
    repeat refine wps_seq ?_
    refine wps_skip ?_
    simp
    repeat refine wps_seq ?_
    refine wps_region callOK ?_
    simp [zS, add_one (show i ≤ 1000000000 by omega)]
    exact hB _ (i + 1) (by omega) (by omega) ⟨[(0, 0)], [], rfl, rfl, rfl, by simp [fitL, fitV, lookN, pureV, aStrs], .keep1 (by simp [Heap.get, getFs, getF]) (pure_Pgcs x) rfl⟩
  · simp at h
    repeat refine wps_seq ?_
    refine wps_exit ?_
    simp
    refine wps_seq ?_
    repeat refine wps_seq ?_
    refine wps_region (callOKF [⟨6, _, _, _, _, ka ⟨1, [[(0, .cells x.cs)]]⟩⟩]) ?_
    simp [zS, callF]
    repeat refine wps_seq ?_
    refine wps_ret ?_
    simp [retVal, Tryz.f3, oneOr, thenQ, blockQ]
    exact ends_pure rfl (by rfl)
end Go.Proofs.YtlgdgolobnbefaaGreatDoor
