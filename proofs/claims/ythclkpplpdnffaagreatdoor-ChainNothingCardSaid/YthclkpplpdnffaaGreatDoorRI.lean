/- The order's walk: what it gives to each round, whoever ranges over it. MADE by mkP10.py. No condition. -/
import Derived.Test.YthclkpplpdnffaaGreatDoorRows
import Derived.Test.YthclkpplpdnffaaGreatDoorTie
import Derived.Test.YthclkpplpdnffaaGreatDoorCards
import Derived.Test.YthclkpplpdnffaaGreatDoorRH
import Derived.HandedShaped
import Derived.Shelf.Vars
import Derived.ChangeMaps5
import Derived.LaidMore
import Derived.Stop.LaidErr
import Derived.SevenTiedAt
import Derived.Test.YthclkpplpdnffaaGreatDoorRG
namespace Go.Proofs.YthclkpplpdnffaaGreatDoor
set_option linter.unusedSimpArgs false
set_option linter.unusedVariables false
open Go Go.RowKit Go.ChangeShapes Go.WideShapes Go.ChangeAt
set_option maxRecDepth 100000
theorem own_ : ownKnob Tryz.prog.godebug = none := by kernel_rfl
theorem laid_ : laidOutB Tryz.prog = true := by kernel_rfl
theorem starE : "*" ++ "errors.errorString" = "*errors.errorString" := by decide
theorem rowE (u : TypeId) (h : Tryz.prog.typeName? 3 u = some "*errors.errorString") : u = 209 :=
  typeName_ptr_named (nm := "errors.errorString") (by rw [starE]; kernel_rfl) (by kernel_rfl) (by decide) u (by rw [starE]; exact h)
theorem gRange : Tryz.prog.globalNamed "strconv.ErrRange" = some 1 := by kernel_rfl
theorem gSyntax : Tryz.prog.globalNamed "strconv.ErrSyntax" = some 0 := by kernel_rfl
theorem tRange : (Tryz.prog.globals[1]?).map (·.type) = some 70 := by kernel_rfl
theorem tSyntax : (Tryz.prog.globals[0]?).map (·.type) = some 70 := by kernel_rfl
theorem cellsES : Tryz.prog.cellsOf 211 = 1 := by kernel_rfl
abbrev laid5 : List (String × DataW Unit) := [("math/bits.deBruijn32tab", Rows.laid_math_bits_deBruijn32tab), ("math/bits.deBruijn64tab", Rows.laid_math_bits_deBruijn64tab), ("internal/strconv.uint64pow10", Rows.laid_internal_strconv_uint64pow10), ("strconv.ErrRange", Rows.laid_strconv_ErrRange), ("strconv.ErrSyntax", Rows.laid_strconv_ErrSyntax)]
theorem if_of_var {W : World} {n : String} {g : Nat} {t : TypeId} {p : Value} (hg : Tryz.prog.globalNamed n = some g) (h : W.var? Tryz.prog n = some #[.iface t p]) : ∃ v, W.cell? ⟨g, 0, none⟩ = some v ∧ isIf v := by
  have := World.var?_cell hg h 0
  exact ⟨_, by simpa using this, .inr ⟨_, _, rfl⟩⟩
theorem hgs {W : World} (hsh : W.ShapedOpen Tryz.prog) (hL : laidMetH Tryz.prog laid5 W) : GlobsIn W where
  gl := by
    intro g h
    simp [globs] at h
    subst h
    exact cell_of_shapedOpen_int (P := Tryz.prog) (g := 3) (t := 3) (zero := #[.int .i64 0]) hsh (of_decide_eq_true (by kernel_rfl)) (by kernel_rfl) rfl (by kernel_rfl) (by kernel_rfl) Tryz.underlying3
  gi := by
    intro g h
    rw [MakeChecks.laidMetH_plain _ _ _ (by kernel_rfl)] at hL
    have h3 := hL.tail.tail.tail
    obtain ⟨a0, s0, hv0, _⟩ := laid_sentinel h3 gRange tRange Tryz.underlying70 rowE Tryz.underlying209 Tryz.underlying211 rfl rfl Tryz.underlying9 cellsES cells_str1
    obtain ⟨a1, s1, hv1, _⟩ := laid_sentinel h3.tail gSyntax tSyntax Tryz.underlying70 rowE Tryz.underlying209 Tryz.underlying211 rfl rfl Tryz.underlying9 cellsES cells_str1
    simp [ivars] at h
    rcases h with rfl | rfl
    · exact if_of_var gSyntax hv1
    · exact if_of_var gRange hv0
theorem door_met (os : Os) (args : Array Value) : laidMetH Tryz.prog laid5 ((World.doorLaid Tryz.prog 4000 os).forCall (fun _ _ => 0) ⟨#[], args, []⟩).memory :=
  laidMetH_of_parts3 (fuel := 8) (laidMet_of_run' 8 (by kernel_rfl) (by kernel_rfl)) (by kernel_rfl) (by kernel_rfl)
theorem door_shaped (os : Os) (args : Array Value) : ((World.doorLaid Tryz.prog 4000 os).forCall (fun _ _ => 0) ⟨#[], args, []⟩).Shaped Tryz.prog := World.shaped_of_RefB (by kernel_rfl) (by kernel_rfl)
theorem returns_and_shaped {H : Type} {enc : TypeId × Value → H} {a : Assume} {C : Checked} {os : Os} {f : FuncId} {fn : Func} {s : ChangeSpec} {conds : List PathCond} {apart fresh handsOn again : Bool} {X : World → Array Value → Prop}
    (hX : ∀ (w w' : World) (args : Array Value), w.heap = w'.heap → X w args → X w' args)
    (own : ownKnob C.prog.godebug = none) (started : os.Started) (noInit : C.prog.inits.idxOf? f = none) (hfn : C.prog.funcs[f]? = some fn)
    (witness : ∃ (w : World) (tape : Tape) (i : Input), w.os = os ∧ (w.forCall tape i).Shaped C.prog ∧ i.vars = [] ∧ Input.okWide C.prog (w.forCall tape i) .any w.heap.size f i ∧
      ((s.pre enc C.prog fn conds apart (w.forCall tape i).memory i.args ∧ X (w.forCall tape i).memory i.args) ∧ sizedMet enc C.prog fn (OpenSpec.ofChange s) apart (w.forCall tape i).memory i.args) ∧ a.holds C.prog (lone (Frame.enter C.prog f i.args .normal) [] (w.forCall tape i)))
    (contract : ∀ (W : World) (base : Nat) (args : Array Value) (ds gs : List (DataW H)) (before : List MemPlace),
      (∀ (j : Nat) t v, fn.params[j]? = some t → args[j]? = some v → Value.okWide C.prog W .any base t v) →
      DataW.Whole enc C.prog fn.params.toList s.vars apart W args.toList ds gs before → W.ShapedOpen C.prog → X W args →
      Calls C.prog f args W fun e W' => ∃ v, e = .returned v ∧ s.post enc C.prog fn apart fresh handsOn again W args v W') :
    ReturnsInHanded a C os f .any (fun w args => (s.pre enc C.prog fn conds apart w args ∧ X w args) ∧ sizedMet enc C.prog fn (OpenSpec.ofChange s) apart w args) (s.post enc C.prog fn apart fresh handsOn again) := by
  refine returnsInHanded_of_calls own started noInit witness ?_
  intro w tape i _ hsh _ hok hpre hholds
  obtain ⟨_, _, _, fn', hfn', _, _, _, _, hval⟩ := hok
  have e : fn' = fn := Option.some.inj (hfn'.symm.trans hfn)
  subst e
  obtain ⟨⟨⟨ds, gs, before, hw, hc⟩, hx⟩, hz⟩ := hpre
  have hw' := DataW.Whole.of_heap (w' := w.forCall tape i) (by rfl) hw
  refine (contract (w.forCall tape i) w.heap.size i.args ds gs before hval hw' hsh (hX _ _ _ (by rfl) hx)).mono fun e W' ⟨v, he, hp⟩ => ?_
  subst he
  exact ChangeSpec.post_blind hp
section
variable {H : Type} {enc : TypeId × Value → H} {W : World} {hg : GlobsIn W}
def aStrs1 (l : List Str) : AV := .fslc 1 (l.map .str)
theorem okStrs : okTy Tryz.prog 4 40 = true := by kernel_rfl
theorem argStrs {b0 base : Nat} {sp : Nat → Bool} {held : Bool} {v : Value} {d : DataW H} {ps : List MemPlace} (ht : DataW.Trod enc Tryz.prog W base sp held 40 v d ps) (hv : Value.okWide Tryz.prog W .any b0 40 v) : ∃ l, VR (start W hg) (aStrs1 l) v := by
  obtain ⟨qs, a, h1, h2, h3⟩ := arg_shape (hg := hg) okStrs (ag := false) agT40 (fun _ => by kernel_rfl) ht hv
  obtain ⟨L, rfl⟩ := shape_slice (n := 3) (enc := AV.str) (ag := false) Tryz.underlying40 agT9 (fun cs x h hw => by
    obtain ⟨a, rfl⟩ := shape_str h
    simp only [wrapA, AV.single, Option.some.injEq] at hw
    exact ⟨a, hw.symm⟩) h1
  rw [cells_str1] at h2
  simp only [wrapA, AV.single, Option.some.injEq] at h2
  exact ⟨L, by rw [aStrs1, h2]; exact h3⟩
end
end Go.Proofs.YthclkpplpdnffaaGreatDoor
namespace Go.Proofs.YthclkpplpdnffaaGreatDoor
set_option linter.unusedSimpArgs false
set_option linter.unusedVariables false
abbrev CfgW := List (Nat × Nat) × Wk
def stpW (n : Nat) (ks : Nat → List Int) : CfgW → Option CfgW
  | ([], _) => none
  | ((i, j) :: p, w) => match (ks i)[j]? with
    | none => some (p, outof i w)
    | some k => if 0 ≤ k ∧ k < (n : Int) ∧ w.inn.getD k.toNat 0 < 0 then some ((k.toNat, 0) :: (i, j + 1) :: p, into k.toNat w) else some ((i, j + 1) :: p, w)
inductive ReachW (n : Nat) (ks : Nat → List Int) : CfgW → CfgW → Prop where
  | refl (c : CfgW) : ReachW n ks c c
  | step {c d e : CfgW} (h : stpW n ks c = some d) (r : ReachW n ks d e) : ReachW n ks c e
theorem ReachW.trans {n : Nat} {ks : Nat → List Int} {c d e : CfgW} (h : ReachW n ks c d) (r : ReachW n ks d e) : ReachW n ks c e := by
  induction h with
  | refl => exact r
  | step h _ ih => exact .step h (ih r)
theorem ReachW.one {n : Nat} {ks : Nat → List Int} {c d e : CfgW} (r : ReachW n ks c d) (h : stpW n ks d = some e) : ReachW n ks c e := r.trans (.step h (.refl _))
theorem ReachW.det {n : Nat} {ks : Nat → List Int} {c a b : CfgW} (h : ReachW n ks c a) (r : ReachW n ks c b) (ha : stpW n ks a = none) (hb : stpW n ks b = none) : a = b := by
  induction h with
  | refl =>
    cases r with
    | refl => rfl
    | step h2 r2 => rw [ha] at h2; cases h2
  | step h _ ih =>
    cases r with
    | refl => rw [hb] at h; cases h
    | step h2 r2 => rw [h] at h2; cases h2; exact ih r2 ha
theorem reachW_kl {n K f i : Nat} {ks : Nat → List Int} {p : List (Nat × Nat)} (hg : ∀ p i w, Low n K 0 w → i < n → w.inn.getD i 0 < 0 → negs w.inn ≤ f → ReachW n ks ((i, 0) :: p, into i w) (p, vis n ks f i w)) :
    ∀ (r : List Int) (j : Nat) (w : Wk), j ≤ (ks i).length → (ks i).drop j = r → Low n K 0 w → negs w.inn ≤ f → ReachW n ks ((i, j) :: p, w) ((i, (ks i).length) :: p, kl n (vis n ks f) r w)
  | [], j, w, hj, hr, h, hf => by
    have : j = (ks i).length := by have := congrArg List.length hr; simp at this; omega
    subst this
    exact .refl _
  | k :: r, j, w, hj, hr, h, hf => by
    have hlt : j < (ks i).length := by have := congrArg List.length hr; simp at this; omega
    have hk : (ks i)[j]? = some k := by
      have := List.drop_eq_getElem_cons hlt
      rw [this] at hr
      simp only [List.cons.injEq] at hr
      rw [List.getElem?_eq_getElem hlt, hr.1]
    have hr' : (ks i).drop (j + 1) = r := by
      have := List.drop_eq_getElem_cons hlt
      rw [this] at hr
      simp only [List.cons.injEq] at hr
      exact hr.2
    unfold kl
    split
    · rename_i hc
      have hkn : k.toNat < n := by omega
      obtain ⟨h1, h2⟩ := vis_ok (ks := ks) f 0 k.toNat w (Int.le_refl 0) h hkn hc.2.2 hf
      have r1 := hg ((i, j + 1) :: p) k.toNat w h hkn hc.2.2 hf
      refine .step (d := ((k.toNat, 0) :: (i, j + 1) :: p, into k.toNat w)) ?_ (r1.trans (reachW_kl hg r (j + 1) _ (by omega) hr' h1 (by omega)))
      simp only [stpW, hk]
      rw [if_pos hc]
    · rename_i hc
      refine .step (d := ((i, j + 1) :: p, w)) ?_ (reachW_kl hg r (j + 1) w (by omega) hr' h hf)
      simp only [stpW, hk]
      rw [if_neg hc]
theorem reachW_vis {n K : Nat} {ks : Nat → List Int} : ∀ (f : Nat) (p : List (Nat × Nat)) (i : Nat) (w : Wk), Low n K 0 w → i < n → w.inn.getD i 0 < 0 → negs w.inn ≤ f →
    ReachW n ks ((i, 0) :: p, into i w) (p, vis n ks f i w)
  | 0, p, i, w, h, hi, hn, hf => by
    have e := negs_set (I := w.inn) (by rw [h.1.li]; exact hi) hn h.1.c0
    omega
  | f + 1, p, i, w, h, hi, hn, hf => by
    obtain ⟨h1, h2, h3⟩ := h.1.into hi hn
    have hl : Low n K 0 (into i w) := ⟨h1, by have := h.2; simp only [into] at h2 ⊢; omega⟩
    have r1 := reachW_kl (p := p) (i := i) (fun p i w a b c d => reachW_vis (K := K) f p i w a b c d) (ks i) 0 (into i w) (Nat.zero_le _) rfl hl (by omega)
    refine r1.one ?_
    simp [stpW, vis]
def wkOf (n : Nat) (ks : Nat → List Int) : Wk := if n = 0 then w0 0 else vis n ks n 0 (w0 n)
theorem wk_end {n : Nat} {ks : Nat → List Int} (hn : 0 < n) {w : Wk} (h : ReachW n ks ([(0, 0)], into 0 (w0 n)) ([], w)) : w = wkOf n ks := by
  have h2 := reachW_vis (K := n) (ks := ks) n [] 0 (w0 n) (w0_ok n) hn (by simp [w0, List.getD_eq_getElem?_getD, hn]) (by simp [w0, negs_rep])
  have := h.det h2 rfl rfl
  simp only [Prod.mk.injEq, true_and] at this
  rw [this, wkOf, if_neg (by omega)]
theorem wk_list {n : Nat} {ks : Nat → List Int} : (wkOf n ks).l = orderOf n ks := by
  unfold wkOf orderOf
  split
  · simp [w0]
  · rfl
theorem getD_set {l : List Int} {i j : Nat} {x : Int} : (l.set i x).getD j 0 = if i = j ∧ i < l.length then x else l.getD j 0 := by
  simp only [List.getD_eq_getElem?_getD, List.getElem?_set]
  by_cases h : i = j
  · subst h
    by_cases h2 : i < l.length
    · simp [h2]
    · simp [h2]
  · simp [h]
structure WokW (n : Nat) (P : Nat) (w : Wk) : Prop where
  li : w.inn.length = n
  lo : w.out.length = n
  c1 : 1 ≤ w.c
  cu : w.c + 2 * (negs w.inn : Int) + P ≤ 2 * n
  no : ∀ i, i < n → w.inn.getD i 0 < 0 → w.out.getD i 0 = -1
theorem WokW.into {n P i : Nat} {w : Wk} (h : WokW n P w) (hi : i < n) (hn : w.inn.getD i 0 < 0) : WokW n (P + 1) (into i w) ∧ negs (Go.Proofs.YthclkpplpdnffaaGreatDoor.into i w).inn + 1 = negs w.inn := by
  have e := negs_set (I := w.inn) (c := w.c) (by rw [h.li]; exact hi) hn (by have := h.c1; omega)
  have h1 := h.cu
  have h2 := h.c1
  refine ⟨⟨by simp [Go.Proofs.YthclkpplpdnffaaGreatDoor.into, h.li], h.lo, ?_, ?_, fun j hj hlt => ?_⟩, e⟩
  · simp only [Go.Proofs.YthclkpplpdnffaaGreatDoor.into]; omega
  · simp only [Go.Proofs.YthclkpplpdnffaaGreatDoor.into]; omega
  · simp only [Go.Proofs.YthclkpplpdnffaaGreatDoor.into, getD_set] at hlt
    split at hlt
    · omega
    · exact h.no j hj hlt
theorem WokW.outof {n P i : Nat} {w : Wk} (h : WokW n (P + 1) w) (hi : 0 ≤ w.inn.getD i 0) : WokW n P (outof i w) := by
  have h1 := h.cu
  have h2 := h.c1
  refine ⟨h.li, by simp [Go.Proofs.YthclkpplpdnffaaGreatDoor.outof, h.lo], by simp only [Go.Proofs.YthclkpplpdnffaaGreatDoor.outof]; omega, by simp only [Go.Proofs.YthclkpplpdnffaaGreatDoor.outof]; omega, fun j hj hlt => ?_⟩
  have hlt' : w.inn.getD j 0 < 0 := hlt
  simp only [Go.Proofs.YthclkpplpdnffaaGreatDoor.outof, getD_set]
  rw [if_neg]
  · exact h.no j hj hlt'
  · rintro ⟨rfl, _⟩
    omega
theorem wokW0 {n : Nat} (hn : 0 < n) : WokW n 1 (into 0 (w0 n)) := by
  have e := negs_set (I := (w0 n).inn) (i := 0) (c := (w0 n).c) (by simpa [w0] using hn) (by simp [w0, List.getD_eq_getElem?_getD, hn]) (by simp [w0])
  have e2 : negs (w0 n).inn = n := negs_rep n
  refine ⟨by simp [into, w0], by simp [into, w0], by simp [into, w0], ?_, fun j hj _ => ?_⟩
  · show (w0 n).c + 1 + 2 * (negs ((w0 n).inn.set 0 (w0 n).c) : Int) + 1 ≤ 2 * n
    have : (w0 n).c = 0 := rfl
    omega
  · simp [into, w0, List.getD_eq_getElem?_getD, hj]
end Go.Proofs.YthclkpplpdnffaaGreatDoor
namespace Go.Proofs.YthclkpplpdnffaaGreatDoor
set_option linter.unusedSimpArgs false
set_option linter.unusedVariables false
open Go Go.RowKit
set_option maxRecDepth 100000
structure RoundsW (T : List (Entry Tryz.prog)) (t : Tr) (hc : Wk → List (Nat × Blk)) : Prop where
  ids : ∀ w, (hc w).map (·.1) = [3, 2, 1, 0]
  fit : ∀ w σ, lookN 0 σ = some 0 → lookN 1 σ = some 1 → lookN 2 σ = some 2 → lookN 3 σ = some 3 → ∀ e, e ∈ hc w → fitB σ [] e.2 e.2
  first : YieldAt (ctx T) 3 [stepV 0 (-1) 0 false] ⟨4, [[], hc (w0 t.length)]⟩ (.bool true) ⟨5, [[], hc (into 0 (w0 t.length))]⟩
  leave : ∀ (P : List (Nat × Nat)) (s : List Bool) (w : Wk) (c i : Nat), w.c = ((c + 1 : Nat) : Int) → c < 110 → i < t.length → w.inn.length = t.length → w.out.length = t.length → YieldAt (ctx T) 3 [stepV i 0 (cnt c) true] ⟨17, [fR P s, hc w]⟩ (.bool true) ⟨17, [fR P s, hc (outof i w)]⟩
  enter : ∀ (P : List (Nat × Nat)) (s : List Bool) (w : Wk) (c i u : Nat), w.c = ((c + 1 : Nat) : Int) → c < 110 → i < t.length → w.inn.length = t.length → w.out.length = t.length → w.out.getD i 0 = -1 → YieldAt (ctx T) 3 [stepV i u (cnt c) false] ⟨30, [fR P s, hc w]⟩ (.bool true) ⟨31, [fR P s, hc (into i w)]⟩
theorem get_hc {T : List (Entry Tryz.prog)} {t : Tr} {hc : Wk → List (Nat × Blk)} (R : RoundsW T t hc) {w : Wk} {e : Nat × Blk} (he : e ∈ hc w) : e.1 < 4 ∧ getF e.1 (hc w) = some e.2 := by
  have hi := R.ids w
  have hn : ([hc w].flatten.map (·.1)).Nodup := by simp [hi]
  refine ⟨?_, ?_⟩
  · have : e.1 ∈ (hc w).map (·.1) := List.mem_map_of_mem he
    rw [hi] at this
    simp at this
    omega
  · have := get_of_mem (fs := [hc w]) (b := e.1) (k := e.2) hn (by simpa using he)
    simp only [getFs] at this
    cases hg : getF e.1 (hc w) with
    | none => rw [hg] at this; cases this
    | some x => rw [hg] at this; exact this
theorem fit_W {T : List (Entry Tryz.prog)} {t : Tr} {hc : Wk → List (Nat × Blk)} (R : RoundsW T t hc) {m a b : Nat} {f : List (Nat × Blk)} {P : List (Nat × Nat)} {s : List Bool} {w : Wk}
    (ha : getF a f = some (.cells (frs P))) (hb : getF b f = some (.cells (bls s))) (hf : ∀ x, x < 4 → getF x f = none) (a3 : 3 < a) (b3 : 3 < b) (hab : a ≠ b) :
    FitH 4 [(a, 6), (b, 5), (3, 3), (2, 2), (1, 1), (0, 0)] [] ⟨m, [f, hc w]⟩ ⟨7, [fR P s, hc w]⟩ where
  nd1 := by simp; omega
  nd2 := by simp
  nd3 := by
    have := R.ids w
    simp [fR, Heap.ents, this]
  lt := by simp
  idn := by simp; omega
  num := by simp
  src := by
    intro e he
    simp only [fR, Heap.ents, List.flatten_cons, List.flatten_nil, List.append_nil, List.cons_append, List.nil_append, List.mem_cons] at he
    rcases he with rfl | rfl | he
    · exact ⟨a, .cells (frs P), by simp, by simp [Heap.get, getFs, ha], fitL_pure (pure_frs _)⟩
    · exact ⟨b, .cells (bls s), by simp, by simp [Heap.get, getFs, hb], fitL_pure (pure_bls _)⟩
    · obtain ⟨h4, hg⟩ := get_hc R he
      have e0 : ¬ a = 0 := by omega
      have e1 : ¬ a = 1 := by omega
      have e2 : ¬ a = 2 := by omega
      have e3 : ¬ a = 3 := by omega
      have g0 : ¬ b = 0 := by omega
      have g1 : ¬ b = 1 := by omega
      have g2 : ¬ b = 2 := by omega
      have g3 : ¬ b = 3 := by omega
      refine ⟨e.1, e.2, ?_, by simp [Heap.get, getFs, hf _ h4, hg], R.fit w _ (by simp [lookN, e0, g0]) (by simp [lookN, e1, g1]) (by simp [lookN, e2, g2]) (by simp [lookN, e3, g3]) e he⟩
      have : e.1 = 3 ∨ e.1 = 2 ∨ e.1 = 1 ∨ e.1 = 0 := by omega
      rcases this with h | h | h | h <;> simp [h]
  frz := fun x h => by cases h
theorem fit_endW {T : List (Entry Tryz.prog)} {t : Tr} {hc : Wk → List (Nat × Blk)} (R : RoundsW T t hc) {m : Nat} {f : List (Nat × Blk)} {w : Wk} (hf : ∀ x, x < 4 → getF x f = none) :
    FitH 4 [(3, 3), (2, 2), (1, 1), (0, 0)] [] ⟨m, [f, hc w]⟩ ⟨4, [hc w]⟩ where
  nd1 := by simp
  nd2 := by simp
  nd3 := by
    have := R.ids w
    simp [Heap.ents, this]
  lt := by simp
  idn := by simp
  num := by simp
  src := by
    intro e he
    simp only [Heap.ents, List.flatten_cons, List.flatten_nil, List.append_nil] at he
    obtain ⟨h4, hg⟩ := get_hc R he
    refine ⟨e.1, e.2, ?_, by simp [Heap.get, getFs, hf _ h4, hg], R.fit w _ (by simp [lookN]) (by simp [lookN]) (by simp [lookN]) (by simp [lookN]) e he⟩
    have : e.1 = 3 ∨ e.1 = 2 ∨ e.1 = 1 ∨ e.1 = 0 := by omega
    rcases this with h | h | h | h <;> simp [h]
  frz := fun x h => by cases h
structure Lw where
  P : List (Nat × Nat)
  G : List (Nat × Nat)
  cap : Cap
  w : Wk
  c : Nat
structure LokW (t : Tr) (x : Lw) : Prop where
  cap : x.cap = .rest 2 ∨ (x.cap = .ex 1 ∧ x.P.length + x.G.length = 1)
  r : ReachW t.length (kidsOf t) ([(0, 0)], into 0 (w0 t.length)) (x.P.reverse, x.w)
  p : ∀ e, e ∈ x.P → e.1 < t.length ∧ e.2 ≤ 1000
  c : x.w.c = ((x.c + 1 : Nat) : Int)
  k : WokW t.length x.P.length x.w
  q : ∀ e, e ∈ x.P → 0 ≤ x.w.inn.getD e.1 0
theorem fR_no {P : List (Nat × Nat)} {s : List Bool} : ∀ x, x < 4 → getF x (fR P s) = none := by
  intro x hx
  have h6 : Nat.beq 6 x = false := beqN_ne (by omega)
  have h5 : Nat.beq 5 x = false := beqN_ne (by omega)
  simp [fR, getF, h6, h5]
theorem f2_no {A B : Blk} : ∀ x, x < 4 → getF x [(6, A), (5, B)] = none := by
  intro x hx
  have h6 : Nat.beq 6 x = false := beqN_ne (by omega)
  have h5 : Nat.beq 5 x = false := beqN_ne (by omega)
  simp [getF, h6, h5]
theorem f3_no {a b c : Nat} {A B C : Blk} (ha : 3 < a) (hb : 3 < b) (hc : 3 < c) : ∀ x, x < 4 → getF x [(a, A), (b, B), (c, C)] = none := by
  intro x hx
  have h6 : Nat.beq a x = false := beqN_ne (by omega)
  have h5 : Nat.beq b x = false := beqN_ne (by omega)
  have h4 : Nat.beq c x = false := beqN_ne (by omega)
  simp [getF, h6, h5, h4]
theorem f4_no {a b c d : Nat} {A B C D : Blk} (ha : 3 < a) (hb : 3 < b) (hc : 3 < c) (hd : 3 < d) : ∀ x, x < 4 → getF x [(a, A), (b, B), (c, C), (d, D)] = none := by
  intro x hx
  have h6 : Nat.beq a x = false := beqN_ne (by omega)
  have h5 : Nat.beq b x = false := beqN_ne (by omega)
  have h4 : Nat.beq c x = false := beqN_ne (by omega)
  have h3 : Nat.beq d x = false := beqN_ne (by omega)
  simp [getF, h6, h5, h4, h3]
theorem seen_len (I : List Int) : (seenOf I).length = I.length := by simp [seenOf]
theorem walkW {T : List (Entry Tryz.prog)} (t : Tr) (hn : t.length ≤ 50) (hpos : 0 < t.length) (hkd : ∀ x, x ∈ t → x.kids.length ≤ 1000) (hc : Wk → List (Nat × Blk)) (hR0 : RoundsW T t hc) :
    CallAt (ctx T) 115 [.yld 3, .fptr [aNodes t] 0] ⟨4, [hc (w0 t.length)]⟩ (.tup []) ⟨4, [hc (wkOf t.length (kidsOf t))]⟩ := by
  have h1 := hR0.first
  simp only [stepV] at h1
  refine callAt_body (fn := Tryz.f115) (s0 := ⟨[0, 1, 3, 4, 5, 6, 7, 8, 9], [.yld 3, .fptr [aNodes t] 0, .undef, .undef, .undef, .undef, .undef, .undef, .undef], [], 118, ⟨4, [] :: [hc (w0 t.length)]⟩⟩) Tryz.func115 rfl rfl rfl ?_
  repeat refine wps_seq ?_
  refine wps_region (callOKY [⟨3, _, _, _, _, h1⟩]) ?_
  simp [zS, lenN, bS1, callY_hit, (show ¬ t.length = 0 by omega)]
  repeat refine wps_seq ?_
  refine wps_cond (t := false) rfl (fun h => by cases h) fun _ => ?_
  repeat refine wps_seq ?_
  refine wps_skip ?_
  simp
  repeat refine wps_seq ?_
  refine wps_region callOK ?_
  simp [zS, lenN, mkBool (show t.length ≤ 1000000 by omega)]
  have ix0 : ∀ b cap, indexAddrA Tryz.prog 97 (.slc b 0 t.length cap) (.int .i64 0) = some (.ptr b 0) := fun b cap => by simpa using ixB (b := b) (cap := cap) hpos
  have ly0 : layL [.bool true] 0 (bls (List.replicate t.length false)) = some (bls ((List.replicate t.length false).set 0 true)) := layB (by simpa using hpos)
  have sn0 : (List.replicate t.length false).set 0 true = seenOf (into 0 (w0 t.length)).inn := by
    show _ = seenOf ((w0 t.length).inn.set 0 (w0 t.length).c)
    rw [seen_set (by simp [w0]), seen_w0]
  rw [sn0] at ly0
  repeat refine wps_seq ?_
  refine wps_region callOK ?_
  simp [zS, ix0, ly0]
  repeat refine wps_seq ?_
  refine wps_region callOK ?_
  simp [zS]
  repeat refine wps_seq ?_
  refine wps_region callOK ?_
  simp [zS, bF0]
  repeat refine wps_seq ?_
  refine wps_block (wps_loop' (fun x : Lw => (⟨[0, 1, 3, 4, 5, 6, 7, 8, 9], [.yld 3, .fptr [aNodes t] 0, .slc 5 0 t.length (.ex t.length), .float .f64 (cnt x.c), .slc 6 0 x.P.length x.cap, .undef, .undef, .undef, .undef], [], 118, ⟨7, [fR (x.P ++ x.G) (seenOf x.w.inn), hc x.w]⟩⟩ : St))
    (LokW t) (fun x => unseen (seenOf x.w.inn) * 1002 + sm x.P) [(6, 6), (5, 5), (3, 3), (2, 2), (1, 1), (0, 0)] [] ⟨[(0, 0)], [], .ex 1, into 0 (w0 t.length), 0⟩
    ⟨.inr ⟨rfl, rfl⟩, .refl _, by simp; omega, rfl, wokW0 hpos, by simp [into, w0, List.getD_eq_getElem?_getD, hpos]⟩
    ⟨rfl, rfl, rfl, by simp [fitL, fitV, lookN, pureV, pureL, cnt], fit_W hR0 (m := 7) (a := 6) (b := 5) (P := [(0, 0)]) (s := seenOf (into 0 (w0 t.length)).inn) (f := [(6, .cells [.int .i64 0, .int .i64 0]), (5, .cells (bls (seenOf (into 0 (w0 t.length)).inn)))]) rfl rfl f2_no (by omega) (by omega) (by omega)⟩ ?_)
  rintro ⟨P, G, cap, w, c⟩ hx B hB
  have hcap := hx.cap
  have hr := hx.r
  have hpp := hx.p
  have hcc := hx.c
  have hk := hx.k
  have hq := hx.q
  simp only at hcap hr hpp hcc hk hq
  have hcb : c < 110 := by have := hk.cu; have := hk.c1; omega
  have hs : (seenOf w.inn).length = t.length := by rw [seen_len, hk.li]
  obtain ⟨s, hsE⟩ : ∃ s, s = seenOf w.inn := ⟨_, rfl⟩
  rw [← hsE] at hs hB ⊢
  rcases List.eq_nil_or_concat P with rfl | ⟨pre, ⟨i, j⟩, rfl⟩
  · repeat refine wps_seq ?_
    refine wps_region callOK ?_
    simp [zS, fR, lenA]
    repeat refine wps_seq ?_
    refine wps_cond (t := false) rfl (fun h => by cases h) fun _ => ?_
    repeat refine wps_seq ?_
    refine wps_exit ?_
    simp
    have hae : w = wkOf t.length (kidsOf t) := wk_end hpos hr
    rw [← hae]
    exact ⟨[], rfl, [(3, 3), (2, 2), (1, 1), (0, 0)], [], by simp [oneOr, fitV, fitL], fit_endW hR0 (m := 7) (f := fR G s) fR_no⟩
  · have hij := hpp (i, j) (by simp)
    have hi : i < t.length := hij.1
    have hj : j ≤ 1000 := hij.2
    simp only [List.concat_eq_append, List.length_append, List.length_singleton] at hcap hk
    have hpl : pre.length ≤ 900 := by have := hk.cu; have := hk.c1; omega
    have hw : wr .i64 (pre.length : Int) = some (pre.length : Int) := wr_small (by omega) (by omega)
    repeat refine wps_seq ?_
    refine wps_region callOK ?_
    simp [zS, fR, lenA]
    repeat refine wps_seq ?_
    refine wps_cond rfl (fun h => ?_) fun h => ?_
    · repeat refine wps_seq ?_
      refine wps_skip ?_
      simp
      repeat refine wps_seq ?_
      refine wps_block ?_
      repeat refine wps_seq ?_
      refine wps_region callOK ?_
      simp [zS, lenA, hw, ixF (show pre.length < pre.length + 1 by omega)]
      repeat refine wps_seq ?_
      refine wps_drawn mixed callOK (by decide +kernel) fun B_ hB_ => ?_
      simp [zS, mkBlk, guardA, evalD, stepD, clsOf, reserve, freshenAll, sameRecs, sameAll, sameAt, allPend, Heap.lay, ontoF, wantedBy, unwantedBy, getFr0, atN hi, Nd.cs, kidsOf_at hi]
      repeat refine wps_seq ?_
      refine wps_region callOK ?_
      simp [zS, getFr1, lenI]
      simp only [List.concat_eq_append, List.reverse_append, List.reverse_cons, List.reverse_nil, List.nil_append, List.singleton_append] at hr
      by_cases hjk : j < (kidsOf t i).length
      · obtain ⟨k, hkj⟩ : ∃ k, k = (kidsOf t i)[j] := ⟨_, rfl⟩
        have hk? : (kidsOf t i)[j]? = some k := by rw [List.getElem?_eq_getElem hjk, hkj]
        have hkl : (kidsOf t i).length ≤ 1000 := by rw [← kidsOf_at hi]; exact hkd _ (List.getElem_mem hi)
        repeat refine wps_seq ?_
        refine wps_cond (t := false) (by simp [opnd, St.get]; omega) (fun h => by cases h) fun _ => ?_
        repeat refine wps_seq ?_
        refine wps_skip ?_
        simp
        repeat refine wps_seq ?_
        refine wps_drawn mixed callOK (by decide +kernel) fun B_ hB_ => ?_
        simp [zS, mkBlk, guardA, evalD, stepD, clsOf, reserve, freshenAll, sameRecs, sameAll, sameAt, allPend, Heap.lay, ontoF, wantedBy, unwantedBy, getFr0, getFr1, atI hjk, ← hkj]
        have hly : layL [.int .i64 ((j : Int) + 1)] (pre.length * 2 + 1) (frs (pre ++ (i, j) :: G)) = some (frs (pre ++ (i, j + 1) :: G)) := by simpa using layFr (i := i) (j := j) (v := j + 1) (G := G) pre
        repeat refine wps_seq ?_
        refine wps_region callOK ?_
        simp [zS, getFr1, add_one (show j ≤ 1000000000 by omega), hly]
        have skipit : ∀ (hst : stpW t.length (kidsOf t) ((i, j) :: pre.reverse, w) = some ((i, j + 1) :: pre.reverse, w)), LokW t ⟨pre ++ [(i, j + 1)], G, cap, w, c⟩ := fun hst =>
          ⟨by simpa using hcap, by simpa using hr.one hst, fun e he => by
            rcases List.mem_append.1 he with he | he
            · exact hpp e (by simp [he])
            · simp at he; subst he; exact ⟨hi, by omega⟩, hcc, by simpa using hk, fun e he => by
            rcases List.mem_append.1 he with he | he
            · exact hq e (by simp [he])
            · simp at he; subst he; exact hq (i, j) (by simp)⟩
        by_cases h0 : k < 0
        · have hst : stpW t.length (kidsOf t) ((i, j) :: pre.reverse, w) = some ((i, j + 1) :: pre.reverse, w) := by
            simp only [stpW, hk?]; rw [if_neg (fun hx => by omega)]
          repeat refine wps_seq ?_
          refine wps_region callOK ?_
          simp [zS, h0]
          repeat refine wps_seq ?_
          refine wps_cond (t := true) rfl (fun _ => ?_) fun h => by cases h
          repeat refine wps_seq ?_
          refine wps_exit ?_
          simp
          exact hB _ ⟨pre ++ [(i, j + 1)], G, cap, w, c⟩ (by simp only [List.concat_eq_append, sm_app, sm, ← hsE]; omega) (skipit hst) ⟨[(6, 6), (5, 5), (3, 3), (2, 2), (1, 1), (0, 0)], [], rfl, rfl, rfl, by simp [fitL, fitV, lookN, pureV, pureL], fit_W hR0 (m := 30) (a := 6) (b := 5) (P := pre ++ [(i, j + 1)] ++ G) (w := w) (s := seenOf w.inn) (f := [(6, .cells (frs (pre ++ (i, j + 1) :: G))), (5, .cells (bls s))]) (by simp [getF]) (by rw [hsE]; rfl) f2_no (by omega) (by omega) (by omega)⟩
        · obtain ⟨m, rfl⟩ := Int.eq_ofNat_of_zero_le (show 0 ≤ k by omega)
          by_cases h1 : m < t.length
          · have h1' : ¬ t.length ≤ m := by omega
            have hsg := seen_get (I := w.inn) (i := m) (by rw [hk.li]; exact h1)
            rw [← hsE] at hsg
            by_cases h2 : s.getD m true = false
            · have h2' : s[m]'(by omega) = false := by rw [List.getD_eq_getElem?_getD, List.getElem?_eq_getElem (by omega), Option.getD_some] at h2; exact h2
              have hin := hsg.1 h2
              repeat refine wps_seq ?_
              refine wps_region callOK ?_
              simp [zS, lenN, (show ¬ ((m : Int) < 0) by omega), h1', ixB h1, getB (show m < s.length by omega), h2']
              repeat refine wps_seq ?_
              refine wps_cond (t := false) rfl (fun h => by cases h) fun _ => ?_
              repeat refine wps_seq ?_
              refine wps_skip ?_
              simp
              have hlb := layB (s := s) (i := m) (by omega)
              repeat refine wps_seq ?_
              refine wps_region callOK ?_
              simp [zS, ixB h1, hlb]
              have hy := hR0.enter (pre ++ (i, j + 1) :: G) (s.set m true) w c m i hcc hcb h1 hk.li hk.lo (hk.no m h1 hin)
              simp only [fR, stepV] at hy
              repeat refine wps_seq ?_
              refine wps_region (callOKY [⟨3, _, _, _, _, hy⟩]) ?_
              simp [zS, bS3, callY_hit]
              repeat refine wps_seq ?_
              refine wps_cond (t := false) rfl (fun h => by cases h) fun _ => ?_
              repeat refine wps_seq ?_
              refine wps_skip ?_
              simp
              repeat refine wps_seq ?_
              refine wps_region callOK ?_
              simp [zS, cnt_bin (show c < 120 by omega)]
              have hus := unseen_set (s := s) (i := m) (by omega) h2
              have hs2 : s.set m true = seenOf (into m w).inn := by
                show _ = seenOf (w.inn.set m w.c)
                rw [seen_set (by have := hk.c1; omega), hsE]
              obtain ⟨hk2, _⟩ := hk.into h1 hin
              have hst : stpW t.length (kidsOf t) ((i, j) :: pre.reverse, w) = some ((m, 0) :: (i, j + 1) :: pre.reverse, into m w) := by
                simp only [stpW, hk?]
                rw [if_pos ⟨by omega, by omega, by simpa using hin⟩]
                simp
              have hok : ∀ G' cap', (cap' = .rest 2) → LokW t ⟨pre ++ [(i, j + 1)] ++ [(m, 0)], G', cap', into m w, c + 1⟩ := fun G' cap' hc' =>
                ⟨.inl hc', by simpa using hr.one hst, fun e he => by
                  simp only [List.mem_append, List.mem_singleton] at he
                  rcases he with (he | he) | he
                  · exact hpp e (by simp [he])
                  · subst he; exact ⟨hi, by omega⟩
                  · subst he; exact ⟨h1, Nat.zero_le _⟩, by simp only [into, hcc]; omega, by simpa using hk2, fun e he => by
                  have h2 := hk.c1
                  simp only [into, getD_set]
                  split
                  · omega
                  · rename_i hne
                    simp only [List.mem_append, List.mem_singleton] at he
                    rcases he with (he | he) | he
                    · exact hq e (by simp [he])
                    · subst he; exact hq (i, j) (by simp)
                    · subst he; exact absurd ⟨rfl, by rw [hk.li]; exact h1⟩ hne⟩
              have hme : unseen (seenOf (into m w).inn) * 1002 + sm (pre ++ [(i, j + 1)] ++ [(m, 0)]) < unseen s * 1002 + sm (pre.concat (i, j)) := by
                rw [← hs2]
                simp only [List.concat_eq_append, sm_app, sm]; omega
              have hcap2 : cap = .rest 2 ∨ (cap = .ex 1 ∧ pre.length + 1 + G.length = 1) := hcap
              rw [hs2]
              obtain ⟨s', hs'⟩ : ∃ s', s' = seenOf (into m w).inn := ⟨_, rfl⟩
              rw [← hs']
              rcases hcap2 with hcq | ⟨hc1, hc2⟩
              · subst hcq
                cases G with
                | cons g G' =>
                  have hap := appP1 (l := pre ++ [(i, j + 1)]) (G := G') (g := g) (m := m) (s := s') (f0 := hc (into m w)) (by simp; omega)
                  simp only [List.length_append, List.length_singleton, List.append_assoc, List.singleton_append] at hap
                  repeat refine wps_seq ?_
                  refine wps_region callOK ?_
                  simp [zS, bF1, hap]
                  exact hB _ ⟨pre ++ [(i, j + 1)] ++ [(m, 0)], G', .rest 2, into m w, c + 1⟩ hme (hok _ _ rfl) ⟨[(6, 6), (5, 5), (3, 3), (2, 2), (1, 1), (0, 0)], [], rfl, rfl, rfl, by simp [fitL, fitV, lookN, pureV, pureL], by rw [← hs']; exact FitH.eqL (by simp) (fit_W hR0 (m := 32) (a := 6) (b := 5) (P := pre ++ [(i, j + 1)] ++ [(m, 0)] ++ G') (s := s') (f := [(31, .cells [.int .i64 (m : Int), .int .i64 0]), (6, .cells (frs (pre ++ (i, j + 1) :: (m, 0) :: G'))), (5, .cells (bls s'))]) (by simp [getF]) rfl (f3_no (by omega) (by omega) (by omega)) (by omega) (by omega) (by omega))⟩
                | nil =>
                  have hap := appP2 (l := pre ++ [(i, j + 1)]) (m := m) (s := s') (f0 := hc (into m w)) (by simp; omega)
                  simp only [List.length_append, List.length_singleton, List.append_assoc, List.singleton_append] at hap
                  repeat refine wps_seq ?_
                  refine wps_region callOK ?_
                  simp [zS, bF1, hap]
                  exact hB _ ⟨pre ++ [(i, j + 1)] ++ [(m, 0)], [], .rest 2, into m w, c + 1⟩ hme (hok _ _ rfl) ⟨[(32, 6), (5, 5), (3, 3), (2, 2), (1, 1), (0, 0)], [], rfl, rfl, rfl, by simp [fitL, fitV, lookN, pureV, pureL], by rw [← hs']; exact FitH.eqL (by simp) (fit_W hR0 (m := 33) (a := 32) (b := 5) (P := pre ++ [(i, j + 1)] ++ [(m, 0)] ++ []) (s := s') (f := [(32, .cells (frs (pre ++ [(i, j + 1), (m, 0)]))), (31, .cells [.int .i64 (m : Int), .int .i64 0]), (5, .cells (bls s'))]) (by simp [getF]) rfl (f3_no (by omega) (by omega) (by omega)) (by omega) (by omega) (by omega))⟩
              · have hG : G = [] := List.length_eq_zero_iff.1 (by omega)
                have hpre : pre = [] := List.length_eq_zero_iff.1 (by omega)
                subst hc1 hG hpre
                have hap := appP3 (l := [(i, j + 1)]) (m := m) (s := s') (f0 := hc (into m w)) rfl
                simp only [List.length_append, List.length_singleton, List.append_assoc, List.singleton_append] at hap
                repeat refine wps_seq ?_
                refine wps_region callOK ?_
                simp [zS, bF1, hap]
                exact hB _ ⟨[] ++ [(i, j + 1)] ++ [(m, 0)], [], .rest 2, into m w, c + 1⟩ hme (hok _ _ rfl) ⟨[(32, 6), (5, 5), (3, 3), (2, 2), (1, 1), (0, 0)], [], rfl, rfl, rfl, by simp [fitL, fitV, lookN, pureV, pureL], by rw [← hs']; exact FitH.eqL (by simp) (fit_W hR0 (m := 33) (a := 32) (b := 5) (P := [] ++ [(i, j + 1)] ++ [(m, 0)] ++ []) (s := s') (f := [(32, .cells (frs [(i, j + 1), (m, 0)])), (31, .cells [.int .i64 (m : Int), .int .i64 0]), (6, .cells (frs [(i, j + 1)])), (5, .cells (bls s'))]) (by simp [getF]) rfl (f4_no (by omega) (by omega) (by omega) (by omega)) (by omega) (by omega) (by omega))⟩
            · have h2s : s.getD m true = true := by cases hh : s.getD m true with
                | true => rfl
                | false => exact absurd hh h2
              have h2' : s[m]'(by omega) = true := by rw [List.getD_eq_getElem?_getD, List.getElem?_eq_getElem (by omega), Option.getD_some] at h2s; exact h2s
              have hst : stpW t.length (kidsOf t) ((i, j) :: pre.reverse, w) = some ((i, j + 1) :: pre.reverse, w) := by
                simp only [stpW, hk?]; rw [if_neg (fun hx => h2 (hsg.2 (by simpa using hx.2.2)))]
              repeat refine wps_seq ?_
              refine wps_region callOK ?_
              simp [zS, lenN, (show ¬ ((m : Int) < 0) by omega), h1', ixB h1, getB (show m < s.length by omega), h2']
              repeat refine wps_seq ?_
              refine wps_cond (t := true) rfl (fun _ => ?_) fun h => by cases h
              repeat refine wps_seq ?_
              refine wps_exit ?_
              simp
              exact hB _ ⟨pre ++ [(i, j + 1)], G, cap, w, c⟩ (by simp only [List.concat_eq_append, sm_app, sm, ← hsE]; omega) (skipit hst) ⟨[(6, 6), (5, 5), (3, 3), (2, 2), (1, 1), (0, 0)], [], rfl, rfl, rfl, by simp [fitL, fitV, lookN, pureV, pureL], fit_W hR0 (m := 30) (a := 6) (b := 5) (P := pre ++ [(i, j + 1)] ++ G) (w := w) (s := seenOf w.inn) (f := [(6, .cells (frs (pre ++ (i, j + 1) :: G))), (5, .cells (bls s))]) (by simp [getF]) (by rw [hsE]; rfl) f2_no (by omega) (by omega) (by omega)⟩
          · have h1' : t.length ≤ m := by omega
            have hst : stpW t.length (kidsOf t) ((i, j) :: pre.reverse, w) = some ((i, j + 1) :: pre.reverse, w) := by
              simp only [stpW, hk?]; rw [if_neg (fun hx => by omega)]
            repeat refine wps_seq ?_
            refine wps_region callOK ?_
            simp [zS, lenN, (show ¬ ((m : Int) < 0) by omega), h1']
            repeat refine wps_seq ?_
            refine wps_cond (t := true) rfl (fun _ => ?_) fun h => by cases h
            repeat refine wps_seq ?_
            refine wps_exit ?_
            simp
            exact hB _ ⟨pre ++ [(i, j + 1)], G, cap, w, c⟩ (by simp only [List.concat_eq_append, sm_app, sm, ← hsE]; omega) (skipit hst) ⟨[(6, 6), (5, 5), (3, 3), (2, 2), (1, 1), (0, 0)], [], rfl, rfl, rfl, by simp [fitL, fitV, lookN, pureV, pureL], fit_W hR0 (m := 30) (a := 6) (b := 5) (P := pre ++ [(i, j + 1)] ++ G) (w := w) (s := seenOf w.inn) (f := [(6, .cells (frs (pre ++ (i, j + 1) :: G))), (5, .cells (bls s))]) (by simp [getF]) (by rw [hsE]; rfl) f2_no (by omega) (by omega) (by omega)⟩
      · have hy := hR0.leave (pre ++ (i, j) :: G) s w c i hcc hcb hi hk.li hk.lo
        simp only [fR, stepV] at hy
        repeat refine wps_seq ?_
        refine wps_cond (t := true) (by simp [opnd, St.get]; omega) (fun _ => ?_) fun h => by cases h
        repeat refine wps_seq ?_
        refine wps_region (callOKY [⟨3, _, _, _, _, hy⟩]) ?_
        simp [zS, getFr0, bS2, callY_hit]
        repeat refine wps_seq ?_
        refine wps_cond (t := false) rfl (fun h => by cases h) fun _ => ?_
        repeat refine wps_seq ?_
        refine wps_skip ?_
        simp
        have hc2 : cap = .rest 2 ∨ (cap = .ex 1 ∧ pre.length + 1 + G.length = 1) := hcap
        have hsl : ∀ m, sliceA Tryz.prog ⟨m, [[(6, .cells (frs (pre ++ (i, j) :: G))), (5, .cells (bls s))], hc (outof i w)]⟩ 140 (.slc 6 0 (pre.length + 1) cap) none (some (.int .i64 (pre.length : Int))) none = some (.slc 6 0 pre.length cap) := fun m =>
          slPath (cs := frs (pre ++ (i, j) :: G)) (kn := pre.length + 1 + G.length) (by simp [Heap.get, getFs, getF]) (by rw [len_frs]; simp; omega) (by omega) hc2
        repeat refine wps_seq ?_
        refine wps_region callOK ?_
        simp [zS, lenA, hw, opndO, hsl]
        repeat refine wps_seq ?_
        refine wps_region callOK ?_
        simp [zS, cnt_bin (show c < 120 by omega)]
        repeat refine wps_seq ?_
        refine wps_exit ?_
        simp
        refine hB _ ⟨pre, (i, j) :: G, cap, outof i w, c + 1⟩ ?_ ⟨?_, ?_, fun e he => hpp e (by simp [he]), by simp only [outof, hcc]; omega, hk.outof (hq (i, j) (by simp)), fun e he => hq e (by simp [he])⟩ ⟨[(6, 6), (5, 5), (3, 3), (2, 2), (1, 1), (0, 0)], [], rfl, rfl, rfl, by simp [fitL, fitV, lookN, pureV, pureL], fit_W hR0 (m := 17) (a := 6) (b := 5) (P := pre ++ (i, j) :: G) (w := outof i w) (s := seenOf (outof i w).inn) (f := fR (pre ++ (i, j) :: G) s) rfl (by rw [hsE]; rfl) fR_no (by omega) (by omega) (by omega)⟩
        · show unseen (seenOf w.inn) * 1002 + _ < unseen s * 1002 + _
          rw [← hsE]
          simp only [List.concat_eq_append, sm_app, sm]; omega
        · simp only [List.length_cons]; rcases hc2 with h | ⟨h, h'⟩
          · exact .inl h
          · exact .inr ⟨h, by omega⟩
        · refine hr.one ?_
          have : (kidsOf t i)[j]? = none := List.getElem?_eq_none (by omega)
          simp [stpW, this]
    · simp at h
end Go.Proofs.YthclkpplpdnffaaGreatDoor
