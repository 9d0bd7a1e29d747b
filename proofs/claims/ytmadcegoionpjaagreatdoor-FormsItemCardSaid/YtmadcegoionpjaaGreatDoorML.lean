/- What the listed variables give; the frame of a law whose row lists variables. No condition. -/
import Derived.Test.YtmadcegoionpjaaGreatDoorRows
import Derived.Test.YtmadcegoionpjaaGreatDoorTie
import Derived.Test.YtmadcegoionpjaaGreatDoorCards
import Derived.Test.YtmadcegoionpjaaGreatDoorMH
import Derived.HandedShaped
import Derived.Shelf.Vars
import Derived.ChangeMaps5
import Derived.LaidMore
import Derived.Stop.LaidErr
import Derived.SevenTiedAt
namespace Go.Proofs.YtmadcegoionpjaaGreatDoor
set_option linter.unusedSimpArgs false
set_option linter.unusedVariables false
open Go Go.RowKit Go.ChangeShapes Go.WideShapes Go.ChangeAt
set_option maxRecDepth 100000

theorem own_ : ownKnob Tryz.prog.godebug = none := by kernel_rfl
theorem laid_ : laidOutB Tryz.prog = true := by kernel_rfl
theorem starE : "*" ++ "errors.errorString" = "*errors.errorString" := by decide
theorem rowE (u : TypeId) (h : Tryz.prog.typeName? 3 u = some "*errors.errorString") : u = 177 :=
  typeName_ptr_named (nm := "errors.errorString") (by rw [starE]; kernel_rfl) (by kernel_rfl) (by decide) u (by rw [starE]; exact h)
theorem gRange : Tryz.prog.globalNamed "strconv.ErrRange" = some 1 := by kernel_rfl
theorem gSyntax : Tryz.prog.globalNamed "strconv.ErrSyntax" = some 0 := by kernel_rfl
theorem tRange : (Tryz.prog.globals[1]?).map (·.type) = some 53 := by kernel_rfl
theorem tSyntax : (Tryz.prog.globals[0]?).map (·.type) = some 53 := by kernel_rfl
theorem cellsES : Tryz.prog.cellsOf 179 = 1 := by kernel_rfl
abbrev laid5 : List (String × DataW Unit) := [("math/bits.deBruijn32tab", Rows.laid_math_bits_deBruijn32tab), ("math/bits.deBruijn64tab", Rows.laid_math_bits_deBruijn64tab), ("internal/strconv.uint64pow10", Rows.laid_internal_strconv_uint64pow10), ("strconv.ErrRange", Rows.laid_strconv_ErrRange), ("strconv.ErrSyntax", Rows.laid_strconv_ErrSyntax)]
theorem if_of_var {W : World} {n : String} {g : Nat} {t : TypeId} {p : Value} (hg : Tryz.prog.globalNamed n = some g) (h : W.var? Tryz.prog n = some #[.iface t p]) : ∃ v, W.cell? ⟨g, 0, none⟩ = some v ∧ isIf v := by
  have := World.var?_cell hg h 0
  exact ⟨_, by simpa using this, .inr ⟨_, _, rfl⟩⟩
theorem hgs {W : World} (hsh : W.ShapedOpen Tryz.prog) (hL : laidMetH Tryz.prog laid5 W) : GlobsIn W where
  gl := by
    intro g h
    simp [globs] at h
    subst h
    exact cell_of_shapedOpen_int (P := Tryz.prog) (g := 3) (t := 3) (zero := #[.int .i64 0]) hsh (of_decide_eq_true (by kernel_rfl)) (by kernel_rfl) rfl (by kernel_rfl) (by kernel_rfl) Tryz.underlying3
  gi := by
    intro g h
    rw [MakeChecks.laidMetH_plain _ _ _ (by kernel_rfl)] at hL
    have h3 := hL.tail.tail.tail
    obtain ⟨a0, s0, hv0, _⟩ := laid_sentinel h3 gRange tRange Tryz.underlying53 rowE Tryz.underlying177 Tryz.underlying179 rfl rfl Tryz.underlying9 cellsES cells_str1
    obtain ⟨a1, s1, hv1, _⟩ := laid_sentinel h3.tail gSyntax tSyntax Tryz.underlying53 rowE Tryz.underlying177 Tryz.underlying179 rfl rfl Tryz.underlying9 cellsES cells_str1
    simp [ivars] at h
    rcases h with rfl | rfl
    · exact if_of_var gSyntax hv1
    · exact if_of_var gRange hv0
theorem door_met (os : Os) (args : Array Value) : laidMetH Tryz.prog laid5 ((World.doorLaid Tryz.prog 4000 os).forCall (fun _ _ => 0) ⟨#[], args, []⟩).memory :=
  laidMetH_of_parts3 (fuel := 8) (laidMet_of_run' 8 (by kernel_rfl) (by kernel_rfl)) (by kernel_rfl) (by kernel_rfl)
theorem door_shaped (os : Os) (args : Array Value) : ((World.doorLaid Tryz.prog 4000 os).forCall (fun _ _ => 0) ⟨#[], args, []⟩).Shaped Tryz.prog := World.shaped_of_RefB (by kernel_rfl) (by kernel_rfl)
theorem returns_and_shaped {H : Type} {enc : TypeId × Value → H} {a : Assume} {C : Checked} {os : Os} {f : FuncId} {fn : Func} {s : ChangeSpec} {conds : List PathCond} {apart fresh handsOn again : Bool} {X : World → Array Value → Prop}
    (hX : ∀ (w w' : World) (args : Array Value), w.heap = w'.heap → X w args → X w' args)
    (own : ownKnob C.prog.godebug = none) (started : os.Started) (noInit : C.prog.inits.idxOf? f = none) (hfn : C.prog.funcs[f]? = some fn)
    (witness : ∃ (w : World) (tape : Tape) (i : Input), w.os = os ∧ (w.forCall tape i).Shaped C.prog ∧ i.vars = [] ∧ Input.okWide C.prog (w.forCall tape i) .any w.heap.size f i ∧
      ((s.pre enc C.prog fn conds apart (w.forCall tape i).memory i.args ∧ X (w.forCall tape i).memory i.args) ∧ sizedMet enc C.prog fn (OpenSpec.ofChange s) apart (w.forCall tape i).memory i.args) ∧ a.holds C.prog (lone (Frame.enter C.prog f i.args .normal) [] (w.forCall tape i)))
    (contract : ∀ (W : World) (base : Nat) (args : Array Value) (ds gs : List (DataW H)) (before : List MemPlace),
      (∀ (j : Nat) t v, fn.params[j]? = some t → args[j]? = some v → Value.okWide C.prog W .any base t v) →
      DataW.Whole enc C.prog fn.params.toList s.vars apart W args.toList ds gs before → W.ShapedOpen C.prog → X W args →
      Calls C.prog f args W fun e W' => ∃ v, e = .returned v ∧ s.post enc C.prog fn apart fresh handsOn again W args v W') :
    ReturnsInHanded a C os f .any (fun w args => (s.pre enc C.prog fn conds apart w args ∧ X w args) ∧ sizedMet enc C.prog fn (OpenSpec.ofChange s) apart w args) (s.post enc C.prog fn apart fresh handsOn again) := by
  refine returnsInHanded_of_calls own started noInit witness ?_
  intro w tape i _ hsh _ hok hpre hholds
  obtain ⟨_, _, _, fn', hfn', _, _, _, _, hval⟩ := hok
  have e : fn' = fn := Option.some.inj (hfn'.symm.trans hfn)
  subst e
  obtain ⟨⟨⟨ds, gs, before, hw, hc⟩, hx⟩, hz⟩ := hpre
  have hw' := DataW.Whole.of_heap (w' := w.forCall tape i) (by rfl) hw
  refine (contract (w.forCall tape i) w.heap.size i.args ds gs before hval hw' hsh (hX _ _ _ (by rfl) hx)).mono fun e W' ⟨v, he, hp⟩ => ?_
  subst he
  exact ChangeSpec.post_blind hp
section
variable {H : Type} {enc : TypeId × Value → H} {W : World} {hg : GlobsIn W}
theorem okInts : okTy Tryz.prog 4 25 = true := by kernel_rfl
theorem argInts {b0 base : Nat} {sp : Nat → Bool} {held : Bool} {v : Value} {d : DataW H} {ps : List MemPlace} (ht : DataW.Trod enc Tryz.prog W base sp held 25 v d ps) (hv : Value.okWide Tryz.prog W .any b0 25 v) : ∃ l, VR (start W hg) (aInts l) v := by
  obtain ⟨qs, a, h1, h2, h3⟩ := arg_shape (hg := hg) okInts (ag := false) agT25 (fun _ => by kernel_rfl) ht hv
  obtain ⟨L, rfl⟩ := shape_ints (n := 2) h1
  simp only [wrapA, aInts, AV.single, Option.some.injEq] at h2
  exact ⟨L, by rw [aInts, h2]; exact h3⟩
def aStrs1 (l : List Str) : AV := .fslc 1 (l.map .str)
theorem okStrs : okTy Tryz.prog 4 43 = true := by kernel_rfl
theorem argStrs {b0 base : Nat} {sp : Nat → Bool} {held : Bool} {v : Value} {d : DataW H} {ps : List MemPlace} (ht : DataW.Trod enc Tryz.prog W base sp held 43 v d ps) (hv : Value.okWide Tryz.prog W .any b0 43 v) : ∃ l, VR (start W hg) (aStrs1 l) v := by
  obtain ⟨qs, a, h1, h2, h3⟩ := arg_shape (hg := hg) okStrs (ag := false) agT43 (fun _ => by kernel_rfl) ht hv
  obtain ⟨L, rfl⟩ := shape_slice (n := 3) (enc := AV.str) (ag := false) Tryz.underlying43 agT9 (fun cs x h hw => by
    obtain ⟨a, rfl⟩ := shape_str h
    simp only [wrapA, AV.single, Option.some.injEq] at hw
    exact ⟨a, hw.symm⟩) h1
  rw [cells_str1] at h2
  simp only [wrapA, AV.single, Option.some.injEq] at h2
  exact ⟨L, by rw [aStrs1, h2]; exact h3⟩
end
end Go.Proofs.YtmadcegoionpjaaGreatDoor
