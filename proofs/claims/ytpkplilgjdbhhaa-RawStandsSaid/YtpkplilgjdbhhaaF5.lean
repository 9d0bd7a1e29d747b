/- Tables: entries, and what they answer. No condition. -/
import Derived.Test.YtpkplilgjdbhhaaF4
namespace Go.Proofs.Ytpkplilgjdbhhaa
set_option linter.unusedSimpArgs false
set_option linter.unusedVariables false
open Go Go.RowKit
attribute [simp] fitV_pure fitL_pure
@[simp] theorem fitV_undef {σ : List (Nat × Nat)} {Φ : List (Nat × List AV)} {v : AV} : fitV σ Φ v .undef := by cases v <;> simp [fitV]

theorem takeL_all {α : Type} : ∀ (l : List α), takeL l.length l = some l
  | [] => rfl
  | x :: r => by simp [takeL, takeL_all r]
@[simp] theorem cells_agg (cs : List AV) : AV.cells (.agg cs) = cs := rfl
@[simp] theorem cells_str (s : List UInt8) : AV.cells (.str s) = [.str s] := rfl
@[simp] theorem cells_int (k : IntKind) (n : Int) : AV.cells (.int k n) = [.int k n] := rfl
@[simp] theorem cells_bool (b : Bool) : AV.cells (.bool b) = [.bool b] := rfl
@[simp] theorem cells_ptr (b o : Nat) : AV.cells (.ptr b o) = [.ptr b o] := rfl
@[simp] theorem cells_fptr (cs : List AV) (o : Nat) : AV.cells (.fptr cs o) = [.fptr cs o] := rfl
@[simp] theorem cells_slc (b o n : Nat) (c : Cap) : AV.cells (.slc b o n c) = [.slc b o n c] := rfl
@[simp] theorem cells_fslc (n : Nat) (es : List AV) : AV.cells (.fslc n es) = [.fslc n es] := rfl
@[simp] theorem cells_nilS  : AV.cells (.nilS) = [.nilS] := rfl
@[simp] theorem cells_nilP  : AV.cells (.nilP) = [.nilP] := rfl
@[simp] theorem cells_nilM  : AV.cells (.nilM) = [.nilM] := rfl
@[simp] theorem cells_map (b : Nat) : AV.cells (.map b) = [.map b] := rfl
@[simp] theorem cells_func (f : Go.Fn) (a c : List AV) : AV.cells (.func f a c) = [.func f a c] := rfl
@[simp] theorem cells_nilF  : AV.cells (.nilF) = [.nilF] := rfl
@[simp] theorem cells_float (k : FloatKind) (n : Nat) : AV.cells (.float k n) = [.float k n] := rfl
@[simp] theorem cells_cplx (k : FloatKind) (a b : Nat) : AV.cells (.cplx k a b) = [.cplx k a b] := rfl
@[simp] theorem cells_iface (t : TypeId) (v : AV) : AV.cells (.iface t v) = [.iface t v] := rfl
@[simp] theorem cells_nilI  : AV.cells (.nilI) = [.nilI] := rfl
section
variable {α : Type} {x y : α} {r vs : List α} {i o n : Nat}
@[simp] theorem getL_c0 : getL (x :: r) 0 = some x := rfl
@[simp] theorem getL_cS : getL (x :: r) (i + 1) = getL r i := rfl
@[simp] theorem getL_nil : getL ([] : List α) i = none := rfl
@[simp] theorem takeL_0 : takeL 0 r = some [] := by unfold takeL; rfl
@[simp] theorem takeL_cS : takeL (n + 1) (x :: r) = (takeL n r).bind fun r' => some (x :: r') := rfl
@[simp] theorem overL_n : overL [] r = some r := by unfold overL; rfl
@[simp] theorem overL_c : overL (y :: vs) (x :: r) = (overL vs r).bind fun r' => some (y :: r') := rfl
@[simp] theorem layL_0 : layL vs 0 (x :: r) = overL vs (x :: r) := rfl
@[simp] theorem layL_n0 : layL vs 0 [] = overL vs [] := rfl
@[simp] theorem layL_cS : layL vs (o + 1) (x :: r) = (layL vs o r).bind fun r' => some (x :: r') := rfl
@[simp] theorem subL_0 : subL 0 n (x :: r) = takeL n (x :: r) := rfl
@[simp] theorem subL_cS : subL (o + 1) n (x :: r) = subL o n r := rfl
@[simp] theorem subL_nn : subL o 0 r = some [] := by unfold subL; simp
end
theorem thaw1_pure {H H' : Heap} {sz : Nat} {v : AV} (h : pureV v = true) : thaw1 H sz v = thaw1 H' sz v := by
  cases v <;> first | rfl | simp [pureV] at h
theorem thawC_pure {H H' : Heap} : ∀ {ss : List Nat} {l : List AV}, pureL l = true → thawC H ss l = thawC H' ss l
  | _, [], _ => rfl
  | ss, a :: r, h => by
    simp only [pureL, Bool.and_eq_true] at h
    simp only [thawC, thaw1_pure (H' := H') h.1, thawC_pure (H' := H') h.2]
theorem thawA_pure {H H' : Heap} {ss : List Nat} {v : AV} (h : pureV v = true) : thawA H ss v = thawA H' ss v := by
  unfold thawA
  split
  · rfl
  · rename_i hno
    clear hno
    cases v
    case agg cs => simp only [thawC_pure (H' := H') (show pureL cs = true from h)]
    case func fn a c =>
      simp only [pureV, Bool.and_eq_true] at h
      simp only [thawC_pure (H' := H') h.1, thawC_pure (H' := H') h.2]
    all_goals exact thaw1_pure h
theorem thawL_pure {H H' : Heap} : ∀ {ss : List (List Nat)} {l : List AV}, pureL l = true → thawL H ss l = thawL H' ss l
  | _, [], _ => rfl
  | ss, a :: r, h => by
    simp only [pureL, Bool.and_eq_true] at h
    simp only [thawL, thawA_pure (H' := H') h.1, thawL_pure (H' := H') h.2]

section
variable {P : Program} {α : Type}
/-- an entry out of a law on the arguments of some form -/
noncomputable def mkE (f : FuncId) (ss : List (List Nat)) (enc : α → List AV) (pre : α → Prop) (post : α → AV) (h : ∀ x, pre x → CallAt ⟨P, fun _ => [], fun _ => none⟩ f (enc x) ⟨0, []⟩ (post x) ⟨0, []⟩) : Entry P :=
  ⟨f, sumPure ss (pfOf enc pre post), sumPure_ok (pfOf_ok h) ss⟩
theorem callL_summ {C : Ctx} {f : FuncId} {g : List AV → Heap → Option (AV × Heap)} (h : C.summ f = some g) (args : List AV) (H : Heap) : callL C f args H = g args H := by
  unfold callL evalFn
  rw [h]
variable {keep : FuncId → List Nat} {T : List (Entry P)} {f : FuncId} {ss : List (List Nat)} {enc : α → List AV} {pre : α → Prop} {post : α → AV} {h : ∀ x, pre x → CallAt ⟨P, fun _ => [], fun _ => none⟩ f (enc x) ⟨0, []⟩ (post x) ⟨0, []⟩}
theorem mkE_pure (hT : findE f T = some (mkE f ss enc pre post h).g) (inj : ∀ x y, enc x = enc y → x = y) (x : α) (hx : pre x) {args : List AV} (hp : pureL args = true) (ht : thawL ⟨0, []⟩ ss args = some (enc x)) (H : Heap) : callL (mkC P keep T) f args H = some (post x, H) := by
  rw [callL_summ (g := (mkE f ss enc pre post h).g) hT]
  show sumPure ss (pfOf enc pre post) args H = _
  unfold sumPure
  rw [if_pos hp, ht]
  simp only [Option.bind_some, pfOf_eq inj hx]
theorem mkE_thaw (hT : findE f T = some (mkE f ss enc pre post h).g) (inj : ∀ x y, enc x = enc y → x = y) (x : α) (hx : pre x) (hs : scalarV (post x) = true) {args : List AV} {H : Heap} (hp : pureL args = false) (ht : thawL H ss args = some (enc x)) :
    callL (mkC P keep T) f args H = some (post x, H) := by
  rw [callL_summ (g := (mkE f ss enc pre post h).g) hT]
  show sumPure ss (pfOf enc pre post) args H = _
  unfold sumPure
  rw [hp, if_neg (by simp), ht]
  simp only [Option.bind_some, pfOf_eq inj hx, hs, if_true]
/-- what answers a scalar, whatever its arguments lie in -/
theorem mkE_scalar (hT : findE f T = some (mkE f ss enc pre post h).g) (inj : ∀ x y, enc x = enc y → x = y) (x : α) (hx : pre x) (hs : scalarV (post x) = true) {args : List AV} {H : Heap} (ht : thawL H ss args = some (enc x)) :
    callL (mkC P keep T) f args H = some (post x, H) := by
  cases hp : pureL args with
  | true => exact mkE_pure hT inj x hx hp (by rw [← ht]; exact thawL_pure hp) H
  | false => exact mkE_thaw hT inj x hx hs hp ht
end
section
variable {H : Heap} {ss : List Nat}
@[simp] theorem thawL_nil {ss : List (List Nat)} : thawL H ss [] = some [] := by unfold thawL; rfl
@[simp] theorem thawL_cons {ss : List (List Nat)} {a : AV} {r : List AV} : thawL H ss (a :: r) = (thawA H (ss.headD []) a).bind fun a' => (thawL H ss.tail r).bind fun r' => some (a' :: r') := by
  conv => lhs; unfold thawL
theorem thawA_ok {v : AV} (h : okV v = true) : thawA H ss v = some v := by unfold thawA; rw [if_pos h]
@[simp] theorem thawA_str (s : List UInt8) : thawA H ss (.str s) = some (.str s) := thawA_ok rfl
@[simp] theorem thawA_int (k : IntKind) (n : Int) : thawA H ss (.int k n) = some (.int k n) := thawA_ok rfl
@[simp] theorem thawA_bool (b : Bool) : thawA H ss (.bool b) = some (.bool b) := thawA_ok rfl
@[simp] theorem thawA_fslc (n : Nat) (es : List AV) : thawA H ss (.fslc n es) = some (.fslc n es) := thawA_ok rfl
theorem thawA_zslc {sz : Nat} {r : List Nat} (h : sz ≠ 0) : thawA H (sz :: r) .zslc = some (.fslc sz []) := by simp [thawA, okV, thaw1, h]
theorem thawA_nilS {sz : Nat} {r : List Nat} (h : sz ≠ 0) : thawA H (sz :: r) .nilS = some (.fslc sz []) := by simp [thawA, okV, thaw1, h]
theorem thawA_ptr {b o : Nat} {cs : List AV} (h : H.get b = some (.cells cs)) (hp : pureL cs = true) : thawA H ss (.ptr b o) = some (.fptr cs o) := by
  simp [thawA, okV, pureV, thaw1, h, hp]
theorem thawA_clo {f : FuncId} {b o : Nat} {cs : List AV} (h : H.get b = some (.cells cs)) (hp : pureL cs = true) : thawA H ss (.func (.func f) [] [.ptr b o]) = some (.func (.func f) [] [.fptr cs o]) := by
  simp [thawA, okV, pureV, pureL, thawC, thaw1, h, hp]
theorem chunk_flat {sz : Nat} (h1 : 1 < sz) : ∀ {es : List AV}, (∀ e, e ∈ es → ∃ cs, e = .agg cs ∧ cs.length = sz) → chunk sz es.length (flatAV es) = es
  | [], _ => rfl
  | e :: r, h => by
    obtain ⟨cs, rfl, hc⟩ := h e (by simp)
    have hne : ¬ sz = 1 := by omega
    simp only [List.length_cons, chunk, flatAV, cells_agg, hne, if_false]
    rw [List.take_append_of_le_length (by omega), List.take_of_length_le (by omega), List.drop_append_of_le_length (by omega), List.drop_of_length_le (by omega), List.nil_append, chunk_flat h1 fun e he => h e (by simp [he])]
theorem chunk_one : ∀ {es : List AV}, (∀ e, e ∈ es → e.cells = [e]) → chunk 1 es.length (flatAV es) = es
  | [], _ => rfl
  | e :: r, h => by
    have h0 := h e (by simp)
    simp only [List.length_cons, chunk, flatAV, h0, if_true, List.cons_append, List.nil_append, List.headD_cons, List.drop_succ_cons, List.drop_zero]
    rw [chunk_one fun e he => h e (by simp [he])]
theorem allSize_of {sz : Nat} : ∀ {es : List AV}, (∀ e, e ∈ es → e.cells.length = sz) → allSize sz es = true
  | [], _ => rfl
  | e :: r, h => by
    unfold allSize
    rw [h e (by simp), Nat.beq_refl]
    exact allSize_of fun e he => h e (by simp [he])
theorem flat_len {sz : Nat} : ∀ {es : List AV}, (∀ e, e ∈ es → e.cells.length = sz) → (flatAV es).length = es.length * sz
  | [], _ => by simp [flatAV]
  | e :: r, h => by
    have ih := flat_len (es := r) fun e he => h e (List.mem_cons_of_mem _ he)
    simp only [flatAV, List.length_append, List.length_cons, h e (by simp), ih]
    rw [Nat.add_mul]; omega
theorem flat_pure : ∀ {es : List AV}, (∀ e, e ∈ es → pureL e.cells = true) → pureL (flatAV es) = true
  | [], _ => rfl
  | e :: r, h => by
    have ih := flat_pure (es := r) fun e he => h e (List.mem_cons_of_mem _ he)
    simp only [flatAV, pureL_append, h e (by simp), ih, Bool.and_self]
/-- elements as they stand in a slice: of sz cells, all of them values -/
structure Elems (sz : Nat) (es : List AV) : Prop where
  sz0 : sz ≠ 0
  all : ∀ e, e ∈ es → e.cells.length = sz ∧ pureL e.cells = true ∧ (sz = 1 → e.cells = [e]) ∧ (sz ≠ 1 → ∃ cs, e = .agg cs)
theorem Elems.chunk {sz : Nat} {es : List AV} (h : Elems sz es) : Proofs.Ytpkplilgjdbhhaa.chunk sz es.length (flatAV es) = es := by
  by_cases h1 : sz = 1
  · subst h1; exact chunk_one fun e he => (h.all e he).2.2.1 rfl
  · have := h.sz0
    refine chunk_flat (by omega) fun e he => ?_
    obtain ⟨cs, rfl⟩ := (h.all e he).2.2.2 h1
    exact ⟨cs, rfl, (h.all _ he).1⟩
theorem thawA_slc {sz : Nat} {r : List Nat} {b : Nat} {cap : Cap} {es : List AV} (he : Elems sz es) (h : H.get b = some (.cells (flatAV es))) : thawA H (sz :: r) (.slc b 0 es.length cap) = some (.fslc sz es) := by
  have hl := flat_len fun e h => (he.all e h).1
  have hp := flat_pure fun e h => (he.all e h).2.1
  have hz := allSize_of fun e h => (he.all e h).1
  have hs : subL 0 (es.length * sz) (flatAV es) = some (flatAV es) := by
    unfold subL
    rw [List.drop_zero, ← hl, takeL_all]
  unfold thawA
  rw [if_neg (by simp [okV, pureV])]
  simp only [thaw1, List.headD_cons, h, hp, if_true, hs, he.chunk, hz, and_self]
end
/-- a scalar's contract, at what the heap holds -/
theorem CallAt.thaw {C : Ctx} {f : FuncId} {args args' : List AV} {v : AV} (h : CallAt C f args' ⟨0, []⟩ v ⟨0, []⟩) (hs : scalarV v = true) (ss : List (List Nat)) {H : Heap} (ht : thawL H ss args = some args') : CallAt C f args H v H :=
  fun ρ w xs sm hx => h.borrow hs (fun hn => pure_fitH hn) (thawL_fit sm.nodup ht) ρ w xs sm hx
/-- the last state of a function that leaves nothing: its answer -/
theorem ends_pure {H : Heap} {u v : AV} (hp : pureV u = true) (h : u = v) : ∃ σ Φ, fitV σ Φ u v ∧ FitH 0 σ Φ H ⟨0, []⟩ := ⟨[], [], by rw [← h]; exact fitV_pure hp, FitH.empty⟩
/-- the answer is a slice of a block -/
theorem ends_slice {H : Heap} {b len sz : Nat} {cap : Cap} {es : List AV} {cs : List AV} (hb : H.get b = some (.cells cs)) (hcs : cs = flatAV es) (hp : pureL cs = true) (hl : es.length = len) (hz : allSize sz es = true) (hn : cs.length = len * sz) :
    ∃ σ Φ, fitV σ Φ (.slc b 0 len cap) (.fslc sz es) ∧ FitH 0 σ Φ H ⟨0, []⟩ := by
  refine ⟨[], [(b, cs)], ?_, .froze (by simp) fun x hx => ?_⟩
  · simp only [fitV]
    refine .inl ⟨cs, by simp [lookC], ?_, hl, hz⟩
    have take_all : ∀ (l : List AV), takeL l.length l = some l := fun l => by
      induction l with
      | nil => rfl
      | cons x r ih => simp [takeL, ih]
    have := take_all cs
    rw [hn] at this
    simp only [subL, List.drop_zero, this]
    rw [hcs]
  · simp only [List.mem_singleton] at hx
    subst hx
    exact ⟨cs, hb, fitL_pure hp, hp⟩
theorem ends_nil {H : Heap} {sz : Nat} : ∃ σ Φ, fitV σ Φ .nilS (.fslc sz []) ∧ FitH 0 σ Φ H ⟨0, []⟩ := ⟨[], [], by simp [fitV], FitH.empty⟩

/-! ### Small laws of indices and numbers -/
theorem idx_nat {i n : Nat} (h : i < n) : idx (i : Int) n = some i := by
  have : Nat.blt i n = true := by simpa using h
  show (match Nat.blt i n with | true => some i | false => none) = _
  rw [this]
theorem getL_map {α β : Type} {f : α → β} : ∀ {l : List α} {i : Nat} (h : i < l.length), getL (l.map f) i = some (f l[i])
  | [], i, h => absurd h (Nat.not_lt_zero i)
  | x :: r, 0, _ => rfl
  | x :: r, i + 1, h => by
    have := getL_map (f := f) (l := r) (i := i) (by simpa using h)
    simpa [getL] using this
theorem getL_get {α : Type} : ∀ {l : List α} {i : Nat} (h : i < l.length), getL l i = some l[i]
  | [], i, h => absurd h (Nat.not_lt_zero i)
  | x :: r, 0, _ => rfl
  | x :: r, i + 1, h => by
    have := getL_get (l := r) (i := i) (by simpa using h)
    simpa [getL] using this
theorem wr_small {n : Int} (h1 : -1000000000000 ≤ n) (h2 : n ≤ 1000000000000) : wr .i64 n = some n := by
  have : fits64 n = true := fits64_iff.2 (by omega)
  simp [wr, this]
theorem add_one {i : Nat} (h : i ≤ 1000000000) : wr .i64 ((i : Int) + 1) = some ((i + 1 : Nat) : Int) := by
  rw [wr_small (by omega) (by omega)]; simp
theorem takeL_front {α : Type} : ∀ {n : Nat} {l : List α}, n ≤ l.length → takeL n l = some (l.take n)
  | 0, _, _ => rfl
  | n + 1, [], h => by simp at h
  | n + 1, x :: r, h => by simp [takeL, takeL_front (n := n) (l := r) (by simpa using h)]
theorem subL_front {α : Type} {o n : Nat} {l : List α} (h : o + n ≤ l.length) : subL o n l = some ((l.drop o).take n) := by
  unfold subL
  exact takeL_front (by simp; omega)
section
variable {P : Program} {t : TypeId} {k : IntKind} {a b : Int} {x y : List UInt8}
@[simp] theorem bin_add : binA P .add t (.int k a) (.int k b) = (wr k (a + b)).bind fun n => some (.int k n) := by simp [binA, intOp]
@[simp] theorem bin_sub : binA P .sub t (.int k a) (.int k b) = (wr k (a - b)).bind fun n => some (.int k n) := by simp [binA, intOp]
@[simp] theorem bin_mul : binA P .mul t (.int k a) (.int k b) = (wr k (a * b)).bind fun n => some (.int k n) := by simp [binA, intOp]
@[simp] theorem bin_lss : binA P .lss t (.int k a) (.int k b) = some (.bool (decide (a < b))) := by simp [binA, intOp]
@[simp] theorem bin_leq : binA P .leq t (.int k a) (.int k b) = some (.bool (decide (a ≤ b))) := by simp [binA, intOp]
@[simp] theorem bin_gtr : binA P .gtr t (.int k a) (.int k b) = some (.bool (decide (b < a))) := by simp [binA, intOp]
@[simp] theorem bin_geq : binA P .geq t (.int k a) (.int k b) = some (.bool (decide (b ≤ a))) := by simp [binA, intOp]
@[simp] theorem bin_eql : binA P .eql t (.int k a) (.int k b) = some (.bool (decide (a = b))) := by
  simp only [binA, intOp, if_true]
  congr 2
@[simp] theorem bin_neq : binA P .neq t (.int k a) (.int k b) = some (.bool (!decide (a = b))) := by
  simp only [binA, intOp, if_true, bne]
  congr 3
@[simp] theorem un_not {c : Bool} : unA .not (.bool c) = some (.bool !c) := rfl
@[simp] theorem un_neg : unA .neg (.int k a) = (wr k (0 - a)).bind fun m => some (.int k m) := rfl
@[simp] theorem bin_seql : binA P .eql t (.str x) (.str y) = some (.bool (decide (x = y))) := by simp [binA, strOp, eqB_eq]
@[simp] theorem bin_sneq : binA P .neq t (.str x) (.str y) = some (.bool (!decide (x = y))) := by simp [binA, strOp, eqB_eq]
end
end Go.Proofs.Ytpkplilgjdbhhaa
