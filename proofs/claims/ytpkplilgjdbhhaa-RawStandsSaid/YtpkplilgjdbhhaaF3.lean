/- The walk's rules: what a code comes to, from a state, whatever the machine's world. No condition. -/
import Derived.Test.YtpkplilgjdbhhaaF2
namespace Go.Proofs.Ytpkplilgjdbhhaa
set_option linter.unusedSimpArgs false
set_option linter.unusedVariables false
open Go Go.RowKit

def WpS (C : Ctx) (n : Nat) (c : Code) (s : St) (Q : Out → St → Prop) : Prop := ∀ b a w, b.n = n → At b s a w → ∀ K : Exit → Act → World → Prop,
  (∀ x s' a' w', Q x s' → At b s' a' w' → a'.defers = a.defers → K x.exit_ a' w') → Goes C none c K a w

section
variable {C : Ctx} {n : Nat} {s : St} {Q : Out → St → Prop}
theorem At.fresh {b : Base} {a : Act} {w : World} (h : At b s a w) : At b { s with ts := [] } a w := let ⟨ρ, h1, h2, h3⟩ := h; ⟨ρ, h1, h2, h3.fresh⟩

theorem wps_skip (h : Q .normal s) : WpS C n .skip s Q := fun _ a w _ ha _ hK => wpIn_skip (hK .normal s a w h ha rfl)
theorem wps_label {l : Nat} (h : Q .normal s) : WpS C n (.label l) s Q := fun _ a w _ ha _ hK => wpIn_label (hK .normal s a w h ha rfl)
theorem wps_exit {id : Nat} (h : Q (.exit id) s) : WpS C n (.exit id) s Q := fun _ a w _ ha _ hK => wpIn_exit (hK (.exit id) s a w h ha rfl)
theorem wps_goto {l : Nat} (h : Q (.goto l) s) : WpS C n (.goto l) s Q := fun _ a w _ ha _ hK => wpIn_goto (hK (.goto l) s a w h ha rfl)
theorem wps_ret (h : Q .ret s) : WpS C n .ret s Q := fun _ a w _ ha _ hK => wpIn_ret (hK .ret s a w h ha rfl)
theorem wps_region {call : CallE} {id : Nat} {ops : Array Oper} (hC : CallOK C call) (h : ∃ s', evalOps C call ops ops.toList { s with ts := [] } = some s' ∧ Q .normal s') : WpS C n (.region id ops false) s Q := by
  intro b a w hb ha K hK
  obtain ⟨s', h1, h2⟩ := h
  obtain ⟨ρ, g1, g2, g3⟩ := ha
  refine wpIn_region ?_
  have := ops_wp hC (ops := ops) (r := none) (Q := K) (l := ops.toList) (i := 0) (s := { s with ts := [] }) (a := a) (ρ := ρ) (w := w) (fun j => by simp) h1 g2 g3.fresh
    fun a' w' ρ' k1 k2 k3 k4 => hK .normal s' a' w' h2 ⟨ρ', g1.step k2, k1, k3⟩ k4
  rw [List.range_eq_range']
  simpa using this
theorem wps_draw {call : CallE} {id : Nat} {ops : Array Oper} (hm : C.P.follows .mixedOrders = true) (hC : CallOK C call) (h : ∃ s', evalDraw C call ops { s with ts := [] } = some s' ∧ Q .normal s') : WpS C n (.region id ops true) s Q := by
  intro b a w hb ha K hK
  obtain ⟨s', h1, h2⟩ := h
  obtain ⟨ρ, g1, g2, g3⟩ := ha
  have g2' : Sim ρ ({ s with ts := [] } : St).H w := g2
  exact draw_wp hC hm h1 g2' g3.fresh fun a' w' ρ' k1 k2 k3 k4 => hK .normal s' a' w' h2 ⟨ρ', g1.step k2, k1, k3⟩ k4
theorem wps_drawn {call : CallE} {id : Nat} {ops : Array Oper} (hm : C.P.follows .mixedOrders = true) (hC : CallOK C call) (hd : drawOK ops = true)
    (h : ∀ B : Array Nat, B = Region.before ops → ∃ d, evalD C call ops B s.H.n 0 ops.toList ⟨reserve (freshenAll ops.toList { s with ts := [] }) ops.size, [], [], []⟩ = some d ∧
    sameRecs C call B (reserve (freshenAll ops.toList { s with ts := [] }) ops.size).H d.hs d.rs = true ∧ Q .normal { d.s with H := d.s.H.lay (allPend d.ps) }) : WpS C n (.region id ops true) s Q := by
  obtain ⟨d, h1, h2, h3⟩ := h _ rfl
  refine wps_draw hm hC ⟨{ d.s with H := d.s.H.lay (allPend d.ps) }, ?_, h3⟩
  unfold evalDraw
  simp only [hd, h1, Option.bind_some, h2]
theorem wps_seq {c d : Code} (h : WpS C n c s (thenQ (fun s => WpS C n d s Q) Q)) : WpS C n (.seq c d) s Q := by
  intro b a w hb ha K hK
  refine wpIn_seq (h b a w hb ha _ fun x s' a' w' hq ha' hd => ?_).wp
  cases x with
  | normal => exact (hq b a' w' hb ha' K fun x s2 a2 w2 q1 q2 q3 => hK x s2 a2 w2 q1 q2 (q3.trans hd)).wp
  | exit k => exact hK _ s' a' w' hq ha' hd
  | goto k => exact hK _ s' a' w' hq ha' hd
  | ret => exact hK _ s' a' w' hq ha' hd
theorem wps_cond {c : Operand} {x y : Code} {t : Bool} (hc : opnd s c = some (.bool t)) (h1 : t = true → WpS C n x s Q) (h2 : t = false → WpS C n y s Q) : WpS C n (.cond c x y) s Q := by
  intro b a w hb ha K hK
  obtain ⟨ρ, g1, g2, g3⟩ := ha
  have hvr := opnd_run g3 hc
  have hce : a.eval c = .bool t := by cases hq : a.eval c <;> rw [hq] at hvr <;> cases hvr; rfl
  cases t with
  | true => exact wpIn_cond_true hce (h1 rfl b a w hb ⟨ρ, g1, g2, g3⟩ K hK).wp
  | false => exact wpIn_cond_false hce (h2 rfl b a w hb ⟨ρ, g1, g2, g3⟩ K hK).wp
theorem wps_block {id : Nat} {c : Code} (h : WpS C n c s (blockQ id Q)) : WpS C n (.block id c) s Q := by
  intro b a w hb ha K hK
  refine wpIn_block (h b a w hb ha _ fun x s' a' w' hq ha' hd => ?_).wp
  cases x with
  | exit k =>
    show Exit.inBlock id K (.exit k) a' w'
    unfold Exit.inBlock
    simp only
    rw [blockQ_exit] at hq
    split at hq
    · rename_i hk
      rw [if_pos hk]
      exact hK .normal s' a' w' hq ha' hd
    · rename_i hk
      rw [if_neg hk]
      exact hK (.exit k) s' a' w' hq ha' hd
  | normal => exact hK _ s' a' w' hq ha' hd
  | goto k => exact hK _ s' a' w' hq ha' hd
  | ret => exact hK _ s' a' w' hq ha' hd
theorem WpS.mono {c : Code} {Q' : Out → St → Prop} (h : WpS C n c s Q) (hq : ∀ x s', Q x s' → Q' x s') : WpS C n c s Q' :=
  fun b a w hb ha K hK => h b a w hb ha K fun x s' a' w' h1 h2 h3 => hK x s' a' w' (hq x s' h1) h2 h3
/-- a frozen empty slice is nil, or an empty one -/
theorem lookK_other {t : Nat} {u v : AV} : ∀ {ks : List Nat} {pre post : List AV} {x : AV}, lookK t ks (pre ++ v :: post) = some x → lookK t ks (pre ++ u :: post) = some x ∨ (x = v ∧ lookK t ks (pre ++ u :: post) = some u ∧ ks.getD pre.length 0 = t)
  | [], _, _, _, h => by simp [lookK] at h
  | q :: ks, [], post, x, h => by
    simp only [List.nil_append] at h ⊢
    unfold lookK at h ⊢
    simp only at h ⊢
    split at h
    · rename_i hb
      simp only [Option.some.injEq] at h
      exact .inr ⟨h.symm, by simp [hb], by simpa using Nat.eq_of_beq_eq_true hb⟩
    · rename_i hb
      exact .inl (by simp [hb, h])
  | q :: ks, p :: pre, post, x, h => by
    simp only [List.cons_append] at h ⊢
    unfold lookK at h ⊢
    simp only at h ⊢
    split at h
    · rename_i hb
      exact .inl (by simp [hb, h])
    · rename_i hb
      rcases lookK_other (u := u) h with h1 | ⟨h1, h2, h3⟩
      · exact .inl (by simp [hb, h1])
      · exact .inr ⟨h1, by simp [hb, h2], by simpa using h3⟩
theorem wps_empty {ks : List Nat} {pre post : List AV} {sz z : Nat} {H : Heap} {c : Code} (h1 : WpS C n c ⟨ks, pre ++ .nilS :: post, [], z, H⟩ Q) (h2 : WpS C n c ⟨ks, pre ++ .eslc :: post, [], z, H⟩ Q) :
    WpS C n c ⟨ks, pre ++ .fslc sz [] :: post, [], z, H⟩ Q := by
  intro b a w hb ha K hK
  obtain ⟨ρ, g1, g2, g3⟩ := ha
  have get : ∀ {vs : List AV} {t : Nat}, St.get ⟨ks, vs, [], z, H⟩ t = lookK t ks vs := fun {vs t} => by
    simp only [St.get, look]
    cases lookK t ks vs <;> rfl
  by_cases hn : a.tmps.getD (ks.getD pre.length 0) undef = .slice none 0 0
  · refine h1 b a w hb ⟨ρ, g1, g2, g3.size, fun t v hv => ?_⟩ K hK
    rw [get] at hv
    rcases lookK_other (u := .fslc sz []) hv with h | ⟨rfl, h, ht⟩
    · exact g3.val t v (by rw [get]; exact h)
    · rw [← ht, hn]; exact .nilS
  · refine h2 b a w hb ⟨ρ, g1, g2, g3.size, fun t v hv => ?_⟩ K hK
    rw [get] at hv
    rcases lookK_other (u := .fslc sz []) hv with h | ⟨rfl, h, ht⟩
    · exact g3.val t v (by rw [get]; exact h)
    · have hv2 := g3.val t _ (by rw [get]; exact h)
      rw [ht] at hn
      revert hn hv2
      generalize a.tmps.getD t undef = x
      intro hn hv2
      cases hv2 with
      | fslc _ _ cb off cap vs => exact .eslc _ _
      | fnil => exact absurd rfl hn
      | fnone => exact .eslc _ _
/-- from a weaker state -/
theorem WpS.fit {c : Code} {s' : St} (σ : List (Nat × Nat)) (Φ : List (Nat × List AV)) (f : Fit n σ Φ s s') (h : WpS C n c s' Q) : WpS C n c s Q :=
  fun b a w hb ha K hK => h b a w hb (ha.fit (hb ▸ f)) K hK
theorem wps_loop {ι : Type} (inv : ι → St) (φ : ι → Prop) (m : ι → Nat) {c : Code} (step : ∀ x, φ x → ∀ B : St → Prop, (∀ s' y, m y < m x → φ y → (∃ σ Φ, Fit n σ Φ s' (inv y)) → B s') → WpS C n c (inv x) (thenQ B Q)) :
    ∀ x, φ x → WpS C n (.loop c) (inv x) Q := by
  have key : ∀ k x, m x = k → φ x → WpS C n (.loop c) (inv x) Q := by
    intro k
    induction k using Nat.strongRecOn with
    | _ k ih =>
      intro x hm hx b a w hb ha K hK
      refine LoopGoes.round (step x hx (fun s' => ∃ y, m y < m x ∧ φ y ∧ ∃ σ Φ, Fit n σ Φ s' (inv y)) (fun s' y h1 h2 h3 => ⟨y, h1, h2, h3⟩) b a w hb ha _ fun o s' a' w' hq ha' hd => ?_).wp
      cases o with
      | normal =>
        obtain ⟨y, hy, hφ, σ, Φ, hf⟩ := hq
        exact ih (m y) (by omega) y rfl hφ b a' w' hb (ha'.fit (hb ▸ hf)) K fun x s2 a2 w2 q1 q2 q3 => hK x s2 a2 w2 q1 q2 (q3.trans hd)
      | exit k => exact hK _ s' a' w' hq ha' hd
      | goto k => exact hK _ s' a' w' hq ha' hd
      | ret => exact hK _ s' a' w' hq ha' hd
  exact fun x hx => key _ x rfl hx
/-- a loop, from a state that says more than the first one of its rounds -/
theorem wps_loop' {ι : Type} (inv : ι → St) (φ : ι → Prop) (m : ι → Nat) (σ : List (Nat × Nat)) (Φ : List (Nat × List AV)) (x : ι) (hx : φ x) {c : Code} (hf : Fit n σ Φ s (inv x))
    (step : ∀ x, φ x → ∀ B : St → Prop, (∀ s' y, m y < m x → φ y → (∃ σ Φ, Fit n σ Φ s' (inv y)) → B s') → WpS C n c (inv x) (thenQ B Q)) : WpS C n (.loop c) s Q :=
  .fit σ Φ hf (wps_loop inv φ m step x hx)
/-- a scope: a family of places to go on from -/
def gotoQ (body : Code) (R : Code → St → Prop) (Q : Out → St → Prop) : Out → St → Prop
  | .goto l, s => match findLabel body l with
    | some rest => R rest s
    | none => Q (.goto l) s
  | x, s => Q x s
theorem wps_scope {ι : Type} (at_ : ι → Code) (inv : ι → St) (φ : ι → Prop) (m : ι → Nat) {body : Code} (x : ι) (hx : φ x) (h0 : at_ x = body)
    (step : ∀ x, φ x → ∀ B : Code → St → Prop, (∀ s' y, m y < m x → φ y → (∃ σ Φ, Fit n σ Φ s' (inv y)) → B (at_ y) s') → WpS C n (at_ x) (inv x) (gotoQ body B Q)) : WpS C n (.scope body) (inv x) Q := by
  have key : ∀ k x, m x = k → φ x → ∀ b a w, b.n = n → At b (inv x) a w → ∀ K : Exit → Act → World → Prop,
      (∀ x s' a' w', Q x s' → At b s' a' w' → a'.defers = a.defers → K x.exit_ a' w') → ScopeGoes (fen none) 0 C.P body K (at_ x) a w := by
    intro k
    induction k using Nat.strongRecOn with
    | _ k ih =>
      intro x hm hx b a w hb ha K hK
      refine ScopeGoes.pass (step x hx (fun rest s' => ∃ y, m y < m x ∧ φ y ∧ rest = at_ y ∧ ∃ σ Φ, Fit n σ Φ s' (inv y)) (fun s' y h1 h2 h3 => ⟨y, h1, h2, rfl, h3⟩) b a w hb ha _ fun o s' a' w' hq ha' hd => ?_).wp
      cases o with
      | goto l =>
        show Exit.inScope _ _ _ _ _ (.goto l) a' w'
        unfold Exit.inScope
        simp only [gotoQ] at hq ⊢
        cases hf : findLabel body l with
        | some rest =>
          simp only [hf] at hq ⊢
          obtain ⟨y, hy, hφ, rfl, σ, Φ, hft⟩ := hq
          exact ih (m y) (by omega) y rfl hφ b a' w' hb (ha'.fit (hb ▸ hft)) K fun x s2 a2 w2 q1 q2 q3 => hK x s2 a2 w2 q1 q2 (q3.trans hd)
        | none =>
          simp only [hf] at hq ⊢
          exact hK _ s' a' w' hq ha' hd
      | normal => exact hK _ s' a' w' hq ha' hd
      | exit k => exact hK _ s' a' w' hq ha' hd
      | ret => exact hK _ s' a' w' hq ha' hd
  intro b a w hb ha K hK
  subst h0
  exact ScopeGoes.wp (key _ x rfl hx b a w hb ha K hK)
end

/-! ### A function, by its body -/
section
variable {C : Ctx}
theorem lookN_refl_le {ρ ρ' : Place} {H : Heap} {w : World} (sm : Sim ρ H w) (low : ∀ k, k < H.n → ρ' k = ρ k) : ∀ b l, ρ b = some l → ρ' b = some l := fun b l h => by
  rcases Nat.lt_or_ge b H.n with hb | hb
  · rw [low b hb]; exact h
  · rw [sm.dom b hb] at h; cases h
theorem callAt_body {f : FuncId} {fn : Func} {body : Code} {args : List AV} {H H' : Heap} {v : AV} {s0 : St} (hf : C.P.funcs[f]? = some fn) (hname : (fn.name == "runtime.NumGoroutine") = false)
    (hb : fn.body = some body) (he : enterF C f fn args H = some s0)
    (h : WpS C H.n body s0 fun x s => (x = .normal ∨ x = .ret) ∧ ∃ vs, retVal C s fn.results.toList = some vs ∧ ∃ σ Φ, fitV σ Φ (oneOr vs) v ∧ FitH H.n σ Φ s.H H') : CallAt C f args H v H' := by
  intro ρ w xs sm hx
  refine .inr ⟨f, xs.toArray, ?_, ?_⟩
  · have hname' : ¬ fn.name = "runtime.NumGoroutine" := fun e => by rw [e] at hname; simp at hname
    simp [callFunc, hf, hname', hb]
  · refine callsIn_of_wp hf hb trivial ?_
    obtain ⟨o1, o2⟩ := sm.opened
    have hlen : xs.length = args.length := hx.1
    have env0 : EnvR ρ { ks := C.keep f, vs := undefs (C.keep f), ts := [], sz := args.length + (fn.ntmps - args.length), H := ⟨H.n, [] :: H.fs⟩ }
        { tmps := xs.toArray ++ Array.replicate (fn.ntmps - xs.toArray.size) undef, defers := [] } := by
      refine ⟨by simp [hlen], fun t u hu => ?_⟩
      simp only [St.get] at hu
      split at hu
      · rename_i hl
        have := lookK_undefs hl
        simp only [Option.some.injEq] at hu
        subst hu; subst this
        exact .undef _
      · simp [look] at hu
    obtain ⟨e1, hH1⟩ := putArgs_run (i := 0) he env0 hx fun j hj => by
      simp only [Nat.zero_add, Array.getD_eq_getD_getElem?]
      rw [Array.getElem?_append_left (by simpa using hj)]
      simp [hj]
    have hH : s0.H = ⟨H.n, [] :: H.fs⟩ := hH1
    let b : Base := ⟨H.n, fun k => ∃ e, e ∈ H.ents ∧ ∃ l, ρ e.1 = some l ∧ l.cb = k, ρ, w⟩
    have since0 : Since b ρ s0.H w := by
      rw [hH]
      exact ⟨fun k hk => ⟨hk, rfl⟩, rfl, rfl, rfl, Nat.le_refl _, fun _ _ _ => rfl, fun e he l hl => .inl ⟨e, he, l, hl, rfl⟩, fun k hk => .inl hk, fun _ _ => rfl, Nat.le_refl _⟩
    refine (h b _ w rfl ⟨ρ, since0, by rw [hH]; exact o1, e1⟩ _ fun x s a' w' hq ha' hd => ?_).wp
    obtain ⟨hx1, vs, hvs, σ, Φ, hfv, hfh⟩ := hq
    obtain ⟨ρ1, k1, k2, k3⟩ := ha'
    obtain ⟨y, r1, r2⟩ := results_run k2 k3 hvs
    have run := Fits.run (hfh.fits k2) k2 _ (Nat.le_refl _) r2 hfv
    have sim2 := hfh.sim k2 k1.num
    have sin2 := FitH.since (b := b) hfh k2 k1
    have fin : a'.defers = [] ∧ ∃ x, (results fn a'.tmps).run C.P w' = .ok x w' ∧ After ρ H w v H' (.returned x) w' := by
      refine ⟨hd, y, r1, y, _, rfl, run, sim2, ?_⟩
      exact ⟨⟨lookN_refl_le sm sin2.low, sin2.fz, sin2.os, sin2.tape, sin2.output⟩, sin2.size, fun k hk hn => sin2.keeps k hk fun ⟨e, he, l, hl, hlk⟩ => hn e he l hl hlk,
        fun e he l hl => sin2.rows e he l hl, sin2.num, sin2.low, sin2.cold⟩
    rcases hx1 with rfl | rfl
    · exact fin
    · exact fin
end
end Go.Proofs.Ytpkplilgjdbhhaa
