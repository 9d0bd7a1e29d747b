/- Code: what E computes is what the model does. No condition. -/
import Derived.Test.YtpkplilgjdbhhaaE19
import Derived.LoopNIn
import Derived.Scope
namespace Go.Proofs.Ytpkplilgjdbhhaa
set_option linter.unusedSimpArgs false
set_option linter.unusedVariables false
open Go Go.RowKit

def Out.exit_ : Out → Exit
  | .normal => .normal
  | .exit id => .exit id
  | .goto l => .goto l
  | .ret => .ret

/-! ### Loops and scopes, from their inside -/
section
variable {F : Fence} {n : Nat} {P : Program} {Q : Exit → Act → World → Prop} {a : Act} {w : World}
def LoopGoes (F : Fence) (n : Nat) (P : Program) (c : Code) (Q : Exit → Act → World → Prop) (a : Act) (w : World) : Prop :=
  ∀ (b : Frame) (k : List Item) (cs : List Frame), b.roundOf = F.round → F.fn b.fn → F.room (cs.length + 1 + n) →
    ∃ e a' w', Q e a' w' ∧ ArrivesIn (Machine.fenced P F) P (lone (b.atR a (.code c :: .inLoop c :: k)) cs w) b k cs e a' w'
theorem LoopGoes.wp {c : Code} (h : LoopGoes F n P c Q a w) : (Code.loop c).wpIn F n P Q a w := by
  intro b k cs hro hb hr
  obtain ⟨e, a', w', hq, harr⟩ := h b k cs hro hb hr
  exact ⟨e, a', w', hq, .of_steps (.one (fenced_calm hb hr rfl) stepR_loop) harr⟩
theorem LoopGoes.round {c : Code} (h : c.wpIn F n P (Exit.then (LoopGoes F n P c Q) Q) a w) : LoopGoes F n P c Q a w := by
  intro b k cs hro hb hr
  obtain ⟨e, a₁, w₁, hq, harr⟩ := h b (.inLoop c :: k) cs hro hb hr
  cases e with
  | normal =>
    obtain ⟨e₂, a₂, w₂, hq₂, harr₂⟩ := hq b k cs hro hb hr
    exact ⟨e₂, a₂, w₂, hq₂, .of_steps (StepsIn.trans harr (.one (fenced_calm hb hr rfl) stepR_inLoop)) harr₂⟩
  | exit id => exact ⟨_, a₁, w₁, hq, .pass (x := .inLoop c) rfl (fun _ _ => .inl (by simp)) harr⟩
  | goto l => exact ⟨_, a₁, w₁, hq, .pass (x := .inLoop c) rfl (fun _ _ => .inl (by simp)) harr⟩
  | ret => exact ⟨_, a₁, w₁, hq, .pass (x := .inLoop c) rfl (fun _ _ => .inl (by simp)) harr⟩
  | panic ch => exact ⟨_, a₁, w₁, hq, .pass (x := .inLoop c) rfl (fun _ _ => .inl (by simp)) harr⟩
  | outgrown => exact ⟨_, a₁, w₁, hq, .pass (x := .inLoop c) rfl (fun _ _ => .inl (by simp)) harr⟩

theorem stepR_scope {b : Frame} {k : List Item} {cs : List Frame} {c : Code} : step P (lone (b.atR a (.code (.scope c) :: k)) cs w) = .next (lone (b.atR a (.code c :: .inScope c :: k)) cs w) :=
  step_lone_go (by simp [stepG, stepG.exec, Frame.atR])
theorem stepR_inScope {b : Frame} {k : List Item} {cs : List Frame} {c : Code} : step P (lone (b.atR a (.inScope c :: k)) cs w) = .next (lone (b.atR a k) cs w) :=
  step_lone_go (by simp [stepG, stepG.exec, Frame.atR])
def ScopeGoes (F : Fence) (n : Nat) (P : Program) (body : Code) (Q : Exit → Act → World → Prop) (c : Code) (a : Act) (w : World) : Prop :=
  ∀ (b : Frame) (k : List Item) (cs : List Frame), b.roundOf = F.round → F.fn b.fn → F.room (cs.length + 1 + n) →
    ∃ e a' w', Q e a' w' ∧ ArrivesIn (Machine.fenced P F) P (lone (b.atR a (.code c :: .inScope body :: k)) cs w) b k cs e a' w'
/-- as Q, but for a goto to a label within the scope: it goes on from there -/
def Exit.inScope (F : Fence) (n : Nat) (P : Program) (body : Code) (Q : Exit → Act → World → Prop) : Exit → Act → World → Prop
  | .goto l, a, w => match findLabel body l with
    | some rest => ScopeGoes F n P body Q rest a w
    | none => Q (.goto l) a w
  | e, a, w => Q e a w
theorem ScopeGoes.wp {c : Code} (h : ScopeGoes F n P c Q c a w) : (Code.scope c).wpIn F n P Q a w := by
  intro b k cs hro hb hr
  obtain ⟨e, a', w', hq, harr⟩ := h b k cs hro hb hr
  exact ⟨e, a', w', hq, .of_steps (.one (fenced_calm hb hr rfl) stepR_scope) harr⟩
theorem ScopeGoes.pass {body c : Code} (h : c.wpIn F n P (Exit.inScope F n P body Q) a w) : ScopeGoes F n P body Q c a w := by
  intro b k cs hro hb hr
  obtain ⟨e, a₁, w₁, hq, harr⟩ := h b (.inScope body :: k) cs hro hb hr
  cases e with
  | normal => exact ⟨.normal, a₁, w₁, hq, StepsIn.trans harr (.one (fenced_calm hb hr rfl) stepR_inScope)⟩
  | exit id =>
    have hx : exitTo id (.inScope body :: k) = exitTo id k := by simp [exitTo]
    exact ⟨.exit id, a₁, w₁, hq, fun k' hk => harr.1 k' (by rw [hx]; exact hk), fun hr' hk => let ⟨k₁, h1, h2⟩ := harr.2 hr' (by rw [hx]; exact hk); ⟨k₁, h1, h2⟩⟩
  | goto l =>
    cases hf : findLabel body l with
    | some rest =>
      simp only [Exit.inScope, hf] at hq
      have hg : gotoIn l (.inScope body :: k) = some (.code rest :: .inScope body :: k) := by simp [gotoIn, hf]
      obtain ⟨e₂, a₂, w₂, hq₂, harr₂⟩ := hq b k cs hro hb hr
      exact ⟨e₂, a₂, w₂, hq₂, .of_steps (harr.1 _ hg) harr₂⟩
    | none =>
      simp only [Exit.inScope, hf] at hq
      have hg : gotoIn l (.inScope body :: k) = gotoIn l k := by simp [gotoIn, hf]
      exact ⟨.goto l, a₁, w₁, hq, fun k' hk => harr.1 k' (by rw [hg]; exact hk), fun hr' hk => let ⟨k₁, h1, h2⟩ := harr.2 hr' (by rw [hg]; exact hk); ⟨k₁, h1, h2⟩⟩
  | ret => exact ⟨_, a₁, w₁, hq, harr⟩
  | panic ch => exact ⟨_, a₁, w₁, hq, harr⟩
  | outgrown => exact ⟨_, a₁, w₁, hq, harr⟩
end

section
/-- the run of a code, or, for a loop, of its inside -/
def Goes (C : Ctx) (r : Option Nat) (c : Code) (Q : Exit → Act → World → Prop) (a : Act) (w : World) : Prop := match c with
  | .loop b => LoopGoes (fen r) 0 C.P b Q a w
  | c => c.wpIn (fen r) 0 C.P Q a w
theorem Goes.wp {C : Ctx} {r : Option Nat} {c : Code} {Q : Exit → Act → World → Prop} {a : Act} {w : World} (h : Goes C r c Q a w) : c.wpIn (fen r) 0 C.P Q a w := by
  cases c <;> first | exact LoopGoes.wp h | exact h
def CodeOK (C : Ctx) (r : Option Nat) (ih : CodeE) : Prop := ∀ c s x s', ih c s = some (x, s') → ∀ ρ a w Q, Sim ρ s.H w → EnvR ρ s a →
  (∀ a' w' ρ', Sim ρ' s'.H w' → Step ρ s.H w ρ' s'.H w' → EnvR ρ' s' a' → a'.defers = a.defers → Q x.exit_ a' w') → Goes C r c Q a w

theorem scope_ok {C : Ctx} {r : Option Nat} {ih : CodeE} (hI : CodeOK C r ih) (body : Code) : ∀ (n : Nat) (c : Code) (s : St) (x : Out) (s' : St), evalScope ih body n c s = some (x, s') →
    ∀ ρ a w Q, Sim ρ s.H w → EnvR ρ s a →
    (∀ a' w' ρ', Sim ρ' s'.H w' → Step ρ s.H w ρ' s'.H w' → EnvR ρ' s' a' → a'.defers = a.defers → Q x.exit_ a' w') → ScopeGoes (fen r) 0 C.P body Q c a w
  | 0, c, s, x, s', h => by simp [evalScope] at h
  | n + 1, c, s, x, s', h => by
    intro ρ a w Q sm e hk
    obtain ⟨⟨y, s1⟩, h1, h2⟩ := Option.bind_eq_some_iff.1 h
    refine ScopeGoes.pass (hI c s y s1 h1 ρ a w _ sm e fun a1 w1 ρ1 g1 g2 g3 g4 => ?_).wp
    cases y with
    | goto l =>
      simp only at h2
      show Exit.inScope _ _ _ _ _ (.goto l) a1 w1
      unfold Exit.inScope
      simp only
      cases hf : findLabel body l with
      | some rest =>
        simp only [hf] at h2
        simp only
        exact scope_ok hI body n rest s1 x s' h2 ρ1 a1 w1 Q g1 g3 fun a2 w2 ρ2 k1 k2 k3 k4 => hk a2 w2 ρ2 k1 (g2.trans k2) k3 (k4.trans g4)
      | none =>
        simp only [hf, Option.some.injEq, Prod.mk.injEq] at h2
        obtain ⟨rfl, rfl⟩ := h2
        exact hk a1 w1 ρ1 g1 g2 g3 g4
    | normal | exit _ | ret =>
      simp only [Option.some.injEq, Prod.mk.injEq] at h2
      obtain ⟨rfl, rfl⟩ := h2
      exact hk a1 w1 ρ1 g1 g2 g3 g4

theorem step_ok {C : Ctx} {call : CallE} {r : Option Nat} {ih : CodeE} (hm : C.P.follows .mixedOrders = true) (hC : CallOK C call) (hI : CodeOK C r ih) : CodeOK C r (evalStep C call ih) := by
  intro c s x s' h ρ a w Q sm e hk
  cases c with
  | skip =>
    simp only [evalStep, Option.some.injEq, Prod.mk.injEq] at h
    obtain ⟨rfl, rfl⟩ := h
    exact wpIn_skip (hk a w ρ sm (.refl _ _ _) e rfl)
  | label l =>
    simp only [evalStep, Option.some.injEq, Prod.mk.injEq] at h
    obtain ⟨rfl, rfl⟩ := h
    exact wpIn_label (hk a w ρ sm (.refl _ _ _) e rfl)
  | exit id =>
    simp only [evalStep, Option.some.injEq, Prod.mk.injEq] at h
    obtain ⟨rfl, rfl⟩ := h
    exact wpIn_exit (hk a w ρ sm (.refl _ _ _) e rfl)
  | goto l =>
    simp only [evalStep, Option.some.injEq, Prod.mk.injEq] at h
    obtain ⟨rfl, rfl⟩ := h
    exact wpIn_goto (hk a w ρ sm (.refl _ _ _) e rfl)
  | ret =>
    simp only [evalStep, Option.some.injEq, Prod.mk.injEq] at h
    obtain ⟨rfl, rfl⟩ := h
    exact wpIn_ret (hk a w ρ sm (.refl _ _ _) e rfl)
  | region id ops draw =>
    have sm' : Sim ρ ({ s with ts := [] } : St).H w := sm
    cases draw with
    | false =>
      obtain ⟨s1, h1, h2⟩ := Option.bind_eq_some_iff.1 h
      simp only [Option.some.injEq, Prod.mk.injEq] at h2
      obtain ⟨rfl, rfl⟩ := h2
      refine wpIn_region ?_
      have := ops_wp hC (ops := ops) (r := r) (Q := Q) (l := ops.toList) (i := 0) (fun j => by simp) h1 sm' e.fresh hk
      rw [List.range_eq_range']
      simpa using this
    | true =>
      obtain ⟨s1, h1, h2⟩ := Option.bind_eq_some_iff.1 h
      simp only [Option.some.injEq, Prod.mk.injEq] at h2
      obtain ⟨rfl, rfl⟩ := h2
      exact draw_wp hC hm h1 sm' e.fresh hk
  | seq c d =>
    obtain ⟨⟨y, s1⟩, h1, h2⟩ := Option.bind_eq_some_iff.1 h
    refine wpIn_seq (hI c s y s1 h1 ρ a w _ sm e fun a1 w1 ρ1 g1 g2 g3 g4 => ?_).wp
    cases y with
    | normal =>
      exact (hI d s1 x s' h2 ρ1 a1 w1 Q g1 g3 fun a2 w2 ρ2 k1 k2 k3 k4 => hk a2 w2 ρ2 k1 (g2.trans k2) k3 (k4.trans g4)).wp
    | exit _ | goto _ | ret =>
      simp only [Option.some.injEq, Prod.mk.injEq] at h2
      obtain ⟨rfl, rfl⟩ := h2
      exact hk a1 w1 ρ1 g1 g2 g3 g4
  | cond c x1 x2 =>
    obtain ⟨v, hv, h⟩ := Option.bind_eq_some_iff.1 h
    have hvr := opnd_run e hv
    split at h
    · rename_i t
      have hce : a.eval c = .bool t := by cases hq : a.eval c <;> rw [hq] at hvr <;> cases hvr; rfl
      cases t with
      | true => exact wpIn_cond_true hce (hI x1 s x s' h ρ a w Q sm e hk).wp
      | false => exact wpIn_cond_false hce (hI x2 s x s' h ρ a w Q sm e hk).wp
    · simp at h
  | block id b =>
    obtain ⟨⟨y, s1⟩, h1, h2⟩ := Option.bind_eq_some_iff.1 h
    refine wpIn_block (hI b s y s1 h1 ρ a w _ sm e fun a1 w1 ρ1 g1 g2 g3 g4 => ?_).wp
    cases y with
    | exit k =>
      show Exit.inBlock id Q (.exit k) a1 w1
      simp only at h2
      unfold Exit.inBlock
      simp only
      split at h2
      · rename_i hb
        have hkid : k = id := Nat.eq_of_beq_eq_true hb
        simp only [Option.some.injEq, Prod.mk.injEq] at h2
        obtain ⟨rfl, rfl⟩ := h2
        rw [if_pos hkid]
        exact hk a1 w1 ρ1 g1 g2 g3 g4
      · rename_i hb
        have hkid : k ≠ id := fun e => by subst e; simp at hb
        simp only [Option.some.injEq, Prod.mk.injEq] at h2
        obtain ⟨rfl, rfl⟩ := h2
        rw [if_neg hkid]
        exact hk a1 w1 ρ1 g1 g2 g3 g4
    | normal | goto _ | ret =>
      simp only [Option.some.injEq, Prod.mk.injEq] at h2
      obtain ⟨rfl, rfl⟩ := h2
      exact hk a1 w1 ρ1 g1 g2 g3 g4
  | loop b =>
    obtain ⟨⟨y, s1⟩, h1, h2⟩ := Option.bind_eq_some_iff.1 h
    refine LoopGoes.round (hI b s y s1 h1 ρ a w _ sm e fun a1 w1 ρ1 g1 g2 g3 g4 => ?_).wp
    cases y with
    | normal =>
      exact hI (.loop b) s1 x s' h2 ρ1 a1 w1 Q g1 g3 fun a2 w2 ρ2 k1 k2 k3 k4 => hk a2 w2 ρ2 k1 (g2.trans k2) k3 (k4.trans g4)
    | exit _ | goto _ | ret =>
      simp only [Option.some.injEq, Prod.mk.injEq] at h2
      obtain ⟨rfl, rfl⟩ := h2
      exact hk a1 w1 ρ1 g1 g2 g3 g4
  | scope b => exact ScopeGoes.wp (scope_ok hI b _ b s x s' h ρ a w Q sm e hk)
  | rangeFunc => simp [evalStep] at h
  | refuse _ => simp [evalStep] at h

/-! ### Functions -/
def resOf (tmps : Array Value) : ResultVar → Sem Value
  | .tmp t => pure (tmps.getD t undef)
  | .cell a t => do loadVar t (← asAddr (tmps.getD a undef))
theorem results_eq (fn : Func) (tmps : Array Value) : results fn tmps = (do let vs ← fn.results.mapM (resOf tmps); pure (if h : vs.size = 1 then vs[0] else .tuple vs)) := by
  unfold results
  congr 1
theorem readVar_ptr {P : Program} {H : Heap} {t : TypeId} {p v : AV} {ρ : Place} {x : Value} (h : readVar P H t p = some v) (hp : VR ρ p x) : ∃ ad, x = .pointer (some ad) := by
  obtain ⟨ag, _, h⟩ := Option.bind_eq_some_iff.1 h
  obtain ⟨n, _, h⟩ := Option.bind_eq_some_iff.1 h
  cases hp
  case ptr => exact ⟨_, rfl⟩
  case fptr => exact ⟨_, rfl⟩
  all_goals (cases ag <;> simp at h)
theorem one_run {s : St} {a : Act} {C : Ctx} {ρ : Place} {w : World} (sm : Sim ρ s.H w) (e : EnvR ρ s a) : ∀ {rs : List ResultVar} {vs : List AV}, retVal C s rs = some vs →
    ∃ xs : List Value, (rs.mapM (resOf a.tmps)).run C.P w = .ok xs w ∧ VRs ρ vs xs
  | [], vs, h => by
    simp only [retVal, Option.some.injEq] at h
    subst h
    exact ⟨[], by simp, .nil⟩
  | x :: r, vs, h => by
    obtain ⟨v, hv, h'⟩ := Option.bind_eq_some_iff.1 h
    obtain ⟨us, hu, h'⟩ := Option.bind_eq_some_iff.1 h'
    simp only [Option.some.injEq] at h'
    subst h'
    obtain ⟨xs, h1, h2⟩ := one_run sm e hu
    have one : ∃ y, (resOf a.tmps x).run C.P w = .ok y w ∧ VR ρ v y := by
      cases x with
      | tmp t => exact ⟨a.tmps.getD t undef, by simp only [resOf]; rfl, e.val t v hv⟩
      | cell c t =>
        obtain ⟨p, hp, hv⟩ := Option.bind_eq_some_iff.1 hv
        obtain ⟨y, g1, g2⟩ := readVar_run sm hv (e.val c p hp)
        obtain ⟨ad, had⟩ := readVar_ptr hv (e.val c p hp)
        refine ⟨y, ?_, g2⟩
        rw [had] at g1
        simp only [resOf]
        rw [had]
        simpa [Instr.loadAt, Instr.sureAddr, asAddr] using g1
    obtain ⟨y, g1, g2⟩ := one
    refine ⟨y :: xs, ?_, .cons g2 h2⟩
    rw [List.mapM_cons]
    simp [g1, h1]
theorem VRs.oneOr {ρ : Place} {vs : List AV} {xs : List Value} (h : VRs ρ vs xs) : VR ρ (oneOr vs) (if h : xs.toArray.size = 1 then xs.toArray[0] else .tuple xs.toArray) := by
  have tup : VR ρ (.tup vs) (.tuple xs.toArray) := .tup vs xs.toArray (by simpa using h.1) fun i h1 h2 => by simpa using h.2 i h1 (by simpa using h2)
  rcases vs with _ | ⟨v, _ | ⟨u, r⟩⟩
  · have : xs = [] := by cases xs with | nil => rfl | cons _ _ => have := h.1; simp at this
    subst this
    simpa [Proofs.Ytpkplilgjdbhhaa.oneOr] using tup
  · rcases xs with _ | ⟨x, _ | ⟨y, r⟩⟩
    · have := h.1; simp at this
    · simpa [Proofs.Ytpkplilgjdbhhaa.oneOr] using h.head
    · have := h.1; simp at this
  · rcases xs with _ | ⟨x, _ | ⟨y, r'⟩⟩
    · have := h.1; simp at this
    · have := h.1; simp at this
    · simpa [Proofs.Ytpkplilgjdbhhaa.oneOr] using tup
theorem results_run {s : St} {a : Act} {C : Ctx} {ρ : Place} {w : World} (sm : Sim ρ s.H w) (e : EnvR ρ s a) {fn : Func} {vs : List AV} (h : retVal C s fn.results.toList = some vs) :
    ∃ x, (results fn a.tmps).run C.P w = .ok x w ∧ VR ρ (oneOr vs) x := by
  obtain ⟨xs, h1, h2⟩ := one_run sm e h
  refine ⟨_, ?_, h2.oneOr⟩
  rw [results_eq, Array.mapM_eq_mapM_toList]
  simp [h1]

theorem undefs_length : ∀ (l : List Nat), (undefs l).length = l.length
  | [] => rfl
  | _ :: r => by simp [undefs, undefs_length r]
theorem lookK_undefs {t : Nat} {v : AV} : ∀ {ks : List Nat}, lookK t ks (undefs ks) = some v → v = .undef
  | [], h => by simp [lookK] at h
  | k :: r, h => by
    unfold lookK at h
    simp only [undefs] at h
    split at h
    · simp only [Option.some.injEq] at h; exact h.symm
    · exact lookK_undefs h
theorem putArgs_run {ρ : Place} : ∀ {args : List AV} {xs : List Value} {i : Nat} {s s' : St} {a : Act}, putArgs s i args = some s' → EnvR ρ s a → VRs ρ args xs →
    (∀ j (h : j < xs.length), a.tmps.getD (i + j) undef = xs[j]) → EnvR ρ s' a ∧ s'.H = s.H
  | [], xs, i, s, s', a, h, e, _, _ => by
    simp only [putArgs, Option.some.injEq] at h
    subst h
    exact ⟨e, rfl⟩
  | v :: r, [], i, s, s', a, _, _, hr, _ => by have := hr.1; simp at this
  | v :: r, x :: xs, i, s, s', a, h, e, hr, hx => by
    obtain ⟨s1, h1, h2⟩ := Option.bind_eq_some_iff.1 h
    obtain ⟨hlt, hsz, hH, _, hget⟩ := St.set_get h1
    have e1 : EnvR ρ s1 a := by
      refine ⟨by rw [hsz]; exact e.size, fun t u hu => ?_⟩
      rw [hget] at hu
      split at hu
      · rename_i ht
        simp only [Option.some.injEq] at hu
        subst ht; subst hu
        have := hx 0 (by simp)
        simp only [Nat.add_zero, List.getElem_cons_zero] at this
        rw [this]; exact hr.head
      · exact e.val t u hu
    obtain ⟨g1, g2⟩ := putArgs_run (i := Nat.succ i) h2 e1 hr.tail fun j hj => by
      have := hx (j + 1) (by simpa using hj)
      have e : Nat.succ i + j = i + (j + 1) := by omega
      rw [e]; simpa using this
    exact ⟨g1, by rw [g2, hH]⟩
/-- what the table of summaries holds is so -/
def SummOK (C : Ctx) : Prop := ∀ f g, C.summ f = some g → ∀ args H v H', g args H = some (v, H') → CallAt C f args H v H'
theorem fn_calls {C : Ctx} {ih : CodeE} (hI : CodeOK C none ih) {f : FuncId} {args : List AV} {H H' : Heap} {v : AV} (hs : C.summ f = none) (h : evalFn C ih f args H = some (v, H')) {ρ : Place} {w : World} {xs : List Value}
    (sm : Sim ρ H w) (hx : VRs ρ args xs) : (callFunc f xs.toArray).run C.P w = .ok (.enter f xs.toArray) w ∧ CallsIn Fence.wide 0 C.P f xs.toArray w (After ρ H w v H') := by
  unfold evalFn at h
  simp only [hs] at h
  obtain ⟨fn, hfn, h⟩ := Option.bind_eq_some_iff.1 h
  split at h
  · simp at h
  · rename_i hname
    obtain ⟨body, hb, h⟩ := Option.bind_eq_some_iff.1 h
    obtain ⟨s, hs0, h⟩ := Option.bind_eq_some_iff.1 h
    obtain ⟨⟨y, s1⟩, h1, h2⟩ := Option.bind_eq_some_iff.1 h
    refine ⟨?_, ?_⟩
    · have hname' : ¬ fn.name = "runtime.NumGoroutine" := fun e => by rw [e] at hname; simp at hname
      simp [callFunc, hfn, hname', hb]
    · refine callsIn_of_wp hfn hb trivial ?_
      obtain ⟨o1, o2⟩ := sm.opened
      have hlen : xs.length = args.length := hx.1
      have env0 : EnvR ρ { ks := C.keep f, vs := undefs (C.keep f), ts := [], sz := args.length + (fn.ntmps - args.length), H := ⟨H.n, [] :: H.fs⟩ }
          { tmps := xs.toArray ++ Array.replicate (fn.ntmps - xs.toArray.size) undef, defers := [] } := by
        refine ⟨by simp [hlen], fun t u hu => ?_⟩
        simp only [St.get] at hu
        split at hu
        · rename_i hl
          have := lookK_undefs hl
          simp only [Option.some.injEq] at hu
          subst hu; subst this
          exact .undef _
        · simp [look] at hu
      obtain ⟨e1, hH1⟩ := putArgs_run (i := 0) hs0 env0 hx fun j hj => by
        simp only [Nat.zero_add, Array.getD_eq_getD_getElem?]
        rw [Array.getElem?_append_left (by simpa using hj)]
        simp [hj]
      have hH : s.H = ⟨H.n, [] :: H.fs⟩ := hH1
      refine (hI body s y s1 h1 ρ _ w _ (by rw [hH]; exact o1) e1 fun a' w' ρ' g1 g2 g3 g4 => ?_).wp
      rw [hH] at g2
      have fin : ∀ vs, retVal C s1 fn.results.toList = some vs → oneOr vs = v → popTo (oneOr vs) s1.H = H' →
          a'.defers = [] ∧ ∃ x, (results fn a'.tmps).run C.P w' = .ok x w' ∧ After ρ H w v H' (.returned x) w' := by
        intro vs hvs hv hpop
        obtain ⟨x, k1, k2⟩ := results_run g1 g3 hvs
        obtain ⟨p1, p2⟩ := g1.pop (oneOr vs)
        rw [hpop] at p1 p2
        exact ⟨g4, x, k1, x, ρ', rfl, hv ▸ k2, p1, (o2.trans g2).trans p2⟩
      cases y with
      | normal =>
        obtain ⟨vs, hvs, h3⟩ := Option.bind_eq_some_iff.1 h2
        simp only [Option.some.injEq, Prod.mk.injEq] at h3
        exact fin vs hvs h3.1 h3.2
      | ret =>
        obtain ⟨vs, hvs, h3⟩ := Option.bind_eq_some_iff.1 h2
        simp only [Option.some.injEq, Prod.mk.injEq] at h3
        exact fin vs hvs h3.1 h3.2
      | exit _ | goto _ => simp at h2
theorem fn_ok {C : Ctx} {ih : CodeE} (hS : SummOK C) (hI : CodeOK C none ih) : CallOK C (evalFn C ih) := by
  intro f args H v H' h
  cases hs : C.summ f with
  | some g =>
    unfold evalFn at h
    rw [hs] at h; exact hS f g hs args H v H' h
  | none => exact fun ρ w xs sm hx => .inr ⟨f, xs.toArray, fn_calls hI hs h sm hx⟩

theorem eval_ok {C : Ctx} (hm : C.P.follows .mixedOrders = true) (hS : SummOK C) : ∀ n, CodeOK C none (evalN C n)
  | 0 => fun c s x s' h => by simp [evalN] at h
  | n + 1 => step_ok hm (fn_ok hS (eval_ok hm hS n)) (eval_ok hm hS n)
theorem call_ok {C : Ctx} (hm : C.P.follows .mixedOrders = true) (hS : SummOK C) (n : Nat) : CallOK C (callN C n) := fn_ok hS (eval_ok hm hS n)
end
end Go.Proofs.Ytpkplilgjdbhhaa
