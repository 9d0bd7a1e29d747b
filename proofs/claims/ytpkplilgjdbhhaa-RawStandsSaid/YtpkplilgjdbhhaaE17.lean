/- Regions that draw their order: the run in the list's order, and what is kept at any set of operations that are done. No condition. -/
import Derived.Test.YtpkplilgjdbhhaaE16
namespace Go.Proofs.Ytpkplilgjdbhhaa
set_option linter.unusedSimpArgs false
set_option linter.unusedVariables false
open Go Go.RowKit

theorem St.put_spec {s s' : St} {d : Option Tmp} {v : AV} (h : s.put d v = some s') :
    (∀ t, s'.get t = if d = some t then some v else s.get t) ∧ s'.sz = s.sz ∧ s'.H = s.H ∧ ∀ t, d = some t → t < s.sz := by
  cases d with
  | none =>
    simp only [St.put, Option.some.injEq] at h
    subst h
    exact ⟨fun t => by simp, rfl, rfl, fun t ht => by cases ht⟩
  | some t =>
    obtain ⟨h1, h2, h3, _, h5⟩ := St.set_get h
    refine ⟨fun u => ?_, h2, h3, fun u hu => by cases hu; exact h1⟩
    rw [h5]
    by_cases hu : u = t
    · simp [hu]
    · rw [if_neg hu, if_neg (fun e => hu (by cases e; rfl))]

/-- how an operation was met in the list's order -/
inductive How (C : Ctx) (call : CallE) (ops : Array Oper) (base i : Nat) (o : Oper) (d d' : DrawSt) (v : AV) : Prop
  | skip (hg : guardA ops d.s o = some false) (hv : v = .tup []) (hc : clsOf o.op ≠ .acts) (hH : d'.s.H = d.s.H) (hp : d'.ps = d.ps) (hh : d'.hs = d.hs) (hr : d'.rs = d.rs)
  | skipActs (hg : guardA ops d.s o = some false) (hv : v = .tup []) (hc : clsOf o.op = .acts) (hH : d'.s.H = d.s.H.lay (wantedBy (Region.before ops) i d.ps))
      (hp : d'.ps = unwantedBy (Region.before ops) i d.ps) (hh : d'.hs = (i, d'.s.H) :: d.hs) (hr : d'.rs = d.rs)
  | alloc (hg : guardA ops d.s o = some true) (hc : clsOf o.op = .allocs) (k : (Nat → AV) × Blk) (hk : mkBlk C o d.s = some k) (hv : v = k.1 (base + i)) (hH : d'.s.H = d.s.H)
      (hp : d'.ps = ⟨i, base + i, k.2⟩ :: d.ps) (hh : d'.hs = d.hs) (hr : d'.rs = d.rs)
  | act (hg : guardA ops d.s o = some true) (hc : clsOf o.op = .acts) (he : evalVal C call o { d.s with H := d.s.H.lay (wantedBy (Region.before ops) i d.ps) } = some (v, d'.s.H))
      (hp : d'.ps = unwantedBy (Region.before ops) i d.ps) (hh : d'.hs = (i, d'.s.H) :: d.hs) (hr : d'.rs = d.rs)
  | read (hg : guardA ops d.s o = some true) (hc : clsOf o.op = .reads) (he : evalVal C call o d.s = some (v, d.s.H)) (hH : d'.s.H = d.s.H) (hp : d'.ps = d.ps) (hh : d'.hs = d.hs)
      (hr : d'.rs = ⟨i, o, d.s, v⟩ :: d.rs)
  | pure (hg : guardA ops d.s o = some true) (hc : clsOf o.op = .pure) (he : evalVal C call o d.s = some (v, d.s.H)) (hH : d'.s.H = d.s.H) (hp : d'.ps = d.ps) (hh : d'.hs = d.hs)
      (hr : d'.rs = d.rs)

theorem stepD_spec {C : Ctx} {call : CallE} {ops : Array Oper} {base i : Nat} {o : Oper} {d d' : DrawSt} (h : stepD C call ops (Region.before ops) base i o d = some d') :
    ∃ v, How C call ops base i o d d' v ∧ (∀ t, d'.s.get t = if o.dst = some t then some v else d.s.get t) ∧ d'.s.sz = d.s.sz ∧ ∀ t, o.dst = some t → t < d.s.sz := by
  unfold stepD at h
  obtain ⟨g, hg, h⟩ := Option.bind_eq_some_iff.1 h
  cases g with
  | false =>
    obtain ⟨s', hs, h⟩ := Option.bind_eq_some_iff.1 h
    obtain ⟨h1, h2, h3, h4⟩ := St.put_spec hs
    cases hc : clsOf o.op <;> simp only [hc, Option.some.injEq] at h <;> subst h
    case acts => exact ⟨_, .skipActs hg rfl hc (by rw [h3]) rfl rfl rfl, h1, h2, h4⟩
    all_goals exact ⟨_, .skip hg rfl (by rw [hc]; intro e; cases e) h3 rfl rfl rfl, h1, h2, h4⟩
  | true =>
    cases hc : clsOf o.op <;> simp only [hc] at h
    case allocs =>
      obtain ⟨k, hk, h⟩ := Option.bind_eq_some_iff.1 h
      obtain ⟨s', hs, h⟩ := Option.bind_eq_some_iff.1 h
      obtain ⟨h1, h2, h3, h4⟩ := St.put_spec hs
      simp only [Option.some.injEq] at h
      subst h
      exact ⟨_, .alloc hg hc k hk rfl h3 rfl rfl rfl, h1, h2, h4⟩
    case acts =>
      obtain ⟨⟨v, H'⟩, hv, h⟩ := Option.bind_eq_some_iff.1 h
      obtain ⟨s', hs, h⟩ := Option.bind_eq_some_iff.1 h
      obtain ⟨h1, h2, h3, h4⟩ := St.put_spec hs
      simp only [Option.some.injEq] at h
      subst h
      refine ⟨v, .act hg hc (by rw [hv]; simp only at h3; rw [h3]) rfl rfl rfl, h1, h2, h4⟩
    case reads =>
      obtain ⟨⟨v, H'⟩, hv, h⟩ := Option.bind_eq_some_iff.1 h
      obtain ⟨s', hs, h⟩ := Option.bind_eq_some_iff.1 h
      obtain ⟨h1, h2, h3, h4⟩ := St.put_spec hs
      simp only [Option.some.injEq] at h
      subst h
      have := evalVal_reads hc hv
      subst this
      exact ⟨v, .read hg hc hv h3 rfl rfl rfl, h1, h2, h4⟩
    case pure =>
      obtain ⟨⟨v, H'⟩, hv, h⟩ := Option.bind_eq_some_iff.1 h
      obtain ⟨s', hs, h⟩ := Option.bind_eq_some_iff.1 h
      obtain ⟨h1, h2, h3, h4⟩ := St.put_spec hs
      simp only [Option.some.injEq] at h
      subst h
      have := (evalVal_pure hc hv).1
      subst this
      exact ⟨v, .pure hg hc hv h3 rfl rfl rfl, h1, h2, h4⟩

structure Run (C : Ctx) (call : CallE) (ops : Array Oper) (base : Nat) (R : Nat → DrawSt) (V : Nat → AV) : Prop where
  how : ∀ i o, ops[i]? = some o → How C call ops base i o (R i) (R (i + 1)) (V i)
  get : ∀ i o, ops[i]? = some o → ∀ t, (R (i + 1)).s.get t = if o.dst = some t then some (V i) else (R i).s.get t
  sz : ∀ i o, ops[i]? = some o → (R (i + 1)).s.sz = (R i).s.sz
  lt : ∀ i o, ops[i]? = some o → ∀ t, o.dst = some t → t < (R i).s.sz
  ps0 : (R 0).ps = []
  hs0 : (R 0).hs = []
  same : ∀ x, x ∈ (R ops.size).rs → sameAll C call (Region.before ops) x (R 0).s.H (R ops.size).hs = true

theorem evalD_runs {C : Ctx} {call : CallE} {ops : Array Oper} {base : Nat} : ∀ {l : List Oper} {i : Nat} {d d' : DrawSt}, evalD C call ops (Region.before ops) base i l d = some d' →
    ∃ R : Nat → DrawSt, R 0 = d ∧ R l.length = d' ∧ ∀ j (h : j < l.length), stepD C call ops (Region.before ops) base (i + j) l[j] (R j) = some (R (j + 1))
  | [], i, d, d', h => by
    simp only [evalD, Option.some.injEq] at h
    subst h
    exact ⟨fun _ => d, rfl, rfl, fun j h => absurd h (Nat.not_lt_zero j)⟩
  | o :: r, i, d, d', h => by
    obtain ⟨d1, h1, h2⟩ := Option.bind_eq_some_iff.1 h
    obtain ⟨R, r0, r1, r2⟩ := evalD_runs h2
    refine ⟨fun j => match j with | 0 => d | j + 1 => R j, rfl, r1, fun j hj => ?_⟩
    cases j with
    | zero => simp only [Nat.add_zero, List.getElem_cons_zero, Nat.zero_add]; rw [r0]; exact h1
    | succ j =>
      have := r2 j (by simpa using hj)
      have e : Nat.succ i + j = i + (j + 1) := by omega
      rw [e] at this
      exact this
theorem sameRecs_spec {C : Ctx} {call : CallE} {bef : Array Nat} {H0 : Heap} {hs : List (Nat × Heap)} : ∀ {rs : List Rec}, sameRecs C call bef H0 hs rs = true → ∀ x, x ∈ rs → sameAll C call bef x H0 hs = true
  | [], _, _, h => by cases h
  | y :: r, h, x, hx => by
    unfold sameRecs at h
    split at h
    · rename_i hy
      rcases List.mem_cons.1 hx with rfl | hx
      · exact hy
      · exact sameRecs_spec h x hx
    · cases h
theorem evalDraw_run {C : Ctx} {call : CallE} {ops : Array Oper} {s s' : St} (h : evalDraw C call ops s = some s') :
    Drawn ops ∧ ∃ R V, Run C call ops s.H.n R V ∧ (R 0).s = reserve (freshenAll ops.toList s) ops.size ∧ s' = { (R ops.size).s with H := (R ops.size).s.H.lay (allPend (R ops.size).ps) } := by
  unfold evalDraw at h
  split at h
  · cases h
  · rename_i hd
    refine ⟨drawOK_spec hd, ?_⟩
    obtain ⟨d, hr, h⟩ := Option.bind_eq_some_iff.1 h
    split at h
    · rename_i hsame
      simp only [Option.some.injEq] at h
      obtain ⟨R, r0, r1, r2⟩ := evalD_runs hr
      have r1' : R ops.size = d := by simpa using r1
      have all : ∀ i, ∃ v, ∀ o, ops[i]? = some o → How C call ops s.H.n i o (R i) (R (i + 1)) v ∧ (∀ t, (R (i + 1)).s.get t = if o.dst = some t then some v else (R i).s.get t) ∧
          (R (i + 1)).s.sz = (R i).s.sz ∧ ∀ t, o.dst = some t → t < (R i).s.sz := fun i => by
        rcases Nat.lt_or_ge i ops.size with hi | hi
        · have h1 := r2 i (by simpa using hi)
          rw [Nat.zero_add] at h1
          obtain ⟨v, h2⟩ := stepD_spec h1
          refine ⟨v, fun o ho => ?_⟩
          obtain ⟨_, rfl⟩ := Array.getElem?_eq_some_iff.1 ho
          simpa using h2
        · exact ⟨.undef, fun o ho => by rw [Array.getElem?_eq_none hi] at ho; cases ho⟩
      refine ⟨R, fun i => (all i).choose, ⟨fun i o ho => ((all i).choose_spec o ho).1, fun i o ho => ((all i).choose_spec o ho).2.1, fun i o ho => ((all i).choose_spec o ho).2.2.1,
        fun i o ho => ((all i).choose_spec o ho).2.2.2, by rw [r0], by rw [r0], ?_⟩, by rw [r0], by rw [r1', ← h]⟩
      rw [r1', r0]
      exact sameRecs_spec hsame
    · cases h

/-! ### Facts of the run -/
def dstAt (ops : Array Oper) (j : Nat) : Option Tmp := (ops[j]?).bind (·.dst)
/-- what slot t holds when the operations of D are done -/
def Cur (ops : Array Oper) (R : Nat → DrawSt) (V : Nat → AV) (D : Nat → Prop) (t : Nat) (v : AV) : Prop :=
  (∃ j, D j ∧ dstAt ops j = some t ∧ (∀ k, D k → dstAt ops k = some t → k ≤ j) ∧ V j = v) ∨ ((∀ k, D k → dstAt ops k ≠ some t) ∧ (R 0).s.get t = some v)
/-- the heap when the operations of D are done -/
def CurH (ops : Array Oper) (R : Nat → DrawSt) (D : Nat → Prop) (H : Heap) : Prop :=
  (∃ j, D j ∧ Acts ops j ∧ (∀ k, D k → Acts ops k → k ≤ j) ∧ H = (R (j + 1)).s.H) ∨ ((∀ k, D k → ¬ Acts ops k) ∧ H = (R 0).s.H)
theorem CurH.one {ops : Array Oper} {R : Nat → DrawSt} {D : Nat → Prop} {H H' : Heap} (h : CurH ops R D H) (h' : CurH ops R D H') : H = H' := by
  rcases h with ⟨j, h1, h2, h3, h4⟩ | ⟨h1, h2⟩ <;> rcases h' with ⟨j', g1, g2, g3, g4⟩ | ⟨g1, g2⟩
  · have := h3 j' g1 g2; have := g3 j h1 h2
    have e : j = j' := by omega
    subst e; rw [h4, g4]
  · exact absurd h2 (g1 j h1)
  · exact absurd g2 (h1 j' g1)
  · rw [h2, g2]
/-- a block that operation A laid -/
def AllocAt (C : Ctx) (ops : Array Oper) (R : Nat → DrawSt) (A : Nat) (k : Blk) : Prop :=
  ∃ o p, ops[A]? = some o ∧ clsOf o.op = .allocs ∧ guardA ops (R A).s o = some true ∧ mkBlk C o (R A).s = some p ∧ k = p.2

theorem mem_wanted {bef : Array Nat} {i : Nat} {e : Nat × Blk} : ∀ {l : List Pend}, e ∈ wantedBy bef i l ↔ ∃ p, p ∈ l ∧ ahead bef p.i i = true ∧ e = (p.b, p.k)
  | [] => by simp [wantedBy]
  | p :: r => by
    unfold wantedBy
    split
    · rename_i h
      rw [List.mem_cons, mem_wanted]
      constructor
      · rintro (rfl | ⟨q, hq, h1, h2⟩)
        · exact ⟨p, List.mem_cons_self, h, rfl⟩
        · exact ⟨q, List.mem_cons_of_mem _ hq, h1, h2⟩
      · rintro ⟨q, hq, h1, h2⟩
        rcases List.mem_cons.1 hq with rfl | hq
        · exact .inl h2
        · exact .inr ⟨q, hq, h1, h2⟩
    · rename_i h
      rw [mem_wanted]
      constructor
      · rintro ⟨q, hq, h1, h2⟩; exact ⟨q, List.mem_cons_of_mem _ hq, h1, h2⟩
      · rintro ⟨q, hq, h1, h2⟩
        rcases List.mem_cons.1 hq with rfl | hq
        · rw [h] at h1; cases h1
        · exact ⟨q, hq, h1, h2⟩
theorem mem_unwanted {bef : Array Nat} {i : Nat} {p : Pend} : ∀ {l : List Pend}, p ∈ unwantedBy bef i l ↔ p ∈ l ∧ ahead bef p.i i = false
  | [] => by simp [unwantedBy]
  | q :: r => by
    unfold unwantedBy
    split
    · rename_i h
      rw [mem_unwanted, List.mem_cons]
      constructor
      · rintro ⟨h1, h2⟩; exact ⟨.inr h1, h2⟩
      · rintro ⟨h1, h2⟩
        rcases h1 with rfl | h1
        · rw [h] at h2; cases h2
        · exact ⟨h1, h2⟩
    · rename_i h
      rw [List.mem_cons, mem_unwanted, List.mem_cons]
      constructor
      · rintro (rfl | ⟨h1, h2⟩)
        · exact ⟨.inl rfl, h⟩
        · exact ⟨.inr h1, h2⟩
      · rintro ⟨rfl | h1, h2⟩
        · exact .inl rfl
        · exact .inr ⟨h1, h2⟩
theorem unwanted_sub (bef : Array Nat) (i : Nat) : ∀ (l : List Pend), (unwantedBy bef i l).Sublist l
  | [] => List.Sublist.refl _
  | q :: r => by
    unfold unwantedBy
    split
    · exact (unwanted_sub bef i r).trans (List.sublist_cons_self _ _)
    · exact (unwanted_sub bef i r).cons_cons _
theorem wanted_ids (bef : Array Nat) (i : Nat) : ∀ (l : List Pend), ((wantedBy bef i l).map (·.1)).Sublist (l.map (·.b))
  | [] => List.Sublist.refl _
  | q :: r => by
    unfold wantedBy
    split
    · simp only [List.map_cons]; exact (wanted_ids bef i r).cons_cons _
    · simp only [List.map_cons]; exact (wanted_ids bef i r).trans (List.sublist_cons_self _ _)
theorem mem_allPend {e : Nat × Blk} : ∀ {l : List Pend}, e ∈ allPend l ↔ ∃ p, p ∈ l ∧ e = (p.b, p.k)
  | [] => by simp [allPend]
  | p :: r => by
    simp only [allPend, List.mem_cons, mem_allPend]
    constructor
    · rintro (rfl | ⟨q, hq, h⟩)
      · exact ⟨p, .inl rfl, rfl⟩
      · exact ⟨q, .inr hq, h⟩
    · rintro ⟨q, rfl | hq, h⟩
      · exact .inl h
      · exact .inr ⟨q, hq, h⟩
theorem allPend_ids : ∀ (l : List Pend), (allPend l).map (·.1) = l.map (·.b)
  | [] => rfl
  | p :: r => by simp [allPend, allPend_ids r]

section
variable {C : Ctx} {call : CallE} {ops : Array Oper} {base : Nat} {R : Nat → DrawSt} {V : Nat → AV}

theorem Run.get_at (run : Run C call ops base R V) : ∀ i, i ≤ ops.size → ∀ t v, (R i).s.get t = some v → Cur ops R V (fun j => j < i) t v
  | 0, _, t, v, h => .inr ⟨fun k hk => absurd hk (Nat.not_lt_zero k), h⟩
  | i + 1, hi, t, v, h => by
    have ho : ops[i]? = some ops[i] := by simp [show i < ops.size by omega]
    have hd : dstAt ops i = ops[i].dst := by simp [dstAt, ho]
    rw [run.get i _ ho] at h
    split at h
    · rename_i hdt
      simp only [Option.some.injEq] at h
      exact .inl ⟨i, Nat.lt_succ_self i, by rw [hd, hdt], fun k hk _ => Nat.le_of_lt_succ hk, h⟩
    · rename_i hdt
      have hne : ∀ k, k < i + 1 → dstAt ops k = some t → k < i := fun k hk hkd => by
        rcases Nat.lt_or_ge k i with h | h
        · exact h
        · have : k = i := by omega
          subst this; rw [hd] at hkd; exact absurd hkd hdt
      rcases run.get_at i (by omega) t v h with ⟨j, h1, h2, h3, h4⟩ | ⟨h1, h2⟩
      · exact .inl ⟨j, by omega, h2, fun k hk hkd => h3 k (hne k hk hkd) hkd, h4⟩
      · exact .inr ⟨fun k hk hkd => h1 k (hne k hk hkd) hkd, h2⟩
theorem Run.sz_at (run : Run C call ops base R V) : ∀ i, i ≤ ops.size → (R i).s.sz = (R 0).s.sz
  | 0, _ => rfl
  | i + 1, hi => by
    have ho : ops[i]? = some ops[i] := by simp [show i < ops.size by omega]
    rw [run.sz i _ ho, run.sz_at i (by omega)]
theorem How.quiet {i : Nat} {o : Oper} {d d' : DrawSt} {v : AV} (h : How C call ops base i o d d' v) (hc : clsOf o.op ≠ .acts) : d'.s.H = d.s.H ∧ d'.hs = d.hs := by
  cases h with
  | skip _ _ _ hH _ hh => exact ⟨hH, hh⟩
  | skipActs _ _ hc' => exact absurd hc' hc
  | alloc _ _ _ _ _ hH _ hh => exact ⟨hH, hh⟩
  | act _ hc' => exact absurd hc' hc
  | read _ _ _ hH _ hh => exact ⟨hH, hh⟩
  | pure _ _ _ hH _ hh => exact ⟨hH, hh⟩
theorem How.loud {i : Nat} {o : Oper} {d d' : DrawSt} {v : AV} (h : How C call ops base i o d d' v) (hc : clsOf o.op = .acts) : d'.ps = unwantedBy (Region.before ops) i d.ps ∧ d'.hs = (i, d'.s.H) :: d.hs := by
  cases h with
  | skip _ _ hc' => exact absurd hc hc'
  | skipActs _ _ _ _ hp hh => exact ⟨hp, hh⟩
  | act _ _ _ hp hh => exact ⟨hp, hh⟩
  | alloc _ hc' => rw [hc] at hc'; cases hc'
  | read _ hc' => rw [hc] at hc'; cases hc'
  | pure _ hc' => rw [hc] at hc'; cases hc'
theorem Run.heap_at (run : Run C call ops base R V) : ∀ i, i ≤ ops.size → CurH ops R (fun j => j < i) (R i).s.H
  | 0, _ => .inr ⟨fun k hk => absurd hk (Nat.not_lt_zero k), rfl⟩
  | i + 1, hi => by
    have ho : ops[i]? = some ops[i] := by simp [show i < ops.size by omega]
    by_cases hc : clsOf ops[i].op = .acts
    · exact .inl ⟨i, Nat.lt_succ_self i, ⟨_, ho, hc⟩, fun k hk _ => Nat.le_of_lt_succ hk, rfl⟩
    · have hne : ∀ k, k < i + 1 → Acts ops k → k < i := fun k hk hka => by
        rcases Nat.lt_or_ge k i with h | h
        · exact h
        · have : k = i := by omega
          subst this
          obtain ⟨o, ho', hc'⟩ := hka
          rw [ho] at ho'; cases ho'
          exact absurd hc' hc
      rw [((run.how i _ ho).quiet hc).1]
      rcases run.heap_at i (by omega) with ⟨j, h1, h2, h3, h4⟩ | ⟨h1, h2⟩
      · exact .inl ⟨j, by omega, h2, fun k hk hka => h3 k (hne k hk hka) hka, h4⟩
      · exact .inr ⟨fun k hk hka => h1 k (hne k hk hka) hka, h2⟩
/-- the pending blocks -/
theorem Run.ps_at (run : Run C call ops base R V) : ∀ i, i ≤ ops.size → ((R i).ps.map (·.b)).Nodup ∧
    ∀ p, p ∈ (R i).ps → p.i < i ∧ p.b = base + p.i ∧ AllocAt C ops R p.i p.k ∧ ∀ j, Acts ops j → p.i < j → j < i → ahead (Region.before ops) p.i j = false
  | 0, _ => by rw [run.ps0]; exact ⟨List.nodup_nil, fun p hp => by cases hp⟩
  | i + 1, hi => by
    have ho : ops[i]? = some ops[i] := by simp [show i < ops.size by omega]
    obtain ⟨hn, ih⟩ := run.ps_at i (by omega)
    have notAct : clsOf ops[i].op ≠ .acts → ¬ Acts ops i := fun hc ⟨o, ho', hc'⟩ => by rw [ho] at ho'; cases ho'; exact hc hc'
    have old : (∀ p, p ∈ (R i).ps → ¬ Acts ops i ∨ ahead (Region.before ops) p.i i = false) → ∀ p, p ∈ (R i).ps → p.i < i + 1 ∧ p.b = base + p.i ∧ AllocAt C ops R p.i p.k ∧
        ∀ j, Acts ops j → p.i < j → j < i + 1 → ahead (Region.before ops) p.i j = false := fun hx p hp => by
      obtain ⟨h1, h2, h3, h4⟩ := ih p hp
      refine ⟨by omega, h2, h3, fun j hj hlt hj1 => ?_⟩
      rcases Nat.lt_or_ge j i with h | h
      · exact h4 j hj hlt h
      · have : j = i := by omega
        subst this
        rcases hx p hp with hx | hx
        · exact absurd hj hx
        · exact hx
    have quiet : clsOf ops[i].op ≠ .acts → (R (i + 1)).ps = (R i).ps → ((R (i + 1)).ps.map (·.b)).Nodup ∧
        ∀ p, p ∈ (R (i + 1)).ps → p.i < i + 1 ∧ p.b = base + p.i ∧ AllocAt C ops R p.i p.k ∧ ∀ j, Acts ops j → p.i < j → j < i + 1 → ahead (Region.before ops) p.i j = false := fun hc hp => by
      rw [hp]; exact And.intro hn (old fun p _ => .inl (notAct hc))
    have how := run.how i _ ho
    cases how with
    | skip _ _ hc _ hp => exact quiet hc hp
    | read _ hc _ _ hp => exact quiet (by rw [hc]; intro e; cases e) hp
    | pure _ hc _ _ hp => exact quiet (by rw [hc]; intro e; cases e) hp
    | skipActs _ _ _ _ hp =>
      rw [hp]
      refine ⟨((unwanted_sub _ i _).map _).nodup hn, fun p hm => ?_⟩
      obtain ⟨h1, h2⟩ := mem_unwanted.1 hm
      obtain ⟨h3, h4, h5, h6⟩ := ih p h1
      refine ⟨by omega, h4, h5, fun j hj hlt hj1 => ?_⟩
      rcases Nat.lt_or_ge j i with h | h
      · exact h6 j hj hlt h
      · have : j = i := by omega
        subst this; exact h2
    | act _ _ _ hp =>
      rw [hp]
      refine ⟨((unwanted_sub _ i _).map _).nodup hn, fun p hm => ?_⟩
      obtain ⟨h1, h2⟩ := mem_unwanted.1 hm
      obtain ⟨h3, h4, h5, h6⟩ := ih p h1
      refine ⟨by omega, h4, h5, fun j hj hlt hj1 => ?_⟩
      rcases Nat.lt_or_ge j i with h | h
      · exact h6 j hj hlt h
      · have : j = i := by omega
        subst this; exact h2
    | alloc hg hc k hk _ _ hp =>
      have hna : ¬ Acts ops i := notAct (by rw [hc]; intro e; cases e)
      rw [hp]
      refine ⟨?_, fun p hm => ?_⟩
      · rw [List.map_cons, List.nodup_cons]
        refine ⟨fun hm => ?_, hn⟩
        obtain ⟨p, hpm, he⟩ := List.mem_map.1 hm
        obtain ⟨h1, h2, _⟩ := ih p hpm
        simp only at he
        omega
      · rcases List.mem_cons.1 hm with rfl | hm
        · exact ⟨Nat.lt_succ_self i, rfl, ⟨_, k, ho, hc, hg, hk, rfl⟩, fun j _ h1 h2 => by simp only at h1; omega⟩
        · exact old (fun p _ => .inl hna) p hm
/-- a reading stays on record -/
theorem Run.rs_at (run : Run C call ops base R V) {x : Rec} {i : Nat} (h : x ∈ (R i).rs) : ∀ n, i + n ≤ ops.size → x ∈ (R (i + n)).rs
  | 0, _ => h
  | n + 1, hn => by
    have ho : ops[i + n]? = some ops[i + n] := by simp [show i + n < ops.size by omega]
    have ih := run.rs_at h n (by omega)
    have how := run.how (i + n) _ ho
    have e : i + (n + 1) = i + n + 1 := rfl
    rw [e]
    cases how with
    | skip _ _ _ _ _ _ hr => rw [hr]; exact ih
    | skipActs _ _ _ _ _ _ hr => rw [hr]; exact ih
    | alloc _ _ _ _ _ _ _ _ hr => rw [hr]; exact ih
    | act _ _ _ _ _ hr => rw [hr]; exact ih
    | read _ _ _ _ _ _ hr => rw [hr]; exact List.mem_cons_of_mem _ ih
    | pure _ _ _ _ _ _ hr => rw [hr]; exact ih
/-- a reading that is met when the operations of D are done gives its value -/
theorem Run.same_at (run : Run C call ops base R V) {D : Nat → Prop} (hD : Closed ops D) {x : Rec} (hx : ¬ D x.i) (hc : Comes ops D x.i) {H : Heap} (hH : CurH ops R D H) :
    ∀ i, i ≤ ops.size → (∀ j, D j → Acts ops j → j < i) → sameAll C call (Region.before ops) x (R 0).s.H (R i).hs = true → sameAt C call x H = true
  | 0, _, hlt, h => by
    rw [run.hs0] at h
    rcases hH with ⟨j, h1, h2, _, _⟩ | ⟨_, rfl⟩
    · exact absurd (hlt j h1 h2) (Nat.not_lt_zero j)
    · exact h
  | i + 1, hi, hlt, h => by
    have ho : ops[i]? = some ops[i] := by simp [show i < ops.size by omega]
    by_cases hca : clsOf ops[i].op = .acts
    · rw [((run.how i _ ho).loud hca).2] at h
      unfold sameAll at h
      have later : ¬ D i → ∀ j, D j → Acts ops j → j < i := fun hn j hj hja => by
        have := hlt j hj hja
        rcases Nat.lt_or_ge j i with h | h
        · exact h
        · have e : j = i := by omega
          subst e; exact absurd hj hn
      by_cases hDi : D i
      · have hHi : H = (R (i + 1)).s.H := hH.one (.inl ⟨i, hDi, ⟨_, ho, hca⟩, fun k hk hka => Nat.le_of_lt_succ (hlt k hk hka), rfl⟩)
        split at h
        · rename_i ha
          exact absurd (ahead_in hD (hD i hDi) ha) hx
        · split at h
          · cases h
          · rename_i hs; rw [hHi]; exact hs
      · split at h
        · exact run.same_at hD hx hc hH i (by omega) (later hDi) h
        · split at h
          · cases h
          · split at h
            · rename_i ha
              exact absurd (ahead_in hD hc ha) hDi
            · exact run.same_at hD hx hc hH i (by omega) (later hDi) h
    · rw [((run.how i _ ho).quiet hca).2] at h
      refine run.same_at hD hx hc hH i (by omega) (fun j hj hja => ?_) h
      have := hlt j hj hja
      rcases Nat.lt_or_ge j i with h | h
      · exact h
      · have e : j = i := by omega
        subst e
        obtain ⟨o, ho', hc'⟩ := hja
        rw [ho] at ho'; cases ho'
        exact absurd hc' hca
end
end Go.Proofs.Ytpkplilgjdbhhaa
