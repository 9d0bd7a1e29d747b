/- Regions that draw their order: the invariant, and each operation's step. No condition. -/
import Derived.Test.YtpkplilgjdbhhaaE17
namespace Go.Proofs.Ytpkplilgjdbhhaa
set_option linter.unusedSimpArgs false
set_option linter.unusedVariables false
open Go Go.RowKit

/-- the state, cut down to some slots, at a heap -/
def only (s : St) (ts : List Nat) (H : Heap) : St := { ks := [], vs := [], ts := ts.filterMap fun t => (s.get t).map fun v => (t, v), sz := s.sz, H := H }
theorem look_only {s : St} {t : Nat} : ∀ {ts : List Nat}, look t (ts.filterMap fun t => (s.get t).map fun v => (t, v)) = if t ∈ ts then s.get t else none
  | [] => by simp [look]
  | u :: r => by
    rw [List.filterMap_cons]
    cases hu : s.get u with
    | none =>
      simp only [Option.map_none]
      rw [look_only]
      by_cases htu : t = u
      · subst htu
        by_cases hr : t ∈ r <;> simp [hr, hu]
      · by_cases hr : t ∈ r <;> simp [hr, htu]
    | some v =>
      simp only [Option.map_some, look]
      split
      · rename_i hb
        have : u = t := Nat.eq_of_beq_eq_true hb
        subst this
        simp [hu]
      · rename_i hb
        have htu : t ≠ u := fun e => by subst e; simp at hb
        rw [look_only]
        by_cases hr : t ∈ r <;> simp [hr, htu]
theorem only_get {s : St} {ts : List Nat} {H : Heap} {t : Nat} : (only s ts H).get t = if t ∈ ts then s.get t else none := by
  simp only [St.get, only, lookK]
  exact look_only
theorem guardA_congr {ops : Array Oper} {s s' : St} {o : Oper} (h : ∀ t, t ∈ slotsOf ops o → s.get t = s'.get t) : guardA ops s o = guardA ops s' o := by
  unfold guardA
  unfold slotsOf at h
  cases hg : o.guard with
  | none => rfl
  | some x =>
    obtain ⟨j, want⟩ := x
    simp only [hg] at h ⊢
    cases hp : ops[j]? with
    | none => rfl
    | some p =>
      simp only [hp, Option.bind_some] at h ⊢
      cases hd : p.dst with
      | none => rfl
      | some t =>
        simp only [hd, Option.bind_some] at h ⊢
        rw [h t (by simp)]
theorem asks_slots {ops : Array Oper} {o : Oper} {t : Nat} (h : Asks o.op t) : t ∈ slotsOf ops o := by
  unfold slotsOf
  exact List.mem_append_left _ (List.mem_filterMap.2 ⟨.tmp t, h, rfl⟩)

theorem lay_ents (H : Heap) (L : List (Nat × Blk)) : (H.lay L).ents = L ++ H.ents := by
  cases L with
  | nil => rfl
  | cons x r => exact ontoF_ents _ _
theorem lay_n (H : Heap) (L : List (Nat × Blk)) : (H.lay L).n = H.n := by cases L <;> rfl
theorem freshenAll_n : ∀ (l : List Oper) (s : St), (freshenAll l s).H.n = s.H.n
  | [], _ => rfl
  | o :: r, s => by
    simp only [freshenAll]
    rw [freshenAll_n r]
    unfold freshen
    have kill : ∀ b, (s.H.kill b).n = s.H.n := fun b => by unfold Heap.kill; split <;> rfl
    repeat' split
    all_goals first | exact kill _ | rfl
section
theorem freshenAll_run {ρ : Place} {w : World} {a : Act} : ∀ {l : List Oper} {s : St}, Sim ρ s.H w → EnvR ρ s a →
    Sim ρ (freshenAll l s).H w ∧ Step ρ s.H w ρ (freshenAll l s).H w ∧ EnvR ρ (freshenAll l s) a
  | [], s, sm, e => ⟨sm, .refl _ _ _, e⟩
  | o :: r, s, sm, e => by
    obtain ⟨h1, h2, h3⟩ := freshen_run sm e o
    obtain ⟨g1, g2, g3⟩ := freshenAll_run (l := r) h1 h3
    exact ⟨g1, h2.trans g2, g3⟩
/-- a block that lies in the world, in a row that no block of the heap names -/
structure Hid (w0 : World) (ρ : Place) (H : Heap) (w : World) (b : Nat) (k : Blk) (l : Loc) : Prop where
  at_ : ρ b = some l
  new : w0.heap.size ≤ l.cb
  in_ : l.cb < w.heap.size
  blk : BlkR ρ w l k
  off : ∀ e, e ∈ H.ents → ∀ l', ρ e.1 = some l' → l'.cb ≠ l.cb
  free : ¬ ρ.B l.cb
theorem Sim.lay {w0 w : World} {ρ : Place} {H : Heap} (s : Sim ρ H w) {L : List (Nat × Blk)} (hn : (L.map (·.1)).Nodup)
    (hid : ∀ e, e ∈ L → ∃ l, Hid w0 ρ H w e.1 e.2 l)
    (hap : ∀ e e', e ∈ L → e' ∈ L → ∀ l l', ρ e.1 = some l → ρ e'.1 = some l' → l.cb = l'.cb → e.1 = e'.1) : Sim ρ (H.lay L) w where
  base := s.base
  below := s.below
  os := s.os
  tape := s.tape
  output := s.output
  dom := fun b hb => s.dom b (by rw [lay_n] at hb; exact hb)
  nodup := by
    rw [lay_ents, List.map_append, List.nodup_append]
    refine ⟨hn, s.nodup, fun a ha b hb hab => ?_⟩
    obtain ⟨e, he, rfl⟩ := List.mem_map.1 ha
    obtain ⟨e', he', rfl⟩ := List.mem_map.1 hb
    obtain ⟨l, hl⟩ := hid e he
    exact hl.off e' he' l (by rw [← hab]; exact hl.at_) rfl
  live := fun e he => by
    rw [lay_ents] at he
    rcases List.mem_append.1 he with he | he
    · obtain ⟨l, hl⟩ := hid e he
      exact ⟨l, hl.at_, hl.free, hl.in_, hl.blk⟩
    · exact s.live e he
  inj := fun e e' he he' l l' hl hl' hc => by
    rw [lay_ents] at he he'
    rcases List.mem_append.1 he with he | he <;> rcases List.mem_append.1 he' with he' | he'
    · exact hap e e' he he' l l' hl hl' hc
    · obtain ⟨m, hm⟩ := hid e he
      have := hm.at_
      rw [hl] at this; cases this
      exact absurd hc.symm (hm.off e' he' l' hl')
    · obtain ⟨m, hm⟩ := hid e' he'
      have := hm.at_
      rw [hl'] at this; cases this
      exact absurd hc (hm.off e he l hl)
    · exact s.inj e e' he he' l l' hl hl' hc
theorem Step.lay {w0 w : World} {ρ0 ρ : Place} {H0 H : Heap} (s : Step ρ0 H0 w0 ρ H w) {L : List (Nat × Blk)} (hid : ∀ e, e ∈ L → ∃ l, Hid w0 ρ H w e.1 e.2 l) : Step ρ0 H0 w0 ρ (H.lay L) w where
  le := s.le
  size := s.size
  keeps := s.keeps
  num := by rw [lay_n]; exact s.num
  low := s.low
  cold := s.cold
  rows := fun e he l hl => by
    rw [lay_ents] at he
    rcases List.mem_append.1 he with he | he
    · obtain ⟨m, hm⟩ := hid e he
      have := hm.at_
      rw [hl] at this; cases this
      exact .inr hm.new
    · exact s.rows e he l hl

structure Inv (C : Ctx) (ops : Array Oper) (base : Nat) (R : Nat → DrawSt) (V : Nat → AV) (ρ0 : Place) (H0 : Heap) (w0 : World) (ds : List Deferred)
    (D : Nat → Prop) (ρ : Place) (a : Act) (w : World) (H : Heap) : Prop where
  inside : ∀ j, D j → j < ops.size
  closed : Closed ops D
  size : (R 0).s.sz = a.tmps.size
  slots : ∀ t v, Cur ops R V D t v → VR ρ v (a.tmps.getD t undef)
  heap : CurH ops R D H
  sim : Sim ρ H w
  step : Step ρ0 H0 w0 ρ H w
  num : base + ops.size ≤ H.n
  undone : ∀ A, ¬ D A → A < ops.size → ρ (base + A) = none
  pend : ∀ A k, D A → AllocAt C ops R A k → (∀ j, D j → Acts ops j → ahead (Region.before ops) A j = false) → ∃ l, Hid w0 ρ H w (base + A) k l
  apart : ∀ A A' k k', D A → D A' → AllocAt C ops R A k → AllocAt C ops R A' k' → (∀ j, D j → Acts ops j → ahead (Region.before ops) A j = false) →
    (∀ j, D j → Acts ops j → ahead (Region.before ops) A' j = false) → ∀ l l', ρ (base + A) = some l → ρ (base + A') = some l' → l.cb = l'.cb → A = A'
  defers : a.defers = ds

section
variable {C : Ctx} {call : CallE} {ops : Array Oper} {base : Nat} {R : Nat → DrawSt} {V : Nat → AV} {ρ0 : Place} {H0 : Heap} {w0 : World} {ds : List Deferred}
variable {D : Nat → Prop} {ρ : Place} {a : Act} {w : World} {H : Heap} {i : Nat} {o : Oper}

theorem AllocAt.one {A : Nat} {k k' : Blk} (h : AllocAt C ops R A k) (h' : AllocAt C ops R A k') : k = k' := by
  obtain ⟨o, p, h1, _, _, h4, h5⟩ := h
  obtain ⟨o', p', g1, _, _, g4, g5⟩ := h'
  rw [h1] at g1; cases g1
  rw [h4] at g4; cases g4
  rw [h5, g5]
theorem AllocAt.notActs {A : Nat} {k : Blk} (h : AllocAt C ops R A k) : ¬ Acts ops A := by
  obtain ⟨o, p, h1, h2, _⟩ := h
  rintro ⟨o', g1, g2⟩
  rw [h1] at g1; cases g1
  rw [h2] at g2; cases g2

/-- the operations done ahead of i that write i's slots are those that stand before it -/
theorem Inv.writers (dr : Drawn ops) (inv : Inv C ops base R V ρ0 H0 w0 ds D ρ a w H) (ho : ops[i]? = some o) (hn : ¬ D i) (hc : Comes ops D i) {t : Nat} (ht : t ∈ o.dst.toList ++ slotsOf ops o) {k : Nat}
    (hk : dstAt ops k = some t) : (D k → k < i) ∧ (k < i → D k) := by
  obtain ⟨p, hp, hd⟩ := Option.bind_eq_some_iff.1 hk
  rcases dr.temps i o ho k p t hp hd ht with h | ⟨h, ha⟩ | ⟨h, ha⟩
  · subst h; exact ⟨fun hD => absurd hD hn, fun h => absurd h (Nat.lt_irrefl _)⟩
  · exact ⟨fun hD => absurd (ahead_in inv.closed (inv.closed k hD) ha) hn, fun h' => by omega⟩
  · exact ⟨fun _ => h, fun _ => ahead_in inv.closed hc ha⟩
theorem Inv.asked (run : Run C call ops base R V) (dr : Drawn ops) (inv : Inv C ops base R V ρ0 H0 w0 ds D ρ a w H) (ho : ops[i]? = some o) (hn : ¬ D i) (hc : Comes ops D i) {t : Nat}
    (ht : t ∈ o.dst.toList ++ slotsOf ops o) {v : AV} (hv : (R i).s.get t = some v) : VR ρ v (a.tmps.getD t undef) := by
  have hi := (Array.getElem?_eq_some_iff.1 ho).1
  refine inv.slots t v ?_
  have wr := fun k (hk : dstAt ops k = some t) => inv.writers dr ho hn hc ht hk
  rcases run.get_at i (Nat.le_of_lt hi) t v hv with ⟨j, h1, h2, h3, h4⟩ | ⟨h1, h2⟩
  · exact .inl ⟨j, (wr j h2).2 h1, h2, fun k hk hkd => h3 k ((wr k hkd).1 hk) hkd, h4⟩
  · exact .inr ⟨fun k hk hkd => h1 k ((wr k hkd).1 hk) hkd, h2⟩
theorem Inv.env (run : Run C call ops base R V) (dr : Drawn ops) (inv : Inv C ops base R V ρ0 H0 w0 ds D ρ a w H) (ho : ops[i]? = some o) (hn : ¬ D i) (hc : Comes ops D i) (H1 : Heap) :
    EnvR ρ (only (R i).s (slotsOf ops o) H1) a := by
  have hi := (Array.getElem?_eq_some_iff.1 ho).1
  refine ⟨?_, fun t v hv => ?_⟩
  · show (R i).s.sz = _
    rw [run.sz_at i (Nat.le_of_lt hi)]; exact inv.size
  · rw [only_get] at hv
    split at hv
    · rename_i ht
      exact inv.asked run dr ho hn hc (List.mem_append_right _ ht) hv
    · cases hv
theorem Inv.actsBefore (dr : Drawn ops) (inv : Inv C ops base R V ρ0 H0 w0 ds D ρ a w H) (hn : ¬ D i) (hc : Comes ops D i) (hi : Acts ops i) {k : Nat} (hk : Acts ops k) : (D k → k < i) ∧ (k < i → D k) := by
  refine ⟨fun hD => ?_, fun h => dr.chain k i hk hi h D inv.closed hc⟩
  rcases Nat.lt_trichotomy k i with h | h | h
  · exact h
  · subst h; exact absurd hD hn
  · exact absurd (dr.chain i k hi hk h D inv.closed (inv.closed k hD)) hn
theorem Inv.heapIs (run : Run C call ops base R V) (dr : Drawn ops) (inv : Inv C ops base R V ρ0 H0 w0 ds D ρ a w H) (hn : ¬ D i) (hc : Comes ops D i) (hi : Acts ops i) : H = (R i).s.H := by
  have hlt : i < ops.size := by obtain ⟨o, ho, _⟩ := hi; exact (Array.getElem?_eq_some_iff.1 ho).1
  have ab := fun k (hk : Acts ops k) => inv.actsBefore dr hn hc hi hk
  refine inv.heap.one ?_
  rcases run.heap_at i (Nat.le_of_lt hlt) with ⟨j, h1, h2, h3, h4⟩ | ⟨h1, h2⟩
  · exact .inl ⟨j, (ab j h2).2 h1, h2, fun k hk hka => h3 k ((ab k hka).1 hk) hka, h4⟩
  · exact .inr ⟨fun k hk hka => h1 k ((ab k hka).1 hk) hka, h2⟩
/-- the blocks that an acting operation wants lie hidden -/
theorem Inv.wanted (run : Run C call ops base R V) (dr : Drawn ops) (inv : Inv C ops base R V ρ0 H0 w0 ds D ρ a w H) (hn : ¬ D i) (hc : Comes ops D i) (hi : Acts ops i) :
    ∀ e, e ∈ wantedBy (Region.before ops) i (R i).ps → ∃ A, e.1 = base + A ∧ D A ∧ ahead (Region.before ops) A i = true ∧ AllocAt C ops R A e.2 ∧ (∀ j, D j → Acts ops j → ahead (Region.before ops) A j = false) := by
  intro e he
  have hlt : i < ops.size := by obtain ⟨o, ho, _⟩ := hi; exact (Array.getElem?_eq_some_iff.1 ho).1
  obtain ⟨p, hp, ha, rfl⟩ := mem_wanted.1 he
  obtain ⟨h1, h2, h3, h4⟩ := (run.ps_at i (Nat.le_of_lt hlt)).2 p hp
  refine ⟨p.i, h2, ahead_in inv.closed hc ha, ha, h3, fun j hj hja => ?_⟩
  have hji := (inv.actsBefore dr hn hc hi hja).1 hj
  cases hx : ahead (Region.before ops) p.i j with
  | false => rfl
  | true => rw [h4 j hja (dr.lt hx) hji] at hx; cases hx

def And1 (D : Nat → Prop) (i : Nat) : Nat → Prop := fun j => j = i ∨ D j
theorem Inv.closed1 (inv : Inv C ops base R V ρ0 H0 w0 ds D ρ a w H) (hc : Comes ops D i) : Closed ops (And1 D i) := by
  rintro j (rfl | hj) o ho e he hb
  · exact .inr (hc o ho e he hb)
  · exact .inr (inv.closed j hj o ho e he hb)
/-- the frame and the set, once operation i is done -/
theorem Inv.slots1 (run : Run C call ops base R V) (dr : Drawn ops) (inv : Inv C ops base R V ρ0 H0 w0 ds D ρ a w H) (ho : ops[i]? = some o) (hn : ¬ D i) (hc : Comes ops D i) {ρ' : Place} {x : Value}
    (hle : ρ.le ρ') (hx : VR ρ' (V i) x) : ∀ t v, Cur ops R V (And1 D i) t v → VR ρ' v ((a.put o.dst x).tmps.getD t undef) := by
  have hi := (Array.getElem?_eq_some_iff.1 ho).1
  have hd : dstAt ops i = o.dst := by simp [dstAt, ho]
  intro t v hcur
  by_cases hdt : o.dst = some t
  · have hlt : t < a.tmps.size := by
      rw [← inv.size, ← run.sz_at i (Nat.le_of_lt hi)]; exact run.lt i o ho t hdt
    have hval : v = V i := by
      rcases hcur with ⟨j, hj, h2, h3, h4⟩ | ⟨h1, _⟩
      · have hij := h3 i (.inl rfl) (by rw [hd, hdt])
        rcases hj with rfl | hj
        · exact h4.symm
        · have := (inv.writers dr ho hn hc (t := t) (by simp [hdt]) h2).1 hj
          omega
      · exact absurd (by rw [hd, hdt]) (h1 i (.inl rfl))
    subst hval
    have : (a.put o.dst x).tmps.getD t undef = x := by
      simp [Act.put, hdt, Array.getD_eq_getD_getElem?, hlt]
    rw [this]; exact hx
  · have hsame : (a.put o.dst x).tmps.getD t undef = a.tmps.getD t undef := by
      cases hdd : o.dst with
      | none => rfl
      | some u =>
        have : u ≠ t := fun e => hdt (by rw [hdd, e])
        simp [Act.put, Array.getD_eq_getD_getElem?, this]
    rw [hsame]
    refine (inv.slots t v ?_).mono hle
    rcases hcur with ⟨j, hj, h2, h3, h4⟩ | ⟨h1, h2⟩
    · rcases hj with rfl | hj
      · rw [hd] at h2; exact absurd h2 hdt
      · exact .inl ⟨j, hj, h2, fun k hk hkd => h3 k (.inr hk) hkd, h4⟩
    · exact .inr ⟨fun k hk => h1 k (.inr hk), h2⟩
theorem put_size (a : Act) (d : Option Tmp) (x : Value) : (a.put d x).tmps.size = a.tmps.size := by cases d <;> simp [Act.put]
theorem put_defers (a : Act) (d : Option Tmp) (x : Value) : (a.put d x).defers = a.defers := by cases d <;> rfl

/-- an operation that lays no pending block -/
theorem Inv.turn (run : Run C call ops base R V) (dr : Drawn ops) (inv : Inv C ops base R V ρ0 H0 w0 ds D ρ a w H) (ho : ops[i]? = some o) (hn : ¬ D i) (hc : Comes ops D i)
    (hna : ∀ k, ¬ AllocAt C ops R i k) {L : List (Nat × Blk)}
    (hL : ∀ e, e ∈ L → ∃ A, e.1 = base + A ∧ D A ∧ (Acts ops i ∧ ahead (Region.before ops) A i = true) ∧ AllocAt C ops R A e.2 ∧ (∀ j, D j → Acts ops j → ahead (Region.before ops) A j = false))
    {ρ' : Place} {x : Value} {w' : World} {H' : Heap} (hx : VR ρ' (V i) x) (sm : Sim ρ' H' w') (st0 : Step ρ0 H0 w0 ρ (H.lay L) w) (st : Step ρ (H.lay L) w ρ' H' w') (hcur : CurH ops R (And1 D i) H') :
    Inv C ops base R V ρ0 H0 w0 ds (And1 D i) ρ' (a.put o.dst x) w' H' := by
  have hi := (Array.getElem?_eq_some_iff.1 ho).1
  have hnum : base + ops.size ≤ (H.lay L).n := by rw [lay_n]; exact inv.num
  have low : ∀ A, A < ops.size → ρ' (base + A) = ρ (base + A) := fun A hA => st.low _ (by omega)
  -- a pending block of then was one before, and is none of L's
  have was : ∀ A k, And1 D i A → AllocAt C ops R A k → (∀ j, And1 D i j → Acts ops j → ahead (Region.before ops) A j = false) →
      D A ∧ (∀ j, D j → Acts ops j → ahead (Region.before ops) A j = false) ∧ ∀ e, e ∈ L → e.1 ≠ base + A := by
    intro A k hA hk hu
    have hDA : D A := by
      rcases hA with rfl | hA
      · exact absurd hk (hna k)
      · exact hA
    refine ⟨hDA, fun j hj => hu j (.inr hj), fun e he heq => ?_⟩
    obtain ⟨A', h1, _, ⟨h3, h4⟩, _⟩ := hL e he
    have : A' = A := by omega
    subst this
    rw [hu i (.inl rfl) h3] at h4; cases h4
  refine ⟨?_, inv.closed1 hc, by rw [put_size]; exact inv.size, inv.slots1 run dr ho hn hc st.le hx, hcur, sm, st0.trans st, Nat.le_trans hnum st.num, ?_, ?_, ?_, by rw [put_defers]; exact inv.defers⟩
  · rintro j (rfl | hj)
    · exact hi
    · exact inv.inside j hj
  · intro A hA hlt
    rw [low A hlt]
    exact inv.undone A (fun h => hA (.inr h)) hlt
  · intro A k hA hk hu
    obtain ⟨h1, h2, h3⟩ := was A k hA hk hu
    obtain ⟨l, hl⟩ := inv.pend A k h1 hk h2
    have hAs : A < ops.size := inv.inside A h1
    have hoff : ∀ e, e ∈ (H.lay L).ents → ∀ l', ρ e.1 = some l' → l'.cb ≠ l.cb := by
      intro e he l' hl'
      rw [lay_ents] at he
      rcases List.mem_append.1 he with he | he
      · obtain ⟨A', g1, g2, g3, g4, g5⟩ := hL e he
        intro hcb
        have := inv.apart A' A e.2 k g2 h1 g4 hk g5 h2 l' l (by rw [← g1]; exact hl') hl.at_ hcb
        exact h3 e he (by rw [g1, this])
      · exact hl.off e he l' hl'
    have hrow : w'.heap[l.cb]? = w.heap[l.cb]? := st.keeps l.cb hl.in_ hoff
    refine ⟨l, by rw [low A hAs]; exact hl.at_, hl.new, Nat.lt_of_lt_of_le hl.in_ st.size, (hl.blk.same hrow).mono st.le, fun e he l' hl' hcb => ?_, fun hB => ?_⟩
    · rcases st.rows e he l' hl' with ⟨e0, he0, l0, hl0, hcb0⟩ | hge
      · exact hoff e0 he0 l0 hl0 (by rw [hcb0, hcb])
      · have := hl.in_; omega
    · rcases st.cold _ hB with h | ⟨e0, he0, l0, hl0, hcb0⟩ | hge
      · exact hl.free h
      · exact hoff e0 he0 l0 hl0 hcb0
      · have := hl.in_; omega
  · intro A A' k k' hA hA' hk hk' hu hu' l l' hl hl' hcb
    obtain ⟨h1, h2, _⟩ := was A k hA hk hu
    obtain ⟨g1, g2, _⟩ := was A' k' hA' hk' hu'
    rw [low A (inv.inside A h1)] at hl
    rw [low A' (inv.inside A' g1)] at hl'
    exact inv.apart A A' k k' h1 g1 hk hk' h2 g2 l l' hl hl' hcb
theorem Inv.heapStays (inv : Inv C ops base R V ρ0 H0 w0 ds D ρ a w H) (hna : ¬ Acts ops i) : CurH ops R (And1 D i) H := by
  rcases inv.heap with ⟨j, h1, h2, h3, h4⟩ | ⟨h1, h2⟩
  · refine .inl ⟨j, .inr h1, h2, fun k hk hka => ?_, h4⟩
    rcases hk with rfl | hk
    · exact absurd hka hna
    · exact h3 k hk hka
  · refine .inr ⟨fun k hk hka => ?_, h2⟩
    rcases hk with rfl | hk
    · exact hna hka
    · exact h1 k hk hka
theorem Inv.heapTurns (dr : Drawn ops) (inv : Inv C ops base R V ρ0 H0 w0 ds D ρ a w H) (hn : ¬ D i) (hc : Comes ops D i) (hi : Acts ops i) : CurH ops R (And1 D i) (R (i + 1)).s.H := by
  refine .inl ⟨i, .inl rfl, hi, fun k hk hka => ?_, rfl⟩
  rcases hk with rfl | hk
  · exact Nat.le_refl _
  · exact Nat.le_of_lt ((inv.actsBefore dr hn hc hi hka).1 hk)
/-- an operation that lays a pending block -/
theorem Inv.allocs (run : Run C call ops base R V) (dr : Drawn ops) (hbase : H0.n = base) (inv : Inv C ops base R V ρ0 H0 w0 ds D ρ a w H) (ho : ops[i]? = some o) (hn : ¬ D i) (hc : Comes ops D i)
    {k : (Nat → AV) × Blk} (hk : AllocAt C ops R i k.2) {ob : Obj} {fin : Nat} {x : Value} (hx : VR (ρ.upd (base + i) ⟨w.heap.size, 0, fin⟩) (V i) x)
    (hb : BlkR (ρ.upd (base + i) ⟨w.heap.size, 0, fin⟩) (w.alloc ob) ⟨w.heap.size, 0, fin⟩ k.2) :
    Inv C ops base R V ρ0 H0 w0 ds (And1 D i) (ρ.upd (base + i) ⟨w.heap.size, 0, fin⟩) (a.put o.dst x) (w.alloc ob) H := by
  have hi := (Array.getElem?_eq_some_iff.1 ho).1
  have hnone : ρ (base + i) = none := inv.undone i hn hi
  have hle : ρ.le (ρ.upd (base + i) ⟨w.heap.size, 0, fin⟩) := Place.le_upd hnone
  have hcell : ∀ k, k < w.heap.size → (w.alloc ob).heap[k]? = w.heap[k]? := fun k hk => Below.heap_alloc w ob k hk
  have hsize : (w.alloc ob).heap.size = w.heap.size + 1 := by simp
  have hne : ∀ e, e ∈ H.ents → e.1 ≠ base + i := fun e hm hx => by obtain ⟨l, hl, _⟩ := inv.sim.live e hm; rw [hx, hnone] at hl; cases hl
  have hDi : ∀ A, And1 D i A → A ≠ i → D A := fun A hA h => hA.resolve_left h
  have hAcur : ∀ A l, (ρ.upd (base + i) ⟨w.heap.size, 0, fin⟩) (base + A) = some l → A = i ∧ l = ⟨w.heap.size, 0, fin⟩ ∨ A ≠ i ∧ ρ (base + A) = some l := fun A l h => by
    by_cases hA : A = i
    · subst hA; rw [Place.upd_same] at h; cases h; exact .inl ⟨rfl, rfl⟩
    · rw [Place.upd_other (by omega)] at h; exact .inr ⟨hA, h⟩
  refine ⟨?_, inv.closed1 hc, by rw [put_size]; exact inv.size, inv.slots1 run dr ho hn hc hle hx, inv.heapStays hk.notActs, ?_, ?_, inv.num, ?_, ?_, ?_, by rw [put_defers]; exact inv.defers⟩
  · rintro j (rfl | hj)
    · exact hi
    · exact inv.inside j hj
  · refine ⟨fun k hk => by rw [hsize]; exact Nat.lt_succ_of_lt (inv.sim.base k hk), fun k hk => ?_, inv.sim.os, inv.sim.tape, inv.sim.output, fun b hb => ?_, inv.sim.nodup, fun e he => ?_, fun e e' he he' l l' hl hl' hcb => ?_⟩
    · rw [hcell k (inv.sim.base k hk)]; exact inv.sim.below k hk
    · have := inv.num
      rw [Place.upd_other (by omega)]; exact inv.sim.dom b hb
    · obtain ⟨l, h1, h2, h3, h4⟩ := inv.sim.live e he
      exact ⟨l, hle _ _ h1, h2, by omega, (h4.same (hcell _ h3)).mono hle⟩
    · rw [Place.upd_other (hne e he)] at hl
      rw [Place.upd_other (hne e' he')] at hl'
      exact inv.sim.inj e e' he he' l l' hl hl' hcb
  · have st := inv.step
    refine ⟨Place.le_trans st.le hle, by have := st.size; omega, fun k hk hnk => ?_, fun e he l hl => ?_, st.num, fun b hb => ?_, st.cold⟩
    · rw [hcell k (Nat.lt_of_lt_of_le hk st.size)]; exact st.keeps k hk hnk
    · rw [Place.upd_other (hne e he)] at hl
      exact st.rows e he l hl
    · rw [Place.upd_other (by omega)]; exact st.low b hb
  · intro A hA hlt
    have hAi : A ≠ i := fun e => hA (.inl e)
    rw [Place.upd_other (by omega)]
    exact inv.undone A (fun h => hA (.inr h)) hlt
  · intro A k' hA hk' hu
    by_cases hAi : A = i
    · subst hAi
      have := hk.one hk'
      subst this
      refine ⟨_, Place.upd_same, inv.step.size, by simp, hb, fun e he l' hl' => ?_, fun hB => absurd (inv.sim.base _ hB) (Nat.lt_irrefl _)⟩
      rw [Place.upd_other (hne e he)] at hl'
      obtain ⟨m, h1, _, h3, _⟩ := inv.sim.live e he
      rw [hl'] at h1; cases h1
      show l'.cb ≠ w.heap.size
      omega
    · obtain ⟨l, hl⟩ := inv.pend A k' (hDi A hA hAi) hk' fun j hj => hu j (.inr hj)
      refine ⟨l, hle _ _ hl.at_, hl.new, by have := hl.in_; omega, (hl.blk.same (hcell _ hl.in_)).mono hle, fun e he l' hl' => ?_, hl.free⟩
      rw [Place.upd_other (hne e he)] at hl'
      exact hl.off e he l' hl'
  · intro A A' k1 k2 hA hA' h1 h2 hu hu' l l' hl hl' hcb
    rcases hAcur A l hl with ⟨rfl, rfl⟩ | ⟨hAi, hl2⟩ <;> rcases hAcur A' l' hl' with ⟨rfl, rfl⟩ | ⟨hAi', hl2'⟩
    · rfl
    · obtain ⟨m, hm⟩ := inv.pend A' k2 (hDi A' hA' hAi') h2 fun j hj => hu' j (.inr hj)
      have := hm.at_
      rw [hl2'] at this; cases this
      have := hm.in_
      simp only at hcb
      omega
    · obtain ⟨m, hm⟩ := inv.pend A k1 (hDi A hA hAi) h1 fun j hj => hu j (.inr hj)
      have := hm.at_
      rw [hl2] at this; cases this
      have := hm.in_
      simp only at hcb
      omega
    · exact inv.apart A A' k1 k2 (hDi A hA hAi) (hDi A' hA' hAi') h1 h2 (fun j hj => hu j (.inr hj)) (fun j hj => hu' j (.inr hj)) l l' hl2 hl2' hcb
end
end
end Go.Proofs.Ytpkplilgjdbhhaa
